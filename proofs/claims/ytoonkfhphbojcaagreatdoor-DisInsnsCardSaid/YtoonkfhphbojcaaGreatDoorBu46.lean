/- The walk of the document's ReadInsn. The walk of DisInsns. -/
import Derived.Test.YtoonkfhphbojcaaGreatDoorBu33
import Derived.Test.YtoonkfhphbojcaaGreatDoorBu29
import Derived.Test.YtoonkfhphbojcaaGreatDoorBu25
import Derived.Test.YtoonkfhphbojcaaGreatDoorBu22
import Derived.Test.YtoonkfhphbojcaaGreatDoorBu45
import Derived.Test.YtoonkfhphbojcaaGreatDoorBu32
namespace Go.Proofs.YtoonkfhphbojcaaGreatDoor
open Go.RowKit Go.Maps
theorem bs_empty (l : BL) : (bsOf l).toList.isEmpty = decide (l = []) := by
  rw [ByteArray.toList_eq, bsOf_list]
  cases l <;> rfl
theorem stR_bd {op : Int} {ps : List BL} {n : Nat} (hp : ∀ p ∈ ps, p.length ≤ n) : ∀ (k : Nat) (x : GIns) (imm : BL) (j : Nat), stR op ps k = some ((x, imm), j) → x.op = op ∧ (0 ≤ x.d ∧ x.d ≤ 16) ∧ (0 ≤ x.a ∧ x.a ≤ 16) ∧ (0 ≤ x.b ∧ x.b ≤ 16) ∧ x.imm = 0 ∧ imm.length ≤ n
  | 0, x, imm, j, h => by simp only [stR] at h; cases h; simp
  | k + 1, x, imm, j, h => by
    simp only [stR] at h
    cases hs : stR op ps k with
    | none => rw [hs] at h; cases h
    | some q =>
      obtain ⟨⟨y, im⟩, m⟩ := q
      rw [hs] at h
      have ih := stR_bd hp k y im m hs
      simp only [] at h
      split at h
      · split at h
        · rename_i hm
          have hw : (ps.getD m []).length ≤ n := hp _ (by simp [List.getD, hm])
          have hr := regR_le (ps.getD m [])
          match k, h with
          | 0, h => simp only [setR] at h; cases h; exact ⟨ih.1, ⟨Int.natCast_nonneg _, by show ((regR (ps.getD m []) : Nat) : Int) ≤ 16; omega⟩, ih.2.2.1, ih.2.2.2.1, ih.2.2.2.2.1, ih.2.2.2.2.2⟩
          | 1, h => simp only [setR] at h; cases h; exact ⟨ih.1, ih.2.1, ⟨Int.natCast_nonneg _, by show ((regR (ps.getD m []) : Nat) : Int) ≤ 16; omega⟩, ih.2.2.2.1, ih.2.2.2.2.1, ih.2.2.2.2.2⟩
          | 2, h => simp only [setR] at h; cases h; exact ⟨ih.1, ih.2.1, ih.2.2.1, ⟨Int.natCast_nonneg _, by show ((regR (ps.getD m []) : Nat) : Int) ≤ 16; omega⟩, ih.2.2.2.2.1, ih.2.2.2.2.2⟩
          | k + 3, h => simp only [setR] at h; cases h; exact ⟨ih.1, ih.2.1, ih.2.2.1, ih.2.2.2.1, ih.2.2.2.2.1, hw⟩
        · cases h
      · cases h; exact ih
theorem parsedR_bd {ps : List BL} {n : Nat} (hp : ∀ p ∈ ps, p.length ≤ n) : (0 ≤ (parsedR ps).1.op ∧ (parsedR ps).1.op ≤ 255) ∧ (0 ≤ (parsedR ps).1.d ∧ (parsedR ps).1.d ≤ 16) ∧ (0 ≤ (parsedR ps).1.a ∧ (parsedR ps).1.a ≤ 16) ∧ (0 ≤ (parsedR ps).1.b ∧ (parsedR ps).1.b ≤ 16) ∧ (parsedR ps).1.imm = 0 ∧ (parsedR ps).2.1.length ≤ n := by
  unfold parsedR
  split
  · simp [ins0]
  · rename_i op ho
    have hop := opOf_bd ho
    split
    · simp [ins0]
    · rename_i x imm j hst
      obtain ⟨h1, h2⟩ := stR_bd hp 4 x imm j hst
      exact ⟨by rw [h1]; omega, h2⟩
set_option maxHeartbeats 4000000 in
set_option maxRecDepth 100000 in
theorem rreadInsn33 (s : BL) (w : World) (hs : s.length ≤ 1000000) :
    Calls Tryz.prog 11 #[.string (bsOf s)] w fun e w' => e = .returned (readInsnV (readInsnL s)) ∧ Below w.heap.size w w' := by
  rw [← readInsn_same]
  have HB1 : Hid (Below w.heap.size w (w.alloc (.cells (insA ins0) 24))) := alloc_old w _
  have hX1 : (w.alloc (.cells (insA ins0) 24)).heap[w.heap.size]? = some (.cells (insA ins0) 24 (0, 0)) := new_block w _
  have HPR := Lib.hid (rparsed33 s (w.alloc (.cells (insA ins0) 24)) hs)
  have hbd := parsedR_bd (ps := cutAt 32 s) (n := s.length) (cutAt_len 32 s).2
  have HBD : Hid (∀ W, (Instr.build 24 #[]).run Tryz.prog W = .ok (.agg #[.int .u8 0, .int .u8 0, .int .u8 0, .int .u8 0, .int .u32 0]) W) := Lib.hid fun W => run_build W 24 #[] #[.int .u8 0, .int .u8 0, .int .u8 0, .int .u8 0, .int .u32 0] (by kernel_rfl)
  have HDEF : Hid (readInsnR s = if (readX (parsedR (cutAt 32 s))).2 && insOk (readX (parsedR (cutAt 32 s))).1 && decide (toldL (readX (parsedR (cutAt 32 s))).1 (decD (readX (parsedR (cutAt 32 s))).1.imm.toNat) = s) then some (readX (parsedR (cutAt 32 s))).1 else none) := Lib.hid rfl
  generalize readInsnR s = res at HDEF ⊢
  generalize parsedR (cutAt 32 s) = r at HPR hbd HDEF
  obtain ⟨⟨xo, xd, xa, xc, xi⟩, imm, is⟩ := r
  unfold parsRV insV at HPR
  simp only [] at hbd HPR
  obtain ⟨⟨o0, o1⟩, ⟨d0, d1⟩, ⟨a0, a1⟩, ⟨b0, b1⟩, hi0, him⟩ := hbd
  subst hi0
  go_enter Tryz.func11, Tryz.ntmps11
  go_upto_region 1 with fail
  change Code.wp _ _ _ _ (w.alloc (.cells (insA ins0) 24))
  have hz1 : w.heap.size < (w.alloc (.cells (insA ins0) 24)).heap.size := by simp
  generalize (w.alloc (.cells (insA ins0) 24)) = w1 at *
  obtain ⟨rb, hrb⟩ : ∃ rb, rb = w.heap.size := ⟨_, rfl⟩
  rw [show (Value.pointer (some ⟨w.heap.size, 0, none⟩)) = .pointer (some ⟨rb, 0, none⟩) by rw [hrb]]
  rw [← hrb] at hX1 hz1
  have HRB := Lib.hid hrb
  clear hrb
  go_wp2_with fail
  refine HPR.out.mono ?_
  rintro e w2 ⟨rfl, hB2⟩
  go_upto_region 2 with fail
  change Code.wp _ _ _ _ (w2.alloc (.cells (insA ⟨xo, xd, xa, xc, 0⟩) 24))
  have hX3 : (w2.alloc (.cells (insA ⟨xo, xd, xa, xc, 0⟩) 24)).heap[w2.heap.size]? = some (.cells (insA ⟨xo, xd, xa, xc, 0⟩) 24 (0, 0)) := new_block w2 _
  have hR3 : (w2.alloc (.cells (insA ⟨xo, xd, xa, xc, 0⟩) 24)).heap[rb]? = some (.cells (insA ins0) 24 (0, 0)) := (Below.heap_alloc _ _ _ (size_keep hB2 hz1)).trans ((hB2.block rb hz1).trans hX1)
  have HB3 := Lib.hid ((HB1.out.trans (hB2.mono HB1.out.size)).alloc (by have := HB1.out.size; have := hB2.size; omega) (.cells (insA ⟨xo, xd, xa, xc, 0⟩) 24))
  have hxr : rb < w2.heap.size := size_keep hB2 hz1
  clear hX1 hB2 HB1 HPR hz1
  generalize (w2.alloc (.cells (insA ⟨xo, xd, xa, xc, 0⟩) 24)) = w3 at *
  generalize w2.heap.size = xb at *
  have HXR := Lib.hid hxr
  clear hxr
  obtain ⟨bb, hbb⟩ : ∃ bb, decide (imm = []) = bb := ⟨_, rfl⟩
  have hne : (bsOf imm).toList.isEmpty = bb := by rw [bs_empty]; exact hbb
  have HBB := Lib.hid hbb
  clear hbb
  go_upto_if 18 with fail
  go_cut [6] (fun v6 wy => ∃ (y : Int) (b : Bool), v6 = .bool b ∧ 0 ≤ y ∧ y ≤ 4294967295 ∧ readX (⟨xo, xd, xa, xc, 0⟩, imm, is) = (⟨xo, xd, xa, xc, y⟩, b) ∧ wy.heap[xb]? = some (.cells (insA ⟨xo, xd, xa, xc, y⟩) 24 (0, 0)) ∧ wy.heap[rb]? = some (.cells (insA ins0) 24 (0, 0)) ∧ Below w.heap.size w wy)
  case first =>
    cases bb with
    | true =>
      have hm : imm = [] := by simpa using HBB.out
      subst hm
      have HRX : Hid (readX (⟨xo, xd, xa, xc, 0⟩, [], is) = (⟨xo, xd, xa, xc, 0⟩, is)) := Lib.hid rfl
      go_wp2
      go_meet
      exact ⟨0, is, rfl, by omega, by omega, HRX.out, hX3, hR3, HB3.out⟩
    | false =>
      have hm : ¬ imm = [] := by simpa using HBB.out
      have HN := Lib.hid (rnumber33 imm w3)
      have hlt := numR_lt imm
      unfold numRV at HN
      have HRX : Hid (readX (⟨xo, xd, xa, xc, 0⟩, imm, is) = (⟨xo, xd, xa, xc, (numR imm).1⟩, is && (numR imm).2)) := Lib.hid (by unfold readX; simp only [if_neg hm])
      generalize (numR imm).1 = n at *
      generalize (numR imm).2 = nb at *
      go_wp2_with fail
      refine HN.out.mono ?_
      rintro e w4 ⟨rfl, hB4⟩
      have hX4 : w4.heap[xb]? = some (.cells (insA ⟨xo, xd, xa, xc, 0⟩) 24 (0, 0)) := (hB4.block xb (Array.getElem?_eq_some_iff.1 hX3).1).trans hX3
      have hR4 : w4.heap[rb]? = some (.cells (insA ins0) 24 (0, 0)) := (hB4.block rb (Array.getElem?_eq_some_iff.1 hR3).1).trans hR3
      have hx5 : (w4.setCell ⟨xb, 4, none⟩ (.int .u32 n)).heap[xb]? = some (.cells (insA ⟨xo, xd, xa, xc, n⟩) 24 (0, 0)) := set33 hX4 4 _
      have hr5 : (w4.setCell ⟨xb, 4, none⟩ (.int .u32 n)).heap[rb]? = some (.cells (insA ins0) 24 (0, 0)) := (Below.heap_setCell _ _ _ _ (by have := HXR.out; simp; omega)).trans hR4
      have HB5 : Hid (Below w.heap.size w (w4.setCell ⟨xb, 4, none⟩ (.int .u32 n))) := Lib.hid ((HB3.out.trans (hB4.mono HB3.out.size)).setCell (p := ⟨xb, 4, none⟩) (by have := HXR.out; have := HRB.out; simp; omega) _)
      have z4 : w4.cell? ⟨xb, 4, none⟩ = some (.int .u32 0) := Lib.cell_of_heap hX4 4
      have f4 := Lib.frozen_of_heap hX4 4
      have HX5 := Lib.hid hx5
      have HR5 := Lib.hid hr5
      clear hx5 hr5 hX4 hR4 hX3 hR3 hB4
      cases is with
      | false =>
        go_wp2
        go_meet
        exact ⟨n, false, rfl, by omega, by omega, HRX.out, HX5.out, HR5.out, HB5.out⟩
      | true =>
        go_wp2
        go_meet
        exact ⟨n, nb, rfl, by omega, by omega, HRX.out, HX5.out, HR5.out, HB5.out⟩
  case rest =>
    obtain ⟨y, b, rfl, hy0, hy1, hrx, hx, hr, hB⟩ := hcut
    obtain ⟨w5, hw5⟩ : ∃ w5, w5 = wc := ⟨_, rfl⟩
    rw [← hw5] at hx hr hB ⊢
    clear hw5 hX3 hR3
    rw [hrx] at HDEF
    simp only [] at HDEF
    have HB := Lib.hid hB
    have HX := Lib.hid hx
    have HR := Lib.hid hr
    have HIN := Lib.hid (rInsn33 ⟨xo, xd, xa, xc, y⟩ w5 ⟨⟨o0, o1⟩, ⟨d0, by show xd ≤ 255; omega⟩, ⟨a0, by show xa ≤ 255; omega⟩, ⟨b0, by show xc ≤ 255; omega⟩, ⟨hy0, hy1⟩⟩)
    unfold insV at HIN
    simp only [] at HIN
    clear hB hx hr hrx HB3
    have z0 : w5.cell? ⟨xb, 0, none⟩ = some (.int .u8 xo) := Lib.cell_of_heap HX.out 0
    have z1 : w5.cell? ⟨xb, 1, none⟩ = some (.int .u8 xd) := Lib.cell_of_heap HX.out 1
    have z2 : w5.cell? ⟨xb, 2, none⟩ = some (.int .u8 xa) := Lib.cell_of_heap HX.out 2
    have z3 : w5.cell? ⟨xb, 3, none⟩ = some (.int .u8 xc) := Lib.cell_of_heap HX.out 3
    have z4 : w5.cell? ⟨xb, 4, none⟩ = some (.int .u32 y) := Lib.cell_of_heap HX.out 4
    generalize hok : insOk ⟨xo, xd, xa, xc, y⟩ = ok at HIN HDEF
    have HOK := Lib.hid hok; clear hok
    generalize toldL ⟨xo, xd, xa, xc, y⟩ (decD y.toNat) = tt at HIN HDEF
    have hcs : (b = true ∧ ok = true ∧ tt = s) ∨ (b = false ∧ ok = false) ∨ (b = false ∧ ok = true) ∨ (b = true ∧ ok = false) ∨ (b = true ∧ ok = true ∧ ¬ tt = s) := by
      cases b <;> cases ok <;> by_cases h : tt = s <;> simp [h]
    rcases hcs with ⟨rfl, rfl, hts⟩ | ⟨rfl, rfl⟩ | ⟨rfl, rfl⟩ | ⟨rfl, rfl⟩ | ⟨rfl, rfl, hts⟩
    · have HRS : Hid (res = some ⟨xo, xd, xa, xc, y⟩) := Lib.hid (by rw [HDEF.out]; simp [hts])
      rw [hts] at HIN
      clear HDEF hts
      simp only [if_true] at HIN
      go_wp2_with fail
      refine HIN.out.mono ?_
      rintro e w6 ⟨rfl, hB6⟩
      have hx6 : w6.heap[xb]? = some (.cells (insA ⟨xo, xd, xa, xc, y⟩) 24 (0, 0)) := (hB6.block xb (Array.getElem?_eq_some_iff.1 HX.out).1).trans HX.out
      have hr9 : w6.heap[rb]? = some (.cells (insA ins0) 24 (0, 0)) := (hB6.block rb (Array.getElem?_eq_some_iff.1 HR.out).1).trans HR.out
      have HB6 := Lib.hid (HB.out.trans (hB6.mono HB.out.size))
      clear hB6 z0 z1 z2 z3 z4
      have z0 : w6.cell? ⟨xb, 0, none⟩ = some (.int .u8 xo) := Lib.cell_of_heap hx6 0
      have z1 : w6.cell? ⟨xb, 1, none⟩ = some (.int .u8 xd) := Lib.cell_of_heap hx6 1
      have z2 : w6.cell? ⟨xb, 2, none⟩ = some (.int .u8 xa) := Lib.cell_of_heap hx6 2
      have z3 : w6.cell? ⟨xb, 3, none⟩ = some (.int .u8 xc) := Lib.cell_of_heap hx6 3
      have z4 : w6.cell? ⟨xb, 4, none⟩ = some (.int .u32 y) := Lib.cell_of_heap hx6 4
      have y0 : w6.cell? ⟨rb, 0, none⟩ = some (.int .u8 0) := Lib.cell_of_heap hr9 0
      have f0 := Lib.frozen_of_heap hr9 0
      have y1 : w6.cell? ⟨rb, 1, none⟩ = some (.int .u8 0) := Lib.cell_of_heap hr9 1
      have f1 := Lib.frozen_of_heap hr9 1
      have y2 : w6.cell? ⟨rb, 2, none⟩ = some (.int .u8 0) := Lib.cell_of_heap hr9 2
      have f2 := Lib.frozen_of_heap hr9 2
      have y3 : w6.cell? ⟨rb, 3, none⟩ = some (.int .u8 0) := Lib.cell_of_heap hr9 3
      have f3 := Lib.frozen_of_heap hr9 3
      have y4 : w6.cell? ⟨rb, 4, none⟩ = some (.int .u32 0) := Lib.cell_of_heap hr9 4
      have f4 := Lib.frozen_of_heap hr9 4
      have hr10 : (insSet w6 rb ⟨xo, xd, xa, xc, y⟩).heap[rb]? = some (.cells (insA ⟨xo, xd, xa, xc, y⟩) 24 (0, 0)) := insSet_heap hr9
      have hB10 : Below w.heap.size w (insSet w6 rb ⟨xo, xd, xa, xc, y⟩) := insSet_below HB6.out (by rw [HRB.out]; exact Nat.le_refl _)
      have HX10 := Lib.hid hx6
      clear hx6
      go_wp2
      change bodyPost _ _ _ _ _ (insSet w6 rb ⟨xo, xd, xa, xc, y⟩)
      generalize (insSet w6 rb ⟨xo, xd, xa, xc, y⟩) = w10 at *
      clear y0 y1 y2 y3 y4 f0 f1 f2 f3 f4 hr9 z0 z1 z2 z3 z4
      have z0 : w10.cell? ⟨rb, 0, none⟩ = some (.int .u8 xo) := Lib.cell_of_heap hr10 0
      have z1 : w10.cell? ⟨rb, 1, none⟩ = some (.int .u8 xd) := Lib.cell_of_heap hr10 1
      have z2 : w10.cell? ⟨rb, 2, none⟩ = some (.int .u8 xa) := Lib.cell_of_heap hr10 2
      have z3 : w10.cell? ⟨rb, 3, none⟩ = some (.int .u8 xc) := Lib.cell_of_heap hr10 3
      have z4 : w10.cell? ⟨rb, 4, none⟩ = some (.int .u32 y) := Lib.cell_of_heap hr10 4
      exact bodyPost_ret (v := .tuple #[.agg #[.int .u8 xo, .int .u8 xd, .int .u8 xa, .int .u8 xc, .int .u32 y], .int .i64 0]) (by simp [results, Tryz.results11, go_sem, z0, z1, z2, z3, z4]) rfl ⟨by rw [HRS.out]; rfl, hB10⟩
    · have HRS : Hid (res = none) := Lib.hid (by rw [HDEF.out]; simp)
      clear HDEF
      simp only [Bool.false_eq_true, if_false] at HIN
      go_wp2_with fail
      refine HIN.out.mono ?_
      rintro e w6 ⟨rfl, hB6⟩
      have hx6 : w6.heap[xb]? = some (.cells (insA ⟨xo, xd, xa, xc, y⟩) 24 (0, 0)) := (hB6.block xb (Array.getElem?_eq_some_iff.1 HX.out).1).trans HX.out
      have hr9 : w6.heap[rb]? = some (.cells (insA ins0) 24 (0, 0)) := (hB6.block rb (Array.getElem?_eq_some_iff.1 HR.out).1).trans HR.out
      have HB6 := Lib.hid (HB.out.trans (hB6.mono HB.out.size))
      clear hB6 z0 z1 z2 z3 z4
      have hbd := HBD.out
      have y0 : w6.cell? ⟨rb, 0, none⟩ = some (.int .u8 0) := Lib.cell_of_heap hr9 0
      have f0 := Lib.frozen_of_heap hr9 0
      have y1 : w6.cell? ⟨rb, 1, none⟩ = some (.int .u8 0) := Lib.cell_of_heap hr9 1
      have f1 := Lib.frozen_of_heap hr9 1
      have y2 : w6.cell? ⟨rb, 2, none⟩ = some (.int .u8 0) := Lib.cell_of_heap hr9 2
      have f2 := Lib.frozen_of_heap hr9 2
      have y3 : w6.cell? ⟨rb, 3, none⟩ = some (.int .u8 0) := Lib.cell_of_heap hr9 3
      have f3 := Lib.frozen_of_heap hr9 3
      have y4 : w6.cell? ⟨rb, 4, none⟩ = some (.int .u32 0) := Lib.cell_of_heap hr9 4
      have f4 := Lib.frozen_of_heap hr9 4
      have hr10 : (insSet w6 rb ins0).heap[rb]? = some (.cells (insA ins0) 24 (0, 0)) := insSet_heap hr9
      have hB10 : Below w.heap.size w (insSet w6 rb ins0) := insSet_below HB6.out (by rw [HRB.out]; exact Nat.le_refl _)
      have HX10 := Lib.hid hx6
      clear hx6
      go_wp2
      change bodyPost _ _ _ _ _ (insSet w6 rb ins0)
      generalize (insSet w6 rb ins0) = w10 at *
      clear y0 y1 y2 y3 y4 f0 f1 f2 f3 f4 hr9
      have z0 : w10.cell? ⟨rb, 0, none⟩ = some (.int .u8 0) := Lib.cell_of_heap hr10 0
      have z1 : w10.cell? ⟨rb, 1, none⟩ = some (.int .u8 0) := Lib.cell_of_heap hr10 1
      have z2 : w10.cell? ⟨rb, 2, none⟩ = some (.int .u8 0) := Lib.cell_of_heap hr10 2
      have z3 : w10.cell? ⟨rb, 3, none⟩ = some (.int .u8 0) := Lib.cell_of_heap hr10 3
      have z4 : w10.cell? ⟨rb, 4, none⟩ = some (.int .u32 0) := Lib.cell_of_heap hr10 4
      exact bodyPost_ret (v := .tuple #[.agg #[.int .u8 0, .int .u8 0, .int .u8 0, .int .u8 0, .int .u32 0], .int .i64 7]) (by simp [results, Tryz.results11, go_sem, z0, z1, z2, z3, z4]) rfl ⟨by rw [HRS.out]; rfl, hB10⟩
    · have HRS : Hid (res = none) := Lib.hid (by rw [HDEF.out]; simp)
      clear HDEF
      simp only [if_true] at HIN
      go_wp2_with fail
      refine HIN.out.mono ?_
      rintro e w6 ⟨rfl, hB6⟩
      have hx6 : w6.heap[xb]? = some (.cells (insA ⟨xo, xd, xa, xc, y⟩) 24 (0, 0)) := (hB6.block xb (Array.getElem?_eq_some_iff.1 HX.out).1).trans HX.out
      have hr9 : w6.heap[rb]? = some (.cells (insA ins0) 24 (0, 0)) := (hB6.block rb (Array.getElem?_eq_some_iff.1 HR.out).1).trans HR.out
      have HB6 := Lib.hid (HB.out.trans (hB6.mono HB.out.size))
      clear hB6 z0 z1 z2 z3 z4
      have hbd := HBD.out
      have y0 : w6.cell? ⟨rb, 0, none⟩ = some (.int .u8 0) := Lib.cell_of_heap hr9 0
      have f0 := Lib.frozen_of_heap hr9 0
      have y1 : w6.cell? ⟨rb, 1, none⟩ = some (.int .u8 0) := Lib.cell_of_heap hr9 1
      have f1 := Lib.frozen_of_heap hr9 1
      have y2 : w6.cell? ⟨rb, 2, none⟩ = some (.int .u8 0) := Lib.cell_of_heap hr9 2
      have f2 := Lib.frozen_of_heap hr9 2
      have y3 : w6.cell? ⟨rb, 3, none⟩ = some (.int .u8 0) := Lib.cell_of_heap hr9 3
      have f3 := Lib.frozen_of_heap hr9 3
      have y4 : w6.cell? ⟨rb, 4, none⟩ = some (.int .u32 0) := Lib.cell_of_heap hr9 4
      have f4 := Lib.frozen_of_heap hr9 4
      have hr10 : (insSet w6 rb ins0).heap[rb]? = some (.cells (insA ins0) 24 (0, 0)) := insSet_heap hr9
      have hB10 : Below w.heap.size w (insSet w6 rb ins0) := insSet_below HB6.out (by rw [HRB.out]; exact Nat.le_refl _)
      have HX10 := Lib.hid hx6
      clear hx6
      go_wp2
      change bodyPost _ _ _ _ _ (insSet w6 rb ins0)
      generalize (insSet w6 rb ins0) = w10 at *
      clear y0 y1 y2 y3 y4 f0 f1 f2 f3 f4 hr9
      have z0 : w10.cell? ⟨rb, 0, none⟩ = some (.int .u8 0) := Lib.cell_of_heap hr10 0
      have z1 : w10.cell? ⟨rb, 1, none⟩ = some (.int .u8 0) := Lib.cell_of_heap hr10 1
      have z2 : w10.cell? ⟨rb, 2, none⟩ = some (.int .u8 0) := Lib.cell_of_heap hr10 2
      have z3 : w10.cell? ⟨rb, 3, none⟩ = some (.int .u8 0) := Lib.cell_of_heap hr10 3
      have z4 : w10.cell? ⟨rb, 4, none⟩ = some (.int .u32 0) := Lib.cell_of_heap hr10 4
      exact bodyPost_ret (v := .tuple #[.agg #[.int .u8 0, .int .u8 0, .int .u8 0, .int .u8 0, .int .u32 0], .int .i64 7]) (by simp [results, Tryz.results11, go_sem, z0, z1, z2, z3, z4]) rfl ⟨by rw [HRS.out]; rfl, hB10⟩
    · have HRS : Hid (res = none) := Lib.hid (by rw [HDEF.out]; simp)
      clear HDEF
      simp only [Bool.false_eq_true, if_false] at HIN
      go_wp2_with fail
      refine HIN.out.mono ?_
      rintro e w6 ⟨rfl, hB6⟩
      have hx6 : w6.heap[xb]? = some (.cells (insA ⟨xo, xd, xa, xc, y⟩) 24 (0, 0)) := (hB6.block xb (Array.getElem?_eq_some_iff.1 HX.out).1).trans HX.out
      have hr9 : w6.heap[rb]? = some (.cells (insA ins0) 24 (0, 0)) := (hB6.block rb (Array.getElem?_eq_some_iff.1 HR.out).1).trans HR.out
      have HB6 := Lib.hid (HB.out.trans (hB6.mono HB.out.size))
      clear hB6 z0 z1 z2 z3 z4
      have hbd := HBD.out
      have y0 : w6.cell? ⟨rb, 0, none⟩ = some (.int .u8 0) := Lib.cell_of_heap hr9 0
      have f0 := Lib.frozen_of_heap hr9 0
      have y1 : w6.cell? ⟨rb, 1, none⟩ = some (.int .u8 0) := Lib.cell_of_heap hr9 1
      have f1 := Lib.frozen_of_heap hr9 1
      have y2 : w6.cell? ⟨rb, 2, none⟩ = some (.int .u8 0) := Lib.cell_of_heap hr9 2
      have f2 := Lib.frozen_of_heap hr9 2
      have y3 : w6.cell? ⟨rb, 3, none⟩ = some (.int .u8 0) := Lib.cell_of_heap hr9 3
      have f3 := Lib.frozen_of_heap hr9 3
      have y4 : w6.cell? ⟨rb, 4, none⟩ = some (.int .u32 0) := Lib.cell_of_heap hr9 4
      have f4 := Lib.frozen_of_heap hr9 4
      have hr10 : (insSet w6 rb ins0).heap[rb]? = some (.cells (insA ins0) 24 (0, 0)) := insSet_heap hr9
      have hB10 : Below w.heap.size w (insSet w6 rb ins0) := insSet_below HB6.out (by rw [HRB.out]; exact Nat.le_refl _)
      have HX10 := Lib.hid hx6
      clear hx6
      go_wp2
      change bodyPost _ _ _ _ _ (insSet w6 rb ins0)
      generalize (insSet w6 rb ins0) = w10 at *
      clear y0 y1 y2 y3 y4 f0 f1 f2 f3 f4 hr9
      have z0 : w10.cell? ⟨rb, 0, none⟩ = some (.int .u8 0) := Lib.cell_of_heap hr10 0
      have z1 : w10.cell? ⟨rb, 1, none⟩ = some (.int .u8 0) := Lib.cell_of_heap hr10 1
      have z2 : w10.cell? ⟨rb, 2, none⟩ = some (.int .u8 0) := Lib.cell_of_heap hr10 2
      have z3 : w10.cell? ⟨rb, 3, none⟩ = some (.int .u8 0) := Lib.cell_of_heap hr10 3
      have z4 : w10.cell? ⟨rb, 4, none⟩ = some (.int .u32 0) := Lib.cell_of_heap hr10 4
      exact bodyPost_ret (v := .tuple #[.agg #[.int .u8 0, .int .u8 0, .int .u8 0, .int .u8 0, .int .u32 0], .int .i64 7]) (by simp [results, Tryz.results11, go_sem, z0, z1, z2, z3, z4]) rfl ⟨by rw [HRS.out]; rfl, hB10⟩
    · have HRS : Hid (res = none) := Lib.hid (by rw [HDEF.out]; simp [hts])
      have hne := beq_ne hts
      clear HDEF hts
      simp only [if_true] at HIN
      go_wp2_with fail
      refine HIN.out.mono ?_
      rintro e w6 ⟨rfl, hB6⟩
      have hx6 : w6.heap[xb]? = some (.cells (insA ⟨xo, xd, xa, xc, y⟩) 24 (0, 0)) := (hB6.block xb (Array.getElem?_eq_some_iff.1 HX.out).1).trans HX.out
      have hr9 : w6.heap[rb]? = some (.cells (insA ins0) 24 (0, 0)) := (hB6.block rb (Array.getElem?_eq_some_iff.1 HR.out).1).trans HR.out
      have HB6 := Lib.hid (HB.out.trans (hB6.mono HB.out.size))
      clear hB6 z0 z1 z2 z3 z4
      have hbd := HBD.out
      have y0 : w6.cell? ⟨rb, 0, none⟩ = some (.int .u8 0) := Lib.cell_of_heap hr9 0
      have f0 := Lib.frozen_of_heap hr9 0
      have y1 : w6.cell? ⟨rb, 1, none⟩ = some (.int .u8 0) := Lib.cell_of_heap hr9 1
      have f1 := Lib.frozen_of_heap hr9 1
      have y2 : w6.cell? ⟨rb, 2, none⟩ = some (.int .u8 0) := Lib.cell_of_heap hr9 2
      have f2 := Lib.frozen_of_heap hr9 2
      have y3 : w6.cell? ⟨rb, 3, none⟩ = some (.int .u8 0) := Lib.cell_of_heap hr9 3
      have f3 := Lib.frozen_of_heap hr9 3
      have y4 : w6.cell? ⟨rb, 4, none⟩ = some (.int .u32 0) := Lib.cell_of_heap hr9 4
      have f4 := Lib.frozen_of_heap hr9 4
      have hr10 : (insSet w6 rb ins0).heap[rb]? = some (.cells (insA ins0) 24 (0, 0)) := insSet_heap hr9
      have hB10 : Below w.heap.size w (insSet w6 rb ins0) := insSet_below HB6.out (by rw [HRB.out]; exact Nat.le_refl _)
      have HX10 := Lib.hid hx6
      clear hx6
      go_wp2
      change bodyPost _ _ _ _ _ (insSet w6 rb ins0)
      generalize (insSet w6 rb ins0) = w10 at *
      clear y0 y1 y2 y3 y4 f0 f1 f2 f3 f4 hr9
      have z0 : w10.cell? ⟨rb, 0, none⟩ = some (.int .u8 0) := Lib.cell_of_heap hr10 0
      have z1 : w10.cell? ⟨rb, 1, none⟩ = some (.int .u8 0) := Lib.cell_of_heap hr10 1
      have z2 : w10.cell? ⟨rb, 2, none⟩ = some (.int .u8 0) := Lib.cell_of_heap hr10 2
      have z3 : w10.cell? ⟨rb, 3, none⟩ = some (.int .u8 0) := Lib.cell_of_heap hr10 3
      have z4 : w10.cell? ⟨rb, 4, none⟩ = some (.int .u32 0) := Lib.cell_of_heap hr10 4
      exact bodyPost_ret (v := .tuple #[.agg #[.int .u8 0, .int .u8 0, .int .u8 0, .int .u8 0, .int .u32 0], .int .i64 7]) (by simp [results, Tryz.results11, go_sem, z0, z1, z2, z3, z4]) rfl ⟨by rw [HRS.out]; rfl, hB10⟩
end Go.Proofs.YtoonkfhphbojcaaGreatDoor
namespace Go.Proofs.YtoonkfhphbojcaaGreatDoor
open Go.RowKit Go.Maps
set_option maxHeartbeats 4000000 in
set_option maxRecDepth 100000 in
theorem disInsns33 (x : GIns) (s : BL) (at0 : Int) (b : BL) (w : World) (hL : Lib33 w) (hx : InsB x) (h0 : 0 ≤ at0) (h1 : at0 ≤ 4294967295) :
    Calls Tryz.prog 3 #[insV x, .string (bsOf s), .int .u32 at0, .string (bsOf b)] w fun e w' => e = .returned (.bool true) ∧ Below w.heap.size w w' := by
  have HL := Lib.hid hL
  clear hL
  have HA := Lib.hid (fun W (hW : Below w.heap.size w W) => alive33 W (HL.out.keep hW))
  have HB1 := Lib.hid (alloc_old w (.cells (insA x) 24))
  have hX1 := new_block w (.cells (insA x) 24)
  have C1 := Lib.hid (fun W (hW : Below w.heap.size w W) => dInsn33 x W (HL.out.keep hW) hx)
  have C2 := Lib.hid (fun W (hW : Below w.heap.size w W) => rInsn33 x W hx)
  have hs := bsOf_size s
  have hb := bsOf_size b
  have C3 := Lib.hid (fun W (hW : Below w.heap.size w W) (h : s.length ≤ 100000) => readInsn33 s W (HL.out.keep hW) h)
  have C4 := Lib.hid (fun W (h : s.length ≤ 1000000) => rreadInsn33 s W h)
  have C5 := Lib.hid (fun W (hW : Below w.heap.size w W) (h : b.length ≤ 100000) => dCode33 at0 b W (HL.out.keep hW) h0 h1 h)
  have C6 := Lib.hid (fun W (h : b.length ≤ 100000) => rCode33 at0 b W h0 h1 h)
  obtain ⟨T, E, hTE⟩ : ∃ T E, (if insOk x then Value.tuple #[.string (bsOf (toldL x (decD x.imm.toNat))), .int .i64 0] else .tuple #[.string ⟨#[]⟩, .int .i64 2]) = .tuple #[.string T, .int .i64 E] := by
    split
    · exact ⟨_, _, rfl⟩
    · exact ⟨_, _, rfl⟩
  obtain ⟨⟨yo, yd, ya, yb, yi⟩, F, hYF⟩ : ∃ (y : GIns) (F : Int), readInsnV (readInsnL s) = .tuple #[.agg #[.int .u8 y.op, .int .u8 y.d, .int .u8 y.a, .int .u8 y.b, .int .u32 y.imm], .int .i64 F] := by
    cases readInsnL s with
    | none => exact ⟨ins0, 7, rfl⟩
    | some y => exact ⟨y, 0, rfl⟩
  rw [hTE] at C1 C2
  rw [hYF] at C3 C4
  generalize codeOf at0 b = CO at C5 C6
  obtain ⟨op, xd, xa, xb, xi⟩ := x
  unfold insV insA at *
  simp only [] at C1 C2 C3 C4 HB1 hX1 ⊢
  clear hTE hYF hx
  generalize bsOf CO = SC at *
  generalize bsOf s = SS at *
  generalize bsOf b = SB at *
  go_enter Tryz.func3, Tryz.ntmps3
  go_upto_region 1 with fail
  generalize (w.alloc (.cells #[.int .u8 op, .int .u8 xd, .int .u8 xa, .int .u8 xb, .int .u32 xi] 24)) = w1 at *
  have z0 : w1.cell? ⟨w.heap.size, 0, none⟩ = some (.int .u8 op) := Lib.cell_of_heap hX1 0
  have z1 : w1.cell? ⟨w.heap.size, 1, none⟩ = some (.int .u8 xd) := Lib.cell_of_heap hX1 1
  have z2 : w1.cell? ⟨w.heap.size, 2, none⟩ = some (.int .u8 xa) := Lib.cell_of_heap hX1 2
  have z3 : w1.cell? ⟨w.heap.size, 3, none⟩ = some (.int .u8 xb) := Lib.cell_of_heap hX1 3
  have z4 : w1.cell? ⟨w.heap.size, 4, none⟩ = some (.int .u32 xi) := Lib.cell_of_heap hX1 4
  have hl1 := (Array.getElem?_eq_some_iff.1 hX1).1
  by_cases hbig : 1024 < s.length
  · have q1 : (1024 : Int) < (SS.size : Int) := by omega
    go_wp2_with fail
    refine (HA.out _ HB1.out).mono ?_
    rintro e w2 ⟨rfl, hB⟩
    go_wp2
    go_ret
    exact ⟨rfl, HB1.out.trans (hB.mono HB1.out.size)⟩
  have q1 : ¬ (1024 : Int) < (SS.size : Int) := by omega
  by_cases hbig2 : 2048 < b.length
  · have q2 : (2048 : Int) < (SB.size : Int) := by omega
    go_wp2_with fail
    refine (HA.out _ HB1.out).mono ?_
    rintro e w2 ⟨rfl, hB⟩
    go_wp2
    go_ret
    exact ⟨rfl, HB1.out.trans (hB.mono HB1.out.size)⟩
  have q2 : ¬ (2048 : Int) < (SB.size : Int) := by omega
  go_upto_region 3 with fail
  go_wp2_with fail
  refine (C1.out _ HB1.out).mono ?_
  rintro e w2 ⟨rfl, hB⟩
  replace z0 := cell_keep hB hl1 z0
  replace z1 := cell_keep hB hl1 z1
  replace z2 := cell_keep hB hl1 z2
  replace z3 := cell_keep hB hl1 z3
  replace z4 := cell_keep hB hl1 z4
  have HB2 := Lib.hid (HB1.out.trans (hB.mono HB1.out.size))
  clear hB hX1 hl1 HB1 C1
  go_wp2_with fail
  refine (C2.out _ HB2.out).mono ?_
  rintro e w3 ⟨rfl, hB⟩
  have HB3 := Lib.hid (HB2.out.trans (hB.mono HB2.out.size))
  clear hB z0 z1 z2 z3 z4 HB2 C2
  go_wp2_with fail
  refine (C3.out _ HB3.out (by omega)).mono ?_
  rintro e w4 ⟨rfl, hB⟩
  have HB4 := Lib.hid (HB3.out.trans (hB.mono HB3.out.size))
  have hX5 := new_block w4 (.cells #[.int .u8 yo, .int .u8 yd, .int .u8 ya, .int .u8 yb, .int .u32 yi] 24)
  have HB5 := Lib.hid (HB4.out.alloc HB4.out.size (.cells #[.int .u8 yo, .int .u8 yd, .int .u8 ya, .int .u8 yb, .int .u32 yi] 24))
  clear hB HB3 C3
  go_upto_region 6 with fail
  generalize (w4.alloc (.cells #[.int .u8 yo, .int .u8 yd, .int .u8 ya, .int .u8 yb, .int .u32 yi] 24)) = w5 at *
  have hl5 := (Array.getElem?_eq_some_iff.1 hX5).1
  go_wp2_with fail
  refine (C4.out _ (by omega)).mono ?_
  rintro e w6 ⟨rfl, hB⟩
  have hX6 := (hB.block w4.heap.size hl5).trans hX5
  have hl6 := (Array.getElem?_eq_some_iff.1 hX6).1
  have HB6 := Lib.hid (HB5.out.trans (hB.mono HB5.out.size))
  have hX7 := (Below.heap_alloc w6 (.cells #[.int .u8 yo, .int .u8 yd, .int .u8 ya, .int .u8 yb, .int .u32 yi] 24) w4.heap.size hl6).trans hX6
  have hY7 := new_block w6 (.cells #[.int .u8 yo, .int .u8 yd, .int .u8 ya, .int .u8 yb, .int .u32 yi] 24)
  have HB7 := Lib.hid (HB6.out.alloc HB6.out.size (.cells #[.int .u8 yo, .int .u8 yd, .int .u8 ya, .int .u8 yb, .int .u32 yi] 24))
  clear hB hX5 hl5 HB5 HB4 C4
  go_upto_region 7 with fail
  generalize (w6.alloc (.cells #[.int .u8 yo, .int .u8 yd, .int .u8 ya, .int .u8 yb, .int .u32 yi] 24)) = w7 at *
  have x0 : w7.cell? ⟨w4.heap.size, 0, none⟩ = some (.int .u8 yo) := Lib.cell_of_heap hX7 0
  have x1 : w7.cell? ⟨w4.heap.size, 1, none⟩ = some (.int .u8 yd) := Lib.cell_of_heap hX7 1
  have x2 : w7.cell? ⟨w4.heap.size, 2, none⟩ = some (.int .u8 ya) := Lib.cell_of_heap hX7 2
  have x3 : w7.cell? ⟨w4.heap.size, 3, none⟩ = some (.int .u8 yb) := Lib.cell_of_heap hX7 3
  have x4 : w7.cell? ⟨w4.heap.size, 4, none⟩ = some (.int .u32 yi) := Lib.cell_of_heap hX7 4
  have y0 : w7.cell? ⟨w6.heap.size, 0, none⟩ = some (.int .u8 yo) := Lib.cell_of_heap hY7 0
  have y1 : w7.cell? ⟨w6.heap.size, 1, none⟩ = some (.int .u8 yd) := Lib.cell_of_heap hY7 1
  have y2 : w7.cell? ⟨w6.heap.size, 2, none⟩ = some (.int .u8 ya) := Lib.cell_of_heap hY7 2
  have y3 : w7.cell? ⟨w6.heap.size, 3, none⟩ = some (.int .u8 yb) := Lib.cell_of_heap hY7 3
  have y4 : w7.cell? ⟨w6.heap.size, 4, none⟩ = some (.int .u32 yi) := Lib.cell_of_heap hY7 4
  clear hX7 hY7 hX6 hl6
  go_wp2_with fail
  refine (C5.out _ HB7.out (by omega)).mono ?_
  rintro e w8 ⟨rfl, hB⟩
  have HB8 := Lib.hid (HB7.out.trans (hB.mono HB7.out.size))
  clear hB x0 x1 x2 x3 x4 y0 y1 y2 y3 y4
  go_wp2_with fail
  refine (C6.out _ (by omega)).mono ?_
  rintro e w9 ⟨rfl, hB⟩
  have HB9 := Lib.hid (HB8.out.trans (hB.mono HB8.out.size))
  clear hB
  go_wp2_with fail
  refine (HA.out _ HB9.out).mono ?_
  rintro e w10 ⟨rfl, hB⟩
  have HB10 := Lib.hid (HB9.out.trans (hB.mono HB9.out.size))
  go_wp2
  go_ret
  exact ⟨rfl, HB10.out⟩
theorem disInsns_any (x : GIns) (s : ByteArray) (at0 : Int) (b : ByteArray) (w : World) (hL : Lib33 w) (hx : InsB x) (h0 : 0 ≤ at0) (h1 : at0 ≤ 4294967295) :
    Calls Tryz.prog 3 #[insV x, .string s, .int .u32 at0, .string b] w fun e w' => e = .returned (.bool true) ∧ Below w.heap.size w w' := by
  have h := disInsns33 x s.data.toList at0 b.data.toList w hL hx h0 h1
  rw [bs_back, bs_back] at h
  exact h
end Go.Proofs.YtoonkfhphbojcaaGreatDoor
