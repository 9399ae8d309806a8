/- The walk of ref36.Lines. The walks of ref36's at, jumps, goesOn, denied. -/
import Derived.Test.YtghopakbefageaaGreatBt31
import Derived.Test.YtghopakbefageaaGreatBt36
import Derived.Test.YtghopakbefageaaGreatBt33
import Derived.Test.YtghopakbefageaaGreatBt30
namespace Go.Proofs.YtghopakbefageaaGreat
open Go.RowKit Go.Maps
def lnCells (y : GLn) : List Value := [.int .u32 y.addr, .int .u8 y.ins.op, .int .u8 y.ins.d, .int .u8 y.ins.a, .int .u8 y.ins.b, .int .u32 y.ins.imm, .bool y.is]
def LnR (w : World) (b o : Nat) (y : GLn) : Prop := b < w.heap.size ∧ w.cell? ⟨b, o, none⟩ = some (.int .u32 y.addr) ∧ w.cell? ⟨b, o + 1, none⟩ = some (.int .u8 y.ins.op) ∧ w.cell? ⟨b, o + 2, none⟩ = some (.int .u8 y.ins.d) ∧ w.cell? ⟨b, o + 3, none⟩ = some (.int .u8 y.ins.a) ∧ w.cell? ⟨b, o + 4, none⟩ = some (.int .u8 y.ins.b) ∧ w.cell? ⟨b, o + 5, none⟩ = some (.int .u32 y.ins.imm) ∧ w.cell? ⟨b, o + 6, none⟩ = some (.bool y.is) ∧ LnB y
theorem lnR_keeps : Keeps LnR := fun _ _ _ _ _ hb ⟨h0, h1, h2, h3, h4, h5, h6, h7, r⟩ => ⟨size_keep hb h0, cell_keep hb h0 h1, cell_keep hb h0 h2, cell_keep hb h0 h3, cell_keep hb h0 h4, cell_keep hb h0 h5, cell_keep hb h0 h6, cell_keep hb h0 h7, r⟩
theorem ln_len (y : GLn) : (lnCells y).length = 7 := rfl
theorem ln_back {w : World} {v : Value} {base : Nat} {e : TypeId} {l : List GLn} (h : w.ownsRow base e 7 v l.length (l.flatMap lnCells)) (hl : l.length ≤ 140737488355328) (hb : ∀ y ∈ l, LnB y) : RowAt 7 LnR w v l :=
  owned_row ln_len h hl fun g o i hi hg hc => ⟨hg, hc 0 _ (by omega) rfl, hc 1 _ (by omega) rfl, hc 2 _ (by omega) rfl, hc 3 _ (by omega) rfl, hc 4 _ (by omega) rfl, hc 5 _ (by omega) rfl, hc 6 _ (by omega) rfl, hb _ (List.getElem_mem hi)⟩
theorem ln_one {y : GLn} : ∀ u ∈ lnCells y, u.oneCell' = true := by
  intro u hu
  simp only [lnCells, List.mem_cons, List.not_mem_nil, or_false] at hu
  rcases hu with rfl | rfl | rfl | rfl | rfl | rfl | rfl <;> rfl
theorem ln_news {w : World} {g : Nat} {y : GLn} {t : TypeId} (h : w.heap[g]? = some (.cells (lnCells y).toArray t (0, 0))) : ∀ j u, (lnCells y)[j]? = some u → w.cell? ((⟨g, 0, none⟩ : Addr).add j) = some u := by
  intro j u hu
  have := Lib.cell_of_heap h j
  rw [add_at]
  simpa [hu] using this
theorem info_ln : (Tryz.prog.info? 64).map (fun i => (i.zero, i.size, i.bytes)) = some (some (.agg #[.int .u32 0, .int .u8 0, .int .u8 0, .int .u8 0, .int .u8 0, .int .u32 0, .bool false]), 7, 16) := by kernel_rfl
def LinesPost (x : GImg) (w : World) (e : Ending) (w' : World) : Prop := ∃ v, e = .returned v ∧ RowAt 7 LnR w' v (linesX x) ∧ Below w.heap.size w w'
set_option maxHeartbeats 8000000 in
set_option maxRecDepth 100000 in
theorem rlines36 (x : GImg) (ve vp vs : Value) (w : World) (h : ImgAt w x ve vp vs) :
    Calls Tryz.prog 25 #[imgV x ve vp vs] w (LinesPost x w) := by
  have HMY : Hid (∀ W, Below w.heap.size w W → Calls Tryz.prog 49 #[imgV x ve vp vs] W fun e w' => e = .returned (.bool (imgOkB x)) ∧ Below W.heap.size W w') := fun W hW => rimg36 x ve vp vs W (h.keep hW)
  have HIP := Lib.hid (fun hk : imgOkB x = true => imgOk_parts hk)
  unfold imgV at *
  obtain ⟨⟨⟨p1, c1, _, _, rfl, -⟩, ⟨p2, c2, _, _, rfl, -⟩, -⟩, ⟨p3, c3, b3, o3, rfl, -, hmx3, hp3, hc3⟩, hen0, hen1⟩ := h
  have HC := Lib.hid hc3; clear hc3
  have HP := Lib.hid hp3; clear hp3
  have hz1 : w.heap.size < (w.alloc (.cells #[.int .u32 x.man.pages, .slice p1 x.man.exts.length c1, .slice p2 x.man.ports.length c2, .bool x.man.cons, .int .u32 x.entry, .slice p3 x.segs.length c3] 29)).heap.size := by simp
  have hbx := new_block w (.cells #[.int .u32 x.man.pages, .slice p1 x.man.exts.length c1, .slice p2 x.man.ports.length c2, .bool x.man.cons, .int .u32 x.entry, .slice p3 x.segs.length c3] 29)
  have e5 := Lib.cell_of_heap hbx 5
  have HB1 : Hid (Below w.heap.size w (w.alloc (.cells #[.int .u32 x.man.pages, .slice p1 x.man.exts.length c1, .slice p2 x.man.ports.length c2, .bool x.man.cons, .int .u32 x.entry, .slice p3 x.segs.length c3] 29))) := alloc_old w _
  clear hbx
  go_enter Tryz.func25, Tryz.ntmps25
  go_wp2_with fail
  refine (HMY.out _ HB1.out).mono ?_
  rintro e w2 ⟨rfl, hB2⟩
  have HB2 : Hid (Below w.heap.size w w2) := HB1.out.trans (hB2.mono HB1.out.size)
  replace e5 := cell_keep hB2 hz1 e5
  have hz2 : w.heap.size < w2.heap.size := by have := hB2.size; omega
  clear hB2 HB1 hz1 HMY
  cases hk : imgOkB x with
  | false =>
    have HFN : Hid (LinesPost x w (.returned (.slice none 0 0)) w2) := Lib.hid ⟨_, rfl, by rw [linesX_no hk]; exact rowAt_nil, HB2.out⟩
    clear hk
    go_wp2
    go_ret
    exact HFN.out
  | true =>
    obtain ⟨hn8, hn1, -, hsg, -⟩ := HIP.out hk
    have HSG := Lib.hid hsg; clear hsg HIP
    have HLX := Lib.hid (linesX_yes hk)
    have HLL := Lib.hid (linesX_len x)
    have HLB : Hid (∀ y ∈ linesX x, LnB y) := Lib.hid fun y hy => linesX_B hy
    clear hk
    obtain rfl := HP.out (by omega)
    obtain ⟨iL, hi, hz0', hz1', hz2'⟩ := info_parts info_ln
    have HI := Lib.hid (And.intro hi (And.intro hz0' (And.intro hz1' hz2')))
    clear hi hz0' hz1' hz2'
    go_wp2_with fail
    go_loopw [3, 4] (fun v3 v4 wr => ∃ k : Nat, v4 = .int .i64 k ∧ k ≤ x.segs.length ∧ wr.ownsRow w2.heap.size 64 7 v3 (codeLines (x.segs.take k)).length ((codeLines (x.segs.take k)).flatMap lnCells) ∧ Below w2.heap.size w2 wr) (fun _ v4 _ => x.segs.length - (intOf v4).toNat)
    case atStart => exact ⟨0, by go_num, Nat.zero_le _, World.ownsRow_nil _ _ _ _, Below.refl _ _⟩
    case round =>
      obtain ⟨k, rfl, hk, hown, hB⟩ := hrel
      have HOWN := Lib.hid hown; clear hown
      have HB := Lib.hid hB; clear hB
      obtain ⟨pv, cv, rfl⟩ := own_shape HOWN.out
      have e5r := cell_keep HB.out hz2 e5
      have hz3 : w.heap.size < wr.heap.size := by have := HB.out.size; omega
      by_cases hlt : k < x.segs.length
      · obtain ⟨g0, g1, g2, g3, g4, g5, g6⟩ := segR_keeps _ _ _ _ _ (HB2.out.trans (HB.out.mono HB2.out.size)) (HC.out k hlt)
        have HTK := Lib.hid (codeLines_take hlt)
        have HLN := Lib.hid (fun (j : Nat) (h5 : x.segs[k].perm = 5) (hj : j ≤ x.segs[k].bytes.size / 8) => code_len HSG.out hn8 hlt h5 hj)
        have HSP : Hid ((x.segs[k].perm = 1 ∨ x.segs[k].perm = 3 ∨ x.segs[k].perm = 5) ∧ 256 ≤ x.segs[k].addr ∧ x.segs[k].addr + x.segs[k].bytes.size ≤ 131072) := segsGo_each HSG.out hlt (by omega)
        generalize x.segs[k] = s at *
        obtain ⟨xa, xp, xb⟩ := s
        simp only [] at *
        obtain ⟨hp, ha0, ha1⟩ := HSP.out
        obtain ⟨wo, rfl⟩ : ∃ wo : World, wo = wr := ⟨_, rfl⟩
        go_wp2_with fail
        have HOW1 := Lib.hid (HOWN.out.alloc (.cells #[.int .u32 xa, .int .u8 xp, .string xb] 45))
        have HB1 : Hid (Below w2.heap.size w2 (wo.alloc (.cells #[.int .u32 xa, .int .u8 xp, .string xb] 45))) := HB.out.alloc HB.out.size _
        have HSX := Lib.hid (new_block wo (.cells #[.int .u32 xa, .int .u8 xp, .string xb] 45))
        have hso : w2.heap.size ≤ wo.heap.size := HB.out.size
        generalize hsb : wo.heap.size = sb at HSX hso
        have HSB := Lib.hid hsb; clear hsb
        generalize wo.alloc (.cells #[.int .u32 xa, .int .u8 xp, .string xb] 45) = w3 at *
        clear HOWN HB g0 g1 g2 g3 e5r
        have hp' : xp ≠ 5 ∨ xp = 5 := by omega
        rcases hp' with hp2 | rfl
        · have HT2 : Hid (codeLines (x.segs.take (k + 1)) = codeLines (x.segs.take k)) := Lib.hid (by rw [HTK.out, if_neg (by omega)]; simp)
          clear HTK HLN HSP hp
          have hp5 : (xp == 5) = false := by simpa using hp2
          have s1 := Lib.cell_of_heap HSX.out 1
          have s2 := Lib.cell_of_heap HSX.out 2
          go_loopw [3, 6] (fun v3 v6 wi => v3 = .slice pv (codeLines (x.segs.take k)).length cv ∧ v6 = .int .i64 0 ∧ wi = w3) (fun _ _ _ => 0)
          case atStart => exact ⟨rfl, by go_num, rfl⟩
          case round =>
            obtain ⟨rfl, rfl, rfl⟩ := hrel
            by_cases h8 : (8 : Int) ≤ (xb.size : Int)
            all_goals
              go_wp2
              go_roundw
              case rel => exact ⟨k + 1, by go_num, by omega, by rw [HT2.out]; exact HOW1.out, HB1.out⟩
              case measure => simp [intOf]; omega
        · have HT2 : Hid (codeLines (x.segs.take (k + 1)) = codeLines (x.segs.take k) ++ linesSeg ⟨xa, 5, xb⟩) := Lib.hid (by rw [HTK.out, if_pos rfl])
          clear HTK HSP hp
          go_loopw [3, 6] (fun v3 v6 wi => ∃ j : Nat, v6 = .int .i64 (8 * (j : Int)) ∧ j ≤ xb.size / 8 ∧ wi.ownsRow w2.heap.size 64 7 v3 (codeLines (x.segs.take k) ++ linesTo ⟨xa, 5, xb⟩ j).length ((codeLines (x.segs.take k) ++ linesTo ⟨xa, 5, xb⟩ j).flatMap lnCells) ∧ wi.heap[sb]? = some (.cells #[.int .u32 xa, .int .u8 5, .string xb] 45 (0, 0)) ∧ Below w2.heap.size w2 wi) (fun _ v6 _ => 1000000 - (intOf v6).toNat)
          case atStart => exact ⟨0, by go_num, Nat.zero_le _, by rw [show linesTo ⟨xa, 5, xb⟩ 0 = [] from rfl, List.append_nil]; exact HOW1.out, HSX.out, HB1.out⟩
          case round =>
            obtain ⟨j, rfl, hj, hown, hsx, hB⟩ := hrel
            obtain ⟨pv', cv', rfl⟩ := own_shape hown
            have HOW2 := Lib.hid hown; clear hown
            have HB2' := Lib.hid hB; clear hB
            have HSX2 := Lib.hid hsx; clear hsx
            have s0 := Lib.cell_of_heap HSX2.out 0
            have s1 := Lib.cell_of_heap HSX2.out 1
            have s2 := Lib.cell_of_heap HSX2.out 2
            have hsbl : sb < wr.heap.size := (Array.getElem?_eq_some_iff.1 HSX2.out).1
            clear HOW1 HB1 HSX
            by_cases hjl : j < xb.size / 8
            · have hcond : 8 * (j : Int) + 8 ≤ (xb.size : Int) := by omega
              have HTS := Lib.hid (linesTo_succ ⟨xa, 5, xb⟩ j)
              have HLN2 := Lib.hid (HLN.out j (by simp) hj)
              obtain ⟨e, he⟩ : ∃ e, xb.extract (8 * j) (8 * j + 8) = e := ⟨_, rfl⟩
              have HLE : Hid (lnAt ⟨xa, 5, xb⟩ j = ⟨xa + 8 * (j : Int), insOf e.data.toList, (decI e.data.toList).isSome⟩) := Lib.hid (by
                unfold lnAt
                rw [lnOf_eq, ← he, Lib.extract_data]
                simp only []
                rw [show 8 * j + 8 - 8 * j = 8 by omega])
              have HDC := Lib.hid (fun W => rdec04 e W)
              unfold insV at HDC
              generalize insOf e.data.toList = ins at HDC HLE
              generalize (decI e.data.toList).isSome = is at HDC HLE
              obtain ⟨io, id, ia, ib, im⟩ := ins
              have hev : (erI is 7 == 0) = is := by cases is <;> rfl
              generalize erI is 7 = ev at hev HDC
              simp only [] at HDC
              have q1 : (8 * (j : Int)).toNat = 8 * j := by omega
              have q2 : (8 * (j : Int) + 8).toNat = 8 * j + 8 := by omega
              have q3 : IntKind.u32.wrap (8 * (j : Int)) = 8 * (j : Int) := by rw [IntKind.wrap_u32]; omega
              have q4 : IntKind.u32.wrap (xa + 8 * (j : Int)) = xa + 8 * (j : Int) := by rw [IntKind.wrap_u32]; omega
              have q5 : 8 * (j : Int) % 4294967296 = 8 * (j : Int) := by omega
              have q6 : (xa + 8 * (j : Int)) % 4294967296 = xa + 8 * (j : Int) := by omega
              have hln := HLN2.out
              generalize hLL : (codeLines (x.segs.take k) ++ linesTo ⟨xa, 5, xb⟩ j) = LL at *
              have HLL := Lib.hid hLL; clear hLL
              go_wp2_with fail
              refine (HDC.out _).mono ?_
              rintro e2 w4 ⟨rfl, hB4⟩
              replace s0 := cell_keep hB4 hsbl s0
              replace s1 := cell_keep hB4 hsbl s1
              replace s2 := cell_keep hB4 hsbl s2
              have HB4 : Hid (Below wr.heap.size wr w4) := Lib.hid hB4
              have hz4 : sb < w4.heap.size := by have := hB4.size; omega
              have hn2 : ¬ w4.heap.size = sb := by omega
              clear hB4 q1 q2 he HDC
              have HB5 : Hid (Below wr.heap.size wr (w4.alloc (.cells #[.int .u8 io, .int .u8 id, .int .u8 ia, .int .u8 ib, .int .u32 im] 49))) := HB4.out.alloc HB4.out.size _
              have hbz : w2.heap.size ≤ w4.heap.size := by have := HB2'.out.size; have := HB4.out.size; omega
              have HB6 : Hid (Below w2.heap.size w2 ((w4.alloc (.cells #[.int .u8 io, .int .u8 id, .int .u8 ia, .int .u8 ib, .int .u32 im] 49)).alloc (.cells (lnCells ⟨xa + 8 * (j : Int), ⟨io, id, ia, ib, im⟩, is⟩).toArray 64))) := (HB2'.out.trans (HB5.out.mono HB2'.out.size)).alloc (by simp; omega) _
              have HOW6 := Lib.hid (((ownsRow_below HB4.out HOW2.out).alloc (.cells #[.int .u8 io, .int .u8 id, .int .u8 ia, .int .u8 ib, .int .u32 im] 49)).alloc (.cells (lnCells ⟨xa + 8 * (j : Int), ⟨io, id, ia, ib, im⟩, is⟩).toArray 64))
              have HNB : Hid (((w4.alloc (.cells #[.int .u8 io, .int .u8 id, .int .u8 ia, .int .u8 ib, .int .u32 im] 49)).alloc (.cells (lnCells ⟨xa + 8 * (j : Int), ⟨io, id, ia, ib, im⟩, is⟩).toArray 64)).heap[w4.heap.size + 1]? = some (.cells (lnCells ⟨xa + 8 * (j : Int), ⟨io, id, ia, ib, im⟩, is⟩).toArray 64 (0, 0))) := Lib.hid (by
                have := new_block (w4.alloc (.cells #[.int .u8 io, .int .u8 id, .int .u8 ia, .int .u8 ib, .int .u32 im] 49)) (.cells (lnCells ⟨xa + 8 * (j : Int), ⟨io, id, ia, ib, im⟩, is⟩).toArray 64)
                rwa [show (w4.alloc (.cells #[.int .u8 io, .int .u8 id, .int .u8 ia, .int .u8 ib, .int .u32 im] 49)).heap.size = w4.heap.size + 1 by simp] at this)
              go_wp2_with (at_builtin; refine wpList_append_own _ rfl _ _ 61 rfl w2.heap.size 64 iL _ 7 16 Tryz.underlying61 HI.out.1 HI.out.2.1 HI.out.2.2.1 HI.out.2.2.2 rfl (by decide) (.slice pv' LL.length cv') LL.length (LL.flatMap lnCells) rfl HOW6.out ⟨w4.heap.size + 1, 0, none⟩ 1 1 (lnCells ⟨xa + 8 * (j : Int), ⟨io, id, ia, ib, im⟩, is⟩) rfl rfl ?c1 ln_one ?c3 ?c4 ?c5 ?_)
              case c1 => exact ln_news HNB.out
              case c3 => unfold maxLen; omega
              case c4 => omega
              case c5 => simp; omega
              intro v7 w7 hown7 hgrow7 _
              have HO7 : Hid (w7.ownsRow w2.heap.size 64 7 v7 (LL ++ [(⟨xa + 8 * (j : Int), ⟨io, id, ia, ib, im⟩, is⟩ : GLn)]).length ((LL ++ [(⟨xa + 8 * (j : Int), ⟨io, id, ia, ib, im⟩, is⟩ : GLn)]).flatMap lnCells)) := Lib.hid (by rw [List.length_append, List.flatMap_append]; simpa using hown7)
              have HB7 : Hid (Below w2.heap.size w2 w7) := Lib.hid (HB6.out.grown hgrow7 (by simp; omega) (fun g hg => (HOW2.out.lt g hg).1))
              have HSX7 : Hid (w7.heap[sb]? = some (.cells #[.int .u32 xa, .int .u8 5, .string xb] 45 (0, 0))) := Lib.hid ((hgrow7.block sb (by simp; omega) (fun e => own_ne_box HOW2.out HSX2.out (by decide) e.symm)).trans ((((alloc_old w4 _).alloc (by simp) _).block sb (by omega)).trans ((HB4.out.block sb hsbl).trans HSX2.out)))
              have HLF : Hid (codeLines (x.segs.take k) ++ linesTo ⟨xa, 5, xb⟩ (j + 1) = LL ++ [⟨xa + 8 * (j : Int), ⟨io, id, ia, ib, im⟩, is⟩]) := Lib.hid (by rw [HTS.out, ← List.append_assoc, HLL.out, HLE.out])
              clear hown7 hgrow7 s0 s1 s2
              go_wp2
              go_roundw
              case rel => exact ⟨j + 1, by go_num, by omega, by rw [HLF.out]; exact HO7.out, HSX7.out, HB7.out⟩
              case measure => simp [intOf]; omega
            · obtain rfl : j = xb.size / 8 := by omega
              have hcond : ¬ 8 * ((xb.size / 8 : Nat) : Int) + 8 ≤ (xb.size : Int) := by omega
              have HFN := Lib.hid HOW2.out
              rw [linesTo_all, ← HT2.out] at HFN
              have HT3 : Hid (codeLines (x.segs.take k) ++ linesTo ⟨xa, 5, xb⟩ (xb.size / 8) = codeLines (x.segs.take (k + 1))) := Lib.hid (by rw [HT2.out, linesTo_all])
              rw [HT3.out]
              go_wp2
              go_roundw
              case rel => exact ⟨k + 1, by go_num, by omega, HFN.out, HB2'.out⟩
              case measure => simp [intOf]; omega
      · obtain rfl : k = x.segs.length := by omega
        have HLF := Lib.hid HOWN.out
        rw [List.take_length] at HLF
        have HFN : Hid (LinesPost x w (.returned (.slice pv (codeLines x.segs).length cv)) wr) := Lib.hid ⟨_, rfl, by
          rw [HLX.out]
          refine ln_back HLF.out ?_ (by rw [← HLX.out]; exact HLB.out)
          have := HLL.out
          rw [HLX.out] at this
          omega, HB2.out.trans (HB.out.mono HB2.out.size)⟩
        rw [List.take_length]
        go_wp2
        go_ret
        exact HFN.out
end Go.Proofs.YtghopakbefageaaGreat
namespace Go.Proofs.YtghopakbefageaaGreat
open Go.RowKit Go.Maps
theorem AtIs.neg {L : List GLn} {a r : Int} (h : AtIs L a r) : decide (r < 0) = !hasA L a := by
  rcases h with ⟨rfl, h⟩ | ⟨k, hk, rfl, h⟩
  · rw [h]; rfl
  · have : hasA L a = true := hasA_mem.2 ⟨L[k], List.getElem_mem hk, h⟩
    rw [this]; simp
theorem at_end {L : List GLn} {a : Int} {lo : Nat} (hu : L.Pairwise fun a b => a.addr < b.addr) (h1 : ∀ i (h : i < L.length), i < lo → L[i].addr < a) (h2 : ∀ i (h : i < L.length), lo ≤ i → a ≤ L[i].addr) (h3 : ∀ h : lo < L.length, L[lo].addr ≠ a) : hasA L a = false := by
  cases hh : hasA L a with
  | false => rfl
  | true =>
    obtain ⟨y, hy, he⟩ := hasA_mem.1 hh
    obtain ⟨i, hi, rfl⟩ := List.mem_iff_getElem.1 hy
    rcases Nat.lt_trichotomy i lo with hl | rfl | hl
    · have := h1 i hi hl; omega
    · exact absurd he (h3 hi)
    · have k1 := (List.pairwise_iff_getElem.1 hu) lo i (by omega) hi hl
      have k2 := h2 lo (by omega) (Nat.le_refl _)
      omega
set_option maxHeartbeats 2000000 in
theorem at36 (v : Value) (L : List GLn) (a : Int) (w : World) (h : RowAt 7 LnR w v L) (hu : L.Pairwise fun a b => a.addr < b.addr) :
    Calls Tryz.prog 32 #[v, .int .u32 a] w fun e w' => (∃ r, e = .returned (.int .i64 r) ∧ AtIs L a r) ∧ w' = w := by
  obtain ⟨pp, cap, b, o, rfl, hcap, hmax, hpp, hc⟩ := h
  have HU := Lib.hid hu; clear hu
  have HC := Lib.hid hc; clear hc
  have HP := Lib.hid hpp; clear hpp
  have hL0 : (0 : Int) ≤ (L.length : Int) := by omega
  go_enter Tryz.func32, Tryz.ntmps32
  go_wp2_with fail
  go_loopw [5, 6] (fun v5 v6 wr => ∃ lo hi : Nat, v5 = .int .i64 lo ∧ v6 = .int .i64 hi ∧ lo ≤ hi ∧ hi ≤ L.length ∧ (∀ i (h : i < L.length), i < lo → L[i].addr < a) ∧ (∀ i (h : i < L.length), hi ≤ i → a ≤ L[i].addr) ∧ wr = w) (fun v5 v6 _ => (intOf v6).toNat - (intOf v5).toNat)
  case atStart => exact ⟨0, L.length, by go_num, rfl, Nat.zero_le _, Nat.le_refl _, fun i h h0 => absurd h0 (by omega), fun i h h0 => absurd h (by omega), rfl⟩
  case round =>
    obtain ⟨lo, hi, rfl, rfl, hlh, hhl, h1, h2, rfl⟩ := hrel
    have H1 := Lib.hid h1; clear h1
    have H2 := Lib.hid h2; clear h2
    by_cases hlt : lo < hi
    · obtain rfl := HP.out (by omega)
      have hm1 : lo ≤ (lo + hi) / 2 := by omega
      have hm2 : (lo + hi) / 2 < hi := by omega
      have hmm : ((lo : Int) + (hi : Int)).tdiv 2 = (((lo + hi) / 2 : Nat) : Int) := by rw [Int.tdiv_eq_ediv_of_nonneg (by omega)]; omega
      have hmd : ((lo : Int) + (hi : Int)) / 2 = (((lo + hi) / 2 : Nat) : Int) := by omega
      generalize (lo + hi) / 2 = m at hm1 hm2 hmm hmd
      have hml : m < L.length := by omega
      have HY := Lib.hid (rfl : L[m] = L[m])
      obtain ⟨-, g0, -⟩ := HC.out m hml
      have k1 : (0 : Int) ≤ (m : Int) := by omega
      have k2 : (m : Int) < (L.length : Int) := by omega
      have hd : ((lo : Int) < (hi : Int)) := by omega
      have HUP := Lib.hid (fun i (h : i < L.length) (hm : m < i) => (List.pairwise_iff_getElem.1 HU.out) m i hml h hm)
      have HUQ := Lib.hid (fun i (h : i < L.length) (hm : i < m) => (List.pairwise_iff_getElem.1 HU.out) i m h hml hm)
      generalize hya : L[m].addr = ya at g0 HUP HUQ
      have HYA := Lib.hid hya; clear hya HY
      by_cases hcmp : ya < a
      · go_wp2
        go_roundw
        case rel => exact ⟨m + 1, hi, by go_num, rfl, by omega, hhl, fun i h hi' => by
          by_cases e : i = m
          · subst e; rw [HYA.out]; exact hcmp
          · have := HUQ.out i h (by omega); omega, H2.out, (by simp)⟩
        case measure => simp [intOf]; omega
      · go_wp2
        go_roundw
        case rel => exact ⟨lo, m, rfl, by go_num, by omega, by omega, H1.out, fun i h hi' => by
          by_cases e : i = m
          · subst e; rw [HYA.out]; omega
          · have := HUP.out i h (by omega); omega, (by simp)⟩
        case measure => simp [intOf]; omega
    · obtain rfl : lo = hi := by omega
      have hd : ¬ ((lo : Int) < (lo : Int)) := by omega
      by_cases hl : lo < L.length
      · obtain rfl := HP.out (by omega)
        have k1 : (0 : Int) ≤ (lo : Int) := by omega
        have k2 : (lo : Int) < (L.length : Int) := by omega
        obtain ⟨-, g0, -⟩ := HC.out lo hl
        generalize hya : L[lo].addr = ya at g0
        have HYA := Lib.hid hya; clear hya
        by_cases he : ya = a
        · have heb : (ya == a) = true := by simpa using he
          have HFN : Hid (AtIs L a lo) := Lib.hid (.inr ⟨lo, hl, rfl, by rw [HYA.out]; exact he⟩)
          clear he
          go_wp2
          go_ret
          exact ⟨⟨_, rfl, HFN.out⟩, rfl⟩
        · have heb : (ya == a) = false := by simpa using he
          have HFN : Hid (AtIs L a (-1)) := Lib.hid (.inl ⟨rfl, at_end HU.out H1.out H2.out fun _ => by rw [HYA.out]; exact he⟩)
          clear he
          go_wp2
          go_ret
          exact ⟨⟨_, rfl, HFN.out⟩, rfl⟩
      · have k2 : ¬ (lo : Int) < (L.length : Int) := by omega
        have HFN : Hid (AtIs L a (-1)) := Lib.hid (.inl ⟨rfl, at_end HU.out H1.out H2.out fun h => absurd h hl⟩)
        go_wp2
        go_ret
        exact ⟨⟨_, rfl, HFN.out⟩, rfl⟩
set_option maxHeartbeats 2000000 in
theorem rjumps36 (x : GIns) (w : World) : Calls Tryz.prog 34 #[insV x] w fun e w' => e = .returned (.bool (jumpsB x)) ∧ Below w.heap.size w w' := by
  obtain ⟨io, id, ia, ib, im⟩ := x
  unfold insV
  simp only []
  have hcs : (Hid (jumpsB ⟨io, id, ia, ib, im⟩ = true) ∧ io = 40) ∨ (Hid (jumpsB ⟨io, id, ia, ib, im⟩ = true) ∧ io = 41) ∨ (Hid (jumpsB ⟨io, id, ia, ib, im⟩ = true) ∧ (io == 40) = false ∧ (io == 41) = false ∧ 43 ≤ io ∧ io ≤ 46) ∨ (Hid (jumpsB ⟨io, id, ia, ib, im⟩ = false) ∧ (io == 40) = false ∧ (io == 41) = false ∧ ¬ 43 ≤ io) ∨ (Hid (jumpsB ⟨io, id, ia, ib, im⟩ = false) ∧ (io == 40) = false ∧ (io == 41) = false ∧ 43 ≤ io ∧ ¬ io ≤ 46) := by
    have hd : jumpsB ⟨io, id, ia, ib, im⟩ = decide (io = 40 ∨ io = 41 ∨ (43 ≤ io ∧ io ≤ 46)) := by
      unfold jumpsB
      rw [Bool.eq_iff_iff]
      simp
      omega
    rw [hd]
    by_cases h1 : io = 40
    · exact .inl ⟨Lib.hid (by simp [h1]), h1⟩
    · by_cases h2 : io = 41
      · exact .inr (.inl ⟨Lib.hid (by simp [h2]), h2⟩)
      · have e1 : (io == 40) = false := by simpa using h1
        have e2 : (io == 41) = false := by simpa using h2
        by_cases h3 : 43 ≤ io
        · by_cases h4 : io ≤ 46
          · exact .inr (.inr (.inl ⟨Lib.hid (by simp [h3, h4]), e1, e2, h3, h4⟩))
          · exact .inr (.inr (.inr (.inr ⟨Lib.hid (by simp [h1, h2, h4]), e1, e2, h3, h4⟩)))
        · exact .inr (.inr (.inr (.inl ⟨Lib.hid (by simp [h1, h2, h3]), e1, e2, h3⟩)))
  rcases hcs with ⟨HJ, rfl⟩ | ⟨HJ, rfl⟩ | ⟨HJ, h1, h2, h3, h4⟩ | ⟨HJ, h1, h2, h3⟩ | ⟨HJ, h1, h2, h3, h4⟩
  all_goals
    go_enter Tryz.func34, Tryz.ntmps34
    go_wp2
    go_ret
    exact ⟨by rw [HJ.out]; rfl, alloc_old w _⟩
set_option maxHeartbeats 2000000 in
theorem rgoesOn36 (x : GIns) (w : World) : Calls Tryz.prog 33 #[insV x] w fun e w' => e = .returned (.bool (goesB x)) ∧ Below w.heap.size w w' := by
  obtain ⟨io, id, ia, ib, im⟩ := x
  unfold insV
  simp only []
  have hcs : (Hid (goesB ⟨io, id, ia, ib, im⟩ = false) ∧ (io = 40 ∨ io = 42)) ∨ (Hid (goesB ⟨io, id, ia, ib, im⟩ = !decide (im = 1)) ∧ io = 50) ∨ (Hid (goesB ⟨io, id, ia, ib, im⟩ = true) ∧ (io != 40) = true ∧ (io != 42) = true ∧ (io == 50) = false) := by
    unfold goesB
    by_cases h1 : io = 40
    · exact .inl ⟨by simp [h1, Hid], .inl h1⟩
    · by_cases h2 : io = 42
      · exact .inl ⟨by simp [h2, Hid], .inr h2⟩
      · by_cases h3 : io = 50
        · exact .inr (.inl ⟨by simp [h3, Hid], h3⟩)
        · exact .inr (.inr ⟨by simp [h1, h2, h3, Hid], by simpa using h1, by simpa using h2, by simpa using h3⟩)
  rcases hcs with ⟨HG, rfl | rfl⟩ | ⟨HG, rfl⟩ | ⟨HG, h1, h2, h3⟩
  · go_enter Tryz.func33, Tryz.ntmps33
    go_wp2
    go_ret
    exact ⟨by rw [HG.out]; rfl, alloc_old w _⟩
  · go_enter Tryz.func33, Tryz.ntmps33
    go_wp2
    go_ret
    exact ⟨by rw [HG.out]; rfl, alloc_old w _⟩
  · by_cases h1 : im = 1
    · have h1b : (im == 1) = true := by simpa using h1
      have HG2 : Hid (goesB ⟨50, id, ia, ib, im⟩ = false) := Lib.hid (by rw [HG.out]; simp [h1])
      clear h1
      go_enter Tryz.func33, Tryz.ntmps33
      go_wp2
      go_ret
      exact ⟨by rw [HG2.out]; rfl, alloc_old w _⟩
    · have h1b : (im == 1) = false := by simpa using h1
      have HG2 : Hid (goesB ⟨50, id, ia, ib, im⟩ = true) := Lib.hid (by rw [HG.out]; simp [h1])
      clear h1
      go_enter Tryz.func33, Tryz.ntmps33
      go_wp2
      go_ret
      exact ⟨by rw [HG2.out]; rfl, alloc_old w _⟩
  · go_enter Tryz.func33, Tryz.ntmps33
    go_wp2
    go_ret
    exact ⟨by rw [HG.out]; rfl, alloc_old w _⟩
set_option maxHeartbeats 2000000 in
theorem rdenied36 (m : GMan) (p1 p2 : Option Addr) (c1 c2 : Nat) (n : Int) (w : World) :
    Calls Tryz.prog 51 #[.agg #[.int .u32 m.pages, .slice p1 m.exts.length c1, .slice p2 m.ports.length c2, .bool m.cons], .int .u32 n] w fun e w' => e = .returned (.bool (deniedB m n)) ∧ Below w.heap.size w w' := by
  have hcs : (n = 9 ∧ Hid (deniedB m n = !m.cons)) ∨ ((n = 5 ∨ n = 6) ∧ Hid (deniedB m n = decide (m.exts.length = 0))) ∨ ((n = 7 ∨ n = 8) ∧ Hid (deniedB m n = decide (m.ports.length = 0))) ∨ (n = 3 ∧ Hid (deniedB m n = decide (m.pages = 0))) ∨ (Hid (deniedB m n = false) ∧ (n == 9) = false ∧ (n == 5) = false ∧ (n == 6) = false ∧ (n == 7) = false ∧ (n == 8) = false ∧ (n == 3) = false) := by
    unfold deniedB
    by_cases k9 : n = 9
    · exact .inl ⟨k9, Lib.hid (by simp [k9])⟩
    · by_cases k5 : n = 5 ∨ n = 6
      · exact .inr (.inl ⟨k5, Lib.hid (by rw [if_neg k9, if_pos k5])⟩)
      · by_cases k7 : n = 7 ∨ n = 8
        · exact .inr (.inr (.inl ⟨k7, Lib.hid (by rw [if_neg k9, if_neg k5, if_pos k7])⟩))
        · by_cases k3 : n = 3
          · exact .inr (.inr (.inr (.inl ⟨k3, Lib.hid (by rw [if_neg k9, if_neg k5, if_neg k7, if_pos k3])⟩)))
          · refine .inr (.inr (.inr (.inr ⟨Lib.hid (by rw [if_neg k9, if_neg k5, if_neg k7, if_neg k3]), ?_⟩)))
            simp; omega
  have d1 : Hid (((m.exts.length : Int) == 0) = decide (m.exts.length = 0)) := Lib.hid (by rw [Bool.eq_iff_iff]; simp)
  have d2 : Hid (((m.ports.length : Int) == 0) = decide (m.ports.length = 0)) := Lib.hid (by rw [Bool.eq_iff_iff]; simp)
  rcases hcs with ⟨rfl, HD⟩ | ⟨rfl | rfl, HD⟩ | ⟨rfl | rfl, HD⟩ | ⟨rfl, HD⟩ | ⟨HD, b1, b2, b3, b4, b5, b6⟩
  all_goals
    go_enter Tryz.func51, Tryz.ntmps51
    go_wp2
    go_ret
    exact ⟨by first | (rw [HD.out]; rfl) | (rw [HD.out, ← d1.out]; rfl) | (rw [HD.out, ← d2.out]; rfl) | (rw [HD.out]; simp), alloc_old w _⟩
end Go.Proofs.YtghopakbefageaaGreat
