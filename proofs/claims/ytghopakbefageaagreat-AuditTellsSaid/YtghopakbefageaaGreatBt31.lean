/- The walk of audit.look. The walks of audit's has, jumps, goesOn, denied. The walks of audit's denied, behind. What is amiss at a line, as it is gathered: audit's note. -/
import Derived.Test.YtghopakbefageaaGreatBt24
import Derived.Test.YtghopakbefageaaGreatBt25
namespace Go.Proofs.YtghopakbefageaaGreat
open Go.RowKit Go.Maps
def LookPost (x : GImg) (ve vp vs : Value) (w : World) (e : Ending) (w' : World) : Prop :=
  ∃ cb mb v vs', e = .returned (.pointer (some ⟨cb, 0, none⟩)) ∧ LookSt w.heap.size cb mb ⟨x.man.pages, ve, vp, x.man.cons, x.entry, vs'⟩ v (linesX x) w' ∧ vs' = (match imgOkB x with | true => vs | false => .slice none 0 0) ∧ Below w.heap.size w w'
theorem look_made (w : World) (c : CodeH) (X : Obj) : LookSt w.heap.size (w.heap.size + 2) (w.heap.size + 1) c (.slice none 0 0) [] (((w.alloc X).alloc (.map #[] 0)).alloc (.cells (codeArr c (w.heap.size + 1) (.slice none 0 0)) 57)) := by
  refine ⟨?_, World.ownsRow_nil _ _ _ _, ?_, by omega, by omega⟩
  · have := heap_alloc_new ((w.alloc X).alloc (.map #[] 0)) (.cells (codeArr c (w.heap.size + 1) (.slice none 0 0)) 57)
    simpa using this
  · have := (MapKFn.made u32E (w.alloc X)).alloc (.cells (codeArr c (w.heap.size + 1) (.slice none 0 0)) 57)
    have e : (fun _ : Int => (none : Option Value)) = linesF [] := rfl
    rw [e] at this
    simpa using this
theorem LookSt.cells {base cb mb : Nat} {pg : Int} {ve vp : Value} {co : Bool} {en : Int} {vs v : Value} {L : List GLn} {w : World} (h : LookSt base cb mb ⟨pg, ve, vp, co, en, vs⟩ v L w) :
    w.cell? ⟨cb, 5, none⟩ = some vs ∧ w.cell? ⟨cb, 6, none⟩ = some (.map (some mb)) ∧ w.cell? ⟨cb, 7, none⟩ = some v ∧ w.frozen? ⟨cb, 5, none⟩ = false ∧ w.frozen? ⟨cb, 7, none⟩ = false :=
  ⟨Lib.cell_of_heap h.box 5, Lib.cell_of_heap h.box 6, Lib.cell_of_heap h.box 7, Lib.frozen_of_heap h.box 5, Lib.frozen_of_heap h.box 7⟩
theorem LookSt.cells4 {base cb mb : Nat} {pg : Int} {ve vp : Value} {co : Bool} {en : Int} {vs v : Value} {L : List GLn} {w : World} (h : LookSt base cb mb ⟨pg, ve, vp, co, en, vs⟩ v L w) :
    w.cell? ⟨cb, 0, none⟩ = some (.int .u32 pg) ∧ w.cell? ⟨cb, 1, none⟩ = some ve ∧ w.cell? ⟨cb, 2, none⟩ = some vp ∧ w.cell? ⟨cb, 3, none⟩ = some (.bool co) ∧ w.cell? ⟨cb, 4, none⟩ = some (.int .u32 en) :=
  ⟨Lib.cell_of_heap h.box 0, Lib.cell_of_heap h.box 1, Lib.cell_of_heap h.box 2, Lib.cell_of_heap h.box 3, Lib.cell_of_heap h.box 4⟩
/-- no segments: a store into the box -/
theorem LookSt.noSegs {base cb mb : Nat} {pg : Int} {ve vp : Value} {co : Bool} {en : Int} {vs v u : Value} {L : List GLn} {w : World} (h : LookSt base cb mb ⟨pg, ve, vp, co, en, vs⟩ v L w) :
    LookSt base cb mb ⟨pg, ve, vp, co, en, u⟩ v L (w.setCell ⟨cb, 5, .none⟩ u) := by
  refine ⟨?_, own_congr h.row fun g hg => Below.heap_setCell _ _ _ _ (fun e => h.nev (by rw [hg, e])), h.map.setCell (fun e => h.ne e.symm) _, h.cbl, h.mbl⟩
  have hb := h.box
  simp [World.setCell, Array.getElem?_modify, hb, codeArr]
set_option maxHeartbeats 8000000 in
set_option maxRecDepth 100000 in
theorem look36 (x : GImg) (ve vp vs : Value) (w : World) (h : ImgAt w x ve vp vs) :
    Calls Tryz.prog 23 #[imgV x ve vp vs] w (LookPost x ve vp vs w) := by
  have HCK : Hid (∀ W, Below w.heap.size w W → Calls Tryz.prog 42 #[imgV x ve vp vs] W fun e w' => e = .returned (.int .i64 (erI (imgOkB x) 2)) ∧ Below W.heap.size W w') := fun W hW => imgCheck36 x ve vp vs W (h.keep hW)
  have HIP := Lib.hid (fun hk : imgOkB x = true => imgOk_parts hk)
  unfold imgV at *
  obtain ⟨⟨⟨p1, c1, _, _, rfl, -⟩, ⟨p2, c2, _, _, rfl, -⟩, -⟩, ⟨p3, c3, b3, o3, rfl, -, hmx3, hp3, hc3⟩, hen0, hen1⟩ := h
  have HC := Lib.hid hc3; clear hc3
  have HP := Lib.hid hp3; clear hp3
  have hmm := @run_makeMap Tryz.prog
  go_enter Tryz.func23, Tryz.ntmps23
  go_wp2_with fail
  have HL0 := Lib.hid (look_made w ⟨x.man.pages, .slice p1 x.man.exts.length c1, .slice p2 x.man.ports.length c2, x.man.cons, x.entry, .slice p3 x.segs.length c3⟩ (.cells #[.int .u32 x.man.pages, .slice p1 x.man.exts.length c1, .slice p2 x.man.ports.length c2, .bool x.man.cons, .int .u32 x.entry, .slice p3 x.segs.length c3] 29))
  unfold codeArr at HL0
  simp only [] at HL0
  have HB0 : Hid (Below w.heap.size w (((w.alloc (.cells #[.int .u32 x.man.pages, .slice p1 x.man.exts.length c1, .slice p2 x.man.ports.length c2, .bool x.man.cons, .int .u32 x.entry, .slice p3 x.segs.length c3] 29)).alloc (.map #[] 0)).alloc (.cells #[.int .u32 x.man.pages, .slice p1 x.man.exts.length c1, .slice p2 x.man.ports.length c2, .bool x.man.cons, .int .u32 x.entry, .slice p3 x.segs.length c3, .map (some (w.heap.size + 1)), .slice none 0 0] 57))) := ((alloc_old w _).alloc (by simp) _).alloc (by simp; omega) _
  generalize (((w.alloc (.cells #[.int .u32 x.man.pages, .slice p1 x.man.exts.length c1, .slice p2 x.man.ports.length c2, .bool x.man.cons, .int .u32 x.entry, .slice p3 x.segs.length c3] 29)).alloc (.map #[] 0)).alloc (.cells #[.int .u32 x.man.pages, .slice p1 x.man.exts.length c1, .slice p2 x.man.ports.length c2, .bool x.man.cons, .int .u32 x.entry, .slice p3 x.segs.length c3, .map (some (w.heap.size + 1)), .slice none 0 0] 57)) = w1 at *
  refine (HCK.out _ HB0.out).mono ?_
  rintro e w2 ⟨rfl, hB2⟩
  have HL2 := Lib.hid (HL0.out.keep hB2)
  have HB2 : Hid (Below w.heap.size w w2) := HB0.out.trans (hB2.mono HB0.out.size)
  clear hB2 HL0 HB0 HCK hmm
  generalize hcb : w.heap.size + 2 = cb at HL2
  generalize hmb : w.heap.size + 1 = mb at HL2
  cases hk : imgOkB x with
  | false =>
    have HLX := Lib.hid (linesX_no hk)
    simp only [erI]
    obtain ⟨a5, a6, a7, f5, f7⟩ := HL2.out.cells
    have HL3 := Lib.hid (HL2.out.noSegs (u := .slice none 0 0))
    have HB3 : Hid (Below w.heap.size w (w2.setCell ⟨cb, 5, none⟩ (.slice none 0 0))) := HB2.out.setCell (by show w.heap.size ≤ cb; omega) _
    have HK := Lib.hid hk; clear hk
    go_wp2_with fail
    generalize w2.setCell ⟨cb, 5, none⟩ (.slice none 0 0) = w3 at *
    go_loopw [27] (fun i wr => i = .int .i64 0 ∧ wr = w3) (fun _ _ => 0)
    case atStart => exact ⟨rfl, rfl⟩
    case round =>
      obtain ⟨rfl, rfl⟩ := hrel
      go_wp2
      go_ret
      exact ⟨cb, mb, _, _, rfl, by rw [HLX.out]; exact HL3.out, by rw [HK.out], HB3.out⟩
  | true =>
    have HLX := Lib.hid (linesX_yes hk)
    obtain ⟨hn8, hn1, -, hsg, -⟩ := HIP.out hk
    have HSG := Lib.hid hsg; clear hsg HIP
    have HK := Lib.hid hk; clear hk
    simp only [erI]
    obtain ⟨a5, a6, a7, f5, f7⟩ := HL2.out.cells
    obtain rfl := HP.out (by omega)
    obtain ⟨iN, hi, hz0, hz1, hz2⟩ := info_parts info_num
    have HI := Lib.hid (And.intro hi (And.intro hz0 (And.intro hz1 hz2)))
    clear hi hz0 hz1 hz2
    have HCB := Lib.hid (And.intro hcb hmb); clear hcb hmb
    go_wp2_with fail
    clear a5 a6 a7 f5 f7
    go_loopw [27] (fun v27 wr => ∃ (k : Nat) (v : Value), v27 = .int .i64 k ∧ k ≤ x.segs.length ∧ LookSt w.heap.size cb mb ⟨x.man.pages, .slice p1 x.man.exts.length c1, .slice p2 x.man.ports.length c2, x.man.cons, x.entry, .slice (some ⟨b3, o3, none⟩) x.segs.length c3⟩ v (codeLines (x.segs.take k)) wr ∧ Below w.heap.size w wr) (fun v27 _ => x.segs.length - (intOf v27).toNat)
    case atStart => exact ⟨0, _, by go_num, Nat.zero_le _, HL2.out, HB2.out⟩
    case round =>
      obtain ⟨k, v, rfl, hk, hst, hB⟩ := hrel
      have HST := Lib.hid hst; clear hst
      have HB := Lib.hid hB; clear hB
      by_cases hlt : k < x.segs.length
      · obtain ⟨g0, g1, g2, g3, g4, g5, g6⟩ := segR_keeps _ _ _ _ _ HB.out (HC.out k hlt)
        have HTK := Lib.hid (codeLines_take hlt)
        have HNW := Lib.hid (fun (j : Nat) (h5 : x.segs[k].perm = 5) (hj : j < x.segs[k].bytes.size / 8) => code_new HSG.out hlt h5 hj)
        have HLN := Lib.hid (fun (j : Nat) (h5 : x.segs[k].perm = 5) (hj : j ≤ x.segs[k].bytes.size / 8) => code_len HSG.out hn8 hlt h5 hj)
        have HSP : Hid ((x.segs[k].perm = 1 ∨ x.segs[k].perm = 3 ∨ x.segs[k].perm = 5) ∧ 256 ≤ x.segs[k].addr ∧ x.segs[k].addr + x.segs[k].bytes.size ≤ 131072) := segsGo_each HSG.out hlt (by omega)
        generalize x.segs[k] = s at *
        obtain ⟨xa, xp, xb⟩ := s
        simp only [] at *
        obtain ⟨hp, ha0, ha1⟩ := HSP.out
        have k1 : bits BinOp.and IntKind.u8 1 4 = 0 := by decide +kernel
        have k3 : bits BinOp.and IntKind.u8 3 4 = 0 := by decide +kernel
        have k5 : bits BinOp.and IntKind.u8 5 4 = 4 := by decide +kernel
        have hp' : (xp = 1 ∨ xp = 3) ∨ xp = 5 := by omega
        rcases hp' with hp2 | rfl
        · have HT2 : Hid (codeLines (x.segs.take (k + 1)) = codeLines (x.segs.take k)) := Lib.hid (by rw [HTK.out, if_neg (by omega)]; simp)
          clear HTK HNW HLN HSP hp
          rcases hp2 with rfl | rfl
          all_goals
            go_wp2
            go_roundw
            case rel => exact ⟨k + 1, v, by go_num, by omega, by rw [HT2.out]; exact HST.out.keep (alloc_old _ _), HB.out.alloc HB.out.size _⟩
            case measure => simp [intOf]; omega
        · have HT2 : Hid (codeLines (x.segs.take (k + 1)) = codeLines (x.segs.take k) ++ linesSeg ⟨xa, 5, xb⟩) := Lib.hid (by rw [HTK.out, if_pos rfl])
          clear HTK HSP hp
          obtain ⟨wo, rfl⟩ : ∃ wo : World, wo = wr := ⟨_, rfl⟩
          go_wp2_with fail
          have HST1 := Lib.hid (HST.out.keep (alloc_old wo (.cells #[.int .u32 xa, .int .u8 5, .string xb] 45)))
          have HB1 : Hid (Below w.heap.size w (wo.alloc (.cells #[.int .u32 xa, .int .u8 5, .string xb] 45))) := HB.out.alloc HB.out.size _
          have HSX := Lib.hid (new_block wo (.cells #[.int .u32 xa, .int .u8 5, .string xb] 45))
          have hso : w.heap.size ≤ wo.heap.size := HB.out.size
          generalize hsb : wo.heap.size = sb at HSX hso
          have HSB := Lib.hid hsb; clear hsb
          generalize wo.alloc (.cells #[.int .u32 xa, .int .u8 5, .string xb] 45) = w3 at *
          clear HST HB g0 g1 g2 g3
          go_loopw [6] (fun v6 wi => ∃ (j : Nat) (v' : Value), v6 = .int .i64 (8 * (j : Int)) ∧ j ≤ xb.size / 8 ∧ LookSt w.heap.size cb mb ⟨x.man.pages, .slice p1 x.man.exts.length c1, .slice p2 x.man.ports.length c2, x.man.cons, x.entry, .slice (some ⟨b3, o3, none⟩) x.segs.length c3⟩ v' (codeLines (x.segs.take k) ++ linesTo ⟨xa, 5, xb⟩ j) wi ∧ wi.heap[sb]? = some (.cells #[.int .u32 xa, .int .u8 5, .string xb] 45 (0, 0)) ∧ Below w.heap.size w wi) (fun v6 _ => 1000000 - (intOf v6).toNat)
          case atStart => exact ⟨0, v, by go_num, Nat.zero_le _, by rw [show linesTo ⟨xa, 5, xb⟩ 0 = [] from rfl, List.append_nil]; exact HST1.out, HSX.out, HB1.out⟩
          case round =>
            obtain ⟨j, v', rfl, hj, hst, hsx, hB⟩ := hrel
            obtain ⟨pv', cv', rfl⟩ := own_shape hst.row
            have HST2 := Lib.hid hst; clear hst
            have HB2' := Lib.hid hB; clear hB
            have HSX2 := Lib.hid hsx; clear hsx
            have s0 := Lib.cell_of_heap HSX2.out 0
            have s2 := Lib.cell_of_heap HSX2.out 2
            have hsbl : sb < wr.heap.size := (Array.getElem?_eq_some_iff.1 HSX2.out).1
            clear HST1 HB1 HSX
            by_cases hjl : j < xb.size / 8
            · have hcond : 8 * (j : Int) + 8 ≤ (xb.size : Int) := by omega
              have HTS := Lib.hid (linesTo_succ ⟨xa, 5, xb⟩ j)
              have HNW2 := Lib.hid (HNW.out j (by simp) hjl)
              have HLN2 := Lib.hid (HLN.out j (by simp) hj)
              obtain ⟨e, he⟩ : ∃ e, xb.extract (8 * j) (8 * j + 8) = e := ⟨_, rfl⟩
              have HLE : Hid (lnAt ⟨xa, 5, xb⟩ j = ⟨xa + 8 * (j : Int), insOf e.data.toList, (decI e.data.toList).isSome⟩) := Lib.hid (by
                unfold lnAt
                rw [lnOf_eq, ← he, Lib.extract_data]
                simp only []
                rw [show 8 * j + 8 - 8 * j = 8 by omega])
              have HDC := Lib.hid (fun W => insDec_any e W)
              unfold insV at HDC
              generalize insOf e.data.toList = ins at HDC HLE
              generalize (decI e.data.toList).isSome = is at HDC HLE
              obtain ⟨io, id, ia, ib, im⟩ := ins
              have hev : (erI is 7 == 0) = is := by cases is <;> rfl
              generalize erI is 7 = ev at hev HDC
              simp only [] at HDC
              have q1 : (8 * (j : Int)).toNat = 8 * j := by omega
              have q2 : (8 * (j : Int) + 8).toNat = 8 * j + 8 := by omega
              have q3 : IntKind.u32.wrap (8 * (j : Int)) = 8 * (j : Int) := by rw [IntKind.wrap_u32]; omega
              have q4 : IntKind.u32.wrap (xa + 8 * (j : Int)) = xa + 8 * (j : Int) := by rw [IntKind.wrap_u32]; omega
              have q5 : 8 * (j : Int) % 4294967296 = 8 * (j : Int) := by omega
              have q6 : (xa + 8 * (j : Int)) % 4294967296 = xa + 8 * (j : Int) := by omega
              go_wp2_with fail
              refine (HDC.out _).mono ?_
              rintro e2 w4 ⟨rfl, hB4⟩
              have HB4 := Lib.hid hB4
              replace s0 := cell_keep hB4 hsbl s0
              obtain ⟨-, a6, a7, -, f7⟩ := (HST2.out.keep hB4).cells
              have hz4 : sb < w4.heap.size := by have := hB4.size; omega
              have hcl : cb < w4.heap.size := by have := hB4.size; have := HST2.out.lt; omega
              have hn1 : ¬ w4.heap.size = cb := by omega
              have hn2 : ¬ w4.heap.size = sb := by omega
              clear hB4 s2 q1 q2 he HDC
              go_wp2_with fail
              have y0 : (w4.alloc (.cells #[.int .u8 io, .int .u8 id, .int .u8 ia, .int .u8 ib, .int .u32 im] 49)).cell? ⟨w4.heap.size, 0, none⟩ = some (.int .u8 io) := by simp [go_sem]
              have y1 : (w4.alloc (.cells #[.int .u8 io, .int .u8 id, .int .u8 ia, .int .u8 ib, .int .u32 im] 49)).cell? ⟨w4.heap.size, 1, none⟩ = some (.int .u8 id) := by simp [go_sem]
              have y2 : (w4.alloc (.cells #[.int .u8 io, .int .u8 id, .int .u8 ia, .int .u8 ib, .int .u32 im] 49)).cell? ⟨w4.heap.size, 2, none⟩ = some (.int .u8 ia) := by simp [go_sem]
              have y3 : (w4.alloc (.cells #[.int .u8 io, .int .u8 id, .int .u8 ia, .int .u8 ib, .int .u32 im] 49)).cell? ⟨w4.heap.size, 3, none⟩ = some (.int .u8 ib) := by simp [go_sem]
              have y4 : (w4.alloc (.cells #[.int .u8 io, .int .u8 id, .int .u8 ia, .int .u8 ib, .int .u32 im] 49)).cell? ⟨w4.heap.size, 4, none⟩ = some (.int .u32 im) := by simp [go_sem]
              have HB5 : Hid (Below wr.heap.size wr (w4.alloc (.cells #[.int .u8 io, .int .u8 id, .int .u8 ia, .int .u8 ib, .int .u32 im] 49))) := HB4.out.alloc HB4.out.size _
              replace a6 := cell_keep (alloc_old w4 (.cells #[.int .u8 io, .int .u8 id, .int .u8 ia, .int .u8 ib, .int .u32 im] 49)) hcl a6
              have hcl5 : cb < (w4.alloc (.cells #[.int .u8 io, .int .u8 id, .int .u8 ia, .int .u8 ib, .int .u32 im] 49)).heap.size := by simp; omega
              clear a7 f7 s0 hcl
              generalize w4.alloc (.cells #[.int .u8 io, .int .u8 id, .int .u8 ia, .int .u8 ib, .int .u32 im] 49) = w5 at *
              have HM5 := Lib.hid (HST2.out.keep HB5.out).map
              go_still_tail 10, (by kernel_rfl)
              refine wpList_putK _ rfl _ _ _ 55 rfl 60 u32Keyed Tryz.underlying55 rfl HM5.out.drew (by have := HLN2.out; unfold maxLen; omega) (xa + 8 * (j : Int)) (lineV ⟨xa + 8 * (j : Int), ⟨io, id, ia, ib, im⟩, is⟩) rfl rfl (show u32ok _ by unfold u32ok; omega) ?_
              intro w6 hM6 hg6
              have HM6 := Lib.hid hM6; clear hM6
              have HG6 := Lib.hid hg6
              have HB5d : Hid (Below wr.heap.size wr w5.drew) := HB5.out.drew
              have hb6 := HST2.out.box4 HB5d.out hg6
              have HR6 := Lib.hid (HST2.out.row4 HB5d.out hg6)
              have c7 : w6.cell? ⟨cb, 7, none⟩ = some (.slice pv' (codeLines (x.segs.take k) ++ linesTo ⟨xa, 5, xb⟩ j).length cv') := Lib.cell_of_heap hb6 7
              have HB6 := Lib.hid hb6
              have hz6 : w5.heap.size ≤ w6.heap.size := hg6.size
              have hcl6 : cb < w6.heap.size := by omega
              have hwb : w.heap.size ≤ w6.heap.size := by have := HB5.out.size; have := HB2'.out.size; omega
              clear hb6 hg6 a6 y0 y1 y2 y3 y4 HM5
              have hln := HLN2.out
              generalize hLL : (codeLines (x.segs.take k) ++ linesTo ⟨xa, 5, xb⟩ j) = LL at *
              have HLL := Lib.hid hLL; clear hLL
              go_wp2_with (at_builtin; refine wpList_append_own _ rfl _ _ 38 rfl w.heap.size 22 iN (.int .u32 0) 1 4 Tryz.underlying38 HI.out.1 HI.out.2.1 HI.out.2.2.1 HI.out.2.2.2 rfl (by decide) _ _ _ rfl (HR6.out.alloc _) ⟨w6.heap.size, 0, none⟩ 1 1 [.int .u32 (xa + 8 * (j : Int))] rfl rfl ?c1 one_u32 ?c3 ?c4 ?c5 ?_)
              case c1 => exact one_news (by simp [go_sem])
              case c3 => unfold maxLen; omega
              case c4 => omega
              case c5 => simp; omega
              intro v7 w7 hown7 hgrow7 _
              have hb7 : w7.heap[cb]? = some (.cells (codeArr ⟨x.man.pages, .slice p1 x.man.exts.length c1, .slice p2 x.man.ports.length c2, x.man.cons, x.entry, .slice (some ⟨b3, o3, none⟩) x.segs.length c3⟩ mb (.slice pv' LL.length cv')) 57 (0, 0)) :=
                (hgrow7.block cb (by simp; omega) (fun e => own_ne_box HR6.out HB6.out (by decide) e.symm)).trans ((Below.heap_alloc w6 _ cb hcl6).trans HB6.out)
              have e1 : w7.cell? ⟨cb, 7, none⟩ = some (.slice pv' LL.length cv') := Lib.cell_of_heap hb7 7
              have e2 : w7.frozen? ⟨cb, 7, none⟩ = false := Lib.frozen_of_heap hb7 7
              obtain ⟨pv7, cv7, rfl⟩ := own_shape hown7
              have hwz : w.heap.size ≤ wr.heap.size := HB2'.out.size
              obtain ⟨k8, k9⟩ := HST2.out.add (y := ⟨xa + 8 * (j : Int), ⟨io, id, ia, ib, im⟩, is⟩) hwz (fun z hz => by have := HNW2.out z hz; rw [lnAt_addr] at this; exact this) HB5d.out HB2'.out HM6.out HG6.out hown7 hgrow7
              obtain ⟨n1, n2, n3⟩ := HST2.out.apart HSX2.out (by decide) (by decide)
              have k10 := look_far (u := .slice pv7 (LL.length + 1) cv7) HB5d.out HG6.out hgrow7 hsbl n1 n2 n3
              have K8 := Lib.hid k8
              have K9 := Lib.hid k9
              have K10 := Lib.hid (k10.trans HSX2.out)
              clear k8 k9 k10 n1 n2 n3 hown7 hgrow7 hb7 c7 HM6 HG6
              have HLF : Hid (codeLines (x.segs.take k) ++ linesTo ⟨xa, 5, xb⟩ (j + 1) = LL ++ [⟨xa + 8 * (j : Int), ⟨io, id, ia, ib, im⟩, is⟩]) := Lib.hid (by rw [HTS.out, ← List.append_assoc, HLL.out, HLE.out])
              go_wp2
              go_roundw
              case rel => exact ⟨j + 1, _, by go_num, by omega, by rw [HLF.out]; exact K8.out, K10.out, K9.out⟩
              case measure => simp [intOf]; omega
            · obtain rfl : j = xb.size / 8 := by omega
              have hcond : ¬ 8 * ((xb.size / 8 : Nat) : Int) + 8 ≤ (xb.size : Int) := by omega
              have HFN := Lib.hid HST2.out
              rw [linesTo_all, ← HT2.out] at HFN
              go_wp2
              go_roundw
              case rel => exact ⟨k + 1, _, by go_num, by omega, HFN.out, HB2'.out⟩
              case measure => simp [intOf]; omega
      · obtain rfl : k = x.segs.length := by omega
        have HLF := Lib.hid HST.out
        rw [List.take_length] at HLF
        go_wp2
        go_ret
        exact ⟨cb, mb, _, _, rfl, by rw [HLX.out]; exact HLF.out, by rw [HK.out], HB.out⟩
end Go.Proofs.YtghopakbefageaaGreat
namespace Go.Proofs.YtghopakbefageaaGreat
open Go.RowKit Go.Maps
def LnB (y : GLn) : Prop := InsB y.ins ∧ 0 ≤ y.addr ∧ y.addr ≤ 4294967295
set_option maxHeartbeats 1000000 in
theorem has36 {base cb mb : Nat} {c : CodeH} {v : Value} {L : List GLn} (a : Int) (w : World) (h : LookSt base cb mb c v L w) (ha : u32ok a) :
    Calls Tryz.prog 46 #[.pointer (some ⟨cb, 0, none⟩), .int .u32 a] w fun e w' => e = .returned (.bool (hasA L a)) ∧ Below w.heap.size w w' := by
  obtain ⟨pg, ve, vp, co, en, vs⟩ := c
  obtain ⟨-, a6, -, -, -⟩ := h.cells
  have HM := Lib.hid h.map
  have HA := Lib.hid ha
  have hz : cb < w.heap.size := h.lt
  have hn : ¬ w.heap.size = cb := by omega
  have HG := Lib.hid (linesF_get L a)
  have HS := Lib.hid (linesF_is L a)
  clear h ha
  generalize (findA L a).getD ln0 = y at HG
  obtain ⟨ya, ⟨io, id, ia, ib, im⟩, yi⟩ := y
  generalize hasA L a = r at HS
  unfold lineV at HG
  simp only [] at HG
  go_enter Tryz.func46, Tryz.ntmps46
  go_wp2_with (refine wpList_lookK_ok _ rfl (.tmp 11) (.tmp 12) 55 rfl 60 u32Keyed Tryz.underlying55 (zeroLine _) rfl HM.out a rfl HA.out HG.out HS.out ?_)
  go_ret
  exact ⟨rfl, by go_grown⟩
theorem ret_boolE {a b : Bool} (h : a = b) : Ending.returned (.bool a) = .returned (.bool b) := by rw [h]
set_option maxHeartbeats 1000000 in
theorem jumps36 (y : GLn) (w : World) : Calls Tryz.prog 45 #[lineV y] w fun e w' => e = .returned (.bool (jumpsB y.ins)) ∧ Below w.heap.size w w' := by
  obtain ⟨ya, ⟨io, id, ia, ib, im⟩, yi⟩ := y
  unfold lineV
  simp only []
  have HC := Lib.hid (fun W b o (h : ∀ j, j < 6 → W.cell? ⟨b, o + j, none⟩ = some (.int .u8 ([40, 41, 43, 44, 45, 46] : List Int)[j]!)) => contains8_any b o 6 6 [40, 41, 43, 44, 45, 46] io W h rfl (by simp))
  have HJ : Hid ((([40, 41, 43, 44, 45, 46] : List Int).any fun z => decide (io = z)) = jumpsB ⟨io, id, ia, ib, im⟩) := Lib.hid (by unfold jumpsB; simp)
  rw [HJ.out] at HC
  go_enter Tryz.func45, Tryz.ntmps45
  go_wp2_with fail
  refine (HC.out _ _ _ ?_).mono ?_
  · intro j hj
    match j, hj with
    | 0, _ => simp [go_sem]
    | 1, _ => simp [go_sem]
    | 2, _ => simp [go_sem]
    | 3, _ => simp [go_sem]
    | 4, _ => simp [go_sem]
    | 5, _ => simp [go_sem]
  rintro e w2 ⟨rfl, rfl⟩
  go_wp2
  go_ret
  exact ⟨rfl, by go_grown⟩
set_option maxHeartbeats 1000000 in
theorem goesOn36 (y : GLn) (w : World) : Calls Tryz.prog 47 #[lineV y] w fun e w' => e = .returned (.bool (goesB y.ins)) ∧ Below w.heap.size w w' := by
  obtain ⟨ya, ⟨io, id, ia, ib, im⟩, yi⟩ := y
  unfold lineV
  simp only []
  have hcs : (Hid (goesB ⟨io, id, ia, ib, im⟩ = false) ∧ (io = 40 ∨ io = 42)) ∨ (Hid (goesB ⟨io, id, ia, ib, im⟩ = !decide (im = 1)) ∧ io = 50) ∨ (Hid (goesB ⟨io, id, ia, ib, im⟩ = true) ∧ (io == 40) = false ∧ (io == 42) = false ∧ (io == 50) = false) := by
    unfold goesB
    by_cases h1 : io = 40
    · exact .inl ⟨by simp [h1, Hid], .inl h1⟩
    · by_cases h2 : io = 42
      · exact .inl ⟨by simp [h2, Hid], .inr h2⟩
      · by_cases h3 : io = 50
        · exact .inr (.inl ⟨by simp [h3, Hid], h3⟩)
        · exact .inr (.inr ⟨by simp [h1, h2, h3, Hid], by simpa using h1, by simpa using h2, by simpa using h3⟩)
  rcases hcs with ⟨HG, rfl | rfl⟩ | ⟨HG, rfl⟩ | ⟨HG, h1, h2, h3⟩
  · go_enter Tryz.func47, Tryz.ntmps47
    go_wp2
    go_ret
    exact ⟨by rw [HG.out]; rfl, by go_grown⟩
  · go_enter Tryz.func47, Tryz.ntmps47
    go_wp2
    go_ret
    exact ⟨by rw [HG.out]; rfl, by go_grown⟩
  · go_enter Tryz.func47, Tryz.ntmps47
    go_wp2
    go_ret
    exact ⟨by rw [HG.out]; rfl, by go_grown⟩
  · go_enter Tryz.func47, Tryz.ntmps47
    go_wp2
    go_ret
    exact ⟨by rw [HG.out]; rfl, by go_grown⟩
end Go.Proofs.YtghopakbefageaaGreat
namespace Go.Proofs.YtghopakbefageaaGreat
open Go.RowKit Go.Maps
structure HeadOf (x : GImg) (c : CodeH) : Prop where
  pg : c.pg = x.man.pages
  co : c.co = x.man.cons
  ve : ∃ p q, c.ve = .slice p x.man.exts.length q
  vp : ∃ p q, c.vp = .slice p x.man.ports.length q
  en : c.en = x.entry
set_option maxHeartbeats 2000000 in
theorem denied36 {base cb mb : Nat} {c : CodeH} {v : Value} {L : List GLn} {x : GImg} (n : Int) (w : World) (h : LookSt base cb mb c v L w) (hx : HeadOf x c) :
    Calls Tryz.prog 48 #[.pointer (some ⟨cb, 0, none⟩), .int .u32 n] w fun e w' => e = .returned (.bool (deniedB x.man n)) ∧ w = w' := by
  obtain ⟨pg, ve, vp, co, en, vs⟩ := c
  obtain ⟨a0, a1, a2, a3, -⟩ := h.cells4
  obtain ⟨h1, h2, ⟨p1, q1, h3⟩, ⟨p2, q2, h4⟩, -⟩ := hx
  simp only [] at h1 h2 h3 h4
  subst h1; subst h2; subst h3; subst h4
  clear h
  have hcs : (n = 9 ∧ Hid (deniedB x.man n = !x.man.cons)) ∨ ((n = 5 ∨ n = 6) ∧ Hid (deniedB x.man n = decide (x.man.exts.length = 0))) ∨ ((n = 7 ∨ n = 8) ∧ Hid (deniedB x.man n = decide (x.man.ports.length = 0))) ∨ (n = 3 ∧ Hid (deniedB x.man n = decide (x.man.pages = 0))) ∨ (Hid (deniedB x.man n = false) ∧ (n == 9) = false ∧ (n == 5) = false ∧ (n == 6) = false ∧ (n == 7) = false ∧ (n == 8) = false ∧ (n == 3) = false) := by
    unfold deniedB
    by_cases k9 : n = 9
    · exact .inl ⟨k9, Lib.hid (by simp [k9])⟩
    · by_cases k5 : n = 5 ∨ n = 6
      · exact .inr (.inl ⟨k5, Lib.hid (by rw [if_neg k9, if_pos k5])⟩)
      · by_cases k7 : n = 7 ∨ n = 8
        · exact .inr (.inr (.inl ⟨k7, Lib.hid (by rw [if_neg k9, if_neg k5, if_pos k7])⟩))
        · by_cases k3 : n = 3
          · exact .inr (.inr (.inr (.inl ⟨k3, Lib.hid (by rw [if_neg k9, if_neg k5, if_neg k7, if_pos k3])⟩)))
          · refine .inr (.inr (.inr (.inr ⟨Lib.hid (by rw [if_neg k9, if_neg k5, if_neg k7, if_neg k3]), ?_⟩)))
            simp; omega
  have d1 : Hid (((x.man.exts.length : Int) == 0) = decide (x.man.exts.length = 0)) := Lib.hid (by rw [Bool.eq_iff_iff]; simp)
  have d2 : Hid (((x.man.ports.length : Int) == 0) = decide (x.man.ports.length = 0)) := Lib.hid (by rw [Bool.eq_iff_iff]; simp)
  rcases hcs with ⟨rfl, HD⟩ | ⟨rfl | rfl, HD⟩ | ⟨rfl | rfl, HD⟩ | ⟨rfl, HD⟩ | ⟨HD, b1, b2, b3, b4, b5, b6⟩
  all_goals
    go_enter Tryz.func48, Tryz.ntmps48
    go_wp2
    go_ret
    exact ⟨by first | (rw [HD.out]; rfl) | (rw [HD.out, ← d1.out]; rfl) | (rw [HD.out, ← d2.out]; rfl) | (rw [HD.out]; simp), rfl⟩
def BehPost (y : GLn) (w : World) (e : Ending) (w' : World) : Prop := ∃ v, e = .returned v ∧ w'.ownsRow w.heap.size 22 1 v (behindL y).length ((behindL y).map (Value.int .u32)) ∧ Below w.heap.size w w'
theorem behind_len (y : GLn) : (behindL y).length ≤ 2 := by unfold behindL; split <;> split <;> simp
theorem behind_bd {y : GLn} (hy : LnB y) : ∀ a ∈ behindL y, 0 ≤ a ∧ a ≤ 4294967295 := by
  intro a ha
  unfold behindL w32 at ha
  obtain ⟨⟨-, -, -, -, h1, h2⟩, h3, h4⟩ := hy
  rcases List.mem_append.1 ha with ha | ha
  · split at ha
    · simp at ha; omega
    · cases ha
  · split at ha
    · simp at ha; omega
    · cases ha
set_option maxHeartbeats 4000000 in
theorem behind36 (y : GLn) (w : World) (hy : LnB y) : Calls Tryz.prog 54 #[lineV y] w (BehPost y w) := by
  have HG := Lib.hid (fun W => goesOn36 y W)
  have HJ := Lib.hid (fun W => jumps36 y W)
  have HBL : Hid (behindL y = (if (y.is && goesB y.ins) = true then [w32 (y.addr + 8)] else []) ++ (if (y.is && jumpsB y.ins) = true then [y.ins.imm] else [])) := Lib.hid rfl
  obtain ⟨hi, hy0, hy1⟩ := hy
  obtain ⟨iN, hi0, hz0, hz1, hz2⟩ := info_parts info_num
  have HI := Lib.hid (And.intro hi0 (And.intro hz0 (And.intro hz1 hz2)))
  clear hi0 hz0 hz1 hz2 hi
  have HEND : Hid (∀ (w' : World) (v : Value) (l : List Int), behindL y = l → w'.ownsRow w.heap.size 22 1 v l.length (l.map (Value.int .u32)) → Below w.heap.size w w' → BehPost y w (.returned v) w') := fun w' v l hl ho hb => by
    exact ⟨v, rfl, by rw [hl]; exact ho, hb⟩
  unfold lineV at *
  generalize goesB y.ins = b1 at HG HBL
  generalize jumpsB y.ins = b2 at HJ HBL
  obtain ⟨ya, ⟨io, id, ia, ib, im⟩, yi⟩ := y
  simp only [] at *
  have r1 : IntKind.u32.wrap (ya + 8) = w32 (ya + 8) := by rw [IntKind.wrap_u32]; rfl
  have r2 : (ya + 8) % 4294967296 = w32 (ya + 8) := rfl
  generalize hWA : w32 (ya + 8) = wa at r1 r2 HBL
  clear hWA
  generalize hW : w.alloc (.cells #[.int .u8 io, .int .u8 id, .int .u8 ia, .int .u8 ib, .int .u32 im, .int .u32 ya, .bool yi] 60) = w1
  have HB1 : Hid (Below w.heap.size w w1) := by subst hW; exact alloc_old w _
  have HX : Hid (w1.heap[w.heap.size]? = some (.cells #[.int .u8 io, .int .u8 id, .int .u8 ia, .int .u8 ib, .int .u32 im, .int .u32 ya, .bool yi] 60 (0, 0))) := by subst hW; exact new_block w _
  have hz1 : w.heap.size < w1.heap.size := by subst hW; simp
  have a0 := Lib.cell_of_heap HX.out 0
  have a1 := Lib.cell_of_heap HX.out 1
  have a2 := Lib.cell_of_heap HX.out 2
  have a3 := Lib.cell_of_heap HX.out 3
  have a4 := Lib.cell_of_heap HX.out 4
  have a5 := Lib.cell_of_heap HX.out 5
  have a6 := Lib.cell_of_heap HX.out 6
  subst hW
  cases yi with
  | false =>
    go_enter Tryz.func54, Tryz.ntmps54
    go_wp2
    go_ret
    exact HEND.out _ _ [] (by rw [HBL.out]; rfl) (World.ownsRow_nil _ _ _ _) HB1.out
  | true =>
    go_enter Tryz.func54, Tryz.ntmps54
    go_wp2_with fail
    refine (HG.out _).mono ?_
    rintro e w2 ⟨rfl, hB2⟩
    have HB2 : Hid (Below w.heap.size w w2) := HB1.out.trans (hB2.mono (by omega))
    have hz2 : w.heap.size < w2.heap.size := by have := hB2.size; omega
    replace a0 := cell_keep hB2 hz1 a0
    replace a1 := cell_keep hB2 hz1 a1
    replace a2 := cell_keep hB2 hz1 a2
    replace a3 := cell_keep hB2 hz1 a3
    replace a4 := cell_keep hB2 hz1 a4
    replace a5 := cell_keep hB2 hz1 a5
    replace a6 := cell_keep hB2 hz1 a6
    clear hB2 HX HB1 hz1
    cases b1 with
    | false =>
      go_wp2_with fail
      refine (HJ.out _).mono ?_
      rintro e w3 ⟨rfl, hB3⟩
      have HB3 : Hid (Below w.heap.size w w3) := HB2.out.trans (hB3.mono (by omega))
      replace a4 := cell_keep hB3 hz2 a4
      clear hB3 a0 a1 a2 a3 a5 a6
      cases b2 with
      | false =>
        go_wp2
        go_ret
        exact HEND.out _ _ [] (by rw [HBL.out]; rfl) (World.ownsRow_nil _ _ _ _) HB3.out
      | true =>
        have HB4 : Hid (Below w.heap.size w (w3.alloc (.cells #[.int .u32 im] 22))) := HB3.out.alloc HB3.out.size _
        go_wp2_with (at_builtin; refine wpList_append_own _ rfl _ _ 38 rfl w.heap.size 22 iN (.int .u32 0) 1 4 Tryz.underlying38 HI.out.1 HI.out.2.1 HI.out.2.2.1 HI.out.2.2.2 rfl (by decide) _ 0 [] rfl (World.ownsRow_nil _ _ _ _) ⟨w3.heap.size, 0, none⟩ 1 1 [.int .u32 im] rfl rfl (one_news (by simp [go_sem])) one_u32 (by unfold maxLen; omega) (by omega) (by have := HB4.out.size; exact this) ?_; intro v5 w5 hown5 hgrow5 _; have HO5 := Lib.hid hown5; have HB5 := Lib.hid (HB4.out.grown hgrow5 HB4.out.size (fun k hk => by cases hk)); clear hown5 hgrow5)
        go_ret
        exact HEND.out _ _ [im] (by rw [HBL.out]; rfl) HO5.out HB5.out
    | true =>
      have HB4 : Hid (Below w.heap.size w (w2.alloc (.cells #[.int .u32 wa] 22))) := HB2.out.alloc HB2.out.size _
      go_wp2_with (at_builtin; refine wpList_append_own _ rfl _ _ 38 rfl w.heap.size 22 iN (.int .u32 0) 1 4 Tryz.underlying38 HI.out.1 HI.out.2.1 HI.out.2.2.1 HI.out.2.2.2 rfl (by decide) _ 0 [] rfl (World.ownsRow_nil _ _ _ _) ⟨w2.heap.size, 0, none⟩ 1 1 [.int .u32 wa] rfl rfl (one_news (by simp [go_sem])) one_u32 (by unfold maxLen; omega) (by omega) (by have := HB4.out.size; exact this) ?_; intro v5 w5 hown5 hgrow5 _; have HO5 := Lib.hid hown5; have HBX := Lib.hid ((alloc_old w2 (.cells #[.int .u32 wa] 22)).grown hgrow5 (by simp) (fun k hk => by cases hk)); have HB5 : Hid (Below w.heap.size w w5) := HB2.out.trans (HBX.out.mono HB2.out.size); replace a0 := cell_keep HBX.out hz2 a0; replace a1 := cell_keep HBX.out hz2 a1; replace a2 := cell_keep HBX.out hz2 a2; replace a3 := cell_keep HBX.out hz2 a3; replace a4 := cell_keep HBX.out hz2 a4; replace a5 := cell_keep HBX.out hz2 a5; replace a6 := cell_keep HBX.out hz2 a6; have hz5 : w.heap.size < w5.heap.size := (by have := HBX.out.size; omega); clear hown5 hgrow5)
      refine (HJ.out _).mono ?_
      rintro e w6 ⟨rfl, hB6⟩
      have HB6 : Hid (Below w.heap.size w w6) := HB5.out.trans (hB6.mono (by omega))
      have HO6 := Lib.hid (ownsRow_below hB6 HO5.out)
      replace a4 := cell_keep hB6 hz5 a4
      clear hB6 a0 a1 a2 a3 a5 a6 HBX
      obtain ⟨pv, cv, rfl⟩ := own_shape HO6.out
      cases b2 with
      | false =>
        go_wp2
        go_ret
        exact HEND.out _ _ [wa] (by rw [HBL.out]; rfl) HO6.out HB6.out
      | true =>
        have HB7 : Hid (Below w.heap.size w (w6.alloc (.cells #[.int .u32 im] 22))) := HB6.out.alloc HB6.out.size _
        go_wp2_with (at_builtin; refine wpList_append_own _ rfl _ _ 38 rfl w.heap.size 22 iN (.int .u32 0) 1 4 Tryz.underlying38 HI.out.1 HI.out.2.1 HI.out.2.2.1 HI.out.2.2.2 rfl (by decide) _ _ _ rfl (HO6.out.alloc _) ⟨w6.heap.size, 0, none⟩ 1 1 [.int .u32 im] rfl rfl (one_news (by simp [go_sem])) one_u32 (by unfold maxLen; omega) (by omega) (by have := HB7.out.size; exact this) ?_; intro v8 w8 hown8 hgrow8 _; have HO8 := Lib.hid hown8; have HB8 := Lib.hid (HB7.out.grown hgrow8 HB7.out.size (fun k hk => (HO6.out.lt k hk).1)); clear hown8 hgrow8)
        go_ret
        exact HEND.out _ _ [wa, im] (by rw [HBL.out]; rfl) HO8.out HB8.out
end Go.Proofs.YtghopakbefageaaGreat
namespace Go.Proofs.YtghopakbefageaaGreat
open Go.RowKit Go.Maps
abbrev Fd := Int × Int
def findCells (x : Fd) : List Value := [.int .u32 x.1, .int .u8 x.2]
def FindR (w : World) (b o : Nat) (x : Fd) : Prop := b < w.heap.size ∧ w.cell? ⟨b, o, none⟩ = some (.int .u32 x.1) ∧ w.cell? ⟨b, o + 1, none⟩ = some (.int .u8 x.2) ∧ (0 ≤ x.1 ∧ x.1 ≤ 4294967295) ∧ (0 ≤ x.2 ∧ x.2 ≤ 255)
theorem findR_keeps : Keeps FindR := fun _ _ _ _ _ hb ⟨h0, h1, h2, r⟩ => ⟨size_keep hb h0, cell_keep hb h0 h1, cell_keep hb h0 h2, r⟩
theorem find_len (x : Fd) : (findCells x).length = 2 := rfl
theorem find_back {w : World} {v : Value} {base : Nat} {e : TypeId} {l : List Fd} (h : w.ownsRow base e 2 v l.length (l.flatMap findCells)) (hl : l.length ≤ 140737488355328) (hb : ∀ x ∈ l, (0 ≤ x.1 ∧ x.1 ≤ 4294967295) ∧ (0 ≤ x.2 ∧ x.2 ≤ 255)) : RowAt 2 FindR w v l :=
  owned_row find_len h hl fun g o i hi hg hc => ⟨hg, hc 0 _ (by omega) rfl, hc 1 _ (by omega) rfl, hb _ (List.getElem_mem hi)⟩
theorem find_one {l : List Fd} : ∀ u ∈ l.flatMap findCells, u.oneCell' = true := by
  intro u hu
  obtain ⟨x, _, hx⟩ := List.mem_flatMap.1 hu
  simp only [findCells, List.mem_cons, List.not_mem_nil, or_false] at hx
  rcases hx with rfl | rfl <;> rfl
theorem find_news {w : World} {b o : Nat} {l : List Fd} (h : ∀ i (hi : i < l.length), FindR w b (o + i * 2) l[i]) : ∀ j u, (l.flatMap findCells)[j]? = some u → w.cell? ((⟨b, o, none⟩ : Addr).add j) = some u := by
  refine row_news find_len (by omega) fun i hi j u hu => ?_
  obtain ⟨-, h1, h2, -⟩ := h i hi
  match j, hu with
  | 0, hu => cases hu; exact h1
  | 1, hu => cases hu; exact h2
theorem two_one8 {a b : Int} : ∀ u ∈ [Value.int .u32 a, Value.int .u8 b], u.oneCell' = true := by
  intro u hu
  simp at hu
  rcases hu with rfl | rfl <;> rfl
theorem two_news8 {w : World} {g : Nat} {a b : Value} (h0 : w.cell? ⟨g, 0, none⟩ = some a) (h1 : w.cell? ⟨g, 1, none⟩ = some b) : ∀ j u, [a, b][j]? = some u → w.cell? ((⟨g, 0, none⟩ : Addr).add j) = some u := by
  intro j u hu
  match j, hu with
  | 0, hu => simp at hu; subst hu; simpa [Addr.add] using h0
  | 1, hu => simp at hu; subst hu; simpa [Addr.add] using h1
theorem info_find : (Tryz.prog.info? 51).map (fun i => (i.zero, i.size, i.bytes)) = some (some (.agg #[.int .u32 0, .int .u8 0]), 2, 8) := by kernel_rfl
/-- a box that holds a row of findings -/
structure FindSt (base lb : Nat) (l : List Fd) (v : Value) (w : World) : Prop where
  box : w.heap[lb]? = some (.cells #[v] 30 (0, 0))
  row : w.ownsRow base 51 2 v l.length (l.flatMap findCells)
  lbl : base ≤ lb
theorem FindSt.lt {base lb : Nat} {l : List Fd} {v : Value} {w : World} (h : FindSt base lb l v w) : lb < w.heap.size := (Array.getElem?_eq_some_iff.1 h.box).1
theorem FindSt.nev {base lb : Nat} {l : List Fd} {v : Value} {w : World} (h : FindSt base lb l v w) : v.ownBlock ≠ some lb := own_ne_box h.row h.box (by decide)
theorem FindSt.keep {base lb : Nat} {l : List Fd} {v : Value} {w w' : World} (hb : Below w.heap.size w w') (h : FindSt base lb l v w) : FindSt base lb l v w' :=
  ⟨(hb.block _ h.lt).trans h.box, ownsRow_below hb h.row, h.lbl⟩
def noteL (b : Bool) (a k : Int) : List Fd := if b = true then [(a, k)] else []
def NotePost (base lb yb : Nat) (l : List Fd) (b : Bool) (a k : Int) (ya : Array Value) (w0 : World) (e : Ending) (w' : World) : Prop :=
  e = .returned (.tuple #[]) ∧ ∃ v', FindSt base lb (l ++ noteL b a k) v' w' ∧ w'.heap[yb]? = some (.cells ya 60 (0, 0)) ∧ Below base w0 w'
set_option maxHeartbeats 4000000 in
set_option maxRecDepth 100000 in
theorem note36 (base lb yb kb kc : Nat) (l : List Fd) (v : Value) (b : Bool) (a k : Int) (ya : Array Value) (w0 w : World) (hst : FindSt base lb l v w) (hy : w.heap[yb]? = some (.cells ya 60 (0, 0))) (hya : ya[5]? = some (.int .u32 a)) (hbe : Below base w0 w) (hl : l.length ≤ 100)
    (hbz : base ≤ w.heap.size) (hk : w.cell? ⟨kb, 0, none⟩ = some (.int .u8 k)) (hkb : kb < w.heap.size) :
    Calls Tryz.prog 44 #[.bool b, .slice (some ⟨kb, 0, none⟩) 1 kc, .pointer (some ⟨lb, 0, none⟩), .pointer (some ⟨yb, 0, none⟩)] w (NotePost base lb yb l b a k ya w0) := by
  have a5 : w.cell? ⟨yb, 5, none⟩ = some (.int .u32 a) := (Lib.cell_of_heap hy 5).trans hya
  have HST := Lib.hid hst
  have HY := Lib.hid hy
  have HBE := Lib.hid hbe
  have HEND : Hid (NotePost base lb yb l false a k ya w0 (.returned (.tuple #[])) w) := Lib.hid ⟨rfl, v, by unfold noteL; rw [if_neg (by simp), List.append_nil]; exact hst, hy, hbe⟩
  obtain ⟨pv, cv, rfl⟩ := own_shape hst.row
  have c0 : w.cell? ⟨lb, 0, none⟩ = some (.slice pv l.length cv) := Lib.cell_of_heap hst.box 0
  have hlb : lb < w.heap.size := hst.lt
  have hyb : yb < w.heap.size := (Array.getElem?_eq_some_iff.1 hy).1
  obtain ⟨iF, hi, hz0, hz1, hz2⟩ := info_parts info_find
  have HI := Lib.hid (And.intro hi (And.intro hz0 (And.intro hz1 hz2)))
  clear hi hz0 hz1 hz2 hst hy hbe hya
  cases b with
  | false =>
    go_enter Tryz.func44, Tryz.ntmps44
    go_wp2
    go_loopw [10] (fun i wr => ∃ j : Nat, j ≤ 1 ∧ i = .int .i64 j ∧ wr = w) (fun i _ => 1 - (intOf i).toNat)
    case atStart => exact ⟨0, by omega, rfl, rfl⟩
    case round =>
      obtain ⟨j, hj, rfl, rfl⟩ := hrel
      by_cases hj0 : j = 0
      · subst hj0
        go_wp2
        go_roundw
        case rel => exact ⟨1, by omega, by go_num, trivial⟩
        case measure => simp [intOf]
      · obtain rfl : j = 1 := by omega
        go_wp2
        go_end0
        exact HEND.out
  | true =>
    clear HEND
    go_enter Tryz.func44, Tryz.ntmps44
    go_wp2
    go_loopw [10] (fun i wr => (i = .int .i64 0 ∧ wr = w) ∨ (i = .int .i64 1 ∧ NotePost base lb yb l true a k ya w0 (.returned (.tuple #[])) wr)) (fun i _ => 1 - (intOf i).toNat)
    case atStart => exact .inl ⟨rfl, rfl⟩
    case round =>
      rcases hrel with ⟨rfl, rfl⟩ | ⟨rfl, hp⟩
      · have HNEW : Hid (∀ j u, [Value.int .u32 a, Value.int .u8 k][j]? = some u → (wr.alloc (.cells #[.int .u32 a, .int .u8 k] 51)).cell? ((⟨wr.heap.size, 0, none⟩ : Addr).add j) = some u) := two_news8 (by simp [go_sem]) (by simp [go_sem])
        go_wp2_with (at_builtin; refine wpList_append_own _ rfl _ _ 30 rfl base 51 iF (.agg #[.int .u32 0, .int .u8 0]) 2 8 Tryz.underlying30 HI.out.1 HI.out.2.1 HI.out.2.2.1 HI.out.2.2.2 rfl (by decide) _ _ _ rfl (HST.out.row.alloc _) ⟨wr.heap.size, 0, none⟩ 1 1 [.int .u32 a, .int .u8 k] rfl rfl HNEW.out two_one8 (by unfold maxLen; omega) (by omega) (by simp; omega) ?_)
        intro v7 w7 hown7 hgrow7 _
        have hb7 : w7.heap[lb]? = some (.cells #[.slice pv l.length cv] 30 (0, 0)) := (hgrow7.block lb (by simp; omega) (fun e => HST.out.nev e.symm)).trans ((Below.heap_alloc wr _ lb hlb).trans HST.out.box)
        have e1 : w7.cell? ⟨lb, 0, none⟩ = some (.slice pv l.length cv) := Lib.cell_of_heap hb7 0
        have e2 : w7.frozen? ⟨lb, 0, none⟩ = false := Lib.frozen_of_heap hb7 0
        obtain ⟨pv7, cv7, rfl⟩ := own_shape hown7
        have HP : Hid (NotePost base lb yb l true a k ya w0 (.returned (.tuple #[])) (w7.setCell ⟨lb, 0, none⟩ (.slice pv7 (l.length + 1) cv7))) := Lib.hid (by
          have hny : yb ≠ lb := fun e => by
            have h1 := HST.out.box
            rw [← e, HY.out] at h1
            injection h1 with h1; injection h1 with _ h1 _; exact absurd h1 (by decide)
          refine ⟨rfl, .slice pv7 (l.length + 1) cv7, ⟨?_, ?_, HST.out.lbl⟩, ?_, ?_⟩
          · simp [World.setCell, Array.getElem?_modify, hb7]
          · have hown8 : w7.ownsRow base 51 2 (.slice pv7 (l.length + 1) cv7) (l ++ noteL true a k).length ((l ++ noteL true a k).flatMap findCells) := by
              unfold noteL
              rw [if_pos rfl, List.flatMap_append, List.length_append]
              exact hown7
            exact own_congr hown8 fun g hg' => Below.heap_setCell _ _ _ _ (fun e => own_ne_box hown8 hb7 (by decide) (by rw [hg', e]))
          · rw [Below.heap_setCell _ _ _ _ (by simpa using hny), hgrow7.block yb (by simp; omega) (fun e => own_ne_box HST.out.row HY.out (by decide) e.symm), Below.heap_alloc wr _ yb hyb]
            exact HY.out
          · have k3 := HBE.out.alloc hbz (.cells #[.int .u32 a, .int .u8 k] 51)
            have k4 := k3.grown hgrow7 (by simp; omega) (fun g hg => (HST.out.row.lt g hg).1)
            exact k4.setCell (by exact HST.out.lbl) _)
        clear hown7 hgrow7 hb7
        go_wp2
        go_roundw
        case rel => exact .inr ⟨by go_num, HP.out⟩
        case measure => simp [intOf]
      · have HP := Lib.hid hp; clear hp
        go_wp2
        go_end0
        exact HP.out
end Go.Proofs.YtghopakbefageaaGreat
