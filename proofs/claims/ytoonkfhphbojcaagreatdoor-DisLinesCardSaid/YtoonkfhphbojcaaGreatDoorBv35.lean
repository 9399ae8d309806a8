/- The walk of the document's parsed. -/
import Derived.Test.YtoonkfhphbojcaaGreatDoorBv32
namespace Go.Proofs.YtoonkfhphbojcaaGreatDoor
open Go.RowKit Go.Maps
set_option maxHeartbeats 8000000 in
set_option maxRecDepth 100000 in
theorem rparsed33 (s : BL) (w : World) (hs : s.length ≤ 1000000) :
    Calls Tryz.prog 43 #[.string (bsOf s)] w fun e w' => e = .returned (parsRV (parsedR (cutAt 32 s))) ∧ Below w.heap.size w w' := by
  have HB1 : Hid (Below w.heap.size w (w.alloc (.cells (insA ins0) 24))) := alloc_old w _
  have hX1 : (w.alloc (.cells (insA ins0) 24)).heap[w.heap.size]? = some (.cells (insA ins0) 24 (0, 0)) := new_block w _
  have HDEF : Hid (parsRV (parsedR (cutAt 32 s)) = .tuple #[insV (parsedR (cutAt 32 s)).1, .string (bsOf (parsedR (cutAt 32 s)).2.1), .bool (parsedR (cutAt 32 s)).2.2]) := Lib.hid rfl
  have HCUT := Lib.hid (rcut33 s 32 (w.alloc (.cells (insA ins0) 24)) hs)
  rw [show ((UInt8.toNat 32 : Nat) : Int) = 32 from rfl] at HCUT
  have HBD : Hid (∀ W, (Instr.build 24 #[]).run Tryz.prog W = .ok (.agg #[.int .u8 0, .int .u8 0, .int .u8 0, .int .u8 0, .int .u32 0]) W) := Lib.hid fun W => run_build W 24 #[] #[.int .u8 0, .int .u8 0, .int .u8 0, .int .u8 0, .int .u32 0] (by kernel_rfl)
  have hpos := cutAt_pos 32 s
  have hlen := (cutAt_len 32 s).1
  have HPDEF : Hid (parsedR (cutAt 32 s) = parsedR (cutAt 32 s)) := Lib.hid rfl
  generalize cutAt 32 s = ps at *
  clear HPDEF
  go_enter Tryz.func43, Tryz.ntmps43
  go_upto_region 1 with fail
  change Code.wp _ _ _ _ (w.alloc (.cells (insA ins0) 24))
  have hz1 : w.heap.size < (w.alloc (.cells (insA ins0) 24)).heap.size := by simp
  generalize (w.alloc (.cells (insA ins0) 24)) = w1 at *
  obtain ⟨rb, hrb⟩ : ∃ rb, rb = w.heap.size := ⟨_, rfl⟩
  rw [show (Value.pointer (some ⟨w.heap.size, 0, none⟩)) = .pointer (some ⟨rb, 0, none⟩) by rw [hrb]]
  rw [← hrb] at hX1 hz1
  have HRB := Lib.hid hrb
  clear hrb
  go_wp2_with fail
  refine HCUT.out.mono ?_
  rintro e w2 ⟨v, rfl, hown, hB2⟩
  obtain ⟨g, cap, rfl, -, hgl⟩ := World.ownsRow.form hown hpos
  have HST : Hid (RPSt rb g cap ps w2) := Lib.hid ⟨(hB2.block rb hz1).trans hX1, hgl, fun j hj => by
    have := World.ownsRow.cells hown (g := g) rfl j (.string (bsOf (ps.getD j []))) (by simp [strCells, hj, List.getD])
    rw [add_at] at this
    simpa using this⟩
  have HB2 : Hid (Below w.heap.size w w2) := Lib.hid (HB1.out.trans (hB2.mono HB1.out.size))
  clear hown hB2 HB1 HCUT hX1 hz1
  obtain ⟨l0, hl0⟩ : ∃ l0, l0 = ps.getD 0 [] := ⟨_, rfl⟩
  have HL0 := Lib.hid hl0
  clear hl0
  go_wp2_with fail
  go_loopw [6] (fun v6 wr => ∃ op : Nat, v6 = .int .u8 op ∧ 1 ≤ op ∧ op ≤ 51 ∧ (∀ o : Int, 1 ≤ o → o < op → opOf l0 ≠ some o) ∧ Below w2.heap.size w2 wr) (fun v6 _ => 51 - (intOf v6).toNat)
  case atStart => exact ⟨1, by go_num, by omega, by omega, fun o h1 h2 => by omega, Below.refl _ _⟩
  case round =>
    obtain ⟨op, rfl, ho1, ho51, hno, hB⟩ := hrel
    have HB := Lib.hid hB; clear hB
    have HNO := Lib.hid hno; clear hno
    have HSR := Lib.hid (HST.out.keep HB.out)
    by_cases h51 : op < 51
    · have e51 : decide ((op : Int) ≤ 50) = true := by simp; omega
      have e51' : decide (op ≤ 50) = true := by simp; omega
      have HRN := Lib.hid (fun W => rname33 (op : Int) W (by omega) (by omega))
      have hgr := HSR.out.lt
      by_cases hu : useOf (op : Int) = 0
      · have HNX : Hid (∀ o : Int, 1 ≤ o → o < ((op + 1 : Nat) : Int) → opOf l0 ≠ some o) := Lib.hid (fun o h1 h2 h3 => by
          by_cases he : o = op
          · subst he; exact ((opOf_iff _ _ h1 (by omega)).1 h3).1 hu
          · exact HNO.out o h1 (by omega) h3)
        have HU := Lib.hid (fun W => ruses_any (op : Int) W)
        unfold rowV at HU
        rw [show rowU (op : Int) = 7 by unfold rowU; rw [if_pos hu], show opIs (op : Int) = false by unfold opIs; simp [hu]] at HU
        go_wp2_with fail
        refine (HU.out _).mono ?_
        rintro e w3 ⟨rfl, hB3⟩
        have HB3 := Lib.hid (HB.out.trans (hB3.mono HB.out.size))
        clear HU hB3
        go_upto_region 6 with fail
        refine wp_region_below rfl (by kernel_rfl) ?_
        repeat (first | go_big_quiet_skip | quiet_step ((go_at_call 89; exact HRN.out _)))
        refine wpQuiet_nil ?_
        rintro w7 hx7; have hB7 := bw_of hx7; clear hx7
        go_wp2
        go_roundw
        case rel => exact ⟨op + 1, by go_num, by omega, by omega, HNX.out, (HB3.out.alloc HB3.out.size _).trans (hB7.mono (by have := HB3.out.size; simp; omega))⟩
        case measure => simp [intOf]; omega
      · have HU := Lib.hid (fun W => ruses_any (op : Int) W)
        unfold rowV at HU
        rw [show rowU (op : Int) = useOf (op : Int) by unfold rowU; rw [if_neg hu], show opIs (op : Int) = true by unfold opIs; simp [hu]] at HU
        go_wp2_with fail
        refine (HU.out _).mono ?_
        rintro e w3 ⟨rfl, hB3⟩
        go_upto_region 6 with fail
        change Code.wp _ _ _ _ (w3.alloc (.cells (useA (op : Int)) 136))
        have HU4 : Hid ((w3.alloc (.cells (useA (op : Int)) 136)).heap[w3.heap.size]? = some (.cells (useA (op : Int)) 136 (0, 0))) := Lib.hid (new_block w3 _)
        have HB4 := Lib.hid ((HB.out.trans (hB3.mono HB.out.size)).alloc (by have := HB.out.size; have := hB3.size; omega) (.cells (useA (op : Int)) 136))
        have HUL : Hid (w3.heap.size < (w3.alloc (.cells (useA (op : Int)) 136)).heap.size) := Lib.hid (by simp)
        have HUG : Hid (w2.heap.size ≤ w3.heap.size) := Lib.hid (by have := HB.out.size; have := hB3.size; omega)
        clear HU hB3 hgr
        generalize (w3.alloc (.cells (useA (op : Int)) 136)) = w4 at *
        generalize w3.heap.size = ub at *
        have HS4 := Lib.hid (HST.out.keep HB4.out)
        have b0 : ∀ x : BW w4, x.u.cell? ⟨g, 0, none⟩ = some (.string (bsOf l0)) := bw_cell HS4.out.lt (by rw [HL0.out]; exact HS4.out.row 0 hpos)
        have HRB4 : Hid (∀ z : BW w4, Calls Tryz.prog 89 #[.int .u8 (op : Int)] z.u fun e w' => e = .returned (.string (bsOf (nameL (op : Int)))) ∧ ∃ y : BW w4, w' = y.u) := Lib.hid (fun z => calls_below (HRN.out z.u))
        clear HRN
        by_cases hnm : nameL (op : Int) = l0
        · have HOP : Hid (opOf l0 = some (op : Int)) := Lib.hid ((opOf_iff _ _ (by omega) (by omega)).2 ⟨hu, hnm⟩)
          have HNM := Lib.hid hnm
          rw [← hnm] at b0
          clear hnm
          refine wp_region_below rfl (by kernel_rfl) ?_
          repeat (first | go_big_quiet_skip | quiet_step ((go_at_call 89; exact HRB4.out _)))
          refine wpQuiet_nil ?_
          rintro w7 hx7; have HB7 := Lib.hid (bw_of hx7); clear hx7
          clear b0
          go_upto_region 8 with fail
          -- INNER
          change Code.wp _ _ _ _ (w7.alloc (.cells (insA ⟨(op : Int), 0, 0, 0, 0⟩) 24))
          have hX8 : (w7.alloc (.cells (insA ⟨(op : Int), 0, 0, 0, 0⟩) 24)).heap[w7.heap.size]? = some (.cells (insA ⟨(op : Int), 0, 0, 0, 0⟩) 24 (0, 0)) := new_block w7 _
          have hU8 : (w7.alloc (.cells (insA ⟨(op : Int), 0, 0, 0, 0⟩) 24)).heap[ub]? = some (.cells (useA (op : Int)) 136 (0, 0)) := (Below.heap_alloc _ _ _ (size_keep HB7.out HUL.out)).trans ((HB7.out.block ub HUL.out).trans HU4.out)
          have HB8 := Lib.hid ((HB4.out.trans (HB7.out.mono HB4.out.size)).alloc (by have := HB4.out.size; have := HB7.out.size; omega) (.cells (insA ⟨(op : Int), 0, 0, 0, 0⟩) 24))
          have HXU : Hid (ub < w7.heap.size ∧ w2.heap.size ≤ w7.heap.size) := Lib.hid ⟨size_keep HB7.out HUL.out, by have := HB4.out.size; have := HB7.out.size; omega⟩
          generalize (w7.alloc (.cells (insA ⟨(op : Int), 0, 0, 0, 0⟩) 24)) = w8 at *
          obtain ⟨xb, hxb⟩ : ∃ xb, xb = w7.heap.size := ⟨_, rfl⟩
          rw [show (Value.pointer (some ⟨w7.heap.size, 0, none⟩)) = .pointer (some ⟨xb, 0, none⟩) by rw [hxb]]
          rw [← hxb] at hX8 HXU
          have HX8 := Lib.hid hX8
          have HU8 := Lib.hid hU8
          have HDZ : Hid (stR (op : Int) ps 4 = none → parsedR ps = (ins0, [], false)) := Lib.hid (fun h => by unfold parsedR; rw [← HL0.out, HOP.out]; simp only [h])
          have HDY : Hid (∀ x imm j, stR (op : Int) ps 4 = some ((x, imm), j) → parsedR ps = (x, imm, decide (j = ps.length) && decide (x.d < 16) && decide (x.a < 16) && decide (x.b < 16))) := Lib.hid (fun x imm j h => by unfold parsedR; rw [← HL0.out, HOP.out]; simp only [h])
          clear hX8 hU8 hxb HB7 HU4 HUL HS4 HRB4 HB4 HSR HNO HNM e51 e51' HUG
          go_wp2_with fail
          go_loopw [10, 11, 12] (fun v10 v11 v12 wr => ∃ (k j : Nat) (x : GIns) (imm : BL), v10 = .string (bsOf imm) ∧ v11 = .int .i64 j ∧ v12 = .int .i64 k ∧ k ≤ 4 ∧ j ≤ k + 1 ∧ j ≤ ps.length ∧ stR (op : Int) ps k = some ((x, imm), j) ∧ wr.heap[xb]? = some (.cells (insA x) 24 (0, 0)) ∧ wr.heap[ub]? = some (.cells (useA (op : Int)) 136 (0, 0)) ∧ Below w2.heap.size w2 wr) (fun _ _ v12 _ => 4 - (intOf v12).toNat)
          case atStart => exact ⟨0, 1, _, [], rfl, by go_num, by go_num, by omega, by omega, hpos, rfl, HX8.out, HU8.out, HB8.out⟩
          case round =>
            obtain ⟨k, j, x, imm, rfl, rfl, rfl, hk, hjk, hjl, hst, hx, hu, hB⟩ := hrel
            have HB := Lib.hid hB; clear hB
            have HSR := Lib.hid (HST.out.keep HB.out)
            have HSTR := Lib.hid hst; clear hst
            have HX := Lib.hid hx; clear hx
            have HU := Lib.hid hu; clear hu
            have y0 : wr.cell? ⟨ub, 0, none⟩ = some (.bool (bitOf (useOf (op : Int)) 1)) := Lib.cell_of_heap HU.out 0
            have y1 : wr.cell? ⟨ub, 1, none⟩ = some (.bool (bitOf (useOf (op : Int)) 2)) := Lib.cell_of_heap HU.out 1
            have y2 : wr.cell? ⟨ub, 2, none⟩ = some (.bool (bitOf (useOf (op : Int)) 4)) := Lib.cell_of_heap HU.out 2
            have y3 : wr.cell? ⟨ub, 3, none⟩ = some (.bool (bitOf (useOf (op : Int)) 8)) := Lib.cell_of_heap HU.out 3
            by_cases h4 : k < 4
            · have HSN : Hid (stR (op : Int) ps (k + 1) = if ubit (op : Int) k then if j < ps.length then some (setR x imm (ps.getD j []) k, j + 1) else none else some ((x, imm), j)) := Lib.hid (by rw [stR, HSTR.out])
              have HNO : Hid (stR (op : Int) ps (k + 1) = none → parsedR ps = (ins0, [], false)) := Lib.hid (fun h => HDZ.out (stR_none h h4))
              have HWD : Hid (ps.getD j [] = ps.getD j []) := Lib.hid rfl
              clear HDZ HDY
              have hcs : k = 0 ∨ k = 1 ∨ k = 2 ∨ k = 3 := by omega
              rcases hcs with rfl | rfl | rfl | rfl
              · have HBK : Hid (ubit (op : Int) 0 = bitOf (useOf (op : Int)) 1) := Lib.hid rfl
                cases hb : bitOf (useOf (op : Int)) 1 with
                | false =>
                  rw [hb] at y0 HBK
                  have HN2 : Hid (stR (op : Int) ps (0 + 1) = some ((x, imm), j)) := Lib.hid (by rw [HSN.out, HBK.out]; rfl)
                  go_wp2
                  go_roundw
                  case rel => exact ⟨1, j, x, imm, rfl, rfl, by go_num, by omega, by omega, hjl, HN2.out, (Below.heap_alloc _ _ _ (Array.getElem?_eq_some_iff.1 HX.out).1).trans HX.out, (Below.heap_alloc _ _ _ (Array.getElem?_eq_some_iff.1 HU.out).1).trans HU.out, HB.out.alloc HB.out.size _⟩
                  case measure => simp [intOf]
                | true =>
                  rw [hb] at y0 HBK
                  by_cases hjn : j < ps.length
                  · have ejn : decide ((ps.length : Int) ≤ (j : Int)) = false := by simp; omega
                    have ejn' : decide (ps.length ≤ j) = false := by simp; omega
                    have HN2 : Hid (stR (op : Int) ps (0 + 1) = some (setR x imm (ps.getD j []) 0, j + 1)) := Lib.hid (by rw [HSN.out, HBK.out]; simp only [if_true, hjn])
                    have hrow := HSR.out.row j hjn
                    have hgl := HSR.out.lt
                    obtain ⟨wd, hwd⟩ : ∃ wd, wd = ps.getD j [] := ⟨_, rfl⟩
                    rw [← hwd] at hrow HN2
                    clear hwd HWD HSN HNO HDEF HSTR
                    have HRG := Lib.hid (fun W => rregister33 wd W)
                    generalize hrg : regR wd = q at HRG
                    have HRQ := Lib.hid hrg; clear hrg
                    have hrow2 : (wr.alloc (.cells #[.bool (bitOf (useOf (op : Int)) 1), .bool (bitOf (useOf (op : Int)) 2), .bool (bitOf (useOf (op : Int)) 4), .bool (bitOf (useOf (op : Int)) 8)] 4)).cell? ⟨g, j, none⟩ = some (.string (bsOf wd)) := cell_keep (alloc_old wr _) hgl hrow
                    rw [hb] at hrow2
                    go_wp2_with fail
                    refine (HRG.out _).mono ?_
                    rintro e w9 ⟨rfl, hB9⟩
                    have hX9 : w9.heap[xb]? = some (.cells (insA x) 24 (0, 0)) := (hB9.block xb (by have := (Array.getElem?_eq_some_iff.1 HX.out).1; simp; omega)).trans ((Below.heap_alloc _ _ _ (Array.getElem?_eq_some_iff.1 HX.out).1).trans HX.out)
                    have HU9 : Hid (w9.heap[ub]? = some (.cells (useA (op : Int)) 136 (0, 0))) := Lib.hid ((hB9.block ub (by have := (Array.getElem?_eq_some_iff.1 HU.out).1; simp; omega)).trans ((Below.heap_alloc _ _ _ (Array.getElem?_eq_some_iff.1 HU.out).1).trans HU.out))
                    have HB9 : Hid (Below w2.heap.size w2 w9) := Lib.hid ((HB.out.alloc HB.out.size _).trans (hB9.mono (by have := HB.out.size; simp; omega)))
                    have zc : w9.cell? ⟨xb, 1, none⟩ = some (.int .u8 x.d) := Lib.cell_of_heap hX9 1
                    have zf := Lib.frozen_of_heap hX9 1
                    have HX10 : Hid ((w9.setCell ⟨xb, 1, none⟩ (.int .u8 q)).heap[xb]? = some (.cells (insA (setR x imm wd 0).1) 24 (0, 0))) := Lib.hid (by rw [show ((q : Nat) : Int) = (regR wd : Int) by rw [HRQ.out]]; exact set33 hX9 1 _)
                    have HU10 : Hid ((w9.setCell ⟨xb, 1, none⟩ (.int .u8 q)).heap[ub]? = some (.cells (useA (op : Int)) 136 (0, 0))) := Lib.hid ((Below.heap_setCell _ _ _ _ (by have := HXU.out; simp; omega)).trans HU9.out)
                    have HB10 : Hid (Below w2.heap.size w2 (w9.setCell ⟨xb, 1, none⟩ (.int .u8 q))) := Lib.hid (HB9.out.setCell (p := ⟨xb, 1, none⟩) HXU.out.2 _)
                    clear hB9 hX9 hrow hrow2
                    go_wp2
                    go_roundw
                    case rel => exact ⟨1, j + 1, _, imm, rfl, by go_num, by go_num, by omega, by omega, by omega, HN2.out, HX10.out, HU10.out, HB10.out⟩
                    case measure => simp [intOf]
                  · have ejn : decide ((ps.length : Int) ≤ (j : Int)) = true := by simp; omega
                    have ejn' : decide (ps.length ≤ j) = true := by simp; omega
                    have HN2 : Hid (parsedR ps = (ins0, [], false)) := Lib.hid (HNO.out (by rw [HSN.out, HBK.out]; simp only [if_true, if_neg hjn]))
                    have hr9 : (wr.alloc (.cells #[.bool (bitOf (useOf (op : Int)) 1), .bool (bitOf (useOf (op : Int)) 2), .bool (bitOf (useOf (op : Int)) 4), .bool (bitOf (useOf (op : Int)) 8)] 4)).heap[rb]? = some (.cells (insA ins0) 24 (0, 0)) := (Below.heap_alloc _ _ _ (Array.getElem?_eq_some_iff.1 HSR.out.res).1).trans HSR.out.res
                    have HB9 : Hid (Below w2.heap.size w2 (wr.alloc (.cells #[.bool (bitOf (useOf (op : Int)) 1), .bool (bitOf (useOf (op : Int)) 2), .bool (bitOf (useOf (op : Int)) 4), .bool (bitOf (useOf (op : Int)) 8)] 4))) := Lib.hid (HB.out.alloc HB.out.size _)
                    have hbd := HBD.out
                    clear HSTR HSN HNO HWD HBK HX HU
                    rw [hb] at hr9 HB9
                    go_upto_region 15 with fail
                    generalize (wr.alloc (.cells #[(.bool true), (.bool (bitOf (useOf (op : Int)) 2)), (.bool (bitOf (useOf (op : Int)) 4)), (.bool (bitOf (useOf (op : Int)) 8))] 4)) = w9 at *
                    have z0 : w9.cell? ⟨rb, 0, none⟩ = some (.int .u8 0) := Lib.cell_of_heap hr9 0
                    have f0 := Lib.frozen_of_heap hr9 0
                    have z1 : w9.cell? ⟨rb, 1, none⟩ = some (.int .u8 0) := Lib.cell_of_heap hr9 1
                    have f1 := Lib.frozen_of_heap hr9 1
                    have z2 : w9.cell? ⟨rb, 2, none⟩ = some (.int .u8 0) := Lib.cell_of_heap hr9 2
                    have f2 := Lib.frozen_of_heap hr9 2
                    have z3 : w9.cell? ⟨rb, 3, none⟩ = some (.int .u8 0) := Lib.cell_of_heap hr9 3
                    have f3 := Lib.frozen_of_heap hr9 3
                    have z4 : w9.cell? ⟨rb, 4, none⟩ = some (.int .u32 0) := Lib.cell_of_heap hr9 4
                    have f4 := Lib.frozen_of_heap hr9 4
                    have hr10 : (insSet w9 rb ins0).heap[rb]? = some (.cells (insA ins0) 24 (0, 0)) := insSet_heap hr9
                    have hB10 : Below w.heap.size w (insSet w9 rb ins0) := insSet_below (HB2.out.trans (HB9.out.mono HB2.out.size)) (by rw [HRB.out]; exact Nat.le_refl _)
                    go_wp2
                    change bodyPost _ _ _ _ _ (insSet w9 rb ins0)
                    generalize (insSet w9 rb ins0) = w10 at *
                    clear z0 z1 z2 z3 z4 f0 f1 f2 f3 f4 hr9 HB9
                    have z0 : w10.cell? ⟨rb, 0, none⟩ = some (.int .u8 0) := Lib.cell_of_heap hr10 0
                    have z1 : w10.cell? ⟨rb, 1, none⟩ = some (.int .u8 0) := Lib.cell_of_heap hr10 1
                    have z2 : w10.cell? ⟨rb, 2, none⟩ = some (.int .u8 0) := Lib.cell_of_heap hr10 2
                    have z3 : w10.cell? ⟨rb, 3, none⟩ = some (.int .u8 0) := Lib.cell_of_heap hr10 3
                    have z4 : w10.cell? ⟨rb, 4, none⟩ = some (.int .u32 0) := Lib.cell_of_heap hr10 4
                    exact bodyPost_ret (v := .tuple #[.agg #[.int .u8 0, .int .u8 0, .int .u8 0, .int .u8 0, .int .u32 0], .string (bsOf []), .bool false]) (by simp [results, Tryz.results43, go_sem, z0, z1, z2, z3, z4]; rfl) rfl ⟨by rw [HN2.out]; rfl, hB10⟩
              · have HBK : Hid (ubit (op : Int) 1 = bitOf (useOf (op : Int)) 2) := Lib.hid rfl
                cases hb : bitOf (useOf (op : Int)) 2 with
                | false =>
                  rw [hb] at y1 HBK
                  have HN2 : Hid (stR (op : Int) ps (1 + 1) = some ((x, imm), j)) := Lib.hid (by rw [HSN.out, HBK.out]; rfl)
                  go_wp2
                  go_roundw
                  case rel => exact ⟨2, j, x, imm, rfl, rfl, by go_num, by omega, by omega, hjl, HN2.out, (Below.heap_alloc _ _ _ (Array.getElem?_eq_some_iff.1 HX.out).1).trans HX.out, (Below.heap_alloc _ _ _ (Array.getElem?_eq_some_iff.1 HU.out).1).trans HU.out, HB.out.alloc HB.out.size _⟩
                  case measure => simp [intOf]
                | true =>
                  rw [hb] at y1 HBK
                  by_cases hjn : j < ps.length
                  · have ejn : decide ((ps.length : Int) ≤ (j : Int)) = false := by simp; omega
                    have ejn' : decide (ps.length ≤ j) = false := by simp; omega
                    have HN2 : Hid (stR (op : Int) ps (1 + 1) = some (setR x imm (ps.getD j []) 1, j + 1)) := Lib.hid (by rw [HSN.out, HBK.out]; simp only [if_true, hjn])
                    have hrow := HSR.out.row j hjn
                    have hgl := HSR.out.lt
                    obtain ⟨wd, hwd⟩ : ∃ wd, wd = ps.getD j [] := ⟨_, rfl⟩
                    rw [← hwd] at hrow HN2
                    clear hwd HWD HSN HNO HDEF HSTR
                    have HRG := Lib.hid (fun W => rregister33 wd W)
                    generalize hrg : regR wd = q at HRG
                    have HRQ := Lib.hid hrg; clear hrg
                    have hrow2 : (wr.alloc (.cells #[.bool (bitOf (useOf (op : Int)) 1), .bool (bitOf (useOf (op : Int)) 2), .bool (bitOf (useOf (op : Int)) 4), .bool (bitOf (useOf (op : Int)) 8)] 4)).cell? ⟨g, j, none⟩ = some (.string (bsOf wd)) := cell_keep (alloc_old wr _) hgl hrow
                    rw [hb] at hrow2
                    go_wp2_with fail
                    refine (HRG.out _).mono ?_
                    rintro e w9 ⟨rfl, hB9⟩
                    have hX9 : w9.heap[xb]? = some (.cells (insA x) 24 (0, 0)) := (hB9.block xb (by have := (Array.getElem?_eq_some_iff.1 HX.out).1; simp; omega)).trans ((Below.heap_alloc _ _ _ (Array.getElem?_eq_some_iff.1 HX.out).1).trans HX.out)
                    have HU9 : Hid (w9.heap[ub]? = some (.cells (useA (op : Int)) 136 (0, 0))) := Lib.hid ((hB9.block ub (by have := (Array.getElem?_eq_some_iff.1 HU.out).1; simp; omega)).trans ((Below.heap_alloc _ _ _ (Array.getElem?_eq_some_iff.1 HU.out).1).trans HU.out))
                    have HB9 : Hid (Below w2.heap.size w2 w9) := Lib.hid ((HB.out.alloc HB.out.size _).trans (hB9.mono (by have := HB.out.size; simp; omega)))
                    have zc : w9.cell? ⟨xb, 2, none⟩ = some (.int .u8 x.a) := Lib.cell_of_heap hX9 2
                    have zf := Lib.frozen_of_heap hX9 2
                    have HX10 : Hid ((w9.setCell ⟨xb, 2, none⟩ (.int .u8 q)).heap[xb]? = some (.cells (insA (setR x imm wd 1).1) 24 (0, 0))) := Lib.hid (by rw [show ((q : Nat) : Int) = (regR wd : Int) by rw [HRQ.out]]; exact set33 hX9 2 _)
                    have HU10 : Hid ((w9.setCell ⟨xb, 2, none⟩ (.int .u8 q)).heap[ub]? = some (.cells (useA (op : Int)) 136 (0, 0))) := Lib.hid ((Below.heap_setCell _ _ _ _ (by have := HXU.out; simp; omega)).trans HU9.out)
                    have HB10 : Hid (Below w2.heap.size w2 (w9.setCell ⟨xb, 2, none⟩ (.int .u8 q))) := Lib.hid (HB9.out.setCell (p := ⟨xb, 2, none⟩) HXU.out.2 _)
                    clear hB9 hX9 hrow hrow2
                    go_wp2
                    go_roundw
                    case rel => exact ⟨2, j + 1, _, imm, rfl, by go_num, by go_num, by omega, by omega, by omega, HN2.out, HX10.out, HU10.out, HB10.out⟩
                    case measure => simp [intOf]
                  · have ejn : decide ((ps.length : Int) ≤ (j : Int)) = true := by simp; omega
                    have ejn' : decide (ps.length ≤ j) = true := by simp; omega
                    have HN2 : Hid (parsedR ps = (ins0, [], false)) := Lib.hid (HNO.out (by rw [HSN.out, HBK.out]; simp only [if_true, if_neg hjn]))
                    have hr9 : (wr.alloc (.cells #[.bool (bitOf (useOf (op : Int)) 1), .bool (bitOf (useOf (op : Int)) 2), .bool (bitOf (useOf (op : Int)) 4), .bool (bitOf (useOf (op : Int)) 8)] 4)).heap[rb]? = some (.cells (insA ins0) 24 (0, 0)) := (Below.heap_alloc _ _ _ (Array.getElem?_eq_some_iff.1 HSR.out.res).1).trans HSR.out.res
                    have HB9 : Hid (Below w2.heap.size w2 (wr.alloc (.cells #[.bool (bitOf (useOf (op : Int)) 1), .bool (bitOf (useOf (op : Int)) 2), .bool (bitOf (useOf (op : Int)) 4), .bool (bitOf (useOf (op : Int)) 8)] 4))) := Lib.hid (HB.out.alloc HB.out.size _)
                    have hbd := HBD.out
                    clear HSTR HSN HNO HWD HBK HX HU
                    rw [hb] at hr9 HB9
                    go_upto_region 15 with fail
                    generalize (wr.alloc (.cells #[(.bool (bitOf (useOf (op : Int)) 1)), (.bool true), (.bool (bitOf (useOf (op : Int)) 4)), (.bool (bitOf (useOf (op : Int)) 8))] 4)) = w9 at *
                    have z0 : w9.cell? ⟨rb, 0, none⟩ = some (.int .u8 0) := Lib.cell_of_heap hr9 0
                    have f0 := Lib.frozen_of_heap hr9 0
                    have z1 : w9.cell? ⟨rb, 1, none⟩ = some (.int .u8 0) := Lib.cell_of_heap hr9 1
                    have f1 := Lib.frozen_of_heap hr9 1
                    have z2 : w9.cell? ⟨rb, 2, none⟩ = some (.int .u8 0) := Lib.cell_of_heap hr9 2
                    have f2 := Lib.frozen_of_heap hr9 2
                    have z3 : w9.cell? ⟨rb, 3, none⟩ = some (.int .u8 0) := Lib.cell_of_heap hr9 3
                    have f3 := Lib.frozen_of_heap hr9 3
                    have z4 : w9.cell? ⟨rb, 4, none⟩ = some (.int .u32 0) := Lib.cell_of_heap hr9 4
                    have f4 := Lib.frozen_of_heap hr9 4
                    have hr10 : (insSet w9 rb ins0).heap[rb]? = some (.cells (insA ins0) 24 (0, 0)) := insSet_heap hr9
                    have hB10 : Below w.heap.size w (insSet w9 rb ins0) := insSet_below (HB2.out.trans (HB9.out.mono HB2.out.size)) (by rw [HRB.out]; exact Nat.le_refl _)
                    go_wp2
                    change bodyPost _ _ _ _ _ (insSet w9 rb ins0)
                    generalize (insSet w9 rb ins0) = w10 at *
                    clear z0 z1 z2 z3 z4 f0 f1 f2 f3 f4 hr9 HB9
                    have z0 : w10.cell? ⟨rb, 0, none⟩ = some (.int .u8 0) := Lib.cell_of_heap hr10 0
                    have z1 : w10.cell? ⟨rb, 1, none⟩ = some (.int .u8 0) := Lib.cell_of_heap hr10 1
                    have z2 : w10.cell? ⟨rb, 2, none⟩ = some (.int .u8 0) := Lib.cell_of_heap hr10 2
                    have z3 : w10.cell? ⟨rb, 3, none⟩ = some (.int .u8 0) := Lib.cell_of_heap hr10 3
                    have z4 : w10.cell? ⟨rb, 4, none⟩ = some (.int .u32 0) := Lib.cell_of_heap hr10 4
                    exact bodyPost_ret (v := .tuple #[.agg #[.int .u8 0, .int .u8 0, .int .u8 0, .int .u8 0, .int .u32 0], .string (bsOf []), .bool false]) (by simp [results, Tryz.results43, go_sem, z0, z1, z2, z3, z4]; rfl) rfl ⟨by rw [HN2.out]; rfl, hB10⟩
              · have HBK : Hid (ubit (op : Int) 2 = bitOf (useOf (op : Int)) 4) := Lib.hid rfl
                cases hb : bitOf (useOf (op : Int)) 4 with
                | false =>
                  rw [hb] at y2 HBK
                  have HN2 : Hid (stR (op : Int) ps (2 + 1) = some ((x, imm), j)) := Lib.hid (by rw [HSN.out, HBK.out]; rfl)
                  go_wp2
                  go_roundw
                  case rel => exact ⟨3, j, x, imm, rfl, rfl, by go_num, by omega, by omega, hjl, HN2.out, (Below.heap_alloc _ _ _ (Array.getElem?_eq_some_iff.1 HX.out).1).trans HX.out, (Below.heap_alloc _ _ _ (Array.getElem?_eq_some_iff.1 HU.out).1).trans HU.out, HB.out.alloc HB.out.size _⟩
                  case measure => simp [intOf]
                | true =>
                  rw [hb] at y2 HBK
                  by_cases hjn : j < ps.length
                  · have ejn : decide ((ps.length : Int) ≤ (j : Int)) = false := by simp; omega
                    have ejn' : decide (ps.length ≤ j) = false := by simp; omega
                    have HN2 : Hid (stR (op : Int) ps (2 + 1) = some (setR x imm (ps.getD j []) 2, j + 1)) := Lib.hid (by rw [HSN.out, HBK.out]; simp only [if_true, hjn])
                    have hrow := HSR.out.row j hjn
                    have hgl := HSR.out.lt
                    obtain ⟨wd, hwd⟩ : ∃ wd, wd = ps.getD j [] := ⟨_, rfl⟩
                    rw [← hwd] at hrow HN2
                    clear hwd HWD HSN HNO HDEF HSTR
                    have HRG := Lib.hid (fun W => rregister33 wd W)
                    generalize hrg : regR wd = q at HRG
                    have HRQ := Lib.hid hrg; clear hrg
                    have hrow2 : (wr.alloc (.cells #[.bool (bitOf (useOf (op : Int)) 1), .bool (bitOf (useOf (op : Int)) 2), .bool (bitOf (useOf (op : Int)) 4), .bool (bitOf (useOf (op : Int)) 8)] 4)).cell? ⟨g, j, none⟩ = some (.string (bsOf wd)) := cell_keep (alloc_old wr _) hgl hrow
                    rw [hb] at hrow2
                    go_wp2_with fail
                    refine (HRG.out _).mono ?_
                    rintro e w9 ⟨rfl, hB9⟩
                    have hX9 : w9.heap[xb]? = some (.cells (insA x) 24 (0, 0)) := (hB9.block xb (by have := (Array.getElem?_eq_some_iff.1 HX.out).1; simp; omega)).trans ((Below.heap_alloc _ _ _ (Array.getElem?_eq_some_iff.1 HX.out).1).trans HX.out)
                    have HU9 : Hid (w9.heap[ub]? = some (.cells (useA (op : Int)) 136 (0, 0))) := Lib.hid ((hB9.block ub (by have := (Array.getElem?_eq_some_iff.1 HU.out).1; simp; omega)).trans ((Below.heap_alloc _ _ _ (Array.getElem?_eq_some_iff.1 HU.out).1).trans HU.out))
                    have HB9 : Hid (Below w2.heap.size w2 w9) := Lib.hid ((HB.out.alloc HB.out.size _).trans (hB9.mono (by have := HB.out.size; simp; omega)))
                    have zc : w9.cell? ⟨xb, 3, none⟩ = some (.int .u8 x.b) := Lib.cell_of_heap hX9 3
                    have zf := Lib.frozen_of_heap hX9 3
                    have HX10 : Hid ((w9.setCell ⟨xb, 3, none⟩ (.int .u8 q)).heap[xb]? = some (.cells (insA (setR x imm wd 2).1) 24 (0, 0))) := Lib.hid (by rw [show ((q : Nat) : Int) = (regR wd : Int) by rw [HRQ.out]]; exact set33 hX9 3 _)
                    have HU10 : Hid ((w9.setCell ⟨xb, 3, none⟩ (.int .u8 q)).heap[ub]? = some (.cells (useA (op : Int)) 136 (0, 0))) := Lib.hid ((Below.heap_setCell _ _ _ _ (by have := HXU.out; simp; omega)).trans HU9.out)
                    have HB10 : Hid (Below w2.heap.size w2 (w9.setCell ⟨xb, 3, none⟩ (.int .u8 q))) := Lib.hid (HB9.out.setCell (p := ⟨xb, 3, none⟩) HXU.out.2 _)
                    clear hB9 hX9 hrow hrow2
                    go_wp2
                    go_roundw
                    case rel => exact ⟨3, j + 1, _, imm, rfl, by go_num, by go_num, by omega, by omega, by omega, HN2.out, HX10.out, HU10.out, HB10.out⟩
                    case measure => simp [intOf]
                  · have ejn : decide ((ps.length : Int) ≤ (j : Int)) = true := by simp; omega
                    have ejn' : decide (ps.length ≤ j) = true := by simp; omega
                    have HN2 : Hid (parsedR ps = (ins0, [], false)) := Lib.hid (HNO.out (by rw [HSN.out, HBK.out]; simp only [if_true, if_neg hjn]))
                    have hr9 : (wr.alloc (.cells #[.bool (bitOf (useOf (op : Int)) 1), .bool (bitOf (useOf (op : Int)) 2), .bool (bitOf (useOf (op : Int)) 4), .bool (bitOf (useOf (op : Int)) 8)] 4)).heap[rb]? = some (.cells (insA ins0) 24 (0, 0)) := (Below.heap_alloc _ _ _ (Array.getElem?_eq_some_iff.1 HSR.out.res).1).trans HSR.out.res
                    have HB9 : Hid (Below w2.heap.size w2 (wr.alloc (.cells #[.bool (bitOf (useOf (op : Int)) 1), .bool (bitOf (useOf (op : Int)) 2), .bool (bitOf (useOf (op : Int)) 4), .bool (bitOf (useOf (op : Int)) 8)] 4))) := Lib.hid (HB.out.alloc HB.out.size _)
                    have hbd := HBD.out
                    clear HSTR HSN HNO HWD HBK HX HU
                    rw [hb] at hr9 HB9
                    go_upto_region 15 with fail
                    generalize (wr.alloc (.cells #[(.bool (bitOf (useOf (op : Int)) 1)), (.bool (bitOf (useOf (op : Int)) 2)), (.bool true), (.bool (bitOf (useOf (op : Int)) 8))] 4)) = w9 at *
                    have z0 : w9.cell? ⟨rb, 0, none⟩ = some (.int .u8 0) := Lib.cell_of_heap hr9 0
                    have f0 := Lib.frozen_of_heap hr9 0
                    have z1 : w9.cell? ⟨rb, 1, none⟩ = some (.int .u8 0) := Lib.cell_of_heap hr9 1
                    have f1 := Lib.frozen_of_heap hr9 1
                    have z2 : w9.cell? ⟨rb, 2, none⟩ = some (.int .u8 0) := Lib.cell_of_heap hr9 2
                    have f2 := Lib.frozen_of_heap hr9 2
                    have z3 : w9.cell? ⟨rb, 3, none⟩ = some (.int .u8 0) := Lib.cell_of_heap hr9 3
                    have f3 := Lib.frozen_of_heap hr9 3
                    have z4 : w9.cell? ⟨rb, 4, none⟩ = some (.int .u32 0) := Lib.cell_of_heap hr9 4
                    have f4 := Lib.frozen_of_heap hr9 4
                    have hr10 : (insSet w9 rb ins0).heap[rb]? = some (.cells (insA ins0) 24 (0, 0)) := insSet_heap hr9
                    have hB10 : Below w.heap.size w (insSet w9 rb ins0) := insSet_below (HB2.out.trans (HB9.out.mono HB2.out.size)) (by rw [HRB.out]; exact Nat.le_refl _)
                    go_wp2
                    change bodyPost _ _ _ _ _ (insSet w9 rb ins0)
                    generalize (insSet w9 rb ins0) = w10 at *
                    clear z0 z1 z2 z3 z4 f0 f1 f2 f3 f4 hr9 HB9
                    have z0 : w10.cell? ⟨rb, 0, none⟩ = some (.int .u8 0) := Lib.cell_of_heap hr10 0
                    have z1 : w10.cell? ⟨rb, 1, none⟩ = some (.int .u8 0) := Lib.cell_of_heap hr10 1
                    have z2 : w10.cell? ⟨rb, 2, none⟩ = some (.int .u8 0) := Lib.cell_of_heap hr10 2
                    have z3 : w10.cell? ⟨rb, 3, none⟩ = some (.int .u8 0) := Lib.cell_of_heap hr10 3
                    have z4 : w10.cell? ⟨rb, 4, none⟩ = some (.int .u32 0) := Lib.cell_of_heap hr10 4
                    exact bodyPost_ret (v := .tuple #[.agg #[.int .u8 0, .int .u8 0, .int .u8 0, .int .u8 0, .int .u32 0], .string (bsOf []), .bool false]) (by simp [results, Tryz.results43, go_sem, z0, z1, z2, z3, z4]; rfl) rfl ⟨by rw [HN2.out]; rfl, hB10⟩
              · have HBK : Hid (ubit (op : Int) 3 = bitOf (useOf (op : Int)) 8) := Lib.hid rfl
                cases hb : bitOf (useOf (op : Int)) 8 with
                | false =>
                  rw [hb] at y3 HBK
                  have HN2 : Hid (stR (op : Int) ps (3 + 1) = some ((x, imm), j)) := Lib.hid (by rw [HSN.out, HBK.out]; rfl)
                  go_wp2
                  go_roundw
                  case rel => exact ⟨4, j, x, imm, rfl, rfl, by go_num, by omega, by omega, hjl, HN2.out, (Below.heap_alloc _ _ _ (Array.getElem?_eq_some_iff.1 HX.out).1).trans HX.out, (Below.heap_alloc _ _ _ (Array.getElem?_eq_some_iff.1 HU.out).1).trans HU.out, HB.out.alloc HB.out.size _⟩
                  case measure => simp [intOf]
                | true =>
                  rw [hb] at y3 HBK
                  by_cases hjn : j < ps.length
                  · have ejn : decide ((ps.length : Int) ≤ (j : Int)) = false := by simp; omega
                    have ejn' : decide (ps.length ≤ j) = false := by simp; omega
                    have HN2 : Hid (stR (op : Int) ps (3 + 1) = some (setR x imm (ps.getD j []) 3, j + 1)) := Lib.hid (by rw [HSN.out, HBK.out]; simp only [if_true, hjn])
                    have hrow := HSR.out.row j hjn
                    have hgl := HSR.out.lt
                    obtain ⟨wd, hwd⟩ : ∃ wd, wd = ps.getD j [] := ⟨_, rfl⟩
                    rw [← hwd] at hrow HN2
                    clear hwd HWD HSN HNO HDEF HSTR
                    have hrow2 : (wr.alloc (.cells #[.bool (bitOf (useOf (op : Int)) 1), .bool (bitOf (useOf (op : Int)) 2), .bool (bitOf (useOf (op : Int)) 4), .bool (bitOf (useOf (op : Int)) 8)] 4)).cell? ⟨g, j, none⟩ = some (.string (bsOf wd)) := cell_keep (alloc_old wr _) hgl hrow
                    rw [hb] at hrow2
                    go_wp2
                    go_roundw
                    case rel => exact ⟨4, j + 1, x, wd, rfl, by go_num, by go_num, by omega, by omega, by omega, HN2.out, (Below.heap_alloc _ _ _ (Array.getElem?_eq_some_iff.1 HX.out).1).trans HX.out, (Below.heap_alloc _ _ _ (Array.getElem?_eq_some_iff.1 HU.out).1).trans HU.out, HB.out.alloc HB.out.size _⟩
                    case measure => simp [intOf]
                  · have ejn : decide ((ps.length : Int) ≤ (j : Int)) = true := by simp; omega
                    have ejn' : decide (ps.length ≤ j) = true := by simp; omega
                    have HN2 : Hid (parsedR ps = (ins0, [], false)) := Lib.hid (HNO.out (by rw [HSN.out, HBK.out]; simp only [if_true, if_neg hjn]))
                    have hr9 : (wr.alloc (.cells #[.bool (bitOf (useOf (op : Int)) 1), .bool (bitOf (useOf (op : Int)) 2), .bool (bitOf (useOf (op : Int)) 4), .bool (bitOf (useOf (op : Int)) 8)] 4)).heap[rb]? = some (.cells (insA ins0) 24 (0, 0)) := (Below.heap_alloc _ _ _ (Array.getElem?_eq_some_iff.1 HSR.out.res).1).trans HSR.out.res
                    have HB9 : Hid (Below w2.heap.size w2 (wr.alloc (.cells #[.bool (bitOf (useOf (op : Int)) 1), .bool (bitOf (useOf (op : Int)) 2), .bool (bitOf (useOf (op : Int)) 4), .bool (bitOf (useOf (op : Int)) 8)] 4))) := Lib.hid (HB.out.alloc HB.out.size _)
                    have hbd := HBD.out
                    clear HSTR HSN HNO HWD HBK HX HU
                    rw [hb] at hr9 HB9
                    go_upto_region 15 with fail
                    generalize (wr.alloc (.cells #[(.bool (bitOf (useOf (op : Int)) 1)), (.bool (bitOf (useOf (op : Int)) 2)), (.bool (bitOf (useOf (op : Int)) 4)), (.bool true)] 4)) = w9 at *
                    have z0 : w9.cell? ⟨rb, 0, none⟩ = some (.int .u8 0) := Lib.cell_of_heap hr9 0
                    have f0 := Lib.frozen_of_heap hr9 0
                    have z1 : w9.cell? ⟨rb, 1, none⟩ = some (.int .u8 0) := Lib.cell_of_heap hr9 1
                    have f1 := Lib.frozen_of_heap hr9 1
                    have z2 : w9.cell? ⟨rb, 2, none⟩ = some (.int .u8 0) := Lib.cell_of_heap hr9 2
                    have f2 := Lib.frozen_of_heap hr9 2
                    have z3 : w9.cell? ⟨rb, 3, none⟩ = some (.int .u8 0) := Lib.cell_of_heap hr9 3
                    have f3 := Lib.frozen_of_heap hr9 3
                    have z4 : w9.cell? ⟨rb, 4, none⟩ = some (.int .u32 0) := Lib.cell_of_heap hr9 4
                    have f4 := Lib.frozen_of_heap hr9 4
                    have hr10 : (insSet w9 rb ins0).heap[rb]? = some (.cells (insA ins0) 24 (0, 0)) := insSet_heap hr9
                    have hB10 : Below w.heap.size w (insSet w9 rb ins0) := insSet_below (HB2.out.trans (HB9.out.mono HB2.out.size)) (by rw [HRB.out]; exact Nat.le_refl _)
                    go_wp2
                    change bodyPost _ _ _ _ _ (insSet w9 rb ins0)
                    generalize (insSet w9 rb ins0) = w10 at *
                    clear z0 z1 z2 z3 z4 f0 f1 f2 f3 f4 hr9 HB9
                    have z0 : w10.cell? ⟨rb, 0, none⟩ = some (.int .u8 0) := Lib.cell_of_heap hr10 0
                    have z1 : w10.cell? ⟨rb, 1, none⟩ = some (.int .u8 0) := Lib.cell_of_heap hr10 1
                    have z2 : w10.cell? ⟨rb, 2, none⟩ = some (.int .u8 0) := Lib.cell_of_heap hr10 2
                    have z3 : w10.cell? ⟨rb, 3, none⟩ = some (.int .u8 0) := Lib.cell_of_heap hr10 3
                    have z4 : w10.cell? ⟨rb, 4, none⟩ = some (.int .u32 0) := Lib.cell_of_heap hr10 4
                    exact bodyPost_ret (v := .tuple #[.agg #[.int .u8 0, .int .u8 0, .int .u8 0, .int .u8 0, .int .u32 0], .string (bsOf []), .bool false]) (by simp [results, Tryz.results43, go_sem, z0, z1, z2, z3, z4]; rfl) rfl ⟨by rw [HN2.out]; rfl, hB10⟩
            · obtain rfl : k = 4 := by omega
              have hd := HDY.out _ _ _ HSTR.out
              clear HDZ HDY y0 y1 y2 y3
              have hcs : (parsedR ps = (x, imm, true) ∧ j = ps.length ∧ x.d < 16 ∧ x.a < 16 ∧ x.b < 16) ∨ (parsedR ps = (x, imm, false) ∧ ¬ j = ps.length) ∨ (parsedR ps = (x, imm, false) ∧ j = ps.length ∧ ¬ x.d < 16) ∨ (parsedR ps = (x, imm, false) ∧ j = ps.length ∧ x.d < 16 ∧ ¬ x.a < 16) ∨ (parsedR ps = (x, imm, false) ∧ j = ps.length ∧ x.d < 16 ∧ x.a < 16 ∧ ¬ x.b < 16) := by
                rw [hd]
                by_cases h1 : j = ps.length <;> by_cases h2 : x.d < 16 <;> by_cases h3 : x.a < 16 <;> by_cases h5 : x.b < 16 <;> simp [h1, h2, h3, h5]
              clear hd HSTR hjk h4
              have HXRB : Hid (xb ≠ rb ∧ rb < w2.heap.size) := Lib.hid ⟨by have := HXU.out; have := (Array.getElem?_eq_some_iff.1 HST.out.res).1; omega, (Array.getElem?_eq_some_iff.1 HST.out.res).1⟩
              obtain ⟨xo, xd, xa, xc, xi⟩ := x
              have z0 : wr.cell? ⟨xb, 0, none⟩ = some (.int .u8 xo) := Lib.cell_of_heap HX.out 0
              have z1 : wr.cell? ⟨xb, 1, none⟩ = some (.int .u8 xd) := Lib.cell_of_heap HX.out 1
              have z2 : wr.cell? ⟨xb, 2, none⟩ = some (.int .u8 xa) := Lib.cell_of_heap HX.out 2
              have z3 : wr.cell? ⟨xb, 3, none⟩ = some (.int .u8 xc) := Lib.cell_of_heap HX.out 3
              have z4 : wr.cell? ⟨xb, 4, none⟩ = some (.int .u32 xi) := Lib.cell_of_heap HX.out 4
              simp only [] at hcs
              rcases hcs with ⟨hp, rfl, g1, g2, g3⟩ | ⟨hp, g0⟩ | ⟨hp, rfl, g1⟩ | ⟨hp, rfl, g1, g2⟩ | ⟨hp, rfl, g1, g2, g3⟩
              · have HP := Lib.hid hp; clear hp
                have e1 : decide (xd < 16) = true := by simp; omega
                have e2 : decide (xa < 16) = true := by simp; omega
                have e3 : decide (xc < 16) = true := by simp; omega
                try clear g0
                try clear g1
                try clear g2
                try clear g3
                go_upto_region 26 with fail
                obtain ⟨S, HSD⟩ : ∃ S : World → Prop, ∀ w', S w' ↔ w'.heap[xb]? = some (.cells #[.int .u8 xo, .int .u8 xd, .int .u8 xa, .int .u8 xc, .int .u32 xi] 24 (0, 0)) := ⟨_, fun _ => Iff.rfl⟩
                have HX9 : wr.drew.heap[xb]? = some (.cells #[.int .u8 xo, .int .u8 xd, .int .u8 xa, .int .u8 xc, .int .u32 xi] 24 (0, 0)) := HX.out
                have hr9 : wr.drew.heap[rb]? = some (.cells (insA ins0) 24 (0, 0)) := HSR.out.res
                have HB9 : Below w2.heap.size w2 wr.drew := HB.out.trans (below_drewN (Below.refl _ _) 1)
                have c0 : ∀ u : HW S, u.u.cell? ⟨xb, 0, none⟩ = some (.int .u8 xo) := fun u => Lib.cell_of_heap ((HSD _).1 u.h) 0
                have c1 : ∀ u : HW S, u.u.cell? ⟨xb, 1, none⟩ = some (.int .u8 xd) := fun u => Lib.cell_of_heap ((HSD _).1 u.h) 1
                have c2 : ∀ u : HW S, u.u.cell? ⟨xb, 2, none⟩ = some (.int .u8 xa) := fun u => Lib.cell_of_heap ((HSD _).1 u.h) 2
                have c3 : ∀ u : HW S, u.u.cell? ⟨xb, 3, none⟩ = some (.int .u8 xc) := fun u => Lib.cell_of_heap ((HSD _).1 u.h) 3
                have c4 : ∀ u : HW S, u.u.cell? ⟨xb, 4, none⟩ = some (.int .u32 xi) := fun u => Lib.cell_of_heap ((HSD _).1 u.h) 4
                haveI : Nonempty (HW S) := ⟨⟨_, (HSD _).2 HX9⟩⟩
                clear z0 z1 z2 z3 z4
                have hzr := HXRB.out
                refine wp_region_turn S rfl (n := 24) rfl rfl ?_
                refine wpAnyS_take [0, 1, 2, 3, 4, 5, 6, 7, 8, 9, 10, 11, 12, 13, 14, 15, 16, 17, 18, 19, 20] (by kernel_rfl) (by kernel_rfl) (n := 3) rfl rfl rfl ((HSD _).2 HX9) ?_
                (refine wpReads_step (fun K hK => ?_); go_simp; refine hK _ ?_; clear hK K)
                (refine wpReads_step (fun K hK => ?_); go_simp; refine hK _ ?_; clear hK K)
                (refine wpReads_step (fun K hK => ?_); go_simp; refine hK _ ?_; clear hK K)
                (refine wpReads_step (fun K hK => ?_); go_simp; refine hK _ ?_; clear hK K)
                (refine wpReads_step (fun K hK => ?_); go_simp; refine hK _ ?_; clear hK K)
                (refine wpReads_step (fun K hK => ?_); go_simp; refine hK _ ?_; clear hK K)
                (refine wpReads_step (fun K hK => ?_); go_simp; refine hK _ ?_; clear hK K)
                (refine wpReads_step (fun K hK => ?_); go_simp; refine hK _ ?_; clear hK K)
                (refine wpReads_step (fun K hK => ?_); go_simp; refine hK _ ?_; clear hK K)
                (refine wpReads_step (fun K hK => ?_); go_simp; refine hK _ ?_; clear hK K)
                (refine wpReads_step (fun K hK => ?_); go_simp; refine hK _ ?_; clear hK K)
                (refine wpReads_step (fun K hK => ?_); go_simp; refine hK _ ?_; clear hK K)
                (refine wpReads_step (fun K hK => ?_); go_simp; refine hK _ ?_; clear hK K)
                (refine wpReads_step (fun K hK => ?_); go_simp; refine hK _ ?_; clear hK K)
                (refine wpReads_step (fun K hK => ?_); go_simp; refine hK _ ?_; clear hK K)
                (refine wpReads_step (fun K hK => ?_); go_simp; refine hK _ ?_; clear hK K)
                (refine wpReads_step (fun K hK => ?_); go_simp; refine hK _ ?_; clear hK K)
                (refine wpReads_step (fun K hK => ?_); go_simp; refine hK _ ?_; clear hK K)
                (refine wpReads_step (fun K hK => ?_); go_simp; refine hK _ ?_; clear hK K)
                (refine wpReads_step (fun K hK => ?_); go_simp; refine hK _ ?_; clear hK K)
                (refine wpReads_step (fun K hK => ?_); go_simp; refine hK _ ?_; clear hK K)
                refine wpReads_nil ?_
                generalize wr.drew = w9 at *
                have z0 : w9.cell? ⟨rb, 0, none⟩ = some (.int .u8 0) := Lib.cell_of_heap hr9 0
                have f0 := Lib.frozen_of_heap hr9 0
                have z1 : w9.cell? ⟨rb, 1, none⟩ = some (.int .u8 0) := Lib.cell_of_heap hr9 1
                have f1 := Lib.frozen_of_heap hr9 1
                have z2 : w9.cell? ⟨rb, 2, none⟩ = some (.int .u8 0) := Lib.cell_of_heap hr9 2
                have f2 := Lib.frozen_of_heap hr9 2
                have z3 : w9.cell? ⟨rb, 3, none⟩ = some (.int .u8 0) := Lib.cell_of_heap hr9 3
                have f3 := Lib.frozen_of_heap hr9 3
                have z4 : w9.cell? ⟨rb, 4, none⟩ = some (.int .u32 0) := Lib.cell_of_heap hr9 4
                have f4 := Lib.frozen_of_heap hr9 4
                clear c0 c1 c2 c3 c4
                refine wpAnyS_one (i := 21) (by kernel_rfl) rfl (fun K hK => ?_)
                go_simp
                have hX10 : (insSet w9 rb ⟨xo, xd, xa, xc, xi⟩).heap[xb]? = some (.cells #[.int .u8 xo, .int .u8 xd, .int .u8 xa, .int .u8 xc, .int .u32 xi] 24 (0, 0)) := by
                  unfold insSet; exact (Below.heap_setCell _ _ _ _ (by simpa using hzr.1)).trans ((Below.heap_setCell _ _ _ _ (by simpa using hzr.1)).trans ((Below.heap_setCell _ _ _ _ (by simpa using hzr.1)).trans ((Below.heap_setCell _ _ _ _ (by simpa using hzr.1)).trans ((Below.heap_setCell _ _ _ _ (by simpa using hzr.1)).trans HX9))))
                have hr10 : (insSet w9 rb ⟨xo, xd, xa, xc, xi⟩).heap[rb]? = some (.cells (insA ⟨xo, xd, xa, xc, xi⟩) 24 (0, 0)) := insSet_heap hr9
                have hB10 : Below w.heap.size w (insSet w9 rb ⟨xo, xd, xa, xc, xi⟩) := insSet_below (HB2.out.trans (HB9.mono HB2.out.size)) (by rw [HRB.out]; exact Nat.le_refl _)
                refine hK _ (insSet w9 rb ⟨xo, xd, xa, xc, xi⟩) ((HSD _).2 hX10) ?_; clear hK K
                generalize (insSet w9 rb ⟨xo, xd, xa, xc, xi⟩) = w10 at *
                clear z0 z1 z2 z3 z4 f0 f1 f2 f3 f4 hr9 HX9 HB9
                refine wpAnyS_one (i := 22) (by kernel_rfl) rfl (fun K hK => ?_)
                go_simp; refine hK _ _ ((HSD _).2 hX10) ?_; clear hK K
                refine wpAnyS_one (i := 23) (by kernel_rfl) rfl (fun K hK => ?_)
                go_simp; refine hK _ _ ((HSD _).2 hX10) ?_; clear hK K
                refine wpAnyS_done (by kernel_rfl) (NoPanic.normal ?_)
                have z0 : w10.cell? ⟨rb, 0, none⟩ = some (.int .u8 xo) := Lib.cell_of_heap hr10 0
                have z1 : w10.cell? ⟨rb, 1, none⟩ = some (.int .u8 xd) := Lib.cell_of_heap hr10 1
                have z2 : w10.cell? ⟨rb, 2, none⟩ = some (.int .u8 xa) := Lib.cell_of_heap hr10 2
                have z3 : w10.cell? ⟨rb, 3, none⟩ = some (.int .u8 xc) := Lib.cell_of_heap hr10 3
                have z4 : w10.cell? ⟨rb, 4, none⟩ = some (.int .u32 xi) := Lib.cell_of_heap hr10 4
                go_wp2
                exact bodyPost_ret (v := .tuple #[.agg #[.int .u8 xo, .int .u8 xd, .int .u8 xa, .int .u8 xc, .int .u32 xi], .string (bsOf imm), .bool true]) (by simp [results, Tryz.results43, go_sem, z0, z1, z2, z3, z4]) rfl ⟨by rw [HP.out]; rfl, hB10⟩
              · have HP := Lib.hid hp; clear hp
                have e0 : ((j : Int) == (ps.length : Int)) = false := by simp; omega
                try clear g0
                try clear g1
                try clear g2
                try clear g3
                go_upto_region 26 with fail
                obtain ⟨S, HSD⟩ : ∃ S : World → Prop, ∀ w', S w' ↔ w'.heap[xb]? = some (.cells #[.int .u8 xo, .int .u8 xd, .int .u8 xa, .int .u8 xc, .int .u32 xi] 24 (0, 0)) := ⟨_, fun _ => Iff.rfl⟩
                have HX9 : wr.drew.heap[xb]? = some (.cells #[.int .u8 xo, .int .u8 xd, .int .u8 xa, .int .u8 xc, .int .u32 xi] 24 (0, 0)) := HX.out
                have hr9 : wr.drew.heap[rb]? = some (.cells (insA ins0) 24 (0, 0)) := HSR.out.res
                have HB9 : Below w2.heap.size w2 wr.drew := HB.out.trans (below_drewN (Below.refl _ _) 1)
                have c0 : ∀ u : HW S, u.u.cell? ⟨xb, 0, none⟩ = some (.int .u8 xo) := fun u => Lib.cell_of_heap ((HSD _).1 u.h) 0
                have c1 : ∀ u : HW S, u.u.cell? ⟨xb, 1, none⟩ = some (.int .u8 xd) := fun u => Lib.cell_of_heap ((HSD _).1 u.h) 1
                have c2 : ∀ u : HW S, u.u.cell? ⟨xb, 2, none⟩ = some (.int .u8 xa) := fun u => Lib.cell_of_heap ((HSD _).1 u.h) 2
                have c3 : ∀ u : HW S, u.u.cell? ⟨xb, 3, none⟩ = some (.int .u8 xc) := fun u => Lib.cell_of_heap ((HSD _).1 u.h) 3
                have c4 : ∀ u : HW S, u.u.cell? ⟨xb, 4, none⟩ = some (.int .u32 xi) := fun u => Lib.cell_of_heap ((HSD _).1 u.h) 4
                haveI : Nonempty (HW S) := ⟨⟨_, (HSD _).2 HX9⟩⟩
                clear z0 z1 z2 z3 z4
                have hzr := HXRB.out
                refine wp_region_turn S rfl (n := 24) rfl rfl ?_
                refine wpAnyS_take [0, 1, 2, 3, 4, 5, 6, 7, 8, 9, 10, 11, 12, 13, 14, 15, 16, 17, 18, 19, 20] (by kernel_rfl) (by kernel_rfl) (n := 3) rfl rfl rfl ((HSD _).2 HX9) ?_
                (refine wpReads_step (fun K hK => ?_); go_simp; refine hK _ ?_; clear hK K)
                (refine wpReads_step (fun K hK => ?_); go_simp; refine hK _ ?_; clear hK K)
                (refine wpReads_step (fun K hK => ?_); go_simp; refine hK _ ?_; clear hK K)
                (refine wpReads_step (fun K hK => ?_); go_simp; refine hK _ ?_; clear hK K)
                (refine wpReads_step (fun K hK => ?_); go_simp; refine hK _ ?_; clear hK K)
                (refine wpReads_step (fun K hK => ?_); go_simp; refine hK _ ?_; clear hK K)
                (refine wpReads_step (fun K hK => ?_); go_simp; refine hK _ ?_; clear hK K)
                (refine wpReads_step (fun K hK => ?_); go_simp; refine hK _ ?_; clear hK K)
                (refine wpReads_step (fun K hK => ?_); go_simp; refine hK _ ?_; clear hK K)
                (refine wpReads_step (fun K hK => ?_); go_simp; refine hK _ ?_; clear hK K)
                (refine wpReads_step (fun K hK => ?_); go_simp; refine hK _ ?_; clear hK K)
                (refine wpReads_step (fun K hK => ?_); go_simp; refine hK _ ?_; clear hK K)
                (refine wpReads_step (fun K hK => ?_); go_simp; refine hK _ ?_; clear hK K)
                (refine wpReads_step (fun K hK => ?_); go_simp; refine hK _ ?_; clear hK K)
                (refine wpReads_step (fun K hK => ?_); go_simp; refine hK _ ?_; clear hK K)
                (refine wpReads_step (fun K hK => ?_); go_simp; refine hK _ ?_; clear hK K)
                (refine wpReads_step (fun K hK => ?_); go_simp; refine hK _ ?_; clear hK K)
                (refine wpReads_step (fun K hK => ?_); go_simp; refine hK _ ?_; clear hK K)
                (refine wpReads_step (fun K hK => ?_); go_simp; refine hK _ ?_; clear hK K)
                (refine wpReads_step (fun K hK => ?_); go_simp; refine hK _ ?_; clear hK K)
                (refine wpReads_step (fun K hK => ?_); go_simp; refine hK _ ?_; clear hK K)
                refine wpReads_nil ?_
                generalize wr.drew = w9 at *
                have z0 : w9.cell? ⟨rb, 0, none⟩ = some (.int .u8 0) := Lib.cell_of_heap hr9 0
                have f0 := Lib.frozen_of_heap hr9 0
                have z1 : w9.cell? ⟨rb, 1, none⟩ = some (.int .u8 0) := Lib.cell_of_heap hr9 1
                have f1 := Lib.frozen_of_heap hr9 1
                have z2 : w9.cell? ⟨rb, 2, none⟩ = some (.int .u8 0) := Lib.cell_of_heap hr9 2
                have f2 := Lib.frozen_of_heap hr9 2
                have z3 : w9.cell? ⟨rb, 3, none⟩ = some (.int .u8 0) := Lib.cell_of_heap hr9 3
                have f3 := Lib.frozen_of_heap hr9 3
                have z4 : w9.cell? ⟨rb, 4, none⟩ = some (.int .u32 0) := Lib.cell_of_heap hr9 4
                have f4 := Lib.frozen_of_heap hr9 4
                clear c0 c1 c2 c3 c4
                refine wpAnyS_one (i := 21) (by kernel_rfl) rfl (fun K hK => ?_)
                go_simp
                have hX10 : (insSet w9 rb ⟨xo, xd, xa, xc, xi⟩).heap[xb]? = some (.cells #[.int .u8 xo, .int .u8 xd, .int .u8 xa, .int .u8 xc, .int .u32 xi] 24 (0, 0)) := by
                  unfold insSet; exact (Below.heap_setCell _ _ _ _ (by simpa using hzr.1)).trans ((Below.heap_setCell _ _ _ _ (by simpa using hzr.1)).trans ((Below.heap_setCell _ _ _ _ (by simpa using hzr.1)).trans ((Below.heap_setCell _ _ _ _ (by simpa using hzr.1)).trans ((Below.heap_setCell _ _ _ _ (by simpa using hzr.1)).trans HX9))))
                have hr10 : (insSet w9 rb ⟨xo, xd, xa, xc, xi⟩).heap[rb]? = some (.cells (insA ⟨xo, xd, xa, xc, xi⟩) 24 (0, 0)) := insSet_heap hr9
                have hB10 : Below w.heap.size w (insSet w9 rb ⟨xo, xd, xa, xc, xi⟩) := insSet_below (HB2.out.trans (HB9.mono HB2.out.size)) (by rw [HRB.out]; exact Nat.le_refl _)
                refine hK _ (insSet w9 rb ⟨xo, xd, xa, xc, xi⟩) ((HSD _).2 hX10) ?_; clear hK K
                generalize (insSet w9 rb ⟨xo, xd, xa, xc, xi⟩) = w10 at *
                clear z0 z1 z2 z3 z4 f0 f1 f2 f3 f4 hr9 HX9 HB9
                refine wpAnyS_one (i := 22) (by kernel_rfl) rfl (fun K hK => ?_)
                go_simp; refine hK _ _ ((HSD _).2 hX10) ?_; clear hK K
                refine wpAnyS_one (i := 23) (by kernel_rfl) rfl (fun K hK => ?_)
                go_simp; refine hK _ _ ((HSD _).2 hX10) ?_; clear hK K
                refine wpAnyS_done (by kernel_rfl) (NoPanic.normal ?_)
                have z0 : w10.cell? ⟨rb, 0, none⟩ = some (.int .u8 xo) := Lib.cell_of_heap hr10 0
                have z1 : w10.cell? ⟨rb, 1, none⟩ = some (.int .u8 xd) := Lib.cell_of_heap hr10 1
                have z2 : w10.cell? ⟨rb, 2, none⟩ = some (.int .u8 xa) := Lib.cell_of_heap hr10 2
                have z3 : w10.cell? ⟨rb, 3, none⟩ = some (.int .u8 xc) := Lib.cell_of_heap hr10 3
                have z4 : w10.cell? ⟨rb, 4, none⟩ = some (.int .u32 xi) := Lib.cell_of_heap hr10 4
                go_wp2
                exact bodyPost_ret (v := .tuple #[.agg #[.int .u8 xo, .int .u8 xd, .int .u8 xa, .int .u8 xc, .int .u32 xi], .string (bsOf imm), .bool false]) (by simp [results, Tryz.results43, go_sem, z0, z1, z2, z3, z4]) rfl ⟨by rw [HP.out]; rfl, hB10⟩
              · have HP := Lib.hid hp; clear hp
                have e1 : decide (xd < 16) = false := by simp; omega
                try clear g0
                try clear g1
                try clear g2
                try clear g3
                go_upto_region 26 with fail
                obtain ⟨S, HSD⟩ : ∃ S : World → Prop, ∀ w', S w' ↔ w'.heap[xb]? = some (.cells #[.int .u8 xo, .int .u8 xd, .int .u8 xa, .int .u8 xc, .int .u32 xi] 24 (0, 0)) := ⟨_, fun _ => Iff.rfl⟩
                have HX9 : wr.drew.heap[xb]? = some (.cells #[.int .u8 xo, .int .u8 xd, .int .u8 xa, .int .u8 xc, .int .u32 xi] 24 (0, 0)) := HX.out
                have hr9 : wr.drew.heap[rb]? = some (.cells (insA ins0) 24 (0, 0)) := HSR.out.res
                have HB9 : Below w2.heap.size w2 wr.drew := HB.out.trans (below_drewN (Below.refl _ _) 1)
                have c0 : ∀ u : HW S, u.u.cell? ⟨xb, 0, none⟩ = some (.int .u8 xo) := fun u => Lib.cell_of_heap ((HSD _).1 u.h) 0
                have c1 : ∀ u : HW S, u.u.cell? ⟨xb, 1, none⟩ = some (.int .u8 xd) := fun u => Lib.cell_of_heap ((HSD _).1 u.h) 1
                have c2 : ∀ u : HW S, u.u.cell? ⟨xb, 2, none⟩ = some (.int .u8 xa) := fun u => Lib.cell_of_heap ((HSD _).1 u.h) 2
                have c3 : ∀ u : HW S, u.u.cell? ⟨xb, 3, none⟩ = some (.int .u8 xc) := fun u => Lib.cell_of_heap ((HSD _).1 u.h) 3
                have c4 : ∀ u : HW S, u.u.cell? ⟨xb, 4, none⟩ = some (.int .u32 xi) := fun u => Lib.cell_of_heap ((HSD _).1 u.h) 4
                haveI : Nonempty (HW S) := ⟨⟨_, (HSD _).2 HX9⟩⟩
                clear z0 z1 z2 z3 z4
                have hzr := HXRB.out
                refine wp_region_turn S rfl (n := 24) rfl rfl ?_
                refine wpAnyS_take [0, 1, 2, 3, 4, 5, 6, 7, 8, 9, 10, 11, 12, 13, 14, 15, 16, 17, 18, 19, 20] (by kernel_rfl) (by kernel_rfl) (n := 3) rfl rfl rfl ((HSD _).2 HX9) ?_
                (refine wpReads_step (fun K hK => ?_); go_simp; refine hK _ ?_; clear hK K)
                (refine wpReads_step (fun K hK => ?_); go_simp; refine hK _ ?_; clear hK K)
                (refine wpReads_step (fun K hK => ?_); go_simp; refine hK _ ?_; clear hK K)
                (refine wpReads_step (fun K hK => ?_); go_simp; refine hK _ ?_; clear hK K)
                (refine wpReads_step (fun K hK => ?_); go_simp; refine hK _ ?_; clear hK K)
                (refine wpReads_step (fun K hK => ?_); go_simp; refine hK _ ?_; clear hK K)
                (refine wpReads_step (fun K hK => ?_); go_simp; refine hK _ ?_; clear hK K)
                (refine wpReads_step (fun K hK => ?_); go_simp; refine hK _ ?_; clear hK K)
                (refine wpReads_step (fun K hK => ?_); go_simp; refine hK _ ?_; clear hK K)
                (refine wpReads_step (fun K hK => ?_); go_simp; refine hK _ ?_; clear hK K)
                (refine wpReads_step (fun K hK => ?_); go_simp; refine hK _ ?_; clear hK K)
                (refine wpReads_step (fun K hK => ?_); go_simp; refine hK _ ?_; clear hK K)
                (refine wpReads_step (fun K hK => ?_); go_simp; refine hK _ ?_; clear hK K)
                (refine wpReads_step (fun K hK => ?_); go_simp; refine hK _ ?_; clear hK K)
                (refine wpReads_step (fun K hK => ?_); go_simp; refine hK _ ?_; clear hK K)
                (refine wpReads_step (fun K hK => ?_); go_simp; refine hK _ ?_; clear hK K)
                (refine wpReads_step (fun K hK => ?_); go_simp; refine hK _ ?_; clear hK K)
                (refine wpReads_step (fun K hK => ?_); go_simp; refine hK _ ?_; clear hK K)
                (refine wpReads_step (fun K hK => ?_); go_simp; refine hK _ ?_; clear hK K)
                (refine wpReads_step (fun K hK => ?_); go_simp; refine hK _ ?_; clear hK K)
                (refine wpReads_step (fun K hK => ?_); go_simp; refine hK _ ?_; clear hK K)
                refine wpReads_nil ?_
                generalize wr.drew = w9 at *
                have z0 : w9.cell? ⟨rb, 0, none⟩ = some (.int .u8 0) := Lib.cell_of_heap hr9 0
                have f0 := Lib.frozen_of_heap hr9 0
                have z1 : w9.cell? ⟨rb, 1, none⟩ = some (.int .u8 0) := Lib.cell_of_heap hr9 1
                have f1 := Lib.frozen_of_heap hr9 1
                have z2 : w9.cell? ⟨rb, 2, none⟩ = some (.int .u8 0) := Lib.cell_of_heap hr9 2
                have f2 := Lib.frozen_of_heap hr9 2
                have z3 : w9.cell? ⟨rb, 3, none⟩ = some (.int .u8 0) := Lib.cell_of_heap hr9 3
                have f3 := Lib.frozen_of_heap hr9 3
                have z4 : w9.cell? ⟨rb, 4, none⟩ = some (.int .u32 0) := Lib.cell_of_heap hr9 4
                have f4 := Lib.frozen_of_heap hr9 4
                clear c0 c1 c2 c3 c4
                refine wpAnyS_one (i := 21) (by kernel_rfl) rfl (fun K hK => ?_)
                go_simp
                have hX10 : (insSet w9 rb ⟨xo, xd, xa, xc, xi⟩).heap[xb]? = some (.cells #[.int .u8 xo, .int .u8 xd, .int .u8 xa, .int .u8 xc, .int .u32 xi] 24 (0, 0)) := by
                  unfold insSet; exact (Below.heap_setCell _ _ _ _ (by simpa using hzr.1)).trans ((Below.heap_setCell _ _ _ _ (by simpa using hzr.1)).trans ((Below.heap_setCell _ _ _ _ (by simpa using hzr.1)).trans ((Below.heap_setCell _ _ _ _ (by simpa using hzr.1)).trans ((Below.heap_setCell _ _ _ _ (by simpa using hzr.1)).trans HX9))))
                have hr10 : (insSet w9 rb ⟨xo, xd, xa, xc, xi⟩).heap[rb]? = some (.cells (insA ⟨xo, xd, xa, xc, xi⟩) 24 (0, 0)) := insSet_heap hr9
                have hB10 : Below w.heap.size w (insSet w9 rb ⟨xo, xd, xa, xc, xi⟩) := insSet_below (HB2.out.trans (HB9.mono HB2.out.size)) (by rw [HRB.out]; exact Nat.le_refl _)
                refine hK _ (insSet w9 rb ⟨xo, xd, xa, xc, xi⟩) ((HSD _).2 hX10) ?_; clear hK K
                generalize (insSet w9 rb ⟨xo, xd, xa, xc, xi⟩) = w10 at *
                clear z0 z1 z2 z3 z4 f0 f1 f2 f3 f4 hr9 HX9 HB9
                refine wpAnyS_one (i := 22) (by kernel_rfl) rfl (fun K hK => ?_)
                go_simp; refine hK _ _ ((HSD _).2 hX10) ?_; clear hK K
                refine wpAnyS_one (i := 23) (by kernel_rfl) rfl (fun K hK => ?_)
                go_simp; refine hK _ _ ((HSD _).2 hX10) ?_; clear hK K
                refine wpAnyS_done (by kernel_rfl) (NoPanic.normal ?_)
                have z0 : w10.cell? ⟨rb, 0, none⟩ = some (.int .u8 xo) := Lib.cell_of_heap hr10 0
                have z1 : w10.cell? ⟨rb, 1, none⟩ = some (.int .u8 xd) := Lib.cell_of_heap hr10 1
                have z2 : w10.cell? ⟨rb, 2, none⟩ = some (.int .u8 xa) := Lib.cell_of_heap hr10 2
                have z3 : w10.cell? ⟨rb, 3, none⟩ = some (.int .u8 xc) := Lib.cell_of_heap hr10 3
                have z4 : w10.cell? ⟨rb, 4, none⟩ = some (.int .u32 xi) := Lib.cell_of_heap hr10 4
                go_wp2
                exact bodyPost_ret (v := .tuple #[.agg #[.int .u8 xo, .int .u8 xd, .int .u8 xa, .int .u8 xc, .int .u32 xi], .string (bsOf imm), .bool false]) (by simp [results, Tryz.results43, go_sem, z0, z1, z2, z3, z4]) rfl ⟨by rw [HP.out]; rfl, hB10⟩
              · have HP := Lib.hid hp; clear hp
                have e1 : decide (xd < 16) = true := by simp; omega
                have e2 : decide (xa < 16) = false := by simp; omega
                try clear g0
                try clear g1
                try clear g2
                try clear g3
                go_upto_region 26 with fail
                obtain ⟨S, HSD⟩ : ∃ S : World → Prop, ∀ w', S w' ↔ w'.heap[xb]? = some (.cells #[.int .u8 xo, .int .u8 xd, .int .u8 xa, .int .u8 xc, .int .u32 xi] 24 (0, 0)) := ⟨_, fun _ => Iff.rfl⟩
                have HX9 : wr.drew.heap[xb]? = some (.cells #[.int .u8 xo, .int .u8 xd, .int .u8 xa, .int .u8 xc, .int .u32 xi] 24 (0, 0)) := HX.out
                have hr9 : wr.drew.heap[rb]? = some (.cells (insA ins0) 24 (0, 0)) := HSR.out.res
                have HB9 : Below w2.heap.size w2 wr.drew := HB.out.trans (below_drewN (Below.refl _ _) 1)
                have c0 : ∀ u : HW S, u.u.cell? ⟨xb, 0, none⟩ = some (.int .u8 xo) := fun u => Lib.cell_of_heap ((HSD _).1 u.h) 0
                have c1 : ∀ u : HW S, u.u.cell? ⟨xb, 1, none⟩ = some (.int .u8 xd) := fun u => Lib.cell_of_heap ((HSD _).1 u.h) 1
                have c2 : ∀ u : HW S, u.u.cell? ⟨xb, 2, none⟩ = some (.int .u8 xa) := fun u => Lib.cell_of_heap ((HSD _).1 u.h) 2
                have c3 : ∀ u : HW S, u.u.cell? ⟨xb, 3, none⟩ = some (.int .u8 xc) := fun u => Lib.cell_of_heap ((HSD _).1 u.h) 3
                have c4 : ∀ u : HW S, u.u.cell? ⟨xb, 4, none⟩ = some (.int .u32 xi) := fun u => Lib.cell_of_heap ((HSD _).1 u.h) 4
                haveI : Nonempty (HW S) := ⟨⟨_, (HSD _).2 HX9⟩⟩
                clear z0 z1 z2 z3 z4
                have hzr := HXRB.out
                refine wp_region_turn S rfl (n := 24) rfl rfl ?_
                refine wpAnyS_take [0, 1, 2, 3, 4, 5, 6, 7, 8, 9, 10, 11, 12, 13, 14, 15, 16, 17, 18, 19, 20] (by kernel_rfl) (by kernel_rfl) (n := 3) rfl rfl rfl ((HSD _).2 HX9) ?_
                (refine wpReads_step (fun K hK => ?_); go_simp; refine hK _ ?_; clear hK K)
                (refine wpReads_step (fun K hK => ?_); go_simp; refine hK _ ?_; clear hK K)
                (refine wpReads_step (fun K hK => ?_); go_simp; refine hK _ ?_; clear hK K)
                (refine wpReads_step (fun K hK => ?_); go_simp; refine hK _ ?_; clear hK K)
                (refine wpReads_step (fun K hK => ?_); go_simp; refine hK _ ?_; clear hK K)
                (refine wpReads_step (fun K hK => ?_); go_simp; refine hK _ ?_; clear hK K)
                (refine wpReads_step (fun K hK => ?_); go_simp; refine hK _ ?_; clear hK K)
                (refine wpReads_step (fun K hK => ?_); go_simp; refine hK _ ?_; clear hK K)
                (refine wpReads_step (fun K hK => ?_); go_simp; refine hK _ ?_; clear hK K)
                (refine wpReads_step (fun K hK => ?_); go_simp; refine hK _ ?_; clear hK K)
                (refine wpReads_step (fun K hK => ?_); go_simp; refine hK _ ?_; clear hK K)
                (refine wpReads_step (fun K hK => ?_); go_simp; refine hK _ ?_; clear hK K)
                (refine wpReads_step (fun K hK => ?_); go_simp; refine hK _ ?_; clear hK K)
                (refine wpReads_step (fun K hK => ?_); go_simp; refine hK _ ?_; clear hK K)
                (refine wpReads_step (fun K hK => ?_); go_simp; refine hK _ ?_; clear hK K)
                (refine wpReads_step (fun K hK => ?_); go_simp; refine hK _ ?_; clear hK K)
                (refine wpReads_step (fun K hK => ?_); go_simp; refine hK _ ?_; clear hK K)
                (refine wpReads_step (fun K hK => ?_); go_simp; refine hK _ ?_; clear hK K)
                (refine wpReads_step (fun K hK => ?_); go_simp; refine hK _ ?_; clear hK K)
                (refine wpReads_step (fun K hK => ?_); go_simp; refine hK _ ?_; clear hK K)
                (refine wpReads_step (fun K hK => ?_); go_simp; refine hK _ ?_; clear hK K)
                refine wpReads_nil ?_
                generalize wr.drew = w9 at *
                have z0 : w9.cell? ⟨rb, 0, none⟩ = some (.int .u8 0) := Lib.cell_of_heap hr9 0
                have f0 := Lib.frozen_of_heap hr9 0
                have z1 : w9.cell? ⟨rb, 1, none⟩ = some (.int .u8 0) := Lib.cell_of_heap hr9 1
                have f1 := Lib.frozen_of_heap hr9 1
                have z2 : w9.cell? ⟨rb, 2, none⟩ = some (.int .u8 0) := Lib.cell_of_heap hr9 2
                have f2 := Lib.frozen_of_heap hr9 2
                have z3 : w9.cell? ⟨rb, 3, none⟩ = some (.int .u8 0) := Lib.cell_of_heap hr9 3
                have f3 := Lib.frozen_of_heap hr9 3
                have z4 : w9.cell? ⟨rb, 4, none⟩ = some (.int .u32 0) := Lib.cell_of_heap hr9 4
                have f4 := Lib.frozen_of_heap hr9 4
                clear c0 c1 c2 c3 c4
                refine wpAnyS_one (i := 21) (by kernel_rfl) rfl (fun K hK => ?_)
                go_simp
                have hX10 : (insSet w9 rb ⟨xo, xd, xa, xc, xi⟩).heap[xb]? = some (.cells #[.int .u8 xo, .int .u8 xd, .int .u8 xa, .int .u8 xc, .int .u32 xi] 24 (0, 0)) := by
                  unfold insSet; exact (Below.heap_setCell _ _ _ _ (by simpa using hzr.1)).trans ((Below.heap_setCell _ _ _ _ (by simpa using hzr.1)).trans ((Below.heap_setCell _ _ _ _ (by simpa using hzr.1)).trans ((Below.heap_setCell _ _ _ _ (by simpa using hzr.1)).trans ((Below.heap_setCell _ _ _ _ (by simpa using hzr.1)).trans HX9))))
                have hr10 : (insSet w9 rb ⟨xo, xd, xa, xc, xi⟩).heap[rb]? = some (.cells (insA ⟨xo, xd, xa, xc, xi⟩) 24 (0, 0)) := insSet_heap hr9
                have hB10 : Below w.heap.size w (insSet w9 rb ⟨xo, xd, xa, xc, xi⟩) := insSet_below (HB2.out.trans (HB9.mono HB2.out.size)) (by rw [HRB.out]; exact Nat.le_refl _)
                refine hK _ (insSet w9 rb ⟨xo, xd, xa, xc, xi⟩) ((HSD _).2 hX10) ?_; clear hK K
                generalize (insSet w9 rb ⟨xo, xd, xa, xc, xi⟩) = w10 at *
                clear z0 z1 z2 z3 z4 f0 f1 f2 f3 f4 hr9 HX9 HB9
                refine wpAnyS_one (i := 22) (by kernel_rfl) rfl (fun K hK => ?_)
                go_simp; refine hK _ _ ((HSD _).2 hX10) ?_; clear hK K
                refine wpAnyS_one (i := 23) (by kernel_rfl) rfl (fun K hK => ?_)
                go_simp; refine hK _ _ ((HSD _).2 hX10) ?_; clear hK K
                refine wpAnyS_done (by kernel_rfl) (NoPanic.normal ?_)
                have z0 : w10.cell? ⟨rb, 0, none⟩ = some (.int .u8 xo) := Lib.cell_of_heap hr10 0
                have z1 : w10.cell? ⟨rb, 1, none⟩ = some (.int .u8 xd) := Lib.cell_of_heap hr10 1
                have z2 : w10.cell? ⟨rb, 2, none⟩ = some (.int .u8 xa) := Lib.cell_of_heap hr10 2
                have z3 : w10.cell? ⟨rb, 3, none⟩ = some (.int .u8 xc) := Lib.cell_of_heap hr10 3
                have z4 : w10.cell? ⟨rb, 4, none⟩ = some (.int .u32 xi) := Lib.cell_of_heap hr10 4
                go_wp2
                exact bodyPost_ret (v := .tuple #[.agg #[.int .u8 xo, .int .u8 xd, .int .u8 xa, .int .u8 xc, .int .u32 xi], .string (bsOf imm), .bool false]) (by simp [results, Tryz.results43, go_sem, z0, z1, z2, z3, z4]) rfl ⟨by rw [HP.out]; rfl, hB10⟩
              · have HP := Lib.hid hp; clear hp
                have e1 : decide (xd < 16) = true := by simp; omega
                have e2 : decide (xa < 16) = true := by simp; omega
                have e3 : decide (xc < 16) = false := by simp; omega
                try clear g0
                try clear g1
                try clear g2
                try clear g3
                go_upto_region 26 with fail
                obtain ⟨S, HSD⟩ : ∃ S : World → Prop, ∀ w', S w' ↔ w'.heap[xb]? = some (.cells #[.int .u8 xo, .int .u8 xd, .int .u8 xa, .int .u8 xc, .int .u32 xi] 24 (0, 0)) := ⟨_, fun _ => Iff.rfl⟩
                have HX9 : wr.drew.heap[xb]? = some (.cells #[.int .u8 xo, .int .u8 xd, .int .u8 xa, .int .u8 xc, .int .u32 xi] 24 (0, 0)) := HX.out
                have hr9 : wr.drew.heap[rb]? = some (.cells (insA ins0) 24 (0, 0)) := HSR.out.res
                have HB9 : Below w2.heap.size w2 wr.drew := HB.out.trans (below_drewN (Below.refl _ _) 1)
                have c0 : ∀ u : HW S, u.u.cell? ⟨xb, 0, none⟩ = some (.int .u8 xo) := fun u => Lib.cell_of_heap ((HSD _).1 u.h) 0
                have c1 : ∀ u : HW S, u.u.cell? ⟨xb, 1, none⟩ = some (.int .u8 xd) := fun u => Lib.cell_of_heap ((HSD _).1 u.h) 1
                have c2 : ∀ u : HW S, u.u.cell? ⟨xb, 2, none⟩ = some (.int .u8 xa) := fun u => Lib.cell_of_heap ((HSD _).1 u.h) 2
                have c3 : ∀ u : HW S, u.u.cell? ⟨xb, 3, none⟩ = some (.int .u8 xc) := fun u => Lib.cell_of_heap ((HSD _).1 u.h) 3
                have c4 : ∀ u : HW S, u.u.cell? ⟨xb, 4, none⟩ = some (.int .u32 xi) := fun u => Lib.cell_of_heap ((HSD _).1 u.h) 4
                haveI : Nonempty (HW S) := ⟨⟨_, (HSD _).2 HX9⟩⟩
                clear z0 z1 z2 z3 z4
                have hzr := HXRB.out
                refine wp_region_turn S rfl (n := 24) rfl rfl ?_
                refine wpAnyS_take [0, 1, 2, 3, 4, 5, 6, 7, 8, 9, 10, 11, 12, 13, 14, 15, 16, 17, 18, 19, 20] (by kernel_rfl) (by kernel_rfl) (n := 3) rfl rfl rfl ((HSD _).2 HX9) ?_
                (refine wpReads_step (fun K hK => ?_); go_simp; refine hK _ ?_; clear hK K)
                (refine wpReads_step (fun K hK => ?_); go_simp; refine hK _ ?_; clear hK K)
                (refine wpReads_step (fun K hK => ?_); go_simp; refine hK _ ?_; clear hK K)
                (refine wpReads_step (fun K hK => ?_); go_simp; refine hK _ ?_; clear hK K)
                (refine wpReads_step (fun K hK => ?_); go_simp; refine hK _ ?_; clear hK K)
                (refine wpReads_step (fun K hK => ?_); go_simp; refine hK _ ?_; clear hK K)
                (refine wpReads_step (fun K hK => ?_); go_simp; refine hK _ ?_; clear hK K)
                (refine wpReads_step (fun K hK => ?_); go_simp; refine hK _ ?_; clear hK K)
                (refine wpReads_step (fun K hK => ?_); go_simp; refine hK _ ?_; clear hK K)
                (refine wpReads_step (fun K hK => ?_); go_simp; refine hK _ ?_; clear hK K)
                (refine wpReads_step (fun K hK => ?_); go_simp; refine hK _ ?_; clear hK K)
                (refine wpReads_step (fun K hK => ?_); go_simp; refine hK _ ?_; clear hK K)
                (refine wpReads_step (fun K hK => ?_); go_simp; refine hK _ ?_; clear hK K)
                (refine wpReads_step (fun K hK => ?_); go_simp; refine hK _ ?_; clear hK K)
                (refine wpReads_step (fun K hK => ?_); go_simp; refine hK _ ?_; clear hK K)
                (refine wpReads_step (fun K hK => ?_); go_simp; refine hK _ ?_; clear hK K)
                (refine wpReads_step (fun K hK => ?_); go_simp; refine hK _ ?_; clear hK K)
                (refine wpReads_step (fun K hK => ?_); go_simp; refine hK _ ?_; clear hK K)
                (refine wpReads_step (fun K hK => ?_); go_simp; refine hK _ ?_; clear hK K)
                (refine wpReads_step (fun K hK => ?_); go_simp; refine hK _ ?_; clear hK K)
                (refine wpReads_step (fun K hK => ?_); go_simp; refine hK _ ?_; clear hK K)
                refine wpReads_nil ?_
                generalize wr.drew = w9 at *
                have z0 : w9.cell? ⟨rb, 0, none⟩ = some (.int .u8 0) := Lib.cell_of_heap hr9 0
                have f0 := Lib.frozen_of_heap hr9 0
                have z1 : w9.cell? ⟨rb, 1, none⟩ = some (.int .u8 0) := Lib.cell_of_heap hr9 1
                have f1 := Lib.frozen_of_heap hr9 1
                have z2 : w9.cell? ⟨rb, 2, none⟩ = some (.int .u8 0) := Lib.cell_of_heap hr9 2
                have f2 := Lib.frozen_of_heap hr9 2
                have z3 : w9.cell? ⟨rb, 3, none⟩ = some (.int .u8 0) := Lib.cell_of_heap hr9 3
                have f3 := Lib.frozen_of_heap hr9 3
                have z4 : w9.cell? ⟨rb, 4, none⟩ = some (.int .u32 0) := Lib.cell_of_heap hr9 4
                have f4 := Lib.frozen_of_heap hr9 4
                clear c0 c1 c2 c3 c4
                refine wpAnyS_one (i := 21) (by kernel_rfl) rfl (fun K hK => ?_)
                go_simp
                have hX10 : (insSet w9 rb ⟨xo, xd, xa, xc, xi⟩).heap[xb]? = some (.cells #[.int .u8 xo, .int .u8 xd, .int .u8 xa, .int .u8 xc, .int .u32 xi] 24 (0, 0)) := by
                  unfold insSet; exact (Below.heap_setCell _ _ _ _ (by simpa using hzr.1)).trans ((Below.heap_setCell _ _ _ _ (by simpa using hzr.1)).trans ((Below.heap_setCell _ _ _ _ (by simpa using hzr.1)).trans ((Below.heap_setCell _ _ _ _ (by simpa using hzr.1)).trans ((Below.heap_setCell _ _ _ _ (by simpa using hzr.1)).trans HX9))))
                have hr10 : (insSet w9 rb ⟨xo, xd, xa, xc, xi⟩).heap[rb]? = some (.cells (insA ⟨xo, xd, xa, xc, xi⟩) 24 (0, 0)) := insSet_heap hr9
                have hB10 : Below w.heap.size w (insSet w9 rb ⟨xo, xd, xa, xc, xi⟩) := insSet_below (HB2.out.trans (HB9.mono HB2.out.size)) (by rw [HRB.out]; exact Nat.le_refl _)
                refine hK _ (insSet w9 rb ⟨xo, xd, xa, xc, xi⟩) ((HSD _).2 hX10) ?_; clear hK K
                generalize (insSet w9 rb ⟨xo, xd, xa, xc, xi⟩) = w10 at *
                clear z0 z1 z2 z3 z4 f0 f1 f2 f3 f4 hr9 HX9 HB9
                refine wpAnyS_one (i := 22) (by kernel_rfl) rfl (fun K hK => ?_)
                go_simp; refine hK _ _ ((HSD _).2 hX10) ?_; clear hK K
                refine wpAnyS_one (i := 23) (by kernel_rfl) rfl (fun K hK => ?_)
                go_simp; refine hK _ _ ((HSD _).2 hX10) ?_; clear hK K
                refine wpAnyS_done (by kernel_rfl) (NoPanic.normal ?_)
                have z0 : w10.cell? ⟨rb, 0, none⟩ = some (.int .u8 xo) := Lib.cell_of_heap hr10 0
                have z1 : w10.cell? ⟨rb, 1, none⟩ = some (.int .u8 xd) := Lib.cell_of_heap hr10 1
                have z2 : w10.cell? ⟨rb, 2, none⟩ = some (.int .u8 xa) := Lib.cell_of_heap hr10 2
                have z3 : w10.cell? ⟨rb, 3, none⟩ = some (.int .u8 xc) := Lib.cell_of_heap hr10 3
                have z4 : w10.cell? ⟨rb, 4, none⟩ = some (.int .u32 xi) := Lib.cell_of_heap hr10 4
                go_wp2
                exact bodyPost_ret (v := .tuple #[.agg #[.int .u8 xo, .int .u8 xd, .int .u8 xa, .int .u8 xc, .int .u32 xi], .string (bsOf imm), .bool false]) (by simp [results, Tryz.results43, go_sem, z0, z1, z2, z3, z4]) rfl ⟨by rw [HP.out]; rfl, hB10⟩
          -- INNEREND
        · have hne := beq_ne hnm
          have HNX : Hid (∀ o : Int, 1 ≤ o → o < ((op + 1 : Nat) : Int) → opOf l0 ≠ some o) := Lib.hid (fun o h1 h2 h3 => by
            by_cases he : o = op
            · subst he; exact hnm ((opOf_iff _ _ h1 (by omega)).1 h3).2
            · exact HNO.out o h1 (by omega) h3)
          clear hnm
          refine wp_region_below rfl (by kernel_rfl) ?_
          repeat (first | go_big_quiet_skip | quiet_step ((go_at_call 89; exact HRB4.out _)))
          refine wpQuiet_nil ?_
          rintro w7 hx7; have hB7 := bw_of hx7; clear hx7
          clear b0
          go_wp2
          go_roundw
          case rel => exact ⟨op + 1, by go_num, by omega, by omega, HNX.out, HB4.out.trans (hB7.mono HB4.out.size)⟩
          case measure => simp [intOf]; omega
    · obtain rfl : op = 51 := by omega
      have HP : Hid (parsedR ps = (ins0, [], false)) := Lib.hid (by
        unfold parsedR
        rw [← HL0.out]
        cases ho : opOf l0 with
        | none => rfl
        | some o => exact absurd ho (HNO.out o (opOf_bd ho).1 (by have := (opOf_bd ho).2; omega)))
      have hr9 : wr.heap[rb]? = some (.cells (insA ins0) 24 (0, 0)) := HSR.out.res
      have HB9 := Lib.hid HB.out
      have hbd := HBD.out
      have z0 : wr.cell? ⟨rb, 0, none⟩ = some (.int .u8 0) := Lib.cell_of_heap hr9 0
      have f0 := Lib.frozen_of_heap hr9 0
      have z1 : wr.cell? ⟨rb, 1, none⟩ = some (.int .u8 0) := Lib.cell_of_heap hr9 1
      have f1 := Lib.frozen_of_heap hr9 1
      have z2 : wr.cell? ⟨rb, 2, none⟩ = some (.int .u8 0) := Lib.cell_of_heap hr9 2
      have f2 := Lib.frozen_of_heap hr9 2
      have z3 : wr.cell? ⟨rb, 3, none⟩ = some (.int .u8 0) := Lib.cell_of_heap hr9 3
      have f3 := Lib.frozen_of_heap hr9 3
      have z4 : wr.cell? ⟨rb, 4, none⟩ = some (.int .u32 0) := Lib.cell_of_heap hr9 4
      have f4 := Lib.frozen_of_heap hr9 4
      have hr10 : (insSet wr rb ins0).heap[rb]? = some (.cells (insA ins0) 24 (0, 0)) := insSet_heap hr9
      have hB10 : Below w.heap.size w (insSet wr rb ins0) := insSet_below (HB2.out.trans (HB9.out.mono HB2.out.size)) (by rw [HRB.out]; exact Nat.le_refl _)
      go_wp2
      change bodyPost _ _ _ _ _ (insSet wr rb ins0)
      generalize (insSet wr rb ins0) = w10 at *
      clear z0 z1 z2 z3 z4 f0 f1 f2 f3 f4 hr9 HB9
      have z0 : w10.cell? ⟨rb, 0, none⟩ = some (.int .u8 0) := Lib.cell_of_heap hr10 0
      have z1 : w10.cell? ⟨rb, 1, none⟩ = some (.int .u8 0) := Lib.cell_of_heap hr10 1
      have z2 : w10.cell? ⟨rb, 2, none⟩ = some (.int .u8 0) := Lib.cell_of_heap hr10 2
      have z3 : w10.cell? ⟨rb, 3, none⟩ = some (.int .u8 0) := Lib.cell_of_heap hr10 3
      have z4 : w10.cell? ⟨rb, 4, none⟩ = some (.int .u32 0) := Lib.cell_of_heap hr10 4
      exact bodyPost_ret (v := .tuple #[.agg #[.int .u8 0, .int .u8 0, .int .u8 0, .int .u8 0, .int .u32 0], .string (bsOf []), .bool false]) (by simp [results, Tryz.results43, go_sem, z0, z1, z2, z3, z4]; rfl) rfl ⟨by rw [HP.out]; rfl, hB10⟩
end Go.Proofs.YtoonkfhphbojcaaGreatDoor
