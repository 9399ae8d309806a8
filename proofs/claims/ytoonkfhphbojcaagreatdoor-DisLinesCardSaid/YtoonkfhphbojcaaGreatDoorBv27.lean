/- The walk of asm.may. -/
import Derived.Test.YtoonkfhphbojcaaGreatDoorBv26
namespace Go.Proofs.YtoonkfhphbojcaaGreatDoor
open Go.RowKit Go.Maps
set_option maxHeartbeats 4000000 in
set_option maxRecDepth 100000 in
theorem asmMay33 (l : GLine) (w : World) (hl : LineB l) : Calls Tryz.prog 139 #[lineV l] w fun e w' => e = .returned (.bool (lnMay l)) ∧ Below w.heap.size w w' := by
  obtain ⟨label, ⟨op, d, a, b, im⟩, dest, name⟩ := l
  obtain ⟨hxb, hl1, hl2, hl3⟩ := hl
  simp only [] at hxb hl1 hl2 hl3
  have HDEF : Hid (lnMay ⟨label, ⟨op, d, a, b, im⟩, dest, name⟩ = (!(!decide (dest = []) && !decide (name = [])) && nameOk label && nameOk dest && nameOk name && (if decide (dest = []) && decide (name = []) then insOk ⟨op, d, a, b, im⟩ else decide (useOf op ≠ 0) && bitOf (useOf op) 8 && insOk ⟨op, d, a, b, 0⟩))) := Lib.hid rfl
  generalize lnMay ⟨label, ⟨op, d, a, b, im⟩, dest, name⟩ = res at HDEF ⊢
  have HC1 := Lib.hid (fun W => insCheck_any ⟨op, d, a, b, im⟩ W hxb)
  have HC2 := Lib.hid (fun W => insCheck_any ⟨op, d, a, b, 0⟩ W ⟨hxb.1, hxb.2.1, hxb.2.2.1, hxb.2.2.2.1, by simp⟩)
  have HU := Lib.hid (fun W => iUses_any op W hxb.1.1 hxb.1.2)
  generalize insOk ⟨op, d, a, b, im⟩ = ok1 at HC1 HDEF
  generalize insOk ⟨op, d, a, b, 0⟩ = ok2 at HC2 HDEF
  unfold insV at HC1 HC2
  simp only [] at HC1 HC2
  unfold lineV lineA
  simp only []
  have hne1 := bs_nil33 dest
  have hne2 := bs_nil33 name
  have hne3 := bs_nil33 (dest ++ name)
  rw [show decide (dest ++ name = []) = (decide (dest = []) && decide (name = [])) by cases dest <;> cases name <;> rfl] at hne3
  have HN1 := Lib.hid (fun W => asmName33 label W (by omega))
  have HN2 := Lib.hid (fun W => asmName33 dest W (by omega))
  have HN3 := Lib.hid (fun W => asmName33 name W (by omega))
  have k1 : bsOf dest ++ bsOf name = bsOf (dest ++ name) := bsOf_cat _ _
  have q1 : ¬ 9223372036854775807 < (bsOf dest).size + (bsOf name).size := by rw [bsOf_size, bsOf_size]; omega
  generalize nameOk label = n1 at HN1 HDEF
  generalize nameOk dest = n2 at HN2 HDEF
  generalize nameOk name = n3 at HN3 HDEF
  generalize decide (dest = []) = bt at hne1 hne3 HDEF
  generalize decide (name = []) = bn at hne2 hne3 HDEF
  generalize bsOf (dest ++ name) = S3 at hne3 k1
  generalize hS1 : bsOf dest = S1 at *
  generalize hS2 : bsOf name = S2 at *
  have hX1 := new_block w (.cells #[.string (bsOf label), .int .u8 op, .int .u8 d, .int .u8 a, .int .u8 b, .int .u32 im, .string S1, .string S2] 59)
  have HB1 := Lib.hid (alloc_old w (.cells #[.string (bsOf label), .int .u8 op, .int .u8 d, .int .u8 a, .int .u8 b, .int .u32 im, .string S1, .string S2] 59))
  generalize hS0 : bsOf label = S0 at *
  clear hS0 hS1 hS2 hl1 hl2 hl3 hxb
  go_enter Tryz.func139, Tryz.ntmps139
  go_upto_region 1 with fail
  generalize (w.alloc (.cells #[.string S0, .int .u8 op, .int .u8 d, .int .u8 a, .int .u8 b, .int .u32 im, .string S1, .string S2] 59)) = w1 at *
  have hlt1 := (Array.getElem?_eq_some_iff.1 hX1).1
  have HBc := Lib.hid HB1.out
  have z0 : w1.cell? ⟨w.heap.size, 0, none⟩ = some (.string S0) := Lib.cell_of_heap hX1 0
  have z6 : w1.cell? ⟨w.heap.size, 6, none⟩ = some (.string S1) := Lib.cell_of_heap hX1 6
  have z7 : w1.cell? ⟨w.heap.size, 7, none⟩ = some (.string S2) := Lib.cell_of_heap hX1 7
  cases bt <;> cases bn
  ·
    go_wp2
    go_ret
    exact ⟨by rw [HDEF.out]; rfl, HBc.out⟩
  ·
    go_wp2_with fail
    refine (HN1.out _).mono ?_
    rintro e w2 ⟨rfl, hB⟩
    have hX2 := (hB.block w.heap.size (Array.getElem?_eq_some_iff.1 hX1).1).trans hX1
    replace HBc := Lib.hid (HBc.out.trans (hB.mono HBc.out.size))
    clear hB z0 z6 z7
    have z6 : w2.cell? ⟨w.heap.size, 6, none⟩ = some (.string S1) := Lib.cell_of_heap hX2 6
    have z7 : w2.cell? ⟨w.heap.size, 7, none⟩ = some (.string S2) := Lib.cell_of_heap hX2 7
    cases n1 with
    | false =>
      go_wp2
      go_ret
      exact ⟨by rw [HDEF.out]; rfl, HBc.out⟩
    | true =>
      go_wp2_with fail
      refine (HN2.out _).mono ?_
      rintro e w3 ⟨rfl, hB⟩
      have hX3 := (hB.block w.heap.size (Array.getElem?_eq_some_iff.1 hX2).1).trans hX2
      replace HBc := Lib.hid (HBc.out.trans (hB.mono HBc.out.size))
      clear hB z6 z7
      have z7 : w3.cell? ⟨w.heap.size, 7, none⟩ = some (.string S2) := Lib.cell_of_heap hX3 7
      cases n2 with
      | false =>
        go_wp2
        go_ret
        exact ⟨by rw [HDEF.out]; rfl, HBc.out⟩
      | true =>
        go_wp2_with fail
        refine (HN3.out _).mono ?_
        rintro e w4 ⟨rfl, hB⟩
        have hX4 := (hB.block w.heap.size (Array.getElem?_eq_some_iff.1 hX3).1).trans hX3
        replace HBc := Lib.hid (HBc.out.trans (hB.mono HBc.out.size))
        clear hB z7
        have z6 : w4.cell? ⟨w.heap.size, 6, none⟩ = some (.string S1) := Lib.cell_of_heap hX4 6
        have z7 : w4.cell? ⟨w.heap.size, 7, none⟩ = some (.string S2) := Lib.cell_of_heap hX4 7
        cases n3 with
        | false =>
          go_wp2
          go_ret
          exact ⟨by rw [HDEF.out]; rfl, HBc.out⟩
        | true =>
          have z1 : w4.cell? ⟨w.heap.size, 1, none⟩ = some (.int .u8 op) := Lib.cell_of_heap hX4 1
          go_wp2_with fail
          refine (HU.out _).mono ?_
          rintro e w5 ⟨rfl, hB⟩
          have hX5 := (hB.block w.heap.size (Array.getElem?_eq_some_iff.1 hX4).1).trans hX4
          replace HBc := Lib.hid (HBc.out.trans (hB.mono HBc.out.size))
          clear hB z1 z6 z7
          have z1 : w5.cell? ⟨w.heap.size, 1, none⟩ = some (.int .u8 op) := Lib.cell_of_heap hX5 1
          have z2 : w5.cell? ⟨w.heap.size, 2, none⟩ = some (.int .u8 d) := Lib.cell_of_heap hX5 2
          have z3 : w5.cell? ⟨w.heap.size, 3, none⟩ = some (.int .u8 a) := Lib.cell_of_heap hX5 3
          have z4 : w5.cell? ⟨w.heap.size, 4, none⟩ = some (.int .u8 b) := Lib.cell_of_heap hX5 4
          have z5 : w5.cell? ⟨w.heap.size, 5, none⟩ = some (.int .u32 im) := Lib.cell_of_heap hX5 5
          have f5 := Lib.frozen_of_heap hX5 5
          have hX6 : (w5.setCell ⟨w.heap.size, 5, none⟩ (.int .u32 0)).heap[w.heap.size]? = some (.cells #[.string S0, .int .u8 op, .int .u8 d, .int .u8 a, .int .u8 b, .int .u32 0, .string S1, .string S2] 59 (0, 0)) := set33 hX5 5 _
          have HBd := Lib.hid (HBc.out.setCell (p := ⟨w.heap.size, 5, none⟩) (Nat.le_refl _) (.int .u32 0))
          by_cases hu : useOf op = 0
          · rw [if_pos hu]
            have HR : Hid (res = false) := Lib.hid (by rw [HDEF.out]; simp [hu])
            clear HDEF hu
            go_wp2
            go_ret
            exact ⟨by rw [HR.out]; rfl, HBd.out⟩
          · rw [if_neg hu]
            cases hb8 : bitOf (useOf op) 8 with
            | false =>
              have HR : Hid (res = false) := Lib.hid (by rw [HDEF.out]; simp [hb8])
              clear HDEF hu
              go_wp2
              go_ret
              exact ⟨by rw [HR.out]; rfl, HBd.out⟩
            | true =>
              have HR : Hid (res = ok2) := Lib.hid (by rw [HDEF.out]; simp [hb8, hu])
              clear HDEF hu
              go_upto_region 8 with fail
              generalize (w5.setCell ⟨w.heap.size, 5, none⟩ (.int .u32 0)) = w6 at *
              clear z1 z2 z3 z4 z5 f5 hX5
              have z1 : w6.cell? ⟨w.heap.size, 1, none⟩ = some (.int .u8 op) := Lib.cell_of_heap hX6 1
              have z2 : w6.cell? ⟨w.heap.size, 2, none⟩ = some (.int .u8 d) := Lib.cell_of_heap hX6 2
              have z3 : w6.cell? ⟨w.heap.size, 3, none⟩ = some (.int .u8 a) := Lib.cell_of_heap hX6 3
              have z4 : w6.cell? ⟨w.heap.size, 4, none⟩ = some (.int .u8 b) := Lib.cell_of_heap hX6 4
              have z5 : w6.cell? ⟨w.heap.size, 5, none⟩ = some (.int .u32 0) := Lib.cell_of_heap hX6 5
              go_wp2_with fail
              refine (HC2.out _).mono ?_
              rintro e w7 ⟨rfl, hB⟩
              have HBe := Lib.hid (HBd.out.trans (hB.mono HBd.out.size))
              clear hB z1 z2 z3 z4 z5
              cases ok2 with
              | false =>
                rw [show erI false 2 = 2 from rfl]
                go_wp2
                go_ret
                exact ⟨by rw [HR.out]; rfl, HBe.out⟩
              | true =>
                rw [show erI true 2 = 0 from rfl]
                go_wp2
                go_ret
                exact ⟨by rw [HR.out]; rfl, HBe.out⟩
  ·
    go_wp2_with fail
    refine (HN1.out _).mono ?_
    rintro e w2 ⟨rfl, hB⟩
    have hX2 := (hB.block w.heap.size (Array.getElem?_eq_some_iff.1 hX1).1).trans hX1
    replace HBc := Lib.hid (HBc.out.trans (hB.mono HBc.out.size))
    clear hB z0 z6 z7
    have z6 : w2.cell? ⟨w.heap.size, 6, none⟩ = some (.string S1) := Lib.cell_of_heap hX2 6
    have z7 : w2.cell? ⟨w.heap.size, 7, none⟩ = some (.string S2) := Lib.cell_of_heap hX2 7
    cases n1 with
    | false =>
      go_wp2
      go_ret
      exact ⟨by rw [HDEF.out]; rfl, HBc.out⟩
    | true =>
      go_wp2_with fail
      refine (HN2.out _).mono ?_
      rintro e w3 ⟨rfl, hB⟩
      have hX3 := (hB.block w.heap.size (Array.getElem?_eq_some_iff.1 hX2).1).trans hX2
      replace HBc := Lib.hid (HBc.out.trans (hB.mono HBc.out.size))
      clear hB z6 z7
      have z7 : w3.cell? ⟨w.heap.size, 7, none⟩ = some (.string S2) := Lib.cell_of_heap hX3 7
      cases n2 with
      | false =>
        go_wp2
        go_ret
        exact ⟨by rw [HDEF.out]; rfl, HBc.out⟩
      | true =>
        go_wp2_with fail
        refine (HN3.out _).mono ?_
        rintro e w4 ⟨rfl, hB⟩
        have hX4 := (hB.block w.heap.size (Array.getElem?_eq_some_iff.1 hX3).1).trans hX3
        replace HBc := Lib.hid (HBc.out.trans (hB.mono HBc.out.size))
        clear hB z7
        have z6 : w4.cell? ⟨w.heap.size, 6, none⟩ = some (.string S1) := Lib.cell_of_heap hX4 6
        have z7 : w4.cell? ⟨w.heap.size, 7, none⟩ = some (.string S2) := Lib.cell_of_heap hX4 7
        cases n3 with
        | false =>
          go_wp2
          go_ret
          exact ⟨by rw [HDEF.out]; rfl, HBc.out⟩
        | true =>
          have z1 : w4.cell? ⟨w.heap.size, 1, none⟩ = some (.int .u8 op) := Lib.cell_of_heap hX4 1
          go_wp2_with fail
          refine (HU.out _).mono ?_
          rintro e w5 ⟨rfl, hB⟩
          have hX5 := (hB.block w.heap.size (Array.getElem?_eq_some_iff.1 hX4).1).trans hX4
          replace HBc := Lib.hid (HBc.out.trans (hB.mono HBc.out.size))
          clear hB z1 z6 z7
          have z1 : w5.cell? ⟨w.heap.size, 1, none⟩ = some (.int .u8 op) := Lib.cell_of_heap hX5 1
          have z2 : w5.cell? ⟨w.heap.size, 2, none⟩ = some (.int .u8 d) := Lib.cell_of_heap hX5 2
          have z3 : w5.cell? ⟨w.heap.size, 3, none⟩ = some (.int .u8 a) := Lib.cell_of_heap hX5 3
          have z4 : w5.cell? ⟨w.heap.size, 4, none⟩ = some (.int .u8 b) := Lib.cell_of_heap hX5 4
          have z5 : w5.cell? ⟨w.heap.size, 5, none⟩ = some (.int .u32 im) := Lib.cell_of_heap hX5 5
          have f5 := Lib.frozen_of_heap hX5 5
          have hX6 : (w5.setCell ⟨w.heap.size, 5, none⟩ (.int .u32 0)).heap[w.heap.size]? = some (.cells #[.string S0, .int .u8 op, .int .u8 d, .int .u8 a, .int .u8 b, .int .u32 0, .string S1, .string S2] 59 (0, 0)) := set33 hX5 5 _
          have HBd := Lib.hid (HBc.out.setCell (p := ⟨w.heap.size, 5, none⟩) (Nat.le_refl _) (.int .u32 0))
          by_cases hu : useOf op = 0
          · rw [if_pos hu]
            have HR : Hid (res = false) := Lib.hid (by rw [HDEF.out]; simp [hu])
            clear HDEF hu
            go_wp2
            go_ret
            exact ⟨by rw [HR.out]; rfl, HBd.out⟩
          · rw [if_neg hu]
            cases hb8 : bitOf (useOf op) 8 with
            | false =>
              have HR : Hid (res = false) := Lib.hid (by rw [HDEF.out]; simp [hb8])
              clear HDEF hu
              go_wp2
              go_ret
              exact ⟨by rw [HR.out]; rfl, HBd.out⟩
            | true =>
              have HR : Hid (res = ok2) := Lib.hid (by rw [HDEF.out]; simp [hb8, hu])
              clear HDEF hu
              go_upto_region 8 with fail
              generalize (w5.setCell ⟨w.heap.size, 5, none⟩ (.int .u32 0)) = w6 at *
              clear z1 z2 z3 z4 z5 f5 hX5
              have z1 : w6.cell? ⟨w.heap.size, 1, none⟩ = some (.int .u8 op) := Lib.cell_of_heap hX6 1
              have z2 : w6.cell? ⟨w.heap.size, 2, none⟩ = some (.int .u8 d) := Lib.cell_of_heap hX6 2
              have z3 : w6.cell? ⟨w.heap.size, 3, none⟩ = some (.int .u8 a) := Lib.cell_of_heap hX6 3
              have z4 : w6.cell? ⟨w.heap.size, 4, none⟩ = some (.int .u8 b) := Lib.cell_of_heap hX6 4
              have z5 : w6.cell? ⟨w.heap.size, 5, none⟩ = some (.int .u32 0) := Lib.cell_of_heap hX6 5
              go_wp2_with fail
              refine (HC2.out _).mono ?_
              rintro e w7 ⟨rfl, hB⟩
              have HBe := Lib.hid (HBd.out.trans (hB.mono HBd.out.size))
              clear hB z1 z2 z3 z4 z5
              cases ok2 with
              | false =>
                rw [show erI false 2 = 2 from rfl]
                go_wp2
                go_ret
                exact ⟨by rw [HR.out]; rfl, HBe.out⟩
              | true =>
                rw [show erI true 2 = 0 from rfl]
                go_wp2
                go_ret
                exact ⟨by rw [HR.out]; rfl, HBe.out⟩
  ·
    go_wp2_with fail
    refine (HN1.out _).mono ?_
    rintro e w2 ⟨rfl, hB⟩
    have hX2 := (hB.block w.heap.size (Array.getElem?_eq_some_iff.1 hX1).1).trans hX1
    replace HBc := Lib.hid (HBc.out.trans (hB.mono HBc.out.size))
    clear hB z0 z6 z7
    have z6 : w2.cell? ⟨w.heap.size, 6, none⟩ = some (.string S1) := Lib.cell_of_heap hX2 6
    have z7 : w2.cell? ⟨w.heap.size, 7, none⟩ = some (.string S2) := Lib.cell_of_heap hX2 7
    cases n1 with
    | false =>
      go_wp2
      go_ret
      exact ⟨by rw [HDEF.out]; rfl, HBc.out⟩
    | true =>
      go_wp2_with fail
      refine (HN2.out _).mono ?_
      rintro e w3 ⟨rfl, hB⟩
      have hX3 := (hB.block w.heap.size (Array.getElem?_eq_some_iff.1 hX2).1).trans hX2
      replace HBc := Lib.hid (HBc.out.trans (hB.mono HBc.out.size))
      clear hB z6 z7
      have z7 : w3.cell? ⟨w.heap.size, 7, none⟩ = some (.string S2) := Lib.cell_of_heap hX3 7
      cases n2 with
      | false =>
        go_wp2
        go_ret
        exact ⟨by rw [HDEF.out]; rfl, HBc.out⟩
      | true =>
        go_wp2_with fail
        refine (HN3.out _).mono ?_
        rintro e w4 ⟨rfl, hB⟩
        have hX4 := (hB.block w.heap.size (Array.getElem?_eq_some_iff.1 hX3).1).trans hX3
        replace HBc := Lib.hid (HBc.out.trans (hB.mono HBc.out.size))
        clear hB z7
        have z6 : w4.cell? ⟨w.heap.size, 6, none⟩ = some (.string S1) := Lib.cell_of_heap hX4 6
        have z7 : w4.cell? ⟨w.heap.size, 7, none⟩ = some (.string S2) := Lib.cell_of_heap hX4 7
        cases n3 with
        | false =>
          go_wp2
          go_ret
          exact ⟨by rw [HDEF.out]; rfl, HBc.out⟩
        | true =>
          have z1 : w4.cell? ⟨w.heap.size, 1, none⟩ = some (.int .u8 op) := Lib.cell_of_heap hX4 1
          have z2 : w4.cell? ⟨w.heap.size, 2, none⟩ = some (.int .u8 d) := Lib.cell_of_heap hX4 2
          have z3 : w4.cell? ⟨w.heap.size, 3, none⟩ = some (.int .u8 a) := Lib.cell_of_heap hX4 3
          have z4 : w4.cell? ⟨w.heap.size, 4, none⟩ = some (.int .u8 b) := Lib.cell_of_heap hX4 4
          have z5 : w4.cell? ⟨w.heap.size, 5, none⟩ = some (.int .u32 im) := Lib.cell_of_heap hX4 5
          go_wp2_with fail
          refine (HC1.out _).mono ?_
          rintro e w5 ⟨rfl, hB⟩
          replace HBc := Lib.hid (HBc.out.trans (hB.mono HBc.out.size))
          clear hB z1 z2 z3 z4 z5 z6 z7
          cases ok1 with
          | false =>
            rw [show erI false 2 = 2 from rfl]
            go_wp2
            go_ret
            exact ⟨by rw [HDEF.out]; rfl, HBc.out⟩
          | true =>
            rw [show erI true 2 = 0 from rfl]
            go_wp2
            go_ret
            exact ⟨by rw [HDEF.out]; rfl, HBc.out⟩
end Go.Proofs.YtoonkfhphbojcaaGreatDoor
