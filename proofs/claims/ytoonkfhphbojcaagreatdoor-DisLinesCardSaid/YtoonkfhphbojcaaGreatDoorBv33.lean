/- The walks of ref10.bare, ref10.name, ref10.May, ref33.May: a line that may be told. -/
import Derived.Test.YtoonkfhphbojcaaGreatDoorBv29
import Derived.Test.YtoonkfhphbojcaaGreatDoorBv28
import Derived.Test.YtoonkfhphbojcaaGreatDoorBv23
import Derived.Test.YtoonkfhphbojcaaGreatDoorBv16
namespace Go.Proofs.YtoonkfhphbojcaaGreatDoor
open Go.RowKit Go.Maps
/-- a line's instruction, without a number that is an address -/
def bareL (x : GLine) : GIns := if x.dest = [] ∧ x.name = [] then x.x else noImm x.x
def four (x : GIns) : GIns := ⟨x.op, x.d, x.a, x.b, 4⟩
theorem ins_four (x : GIns) : insOk (four x) = (insOk (noImm x) && bitOf (useOf x.op) 8) := by
  unfold insOk four noImm
  simp only [show decide ((4 : Int) = 0) = false from rfl, Bool.or_false, Bool.or_true, Bool.and_true, decide_true]
def mayR (x : GLine) : Bool := insOk (bareL x) && nameOk x.label && nameOk x.dest && nameOk x.name && !(!decide (x.dest = []) && !decide (x.name = [])) && (decide (x.dest = []) && decide (x.name = []) || insOk (four (bareL x)))
theorem mayR_eq (x : GLine) : mayR x = lnMay x := by
  unfold mayR lnMay bareL
  by_cases hd : x.dest = []
  · by_cases hn : x.name = []
    · simp only [hd, hn, and_self, if_true, decide_true, Bool.and_self, Bool.true_or, Bool.and_true, Bool.not_true, Bool.not_false]
      cases insOk x.x <;> cases nameOk x.label <;> cases nameOk ([] : BL) <;> rfl
    · simp only [hd, hn, and_false, if_false, decide_true, decide_false, Bool.and_false, Bool.false_or, Bool.not_true, Bool.not_false, Bool.false_eq_true, Bool.true_and, Bool.and_true]
      rw [show four (noImm x.x) = four x.x from rfl, ins_four]
      have hu : insOk (noImm x.x) = true → decide (useOf x.x.op ≠ 0) = true := fun h => by
        unfold insOk noImm at h
        simp only [Bool.and_eq_true] at h
        exact h.1.1.1.1
      cases h1 : insOk (noImm x.x) with
      | false => simp
      | true => rw [hu h1]; cases bitOf (useOf x.x.op) 8 <;> cases nameOk x.label <;> cases nameOk ([] : BL) <;> cases nameOk x.name <;> rfl
  · simp only [hd, false_and, if_false, decide_false, Bool.false_and, Bool.false_or, Bool.not_false, Bool.true_and, Bool.false_eq_true]
    rw [show four (noImm x.x) = four x.x from rfl, ins_four]
    have hu : insOk (noImm x.x) = true → decide (useOf x.x.op ≠ 0) = true := fun h => by
      unfold insOk noImm at h
      simp only [Bool.and_eq_true] at h
      exact h.1.1.1.1
    cases h1 : insOk (noImm x.x) with
    | false => simp
    | true => rw [hu h1]; cases bitOf (useOf x.x.op) 8 <;> cases nameOk x.label <;> cases nameOk x.dest <;> cases nameOk x.name <;> cases decide (x.name = []) <;> rfl
theorem lineOk_R (x : GLine) : (mayR x && (decide (x.dest = []) || decide (x.x.imm = 0))) = lineOk x := by
  rw [mayR_eq]
  unfold lineOk tellMay checkLn lnMay
  simp only []
  cases nameOk x.label <;> cases nameOk x.dest <;> cases nameOk x.name <;> cases decide (x.dest = []) <;> cases decide (x.name = []) <;> simp
theorem rname10 (s : BL) (w : World) (hs : s.length ≤ 100000000) : Calls Tryz.prog 144 #[.string (bsOf s)] w fun e w' => e = .returned (.bool (nameOk s)) ∧ Below w.heap.size w w' := by
  have HC := Lib.hid (fun W => refName_any (bsOf s) W (by rw [bsOf_size]; unfold maxLen; omega))
  have hne := bs_nil33 s
  have HN : Hid (nameOk s = (decide (s = []) || isName (bsOf s))) := Lib.hid rfl
  generalize decide (s = []) = bb at *
  generalize isName (bsOf s) = b at *
  generalize bsOf s = S at *
  go_enter Tryz.func144, Tryz.ntmps144
  cases bb with
  | true =>
    go_wp2
    go_ret
    exact ⟨by rw [HN.out]; rfl, Below.refl _ _⟩
  | false =>
    go_wp2_with fail
    refine (HC.out _).mono ?_
    rintro e w2 ⟨rfl, hw⟩
    obtain rfl := hw
    go_wp2
    go_ret
    exact ⟨by rw [HN.out]; rfl, Below.refl _ _⟩
set_option maxHeartbeats 4000000 in
set_option maxRecDepth 100000 in
theorem rbare10 (x : GLine) (w : World) : Calls Tryz.prog 143 #[lineV x] w fun e w' => e = .returned (insV (bareL x)) ∧ Below w.heap.size w w' := by
  have hne1 := bs_nil33 x.dest
  have hne2 := bs_nil33 x.name
  have HB : Hid (bareL x = if x.dest = [] ∧ x.name = [] then x.x else noImm x.x) := Lib.hid rfl
  generalize bareL x = bx at HB ⊢
  obtain ⟨lab, ⟨op, xd, xa, xb, xi⟩, dd, nn⟩ := x
  simp only [] at hne1 hne2 HB
  unfold lineV lineA
  simp only []
  have HY : Hid (dd = [] → nn = [] → bx = ⟨op, xd, xa, xb, xi⟩) := Lib.hid fun h1 h2 => by rw [HB.out, if_pos ⟨h1, h2⟩]
  have HN : Hid (¬ (dd = [] ∧ nn = []) → bx = ⟨op, xd, xa, xb, 0⟩) := Lib.hid fun h => by rw [HB.out, if_neg h]; rfl
  clear HB
  generalize bsOf lab = SL at *
  generalize bsOf dd = SD at *
  generalize bsOf nn = SN at *
  have hX1 := (Below.heap_alloc (w.alloc (.cells #[.string SL, .int .u8 op, .int .u8 xd, .int .u8 xa, .int .u8 xb, .int .u32 xi, .string SD, .string SN] 59)) (.cells #[.int .u8 0, .int .u8 0, .int .u8 0, .int .u8 0, .int .u32 0] 24) w.heap.size (by simp)).trans (new_block w (.cells #[.string SL, .int .u8 op, .int .u8 xd, .int .u8 xa, .int .u8 xb, .int .u32 xi, .string SD, .string SN] 59))
  have hR1 := new_block (w.alloc (.cells #[.string SL, .int .u8 op, .int .u8 xd, .int .u8 xa, .int .u8 xb, .int .u32 xi, .string SD, .string SN] 59)) (.cells #[.int .u8 0, .int .u8 0, .int .u8 0, .int .u8 0, .int .u32 0] 24)
  have HB1 := Lib.hid ((alloc_old w (.cells #[.string SL, .int .u8 op, .int .u8 xd, .int .u8 xa, .int .u8 xb, .int .u32 xi, .string SD, .string SN] 59)).alloc (by simp) (.cells #[.int .u8 0, .int .u8 0, .int .u8 0, .int .u8 0, .int .u32 0] 24))
  rw [show (w.alloc (.cells #[.string SL, .int .u8 op, .int .u8 xd, .int .u8 xa, .int .u8 xb, .int .u32 xi, .string SD, .string SN] 59)).heap.size = w.heap.size + 1 by simp] at hR1
  go_enter Tryz.func143, Tryz.ntmps143
  go_upto_region 1 with fail
  generalize ((w.alloc (.cells #[.string SL, .int .u8 op, .int .u8 xd, .int .u8 xa, .int .u8 xb, .int .u32 xi, .string SD, .string SN] 59)).alloc (.cells #[.int .u8 0, .int .u8 0, .int .u8 0, .int .u8 0, .int .u32 0] 24)) = w1 at *
  obtain ⟨rb, HRB⟩ : ∃ rb, Hid (rb = w.heap.size + 1) := ⟨_, Lib.hid rfl⟩
  rw [← HRB.out] at hR1 ⊢
  have hrb1 : w.heap.size ≤ rb := by have := HRB.out; omega
  have hrb2 : rb ≠ w.heap.size := by have := HRB.out; omega
  clear HRB
  have z0 : w1.cell? ⟨w.heap.size, 0, none⟩ = some (.string SL) := Lib.cell_of_heap hX1 0
  have z1 : w1.cell? ⟨w.heap.size, 1, none⟩ = some (.int .u8 op) := Lib.cell_of_heap hX1 1
  have z2 : w1.cell? ⟨w.heap.size, 2, none⟩ = some (.int .u8 xd) := Lib.cell_of_heap hX1 2
  have z3 : w1.cell? ⟨w.heap.size, 3, none⟩ = some (.int .u8 xa) := Lib.cell_of_heap hX1 3
  have z4 : w1.cell? ⟨w.heap.size, 4, none⟩ = some (.int .u8 xb) := Lib.cell_of_heap hX1 4
  have z5 : w1.cell? ⟨w.heap.size, 5, none⟩ = some (.int .u32 xi) := Lib.cell_of_heap hX1 5
  have z6 : w1.cell? ⟨w.heap.size, 6, none⟩ = some (.string SD) := Lib.cell_of_heap hX1 6
  have z7 : w1.cell? ⟨w.heap.size, 7, none⟩ = some (.string SN) := Lib.cell_of_heap hX1 7
  have hl1 := (Array.getElem?_eq_some_iff.1 hX1).1
  have hr1 := (Array.getElem?_eq_some_iff.1 hR1).1
  have hX2 := (Below.heap_alloc w1 (.cells #[.int .u8 op, .int .u8 xd, .int .u8 xa, .int .u8 xb, .int .u32 xi] 24) w.heap.size hl1).trans hX1
  have hR2 := (Below.heap_alloc w1 (.cells #[.int .u8 op, .int .u8 xd, .int .u8 xa, .int .u8 xb, .int .u32 xi] 24) rb hr1).trans hR1
  have hT2 := new_block w1 (.cells #[.int .u8 op, .int .u8 xd, .int .u8 xa, .int .u8 xb, .int .u32 xi] 24)
  have HB2 := Lib.hid (HB1.out.alloc HB1.out.size (.cells #[.int .u8 op, .int .u8 xd, .int .u8 xa, .int .u8 xb, .int .u32 xi] 24))
  go_upto_region 2 with fail
  generalize (w1.alloc (.cells #[.int .u8 op, .int .u8 xd, .int .u8 xa, .int .u8 xb, .int .u32 xi] 24)) = w2 at *
  obtain ⟨tb, HTB⟩ : ∃ tb, Hid (tb = w1.heap.size) := ⟨_, Lib.hid rfl⟩
  rw [← HTB.out] at hT2 ⊢
  have htb1 : w.heap.size ≤ tb := by have := HTB.out; omega
  have htb2 : rb ≠ tb := by have := HTB.out; omega
  clear HTB z0 z1 z2 z3 z4 z5 z6 z7 hX1 hR1 HB1 hl1 hr1
  have z6 : w2.cell? ⟨w.heap.size, 6, none⟩ = some (.string SD) := Lib.cell_of_heap hX2 6
  have z7 : w2.cell? ⟨w.heap.size, 7, none⟩ = some (.string SN) := Lib.cell_of_heap hX2 7
  have hC : (dd = [] ∧ nn = []) ∨ (dd ≠ []) ∨ (dd = [] ∧ nn ≠ []) := by
    by_cases h1 : dd = []
    · by_cases h2 : nn = []
      · exact .inl ⟨h1, h2⟩
      · exact .inr (.inr ⟨h1, h2⟩)
    · exact .inr (.inl h1)
  rcases hC with ⟨h1, h2⟩ | h1 | ⟨h1, h2⟩
  case' inl =>
    have e1 : SD.toList.isEmpty = true := by rw [hne1]; simp [h1]
    have e2 : SN.toList.isEmpty = true := by rw [hne2]; simp [h2]
    have HZ := Lib.hid (HY.out h1 h2)
    clear h1 h2 hne1 hne2
    go_upto_region 4 with fail
    have hT3 := hT2
    have hR3 := hR2
    have HB3 := HB2
    clear z6 z7 hX2 hT2 hR2 HB2
    generalize w2 = w3 at *
    generalize xi = xj at *
  case' inr.inl =>
    have e1 : SD.toList.isEmpty = false := by rw [hne1]; simp [h1]
    have HZ := Lib.hid (HN.out (fun h => h1 h.1))
    clear h1 hne1 hne2
    have t4 : w2.cell? ⟨tb, 4, none⟩ = some (.int .u32 xi) := Lib.cell_of_heap hT2 4
    have g4 := Lib.frozen_of_heap hT2 4
    have hT3 := set33 hT2 4 (.int .u32 0)
    have hR3 := (Below.heap_setCell w2 ⟨tb, 4, none⟩ (.int .u32 0) rb (by simpa using htb2)).trans hR2
    have HB3 := Lib.hid (HB2.out.setCell (p := ⟨tb, 4, none⟩) htb1 (.int .u32 0))
    simp only [List.setIfInBounds_toArray, List.set_cons_zero, List.set_cons_succ] at hT3
    go_upto_region 4 with fail
    clear z6 z7 hX2 hT2 hR2 HB2 t4 g4
    generalize (w2.setCell ⟨tb, 4, none⟩ (.int .u32 0)) = w3 at *
    obtain ⟨xj, hxj⟩ : ∃ xj : Int, xj = 0 := ⟨_, rfl⟩
    rw [← hxj] at hT3 HZ
    clear hxj
  case' inr.inr =>
    have e1 : SD.toList.isEmpty = true := by rw [hne1]; simp [h1]
    have e2 : SN.toList.isEmpty = false := by rw [hne2]; simp [h2]
    have HZ := Lib.hid (HN.out (fun h => h2 h.2))
    clear h1 h2 hne1 hne2
    have t4 : w2.cell? ⟨tb, 4, none⟩ = some (.int .u32 xi) := Lib.cell_of_heap hT2 4
    have g4 := Lib.frozen_of_heap hT2 4
    have hT3 := set33 hT2 4 (.int .u32 0)
    have hR3 := (Below.heap_setCell w2 ⟨tb, 4, none⟩ (.int .u32 0) rb (by simpa using htb2)).trans hR2
    have HB3 := Lib.hid (HB2.out.setCell (p := ⟨tb, 4, none⟩) htb1 (.int .u32 0))
    simp only [List.setIfInBounds_toArray, List.set_cons_zero, List.set_cons_succ] at hT3
    go_upto_region 4 with fail
    clear z6 z7 hX2 hT2 hR2 HB2 t4 g4
    generalize (w2.setCell ⟨tb, 4, none⟩ (.int .u32 0)) = w3 at *
    obtain ⟨xj, hxj⟩ : ∃ xj : Int, xj = 0 := ⟨_, rfl⟩
    rw [← hxj] at hT3 HZ
    clear hxj
  all_goals
    have y0 : w3.cell? ⟨tb, 0, none⟩ = some (.int .u8 op) := Lib.cell_of_heap hT3 0
    have r0 : w3.cell? ⟨rb, 0, none⟩ = some (.int .u8 0) := Lib.cell_of_heap hR3 0
    have f0 := Lib.frozen_of_heap hR3 0
    have y1 : w3.cell? ⟨tb, 1, none⟩ = some (.int .u8 xd) := Lib.cell_of_heap hT3 1
    have r1 : w3.cell? ⟨rb, 1, none⟩ = some (.int .u8 0) := Lib.cell_of_heap hR3 1
    have f1 := Lib.frozen_of_heap hR3 1
    have y2 : w3.cell? ⟨tb, 2, none⟩ = some (.int .u8 xa) := Lib.cell_of_heap hT3 2
    have r2 : w3.cell? ⟨rb, 2, none⟩ = some (.int .u8 0) := Lib.cell_of_heap hR3 2
    have f2 := Lib.frozen_of_heap hR3 2
    have y3 : w3.cell? ⟨tb, 3, none⟩ = some (.int .u8 xb) := Lib.cell_of_heap hT3 3
    have r3 : w3.cell? ⟨rb, 3, none⟩ = some (.int .u8 0) := Lib.cell_of_heap hR3 3
    have f3 := Lib.frozen_of_heap hR3 3
    have y4 : w3.cell? ⟨tb, 4, none⟩ = some (.int .u32 xj) := Lib.cell_of_heap hT3 4
    have r4 : w3.cell? ⟨rb, 4, none⟩ = some (.int .u32 0) := Lib.cell_of_heap hR3 4
    have f4 := Lib.frozen_of_heap hR3 4
    have hR9 := (set33 (set33 (set33 (set33 (set33 hR3 0 (.int .u8 op)) 1 (.int .u8 xd)) 2 (.int .u8 xa)) 3 (.int .u8 xb)) 4 (.int .u32 xj))
    simp only [List.setIfInBounds_toArray, List.set_cons_zero, List.set_cons_succ] at hR9
    have HB9 := Lib.hid (((((HB3.out.setCell (p := ⟨rb, 0, none⟩) hrb1 (.int .u8 op)).setCell (p := ⟨rb, 1, none⟩) hrb1 (.int .u8 xd)).setCell (p := ⟨rb, 2, none⟩) hrb1 (.int .u8 xa)).setCell (p := ⟨rb, 3, none⟩) hrb1 (.int .u8 xb)).setCell (p := ⟨rb, 4, none⟩) hrb1 (.int .u32 xj))
    go_wp2
    clear y0 y1 y2 y3 y4 r0 r1 r2 r3 r4 f0 f1 f2 f3 f4
    generalize (((((w3.setCell ⟨rb, 0, none⟩ (.int .u8 op)).setCell ⟨rb, 1, none⟩ (.int .u8 xd)).setCell ⟨rb, 2, none⟩ (.int .u8 xa)).setCell ⟨rb, 3, none⟩ (.int .u8 xb)).setCell ⟨rb, 4, none⟩ (.int .u32 xj)) = w9 at *
    have y0 : w9.cell? ⟨rb, 0, none⟩ = some (.int .u8 op) := Lib.cell_of_heap hR9 0
    have y1 : w9.cell? ⟨rb, 1, none⟩ = some (.int .u8 xd) := Lib.cell_of_heap hR9 1
    have y2 : w9.cell? ⟨rb, 2, none⟩ = some (.int .u8 xa) := Lib.cell_of_heap hR9 2
    have y3 : w9.cell? ⟨rb, 3, none⟩ = some (.int .u8 xb) := Lib.cell_of_heap hR9 3
    have y4 : w9.cell? ⟨rb, 4, none⟩ = some (.int .u32 xj) := Lib.cell_of_heap hR9 4
    refine bodyPost_ret (v := .agg #[.int .u8 op, .int .u8 xd, .int .u8 xa, .int .u8 xb, .int .u32 xj]) (by simp [results, Tryz.results143, go_sem, y0, y1, y2, y3, y4]) rfl ?_
    rw [HZ.out]
    exact ⟨rfl, HB9.out⟩
theorem renc04_any (x : GIns) (w : World) (hx : InsB x) : Calls Tryz.prog 101 #[insV x] w fun e w' => (∃ t, e = .returned (.tuple #[.string t, .int .i64 (if insOk x then 0 else 2)])) ∧ Below w.heap.size w w' := by
  cases h : insOk x with
  | true => exact (renc04_yes x w hx h).mono fun e w' ⟨h1, h2⟩ => ⟨⟨_, h1⟩, h2⟩
  | false => exact (renc04_no x w h).mono fun e w' ⟨h1, h2⟩ => ⟨⟨_, h1⟩, h2⟩
theorem bareL_B {x : GLine} (h : InsB x.x) : InsB (bareL x) ∧ InsB (four (bareL x)) := by
  obtain ⟨h1, h2, h3, h4, h5⟩ := h
  unfold bareL
  split
  · exact ⟨⟨h1, h2, h3, h4, h5⟩, h1, h2, h3, h4, by simp [four]⟩
  · exact ⟨⟨h1, h2, h3, h4, by simp [noImm]⟩, h1, h2, h3, h4, by simp [four]⟩
set_option maxHeartbeats 4000000 in
set_option maxRecDepth 100000 in
theorem rmay10 (x : GLine) (w : World) (hx : InsB x.x) (hl : x.label.length ≤ 100000000) (ht : x.dest.length ≤ 100000000) (hnl : x.name.length ≤ 100000000) : Calls Tryz.prog 105 #[lineV x] w fun e w' => e = .returned (.bool (mayR x)) ∧ Below w.heap.size w w' := by
  have HBC := Lib.hid (fun W => rbare10 x W)
  have HE1 := Lib.hid (fun W => renc04_any (bareL x) W (bareL_B hx).1)
  have HE2 := Lib.hid (fun W => renc04_any (four (bareL x)) W (bareL_B hx).2)
  have HN1 := Lib.hid (fun W => rname10 x.label W hl)
  have HN2 := Lib.hid (fun W => rname10 x.dest W ht)
  have HN3 := Lib.hid (fun W => rname10 x.name W hnl)
  have hne1 := bs_nil33 x.dest
  have hne2 := bs_nil33 x.name
  have HM : Hid (mayR x = (insOk (bareL x) && nameOk x.label && nameOk x.dest && nameOk x.name && !(!decide (x.dest = []) && !decide (x.name = [])) && (decide (x.dest = []) && decide (x.name = []) || insOk (four (bareL x))))) := Lib.hid rfl
  generalize mayR x = res at HM ⊢
  generalize insOk (bareL x) = o1 at HE1 HM
  generalize insOk (four (bareL x)) = o2 at HE2 HM
  generalize nameOk x.label = n1 at HN1 HM
  generalize nameOk x.dest = n2 at HN2 HM
  generalize nameOk x.name = n3 at HN3 HM
  generalize decide (x.dest = []) = bd at hne1 HM
  generalize decide (x.name = []) = bn at hne2 HM
  generalize bareL x = y at HBC HE1 HE2
  clear hx hl ht hnl
  obtain ⟨yo, yd, ya, yb, yi⟩ := y
  obtain ⟨lab, ⟨op, xd, xa, xb, xi⟩, dd, nn⟩ := x
  unfold insV at HE1 HE2 HBC
  unfold four at HE2
  unfold lineV lineA at HBC ⊢
  simp only [] at HE1 HE2 HBC HN1 HN2 HN3 hne1 hne2 ⊢
  generalize bsOf lab = SL at *
  generalize bsOf dd = SD at *
  generalize bsOf nn = SN at *
  have HB1 := Lib.hid (alloc_old w (.cells #[.string SL, .int .u8 op, .int .u8 xd, .int .u8 xa, .int .u8 xb, .int .u32 xi, .string SD, .string SN] 59))
  have hX1 := new_block w (.cells #[.string SL, .int .u8 op, .int .u8 xd, .int .u8 xa, .int .u8 xb, .int .u32 xi, .string SD, .string SN] 59)
  go_enter Tryz.func105, Tryz.ntmps105
  go_upto_region 1 with fail
  generalize (w.alloc (.cells #[.string SL, .int .u8 op, .int .u8 xd, .int .u8 xa, .int .u8 xb, .int .u32 xi, .string SD, .string SN] 59)) = w1 at *
  have z0 : w1.cell? ⟨w.heap.size, 0, none⟩ = some (.string SL) := Lib.cell_of_heap hX1 0
  have z1 : w1.cell? ⟨w.heap.size, 1, none⟩ = some (.int .u8 op) := Lib.cell_of_heap hX1 1
  have z2 : w1.cell? ⟨w.heap.size, 2, none⟩ = some (.int .u8 xd) := Lib.cell_of_heap hX1 2
  have z3 : w1.cell? ⟨w.heap.size, 3, none⟩ = some (.int .u8 xa) := Lib.cell_of_heap hX1 3
  have z4 : w1.cell? ⟨w.heap.size, 4, none⟩ = some (.int .u8 xb) := Lib.cell_of_heap hX1 4
  have z5 : w1.cell? ⟨w.heap.size, 5, none⟩ = some (.int .u32 xi) := Lib.cell_of_heap hX1 5
  have z6 : w1.cell? ⟨w.heap.size, 6, none⟩ = some (.string SD) := Lib.cell_of_heap hX1 6
  have z7 : w1.cell? ⟨w.heap.size, 7, none⟩ = some (.string SN) := Lib.cell_of_heap hX1 7
  go_wp2_with fail
  refine (HBC.out _).mono ?_
  rintro e w2 ⟨rfl, hB⟩
  have hX2 := (hB.block w.heap.size (Array.getElem?_eq_some_iff.1 hX1).1).trans hX1
  have HB2 := Lib.hid (HB1.out.trans (hB.mono HB1.out.size))
  clear hB hX1 HB1 z0 z1 z2 z3 z4 z5 z6 z7
  go_wp2_with fail
  refine (HE1.out _).mono ?_
  rintro e w3 ⟨⟨t, rfl⟩, hB⟩
  have hX3 := (hB.block w.heap.size (Array.getElem?_eq_some_iff.1 hX2).1).trans hX2
  have HB3 := Lib.hid (HB2.out.trans (hB.mono HB2.out.size))
  clear hB hX2 HB2 HE1
  cases o1 with
  | false =>
    simp only [Bool.false_eq_true, if_false]
    go_wp2
    go_ret
    exact ⟨by rw [HM.out]; rfl, HB3.out⟩
  | true =>
    simp only [if_true]
    have z0 : w3.cell? ⟨w.heap.size, 0, none⟩ = some (.string SL) := Lib.cell_of_heap hX3 0
    go_wp2_with fail
    refine (HN1.out _).mono ?_
    rintro e w4 ⟨rfl, hB⟩
    have hX4 := (hB.block w.heap.size (Array.getElem?_eq_some_iff.1 hX3).1).trans hX3
    have HB4 := Lib.hid (HB3.out.trans (hB.mono HB3.out.size))
    clear hB hX3 HB3 z0 HN1
    cases n1 with
    | false =>
      go_wp2
      go_ret
      exact ⟨by rw [HM.out]; rfl, HB4.out⟩
    | true =>
      have z6 : w4.cell? ⟨w.heap.size, 6, none⟩ = some (.string SD) := Lib.cell_of_heap hX4 6
      go_wp2_with fail
      refine (HN2.out _).mono ?_
      rintro e w5 ⟨rfl, hB⟩
      have hX5 := (hB.block w.heap.size (Array.getElem?_eq_some_iff.1 hX4).1).trans hX4
      have HB5 := Lib.hid (HB4.out.trans (hB.mono HB4.out.size))
      clear hB hX4 HB4 z6 HN2
      cases n2 with
      | false =>
        go_wp2
        go_ret
        exact ⟨by rw [HM.out]; rfl, HB5.out⟩
      | true =>
        have z7 : w5.cell? ⟨w.heap.size, 7, none⟩ = some (.string SN) := Lib.cell_of_heap hX5 7
        go_wp2_with fail
        refine (HN3.out _).mono ?_
        rintro e w6 ⟨rfl, hB⟩
        have hX6 := (hB.block w.heap.size (Array.getElem?_eq_some_iff.1 hX5).1).trans hX5
        have HB6 := Lib.hid (HB5.out.trans (hB.mono HB5.out.size))
        clear hB hX5 HB5 z7 HN3
        cases n3 with
        | false =>
          go_wp2
          go_ret
          exact ⟨by rw [HM.out]; rfl, HB6.out⟩
        | true =>
          have z0 : w6.cell? ⟨w.heap.size, 0, none⟩ = some (.string SL) := Lib.cell_of_heap hX6 0
          have z1 : w6.cell? ⟨w.heap.size, 1, none⟩ = some (.int .u8 op) := Lib.cell_of_heap hX6 1
          have z2 : w6.cell? ⟨w.heap.size, 2, none⟩ = some (.int .u8 xd) := Lib.cell_of_heap hX6 2
          have z3 : w6.cell? ⟨w.heap.size, 3, none⟩ = some (.int .u8 xa) := Lib.cell_of_heap hX6 3
          have z4 : w6.cell? ⟨w.heap.size, 4, none⟩ = some (.int .u8 xb) := Lib.cell_of_heap hX6 4
          have z5 : w6.cell? ⟨w.heap.size, 5, none⟩ = some (.int .u32 xi) := Lib.cell_of_heap hX6 5
          have z6 : w6.cell? ⟨w.heap.size, 6, none⟩ = some (.string SD) := Lib.cell_of_heap hX6 6
          have z7 : w6.cell? ⟨w.heap.size, 7, none⟩ = some (.string SN) := Lib.cell_of_heap hX6 7
          cases bd <;> cases bn
          ·
            go_wp2
            go_ret
            exact ⟨by rw [HM.out]; rfl, HB6.out⟩
          ·
            go_wp2_with fail
            refine (HBC.out _).mono ?_
            rintro e w7 ⟨rfl, hB⟩
            have HB7 := Lib.hid (HB6.out.trans (hB.mono HB6.out.size))
            clear hB hX6 HB6 z0 z1 z2 z3 z4 z5 z6 z7
            have hT8 := new_block w7 (.cells #[.int .u8 yo, .int .u8 yd, .int .u8 ya, .int .u8 yb, .int .u32 yi] 24)
            have HB8 := Lib.hid (HB7.out.alloc HB7.out.size (.cells #[.int .u8 yo, .int .u8 yd, .int .u8 ya, .int .u8 yb, .int .u32 yi] 24))
            go_upto_region 7 with fail
            generalize (w7.alloc (.cells #[.int .u8 yo, .int .u8 yd, .int .u8 ya, .int .u8 yb, .int .u32 yi] 24)) = w8 at *
            obtain ⟨tb, HTB⟩ : ∃ tb, Hid (tb = w7.heap.size) := ⟨_, Lib.hid rfl⟩
            rw [← HTB.out] at hT8 ⊢
            have htb1 : w.heap.size ≤ tb := by have := HTB.out; have := HB7.out.size; omega
            clear HTB
            have t4 : w8.cell? ⟨tb, 4, none⟩ = some (.int .u32 yi) := Lib.cell_of_heap hT8 4
            have g4 := Lib.frozen_of_heap hT8 4
            have hT9 := set33 hT8 4 (.int .u32 4)
            simp only [List.setIfInBounds_toArray, List.set_cons_zero, List.set_cons_succ] at hT9
            have HB9 := Lib.hid (HB8.out.setCell (p := ⟨tb, 4, none⟩) htb1 (.int .u32 4))
            go_upto_region 8 with fail
            generalize (w8.setCell ⟨tb, 4, none⟩ (.int .u32 4)) = w9 at *
            clear t4 g4 hT8 HB8 HB7
            have t0 : w9.cell? ⟨tb, 0, none⟩ = some (.int .u8 yo) := Lib.cell_of_heap hT9 0
            have t1 : w9.cell? ⟨tb, 1, none⟩ = some (.int .u8 yd) := Lib.cell_of_heap hT9 1
            have t2 : w9.cell? ⟨tb, 2, none⟩ = some (.int .u8 ya) := Lib.cell_of_heap hT9 2
            have t3 : w9.cell? ⟨tb, 3, none⟩ = some (.int .u8 yb) := Lib.cell_of_heap hT9 3
            have t4 : w9.cell? ⟨tb, 4, none⟩ = some (.int .u32 4) := Lib.cell_of_heap hT9 4
            go_wp2_with fail
            refine (HE2.out _).mono ?_
            rintro e w10 ⟨⟨t, rfl⟩, hB⟩
            have HB10 := Lib.hid (HB9.out.trans (hB.mono HB9.out.size))
            clear hB t0 t1 t2 t3 t4
            cases o2 with
            | false =>
              simp only [Bool.false_eq_true, if_false]
              go_wp2
              go_ret
              exact ⟨by rw [HM.out]; rfl, HB10.out⟩
            | true =>
              simp only [if_true]
              go_wp2
              go_ret
              exact ⟨by rw [HM.out]; rfl, HB10.out⟩
          ·
            go_wp2_with fail
            refine (HBC.out _).mono ?_
            rintro e w7 ⟨rfl, hB⟩
            have HB7 := Lib.hid (HB6.out.trans (hB.mono HB6.out.size))
            clear hB hX6 HB6 z0 z1 z2 z3 z4 z5 z6 z7
            have hT8 := new_block w7 (.cells #[.int .u8 yo, .int .u8 yd, .int .u8 ya, .int .u8 yb, .int .u32 yi] 24)
            have HB8 := Lib.hid (HB7.out.alloc HB7.out.size (.cells #[.int .u8 yo, .int .u8 yd, .int .u8 ya, .int .u8 yb, .int .u32 yi] 24))
            go_upto_region 7 with fail
            generalize (w7.alloc (.cells #[.int .u8 yo, .int .u8 yd, .int .u8 ya, .int .u8 yb, .int .u32 yi] 24)) = w8 at *
            obtain ⟨tb, HTB⟩ : ∃ tb, Hid (tb = w7.heap.size) := ⟨_, Lib.hid rfl⟩
            rw [← HTB.out] at hT8 ⊢
            have htb1 : w.heap.size ≤ tb := by have := HTB.out; have := HB7.out.size; omega
            clear HTB
            have t4 : w8.cell? ⟨tb, 4, none⟩ = some (.int .u32 yi) := Lib.cell_of_heap hT8 4
            have g4 := Lib.frozen_of_heap hT8 4
            have hT9 := set33 hT8 4 (.int .u32 4)
            simp only [List.setIfInBounds_toArray, List.set_cons_zero, List.set_cons_succ] at hT9
            have HB9 := Lib.hid (HB8.out.setCell (p := ⟨tb, 4, none⟩) htb1 (.int .u32 4))
            go_upto_region 8 with fail
            generalize (w8.setCell ⟨tb, 4, none⟩ (.int .u32 4)) = w9 at *
            clear t4 g4 hT8 HB8 HB7
            have t0 : w9.cell? ⟨tb, 0, none⟩ = some (.int .u8 yo) := Lib.cell_of_heap hT9 0
            have t1 : w9.cell? ⟨tb, 1, none⟩ = some (.int .u8 yd) := Lib.cell_of_heap hT9 1
            have t2 : w9.cell? ⟨tb, 2, none⟩ = some (.int .u8 ya) := Lib.cell_of_heap hT9 2
            have t3 : w9.cell? ⟨tb, 3, none⟩ = some (.int .u8 yb) := Lib.cell_of_heap hT9 3
            have t4 : w9.cell? ⟨tb, 4, none⟩ = some (.int .u32 4) := Lib.cell_of_heap hT9 4
            go_wp2_with fail
            refine (HE2.out _).mono ?_
            rintro e w10 ⟨⟨t, rfl⟩, hB⟩
            have HB10 := Lib.hid (HB9.out.trans (hB.mono HB9.out.size))
            clear hB t0 t1 t2 t3 t4
            cases o2 with
            | false =>
              simp only [Bool.false_eq_true, if_false]
              go_wp2
              go_ret
              exact ⟨by rw [HM.out]; rfl, HB10.out⟩
            | true =>
              simp only [if_true]
              go_wp2
              go_ret
              exact ⟨by rw [HM.out]; rfl, HB10.out⟩
          ·
            go_wp2
            go_ret
            exact ⟨by rw [HM.out]; rfl, HB6.out⟩
set_option maxHeartbeats 4000000 in
set_option maxRecDepth 100000 in
theorem rmay33 (x : GLine) (w : World) (hx : InsB x.x) (hl : x.label.length ≤ 100000000) (ht : x.dest.length ≤ 100000000) (hnl : x.name.length ≤ 100000000) : Calls Tryz.prog 54 #[lineV x] w fun e w' => e = .returned (.bool (lineOk x)) ∧ Below w.heap.size w w' := by
  have HMC := Lib.hid (fun W => rmay10 x W hx hl ht hnl)
  have HM : Hid (lineOk x = (mayR x && (decide (x.dest = []) || decide (x.x.imm = 0)))) := Lib.hid (lineOk_R x).symm
  have hne1 := bs_nil33 x.dest
  generalize lineOk x = res at HM ⊢
  generalize mayR x = o1 at HMC HM
  generalize decide (x.dest = []) = bd at hne1 HM
  clear hx hl ht hnl
  obtain ⟨lab, ⟨op, xd, xa, xb, xi⟩, dd, nn⟩ := x
  unfold lineV lineA at HMC ⊢
  simp only [] at HMC hne1 HM ⊢
  generalize bsOf lab = SL at *
  generalize bsOf dd = SD at *
  generalize bsOf nn = SN at *
  have HB1 := Lib.hid (alloc_old w (.cells #[.string SL, .int .u8 op, .int .u8 xd, .int .u8 xa, .int .u8 xb, .int .u32 xi, .string SD, .string SN] 59))
  have hX1 := new_block w (.cells #[.string SL, .int .u8 op, .int .u8 xd, .int .u8 xa, .int .u8 xb, .int .u32 xi, .string SD, .string SN] 59)
  go_enter Tryz.func54, Tryz.ntmps54
  go_upto_region 1 with fail
  generalize (w.alloc (.cells #[.string SL, .int .u8 op, .int .u8 xd, .int .u8 xa, .int .u8 xb, .int .u32 xi, .string SD, .string SN] 59)) = w1 at *
  have z0 : w1.cell? ⟨w.heap.size, 0, none⟩ = some (.string SL) := Lib.cell_of_heap hX1 0
  have z1 : w1.cell? ⟨w.heap.size, 1, none⟩ = some (.int .u8 op) := Lib.cell_of_heap hX1 1
  have z2 : w1.cell? ⟨w.heap.size, 2, none⟩ = some (.int .u8 xd) := Lib.cell_of_heap hX1 2
  have z3 : w1.cell? ⟨w.heap.size, 3, none⟩ = some (.int .u8 xa) := Lib.cell_of_heap hX1 3
  have z4 : w1.cell? ⟨w.heap.size, 4, none⟩ = some (.int .u8 xb) := Lib.cell_of_heap hX1 4
  have z5 : w1.cell? ⟨w.heap.size, 5, none⟩ = some (.int .u32 xi) := Lib.cell_of_heap hX1 5
  have z6 : w1.cell? ⟨w.heap.size, 6, none⟩ = some (.string SD) := Lib.cell_of_heap hX1 6
  have z7 : w1.cell? ⟨w.heap.size, 7, none⟩ = some (.string SN) := Lib.cell_of_heap hX1 7
  go_wp2_with fail
  refine (HMC.out _).mono ?_
  rintro e w2 ⟨rfl, hB⟩
  have hX2 := (hB.block w.heap.size (Array.getElem?_eq_some_iff.1 hX1).1).trans hX1
  have HB2 := Lib.hid (HB1.out.trans (hB.mono HB1.out.size))
  clear hB hX1 HB1 z0 z1 z2 z3 z4 z5 z6 z7
  have z5 : w2.cell? ⟨w.heap.size, 5, none⟩ = some (.int .u32 xi) := Lib.cell_of_heap hX2 5
  have z6 : w2.cell? ⟨w.heap.size, 6, none⟩ = some (.string SD) := Lib.cell_of_heap hX2 6
  cases o1 with
  | false =>
    go_wp2
    go_ret
    exact ⟨by rw [HM.out]; rfl, HB2.out⟩
  | true =>
    cases bd with
    | false =>
      go_wp2
      go_ret
      exact ⟨by rw [HM.out]; simp [ibeq], HB2.out⟩
    | true =>
      go_wp2
      go_ret
      exact ⟨by rw [HM.out]; rfl, HB2.out⟩
end Go.Proofs.YtoonkfhphbojcaaGreatDoor
