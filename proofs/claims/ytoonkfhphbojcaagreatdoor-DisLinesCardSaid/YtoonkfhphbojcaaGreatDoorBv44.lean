/- The walks of asm's makers of lines that law33.alive calls, and of law33.alive. -/
import Derived.Test.YtoonkfhphbojcaaGreatDoorBv42
import Derived.Test.YtoonkfhphbojcaaGreatDoorBv22
namespace Go.Proofs.YtoonkfhphbojcaaGreatDoor
open Go.RowKit Go.Maps
set_option maxHeartbeats 4000000 in
set_option maxRecDepth 100000 in
theorem ldAt33 (op d add : Int) (n : ByteArray) (w : World) : Calls Tryz.prog 82 #[.int .u8 op, .int .u8 d, .string n, .int .u32 add] w fun e w' => e = .returned (.agg #[.string ⟨#[]⟩, .int .u8 op, .int .u8 d, .int .u8 0, .int .u8 0, .int .u32 add, .string ⟨#[]⟩, .string n]) ∧ Below w.heap.size w w' := by
  have HB := Lib.hid (alloc_old w (.cells #[.string ⟨#[]⟩, .int .u8 op, .int .u8 d, .int .u8 0, .int .u8 0, .int .u32 add, .string ⟨#[]⟩, .string n] 59))
  go_enter Tryz.func82, Tryz.ntmps82
  go_wp2
  exact bodyPost_ret (v := .agg #[.string ⟨#[]⟩, .int .u8 op, .int .u8 d, .int .u8 0, .int .u8 0, .int .u32 add, .string ⟨#[]⟩, .string n]) (by simp [results, Tryz.results82, go_sem]) rfl ⟨rfl, HB.out⟩
set_option maxHeartbeats 4000000 in
set_option maxRecDepth 100000 in
theorem la33 (d add : Int) (n : ByteArray) (w : World) : Calls Tryz.prog 32 #[.int .u8 d, .string n, .int .u32 add] w fun e w' => e = .returned (.agg #[.string ⟨#[]⟩, .int .u8 32, .int .u8 d, .int .u8 0, .int .u8 0, .int .u32 add, .string ⟨#[]⟩, .string n]) ∧ Below w.heap.size w w' := by
  have HC := Lib.hid (fun W => ldAt33 32 d add n W)
  have HB := Lib.hid (alloc_old w (.cells #[.string ⟨#[]⟩, .int .u8 0, .int .u8 0, .int .u8 0, .int .u8 0, .int .u32 0, .string ⟨#[]⟩, .string ⟨#[]⟩] 59))
  have hX := new_block w (.cells #[.string ⟨#[]⟩, .int .u8 0, .int .u8 0, .int .u8 0, .int .u8 0, .int .u32 0, .string ⟨#[]⟩, .string ⟨#[]⟩] 59)
  go_enter Tryz.func32, Tryz.ntmps32
  go_upto_region 1 with fail
  generalize (w.alloc (.cells #[.string ⟨#[]⟩, .int .u8 0, .int .u8 0, .int .u8 0, .int .u8 0, .int .u32 0, .string ⟨#[]⟩, .string ⟨#[]⟩] 59)) = w1 at *
  have hl1 := (Array.getElem?_eq_some_iff.1 hX).1
  go_wp2_with fail
  refine (HC.out _).mono ?_
  rintro e w2 ⟨rfl, hB⟩
  have hX2 := (hB.block w.heap.size hl1).trans hX
  have HB2 := Lib.hid (HB.out.trans (hB.mono HB.out.size))
  clear hB hX hl1 HB HC
  have z0 : w2.cell? ⟨w.heap.size, 0, none⟩ = some (.string ⟨#[]⟩) := Lib.cell_of_heap hX2 0
  have f0 := Lib.frozen_of_heap hX2 0
  have z1 : w2.cell? ⟨w.heap.size, 1, none⟩ = some (.int .u8 0) := Lib.cell_of_heap hX2 1
  have f1 := Lib.frozen_of_heap hX2 1
  have z2 : w2.cell? ⟨w.heap.size, 2, none⟩ = some (.int .u8 0) := Lib.cell_of_heap hX2 2
  have f2 := Lib.frozen_of_heap hX2 2
  have z3 : w2.cell? ⟨w.heap.size, 3, none⟩ = some (.int .u8 0) := Lib.cell_of_heap hX2 3
  have f3 := Lib.frozen_of_heap hX2 3
  have z4 : w2.cell? ⟨w.heap.size, 4, none⟩ = some (.int .u8 0) := Lib.cell_of_heap hX2 4
  have f4 := Lib.frozen_of_heap hX2 4
  have z5 : w2.cell? ⟨w.heap.size, 5, none⟩ = some (.int .u32 0) := Lib.cell_of_heap hX2 5
  have f5 := Lib.frozen_of_heap hX2 5
  have z6 : w2.cell? ⟨w.heap.size, 6, none⟩ = some (.string ⟨#[]⟩) := Lib.cell_of_heap hX2 6
  have f6 := Lib.frozen_of_heap hX2 6
  have z7 : w2.cell? ⟨w.heap.size, 7, none⟩ = some (.string ⟨#[]⟩) := Lib.cell_of_heap hX2 7
  have f7 := Lib.frozen_of_heap hX2 7
  have hX9 := (set33 (set33 (set33 (set33 (set33 (set33 (set33 (set33 hX2 0 (.string ⟨#[]⟩)) 1 (.int .u8 32)) 2 (.int .u8 d)) 3 (.int .u8 0)) 4 (.int .u8 0)) 5 (.int .u32 add)) 6 (.string ⟨#[]⟩)) 7 (.string n))
  simp only [List.setIfInBounds_toArray, List.set_cons_zero, List.set_cons_succ] at hX9
  have HB9 := Lib.hid ((((((((HB2.out.setCell (p := ⟨w.heap.size, 0, none⟩) (Nat.le_refl _) (.string ⟨#[]⟩)).setCell (p := ⟨w.heap.size, 1, none⟩) (Nat.le_refl _) (.int .u8 32)).setCell (p := ⟨w.heap.size, 2, none⟩) (Nat.le_refl _) (.int .u8 d)).setCell (p := ⟨w.heap.size, 3, none⟩) (Nat.le_refl _) (.int .u8 0)).setCell (p := ⟨w.heap.size, 4, none⟩) (Nat.le_refl _) (.int .u8 0)).setCell (p := ⟨w.heap.size, 5, none⟩) (Nat.le_refl _) (.int .u32 add)).setCell (p := ⟨w.heap.size, 6, none⟩) (Nat.le_refl _) (.string ⟨#[]⟩)).setCell (p := ⟨w.heap.size, 7, none⟩) (Nat.le_refl _) (.string n))
  go_wp2
  clear z0 z1 z2 z3 z4 z5 z6 z7 f0 f1 f2 f3 f4 f5 f6 f7
  generalize ((((((((w2.setCell ⟨w.heap.size, 0, none⟩ (.string ⟨#[]⟩)).setCell ⟨w.heap.size, 1, none⟩ (.int .u8 32)).setCell ⟨w.heap.size, 2, none⟩ (.int .u8 d)).setCell ⟨w.heap.size, 3, none⟩ (.int .u8 0)).setCell ⟨w.heap.size, 4, none⟩ (.int .u8 0)).setCell ⟨w.heap.size, 5, none⟩ (.int .u32 add)).setCell ⟨w.heap.size, 6, none⟩ (.string ⟨#[]⟩)).setCell ⟨w.heap.size, 7, none⟩ (.string n)) = w9 at *
  have z0 : w9.cell? ⟨w.heap.size, 0, none⟩ = some (.string ⟨#[]⟩) := Lib.cell_of_heap hX9 0
  have z1 : w9.cell? ⟨w.heap.size, 1, none⟩ = some (.int .u8 32) := Lib.cell_of_heap hX9 1
  have z2 : w9.cell? ⟨w.heap.size, 2, none⟩ = some (.int .u8 d) := Lib.cell_of_heap hX9 2
  have z3 : w9.cell? ⟨w.heap.size, 3, none⟩ = some (.int .u8 0) := Lib.cell_of_heap hX9 3
  have z4 : w9.cell? ⟨w.heap.size, 4, none⟩ = some (.int .u8 0) := Lib.cell_of_heap hX9 4
  have z5 : w9.cell? ⟨w.heap.size, 5, none⟩ = some (.int .u32 add) := Lib.cell_of_heap hX9 5
  have z6 : w9.cell? ⟨w.heap.size, 6, none⟩ = some (.string ⟨#[]⟩) := Lib.cell_of_heap hX9 6
  have z7 : w9.cell? ⟨w.heap.size, 7, none⟩ = some (.string n) := Lib.cell_of_heap hX9 7
  exact bodyPost_ret (v := .agg #[.string ⟨#[]⟩, .int .u8 32, .int .u8 d, .int .u8 0, .int .u8 0, .int .u32 add, .string ⟨#[]⟩, .string n]) (by simp [results, Tryz.results32, go_sem, z0, z1, z2, z3, z4, z5, z6, z7]) rfl ⟨rfl, HB9.out⟩
set_option maxHeartbeats 4000000 in
set_option maxRecDepth 100000 in
theorem br33 (op a b : Int) (t : ByteArray) (w : World) : Calls Tryz.prog 81 #[.int .u8 op, .int .u8 a, .int .u8 b, .string t] w fun e w' => e = .returned (.agg #[.string ⟨#[]⟩, .int .u8 op, .int .u8 0, .int .u8 a, .int .u8 b, .int .u32 0, .string t, .string ⟨#[]⟩]) ∧ Below w.heap.size w w' := by
  have HB := Lib.hid (alloc_old w (.cells #[.string ⟨#[]⟩, .int .u8 op, .int .u8 0, .int .u8 a, .int .u8 b, .int .u32 0, .string t, .string ⟨#[]⟩] 59))
  go_enter Tryz.func81, Tryz.ntmps81
  go_wp2
  exact bodyPost_ret (v := .agg #[.string ⟨#[]⟩, .int .u8 op, .int .u8 0, .int .u8 a, .int .u8 b, .int .u32 0, .string t, .string ⟨#[]⟩]) (by simp [results, Tryz.results81, go_sem]) rfl ⟨rfl, HB.out⟩
set_option maxHeartbeats 4000000 in
set_option maxRecDepth 100000 in
theorem jmp33 (t : ByteArray) (w : World) : Calls Tryz.prog 31 #[.string t] w fun e w' => e = .returned (.agg #[.string ⟨#[]⟩, .int .u8 40, .int .u8 0, .int .u8 0, .int .u8 0, .int .u32 0, .string t, .string ⟨#[]⟩]) ∧ Below w.heap.size w w' := by
  have HC := Lib.hid (fun W => br33 40 0 0 t W)
  have HB := Lib.hid (alloc_old w (.cells #[.string ⟨#[]⟩, .int .u8 0, .int .u8 0, .int .u8 0, .int .u8 0, .int .u32 0, .string ⟨#[]⟩, .string ⟨#[]⟩] 59))
  have hX := new_block w (.cells #[.string ⟨#[]⟩, .int .u8 0, .int .u8 0, .int .u8 0, .int .u8 0, .int .u32 0, .string ⟨#[]⟩, .string ⟨#[]⟩] 59)
  go_enter Tryz.func31, Tryz.ntmps31
  go_upto_region 1 with fail
  generalize (w.alloc (.cells #[.string ⟨#[]⟩, .int .u8 0, .int .u8 0, .int .u8 0, .int .u8 0, .int .u32 0, .string ⟨#[]⟩, .string ⟨#[]⟩] 59)) = w1 at *
  have hl1 := (Array.getElem?_eq_some_iff.1 hX).1
  go_wp2_with fail
  refine (HC.out _).mono ?_
  rintro e w2 ⟨rfl, hB⟩
  have hX2 := (hB.block w.heap.size hl1).trans hX
  have HB2 := Lib.hid (HB.out.trans (hB.mono HB.out.size))
  clear hB hX hl1 HB HC
  have z0 : w2.cell? ⟨w.heap.size, 0, none⟩ = some (.string ⟨#[]⟩) := Lib.cell_of_heap hX2 0
  have f0 := Lib.frozen_of_heap hX2 0
  have z1 : w2.cell? ⟨w.heap.size, 1, none⟩ = some (.int .u8 0) := Lib.cell_of_heap hX2 1
  have f1 := Lib.frozen_of_heap hX2 1
  have z2 : w2.cell? ⟨w.heap.size, 2, none⟩ = some (.int .u8 0) := Lib.cell_of_heap hX2 2
  have f2 := Lib.frozen_of_heap hX2 2
  have z3 : w2.cell? ⟨w.heap.size, 3, none⟩ = some (.int .u8 0) := Lib.cell_of_heap hX2 3
  have f3 := Lib.frozen_of_heap hX2 3
  have z4 : w2.cell? ⟨w.heap.size, 4, none⟩ = some (.int .u8 0) := Lib.cell_of_heap hX2 4
  have f4 := Lib.frozen_of_heap hX2 4
  have z5 : w2.cell? ⟨w.heap.size, 5, none⟩ = some (.int .u32 0) := Lib.cell_of_heap hX2 5
  have f5 := Lib.frozen_of_heap hX2 5
  have z6 : w2.cell? ⟨w.heap.size, 6, none⟩ = some (.string ⟨#[]⟩) := Lib.cell_of_heap hX2 6
  have f6 := Lib.frozen_of_heap hX2 6
  have z7 : w2.cell? ⟨w.heap.size, 7, none⟩ = some (.string ⟨#[]⟩) := Lib.cell_of_heap hX2 7
  have f7 := Lib.frozen_of_heap hX2 7
  have hX9 := (set33 (set33 (set33 (set33 (set33 (set33 (set33 (set33 hX2 0 (.string ⟨#[]⟩)) 1 (.int .u8 40)) 2 (.int .u8 0)) 3 (.int .u8 0)) 4 (.int .u8 0)) 5 (.int .u32 0)) 6 (.string t)) 7 (.string ⟨#[]⟩))
  simp only [List.setIfInBounds_toArray, List.set_cons_zero, List.set_cons_succ] at hX9
  have HB9 := Lib.hid ((((((((HB2.out.setCell (p := ⟨w.heap.size, 0, none⟩) (Nat.le_refl _) (.string ⟨#[]⟩)).setCell (p := ⟨w.heap.size, 1, none⟩) (Nat.le_refl _) (.int .u8 40)).setCell (p := ⟨w.heap.size, 2, none⟩) (Nat.le_refl _) (.int .u8 0)).setCell (p := ⟨w.heap.size, 3, none⟩) (Nat.le_refl _) (.int .u8 0)).setCell (p := ⟨w.heap.size, 4, none⟩) (Nat.le_refl _) (.int .u8 0)).setCell (p := ⟨w.heap.size, 5, none⟩) (Nat.le_refl _) (.int .u32 0)).setCell (p := ⟨w.heap.size, 6, none⟩) (Nat.le_refl _) (.string t)).setCell (p := ⟨w.heap.size, 7, none⟩) (Nat.le_refl _) (.string ⟨#[]⟩))
  go_wp2
  clear z0 z1 z2 z3 z4 z5 z6 z7 f0 f1 f2 f3 f4 f5 f6 f7
  generalize ((((((((w2.setCell ⟨w.heap.size, 0, none⟩ (.string ⟨#[]⟩)).setCell ⟨w.heap.size, 1, none⟩ (.int .u8 40)).setCell ⟨w.heap.size, 2, none⟩ (.int .u8 0)).setCell ⟨w.heap.size, 3, none⟩ (.int .u8 0)).setCell ⟨w.heap.size, 4, none⟩ (.int .u8 0)).setCell ⟨w.heap.size, 5, none⟩ (.int .u32 0)).setCell ⟨w.heap.size, 6, none⟩ (.string t)).setCell ⟨w.heap.size, 7, none⟩ (.string ⟨#[]⟩)) = w9 at *
  have z0 : w9.cell? ⟨w.heap.size, 0, none⟩ = some (.string ⟨#[]⟩) := Lib.cell_of_heap hX9 0
  have z1 : w9.cell? ⟨w.heap.size, 1, none⟩ = some (.int .u8 40) := Lib.cell_of_heap hX9 1
  have z2 : w9.cell? ⟨w.heap.size, 2, none⟩ = some (.int .u8 0) := Lib.cell_of_heap hX9 2
  have z3 : w9.cell? ⟨w.heap.size, 3, none⟩ = some (.int .u8 0) := Lib.cell_of_heap hX9 3
  have z4 : w9.cell? ⟨w.heap.size, 4, none⟩ = some (.int .u8 0) := Lib.cell_of_heap hX9 4
  have z5 : w9.cell? ⟨w.heap.size, 5, none⟩ = some (.int .u32 0) := Lib.cell_of_heap hX9 5
  have z6 : w9.cell? ⟨w.heap.size, 6, none⟩ = some (.string t) := Lib.cell_of_heap hX9 6
  have z7 : w9.cell? ⟨w.heap.size, 7, none⟩ = some (.string ⟨#[]⟩) := Lib.cell_of_heap hX9 7
  exact bodyPost_ret (v := .agg #[.string ⟨#[]⟩, .int .u8 40, .int .u8 0, .int .u8 0, .int .u8 0, .int .u32 0, .string t, .string ⟨#[]⟩]) (by simp [results, Tryz.results31, go_sem, z0, z1, z2, z3, z4, z5, z6, z7]) rfl ⟨rfl, HB9.out⟩
set_option maxHeartbeats 4000000 in
set_option maxRecDepth 100000 in
theorem at33 (l0 l1 t n : ByteArray) (op d a b i : Int) (w : World) : Calls Tryz.prog 30 #[.string l1, .agg #[.string l0, .int .u8 op, .int .u8 d, .int .u8 a, .int .u8 b, .int .u32 i, .string t, .string n]] w fun e w' => e = .returned (.agg #[.string l1, .int .u8 op, .int .u8 d, .int .u8 a, .int .u8 b, .int .u32 i, .string t, .string n]) ∧ Below w.heap.size w w' := by
  have HB1 := Lib.hid ((alloc_old w (.cells #[.string l0, .int .u8 op, .int .u8 d, .int .u8 a, .int .u8 b, .int .u32 i, .string t, .string n] 59)).alloc (by simp) (.cells #[.string ⟨#[]⟩, .int .u8 0, .int .u8 0, .int .u8 0, .int .u8 0, .int .u32 0, .string ⟨#[]⟩, .string ⟨#[]⟩] 59))
  have hX1 := (Below.heap_alloc (w.alloc (.cells #[.string l0, .int .u8 op, .int .u8 d, .int .u8 a, .int .u8 b, .int .u32 i, .string t, .string n] 59)) (.cells #[.string ⟨#[]⟩, .int .u8 0, .int .u8 0, .int .u8 0, .int .u8 0, .int .u32 0, .string ⟨#[]⟩, .string ⟨#[]⟩] 59) w.heap.size (by simp)).trans (new_block w (.cells #[.string l0, .int .u8 op, .int .u8 d, .int .u8 a, .int .u8 b, .int .u32 i, .string t, .string n] 59))
  have hX2 := new_block (w.alloc (.cells #[.string l0, .int .u8 op, .int .u8 d, .int .u8 a, .int .u8 b, .int .u32 i, .string t, .string n] 59)) (.cells #[.string ⟨#[]⟩, .int .u8 0, .int .u8 0, .int .u8 0, .int .u8 0, .int .u32 0, .string ⟨#[]⟩, .string ⟨#[]⟩] 59)
  rw [show (w.alloc (.cells #[.string l0, .int .u8 op, .int .u8 d, .int .u8 a, .int .u8 b, .int .u32 i, .string t, .string n] 59)).heap.size = w.heap.size + 1 by simp] at hX2
  go_enter Tryz.func30, Tryz.ntmps30
  go_upto_region 1 with fail
  generalize ((w.alloc (.cells #[.string l0, .int .u8 op, .int .u8 d, .int .u8 a, .int .u8 b, .int .u32 i, .string t, .string n] 59)).alloc (.cells #[.string ⟨#[]⟩, .int .u8 0, .int .u8 0, .int .u8 0, .int .u8 0, .int .u32 0, .string ⟨#[]⟩, .string ⟨#[]⟩] 59)) = w1 at *
  obtain ⟨rb, HRB⟩ : ∃ rb, Hid (rb = w.heap.size + 1) := ⟨_, Lib.hid rfl⟩
  rw [← HRB.out] at hX2 ⊢
  have hrb : w.heap.size ≤ rb ∧ rb ≠ w.heap.size := by have := HRB.out; omega
  clear HRB
  have c0 : w1.cell? ⟨w.heap.size, 0, none⟩ = some (.string l0) := Lib.cell_of_heap hX1 0
  have g0 := Lib.frozen_of_heap hX1 0
  have hX3 := set33 hX1 0 (.string l1)
  have hX4 := (Below.heap_setCell w1 ⟨w.heap.size, 0, none⟩ (.string l1) rb (by simpa using hrb.2)).trans hX2
  have HB2 := Lib.hid (HB1.out.setCell (p := ⟨w.heap.size, 0, none⟩) (Nat.le_refl _) (.string l1))
  go_upto_region 2 with fail
  generalize (w1.setCell ⟨w.heap.size, 0, none⟩ (.string l1)) = w2 at *
  clear c0 g0 hX1 hX2 HB1
  have c0 : w2.cell? ⟨w.heap.size, 0, none⟩ = some (.string l1) := Lib.cell_of_heap hX3 0
  have c1 : w2.cell? ⟨w.heap.size, 1, none⟩ = some (.int .u8 op) := Lib.cell_of_heap hX3 1
  have c2 : w2.cell? ⟨w.heap.size, 2, none⟩ = some (.int .u8 d) := Lib.cell_of_heap hX3 2
  have c3 : w2.cell? ⟨w.heap.size, 3, none⟩ = some (.int .u8 a) := Lib.cell_of_heap hX3 3
  have c4 : w2.cell? ⟨w.heap.size, 4, none⟩ = some (.int .u8 b) := Lib.cell_of_heap hX3 4
  have c5 : w2.cell? ⟨w.heap.size, 5, none⟩ = some (.int .u32 i) := Lib.cell_of_heap hX3 5
  have c6 : w2.cell? ⟨w.heap.size, 6, none⟩ = some (.string t) := Lib.cell_of_heap hX3 6
  have c7 : w2.cell? ⟨w.heap.size, 7, none⟩ = some (.string n) := Lib.cell_of_heap hX3 7
  have hrb1 := hrb.1
  clear hrb hX3
  have z0 : w2.cell? ⟨rb, 0, none⟩ = some (.string ⟨#[]⟩) := Lib.cell_of_heap hX4 0
  have f0 := Lib.frozen_of_heap hX4 0
  have z1 : w2.cell? ⟨rb, 1, none⟩ = some (.int .u8 0) := Lib.cell_of_heap hX4 1
  have f1 := Lib.frozen_of_heap hX4 1
  have z2 : w2.cell? ⟨rb, 2, none⟩ = some (.int .u8 0) := Lib.cell_of_heap hX4 2
  have f2 := Lib.frozen_of_heap hX4 2
  have z3 : w2.cell? ⟨rb, 3, none⟩ = some (.int .u8 0) := Lib.cell_of_heap hX4 3
  have f3 := Lib.frozen_of_heap hX4 3
  have z4 : w2.cell? ⟨rb, 4, none⟩ = some (.int .u8 0) := Lib.cell_of_heap hX4 4
  have f4 := Lib.frozen_of_heap hX4 4
  have z5 : w2.cell? ⟨rb, 5, none⟩ = some (.int .u32 0) := Lib.cell_of_heap hX4 5
  have f5 := Lib.frozen_of_heap hX4 5
  have z6 : w2.cell? ⟨rb, 6, none⟩ = some (.string ⟨#[]⟩) := Lib.cell_of_heap hX4 6
  have f6 := Lib.frozen_of_heap hX4 6
  have z7 : w2.cell? ⟨rb, 7, none⟩ = some (.string ⟨#[]⟩) := Lib.cell_of_heap hX4 7
  have f7 := Lib.frozen_of_heap hX4 7
  have hX9 := (set33 (set33 (set33 (set33 (set33 (set33 (set33 (set33 hX4 0 (.string l1)) 1 (.int .u8 op)) 2 (.int .u8 d)) 3 (.int .u8 a)) 4 (.int .u8 b)) 5 (.int .u32 i)) 6 (.string t)) 7 (.string n))
  simp only [List.setIfInBounds_toArray, List.set_cons_zero, List.set_cons_succ] at hX9
  have HB9 := Lib.hid ((((((((HB2.out.setCell (p := ⟨rb, 0, none⟩) (hrb1) (.string l1)).setCell (p := ⟨rb, 1, none⟩) (hrb1) (.int .u8 op)).setCell (p := ⟨rb, 2, none⟩) (hrb1) (.int .u8 d)).setCell (p := ⟨rb, 3, none⟩) (hrb1) (.int .u8 a)).setCell (p := ⟨rb, 4, none⟩) (hrb1) (.int .u8 b)).setCell (p := ⟨rb, 5, none⟩) (hrb1) (.int .u32 i)).setCell (p := ⟨rb, 6, none⟩) (hrb1) (.string t)).setCell (p := ⟨rb, 7, none⟩) (hrb1) (.string n))
  go_wp2
  clear z0 z1 z2 z3 z4 z5 z6 z7 f0 f1 f2 f3 f4 f5 f6 f7
  generalize ((((((((w2.setCell ⟨rb, 0, none⟩ (.string l1)).setCell ⟨rb, 1, none⟩ (.int .u8 op)).setCell ⟨rb, 2, none⟩ (.int .u8 d)).setCell ⟨rb, 3, none⟩ (.int .u8 a)).setCell ⟨rb, 4, none⟩ (.int .u8 b)).setCell ⟨rb, 5, none⟩ (.int .u32 i)).setCell ⟨rb, 6, none⟩ (.string t)).setCell ⟨rb, 7, none⟩ (.string n)) = w9 at *
  have z0 : w9.cell? ⟨rb, 0, none⟩ = some (.string l1) := Lib.cell_of_heap hX9 0
  have z1 : w9.cell? ⟨rb, 1, none⟩ = some (.int .u8 op) := Lib.cell_of_heap hX9 1
  have z2 : w9.cell? ⟨rb, 2, none⟩ = some (.int .u8 d) := Lib.cell_of_heap hX9 2
  have z3 : w9.cell? ⟨rb, 3, none⟩ = some (.int .u8 a) := Lib.cell_of_heap hX9 3
  have z4 : w9.cell? ⟨rb, 4, none⟩ = some (.int .u8 b) := Lib.cell_of_heap hX9 4
  have z5 : w9.cell? ⟨rb, 5, none⟩ = some (.int .u32 i) := Lib.cell_of_heap hX9 5
  have z6 : w9.cell? ⟨rb, 6, none⟩ = some (.string t) := Lib.cell_of_heap hX9 6
  have z7 : w9.cell? ⟨rb, 7, none⟩ = some (.string n) := Lib.cell_of_heap hX9 7
  exact bodyPost_ret (v := .agg #[.string l1, .int .u8 op, .int .u8 d, .int .u8 a, .int .u8 b, .int .u32 i, .string t, .string n]) (by simp [results, Tryz.results30, go_sem, z0, z1, z2, z3, z4, z5, z6, z7]) rfl ⟨rfl, HB9.out⟩
theorem lnB_small {x : GLine} (h : InsB x.x) (h1 : x.label.length ≤ 1000000) (h2 : x.dest.length ≤ 1000000) (h3 : x.name.length ≤ 1000000) : LineB x := ⟨h, h1, h2, h3⟩
theorem bs_back (s : ByteArray) : bsOf s.data.toList = s := by unfold bsOf; simp
theorem two_row33 {w : World} {b : Nat} {x y : GLine} (h : w.heap[b]? = some (.cells (lineA x ++ lineA y) 59 (0, 0))) (hx : LineB x) (hy : LineB y) : RowAt 8 LineR w (.slice (some ⟨b, 0, none⟩) 2 2) [x, y] := by
  have hl := (Array.getElem?_eq_some_iff.1 h).1
  have hc := fun j => Lib.cell_of_heap h j
  refine ⟨some ⟨b, 0, none⟩, 2, b, 0, rfl, by simp, by simp, fun _ => rfl, fun i hi => ?_⟩
  match i, hi with
  | 0, _ => exact ⟨hl, hc 0, hc 1, hc 2, hc 3, hc 4, hc 5, hc 6, hc 7, hx⟩
  | 1, _ => exact ⟨hl, hc 8, hc 9, hc 10, hc 11, hc 12, hc 13, hc 14, hc 15, hy⟩

set_option maxHeartbeats 4000000 in
set_option maxRecDepth 100000 in
theorem alive33 (w : World) (hL : Lib33 w) : Calls Tryz.prog 7 #[] w fun e w' => e = .returned (.bool true) ∧ Below w.heap.size w w' := by
  have HL := Lib.hid hL
  clear hL
  have C1 : Hid (∀ W, Below w.heap.size w W → Calls Tryz.prog 8 #[.agg #[.int .u8 1, .int .u8 1, .int .u8 2, .int .u8 3, .int .u32 0]] W fun e w' => e = .returned (.tuple #[.string ⟨#[97, 100, 100, 32, 114, 49, 32, 114, 50, 32, 114, 51]⟩, .int .i64 0]) ∧ Below W.heap.size W w') := Lib.hid fun W hW => by
    have h := dInsn33 ⟨1, 1, 2, 3, 0⟩ W (HL.out.keep hW) ⟨by simp, by simp, by simp, by simp, by simp⟩
    rw [al_ok, if_pos rfl, show ((0 : Int).toNat) = 0 from rfl, al_told] at h
    exact h
  have C2 : Hid (∀ W, Below w.heap.size w W → Calls Tryz.prog 10 #[.string ⟨#[115, 119, 32, 114, 49, 32, 114, 50, 32, 52]⟩] W fun e w' => e = .returned (.tuple #[.agg #[.int .u8 36, .int .u8 0, .int .u8 1, .int .u8 2, .int .u32 4], .int .i64 0]) ∧ Below W.heap.size W w') := Lib.hid fun W hW => by
    have h := readInsn33 txSw W (HL.out.keep hW) (by decide)
    rw [al_sw] at h
    exact h
  have C3 : Hid (∀ W, Below w.heap.size w W → Calls Tryz.prog 10 #[.string ⟨#[108, 105, 32, 114, 49, 32, 48, 53]⟩] W fun e w' => e = .returned (.tuple #[.agg #[.int .u8 0, .int .u8 0, .int .u8 0, .int .u8 0, .int .u32 0], .int .i64 7]) ∧ Below W.heap.size W w') := Lib.hid fun W hW => by
    have h := readInsn33 txLi W (HL.out.keep hW) (by decide)
    rw [al_li] at h
    exact h
  have C4 : Hid (∀ W b, Below w.heap.size w W → W.heap[b]? = some (.cells #[.string ⟨#[97, 103, 97, 105, 110]⟩, .int .u8 40, .int .u8 0, .int .u8 0, .int .u8 0, .int .u32 0, .string ⟨#[97, 103, 97, 105, 110]⟩, .string ⟨#[]⟩, .string ⟨#[]⟩, .int .u8 32, .int .u8 1, .int .u8 0, .int .u8 0, .int .u32 4, .string ⟨#[]⟩, .string ⟨#[100]⟩] 59 (0, 0)) → Calls Tryz.prog 15 #[.slice (some ⟨b, 0, none⟩) 2 2] W fun e w' => e = .returned (.tuple #[.string ⟨#[97, 103, 97, 105, 110, 58, 32, 106, 109, 112, 32, 62, 97, 103, 97, 105, 110, 10, 108, 105, 32, 114, 49, 32, 64, 100, 43, 52, 10]⟩, .int .i64 0]) ∧ Below W.heap.size W w') := Lib.hid fun W b hW hb => by
    have h := dLines33 [lnJmp, lnLa] _ W (HL.out.keep hW) (two_row33 hb (lnB_small ⟨by decide +kernel, by decide +kernel, by decide +kernel, by decide +kernel, by decide +kernel⟩ (by decide) (by decide) (by decide)) (lnB_small ⟨by decide +kernel, by decide +kernel, by decide +kernel, by decide +kernel, by decide +kernel⟩ (by decide) (by decide) (by decide))) (by simp)
    unfold linesE at h
    rw [al_lines, if_pos rfl, al_text] at h
    exact h
  have C5 : Hid (∀ W, Below w.heap.size w W → Calls Tryz.prog 17 #[.string ⟨#[97, 103, 97, 105, 110, 58, 32, 106, 109, 112, 32, 62, 97, 103, 97, 105, 110, 10]⟩] W fun e w' => ∃ b c, e = .returned (.tuple #[.slice (some ⟨b, 0, none⟩) 1 c, .int .i64 0]) ∧ w'.cell? ⟨b, 6, none⟩ = some (.string ⟨#[97, 103, 97, 105, 110]⟩) ∧ b < w'.heap.size ∧ Below W.heap.size W w') := Lib.hid fun W hW => by
    have h := readLines33 txLine W (HL.out.keep hW) (by decide)
    rw [al_read] at h
    refine h.mono ?_
    rintro e w' ⟨hB, v, B, rfl, -, hrow, -⟩
    obtain ⟨g, cap, rfl, -, hg⟩ := World.ownsRow.form hrow (by simp)
    have q6 := World.ownsRow.cells hrow (g := g) rfl 6 _ rfl
    rw [add_at] at q6
    exact ⟨g, cap, rfl, q6, hg, hB⟩
  have C6 : Hid (∀ W, Below w.heap.size w W → Calls Tryz.prog 12 #[.int .u32 256, .string ⟨#[42, 240, 0, 0, 0, 0, 0, 0, 1]⟩] W fun e w' => e = .returned (.string ⟨#[50, 53, 54, 32, 106, 114, 32, 114, 49, 53, 10, 50, 54, 52, 32, 120, 48, 49, 10]⟩) ∧ Below W.heap.size W w') := Lib.hid fun W hW => by
    have h := dCode33 256 [42, 240, 0, 0, 0, 0, 0, 0, 1] W (HL.out.keep hW) (by simp) (by simp) (by simp)
    rw [al_code] at h
    exact h
  go_enter Tryz.func7, Tryz.ntmps7
  go_wp2_with fail
  refine (C1.out _ (Below.refl _ _)).mono ?_
  rintro e w1 ⟨rfl, hB⟩
  have HB1 := Lib.hid hB
  clear hB C1
  go_wp2_with fail
  refine (C2.out _ HB1.out).mono ?_
  rintro e w2 ⟨rfl, hB⟩
  have HB2 := Lib.hid (HB1.out.trans (hB.mono HB1.out.size))
  have hX3 := new_block w2 (.cells #[.int .u8 36, .int .u8 0, .int .u8 1, .int .u8 2, .int .u32 4] 24)
  have HB3 := Lib.hid (HB2.out.alloc HB2.out.size (.cells #[.int .u8 36, .int .u8 0, .int .u8 1, .int .u8 2, .int .u32 4] 24))
  clear hB C2 HB1
  go_upto_region 3 with fail
  generalize (w2.alloc (.cells #[.int .u8 36, .int .u8 0, .int .u8 1, .int .u8 2, .int .u32 4] 24)) = w3 at *
  have hl3 := (Array.getElem?_eq_some_iff.1 hX3).1
  obtain ⟨xb, hxb⟩ : ∃ xb, Hid (xb = w2.heap.size) := ⟨_, Lib.hid rfl⟩
  rw [← hxb.out] at hX3 hl3 ⊢
  clear hxb
  go_wp2_with fail
  refine (jmp33 ⟨#[97, 103, 97, 105, 110]⟩ _).mono ?_
  rintro e w4 ⟨rfl, hB⟩
  have hX4 := (hB.block xb hl3).trans hX3
  have HB4 := Lib.hid (HB3.out.trans (hB.mono HB3.out.size))
  clear hB hX3 hl3 HB3 HB2
  go_wp2_with fail
  refine (at33 _ _ _ _ _ _ _ _ _ _).mono ?_
  rintro e w5 ⟨rfl, hB⟩
  have hX5 := (hB.block xb (Array.getElem?_eq_some_iff.1 hX4).1).trans hX4
  have HB5 := Lib.hid (HB4.out.trans (hB.mono HB4.out.size))
  clear hB hX4 HB4
  go_wp2_with fail
  refine (la33 _ _ _ _).mono ?_
  rintro e w6 ⟨rfl, hB⟩
  have hX6 := (hB.block xb (Array.getElem?_eq_some_iff.1 hX5).1).trans hX5
  have HB6 := Lib.hid (HB5.out.trans (hB.mono HB5.out.size))
  clear hB hX5 HB5
  have hA7 := new_block w6 (.cells #[.string ⟨#[97, 103, 97, 105, 110]⟩, .int .u8 40, .int .u8 0, .int .u8 0, .int .u8 0, .int .u32 0, .string ⟨#[97, 103, 97, 105, 110]⟩, .string ⟨#[]⟩, .string ⟨#[]⟩, .int .u8 32, .int .u8 1, .int .u8 0, .int .u8 0, .int .u32 4, .string ⟨#[]⟩, .string ⟨#[100]⟩] 59)
  have hX7 := (Below.heap_alloc w6 (.cells #[.string ⟨#[97, 103, 97, 105, 110]⟩, .int .u8 40, .int .u8 0, .int .u8 0, .int .u8 0, .int .u32 0, .string ⟨#[97, 103, 97, 105, 110]⟩, .string ⟨#[]⟩, .string ⟨#[]⟩, .int .u8 32, .int .u8 1, .int .u8 0, .int .u8 0, .int .u32 4, .string ⟨#[]⟩, .string ⟨#[100]⟩] 59) xb (Array.getElem?_eq_some_iff.1 hX6).1).trans hX6
  have HB7 := Lib.hid (HB6.out.alloc HB6.out.size (.cells #[.string ⟨#[97, 103, 97, 105, 110]⟩, .int .u8 40, .int .u8 0, .int .u8 0, .int .u8 0, .int .u32 0, .string ⟨#[97, 103, 97, 105, 110]⟩, .string ⟨#[]⟩, .string ⟨#[]⟩, .int .u8 32, .int .u8 1, .int .u8 0, .int .u8 0, .int .u32 4, .string ⟨#[]⟩, .string ⟨#[100]⟩] 59))
  go_wp2_with fail
  refine (C4.out _ _ HB7.out hA7).mono ?_
  rintro e w8 ⟨rfl, hB⟩
  have hX8 := (hB.block xb (Array.getElem?_eq_some_iff.1 hX7).1).trans hX7
  have HB8 := Lib.hid (HB7.out.trans (hB.mono HB7.out.size))
  clear hB hX7 hX6 hA7 HB7 HB6 C4
  go_wp2_with fail
  refine (C5.out _ HB8.out).mono ?_
  rintro e w9 ⟨lb, lc, rfl, hq, hlb, hB⟩
  have hX9 := (hB.block xb (Array.getElem?_eq_some_iff.1 hX8).1).trans hX8
  have HB9 := Lib.hid (HB8.out.trans (hB.mono HB8.out.size))
  clear hB hX8 HB8 C5
  go_wp2_with fail
  refine (C3.out _ HB9.out).mono ?_
  rintro e w10 ⟨rfl, hB⟩
  have hX10 := (hB.block xb (Array.getElem?_eq_some_iff.1 hX9).1).trans hX9
  have hq10 := cell_keep hB hlb hq
  have hl10 : lb < w10.heap.size := by have := hB.size; omega
  have HB10 := Lib.hid (HB9.out.trans (hB.mono HB9.out.size))
  clear hB hX9 HB9 C3 hq hlb
  have hX11 := (Below.heap_alloc w10 (.cells #[.int .u8 0, .int .u8 0, .int .u8 0, .int .u8 0, .int .u32 0] 24) xb (Array.getElem?_eq_some_iff.1 hX10).1).trans hX10
  have hq11 := cell_keep (alloc_old w10 (.cells #[.int .u8 0, .int .u8 0, .int .u8 0, .int .u8 0, .int .u32 0] 24)) hl10 hq10
  have HB11 := Lib.hid (HB10.out.alloc HB10.out.size (.cells #[.int .u8 0, .int .u8 0, .int .u8 0, .int .u8 0, .int .u32 0] 24))
  go_upto_region 6 with fail
  generalize (w10.alloc (.cells #[.int .u8 0, .int .u8 0, .int .u8 0, .int .u8 0, .int .u32 0] 24)) = w11 at *
  clear hX10 hq10 HB10 hl10
  have z0 : w11.cell? ⟨xb, 0, none⟩ = some (.int .u8 36) := Lib.cell_of_heap hX11 0
  have z1 : w11.cell? ⟨xb, 1, none⟩ = some (.int .u8 0) := Lib.cell_of_heap hX11 1
  have z2 : w11.cell? ⟨xb, 2, none⟩ = some (.int .u8 1) := Lib.cell_of_heap hX11 2
  have z3 : w11.cell? ⟨xb, 3, none⟩ = some (.int .u8 2) := Lib.cell_of_heap hX11 3
  have z4 : w11.cell? ⟨xb, 4, none⟩ = some (.int .u32 4) := Lib.cell_of_heap hX11 4
  go_wp2_with fail
  refine (C6.out _ HB11.out).mono ?_
  rintro e w12 ⟨rfl, hB⟩
  have HB12 := Lib.hid (HB11.out.trans (hB.mono HB11.out.size))
  clear hB
  go_wp2
  go_ret
  exact ⟨rfl, HB12.out⟩
end Go.Proofs.YtoonkfhphbojcaaGreatDoor
