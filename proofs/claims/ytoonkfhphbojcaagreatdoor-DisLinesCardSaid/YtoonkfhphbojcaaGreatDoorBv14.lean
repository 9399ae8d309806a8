/- The walks of aediculeref04: what ops use, which instructions may be. -/
import Derived.Test.YtoonkfhphbojcaaGreatDoorBv08
import Derived.Test.YtoonkfhphbojcaaGreatDoorBv11
namespace Go.Proofs.YtoonkfhphbojcaaGreatDoor
open Go.RowKit
def rowU (op : Int) : Int := if useOf op = 0 then 7 else useOf op
def rowV (op : Int) : Value := .agg #[.bool (bitOf (rowU op) 1), .bool (bitOf (rowU op) 2), .bool (bitOf (rowU op) 4), .bool (bitOf (rowU op) 8)]
def opIs (op : Int) : Bool := decide (useOf op ≠ 0)
def opsL : List Int := [17, 19, 22, 23, 24, 25, 26, 29, 30, 33, 34, 32, 41, 35, 36, 43, 44, 45, 46, 40, 50, 42]
theorem rowU_other {op : Int} (h : op ∉ opsL) : rowU op = 7 ∧ (useOf op = 0 ↔ ¬ (1 ≤ op ∧ op ≤ 14)) := by
  simp [opsL] at h
  have hu : useOf op = if 1 ≤ op ∧ op ≤ 14 then 7 else 0 := by
    unfold useOf opTwo opMem
    simp [h]
  unfold rowU
  rw [hu]
  by_cases h1 : 1 ≤ op ∧ op ≤ 14
  · rw [if_pos h1]; simp [h1]
  · rw [if_neg h1]; simp [h1]
set_option maxHeartbeats 4000000 in
set_option maxRecDepth 100000 in
theorem ruses_some (op : Int) (w : World) (h : op ∈ opsL) : Calls Tryz.prog 87 #[.int .u8 op] w fun e w' => e = .returned (.tuple #[rowV op, .bool (opIs op)]) ∧ Below w.heap.size w w' := by
  simp only [opsL, List.mem_cons, List.not_mem_nil, or_false] at h
  rcases h with rfl | rfl | rfl | rfl | rfl | rfl | rfl | rfl | rfl | rfl | rfl | rfl | rfl | rfl | rfl | rfl | rfl | rfl | rfl | rfl | rfl | rfl
  all_goals
    go_enter Tryz.func87, Tryz.ntmps87
    go_wp2
    first
      | exact bodyPost_ret (v := .tuple #[.agg #[.bool true, .bool true, .bool false, .bool true], .bool true]) (by simp [results, Tryz.results87, go_sem]) rfl ⟨rfl, by go_grown⟩
      | exact bodyPost_ret (v := .tuple #[.agg #[.bool true, .bool false, .bool false, .bool true], .bool true]) (by simp [results, Tryz.results87, go_sem]) rfl ⟨rfl, by go_grown⟩
      | exact bodyPost_ret (v := .tuple #[.agg #[.bool false, .bool true, .bool true, .bool true], .bool true]) (by simp [results, Tryz.results87, go_sem]) rfl ⟨rfl, by go_grown⟩
      | exact bodyPost_ret (v := .tuple #[.agg #[.bool false, .bool false, .bool false, .bool true], .bool true]) (by simp [results, Tryz.results87, go_sem]) rfl ⟨rfl, by go_grown⟩
      | exact bodyPost_ret (v := .tuple #[.agg #[.bool false, .bool true, .bool false, .bool false], .bool true]) (by simp [results, Tryz.results87, go_sem]) rfl ⟨rfl, by go_grown⟩
set_option maxHeartbeats 4000000 in
set_option maxRecDepth 100000 in
theorem ruses_none (op : Int) (w : World) (h : op ∉ opsL) : Calls Tryz.prog 87 #[.int .u8 op] w fun e w' => e = .returned (.tuple #[rowV op, .bool (opIs op)]) ∧ Below w.heap.size w w' := by
  obtain ⟨h7, h0⟩ := rowU_other h
  have HV : Hid (rowV op = .agg #[.bool true, .bool true, .bool true, .bool false]) := Lib.hid (by unfold rowV; rw [h7]; rfl)
  simp only [opsL, List.mem_cons, List.not_mem_nil, or_false, not_or] at h
  obtain ⟨a1, a2, a3, a4, a5, a6, a7, a8, a9, a10, a11, a12, a13, a14, a15, a16, a17, a18, a19, a20, a21, a22⟩ := h
  have H0 := Lib.hid h0; clear h0 h7
  replace a1 := beq_false_of_ne a1
  replace a2 := beq_false_of_ne a2
  replace a3 := beq_false_of_ne a3
  replace a4 := beq_false_of_ne a4
  replace a5 := beq_false_of_ne a5
  replace a6 := beq_false_of_ne a6
  replace a7 := beq_false_of_ne a7
  replace a8 := beq_false_of_ne a8
  replace a9 := beq_false_of_ne a9
  replace a10 := beq_false_of_ne a10
  replace a11 := beq_false_of_ne a11
  replace a12 := beq_false_of_ne a12
  replace a13 := beq_false_of_ne a13
  replace a14 := beq_false_of_ne a14
  replace a15 := beq_false_of_ne a15
  replace a16 := beq_false_of_ne a16
  replace a17 := beq_false_of_ne a17
  replace a18 := beq_false_of_ne a18
  replace a19 := beq_false_of_ne a19
  replace a20 := beq_false_of_ne a20
  replace a21 := beq_false_of_ne a21
  replace a22 := beq_false_of_ne a22
  have hcs : Hid (1 ≤ op ∧ op ≤ 14) ∨ Hid (¬ 1 ≤ op) ∨ Hid (1 ≤ op ∧ ¬ op ≤ 14) := by
    by_cases h1 : 1 ≤ op
    · by_cases h2 : op ≤ 14
      · exact .inl ⟨h1, h2⟩
      · exact .inr (.inr ⟨h1, h2⟩)
    · exact .inr (.inl h1)
  rcases hcs with h | h | h
  · have h1 := h.out.1
    have h2 := h.out.2
    go_enter Tryz.func87, Tryz.ntmps87
    go_wp2
    exact bodyPost_ret (v := .tuple #[.agg #[.bool true, .bool true, .bool true, .bool false], .bool true]) (by simp [results, Tryz.results87, go_sem]) rfl ⟨by rw [HV.out, show opIs op = true from decide_eq_true (fun e => H0.out.1 e h.out)], by go_grown⟩
  · have h1 := h.out
    go_enter Tryz.func87, Tryz.ntmps87
    go_wp2
    exact bodyPost_ret (v := .tuple #[.agg #[.bool true, .bool true, .bool true, .bool false], .bool false]) (by simp [results, Tryz.results87, go_sem]) rfl ⟨by rw [HV.out, show opIs op = false from decide_eq_false (fun e => e (H0.out.2 fun hh => by have := h.out; omega))], by go_grown⟩
  · have h1 := h.out.1
    have h2 := h.out.2
    go_enter Tryz.func87, Tryz.ntmps87
    go_wp2
    exact bodyPost_ret (v := .tuple #[.agg #[.bool true, .bool true, .bool true, .bool false], .bool false]) (by simp [results, Tryz.results87, go_sem]) rfl ⟨by rw [HV.out, show opIs op = false from decide_eq_false (fun e => e (H0.out.2 fun hh => by have := h.out; omega))], by go_grown⟩
theorem ruses_any (op : Int) (w : World) : Calls Tryz.prog 87 #[.int .u8 op] w fun e w' => e = .returned (.tuple #[rowV op, .bool (opIs op)]) ∧ Below w.heap.size w w' := by
  by_cases h : op ∈ opsL
  · exact ruses_some op w h
  · exact ruses_none op w h
set_option maxHeartbeats 400000 in
theorem rregister_any (n : Int) (u : Bool) (w : World) : Calls Tryz.prog 88 #[.int .u8 n, .bool u] w fun e w' => e = .returned (.bool (regOk n u)) ∧ w = w' := by
  by_cases h0 : n = 0
  · subst h0
    go_enter Tryz.func88, Tryz.ntmps88
    go_wp2
    go_ret
    exact ⟨by simp [regOk], rfl⟩
  · have h0' : (n == 0) = false := by simpa using h0
    cases u with
    | false =>
      go_enter Tryz.func88, Tryz.ntmps88
      go_wp2
      go_ret
      exact ⟨by simp [regOk, h0], rfl⟩
    | true =>
      go_enter Tryz.func88, Tryz.ntmps88
      go_wp2
      go_ret
      exact ⟨by simp [regOk, h0], rfl⟩
end Go.Proofs.YtoonkfhphbojcaaGreatDoor
