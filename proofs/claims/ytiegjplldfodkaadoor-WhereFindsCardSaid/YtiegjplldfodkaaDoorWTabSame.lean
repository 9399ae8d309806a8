/- The walks of aediculeref34.Same and SameMoves, of any two rows. -/
import Derived.Test.YtiegjplldfodkaaDoorWTabOf
namespace Go.Proofs.YtiegjplldfodkaaDoor
open Go.RowKit
def SamePost {α : Type} (x y : α) (w : World) (e : Ending) (w' : World) : Prop := ∃ b : Bool, e = .returned (.bool b) ∧ (b = true ↔ x = y) ∧ Below w.heap.size w w'
theorem take_same {α : Type} {l m : List α} {i : Nat} (h : l.take i = m.take i) (hl : i < l.length) (hm : i < m.length) (he : l[i] = m[i]) : l.take (i + 1) = m.take (i + 1) := by
  rw [List.take_succ_eq_append_getElem hl, List.take_succ_eq_append_getElem hm, h, he]
theorem take_done {α : Type} {l m : List α} {i : Nat} (h : l.take i = m.take i) (hl : ¬ i < l.length) (hm : l.length = m.length) : l = m := by
  rw [List.take_of_length_le (by omega), List.take_of_length_le (by omega)] at h; exact h
set_option maxRecDepth 100000 in
set_option maxHeartbeats 2000000 in
theorem tabSame_two (v u : Value) (l m : List GTs) (w : World) (h1 : RowAt 5 TsR w v l) (h2 : RowAt 5 TsR w u m) :
    Calls Tryd.prog 8 #[v, u] w (SamePost l m w) := by
  obtain ⟨p1, c1, b1, o1, rfl, hc1, hm1, hp1, hr1⟩ := h1
  obtain ⟨p2, c2, b2, o2, rfl, hc2, hm2, hp2, hr2⟩ := h2
  have HP1 := Lib.hid hp1; clear hp1
  have HP2 := Lib.hid hp2; clear hp2
  have HR1 := Lib.hid hr1; clear hr1
  have HR2 := Lib.hid hr2; clear hr2
  by_cases q1 : l.length = m.length
  case neg =>
    have n1 : ((l.length : Int) == (m.length : Int)) = false := by simp; omega
    have n2 : ((l.length : Int) != (m.length : Int)) = true := by simp; omega
    have n3 : (l.length == m.length) = false := by simp; omega
    have n4 : (l.length != m.length) = true := by simp; omega
    have HN : Hid (¬ l = m) := fun e => q1 (by rw [e])
    clear q1
    go_enter Tryd.func8, Tryd.ntmps8
    go_wp2
    go_ret
    exact ⟨false, rfl, by simp [HN.out], Below.refl _ _⟩
  rw [← q1]
  have HQ := Lib.hid q1; clear q1
  go_enter Tryd.func8, Tryd.ntmps8
  go_wp2
  go_loopw [5] (fun v5 wr => ∃ i : Nat, i ≤ l.length ∧ v5 = .int .i64 i ∧ l.take i = m.take i ∧ Below w.heap.size w wr) (fun v5 _ => l.length - (intOf v5).toNat)
  case atStart => exact ⟨0, Nat.zero_le _, rfl, rfl, Below.refl _ _⟩
  case round =>
    obtain ⟨i, hi, rfl, htk, hbel⟩ := hrel
    have HTK := Lib.hid htk; clear htk
    have HB := Lib.hid hbel; clear hbel
    by_cases hlt : i < l.length
    · obtain rfl := HP1.out (by omega)
      obtain rfl := HP2.out (by have := HQ.out; omega)
      have hlt2 : i < m.length := by have := HQ.out; omega
      obtain ⟨g0, g1, g2, g3, g4, g5, -⟩ := tsR_keeps _ _ _ _ _ HB.out (HR1.out i hlt)
      obtain ⟨k0, k1, k2, k3, k4, k5, -⟩ := tsR_keeps _ _ _ _ _ HB.out (HR2.out i hlt2)
      have HTN : Hid (l[i] = m[i] → l.take (i + 1) = m.take (i + 1)) := take_same HTK.out hlt hlt2
      have HNE : Hid (¬ l[i] = m[i] → ¬ l = m) := fun h e => h (by simp only [e])
      generalize l[i] = x at g1 g2 g3 g4 g5 HTN HNE
      generalize m[i] = y at k1 k2 k3 k4 k5 HTN HNE
      obtain ⟨x1, x2, x3, x4, x5⟩ := x
      obtain ⟨y1, y2, y3, y4, y5⟩ := y
      simp only [] at g1 g2 g3 g4 g5 k1 k2 k3 k4 k5 HTN HNE
      clear hlt2
      by_cases e1 : x1 = y1
      case neg =>
        have n0 := toList_ne e1
        have HN := Lib.hid (HNE.out (by simp [e1]))
        clear HNE HTN
        go_wp2
        go_quiet (fail)
        go_wp2
        go_ret
        exact ⟨false, rfl, by simp [HN.out], below_drewN HB.out _⟩
      subst e1
      by_cases e2 : x2 = y2
      case neg =>
        have n0 := toList_ne e2
        have HN := Lib.hid (HNE.out (by simp [e2]))
        clear HNE HTN
        go_wp2
        go_quiet (fail)
        go_wp2
        go_ret
        exact ⟨false, rfl, by simp [HN.out], below_drewN HB.out _⟩
      subst e2
      by_cases e3 : x3 = y3
      case neg =>
        have n1 : (x3 == y3) = false := by simpa using e3
        have n2 : (x3 != y3) = true := by simpa using e3
        have HN := Lib.hid (HNE.out (by simp [e3]))
        clear HNE HTN e3
        go_wp2
        go_quiet (fail)
        go_wp2
        go_ret
        exact ⟨false, rfl, by simp [HN.out], below_drewN HB.out _⟩
      subst e3
      by_cases e4 : x4 = y4
      case neg =>
        have n1 : (x4 == y4) = false := by simpa using e4
        have n2 : (x4 != y4) = true := by simpa using e4
        have HN := Lib.hid (HNE.out (by simp [e4]))
        clear HNE HTN e4
        go_wp2
        go_quiet (fail)
        go_wp2
        go_ret
        exact ⟨false, rfl, by simp [HN.out], below_drewN HB.out _⟩
      subst e4
      by_cases e5 : x5 = y5
      case neg =>
        have n1 : (x5 == y5) = false := by simpa using e5
        have n2 : (x5 != y5) = true := by simpa using e5
        have HN := Lib.hid (HNE.out (by simp [e5]))
        clear HNE HTN e5
        go_wp2
        go_quiet (fail)
        go_wp2
        go_ret
        exact ⟨false, rfl, by simp [HN.out], below_drewN HB.out _⟩
      subst e5
      have HT2 := Lib.hid (HTN.out rfl)
      clear HNE HTN
      go_wp2
      go_quiet (fail)
      go_wp2
      go_roundw
      case rel => exact ⟨i + 1, by omega, by go_num, HT2.out, below_drewN HB.out _⟩
      case measure => simp [intOf]; omega
    · have HTE : Hid (l = m) := take_done HTK.out hlt HQ.out
      go_wp2
      go_ret
      exact ⟨true, rfl, by simp [HTE.out], HB.out⟩
set_option maxRecDepth 100000 in
set_option maxHeartbeats 2000000 in
theorem mvSame_two (v u : Value) (l m : List GMv) (w : World) (h1 : RowAt 4 MvR w v l) (h2 : RowAt 4 MvR w u m) :
    Calls Tryd.prog 19 #[v, u] w (SamePost l m w) := by
  obtain ⟨p1, c1, b1, o1, rfl, hc1, hm1, hp1, hr1⟩ := h1
  obtain ⟨p2, c2, b2, o2, rfl, hc2, hm2, hp2, hr2⟩ := h2
  have HP1 := Lib.hid hp1; clear hp1
  have HP2 := Lib.hid hp2; clear hp2
  have HR1 := Lib.hid hr1; clear hr1
  have HR2 := Lib.hid hr2; clear hr2
  by_cases q1 : l.length = m.length
  case neg =>
    have n1 : ((l.length : Int) == (m.length : Int)) = false := by simp; omega
    have n2 : ((l.length : Int) != (m.length : Int)) = true := by simp; omega
    have n3 : (l.length == m.length) = false := by simp; omega
    have n4 : (l.length != m.length) = true := by simp; omega
    have HN : Hid (¬ l = m) := fun e => q1 (by rw [e])
    clear q1
    go_enter Tryd.func19, Tryd.ntmps19
    go_wp2
    go_ret
    exact ⟨false, rfl, by simp [HN.out], Below.refl _ _⟩
  rw [← q1]
  have HQ := Lib.hid q1; clear q1
  go_enter Tryd.func19, Tryd.ntmps19
  go_wp2
  go_loopw [5] (fun v5 wr => ∃ i : Nat, i ≤ l.length ∧ v5 = .int .i64 i ∧ l.take i = m.take i ∧ Below w.heap.size w wr) (fun v5 _ => l.length - (intOf v5).toNat)
  case atStart => exact ⟨0, Nat.zero_le _, rfl, rfl, Below.refl _ _⟩
  case round =>
    obtain ⟨i, hi, rfl, htk, hbel⟩ := hrel
    have HTK := Lib.hid htk; clear htk
    have HB := Lib.hid hbel; clear hbel
    by_cases hlt : i < l.length
    · obtain rfl := HP1.out (by omega)
      obtain rfl := HP2.out (by have := HQ.out; omega)
      have hlt2 : i < m.length := by have := HQ.out; omega
      obtain ⟨g0, g1, g2, g3, g4⟩ := mvR_keeps _ _ _ _ _ HB.out (HR1.out i hlt)
      obtain ⟨k0, k1, k2, k3, k4⟩ := mvR_keeps _ _ _ _ _ HB.out (HR2.out i hlt2)
      have HTN : Hid (l[i] = m[i] → l.take (i + 1) = m.take (i + 1)) := take_same HTK.out hlt hlt2
      have HNE : Hid (¬ l[i] = m[i] → ¬ l = m) := fun h e => h (by simp only [e])
      generalize l[i] = x at g1 g2 g3 g4 HTN HNE
      generalize m[i] = y at k1 k2 k3 k4 HTN HNE
      obtain ⟨x1, x2, x3, x4⟩ := x
      obtain ⟨y1, y2, y3, y4⟩ := y
      simp only [] at g1 g2 g3 g4 k1 k2 k3 k4 HTN HNE
      clear hlt2
      by_cases e1 : x1 = y1
      case neg =>
        have n0 := toList_ne e1
        have HN := Lib.hid (HNE.out (by simp [e1]))
        clear HNE HTN
        go_wp2
        go_quiet (fail)
        go_wp2
        go_ret
        exact ⟨false, rfl, by simp [HN.out], below_drewN HB.out _⟩
      subst e1
      by_cases e2 : x2 = y2
      case neg =>
        have n0 := toList_ne e2
        have HN := Lib.hid (HNE.out (by simp [e2]))
        clear HNE HTN
        go_wp2
        go_quiet (fail)
        go_wp2
        go_ret
        exact ⟨false, rfl, by simp [HN.out], below_drewN HB.out _⟩
      subst e2
      by_cases e3 : x3 = y3
      case neg =>
        have n1 : (x3 == y3) = false := by simpa using e3
        have n2 : (x3 != y3) = true := by simpa using e3
        have HN := Lib.hid (HNE.out (by simp [e3]))
        clear HNE HTN e3
        go_wp2
        go_quiet (fail)
        go_wp2
        go_ret
        exact ⟨false, rfl, by simp [HN.out], below_drewN HB.out _⟩
      subst e3
      by_cases e4 : x4 = y4
      case neg =>
        have n1 : (x4 == y4) = false := by simpa using e4
        have n2 : (x4 != y4) = true := by simpa using e4
        have HN := Lib.hid (HNE.out (by simp [e4]))
        clear HNE HTN e4
        go_wp2
        go_quiet (fail)
        go_wp2
        go_ret
        exact ⟨false, rfl, by simp [HN.out], below_drewN HB.out _⟩
      subst e4
      have HT2 := Lib.hid (HTN.out rfl)
      clear HNE HTN
      go_wp2
      go_quiet (fail)
      go_wp2
      go_roundw
      case rel => exact ⟨i + 1, by omega, by go_num, HT2.out, below_drewN HB.out _⟩
      case measure => simp [intOf]; omega
    · have HTE : Hid (l = m) := take_done HTK.out hlt HQ.out
      go_wp2
      go_ret
      exact ⟨true, rfl, by simp [HTE.out], HB.out⟩
end Go.Proofs.YtiegjplldfodkaaDoor
