/- The walk of aediculeref12.Has. -/
import Derived.Test.YteekdjlpfgkgjaaDoorWBegin
namespace Go.Proofs.YteekdjlpfgkgjaaDoor
open Go.RowKit Go.Maps Go.WideMaps
/-- is there a symbol at a place? -/
def hasR (l : List GObj) (a b : Int) : Bool := decide (0 ≤ a) && decide (0 ≤ b) && (match l[a.toNat]? with | some o => decide (b.toNat < o.syms.length) | none => false)
theorem hasR_no0 {l : List GObj} {a b : Int} (h : a < 0 ∨ (l.length : Int) ≤ a ∨ b < 0) : hasR l a b = false := by
  unfold hasR
  rcases h with h | h | h
  · simp [show ¬ 0 ≤ a by omega]
  · rw [List.getElem?_eq_none (by omega)]; simp
  · simp [show ¬ 0 ≤ b by omega]
theorem hasR_at {l : List GObj} {a b : Nat} (h : a < l.length) : hasR l a b = decide (b < l[a].syms.length) := by
  unfold hasR
  simp [List.getElem?_eq_getElem h]
set_option maxRecDepth 100000 in
set_option maxHeartbeats 1000000 in
theorem has_any (v : Value) (l : List GObj) (a b : Int) (w : World) (h : ObjsAt w v l) :
    Calls Tryd.prog 17 #[v, .agg #[.int .i64 a, .int .i64 b]] w fun e w' => e = .returned (.bool (hasR l a b)) ∧ Below w.heap.size w w' := by
  obtain ⟨p, cap, bb, o, rfl, hcap, hmax, hp, hc⟩ := h
  by_cases h1 : 0 ≤ a
  · by_cases h2 : a < (l.length : Int)
    · by_cases h3 : 0 ≤ b
      · obtain ⟨an, rfl⟩ := Int.eq_ofNat_of_zero_le h1
        obtain ⟨bn, rfl⟩ := Int.eq_ofNat_of_zero_le h3
        have hal : an < l.length := by omega
        obtain rfl := hp (by omega)
        obtain ⟨vs, g0, g1, g2, ⟨pS, capS, bS, oS, rfl, -⟩, -⟩ := hc an hal
        rw [hasR_at hal]
        clear hc hp g1
        generalize l[an].syms.length = nS at g2 ⊢
        have d1 : decide ((0 : Int) ≤ (an : Int)) = true := by simp
        have d2 : decide ((an : Int) < (l.length : Int)) = true := by simpa using hal
        have d3 : decide ((0 : Int) ≤ (bn : Int)) = true := by simp
        by_cases h4 : bn < nS
        · have d4 : decide ((bn : Int) < (nS : Int)) = true := by simpa using h4
          go_enter Tryd.func17, Tryd.ntmps17
          go_wp2
          go_quiet (fail)
          go_wp2
          go_ret
          exact ⟨ret_bool (by simp [h4]), below_drewN (alloc_old w _) _⟩
        · have d4 : decide ((bn : Int) < (nS : Int)) = false := by simp; omega
          go_enter Tryd.func17, Tryd.ntmps17
          go_wp2
          go_quiet (fail)
          go_wp2
          go_ret
          exact ⟨ret_bool (by simp [h4]), below_drewN (alloc_old w _) _⟩
      · rw [hasR_no0 (.inr (.inr (by omega)))]
        have d1 : decide (0 ≤ a) = true := by simpa using h1
        have d2 : decide (a < (l.length : Int)) = true := by simpa using h2
        have d3 : decide (0 ≤ b) = false := by simpa using h3
        go_enter Tryd.func17, Tryd.ntmps17
        go_wp2
        go_quiet (fail)
        go_wp2
        go_ret
        exact ⟨rfl, below_drewN (alloc_old w _) _⟩
    · rw [hasR_no0 (.inr (.inl (by omega)))]
      have d1 : decide (0 ≤ a) = true := by simpa using h1
      have d2 : decide (a < (l.length : Int)) = false := by simpa using h2
      go_enter Tryd.func17, Tryd.ntmps17
      go_wp2
      go_quiet (fail)
      go_wp2
      go_ret
      exact ⟨rfl, below_drewN (alloc_old w _) _⟩
  · rw [hasR_no0 (.inl (by omega))]
    have d1 : decide (0 ≤ a) = false := by simpa using h1
    go_enter Tryd.func17, Tryd.ntmps17
    go_wp2
    go_quiet (fail)
    go_wp2
    go_ret
    exact ⟨rfl, below_drewN (alloc_old w _) _⟩
end Go.Proofs.YteekdjlpfgkgjaaDoor
