/- Is there a symbol at a place, and what a symbol refers to, in plain Lean. No program in sight. -/
import Derived.Test.YtnhmbflinbfeoaaDoorPlain
namespace Go.Proofs.YtnhmbflinbfeoaaDoor
/-- is there a symbol at a place? -/
def hasR (l : List GObj) (a b : Int) : Bool := decide (0 ≤ a) && decide (0 ≤ b) && (match l[a.toNat]? with | some o => decide (b.toNat < o.syms.length) | none => false)
theorem hasR_no0 {l : List GObj} {a b : Int} (h : a < 0 ∨ (l.length : Int) ≤ a ∨ b < 0) : hasR l a b = false := by
  unfold hasR
  rcases h with h | h | h
  · simp [show ¬ 0 ≤ a by omega]
  · rw [List.getElem?_eq_none (by omega)]; simp
  · simp [show ¬ 0 ≤ b by omega]
theorem hasR_at {l : List GObj} {a b : Nat} (h : a < l.length) : hasR l a b = decide (b < l[a].syms.length) := by
  unfold hasR
  simp [List.getElem?_eq_getElem h]
def refsV (c : ByteArray × Int) (l : List GObj) (a b : Int) : List (Nat × Nat) × ByteArray × Int := if c.2 ≠ 0 then ([], c.1, c.2) else if hasR l a b then refsGo l a [] (relsAt l a.toNat b.toNat) else ([], emptyB, 2)
theorem hasR_yes {l : List GObj} {a b : Int} (h : hasR l a b = true) : ∃ (an bn : Nat) (ha : an < l.length), a = an ∧ b = bn ∧ bn < l[an].syms.length := by
  by_cases h1 : a < 0 ∨ (l.length : Int) ≤ a ∨ b < 0
  · rw [hasR_no0 h1] at h; simp at h
  · obtain ⟨an, rfl⟩ := Int.eq_ofNat_of_zero_le (show 0 ≤ a by omega)
    obtain ⟨bn, rfl⟩ := Int.eq_ofNat_of_zero_le (show 0 ≤ b by omega)
    have ha : an < l.length := by omega
    rw [hasR_at ha] at h
    exact ⟨an, bn, ha, rfl, rfl, by simpa using h⟩
end Go.Proofs.YtnhmbflinbfeoaaDoor
