/- A text is a name just if trimming the name bytes leaves nothing of it. No program in sight. -/
import Derived.Test.YtnhmbflinbfeoaaDoorData
import Derived.Lib.SlTrimSet
namespace Go.Proofs.YtnhmbflinbfeoaaDoor
def nameSet : List UInt8 := [97, 98, 99, 100, 101, 102, 103, 104, 105, 106, 107, 108, 109, 110, 111, 112, 113, 114, 115, 116, 117, 118, 119, 120, 121, 122, 48, 49, 50, 51, 52, 53, 54, 55, 56, 57, 46, 95]
theorem nameSet_all : ∀ n : Fin 256, nameSet.contains (UInt8.ofNat n.val) = nameByte (UInt8.ofNat n.val) := by decide +kernel
theorem nameSet_contains (b : UInt8) : nameSet.contains b = nameByte b := by
  have := nameSet_all ⟨b.toNat, b.toNat_lt⟩
  simpa using this
theorem dropWhile_nil {α : Type} (p : α → Bool) : ∀ l : List α, l.dropWhile p = [] ↔ l.all p = true
  | [] => by simp
  | a :: l => by
    by_cases h : p a = true
    · simp [h, dropWhile_nil p l]
    · simp [h]
theorem trimS_nil (l : List UInt8) : Lib.trimS l nameSet = [] ↔ l.all nameByte = true := by
  have e : (fun b => nameSet.contains b) = nameByte := funext nameSet_contains
  unfold Lib.trimS Lib.trimLeftS Lib.trimRightS
  simp only [e]
  rw [dropWhile_nil]
  simp only [List.all_reverse]
  constructor
  · intro h
    by_cases h2 : l.all nameByte = true
    · exact h2
    · exfalso
      have h3 : ¬ (l.reverse.dropWhile nameByte = []) := by rw [dropWhile_nil, List.all_reverse]; exact h2
      obtain ⟨a, t, hat⟩ := List.exists_cons_of_ne_nil h3
      have h4 : nameByte a = false := by
        have := List.head?_dropWhile_not nameByte l.reverse
        rw [hat] at this
        simpa using this
      rw [hat] at h
      simp [h4] at h
  · intro h
    have h3 : l.reverse.dropWhile nameByte = [] := by rw [dropWhile_nil, List.all_reverse]; exact h
    simp [h3]
theorem trim_isName (s : ByteArray) (h0 : 1 ≤ s.size) (h1 : s.size ≤ 32) : (Lib.trimS s.data.toList nameSet).isEmpty = isName s := by
  rw [Bool.eq_iff_iff, List.isEmpty_iff, trimS_nil]
  simp [isName, h0, h1]
end Go.Proofs.YtnhmbflinbfeoaaDoor
