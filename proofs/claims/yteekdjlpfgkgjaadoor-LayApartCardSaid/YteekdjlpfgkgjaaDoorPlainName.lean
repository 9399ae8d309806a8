/- The plain notion of a name (layer 8): bytes of a small alphabet, 1 to 32 of them. No program in sight. -/
import Derived.WalkKit
namespace Go.Proofs.YteekdjlpfgkgjaaDoor
/-- a byte of a name -/
def nameByte (c : UInt8) : Bool := (97 ≤ c && c ≤ 122) || (48 ≤ c && c ≤ 57) || c == 46 || c == 95
/-- the plain test -/
def isName (s : ByteArray) : Bool := s.data.toList.all nameByte && decide (1 ≤ s.size) && decide (s.size ≤ 32)
theorem take_snoc (s : ByteArray) (k : Nat) (h : k < s.size) : s.data.toList.take (k + 1) = s.data.toList.take k ++ [s[k]] := by
  rw [List.take_succ_eq_append_getElem (by simpa using h)]; rfl
theorem nameByte_int (c : UInt8) : nameByte c = (decide (97 ≤ (c.toNat : Int)) && decide ((c.toNat : Int) ≤ 122) || decide (48 ≤ (c.toNat : Int)) && decide ((c.toNat : Int) ≤ 57) || decide ((c.toNat : Int) = 46) || decide ((c.toNat : Int) = 95)) := by
  unfold nameByte
  rw [Bool.eq_iff_iff]
  simp [UInt8.le_iff_toNat_le, ← UInt8.toNat_inj]
  omega
theorem all_take_snoc {s : ByteArray} {k : Nat} (h : k < s.size) (ha : (s.data.toList.take k).all nameByte = true) (hb : nameByte s[k] = true) : (s.data.toList.take (k + 1)).all nameByte = true := by
  rw [take_snoc s k h, List.all_append, ha]; simp [hb]
theorem isName_bad {s : ByteArray} {k : Nat} (h : k < s.size) (hb : nameByte s[k] = false) : isName s = false := by
  have hm : s[k] ∈ s.data.toList := by
    have h2 : k < s.data.toList.length := by simpa using h
    have : s.data.toList[k] = s[k] := rfl
    rw [← this]; exact List.getElem_mem h2
  have : s.data.toList.all nameByte = false := by
    rw [List.all_eq_false]; exact ⟨s[k], hm, by simp [hb]⟩
  simp [isName, this]
theorem isName_end {s : ByteArray} {k : Nat} (h : ¬ k < s.size) (ha : (s.data.toList.take k).all nameByte = true) : isName s = (decide (1 ≤ s.size) && decide (s.size ≤ 32)) := by
  rw [List.take_of_length_le (by simpa using h)] at ha
  simp [isName, ha]
theorem isName_end' {s : ByteArray} {k : Nat} {b : Bool} (h : ¬ k < s.size) (ha : (s.data.toList.take k).all nameByte = true) (hb : (1 ≤ s.size ∧ s.size ≤ 32) ↔ b = true) : b = isName s := by
  rw [isName_end h ha, Bool.eq_iff_iff, ← hb]; simp
theorem toList_nil {s : ByteArray} (h : s.size = 0) : s.toList = [] := by
  rw [ByteArray.toList_eq]
  exact List.eq_nil_of_length_eq_zero (by simpa using h)
theorem toList_not_nil {s : ByteArray} (h : 1 ≤ s.size) : ¬ s.toList = [] := by
  rw [ByteArray.toList_eq]
  intro h2
  have := congrArg List.length h2
  simp at this
  rw [this] at h; simp at h
theorem toList_isEmpty {s : ByteArray} (h : 1 ≤ s.size) : s.toList.isEmpty = false := by simpa using toList_not_nil h
theorem mk_toList_isEmpty (r : List UInt8) : (ByteArray.mk r.toArray).toList.isEmpty = r.isEmpty := by rw [ByteArray.toList_eq]
end Go.Proofs.YteekdjlpfgkgjaaDoor
