/- The walk of word.Get. -/
import Derived.Test.YtiegjplldfodkaaDoorRows
import Derived.Test.YtiegjplldfodkaaDoorPack
import Derived.Lib.Hide
import Derived.Laws.BitsAllLaws
namespace Go.Proofs.YtiegjplldfodkaaDoor
open Go.RowKit
theorem leV_snoc : ∀ (l : BL) (b : UInt8), leV (l ++ [b]) = leV l + b.toNat * pow256 l.length
  | [], b => by simp [leV, pow256]
  | x :: r, b => by
    rw [List.cons_append, leV, leV_snoc r b, leV, List.length_cons, pow256]
    rw [Int.mul_add, ← Int.add_assoc, Int.mul_left_comm]
theorem or_shift (a b k : Nat) (h : a < 2 ^ k) : a ||| b <<< k = a + b * 2 ^ k := by
  rw [Nat.or_comm, Nat.shiftLeft_eq, Nat.mul_comm b, ← Nat.two_pow_add_eq_or_of_lt h, Nat.add_comm]
theorem pow256_eq : ∀ k : Nat, pow256 k = ((2 ^ (8 * k) : Nat) : Int)
  | 0 => rfl
  | k + 1 => by rw [pow256, pow256_eq k, show 8 * (k + 1) = 8 * k + 8 by omega, Nat.pow_add]; simp; omega
theorem or_byte (l : BL) (b : UInt8) (hl : l.length < 4) : bits .or .u32 (leV l) ((b.toNat : Int) % 4294967296 * 2 ^ (8 * l.length) % 4294967296) = leV (l ++ [b]) := by
  have hv := leV_bd l
  have hb := b.toNat_lt
  rw [leV_snoc, pow256_eq]
  rw [pow256_eq] at hv
  have hp : (2 ^ (8 * l.length) : Nat) ≤ 16777216 := by
    have := Nat.pow_le_pow_right (n := 2) (by omega) (show 8 * l.length ≤ 24 by omega)
    exact this
  have hm : b.toNat * 2 ^ (8 * l.length) < 4294967296 := by
    have := Nat.mul_le_mul (show b.toNat ≤ 255 by omega) hp
    omega
  obtain ⟨a, ha⟩ := Int.eq_ofNat_of_zero_le hv.1
  have e1 : ((b.toNat : Int) % 4294967296 * 2 ^ (8 * l.length) % 4294967296) = ((b.toNat * 2 ^ (8 * l.length) : Nat) : Int) := by
    rw [Int.emod_eq_of_lt (a := (b.toNat : Int)) (by omega) (by omega)]
    rw [show (b.toNat : Int) * 2 ^ (8 * l.length) = ((b.toNat * 2 ^ (8 * l.length) : Nat) : Int) by simp]
    exact Int.emod_eq_of_lt (by omega) (by omega)
  rw [e1, ha]
  rw [ha] at hv
  have ha2 : a < 2 ^ (8 * l.length) := by omega
  rw [u32_or_nat a _ (by omega) hm, ← Nat.shiftLeft_eq, or_shift a b.toNat _ ha2]
  simp
set_option maxHeartbeats 1000000 in
set_option maxRecDepth 100000 in
theorem wordGet_any (s : ByteArray) (w : World) (h1 : 1 ≤ s.size) (h4 : s.size ≤ 4) :
    Calls Tryd.prog 69 #[.string s] w fun e w' => e = .returned (.tuple #[.int .u32 (leV s.data.toList), .int .i64 0]) ∧ w = w' := by
  have d1 : decide ((s.size : Int) < 1) = false := by simp; omega
  have d4 : decide ((4 : Int) < (s.size : Int)) = false := by simp; omega
  have d4' : decide (4 < s.size) = false := by simp; omega
  go_enter Tryd.func69, Tryd.ntmps69
  go_wp2
  go_loopw [2, 15] (fun v2 v15 wr => ∃ k : Nat, k ≤ s.size ∧ v15 = .int .i64 k ∧ v2 = .int .u32 (leV (s.data.toList.take k)) ∧ w = wr) (fun _ v15 _ => s.size - (intOf v15).toNat)
  case atStart => exact ⟨0, Nat.zero_le _, rfl, rfl, rfl⟩
  case round =>
    obtain ⟨k, hk, rfl, rfl, rfl⟩ := hrel
    by_cases hlt : k < s.size
    · have HE : Hid (bits .or .u32 (leV (s.data.toList.take k)) ((s[k].toNat : Int) % 4294967296 * 2 ^ (8 * k) % 4294967296) = leV (s.data.toList.take (k + 1))) := by
        have hl : (s.data.toList.take k).length = k := by rw [List.length_take, len_list]; omega
        have := or_byte (s.data.toList.take k) s[k] (by omega)
        rw [hl] at this
        rw [Hid, this, List.take_succ_eq_append_getElem (by rw [len_list]; exact hlt)]
        rfl
      go_wp2
      exact ⟨⟨k + 1, by omega, by go_num, by rw [HE.out], trivial⟩, by simp [intOf]; omega⟩
    · have HT : Hid (s.data.toList.take k = s.data.toList) := List.take_of_length_le (by rw [len_list]; omega)
      rw [HT.out]
      go_wp2
      go_ret2
      exact ⟨rfl, rfl⟩
end Go.Proofs.YtiegjplldfodkaaDoor
