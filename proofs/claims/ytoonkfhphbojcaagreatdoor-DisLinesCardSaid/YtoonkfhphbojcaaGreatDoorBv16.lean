/- A text's pieces between bytes: strings.Split at one byte. The walk of aediculeref08.Name: it returns isName. -/
import Derived.Test.YtoonkfhphbojcaaGreatDoorBv13
import Derived.Test.YtoonkfhphbojcaaGreatDoorRows
import Derived.Test.YtoonkfhphbojcaaGreatDoorBv03
import Derived.WalkKit
import Derived.WalkSpells
import Derived.WalkLawsBesides
import Derived.Lib.Hide
import Derived.Deep.Light
namespace Go.Proofs.YtoonkfhphbojcaaGreatDoor
open Go.RowKit Go.Maps
/-- a text's pieces, between bytes -/
def cutAt (c : UInt8) : BL → List BL
  | [] => [[]]
  | x :: r => if x = c then [] :: cutAt c r else match cutAt c r with
    | [] => [[x]]
    | p :: q => (x :: p) :: q
theorem cutAt_ne (c : UInt8) (s : BL) : cutAt c s ≠ [] := by
  cases s with
  | nil => simp [cutAt]
  | cons x r =>
    unfold cutAt
    split
    · simp
    · split <;> simp
theorem split_cut (c : UInt8) : ∀ s : BL, Lib.split s [c] = cutAt c s
  | [] => by
    unfold Lib.split
    rw [Lib.count_miss (by simp [Lib.index])]
    rfl
  | b :: l => by
    have ih := split_cut c l
    unfold cutAt
    by_cases hb : b = c
    · subst hb
      rw [if_pos rfl, ← ih]
      have hi : Lib.index (b :: l) [b] = ((0 : Nat) : Int) := by simp [Lib.index]
      unfold Lib.split
      rw [Lib.count_hit (by simp) hi, Nat.add_comm 1]
      simp only [Lib.splitK, hi]
      simp
    · rw [if_neg hb, ← ih]
      have hp : ([c] : BL).isPrefixOf (b :: l) = false := by
        simp only [List.isPrefixOf, Bool.and_true, beq_eq_false_iff_ne, ne_eq]
        exact fun h => hb h.symm
      rcases Int.lt_or_le (Lib.index l [c]) 0 with hlt | hge
      · have h1 : Lib.index l [c] = -1 := by
          have := Lib.indexByte_ge l c
          rw [← Lib.index_one] at this
          omega
        have h2 : Lib.index (b :: l) [c] = -1 := by simp [Lib.index, hp, h1]
        unfold Lib.split
        rw [Lib.count_miss h1, Lib.count_miss h2]
        rfl
      · obtain ⟨i, hi⟩ : ∃ i : Nat, Lib.index l [c] = i := ⟨(Lib.index l [c]).toNat, by omega⟩
        have h2 : Lib.index (b :: l) [c] = ((i + 1 : Nat) : Int) := by
          have hm : (Lib.index l [c] == -1) = false := by rw [hi]; simp
          simp only [Lib.index, hp, hm]
          rw [hi]; simp
        unfold Lib.split
        rw [Lib.count_hit (by simp) hi, Lib.count_hit (by simp) h2, Nat.add_comm 1, Nat.add_comm 1]
        have e : (b :: l).drop (i + 1 + [c].length) = l.drop (i + [c].length) := by
          rw [show i + 1 + [c].length = (i + [c].length) + 1 by simp]; rfl
        rw [e]
        simp only [Lib.splitK, hi, h2]
        have e' : (b :: l).drop (((i + 1 : Nat) : Int).toNat + [c].length) = l.drop (((i : Nat) : Int).toNat + [c].length) := by
          rw [Int.toNat_natCast, Int.toNat_natCast]; exact e
        rw [e']
        simp
        intro hx
        omega
theorem cutAt_len (c : UInt8) : ∀ (s : BL), (cutAt c s).length ≤ s.length + 1 ∧ ∀ p ∈ cutAt c s, p.length ≤ s.length
  | [] => by simp [cutAt]
  | x :: r => by
    obtain ⟨h1, h2⟩ := cutAt_len c r
    unfold cutAt
    split
    · refine ⟨by simp; omega, fun p hp => ?_⟩
      rcases List.mem_cons.1 hp with rfl | hp
      · simp
      · have := h2 p hp; simp; omega
    · split
      · simp
      · rename_i p q hq
        rw [hq] at h1 h2
        refine ⟨by simp at h1 ⊢; omega, fun y hy => ?_⟩
        rcases List.mem_cons.1 hy with rfl | hy
        · have := h2 p List.mem_cons_self; simp; omega
        · have := h2 y (List.mem_cons_of_mem _ hy); simp; omega
/-- strings.Split at one byte -/
theorem split33 (c : UInt8) (s : BL) (w : World) (hL : Lib33 w) (hs : s.length ≤ 1000000) :
    Calls Tryz.prog 57 #[.string (bsOf s), .string (bsOf [c])] w fun e w' => e = .returned (.slice (some ⟨w.heap.size, 0, none⟩) (cutAt c s).length (cutAt c s).length) ∧ w' = w.alloc (.cells ((cutAt c s).map fun t => Value.string (bsOf t)).toArray 9) := by
  obtain ⟨m, hm⟩ := hL.maxl
  have h := Any.strings_Split Tryz.lSplit info_str33 (bsOf s) (bsOf [c]) m w (by rw [bsOf_size]; omega) hm (by rw [bsOf_size]; simp)
  have hd : (Lib.splitB (bsOf [c]) 0 (Lib.countB (bsOf s) (bsOf [c])) (bsOf s)).map (·.data.toList) = cutAt c s := by
    rw [Lib.splitB_data, ← split_cut]; rfl
  have hl : Lib.countB (bsOf s) (bsOf [c]) + 1 = (cutAt c s).length := by
    rw [← hd, List.length_map, Lib.splitB_all (bsOf [c]) (by rw [bsOf_size]; simp) 0 _ _ rfl]
  have hv : (Lib.splitB (bsOf [c]) 0 (Lib.countB (bsOf s) (bsOf [c])) (bsOf s)).map Value.string = (cutAt c s).map fun t => Value.string (bsOf t) := by
    rw [← hd, List.map_map]
    rfl
  rw [hl, hv] at h
  exact h
end Go.Proofs.YtoonkfhphbojcaaGreatDoor
namespace Go.Proofs.YtoonkfhphbojcaaGreatDoor
open Go.RowKit

set_option maxHeartbeats 400000 in
theorem refName_any (s : ByteArray) (w : World) (hs : s.size ≤ maxLen) :
    Calls Tryz.prog 111 #[.string s] w fun e w' => e = .returned (.bool (isName s)) ∧ w = w' := by
  unfold maxLen at hs
  go_enter Tryz.func111, Tryz.ntmps111
  go_wp2
  go_loop [3] (fun i => ∃ k : Nat, k ≤ s.size ∧ i = .int .i64 k ∧ (s.data.toList.take k).all nameByte = true) (fun i => s.size - (intOf i).toNat)
  case atStart => exact ⟨0, Nat.zero_le _, rfl, rfl⟩
  case round =>
    obtain ⟨k, hk, rfl, hall⟩ := hrel
    have HA := Lib.hid hall; clear hall
    by_cases hlt : k < s.size
    · go_wp2
      all_goals first
        | (go_ret; exact ⟨ret_bool (isName_bad hlt (by rw [nameByte_int]; go_light; simp_all; try omega)).symm, rfl⟩)
        | (go_round
           case rel => exact ⟨k + 1, by omega, by go_num, all_take_snoc hlt HA.out (by rw [nameByte_int]; go_light; simp_all; try omega)⟩
           case measure => simp [intOf]; omega)
    · go_wp2
      all_goals
        go_ret
        exact ⟨ret_bool (isName_end' hlt HA.out (by go_light; simp; try omega)), rfl⟩
end Go.Proofs.YtoonkfhphbojcaaGreatDoor
