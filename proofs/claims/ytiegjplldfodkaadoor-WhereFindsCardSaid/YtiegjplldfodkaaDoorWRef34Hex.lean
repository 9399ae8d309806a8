/- The walk of aediculeref34.hex. -/
import Derived.Test.YtiegjplldfodkaaDoorWHex
namespace Go.Proofs.YtiegjplldfodkaaDoor
open Go.RowKit
def dvx : Nat → Int → Int
  | 0, v => v
  | i + 1, v => dvx i (v / 16)
theorem dvx_succ : ∀ (i : Nat) (v : Int), dvx (i + 1) v = dvx i v / 16
  | 0, _ => rfl
  | i + 1, v => by rw [dvx, dvx_succ i, dvx]
theorem dvx_bd : ∀ (i : Nat) (v : Int), 0 ≤ v → 0 ≤ dvx i v ∧ dvx i v ≤ v
  | 0, v, h => ⟨h, Int.le_refl _⟩
  | i + 1, v, h => by have := dvx_bd i (v / 16) (by omega); simp only [dvx]; omega
theorem hexS_cons : ∀ (i : Nat) (v : Int), hexS (i + 1) v = hexD (dvx i v % 16) :: hexS i v
  | 0, _ => rfl
  | i + 1, v => by rw [hexS, hexS_cons i (v / 16)]; rfl
theorem hexS_len : ∀ (i : Nat) (v : Int), (hexS i v).length = i
  | 0, _ => rfl
  | i + 1, v => by simp only [hexS, List.length_append, hexS_len i, List.length_cons, List.length_nil]
theorem leR_hex : ∀ (n : Nat) (v : Int), 0 ≤ v → (leR n v).flatMap hexB = hexS (2 * n) v
  | 0, _, _ => rfl
  | n + 1, v, h => by
    have e1 : leR (n + 1) v = leR n (v / 256) ++ [UInt8.ofNat (v % 256).toNat] := by simp only [leR, leB, List.reverse_cons]
    rw [e1, List.flatMap_append, leR_hex n (v / 256) (by omega), show 2 * (n + 1) = 2 * n + 1 + 1 from rfl, hexS, hexS, List.flatMap_cons, List.flatMap_nil, hexB, u8_ofNat _ (by omega)]
    rw [show v / 16 / 16 = v / 256 by omega, show (((v % 256).toNat : Nat) : Int) / 16 = v / 16 % 16 by omega, show (((v % 256).toNat : Nat) : Int) % 16 = v % 16 by omega]
    simp
theorem digs_slice : ∀ i : Nat, i < 16 → (digs.data.extract i (i + 1)) = #[hexD i] := by decide
theorem run_dslice {k : IntKind} (d : Int) (w : World) (h0 : 0 ≤ d) (h1 : d < 16) : (Instr.slice 9 (.string ⟨#[48, 49, 50, 51, 52, 53, 54, 55, 56, 57, 97, 98, 99, 100, 101, 102]⟩) (some (.int k d)) (some (.int k (d + 1))) none).run Tryd.prog w = .ok (.string (bsOf [hexD d])) w := by
  have h := run_slice_string_if (P := Tryd.prog) w 9 digs k k d (d + 1) Tryd.underlying9
  rw [if_pos ⟨by omega, by rw [digs_size]; omega⟩, if_pos ⟨h0, by omega⟩] at h
  have e : digs.extract d.toNat (d + 1).toNat = bsOf [hexD d] := by
    have h2 := digs_slice d.toNat (by omega)
    rw [Int.toNat_of_nonneg h0] at h2
    apply ByteArray.ext
    rw [ByteArray.data_extract, show (d + 1).toNat = d.toNat + 1 by omega, h2]
    rfl
  rw [e] at h
  exact h
theorem bsOf_two (a b : BL) : bsOf a ++ bsOf b = bsOf (a ++ b) := by rw [bsOf_app]; rfl
set_option maxHeartbeats 1600000 in
set_option maxRecDepth 100000 in
theorem rhex_any (n : Nat) (v : Int) (w : World) (hn : n ≤ 8) (h0 : 0 ≤ v) (h1 : v < 4294967296) : Calls Tryd.prog 47 #[.int .u32 v, .int .i64 n] w fun e w' => e = .returned (.string (bsOf (hexS n v))) ∧ w' = w := by
  go_enter Tryd.func47, Tryd.ntmps47
  go_wp2
  go_loopw [0, 5, 6, 7] (fun v0 v5 v6 v7 wr => ∃ i : Nat, i ≤ n ∧ v6 = .int .i64 i ∧ v0 = .int .u32 (dvx i v) ∧ v5 = .string (bsOf (hexS i v)) ∧ wr = w) (fun _ _ v6 _ _ => n - (intOf v6).toNat)
  case atStart => exact ⟨0, Nat.zero_le _, rfl, rfl, rfl, rfl⟩
  case round =>
    obtain ⟨i, hi, rfl, rfl, rfl, rfl⟩ := hrel
    by_cases hlt : i < n
    · have HS := Lib.hid (hexS_cons i v)
      have HD := Lib.hid (dvx_succ i v)
      have hdv := dvx_bd i v h0
      have hln : (bsOf (hexS i v)).size = i := by rw [bsOf_size, hexS_len]
      generalize dvx i v = d at HS HD hdv ⊢
      have q := fun W => run_dslice (k := .u32) (d % 16) W (by omega) (by omega)
      have hcat : ¬ 9223372036854775807 < (bsOf [hexD (d % 16)]).size + (bsOf (hexS i v)).size := by rw [hln, bsOf_size]; simp; omega
      clear hln
      go_wp2
      go_roundw
      case rel => exact ⟨i + 1, by omega, by go_num, by rw [HD.out], by rw [bsOf_two, HS.out]; rfl, trivial⟩
      case measure => simp [intOf]; omega
    · obtain rfl : i = n := by omega
      go_wp2
      go_ret
      exact ⟨rfl, rfl⟩
end Go.Proofs.YtiegjplldfodkaaDoor
