/- The walk of aediculeref12.Same where both rows are one. -/
import Derived.Test.YtnhmbflinbfeoaaDoorWBegin
import Derived.Test.YtnhmbflinbfeoaaDoorPlaces
namespace Go.Proofs.YtnhmbflinbfeoaaDoor
open Go.RowKit Go.Maps Go.WideMaps
set_option maxRecDepth 100000 in
set_option maxHeartbeats 1000000 in
theorem same_any (v1 v2 : Value) (ps : List (Nat × Nat)) (w : World) (h1 : RowAt 2 PlaceR w v1 ps) (h2 : RowAt 2 PlaceR w v2 ps) :
    Calls Tryd.prog 13 #[v1, v2] w fun e w' => e = .returned (.bool true) ∧ Below w.heap.size w w' := by
  obtain ⟨p, cap, b, o, rfl, hcap, hmax, hp, hc⟩ := h1
  obtain ⟨q, cap2, b2, o2, rfl, hcap2, -, hq, hc2⟩ := h2
  have HP := Lib.hid hp; clear hp
  have HQ := Lib.hid hq; clear hq
  have HC := Lib.hid hc; clear hc
  have HC2 := Lib.hid hc2; clear hc2
  go_enter Tryd.func13, Tryd.ntmps13
  go_wp2
  go_loopw [5] (fun v5 wr => ∃ i : Nat, i ≤ ps.length ∧ v5 = .int .i64 i ∧ Below w.heap.size w wr) (fun v5 _ => ps.length - (intOf v5).toNat)
  case atStart => exact ⟨0, Nat.zero_le _, rfl, Below.refl _ _⟩
  case round =>
    obtain ⟨i, hi, rfl, hbel⟩ := hrel
    have HB := Lib.hid hbel; clear hbel
    by_cases hlt : i < ps.length
    · obtain rfl := HP.out (by omega)
      obtain rfl := HQ.out (by omega)
      obtain ⟨g0, g1, g2⟩ := placeR_keeps _ _ _ _ _ HB.out (HC.out i hlt)
      obtain ⟨k0, k1, k2⟩ := placeR_keeps _ _ _ _ _ HB.out (HC2.out i hlt)
      generalize ps[i] = x at g1 g2 k1 k2
      obtain ⟨x1, x2⟩ := x
      simp only [] at g1 g2 k1 k2
      go_wp2
      go_quiet (fail)
      go_wp2
      go_roundw
      case rel => exact ⟨i + 1, by omega, by go_num, below_drewN HB.out _⟩
      case measure => simp [intOf]; omega
    · go_wp2
      go_ret
      exact ⟨rfl, HB.out⟩
end Go.Proofs.YtnhmbflinbfeoaaDoor
