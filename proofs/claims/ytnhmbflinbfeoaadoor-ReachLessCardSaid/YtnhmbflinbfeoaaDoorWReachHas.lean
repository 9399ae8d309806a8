/- The walk of reach.has. The walk of aediculelaw13.in. -/
import Derived.Test.YtnhmbflinbfeoaaDoorWBegin
import Derived.Test.YtnhmbflinbfeoaaDoorHasR
import Derived.Test.YtnhmbflinbfeoaaDoorWKnown
namespace Go.Proofs.YtnhmbflinbfeoaaDoor
open Go.RowKit Go.Maps Go.WideMaps
set_option maxRecDepth 100000 in
set_option maxHeartbeats 1000000 in
theorem rhas_any (v : Value) (l : List GObj) (a b : Int) (w : World) (h : ObjsAt w v l) :
    Calls Tryd.prog 27 #[v, .agg #[.int .i64 a, .int .i64 b]] w fun e w' => e = .returned (.bool (hasR l a b)) ∧ Below w.heap.size w w' := by
  obtain ⟨p, cap, bb, o, rfl, hcap, hmax, hp, hc⟩ := h
  by_cases h1 : 0 ≤ a
  · by_cases h2 : a < (l.length : Int)
    · by_cases h3 : 0 ≤ b
      · obtain ⟨an, rfl⟩ := Int.eq_ofNat_of_zero_le h1
        obtain ⟨bn, rfl⟩ := Int.eq_ofNat_of_zero_le h3
        have hal : an < l.length := by omega
        obtain rfl := hp (by omega)
        obtain ⟨vs, g0, g1, g2, ⟨pS, capS, bS, oS, rfl, -⟩, -⟩ := hc an hal
        rw [hasR_at hal]
        clear hc hp g1
        generalize l[an].syms.length = nS at g2 ⊢
        have d1 : decide ((0 : Int) ≤ (an : Int)) = true := by simp
        have d2 : decide ((an : Int) < (l.length : Int)) = true := by simpa using hal
        have d3 : decide ((0 : Int) ≤ (bn : Int)) = true := by simp
        by_cases h4 : bn < nS
        · have d4 : decide ((bn : Int) < (nS : Int)) = true := by simpa using h4
          go_enter Tryd.func27, Tryd.ntmps27
          go_wp2
          go_quiet (fail)
          go_wp2
          go_ret
          exact ⟨ret_bool (by simp [h4]), below_drewN (alloc_old w _) _⟩
        · have d4 : decide ((bn : Int) < (nS : Int)) = false := by simp; omega
          go_enter Tryd.func27, Tryd.ntmps27
          go_wp2
          go_quiet (fail)
          go_wp2
          go_ret
          exact ⟨ret_bool (by simp [h4]), below_drewN (alloc_old w _) _⟩
      · rw [hasR_no0 (.inr (.inr (by omega)))]
        have d1 : decide (0 ≤ a) = true := by simpa using h1
        have d2 : decide (a < (l.length : Int)) = true := by simpa using h2
        have d3 : decide (0 ≤ b) = false := by simpa using h3
        go_enter Tryd.func27, Tryd.ntmps27
        go_wp2
        go_quiet (fail)
        go_wp2
        go_ret
        exact ⟨rfl, below_drewN (alloc_old w _) _⟩
    · rw [hasR_no0 (.inr (.inl (by omega)))]
      have d1 : decide (0 ≤ a) = true := by simpa using h1
      have d2 : decide (a < (l.length : Int)) = false := by simpa using h2
      go_enter Tryd.func27, Tryd.ntmps27
      go_wp2
      go_quiet (fail)
      go_wp2
      go_ret
      exact ⟨rfl, below_drewN (alloc_old w _) _⟩
  · rw [hasR_no0 (.inl (by omega))]
    have d1 : decide (0 ≤ a) = false := by simpa using h1
    go_enter Tryd.func27, Tryd.ntmps27
    go_wp2
    go_quiet (fail)
    go_wp2
    go_ret
    exact ⟨rfl, below_drewN (alloc_old w _) _⟩
end Go.Proofs.YtnhmbflinbfeoaaDoor
namespace Go.Proofs.YtnhmbflinbfeoaaDoor
open Go.RowKit Go.Maps
def inB (ks : List PP) (x : PP) : Bool := decide (x ∈ ks)
theorem inB_no {ks : List PP} {x : PP} (h : ∀ i (h : i < ks.length), ks[i] ≠ x) : inB ks x = false := by
  unfold inB
  rw [decide_eq_false_iff_not]
  intro hx
  obtain ⟨i, hi, e⟩ := List.mem_iff_getElem.1 hx
  exact h i hi e
theorem inB_yes {ks : List PP} {x : PP} (h : x ∈ ks) : inB ks x = true := by simpa [inB] using h
set_option maxRecDepth 100000 in
set_option maxHeartbeats 2000000 in
theorem in_any (pv : Value) (ks : List PP) (x : PP) (w : World) (hk : RowAt 2 PlaceR w pv ks) :
    Calls Tryd.prog 10 #[pv, placeV x] w fun e w' => e = .returned (.bool (inB ks x)) ∧ Below w.heap.size w w' := by
  obtain ⟨pk, ck, bk, ok, rfl, hck, hmk, hpk, hrk⟩ := hk
  have HPK := Lib.hid hpk; clear hpk
  have HRK := Lib.hid hrk; clear hrk
  obtain ⟨x1, x2⟩ := x
  unfold placeV
  simp only []
  go_enter Tryd.func10, Tryd.ntmps10
  go_wp2
  go_loopw [5] (fun v5 wr => ∃ k : Nat, k ≤ ks.length ∧ v5 = .int .i64 k ∧ (∀ i (h : i < ks.length), i < k → ks[i] ≠ (x1, x2)) ∧ PlaceAt wr w.heap.size x1 x2 ∧ Below w.heap.size w wr) (fun v5 _ => ks.length - (intOf v5).toNat)
  case atStart => exact ⟨0, Nat.zero_le _, rfl, fun i _ h0 => by omega, ⟨by simp, by simp [go_sem], by simp [go_sem]⟩, alloc_old w _⟩
  case round =>
    obtain ⟨k, hk, rfl, hall, ⟨hz, e0, e1⟩, hbel⟩ := hrel
    have HA := Lib.hid hall; clear hall
    have HB := Lib.hid hbel; clear hbel
    by_cases hlt : k < ks.length
    · obtain rfl := HPK.out (by omega)
      obtain ⟨-, y0, y1⟩ := placeR_keeps _ _ _ _ _ HB.out (HRK.out k hlt)
      have hkm : ks[k] ∈ ks := List.getElem_mem hlt
      have HKE : Hid (∀ i (h : i < ks.length), i = k → ks[i] = ks[k]) := Lib.hid fun i hi e => by subst e; rfl
      have HKM := Lib.hid hkm; clear hkm
      generalize ks[k] = y at *
      obtain ⟨y1', y2'⟩ := y
      simp only [] at y0 y1
      have d2 : (0 : Int) ≤ (k : Int) := by omega
      by_cases he : y1' = x1 ∧ y2' = x2
      · obtain ⟨rfl, rfl⟩ := he
        go_wp2_with fail
        go_quiet (fail)
        go_wp2
        go_ret
        exact ⟨ret_bool (inB_yes HKM.out).symm, below_drewN HB.out _⟩
      · have hne : (y1', y2') ≠ (x1, x2) := fun e => he (by cases e; exact ⟨rfl, rfl⟩)
        have HNE := Lib.hid hne; clear hne
        have hcase : (y1' = x1 ∧ ¬ y2' = x2) ∨ ¬ y1' = x1 := by omega
        have HE := Lib.hid (And.intro e0 e1)
        have HZ := Lib.hid hz
        clear he
        rcases hcase with ⟨rfl, h2⟩ | h2
        all_goals
          go_wp2_with fail
          go_quiet (fail)
          go_wp2
          go_roundw
          case rel => exact ⟨k + 1, by omega, by go_num, fun i hi hik => by
            by_cases h1 : i < k
            · exact HA.out i hi h1
            · rw [HKE.out i hi (by omega)]; exact HNE.out, ⟨HZ.out, HE.out.1, HE.out.2⟩, below_drewN HB.out _⟩
          case measure => simp [intOf]; omega
    · go_wp2
      go_ret
      exact ⟨ret_bool (inB_no fun i hi => HA.out i hi (by omega)).symm, HB.out⟩
end Go.Proofs.YtnhmbflinbfeoaaDoor
