/- The walk of aediculelaw13.Large. -/
import Derived.Test.YtnhmbflinbfeoaaDoorWLarge
namespace Go.Proofs.YtnhmbflinbfeoaaDoor
open Go.RowKit
def relN (s : GSym) : Int := s.rels.length
def objN (o : GObj) : Int := (o.syms.length : Int) + sumI relN (o.syms.take 70)
def sum13 (l : List GObj) : Int := sumI objN (l.take 20)
def large13B (l : List GObj) : Bool := largeB l || decide (100 < sum13 l)
set_option maxRecDepth 100000 in
set_option maxHeartbeats 2000000 in
theorem large13_any (v : Value) (l : List GObj) (w : World) (h : ObjsAt w v l) :
    Calls Tryd.prog 5 #[v] w fun e w' => e = .returned (.bool (large13B l)) ∧ Below w.heap.size w w' := by
  have HL := Lib.hid (large_any v l w h)
  obtain ⟨p, cap, b, o, rfl, hcap, hmax, hp, hc⟩ := h
  have HC := Lib.hid hc; clear hc
  have HP := Lib.hid hp; clear hp
  go_enter Tryd.func5, Tryd.ntmps5
  go_wp2
  go_loop [3, 4] (fun v3 v4 => ∃ (i : Nat) (n : Int), i ≤ l.length ∧ i ≤ 20 ∧ v4 = .int .i64 i ∧ v3 = .int .i64 n ∧ n = sumI objN (l.take i) ∧ 0 ≤ n ∧ n ≤ i * 10000000000000000) (fun _ v4 => l.length - (intOf v4).toNat)
  case atStart => exact ⟨0, 0, Nat.zero_le _, by omega, rfl, rfl, by simp [sumI], by omega, by omega⟩
  case round =>
    obtain ⟨i, n, hi, hi40, rfl, rfl, hn, hn0, hn1⟩ := hrel
    have HN := Lib.hid hn; clear hn
    by_cases hlt : i < l.length ∧ i < 20
    · obtain ⟨hlt1, hlt2⟩ := hlt
      obtain rfl := HP.out (by omega)
      obtain ⟨vs, g0, g1, g2, hin⟩ := HC.out i hlt1
      generalize hx : l[i] = x at g1 hin
      obtain ⟨xn, xs⟩ := x
      simp only [] at g1 hin
      have HX := Lib.hid hx; clear hx
      obtain ⟨⟨pS, capS, bS, oS, rfl, hcapS, hmaxS, hpS, hcS⟩, hnmx⟩ := hin
      have HCS := Lib.hid hcS; clear hcS
      have HPS := Lib.hid hpS; clear hpS
      clear g1
      simp only [] at hmaxS hcapS
      go_wp2
      go_loop [3, 5] (fun v3 v5 => ∃ (k : Nat) (m : Int), k ≤ xs.length ∧ k ≤ 70 ∧ v5 = .int .i64 k ∧ v3 = .int .i64 m ∧ m = n + xs.length + sumI relN (xs.take k) ∧ 0 ≤ m ∧ m ≤ n + xs.length + k * 140737488355328) (fun _ v5 => xs.length - (intOf v5).toNat)
      case atStart => exact ⟨0, _, Nat.zero_le _, by omega, rfl, rfl, by simp [sumI], by omega, by omega⟩
      case round =>
        obtain ⟨k, m, hk, hk2, rfl, rfl, hm, hm0, hm1⟩ := hrel
        have HM := Lib.hid hm; clear hm
        by_cases hlk : k < xs.length ∧ k < 70
        · obtain ⟨hlk1, hlk2⟩ := hlk
          obtain rfl := HPS.out (by omega)
          obtain ⟨vr, vn, s0, s1, s2, s3, s4, s5, s6, s7, hsin⟩ := HCS.out k hlk1
          generalize hy : xs[k] = y at s1 s2 s3 s4 s5 s6 s7 hsin
          obtain ⟨yn, yb, yk, ys, yy, yr, yt⟩ := y
          simp only [] at s1 s2 s3 s4 s5 s6 s7 hsin
          have HY := Lib.hid hy; clear hy
          obtain ⟨⟨pR, capR, bR, oR, rfl, hcapR, hmaxR, -, -⟩, -⟩ := hsin
          simp only [] at hmaxR s6
          clear s1 s2 s3 s4 s5 s7
          go_wp2
          go_round
          case rel =>
            refine ⟨k + 1, _, by omega, by omega, by go_num, rfl, ?_, by omega, by omega⟩
            rw [HM.out, sumI_take_succ relN hlk1 HY.out]
            simp only [relN]; omega
          case measure => simp [intOf]; omega
        · have HFM : Hid (m = sumI objN (l.take (i + 1))) := by
            rw [HM.out, take_end hk hk2 hlk, sumI_take_succ objN hlt1 HX.out, HN.out]
            have he : objN ⟨xn, xs⟩ = (xs.length : Int) + sumI relN (xs.take 70) := rfl
            rw [he]; unfold Hid; omega
          by_cases hk1 : k < xs.length
          · have hk3 : ¬ k < 70 := fun h => hlk ⟨hk1, h⟩
            clear hlk
            go_wp2
            go_round
            case rel => exact ⟨i + 1, _, by omega, by omega, by go_num, rfl, HFM.out, by omega, by omega⟩
            case measure => simp [intOf]; omega
          · clear hlk
            go_wp2
            go_round
            case rel => exact ⟨i + 1, _, by omega, by omega, by go_num, rfl, HFM.out, by omega, by omega⟩
            case measure => simp [intOf]; omega
    · have HF : Hid (n = sum13 l) := by rw [Hid, HN.out, take_end hi hi40 hlt]; rfl
      have HB : Hid (large13B l = (largeB l || decide (100 < n))) := by rw [Hid, HF.out]; rfl
      cases hLB : largeB l with
      | true =>
        rw [hLB] at HL HB
        clear hLB
        by_cases hi1 : i < l.length
        · have hi3 : ¬ i < 20 := fun h => hlt ⟨hi1, h⟩
          clear hlt
          go_wp2_with (go_at_call 14; refine HL.out.mono ?_; rintro e w1 ⟨rfl, hB1⟩)
          go_ret
          exact ⟨ret_bool (by rw [HB.out]; rfl), hB1⟩
        · clear hlt
          go_wp2_with (go_at_call 14; refine HL.out.mono ?_; rintro e w1 ⟨rfl, hB1⟩)
          go_ret
          exact ⟨ret_bool (by rw [HB.out]; rfl), hB1⟩
      | false =>
        rw [hLB] at HL HB
        clear hLB
        by_cases hi1 : i < l.length
        · have hi3 : ¬ i < 20 := fun h => hlt ⟨hi1, h⟩
          clear hlt
          go_wp2_with (go_at_call 14; refine HL.out.mono ?_; rintro e w1 ⟨rfl, hB1⟩)
          all_goals
            go_ret
            exact ⟨ret_bool (by rw [HB.out]; simp [*]), hB1⟩
        · clear hlt
          go_wp2_with (go_at_call 14; refine HL.out.mono ?_; rintro e w1 ⟨rfl, hB1⟩)
          all_goals
            go_ret
            exact ⟨ret_bool (by rw [HB.out]; simp [*]), hB1⟩
end Go.Proofs.YtnhmbflinbfeoaaDoor
