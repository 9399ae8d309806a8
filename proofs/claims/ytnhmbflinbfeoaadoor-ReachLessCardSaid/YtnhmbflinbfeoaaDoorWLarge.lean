/- The walk of aediculelaw08.Large. -/
import Derived.Test.YtnhmbflinbfeoaaDoorRows
import Derived.Test.YtnhmbflinbfeoaaDoorPlain
import Derived.WalkLawsBesides
import Derived.Lib.Hide
import Derived.Deep.Light
import Derived.Handy
namespace Go.Proofs.YtnhmbflinbfeoaaDoor
open Go.RowKit
set_option maxRecDepth 100000 in
set_option maxHeartbeats 2000000 in
theorem large_any (v : Value) (l : List GObj) (w : World) (h : ObjsAt w v l) :
    Calls Tryd.prog 14 #[v] w fun e w' => e = .returned (.bool (largeB l)) ∧ Below w.heap.size w w' := by
  obtain ⟨p, cap, b, o, rfl, hcap, hmax, hp, hc⟩ := h
  have HC := Lib.hid hc; clear hc
  have HP := Lib.hid hp; clear hp
  go_enter Tryd.func14, Tryd.ntmps14
  go_wp2
  go_loopw [3, 4] (fun v3 v4 wr => ∃ (i : Nat) (n : Int), i ≤ l.length ∧ i ≤ 40 ∧ v4 = .int .i64 i ∧ v3 = .int .i64 n ∧ n = wrap64 (sumI objS (l.take i)) ∧ Below w.heap.size w wr) (fun _ v4 _ => l.length - (intOf v4).toNat)
  case atStart => exact ⟨0, 0, Nat.zero_le _, by omega, rfl, rfl, by simp [sumI, wrap64], Below.refl _ _⟩
  case round =>
    obtain ⟨i, n, hi, hi40, rfl, rfl, hn, hbel⟩ := hrel
    have HN := Lib.hid hn; clear hn
    have HB := Lib.hid hbel; clear hbel
    by_cases hlt : i < l.length ∧ i < 40
    · obtain ⟨hlt1, hlt2⟩ := hlt
      obtain rfl := HP.out (by omega)
      obtain ⟨vs, g0, g1, g2, hin⟩ := HC.out i hlt1
      replace g2 := cell_keep HB.out g0 g2
      have g0' := size_keep HB.out g0
      have c2 : Hid (w.cell? ⟨b, o + i * 2 + 1, none⟩ = some vs) := by have := g2; rwa [HB.out.cell (p := ⟨b, o + i * 2 + 1, none⟩) g0] at this
      generalize hx : l[i] = x at g1 hin
      obtain ⟨xn, xs⟩ := x
      simp only [] at g1 hin
      have HX := Lib.hid hx; clear hx
      obtain ⟨⟨pS, capS, bS, oS, rfl, hcapS, hmaxS, hpS, hcS⟩, hnmx⟩ := hin
      have HCS := Lib.hid hcS; clear hcS
      have HPS := Lib.hid hpS; clear hpS
      clear g1
      go_wp2
      obtain ⟨wo, rfl⟩ : ∃ wo : World, wo = wr := ⟨_, rfl⟩
      go_loopw [3, 5] (fun v3 v5 wr => ∃ (k : Nat) (m : Int), k ≤ xs.length ∧ k ≤ 200 ∧ v5 = .int .i64 k ∧ v3 = .int .i64 m ∧ m = wrap64 (sumI objS (l.take i) + xs.length + sumI symS (xs.take k)) ∧ Below w.heap.size w wr) (fun _ v5 _ => xs.length - (intOf v5).toNat)
      case atStart => exact ⟨0, _, Nat.zero_le _, by omega, rfl, rfl, by rw [HN.out, wrap64_add_left]; simp [sumI], HB.out⟩
      case round =>
        clear g2 g0' HB
        obtain ⟨k, m, hk, hk2, rfl, rfl, hm, hbel⟩ := hrel
        have HM := Lib.hid hm; clear hm
        have HB := Lib.hid hbel; clear hbel
        have g2 := cell_keep HB.out g0 c2.out
        have g0' := size_keep HB.out g0
        by_cases hlk : k < xs.length ∧ k < 200
        · obtain ⟨hlk1, hlk2⟩ := hlk
          obtain rfl := HPS.out (by omega)
          obtain ⟨vr, vn, s0, s1, s2, s3, s4, s5, s6, s7, hsin⟩ := symR_keeps _ _ _ _ _ HB.out (HCS.out k hlk1)
          generalize hy : xs[k] = y at s1 s2 s3 s4 s5 s6 s7 hsin
          obtain ⟨yn, yb, yk, ys, yy, yr, yt⟩ := y
          simp only [] at s1 s2 s3 s4 s5 s6 s7 hsin
          have HY := Lib.hid hy; clear hy
          obtain ⟨⟨pR, capR, bR, oR, rfl, hcapR, hmaxR, hpR, hcR⟩, ⟨pT, capT, bT, oT, rfl, hcapT, hmaxT, -, -⟩, -, -, -, hny, hby⟩ := hsin
          simp only [] at hny hby hmaxR hmaxT
          have HCR := Lib.hid hcR; clear hcR
          have HPR := Lib.hid hpR; clear hpR
          have HBW := Lib.hid (HB.out.alloc HB.out.size (.cells #[.string yn, .int .u8 yb, .int .u8 yk, .int .u32 ys, .string yy, .slice pR yr.length capR, .slice pT yt.length capT] 46))
          go_wp2
          go_loop [3, 7] (fun v3 v7 => ∃ (j : Nat) (q : Int), j ≤ yr.length ∧ j ≤ 1100 ∧ v7 = .int .i64 j ∧ v3 = .int .i64 q ∧ q = wrap64 (sumI objS (l.take i) + xs.length + sumI symS (xs.take k) + ((yr.length : Int) / 4 + (yt.length : Int) / 4 + (yy.size : Int) / 64 + (yn.size : Int) / 16) + sumI relS (yr.take j))) (fun _ v7 => yr.length - (intOf v7).toNat)
          case atStart =>
            refine ⟨0, _, Nat.zero_le _, by omega, rfl, rfl, ?_⟩
            rw [HM.out, wrap5]
            simp only [sumI, List.take_zero]
            congr 1; omega
          case round =>
            obtain ⟨j, q, hj, hj2, rfl, rfl, hq⟩ := hrel
            have HQ := Lib.hid hq; clear hq
            by_cases hlj : j < yr.length ∧ j < 1100
            · obtain ⟨hlj1, hlj2⟩ := hlj
              obtain rfl := HPR.out (by omega)
              obtain ⟨r0, r1, r2, r3, r4, r5, r6, r7, r8⟩ := HCR.out j hlj1
              generalize hz : yr[j] = z at r1 r2 r3 r4 r5 r6 r7 r8
              obtain ⟨zo, zk, zn, za⟩ := z
              simp only [] at r1 r2 r3 r4 r5 r6 r7 r8
              have HZ := Lib.hid hz; clear hz
              go_wp2
              go_round
              case rel =>
                refine ⟨j + 1, _, by omega, by omega, by go_num, rfl, ?_⟩
                rw [HQ.out, wrap64_add_left, sumI_take_succ relS hlj1 HZ.out]
                simp only [relS]
                congr 1; omega
              case measure => simp [intOf]; omega
            · have HTE := Lib.hid (take_end hj hj2 hlj)
              have HFQ : Hid (q = wrap64 (sumI objS (l.take i) + xs.length + sumI symS (xs.take (k + 1)))) := by
                rw [HQ.out, HTE.out, sumI_take_succ symS hlk1 HY.out]
                simp only [symS]
                congr 1; omega
              by_cases hj1 : j < yr.length
              · have hj3 : ¬ j < 1100 := fun h => hlj ⟨hj1, h⟩
                clear hlj
                go_wp2
                go_roundw
                case rel => exact ⟨k + 1, _, by omega, by omega, by go_num, rfl, HFQ.out, HBW.out⟩
                case measure => simp [intOf]; omega
              · clear hlj
                go_wp2
                go_roundw
                case rel => exact ⟨k + 1, _, by omega, by omega, by go_num, rfl, HFQ.out, HBW.out⟩
                case measure => simp [intOf]; omega
        · have HTE := Lib.hid (take_end hk hk2 hlk)
          have HFM : Hid (m = wrap64 (sumI objS (l.take (i + 1)))) := by
            rw [HM.out, HTE.out, sumI_take_succ objS hlt1 HX.out]
            simp only [objS]
            congr 1; omega
          by_cases hk1 : k < xs.length
          · have hk3 : ¬ k < 200 := fun h => hlk ⟨hk1, h⟩
            clear hlk
            go_wp2
            go_roundw
            case rel => exact ⟨i + 1, _, by omega, by omega, by go_num, rfl, HFM.out, HB.out⟩
            case measure => simp [intOf]; omega
          · clear hlk
            go_wp2
            go_roundw
            case rel => exact ⟨i + 1, _, by omega, by omega, by go_num, rfl, HFM.out, HB.out⟩
            case measure => simp [intOf]; omega
    · have HTE := Lib.hid (take_end hi hi40 hlt)
      have HFN : Hid (n = wrap64 (largeSum l)) := by rw [HN.out, HTE.out]; rfl
      by_cases hi1 : i < l.length
      · have hi3 : ¬ i < 40 := fun h => hlt ⟨hi1, h⟩
        clear hlt
        go_wp2
        all_goals
          go_ret
          exact ⟨ret_bool (by unfold largeB; rw [← HFN.out] <;> (go_light; simp; try omega)), HB.out⟩
      · clear hlt
        go_wp2
        all_goals
          go_ret
          exact ⟨ret_bool (by unfold largeB; rw [← HFN.out] <;> (go_light; simp; try omega)), HB.out⟩
end Go.Proofs.YtnhmbflinbfeoaaDoor
