/- The walk of lay.At. The walk of aediculelaw08.Large. The walk of aediculelaw13.Large. The walk of WhereEach. The walks of cmp.Compare at int, of cmp.Or, and of reach's order. -/
import Derived.Test.YtdjgkmpjhpnkeaaGreatDoorBd07
import Derived.Test.YtdjgkmpjhpnkeaaGreatDoorRows
import Derived.Test.YtdjgkmpjhpnkeaaGreatDoorBd02
import Derived.WalkLawsBesides
import Derived.Lib.Hide
import Derived.Deep.Light
import Derived.Handy
import Derived.Test.YtdjgkmpjhpnkeaaGreatDoorBd20
import Derived.Test.YtdjgkmpjhpnkeaaGreatDoorBd26
import Derived.Test.YtdjgkmpjhpnkeaaGreatDoorBd29
import Derived.Test.YtdjgkmpjhpnkeaaGreatDoorBd27
import Derived.Test.YtdjgkmpjhpnkeaaGreatDoorBd28
import Derived.Test.YtdjgkmpjhpnkeaaGreatDoorBd30
import Derived.Test.YtdjgkmpjhpnkeaaGreatDoorBd05
import Derived.Test.YtdjgkmpjhpnkeaaGreatDoorBd03
import Derived.Test.YtdjgkmpjhpnkeaaGreatDoorProg
import Derived.Deep.RegionHeld3
import Derived.Sort.Grow
import Derived.Deep.QuietTactic
import Derived.BigQuiet
import Derived.Outline
import Derived.StillTailTactics
namespace Go.Proofs.YtdjgkmpjhpnkeaaGreatDoor
open Go.RowKit Go.Maps Go.WideMaps
def AtPost (w : World) (r : GP × Int × Bool) (e : Ending) (w' : World) : Prop := e = .returned (.tuple #[.agg #[.int .i64 r.1.1, .int .i64 r.1.2], .int .u32 r.2.1, .bool r.2.2]) ∧ Below w.heap.size w w'
set_option maxRecDepth 100000 in
set_option maxHeartbeats 2000000 in
theorem layAt_any (v v2 : Value) (l : List GObj) (wh : List GAddr) (addr : Int) (w : World) (h : ObjsAt w v l) (h2 : RowAt 3 AddrR w v2 wh) (ha : 0 ≤ addr) (ha1 : addr ≤ 4294967295) :
    Calls Tryz.prog 25 #[v, v2, .int .u32 addr] w (AtPost w (layAt l wh addr)) := by
  have HO := Lib.hid h
  obtain ⟨p, cap, b, o, rfl, hcap, hmax, -, -⟩ := h
  obtain ⟨p2, cap2, b2, o2, rfl, hcap2, hmax2, hp2, hc2⟩ := h2
  have HP := Lib.hid hp2; clear hp2
  have HC := Lib.hid hc2; clear hc2
  go_enter Tryz.func25, Tryz.ntmps25
  go_wp2
  generalize hw0 : w.alloc (.cells #[.int .i64 0, .int .i64 0] 63) = w0
  have HB0 : Hid (Below w.heap.size w w0) := by subst hw0; exact alloc_old w _
  have hz0 : w.heap.size < w0.heap.size := by subst hw0; simp
  have HQ : Hid (w0.cell? ⟨w.heap.size, 0, none⟩ = some (.int .i64 0) ∧ w0.cell? ⟨w.heap.size, 1, none⟩ = some (.int .i64 0) ∧ w0.frozen? ⟨w.heap.size, 0, none⟩ = false ∧ w0.frozen? ⟨w.heap.size, 1, none⟩ = false) := by
    subst hw0; refine ⟨?_, ?_, ?_, ?_⟩ <;> simp [go_sem]
  clear hw0
  go_loopw [15] (fun v15 wr => ∃ k : Nat, k ≤ wh.length ∧ v15 = .int .i64 k ∧ (wh.take k).all (fun x => !atHit l addr x) = true ∧ Below w0.heap.size w0 wr) (fun v15 _ => wh.length - (intOf v15).toNat)
  case atStart => exact ⟨0, Nat.zero_le _, rfl, rfl, Below.refl _ _⟩
  case round =>
    obtain ⟨k, hk, rfl, hall, hbel⟩ := hrel
    have HA := Lib.hid hall; clear hall
    have HB := Lib.hid hbel; clear hbel
    have HW : Hid (Below w.heap.size w wr) := HB0.out.trans (HB.out.mono HB0.out.size)
    have r0 := cell_keep HB.out hz0 HQ.out.1
    have r1 := cell_keep HB.out hz0 HQ.out.2.1
    have f0 : wr.frozen? ⟨w.heap.size, 0, none⟩ = false := by rw [HB.out.frozen hz0]; exact HQ.out.2.2.1
    have f1 : wr.frozen? ⟨w.heap.size, 1, none⟩ = false := by rw [HB.out.frozen hz0]; exact HQ.out.2.2.2
    have zr : w.heap.size < wr.heap.size := size_keep HB.out hz0
    by_cases hlt : k < wh.length
    · obtain rfl := HP.out (by omega)
      obtain ⟨g0, g1, g2, g3, g4, g5⟩ := addrR_keeps _ _ _ _ _ HW.out (HC.out k hlt)
      generalize hx : wh[k] = x at g1 g2 g3 g4 g5
      have HX := Lib.hid hx; clear hx
      obtain ⟨x1, x2, x3⟩ := x
      simp only [] at g1 g2 g3 g4 g5
      have HCON := Lib.hid (laySym_any _ l (x1, x2) (wr.alloc (.cells #[.int .i64 x1, .int .i64 x2, .int .u32 x3] 133)) (ObjsAt.keep (HW.out.alloc HW.out.size _) HO.out))
      simp only [] at HCON
      go_wp2_with fail
      refine HCON.out.mono ?_
      clear HCON
      rintro en w4 ⟨hsp, hB4⟩
      have k0 : w4.cell? ⟨wr.heap.size, 0, none⟩ = some (.int .i64 x1) := by rw [hB4.cell (by simp)]; simp [go_sem]
      have k1 : w4.cell? ⟨wr.heap.size, 1, none⟩ = some (.int .i64 x2) := by rw [hB4.cell (by simp)]; simp [go_sem]
      have k2 : w4.cell? ⟨wr.heap.size, 2, none⟩ = some (.int .u32 x3) := by rw [hB4.cell (by simp)]; simp [go_sem]
      have z4 : wr.heap.size < w4.heap.size := by have := hB4.size; simp at this; omega
      have HB4 : Hid (Below wr.heap.size wr w4) := (alloc_old wr _).trans (hB4.mono (by simp))
      replace r0 := cell_keep HB4.out zr r0
      replace r1 := cell_keep HB4.out zr r1
      replace f0 : w4.frozen? ⟨w.heap.size, 0, none⟩ = false := by rw [HB4.out.frozen zr]; exact f0
      replace f1 : w4.frozen? ⟨w.heap.size, 1, none⟩ = false := by rw [HB4.out.frozen zr]; exact f1
      clear hB4 g1 g2 g3
      have z04 : w.heap.size < w4.heap.size := by omega
      cases hs : symAt l (x1, x2) with
      | none =>
        rw [hs] at hsp
        simp only [] at hsp
        subst hsp
        have HNH : Hid (atHit l addr ⟨x1, x2, x3⟩ = false) := by simp [Hid, atHit, hs]
        have HST := Lib.hid (take_all_snoc hlt HX.out HA.out (show (!atHit l addr ⟨x1, x2, x3⟩) = true by rw [HNH.out]; rfl))
        clear hs
        go_wp2
        go_roundw
        case rel => exact ⟨k + 1, by omega, by go_num, HST.out, (HB.out.trans (HB4.out.mono HB.out.size)).alloc (Nat.le_trans HB.out.size HB4.out.size) _⟩
        case measure => simp [intOf]; omega
      | some s =>
        rw [hs] at hsp
        obtain ⟨vr, vn, rfl, hin⟩ := hsp
        obtain ⟨p1, q1, p3, q3, rfl, rfl⟩ := hin.shape
        have hsz := hin.2.2.2.2.1
        clear hin
        have HHIT : Hid (atHit l addr ⟨x1, x2, x3⟩ = (decide (x3 ≤ addr) && decide (addr - x3 < s.size))) := by simp [Hid, atHit, hs]
        obtain ⟨yn, yb, yk, ys, yy, yr, yt⟩ := s
        simp only [symV] at HHIT hsz ⊢
        clear hs
        by_cases c1 : x3 ≤ addr
        · have d1 : decide (x3 ≤ addr) = true := by simpa using c1
          by_cases c2 : addr - x3 < ys
          · have d2 : decide (addr - x3 < ys) = true := by simpa using c2
            have HF : Hid (layAt l wh addr = ((x1, x2), addr - x3, true)) := by
              have h1 : wh.find? (atHit l addr) = some ⟨x1, x2, x3⟩ := by
                rw [List.find?_eq_some_iff_getElem]
                refine ⟨by rw [HHIT.out, d1, d2]; rfl, k, hlt, HX.out, fun j hj => ?_⟩
                have := List.all_eq_true.1 HA.out (wh[j]'(by omega)) (List.mem_iff_getElem.2 ⟨j, by simp; omega, by simp⟩)
                simpa using this
              unfold layAt; rw [Hid, h1]
            go_wp2
            go_region
            all_goals
              go_wp2
              refine bodyPost_ret (v := .tuple #[.agg #[.int .i64 x1, .int .i64 x2], .int .u32 (addr - x3), .bool true]) (by simp [results, Tryz.results25, go_sem, *]) rfl ?_
              rw [HF.out]
              exact ⟨rfl, ((((HW.out.trans (HB4.out.mono HW.out.size)).setCell (by simp) _).setCell (by simp) _).alloc (by simp; omega) _).drew⟩
          · have d2 : decide (addr - x3 < ys) = false := by simpa using c2
            have HST := Lib.hid (take_all_snoc hlt HX.out HA.out (show (!atHit l addr ⟨x1, x2, x3⟩) = true by rw [HHIT.out, d2]; simp))
            go_wp2
            go_roundw
            case rel => exact ⟨k + 1, by omega, by go_num, HST.out, (HB.out.trans (HB4.out.mono HB.out.size)).alloc (Nat.le_trans HB.out.size HB4.out.size) _⟩
            case measure => simp [intOf]; omega
        · have d1 : decide (x3 ≤ addr) = false := by simpa using c1
          have HST := Lib.hid (take_all_snoc hlt HX.out HA.out (show (!atHit l addr ⟨x1, x2, x3⟩) = true by rw [HHIT.out, d1]; simp))
          go_wp2
          go_roundw
          case rel => exact ⟨k + 1, by omega, by go_num, HST.out, (HB.out.trans (HB4.out.mono HB.out.size)).alloc (Nat.le_trans HB.out.size HB4.out.size) _⟩
          case measure => simp [intOf]; omega
    · have HF : Hid (layAt l wh addr = ((0, 0), 0, false)) := by
        have h1 := (findIdxA_none (all_end hlt HA.out)).2
        unfold layAt; rw [Hid, h1]
      go_wp2
      refine bodyPost_ret (v := .tuple #[.agg #[.int .i64 0, .int .i64 0], .int .u32 0, .bool false]) (by simp [results, Tryz.results25, go_sem, *]) rfl ?_
      rw [HF.out]
      exact ⟨rfl, (HW.out.setCell (by simp) _).setCell (by simp) _⟩
end Go.Proofs.YtdjgkmpjhpnkeaaGreatDoor
namespace Go.Proofs.YtdjgkmpjhpnkeaaGreatDoor
open Go.RowKit
set_option maxRecDepth 100000 in
set_option maxHeartbeats 2000000 in
theorem large_any (v : Value) (l : List GObj) (w : World) (h : ObjsAt w v l) :
    Calls Tryz.prog 48 #[v] w fun e w' => e = .returned (.bool (largeB l)) ∧ Below w.heap.size w w' := by
  obtain ⟨p, cap, b, o, rfl, hcap, hmax, hp, hc⟩ := h
  have HC := Lib.hid hc; clear hc
  have HP := Lib.hid hp; clear hp
  go_enter Tryz.func48, Tryz.ntmps48
  go_wp2
  go_loopw [3, 4] (fun v3 v4 wr => ∃ (i : Nat) (n : Int), i ≤ l.length ∧ i ≤ 40 ∧ v4 = .int .i64 i ∧ v3 = .int .i64 n ∧ n = wrap64 (sumI objS (l.take i)) ∧ Below w.heap.size w wr) (fun _ v4 _ => l.length - (intOf v4).toNat)
  case atStart => exact ⟨0, 0, Nat.zero_le _, by omega, rfl, rfl, by simp [sumI, wrap64], Below.refl _ _⟩
  case round =>
    obtain ⟨i, n, hi, hi40, rfl, rfl, hn, hbel⟩ := hrel
    have HN := Lib.hid hn; clear hn
    have HB := Lib.hid hbel; clear hbel
    by_cases hlt : i < l.length ∧ i < 40
    · obtain ⟨hlt1, hlt2⟩ := hlt
      obtain rfl := HP.out (by omega)
      obtain ⟨vs, g0, g1, g2, hin⟩ := HC.out i hlt1
      replace g2 := cell_keep HB.out g0 g2
      have g0' := size_keep HB.out g0
      have c2 : Hid (w.cell? ⟨b, o + i * 2 + 1, none⟩ = some vs) := by have := g2; rwa [HB.out.cell (p := ⟨b, o + i * 2 + 1, none⟩) g0] at this
      generalize hx : l[i] = x at g1 hin
      obtain ⟨xn, xs⟩ := x
      simp only [] at g1 hin
      have HX := Lib.hid hx; clear hx
      obtain ⟨⟨pS, capS, bS, oS, rfl, hcapS, hmaxS, hpS, hcS⟩, hnmx⟩ := hin
      have HCS := Lib.hid hcS; clear hcS
      have HPS := Lib.hid hpS; clear hpS
      clear g1
      go_wp2
      obtain ⟨wo, rfl⟩ : ∃ wo : World, wo = wr := ⟨_, rfl⟩
      go_loopw [3, 5] (fun v3 v5 wr => ∃ (k : Nat) (m : Int), k ≤ xs.length ∧ k ≤ 200 ∧ v5 = .int .i64 k ∧ v3 = .int .i64 m ∧ m = wrap64 (sumI objS (l.take i) + xs.length + sumI symS (xs.take k)) ∧ Below w.heap.size w wr) (fun _ v5 _ => xs.length - (intOf v5).toNat)
      case atStart => exact ⟨0, _, Nat.zero_le _, by omega, rfl, rfl, by rw [HN.out, wrap64_add_left]; simp [sumI], HB.out⟩
      case round =>
        clear g2 g0' HB
        obtain ⟨k, m, hk, hk2, rfl, rfl, hm, hbel⟩ := hrel
        have HM := Lib.hid hm; clear hm
        have HB := Lib.hid hbel; clear hbel
        have g2 := cell_keep HB.out g0 c2.out
        have g0' := size_keep HB.out g0
        by_cases hlk : k < xs.length ∧ k < 200
        · obtain ⟨hlk1, hlk2⟩ := hlk
          obtain rfl := HPS.out (by omega)
          obtain ⟨vr, vn, s0, s1, s2, s3, s4, s5, s6, s7, hsin⟩ := symR_keeps _ _ _ _ _ HB.out (HCS.out k hlk1)
          generalize hy : xs[k] = y at s1 s2 s3 s4 s5 s6 s7 hsin
          obtain ⟨yn, yb, yk, ys, yy, yr, yt⟩ := y
          simp only [] at s1 s2 s3 s4 s5 s6 s7 hsin
          have HY := Lib.hid hy; clear hy
          obtain ⟨⟨pR, capR, bR, oR, rfl, hcapR, hmaxR, hpR, hcR⟩, ⟨pT, capT, bT, oT, rfl, hcapT, hmaxT, -, -⟩, -, -, -, hny, hby⟩ := hsin
          simp only [] at hny hby hmaxR hmaxT
          have HCR := Lib.hid hcR; clear hcR
          have HPR := Lib.hid hpR; clear hpR
          have HBW := Lib.hid (HB.out.alloc HB.out.size (.cells #[.string yn, .int .u8 yb, .int .u8 yk, .int .u32 ys, .string yy, .slice pR yr.length capR, .slice pT yt.length capT] 72))
          go_wp2
          go_loop [3, 7] (fun v3 v7 => ∃ (j : Nat) (q : Int), j ≤ yr.length ∧ j ≤ 1100 ∧ v7 = .int .i64 j ∧ v3 = .int .i64 q ∧ q = wrap64 (sumI objS (l.take i) + xs.length + sumI symS (xs.take k) + ((yr.length : Int) / 4 + (yt.length : Int) / 4 + (yy.size : Int) / 64 + (yn.size : Int) / 16) + sumI relS (yr.take j))) (fun _ v7 => yr.length - (intOf v7).toNat)
          case atStart =>
            refine ⟨0, _, Nat.zero_le _, by omega, rfl, rfl, ?_⟩
            rw [HM.out, wrap5]
            simp only [sumI, List.take_zero]
            congr 1; omega
          case round =>
            obtain ⟨j, q, hj, hj2, rfl, rfl, hq⟩ := hrel
            have HQ := Lib.hid hq; clear hq
            by_cases hlj : j < yr.length ∧ j < 1100
            · obtain ⟨hlj1, hlj2⟩ := hlj
              obtain rfl := HPR.out (by omega)
              obtain ⟨r0, r1, r2, r3, r4, r5, r6, r7, r8⟩ := HCR.out j hlj1
              generalize hz : yr[j] = z at r1 r2 r3 r4 r5 r6 r7 r8
              obtain ⟨zo, zk, zn, za⟩ := z
              simp only [] at r1 r2 r3 r4 r5 r6 r7 r8
              have HZ := Lib.hid hz; clear hz
              go_wp2
              go_round
              case rel =>
                refine ⟨j + 1, _, by omega, by omega, by go_num, rfl, ?_⟩
                rw [HQ.out, wrap64_add_left, sumI_take_succ relS hlj1 HZ.out]
                simp only [relS]
                congr 1; omega
              case measure => simp [intOf]; omega
            · have HTE := Lib.hid (take_end hj hj2 hlj)
              have HFQ : Hid (q = wrap64 (sumI objS (l.take i) + xs.length + sumI symS (xs.take (k + 1)))) := by
                rw [HQ.out, HTE.out, sumI_take_succ symS hlk1 HY.out]
                simp only [symS]
                congr 1; omega
              by_cases hj1 : j < yr.length
              · have hj3 : ¬ j < 1100 := fun h => hlj ⟨hj1, h⟩
                clear hlj
                go_wp2
                go_roundw
                case rel => exact ⟨k + 1, _, by omega, by omega, by go_num, rfl, HFQ.out, HBW.out⟩
                case measure => simp [intOf]; omega
              · clear hlj
                go_wp2
                go_roundw
                case rel => exact ⟨k + 1, _, by omega, by omega, by go_num, rfl, HFQ.out, HBW.out⟩
                case measure => simp [intOf]; omega
        · have HTE := Lib.hid (take_end hk hk2 hlk)
          have HFM : Hid (m = wrap64 (sumI objS (l.take (i + 1)))) := by
            rw [HM.out, HTE.out, sumI_take_succ objS hlt1 HX.out]
            simp only [objS]
            congr 1; omega
          by_cases hk1 : k < xs.length
          · have hk3 : ¬ k < 200 := fun h => hlk ⟨hk1, h⟩
            clear hlk
            go_wp2
            go_roundw
            case rel => exact ⟨i + 1, _, by omega, by omega, by go_num, rfl, HFM.out, HB.out⟩
            case measure => simp [intOf]; omega
          · clear hlk
            go_wp2
            go_roundw
            case rel => exact ⟨i + 1, _, by omega, by omega, by go_num, rfl, HFM.out, HB.out⟩
            case measure => simp [intOf]; omega
    · have HTE := Lib.hid (take_end hi hi40 hlt)
      have HFN : Hid (n = wrap64 (largeSum l)) := by rw [HN.out, HTE.out]; rfl
      by_cases hi1 : i < l.length
      · have hi3 : ¬ i < 40 := fun h => hlt ⟨hi1, h⟩
        clear hlt
        go_wp2
        all_goals
          go_ret
          exact ⟨ret_bool (by unfold largeB; rw [← HFN.out] <;> (go_light; simp; try omega)), HB.out⟩
      · clear hlt
        go_wp2
        all_goals
          go_ret
          exact ⟨ret_bool (by unfold largeB; rw [← HFN.out] <;> (go_light; simp; try omega)), HB.out⟩
end Go.Proofs.YtdjgkmpjhpnkeaaGreatDoor
namespace Go.Proofs.YtdjgkmpjhpnkeaaGreatDoor
open Go.RowKit
def relN (s : GSym) : Int := s.rels.length
def objN (o : GObj) : Int := (o.syms.length : Int) + sumI relN (o.syms.take 70)
def sum13 (l : List GObj) : Int := sumI objN (l.take 20)
def large13B (l : List GObj) : Bool := largeB l || decide (100 < sum13 l)
set_option maxRecDepth 100000 in
set_option maxHeartbeats 2000000 in
theorem large13_any (v : Value) (l : List GObj) (w : World) (h : ObjsAt w v l) :
    Calls Tryz.prog 10 #[v] w fun e w' => e = .returned (.bool (large13B l)) ∧ Below w.heap.size w w' := by
  have HL := Lib.hid (large_any v l w h)
  obtain ⟨p, cap, b, o, rfl, hcap, hmax, hp, hc⟩ := h
  have HC := Lib.hid hc; clear hc
  have HP := Lib.hid hp; clear hp
  go_enter Tryz.func10, Tryz.ntmps10
  go_wp2
  go_loop [3, 4] (fun v3 v4 => ∃ (i : Nat) (n : Int), i ≤ l.length ∧ i ≤ 20 ∧ v4 = .int .i64 i ∧ v3 = .int .i64 n ∧ n = sumI objN (l.take i) ∧ 0 ≤ n ∧ n ≤ i * 10000000000000000) (fun _ v4 => l.length - (intOf v4).toNat)
  case atStart => exact ⟨0, 0, Nat.zero_le _, by omega, rfl, rfl, by simp [sumI], by omega, by omega⟩
  case round =>
    obtain ⟨i, n, hi, hi40, rfl, rfl, hn, hn0, hn1⟩ := hrel
    have HN := Lib.hid hn; clear hn
    by_cases hlt : i < l.length ∧ i < 20
    · obtain ⟨hlt1, hlt2⟩ := hlt
      obtain rfl := HP.out (by omega)
      obtain ⟨vs, g0, g1, g2, hin⟩ := HC.out i hlt1
      generalize hx : l[i] = x at g1 hin
      obtain ⟨xn, xs⟩ := x
      simp only [] at g1 hin
      have HX := Lib.hid hx; clear hx
      obtain ⟨⟨pS, capS, bS, oS, rfl, hcapS, hmaxS, hpS, hcS⟩, hnmx⟩ := hin
      have HCS := Lib.hid hcS; clear hcS
      have HPS := Lib.hid hpS; clear hpS
      clear g1
      simp only [] at hmaxS hcapS
      go_wp2
      go_loop [3, 5] (fun v3 v5 => ∃ (k : Nat) (m : Int), k ≤ xs.length ∧ k ≤ 70 ∧ v5 = .int .i64 k ∧ v3 = .int .i64 m ∧ m = n + xs.length + sumI relN (xs.take k) ∧ 0 ≤ m ∧ m ≤ n + xs.length + k * 140737488355328) (fun _ v5 => xs.length - (intOf v5).toNat)
      case atStart => exact ⟨0, _, Nat.zero_le _, by omega, rfl, rfl, by simp [sumI], by omega, by omega⟩
      case round =>
        obtain ⟨k, m, hk, hk2, rfl, rfl, hm, hm0, hm1⟩ := hrel
        have HM := Lib.hid hm; clear hm
        by_cases hlk : k < xs.length ∧ k < 70
        · obtain ⟨hlk1, hlk2⟩ := hlk
          obtain rfl := HPS.out (by omega)
          obtain ⟨vr, vn, s0, s1, s2, s3, s4, s5, s6, s7, hsin⟩ := HCS.out k hlk1
          generalize hy : xs[k] = y at s1 s2 s3 s4 s5 s6 s7 hsin
          obtain ⟨yn, yb, yk, ys, yy, yr, yt⟩ := y
          simp only [] at s1 s2 s3 s4 s5 s6 s7 hsin
          have HY := Lib.hid hy; clear hy
          obtain ⟨⟨pR, capR, bR, oR, rfl, hcapR, hmaxR, -, -⟩, -⟩ := hsin
          simp only [] at hmaxR s6
          clear s1 s2 s3 s4 s5 s7
          go_wp2
          go_round
          case rel =>
            refine ⟨k + 1, _, by omega, by omega, by go_num, rfl, ?_, by omega, by omega⟩
            rw [HM.out, sumI_take_succ relN hlk1 HY.out]
            simp only [relN]; omega
          case measure => simp [intOf]; omega
        · have HFM : Hid (m = sumI objN (l.take (i + 1))) := by
            rw [HM.out, take_end hk hk2 hlk, sumI_take_succ objN hlt1 HX.out, HN.out]
            have he : objN ⟨xn, xs⟩ = (xs.length : Int) + sumI relN (xs.take 70) := rfl
            rw [he]; unfold Hid; omega
          by_cases hk1 : k < xs.length
          · have hk3 : ¬ k < 70 := fun h => hlk ⟨hk1, h⟩
            clear hlk
            go_wp2
            go_round
            case rel => exact ⟨i + 1, _, by omega, by omega, by go_num, rfl, HFM.out, by omega, by omega⟩
            case measure => simp [intOf]; omega
          · clear hlk
            go_wp2
            go_round
            case rel => exact ⟨i + 1, _, by omega, by omega, by go_num, rfl, HFM.out, by omega, by omega⟩
            case measure => simp [intOf]; omega
    · have HF : Hid (n = sum13 l) := by rw [Hid, HN.out, take_end hi hi40 hlt]; rfl
      have HB : Hid (large13B l = (largeB l || decide (100 < n))) := by rw [Hid, HF.out]; rfl
      cases hLB : largeB l with
      | true =>
        rw [hLB] at HL HB
        clear hLB
        by_cases hi1 : i < l.length
        · have hi3 : ¬ i < 20 := fun h => hlt ⟨hi1, h⟩
          clear hlt
          go_wp2_with (go_at_call 48; refine HL.out.mono ?_; rintro e w1 ⟨rfl, hB1⟩)
          go_ret
          exact ⟨ret_bool (by rw [HB.out]; rfl), hB1⟩
        · clear hlt
          go_wp2_with (go_at_call 48; refine HL.out.mono ?_; rintro e w1 ⟨rfl, hB1⟩)
          go_ret
          exact ⟨ret_bool (by rw [HB.out]; rfl), hB1⟩
      | false =>
        rw [hLB] at HL HB
        clear hLB
        by_cases hi1 : i < l.length
        · have hi3 : ¬ i < 20 := fun h => hlt ⟨hi1, h⟩
          clear hlt
          go_wp2_with (go_at_call 48; refine HL.out.mono ?_; rintro e w1 ⟨rfl, hB1⟩)
          all_goals
            go_ret
            exact ⟨ret_bool (by rw [HB.out]; simp [*]), hB1⟩
        · clear hlt
          go_wp2_with (go_at_call 48; refine HL.out.mono ?_; rintro e w1 ⟨rfl, hB1⟩)
          all_goals
            go_ret
            exact ⟨ret_bool (by rw [HB.out]; simp [*]), hB1⟩
end Go.Proofs.YtdjgkmpjhpnkeaaGreatDoor
namespace Go.Proofs.YtdjgkmpjhpnkeaaGreatDoor
open Go.RowKit Go.Maps Go.WideMaps
theorem small_ofT {w : World} {v : Value} {l : List GObj} (h : ObjsAt w v l) (hL : large13B l = false) : mayAll l = true → ∀ o ∈ l, ∀ s ∈ o.syms, s.bytes.size < 4294967296 := fun hm => by
  unfold large13B at hL
  simp only [Bool.or_eq_false_iff] at hL
  refine small_bytes32 hL.1 (objsSz_of h) fun o ho => weakObj_of (.inl ?_)
  simp only [mayAll, Bool.and_eq_true, List.all_eq_true] at hm
  exact hm.2 o ho
/-- a box that holds an image -/
def BoxT (w : World) (b : Nat) (x : GLink) (ve vp vs va : Value) : Prop :=
  w.heap[b]? = some (.cells #[.int .u32 x.man.pages, ve, vp, .bool x.man.cons, .int .u32 x.entry, vs, va] 37 (0, 0)) ∧ LinkAt w x ve vp vs va
theorem BoxT.keep {w w' : World} {b : Nat} {x : GLink} {ve vp vs va : Value} (h : BoxT w b x ve vp vs va) (hb : Below w.heap.size w w') : BoxT w' b x ve vp vs va :=
  ⟨(hb.block b (Array.getElem?_eq_some_iff.1 h.1).1).trans h.1, h.2.keep hb⟩
theorem BoxT.new {w : World} {x : GLink} {ve vp vs va : Value} (h : LinkAt w x ve vp vs va) : BoxT (w.alloc (.cells #[.int .u32 x.man.pages, ve, vp, .bool x.man.cons, .int .u32 x.entry, vs, va] 37)) w.heap.size x ve vp vs va :=
  ⟨new_block w _, h.keep (alloc_old w _)⟩
theorem boxT_sevens {w : World} {b : Nat} {x : GLink} {ve vp vs va : Value} (h : BoxT w b x ve vp vs va) :
    w.cell? ⟨b, 0, none⟩ = some (.int .u32 x.man.pages) ∧ w.cell? ⟨b, 1, none⟩ = some ve ∧ w.cell? ⟨b, 2, none⟩ = some vp ∧ w.cell? ⟨b, 3, none⟩ = some (.bool x.man.cons) ∧ w.cell? ⟨b, 4, none⟩ = some (.int .u32 x.entry) ∧ w.cell? ⟨b, 5, none⟩ = some vs ∧ w.cell? ⟨b, 6, none⟩ = some va := sevens h.1
theorem putT_ok {T : List GTs} (h : tabOk T = true) : putT T = (bsOf (encTab T), 0) := by simp [putT, h]
theorem encTab_size {T : List GTs} (h : tabOk T = true) : (bsOf (encTab T)).size ≤ 140737488355328 := by
  have h1 : T.length ≤ 1024 := by
    simp only [tabOk, Bool.and_eq_true, decide_eq_true_eq] at h; exact h.2
  have h2 := encTab_le (t := T) fun s hs => by
    obtain ⟨i, hi, rfl⟩ := List.getElem_of_mem hs
    have := tabGo_at (tabOk_go h) i hi
    exact ⟨nameLe this.2.2.2.2.1, nameLe this.2.2.2.2.2.1⟩
  rw [bsOf_size]
  unfold encTab
  simp only [List.length_append, leB_length, magicT, List.length_cons, List.length_nil]
  omega
theorem getTV_ok {T : List GTs} (h : tabOk T = true) : getTV (bsOf (encTab T)) = (T, 0) := by
  unfold getTV
  rw [show (bsOf (encTab T)).data.toList = encTab T by simp [bsOf], getT_enc h]
set_option maxRecDepth 100000 in
set_option maxHeartbeats 4000000 in
theorem each_guard (v : Value) (l : List GObj) (nm : ByteArray) (ad inn : Int) (w : World) (h : ObjsAt w v l) (hn : nm.size ≤ 140737488355328) (hg : large13B l = true ∨ 1024 < nm.size) :
    Calls Tryz.prog 5 #[.string nm, v, .int .u32 ad, .int .u16 inn] w fun e w' => e = .returned (.bool true) ∧ Below w.heap.size w w' := by
  have HLG := Lib.hid (large13_any v l w h)
  obtain ⟨p, cap, rfl⟩ : ∃ (p : Option Addr) (cap : Nat), v = .slice p l.length cap := by obtain ⟨p, cap, b, o, rfl, _⟩ := h; exact ⟨p, cap, rfl⟩
  clear h
  by_cases hl : large13B l = true
  · rw [hl] at HLG
    clear hl hg
    go_enter Tryz.func5, Tryz.ntmps5
    go_wp2_with (first | (go_at_call 10; refine HLG.out.mono ?_; rintro e w1 ⟨rfl, hB1⟩) | (go_at_call 21; refine (alive34_any _).mono ?_; rintro e w2 ⟨rfl, hB2⟩))
    go_ret
    exact ⟨rfl, hB1.trans (hB2.mono hB1.size)⟩
  · have hl' : large13B l = false := by simpa using hl
    have hnm : 1024 < nm.size := by rcases hg with h1 | h1; exact absurd h1 hl; exact h1
    have hd : decide ((1024 : Int) < (nm.size : Int)) = true := by simp; omega
    have hd' : decide (1024 < nm.size) = true := by simp; omega
    rw [hl'] at HLG
    clear hl hl' hg
    go_enter Tryz.func5, Tryz.ntmps5
    go_wp2_with (first | (go_at_call 10; refine HLG.out.mono ?_; rintro e w1 ⟨rfl, hB1⟩) | (go_at_call 21; refine (alive34_any _).mono ?_; rintro e w2 ⟨rfl, hB2⟩))
    go_ret
    exact ⟨rfl, hB1.trans (hB2.mono hB1.size)⟩
theorem tab_shape {w : World} {v : Value} {T : List GTs} (h : TabAt w v T) : ∃ (p : Option Addr) (c : Nat), v = .slice p T.length c := by
  obtain ⟨p, c, _, _, rfl, -⟩ := h
  exact ⟨p, c, rfl⟩
set_option maxRecDepth 100000 in
set_option maxHeartbeats 8000000 in
theorem each_main (hsort : SortOk) (v : Value) (l : List GObj) (nm : ByteArray) (ad inn : Int) (w : World) (h : ObjsAt w v l) (hnm : nm.size ≤ 1024) (hL : large13B l = false) (had : 0 ≤ ad ∧ ad ≤ 4294967295) (hin : 0 ≤ inn ∧ inn ≤ 65535) :
    Calls Tryz.prog 5 #[.string nm, v, .int .u32 ad, .int .u16 inn] w fun e w' => e = .returned (.bool true) ∧ Below w.heap.size w w' := by
  have HSORT := Lib.hid hsort; clear hsort
  have HLG := Lib.hid (large13_any v l w h)
  rw [hL] at HLG
  have HB := Lib.hid (small_ofT h hL)
  have HO := Lib.hid h
  obtain ⟨p, cap, rfl⟩ : ∃ (p : Option Addr) (cap : Nat), v = .slice p l.length cap := by obtain ⟨p, cap, b, o, rfl, _⟩ := h; exact ⟨p, cap, rfl⟩
  have hd : decide ((1024 : Int) < (nm.size : Int)) = false := by simp; omega
  have hd' : decide (1024 < nm.size) = false := by simp; omega
  clear h hL
  go_enter Tryz.func5, Tryz.ntmps5
  go_wp2_with fail
  refine HLG.out.mono ?_
  rintro e w1 ⟨rfl, hB1⟩
  have HB1 := Lib.hid hB1; clear hB1 HLG
  go_wp2_with fail
  refine (full18_any HSORT.out _ l nm w1 (HO.out.keep HB1.out) (by omega) HB.out).mono ?_
  rintro e w2 ⟨r, hfu, ve, vp, vs, va, rfl, hla, hB2⟩
  obtain ⟨x1, x2, x3, x4, x5, x6, x7, x8, rfl, rfl, rfl, rfl⟩ := hla.shape
  have HFU := Lib.hid hfu
  have HB2 : Hid (Below w.heap.size w w2) := HB1.out.trans (hB2.mono HB1.out.size)
  have HBX := Lib.hid (BoxT.new hla)
  obtain ⟨⟨⟨rp, re, rq, rc⟩, ren, rs, ra⟩, rn, rcd⟩ := r
  simp only [] at HBX HFU
  have HBa : Hid (Below w2.heap.size w2 (w2.alloc (.cells #[.int .u32 rp, .slice x1 re.length x2, .slice x3 rq.length x4, .bool rc, .int .u32 ren, .slice x5 rs.length x6, .slice x7 ra.length x8] 37))) := alloc_old w2 _
  clear hla hB2 hfu HB1
  unfold linkV
  simp only []
  generalize hWa : (w2.alloc (.cells #[.int .u32 rp, .slice x1 re.length x2, .slice x3 rq.length x4, .bool rc, .int .u32 ren, .slice x5 rs.length x6, .slice x7 ra.length x8] 37)) = w3 at HBa HBX
  have HB3 : Hid (Below w.heap.size w w3) := HB2.out.trans (HBa.out.mono HB2.out.size)
  by_cases h0 : rcd = 0
  rotate_left
  · have h0b : (rcd != 0) = true := by simpa using h0
    go_wp2_with fail
    try rw [hWa]
    refine (alive34_any _).mono ?_
    rintro e w9 ⟨rfl, hB9⟩
    go_wp2
    go_ret
    exact ⟨rfl, HB3.out.trans (hB9.mono HB3.out.size)⟩
  subst h0
  obtain ⟨hal, pp, K, hky, hre⟩ := fuZ HFU.out rfl
  obtain ⟨wh, sp, hlay, hadr⟩ := linkZ (l := l) (nm := nm) (m := pp) (ps := (allK l).map toG) (by rw [← hre])
  rw [← hre] at hadr
  simp only [] at hadr
  subst hadr
  have HLAY := Lib.hid hlay
  have HAL : Hid (((allK l).map toG).length ≤ 1024) := by rw [Hid, List.length_map]; exact hal
  have HTB := Lib.hid (table_any l _ _ sp _ _ _ _ _ (.slice p l.length cap) w3 hlay HAL.out (HO.out.keep HB3.out) HBX.out.2 rfl)
  clear hal hky hre hlay HFU
  unfold linkV at HTB
  simp only [] at HTB
  obtain ⟨m0, m1, m2, m3, m4, m5, m6⟩ := boxT_sevens HBX.out
  simp only [] at m0 m3 m4
  have HXS := Lib.hid (show w2.heap.size < w3.heap.size by have := (Array.getElem?_eq_some_iff.1 HBX.out.1).1; exact this)
  have hxs := HXS.out
  have hm := And.intro m0 (And.intro m1 (And.intro m2 (And.intro m3 (And.intro m4 (And.intro m5 m6)))))
  subst hWa
  go_wp2_with fail
  refine HTB.out.mono ?_
  rintro e w4 ⟨T, tv, rfl, hta, hto, hB4⟩
  obtain ⟨pt, ct, rfl⟩ := tab_shape hta
  have HTA := Lib.hid hta
  have HTO := Lib.hid hto
  have HBX4 := Lib.hid (HBX.out.keep hB4)
  have HB4 : Hid (Below w.heap.size w w4) := HB3.out.trans (hB4.mono HB3.out.size)
  obtain ⟨hok, htl⟩ := tab_ok HLAY.out hto HAL.out
  have HOK := Lib.hid hok
  have HTL := Lib.hid htl
  have HCK := Lib.hid (whCheck_any _ T w4 hta)
  rw [hok] at HCK
  simp only [errB] at HCK
  rw [← htl]
  obtain ⟨-, -, -, -, -, -, b6⟩ := boxT_sevens HBX4.out
  rw [← htl] at b6
  clear hto hok htl hta m0 m1 m2 m3 m4 m5 m6 hm hxs HTB HBX hB4
  go_wp2_with fail
  refine HCK.out.mono ?_
  rintro e w5 ⟨rfl, hB5⟩
  have HTA5 := Lib.hid (TabAt.keep' hB5 HTA.out)
  have HBX5 := Lib.hid (HBX4.out.keep hB5)
  have HB5 : Hid (Below w.heap.size w w5) := HB4.out.trans (hB5.mono HB4.out.size)
  replace b6 := cell_keep hB5 (by exact World.block_lt_of_cell? w4 _ b6) b6
  have HAT := Lib.hid (layAt_any (.slice p l.length cap) (.slice x7 ra.length x8) l ra ad w5 (HO.out.keep HB5.out) HBX5.out.2.2.2.1 had.1 had.2)
  obtain ⟨r5, hat⟩ : ∃ r, layAt l ra ad = r := ⟨_, rfl⟩
  rw [hat, ← HTL.out] at HAT
  obtain ⟨⟨pa, pb⟩, off, is⟩ := r5
  unfold AtPost at HAT
  simp only [] at HAT
  have HATE := Lib.hid hat
  clear hat hB5 HCK HTA HBX4 HB4
  go_wp2_with fail
  refine HAT.out.mono ?_
  rintro e w6 ⟨rfl, hB6⟩
  have HTA6 := Lib.hid (TabAt.keep' hB6 HTA5.out)
  have HB6 : Hid (Below w.heap.size w w6) := HB5.out.trans (hB6.mono HB5.out.size)
  clear hB6 HAT HTA5 HBX5 HB5 b6
  obtain ⟨w7, hw7⟩ : ∃ w7, w7 = w6.alloc (.cells #[.int .i64 pa, .int .i64 pb] 63) := ⟨_, rfl⟩
  have hB7 : Below w6.heap.size w6 w7 := by rw [hw7]; exact alloc_old w6 _
  have HPB : Hid (w7.heap[w6.heap.size]? = some (.cells #[.int .i64 pa, .int .i64 pb] 63 (0, 0))) := by rw [hw7]; exact new_block w6 _
  have HTA7 := Lib.hid (TabAt.keep' hB7 HTA6.out)
  have HB7 : Hid (Below w.heap.size w w7) := HB6.out.trans (hB7.mono HB6.out.size)
  have HZ7 : Hid (w6.heap.size < w7.heap.size) := by rw [hw7, Hid]; simp
  have HFD := Lib.hid (whFind_any _ T ad w7 HTA7.out had)
  unfold FindPost at HFD
  go_wp2_with fail
  rw [← hw7]
  clear hw7 hB7 HTA6 HB6
  refine HFD.out.mono ?_
  rintro e w8 ⟨rfl, hB8⟩
  have HTA8 := Lib.hid (TabAt.keep' hB8 HTA7.out)
  have HB8 : Hid (Below w.heap.size w w8) := HB7.out.trans (hB8.mono HB7.out.size)
  have HPB8 := Lib.hid ((hB8.block _ HZ7.out).trans HPB.out)
  have HZ8 : Hid (w6.heap.size < w8.heap.size) := Nat.lt_of_lt_of_le HZ7.out hB8.size
  clear hB8 HFD HTA7 HB7 HPB HZ7
  obtain ⟨i8, o8, s8, hfd8⟩ : ∃ (i : Nat) (o : GObj) (s : GSym), (is = false ∧ findT T ad = (0, 0, false)) ∨ (is = true ∧ ∃ hi : i < T.length, findT T ad = (i, off, true) ∧ l[pa.toNat]? = some o ∧ o.syms[pb.toNat]? = some s ∧ 0 ≤ pa ∧ 0 ≤ pb ∧ T[i].name = s.name ∧ T[i].object = o.name) := by
    cases his : is with
    | false => subst his; exact ⟨0, ⟨emptyB, []⟩, ⟨emptyB, 0, 0, 0, emptyB, [], []⟩, .inl ⟨rfl, each_miss HLAY.out HTO.out HATE.out⟩⟩
    | true =>
      subst his
      obtain ⟨i, o, s, hi, h⟩ := each_hit HLAY.out HTO.out HAL.out HATE.out
      exact ⟨i, o, s, .inr ⟨rfl, hi, h⟩⟩
  rcases hfd8 with ⟨rfl, hf⟩ | ⟨rfl, hi, hf, h1, h2, h3, h4, h5, h6⟩
  case' inl =>
    rw [hf]
    simp only []
    clear HATE hf
    go_wp2_with fail
    go_cut [143] (fun v143 wx => v143 = .bool false ∧ Below w8.heap.size w8 wx)
    case' first =>
      refine wp_region_below rfl (by kernel_rfl) ?_
      repeat (first | go_big_quiet_skip | quiet_step (fail))
      refine wpQuiet_nil ?_
      rintro w9 hx9
      go_wp2_with fail
      go_meet
      exact ⟨rfl, bw_of hx9⟩
  case' inr =>
    rw [hf]
    simp only []
    clear HATE hf
    obtain ⟨xa, rfl⟩ := Int.eq_ofNat_of_zero_le h3
    obtain ⟨xb, rfl⟩ := Int.eq_ofNat_of_zero_le h4
    simp only [Int.toNat_natCast] at h1 h2
    obtain ⟨_, _, bt, ot, he, -, -, hpt, hct⟩ := HTA8.out
    cases he
    cases hpt (by omega)
    obtain ⟨t0, t1, t2, -⟩ := hct i8 hi
    rw [h5] at t1
    rw [h6] at t2
    obtain ⟨ha, hae⟩ := List.getElem?_eq_some_iff.1 h1
    obtain ⟨hb, hbe⟩ := List.getElem?_eq_some_iff.1 h2
    obtain ⟨_, _, bo, oo, heo, -, -, hpo, hco⟩ := HO.out.keep HB8.out
    cases heo
    cases hpo (by omega)
    obtain ⟨vs, i0, i1, i2, hin2, -⟩ := hco xa ha
    rw [hae] at i1 hin2
    obtain ⟨_, _, bs, os, rfl, -, -, hps, hcs⟩ := hin2
    cases hps (by omega)
    obtain ⟨vr, vn, j0, j1, -⟩ := hcs xb hb
    rw [hbe] at j1
    have hhas : hasR l (xa : Int) (xb : Int) = true := by simp [hasR, h1, hb]
    have HHA : Hid (∀ z : BW w8, Calls Tryz.prog 27 #[.slice (some ⟨bo, oo, none⟩) l.length cap, .agg #[.int .i64 (xa : Int), .int .i64 (xb : Int)]] z.u fun e w' => e = .returned (.bool true) ∧ ∃ y : BW w8, w' = y.u) := fun z => calls_below (by
      have := has_any _ l xa xb z.u ((HO.out.keep HB8.out).keep z.b)
      rw [hhas] at this
      exact this)
    have hi' : ¬ (T.length : Int) ≤ (i8 : Int) := by omega
    have c0 := bw_cell HZ8.out (Lib.cell_of_heap HPB8.out 0)
    have c1 := bw_cell HZ8.out (Lib.cell_of_heap HPB8.out 1)
    have c2 := bw_cell t0 t1
    have c3 := bw_cell t0 t2
    have c4 := bw_cell i0 i1
    have c5 := bw_cell i0 i2
    have c6 := bw_cell j0 j1
    clear hcs hco hct hpt hpo hps hae hbe h1 h2 h3 h4 h5 h6 t0 t1 t2 i0 i1 i2 j0 j1 hhas
    go_wp2_with fail
    go_cut [143] (fun v143 wx => v143 = .bool false ∧ Below w8.heap.size w8 wx)
    case' first =>
      refine wp_region_below rfl (by kernel_rfl) ?_
      repeat (first | go_big_quiet_skip | quiet_step ((go_at_call 27; exact HHA.out _)))
      refine wpQuiet_nil ?_
      rintro w9 hx9
      go_wp2_with fail
      go_meet
      exact ⟨by rw [show decide ((i8 : Int) < 0) = false from decide_eq_false (by omega), show decide (T.length ≤ i8) = false from decide_eq_false (by omega)]; rfl, bw_of hx9⟩
    case' rest => clear c0 c1 c2 c3 c4 c5 c6 HHA hi hi'
  all_goals
    obtain ⟨rfl, hbx⟩ := hcut
    have HB89 := Lib.hid hbx; clear hbx
    have HTA9 := Lib.hid (TabAt.keep' HB89.out HTA8.out)
    have HB9 : Hid (Below w.heap.size w wc) := HB8.out.trans (HB89.out.mono HB8.out.size)
    clear HTA8 HB8 HB89 HPB8 HZ8
    go_wp2_with fail
    have htl1 : T.length ≤ 1024 := by
      have h9 := HOK.out
      simp only [tabOk, Bool.and_eq_true, decide_eq_true_eq] at h9
      exact h9.2
    go_loopw [20] (fun v20 wr => ∃ k : Nat, v20 = .int .i64 k ∧ k ≤ T.length ∧ Below wc.heap.size wc wr) (fun v20 _ => T.length - (intOf v20).toNat)
    case atStart => exact ⟨0, by go_num, Nat.zero_le _, Below.refl _ _⟩
    case round =>
      obtain ⟨k, rfl, hk, hB⟩ := hrel
      have HTR := Lib.hid (TabAt.keep' hB HTA9.out)
      have HBR : Hid (Below w.heap.size w wr) := HB9.out.trans (hB.mono HB9.out.size)
      have HBW := Lib.hid hB
      clear hB
      by_cases hlt : k < T.length
      · obtain ⟨_, _, bt, ot, he, -, -, hpt, hct⟩ := HTR.out
        cases he
        cases hpt (by omega)
        obtain ⟨t0, -, -, t3, t4, -⟩ := hct k hlt
        obtain ⟨q1, q2, q3, q4, -⟩ := tabGo_at (tabOk_go HOK.out) k hlt
        have HFI : Hid (∀ d, 0 ≤ d → d < T[k].size → findT T (T[k].addr + d) = (k, d, true)) := fun d hd0 hd1 => by
          rw [find_in_tab HOK.out hlt (a := T[k].addr + d) (by omega) (by omega), show T[k].addr + d - T[k].addr = d by omega]
        generalize T[k].addr = ta at t3 q1 q4 HFI
        generalize T[k].size = tz at t4 q2 q3 q4 HFI
        have d1 : IntKind.u32.wrap inn = inn := IntWalk.u32_in _ (by omega)
        have d2 : inn.tmod tz = inn % tz := Int.tmod_eq_emod_of_nonneg hin.1
        have e0 : 0 ≤ inn % tz := Int.emod_nonneg _ (by omega)
        have e1 : inn % tz < tz := Int.emod_lt_of_pos _ (by omega)
        have hf2 := HFI.out _ e0 e1
        generalize inn % tz = kn at d2 e0 e1 hf2
        have d3 : IntKind.u32.wrap kn = kn := IntWalk.u32_in _ (by omega)
        have d4 : IntKind.u32.wrap (ta + kn) = ta + kn := IntWalk.u32_in _ (by omega)
        have htz : ¬ tz = 0 := by omega
        have HFD := Lib.hid (whFind_any _ T (ta + kn) wr HTR.out (by omega))
        rw [hf2] at HFD
        unfold FindPost at HFD
        simp only [] at HFD
        clear hct hpt HFI hf2
        go_wp2_with fail
        refine HFD.out.mono ?_
        rintro e wA ⟨rfl, hBA⟩
        have HBA : Hid (Below wc.heap.size wc wA) := HBW.out.trans (hBA.mono HBW.out.size)
        clear hBA HFD t3 t4 t0 d1 d2 d3 d4
        go_wp2_with fail
        go_roundw
        case rel => exact ⟨k + 1, by go_num, by omega, HBA.out⟩
        case measure => simp [intOf]; omega
      · have HPU := Lib.hid (whPut_any _ T wr HTR.out)
        rw [putT_ok HOK.out] at HPU
        simp only [] at HPU
        go_wp2_with fail
        refine HPU.out.mono ?_
        rintro e wA ⟨rfl, hBA⟩
        have HTX := Lib.hid (TabAt.keep' hBA HTR.out)
        have HBA : Hid (Below w.heap.size w wA) := HBR.out.trans (hBA.mono HBR.out.size)
        have HGE := Lib.hid (whGet_any (bsOf (encTab T)) wA (encTab_size HOK.out))
        rw [getTV_ok HOK.out] at HGE
        unfold GotT at HGE
        clear hBA HPU HTR HBR HBW HTA9 HB9
        generalize bsOf (encTab T) = bz9 at HGE ⊢
        go_wp2_with fail
        refine HGE.out.mono ?_
        rintro e wB ⟨vb, rfl, htb, hBB⟩
        simp only [] at htb ⊢
        have HSA := Lib.hid (tabs_same (TabAt.keep' hBB HTX.out) htb)
        have HBB : Hid (Below w.heap.size w wB) := HBA.out.trans (hBB.mono HBA.out.size)
        obtain ⟨p9, c9, rfl⟩ := tab_shape htb
        clear hBB htb HTX HBA HGE
        go_wp2_with fail
        refine HSA.out.mono ?_
        rintro e wC ⟨rfl, hBC⟩
        have HBC : Hid (Below w.heap.size w wC) := HBB.out.trans (hBC.mono HBB.out.size)
        clear hBC HSA HBB
        go_wp2_with fail
        refine (alive34_any _).mono ?_
        rintro e wD ⟨rfl, hBD⟩
        go_wp2_with fail
        go_ret
        exact ⟨rfl, HBC.out.trans (hBD.mono HBC.out.size)⟩
theorem each34_any (hsort : SortOk) (v : Value) (l : List GObj) (nm : ByteArray) (ad inn : Int) (w : World) (h : ObjsAt w v l) (hn : nm.size ≤ 140737488355328) (had : 0 ≤ ad ∧ ad ≤ 4294967295) (hin : 0 ≤ inn ∧ inn ≤ 65535) :
    Calls Tryz.prog 5 #[.string nm, v, .int .u32 ad, .int .u16 inn] w fun e w' => e = .returned (.bool true) ∧ Below w.heap.size w w' := by
  by_cases hg : large13B l = true ∨ 1024 < nm.size
  · exact each_guard v l nm ad inn w h hn hg
  · have h1 : large13B l = false := by
      cases h1 : large13B l with
      | false => rfl
      | true => exact absurd (.inl h1) hg
    exact each_main hsort v l nm ad inn w h (by omega) h1 had hin
end Go.Proofs.YtdjgkmpjhpnkeaaGreatDoor
namespace Go.Proofs.YtdjgkmpjhpnkeaaGreatDoor
open Go.RowKit Go.Maps Go.WideMaps Go.Sort
theorem grow_three (w : World) (a b c : Obj) : ((w.alloc a).alloc b).drew.alloc c = grow (w.drewN 1) #[a, b, c] := by
  have h : ((grow w #[a]).alloc b).drew.alloc c = grow (grow (grow w.drew #[a]) #[b]) #[c] := by rw [alloc_eq_grow, alloc_eq_grow]; rfl
  rw [alloc_eq_grow w a, h, grow_grow, grow_grow]; rfl
def cmpI (a b : Int) : Int := if a < b then -1 else if b < a then 1 else 0
set_option maxHeartbeats 400000 in
theorem isNaN_any (a : Int) (w : World) : Calls Tryz.prog 211 #[.int .i64 a] w fun e w' => e = .returned (.bool false) ∧ w = w' := by
  go_enter Tryz.func211, Tryz.ntmps211
  go_wp2
  go_ret
  exact ⟨rfl, rfl⟩
set_option maxHeartbeats 400000 in
theorem compare_any (a b : Int) (w : World) : Calls Tryz.prog 128 #[.int .i64 a, .int .i64 b] w fun e w' => e = .returned (.int .i64 (cmpI a b)) ∧ w = w' := by
  have HN := Lib.hid isNaN_any
  unfold cmpI
  by_cases h1 : a < b
  · rw [if_pos h1]
    go_enter Tryz.func128, Tryz.ntmps128
    go_wp2_with (go_at_call 211; refine (HN.out _ _).mono ?_; rintro e w' ⟨rfl, rfl⟩)
    go_ret
    exact ⟨rfl, rfl⟩
  · rw [if_neg h1]
    by_cases h2 : b < a
    · rw [if_pos h2]
      go_enter Tryz.func128, Tryz.ntmps128
      go_wp2_with (go_at_call 211; refine (HN.out _ _).mono ?_; rintro e w' ⟨rfl, rfl⟩)
      go_ret
      exact ⟨rfl, rfl⟩
    · rw [if_neg h2]
      go_enter Tryz.func128, Tryz.ntmps128
      go_wp2_with (go_at_call 211; refine (HN.out _ _).mono ?_; rintro e w' ⟨rfl, rfl⟩)
      go_ret
      exact ⟨rfl, rfl⟩
def orI (a b : Int) : Int := if a = 0 then b else a
set_option maxHeartbeats 400000 in
theorem or_any (a b : Int) (g : Nat) (w : World) (h0 : w.cell? ⟨g, 0, none⟩ = some (.int .i64 a)) (h1 : w.cell? ⟨g, 1, none⟩ = some (.int .i64 b)) :
    Calls Tryz.prog 126 #[.slice (some ⟨g, 0, none⟩) 2 2] w fun e w' => e = .returned (.int .i64 (orI a b)) ∧ w = w' := by
  by_cases ha : a = 0
  · subst ha
    by_cases hb : b = 0
    · subst hb
      go_enter Tryz.func126, Tryz.ntmps126
      go_wp2
      refine wp_loop_rounds 3 ?_
      rw [rounds_succ]
      go_wp2
      rw [rounds_succ]
      go_wp2
      rw [rounds_succ]
      go_wp2
      go_ret
      exact ⟨rfl, rfl⟩
    · have b1 : (b != 0) = true := by simpa using hb
      go_enter Tryz.func126, Tryz.ntmps126
      go_wp2
      refine wp_loop_rounds 3 ?_
      rw [rounds_succ]
      go_wp2
      rw [rounds_succ]
      go_wp2
      go_ret
      exact ⟨rfl, rfl⟩
  · have b1 : (a != 0) = true := by simpa using ha
    have HO : Hid (orI a b = a) := by unfold orI; rw [if_neg ha]; rfl
    clear ha
    go_enter Tryz.func126, Tryz.ntmps126
    go_wp2
    refine wp_loop_rounds 3 ?_
    rw [rounds_succ]
    go_wp2
    go_ret
    exact ⟨ret_int HO.out.symm, rfl⟩
/-- which of two places stands ahead -/
def cmpP (x y : Int × Int) : Int := orI (cmpI x.1 y.1) (cmpI x.2 y.2)
set_option maxHeartbeats 1000000 in
theorem order_any (x y : Int × Int) (w : World) : Calls Tryz.prog 140 #[.agg #[.int .i64 x.1, .int .i64 x.2], .agg #[.int .i64 y.1, .int .i64 y.2]] w fun e w' => e = .returned (.int .i64 (cmpP x y)) ∧ ∃ q os', w' = grow (w.drewN q) os' := by
  obtain ⟨x1, x2⟩ := x
  obtain ⟨y1, y2⟩ := y
  have HC := Lib.hid compare_any
  have HO := Lib.hid or_any
  unfold cmpP
  simp only []
  go_enter Tryz.func140, Tryz.ntmps140
  go_wp2
  go_region_held3 (fun w' => w'.cell? ⟨w.heap.size, 0, none⟩ = some (.int .i64 x1) ∧ w'.cell? ⟨w.heap.size, 1, none⟩ = some (.int .i64 x2) ∧ w'.cell? ⟨w.heap.size + 1, 0, none⟩ = some (.int .i64 y1) ∧ w'.cell? ⟨w.heap.size + 1, 1, none⟩ = some (.int .i64 y2)) (go_keep) (first | (go_at_call 128; refine (HC.out _ _ _).mono ?_; rintro e w' ⟨rfl, rfl⟩) | (go_at_call 126; refine (HO.out (cmpI x1 y1) (cmpI x2 y2) _ _ ?_ ?_).mono ?_; (simp [go_sem]); (simp [go_sem]); rintro e w' ⟨rfl, rfl⟩))
  go_wp2
  go_ret
  exact ⟨rfl, 1, _, grow_three w _ _ _⟩
end Go.Proofs.YtdjgkmpjhpnkeaaGreatDoor
