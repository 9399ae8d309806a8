/- The walks of aediculeref08.May and aediculeref12.May. The walks of aediculeref12's first, winner and find. The walk of aediculeref12.May. The walk of aediculeref12.Check. The walks of aediculeref12's Find and Has. -/
import Derived.Test.YtdjgkmpjhpnkeaaGreatDoorBd24
import Derived.Test.YtdjgkmpjhpnkeaaGreatDoorBd02
import Derived.Deep.QuietTactic
import Derived.BigQuiet
import Derived.Test.YtdjgkmpjhpnkeaaGreatDoorBd07
import Derived.Test.YtdjgkmpjhpnkeaaGreatDoorBd04
namespace Go.Proofs.YtdjgkmpjhpnkeaaGreatDoor
open Go.RowKit
theorem toList_beq' (a b : ByteArray) : (a.toList == b.toList) = (a.data.toList == b.data.toList) := by rw [ByteArray.toList_eq, ByteArray.toList_eq]
theorem hasName_take {l : List GSym} {k : Nat} {x : GSym} {n : List UInt8} (h : k < l.length) (hx : l[k] = x) : hasName (l.take (k + 1)) n = (hasName (l.take k) n || x.name.data.toList == n) := by
  rw [List.take_succ_eq_append_getElem h, hx, hasName_snoc]
theorem hasName_hit {l : List GSym} {i k : Nat} {x : GSym} {n : List UInt8} (hk : k < i) (h : k < l.length) (hx : l[k] = x) (hn : x.name.data.toList = n) : hasName (l.take i) n = true := by
  unfold hasName
  rw [List.any_eq_true]
  refine ⟨x, ?_, by simp [hn]⟩
  rw [List.mem_take_iff_getElem]
  exact ⟨k, by omega, hx⟩
set_option maxRecDepth 100000 in
set_option maxHeartbeats 2000000 in
theorem refMay_any (x : GObj) (vs : Value) (w : World) (h : ObjIn w x vs) :
    Calls Tryz.prog 102 #[.agg #[.string x.name, vs]] w fun e w' => e = .returned (.bool (mayOk x)) ∧ Below w.heap.size w w' := by
  obtain ⟨hr, hnm⟩ := h
  obtain ⟨p, cap, b, o, rfl, hcap, hmax, hp, hc⟩ := hr
  have HC := Lib.hid hc; clear hc
  have HP := Lib.hid hp; clear hp
  go_enter Tryz.func102, Tryz.ntmps102
  go_wp2
  go_loopw [3] (fun v3 wr => ∃ i : Nat, i ≤ x.syms.length ∧ v3 = .int .i64 i ∧ symsGoR (x.syms.take i) (x.syms.drop i) = symsGoR [] x.syms ∧ Below (w.heap.size + 1) (w.alloc (.cells #[.string x.name, .slice p x.syms.length cap] 47)) wr) (fun v3 _ => x.syms.length - (intOf v3).toNat)
  case atStart => exact ⟨0, Nat.zero_le _, rfl, rfl, Below.refl _ _⟩
  case round =>
    obtain ⟨i, hi, rfl, hgo, hbel⟩ := hrel
    have HGO := Lib.hid hgo; clear hgo
    have c0 : wr.cell? ⟨w.heap.size, 0, none⟩ = some (.string x.name) := by rw [hbel.cell (by simp)]; simp [go_sem]
    have c1 : wr.cell? ⟨w.heap.size, 1, none⟩ = some (.slice p x.syms.length cap) := by rw [hbel.cell (by simp)]; simp [go_sem]
    have hsz1 : w.heap.size < wr.heap.size := by have := hbel.size; simp at this; omega
    have HBW : Hid (Below w.heap.size w wr) := (alloc_old w _).trans (hbel.mono (by omega))
    have HB := Lib.hid hbel; clear hbel
    by_cases hlt : i < x.syms.length
    · obtain rfl := HP.out (by omega)
      obtain ⟨vr, vn, g0, g1, g2, g3, g4, g5, g6, g7, hsin⟩ := symR_keeps _ _ _ _ _ HBW.out (HC.out i hlt)
      have N0 := Lib.hid (HC.out i hlt)
      have HCON := Lib.hid (refSym_any x.syms[i] vr vn wr hsin); clear hsin
      generalize hx : x.syms[i] = y at g1 g2 g3 g4 g5 g6 g7 HCON N0
      obtain ⟨yn, yb, yk, ys, yy, yr, yt⟩ := y
      simp only [] at g1 g2 g3 g4 g5 g6 g7 HCON
      have HX := Lib.hid hx; clear hx
      go_wp2_with (go_at_call 190; refine HCON.out.mono ?_; rintro e w1 ⟨rfl, hB1⟩; have HB1 := Lib.hid hB1; clear hB1)
      · have hbad : (!symOk ⟨yn, yb, yk, ys, yy, yr, yt⟩) = true := by assumption
        go_ret
        exact ⟨ret_bool (mayOk_no hlt HX.out HGO.out (.inr (by simpa using hbad))), HBW.out.trans (HB1.out.mono HBW.out.size)⟩
      · have hok : (!symOk ⟨yn, yb, yk, ys, yy, yr, yt⟩) = false := by assumption
        have HOK : Hid (symOk ⟨yn, yb, yk, ys, yy, yr, yt⟩ = true) := by simpa [Hid] using hok
        have HB2 := Lib.hid (HB.out.trans (HB1.out.mono (by omega)))
        clear c0 c1 g0 g1 g2 g3 g4 g5 g6 g7 HBW HB
        obtain ⟨wo, rfl⟩ : ∃ wo : World, wo = wr := ⟨_, rfl⟩
        go_loopw [4] (fun v4 wr => ∃ k : Nat, k ≤ i ∧ v4 = .int .i64 k ∧ hasName (x.syms.take k) yn.data.toList = false ∧ Below (w.heap.size + 1) (w.alloc (.cells #[.string x.name, .slice (some ⟨b, o, none⟩) x.syms.length cap] 47)) wr) (fun v4 _ => i - (intOf v4).toNat)
        case atStart => exact ⟨0, Nat.zero_le _, rfl, by simp [hasName], HB2.out⟩
        case round =>
          obtain ⟨k, hk, rfl, hno, hbel⟩ := hrel
          have HNO := Lib.hid hno; clear hno
          have c1 : wr.cell? ⟨w.heap.size, 1, none⟩ = some (.slice (some ⟨b, o, none⟩) x.syms.length cap) := by rw [hbel.cell (by simp)]; simp [go_sem]
          have hsz2 : w.heap.size < wr.heap.size := by have := hbel.size; simp at this; omega
          have HBW : Hid (Below w.heap.size w wr) := (alloc_old w _).trans (hbel.mono (by omega))
          have HB := Lib.hid hbel; clear hbel
          by_cases hki : k < i
          · obtain ⟨vr2, vn2, q0, q1, -⟩ := symR_keeps _ _ _ _ _ HBW.out (HC.out k (by omega))
            obtain ⟨vr3, vn3, g0, g1, -⟩ := symR_keeps _ _ _ _ _ HBW.out N0.out
            simp only [] at g1
            generalize hz : x.syms[k] = z at q1
            obtain ⟨zn, zb, zk, zs, zy, zr, zt⟩ := z
            simp only [] at q1
            have HZ := Lib.hid hz; clear hz
            have e1 : (0 : Int) ≤ (k : Int) := by omega
            have e2 : (k : Int) < (x.syms.length : Int) := by omega
            have e3 : (0 : Int) ≤ (i : Int) := by omega
            have e4 : (i : Int) < (x.syms.length : Int) := by omega
            by_cases hnn : zn.data.toList = yn.data.toList
            · have bq : (zn.toList == yn.toList) = true := by rw [toList_beq', hnn]; simp
              have HNN := Lib.hid hnn; clear hnn
              go_wp2
              go_quiet (fail)
              go_wp2
              go_ret
              exact ⟨ret_bool (mayOk_no hlt HX.out HGO.out (.inl (hasName_hit hki (by omega) HZ.out HNN.out))), below_drewN HBW.out _⟩
            · have bq : (zn.toList == yn.toList) = false := by rw [toList_beq', beq_eq_false_iff_ne]; exact hnn
              have HNN := Lib.hid hnn; clear hnn
              go_wp2
              go_quiet (fail)
              go_wp2
              go_roundw
              case rel => exact ⟨k + 1, by omega, by go_num, by rw [hasName_take (by omega) HZ.out, HNO.out]; simp only [Bool.false_or, beq_eq_false_iff_ne]; exact HNN.out, below_drewN HB.out _⟩
              case measure => simp [intOf]; omega
          · obtain rfl : k = i := by omega
            go_wp2
            go_roundw
            case rel => exact ⟨k + 1, by omega, by go_num, symsGoR_yes hlt HX.out HGO.out HNO.out HOK.out, HB.out⟩
            case measure => simp [intOf]; omega
    · go_wp2_with (go_at_call 103; refine (refName_any _ _ (by unfold maxLen; omega)).mono ?_; rintro e w' ⟨rfl, rfl⟩)
      all_goals
        go_ret
        exact ⟨ret_bool (by rw [mayOk_end hlt HGO.out]; go_light; simp_all; try omega), HBW.out⟩
end Go.Proofs.YtdjgkmpjhpnkeaaGreatDoor
namespace Go.Proofs.YtdjgkmpjhpnkeaaGreatDoor
open Go.RowKit Go.Maps Go.WideMaps
theorem firstBy_find {pre rest fl : List Spot} {x : Spot} {n : List UInt8} {b : Int} (hcat : pre ++ (x :: rest) = fl) (hno : firstBy pre n b = none) (hh : hits n b x = true) : firstBy fl n b = some (x.obj, x.sym) := by
  unfold firstBy at hno ⊢
  simp only [Option.map_eq_none_iff] at hno
  rw [← hcat, List.find?_append, hno]
  simp [hh]
theorem firstBy_miss {pre : List Spot} {x : Spot} {n : List UInt8} {b : Int} (hno : firstBy pre n b = none) (hh : hits n b x = false) : firstBy (pre ++ [x]) n b = none := by
  rw [firstBy_snoc, hno, hh]; rfl
set_option maxRecDepth 100000 in
set_option maxHeartbeats 2000000 in
theorem firstR_any (v : Value) (l : List GObj) (nm : ByteArray) (bd : Int) (w : World) (h : ObjsAt w v l) :
    Calls Tryz.prog 232 #[v, .string nm, .int .u8 bd] w fun e w' => e = .returned (placeRet (firstBy (flat l) nm.data.toList bd)) ∧ Below w.heap.size w w' := by
  obtain ⟨p, cap, b, o, rfl, hcap, hmax, hp, hc⟩ := h
  have HC := Lib.hid hc; clear hc
  have HP := Lib.hid hp; clear hp
  go_enter Tryz.func232, Tryz.ntmps232
  go_wp2
  go_loop [8] (fun v8 => ∃ (i : Nat) (pre : List Spot), i ≤ l.length ∧ v8 = .int .i64 i ∧ pre ++ objsFrom i (l.drop i) = flat l ∧ firstBy pre nm.data.toList bd = none) (fun v8 => l.length - (intOf v8).toNat)
  case atStart => exact ⟨0, [], Nat.zero_le _, rfl, rfl, rfl⟩
  case round =>
    obtain ⟨i, pre, hi, rfl, hcat, hno⟩ := hrel
    have HCAT := Lib.hid hcat; clear hcat
    have HNO := Lib.hid hno; clear hno
    by_cases hlt : i < l.length
    · obtain rfl := HP.out (by omega)
      obtain ⟨vs, g0, g1, g2, hin⟩ := HC.out i hlt
      have hcat := HCAT.out
      rw [objsFrom_drop hlt] at hcat
      generalize hx : l[i] = x at g1 hin hcat
      obtain ⟨xn, xs⟩ := x
      simp only [] at g1 hin hcat
      obtain ⟨⟨pS, capS, bS, oS, rfl, hcapS, hmaxS, hpS, hcS⟩, hnmx⟩ := hin
      clear HCAT hx g1
      have HCAT := Lib.hid hcat; clear hcat
      have HCS := Lib.hid hcS; clear hcS
      have HPS := Lib.hid hpS; clear hpS
      go_wp2
      go_loop [9] (fun v9 => ∃ (k : Nat) (pre : List Spot), k ≤ xs.length ∧ v9 = .int .i64 k ∧ pre ++ (symsFrom i k (xs.drop k) ++ objsFrom (i + 1) (l.drop (i + 1))) = flat l ∧ firstBy pre nm.data.toList bd = none) (fun v9 => xs.length - (intOf v9).toNat)
      case atStart => exact ⟨0, pre, Nat.zero_le _, rfl, HCAT.out, HNO.out⟩
      case round =>
        clear HCAT HNO
        obtain ⟨k, pre, hk, rfl, hcat, hno⟩ := hrel
        have HCAT := Lib.hid hcat; clear hcat
        have HNO := Lib.hid hno; clear hno
        by_cases hks : k < xs.length
        · obtain rfl := HPS.out (by omega)
          obtain ⟨vr, vn, s0, s1, s2, -⟩ := HCS.out k hks
          generalize hy : xs[k] = y at s1 s2
          obtain ⟨yn, yb, yk, ys, yy, yr, yt⟩ := y
          simp only [] at s1 s2
          have HY := Lib.hid hy; clear hy
          have HST := Lib.hid (cat_step hks HY.out HCAT.out)
          by_cases hh : yn.data.toList = nm.data.toList ∧ yb = bd
          · obtain ⟨h1, rfl⟩ := hh
            have bq : (yn.toList == nm.toList) = true := by rw [toList_beq, h1]; simp
            have HF : Hid (firstBy (flat l) nm.data.toList yb = some (i, k)) := by
              have hcat := HCAT.out
              rw [symsFrom_drop hks, HY.out, List.cons_append] at hcat
              exact firstBy_find hcat HNO.out (by simp [hits, h1])
            clear h1
            go_wp2
            rw [HF.out]
            refine bodyPost_ret (v := .tuple #[.agg #[.int .i64 (i : Nat), .int .i64 (k : Nat)], .bool true]) (by simp [results, Tryz.results232, go_sem]) rfl ⟨rfl, ?_⟩
            exact alloc_old w _
          · have HH : Hid (hits nm.data.toList bd ⟨i, k, ⟨yn, yb, yk, ys, yy, yr, yt⟩⟩ = false) := by
              cases hq : hits nm.data.toList bd ⟨i, k, ⟨yn, yb, yk, ys, yy, yr, yt⟩⟩ with
              | false => rfl
              | true => simp [hits] at hq; exact absurd ⟨by rw [hq.1], hq.2⟩ hh
            by_cases h1 : yn.data.toList = nm.data.toList
            · have bq : (yn.toList == nm.toList) = true := by rw [toList_beq, h1]; simp
              have b2 : (yb == bd) = false := by rw [beq_eq_false_iff_ne]; exact fun e => hh ⟨h1, e⟩
              clear h1 hh
              go_wp2
              go_round
              case rel => exact ⟨k + 1, _, by omega, by go_num, HST.out, firstBy_miss HNO.out HH.out⟩
              case measure => simp [intOf]; omega
            · have bq : (yn.toList == nm.toList) = false := by rw [toList_beq, beq_eq_false_iff_ne]; exact h1
              clear h1 hh
              go_wp2
              go_round
              case rel => exact ⟨k + 1, _, by omega, by go_num, HST.out, firstBy_miss HNO.out HH.out⟩
              case measure => simp [intOf]; omega
        · have hcat := HCAT.out
          rw [List.drop_of_length_le (by omega), symsFrom, List.nil_append] at hcat
          have HCAT2 := Lib.hid hcat; clear hcat
          go_wp2
          go_round
          case rel => exact ⟨i + 1, pre, by omega, by go_num, HCAT2.out, HNO.out⟩
          case measure => simp [intOf]; omega
    · have hcat := HCAT.out
      rw [List.drop_of_length_le (by omega), objsFrom, List.append_nil] at hcat
      subst hcat
      clear HCAT
      go_wp2
      rw [HNO.out]
      refine bodyPost_ret (v := .tuple #[.agg #[.int .i64 0, .int .i64 0], .bool false]) (by simp [results, Tryz.results232, go_sem]) rfl ⟨rfl, ?_⟩
      exact alloc_old w _
set_option maxHeartbeats 1000000 in
theorem winnerR_any (v : Value) (l : List GObj) (nm : ByteArray) (w : World) (h : ObjsAt w v l) :
    Calls Tryz.prog 217 #[v, .string nm] w fun e w' => e = .returned (placeRet (winnerIn (flat l) nm.data.toList)) ∧ Below w.heap.size w w' := by
  have HO := Lib.hid h; clear h
  have HC1 := Lib.hid (firstR_any v l nm 1 (w.alloc (.cells #[.int .i64 0, .int .i64 0] 63)) (ObjsAt.keep (alloc_old w _) HO.out))
  cases hf1 : firstBy (flat l) nm.data.toList 1 with
  | some p1 =>
    obtain ⟨a1, b1⟩ := p1
    rw [hf1] at HC1
    have HW : Hid (winnerIn (flat l) nm.data.toList = some (a1, b1)) := by unfold winnerIn; rw [hf1]; rfl
    clear hf1
    simp only [placeRet] at HC1
    go_enter Tryz.func217, Tryz.ntmps217
    go_wp2_with (go_at_call 232; refine HC1.out.mono ?_; rintro e w1 ⟨rfl, hB⟩; obtain ⟨hc1, hf1⟩ := bcell hB; have hz1 : w.heap.size < w1.heap.size := (by have := hB.size; (try simp at this); omega))
    have q0 : w1.cell? ⟨w.heap.size, 0, none⟩ = some (.int .i64 0) := by rw [hB.cell (by simp)]; simp [go_sem]
    have q1 : w1.cell? ⟨w.heap.size, 1, none⟩ = some (.int .i64 0) := by rw [hB.cell (by simp)]; simp [go_sem]
    rw [HW.out]
    refine bodyPost_ret (v := .tuple #[.agg #[.int .i64 (a1 : Nat), .int .i64 (b1 : Nat)], .bool true]) (by simp [results, Tryz.results217, go_sem, q0, q1, hz1]) rfl ⟨rfl, ?_⟩
    exact ((((alloc_old w _).trans (hB.mono (by simp))).setCell (by simp) _).setCell (by simp) _).alloc (by simp; omega) _
  | none =>
    rw [hf1] at HC1
    simp only [placeRet] at HC1
    have HW : Hid (winnerIn (flat l) nm.data.toList = firstBy (flat l) nm.data.toList 2) := by unfold winnerIn; rw [hf1]; rfl
    clear hf1
    go_enter Tryz.func217, Tryz.ntmps217
    go_wp2_with fail
    refine HC1.out.mono ?_
    rintro e w1 ⟨rfl, hB⟩
    have HBW := Lib.hid ((alloc_old w (.cells #[.int .i64 0, .int .i64 0] 63)).trans (hB.mono (by simp)))
    have hz1 : w.heap.size < w1.heap.size := by have := hB.size; (try simp at this); omega
    have q0 : w1.cell? ⟨w.heap.size, 0, none⟩ = some (.int .i64 0) := by rw [hB.cell (by simp)]; simp [go_sem]
    have q1 : w1.cell? ⟨w.heap.size, 1, none⟩ = some (.int .i64 0) := by rw [hB.cell (by simp)]; simp [go_sem]
    have f0 : w1.frozen? ⟨w.heap.size, 0, none⟩ = false := by rw [hB.frozen (by simp)]; simp [go_sem]
    have f1 : w1.frozen? ⟨w.heap.size, 1, none⟩ = false := by rw [hB.frozen (by simp)]; simp [go_sem]
    have HC2 := Lib.hid (firstR_any v l nm 2 (w1.alloc (.cells #[.int .i64 0, .int .i64 0] 63)) (ObjsAt.keep (HBW.out.alloc HBW.out.size _) HO.out))
    clear hB
    go_wp2_with fail
    refine HC2.out.mono ?_
    rintro e w2 ⟨rfl, hB2⟩
    have hz2 : w1.heap.size < w2.heap.size := by have := hB2.size; (try simp at this); omega
    have q0' : w2.cell? ⟨w.heap.size, 0, none⟩ = some (.int .i64 0) := by rw [hB2.cell (by simp; omega)]; simp [go_sem, *]
    have q1' : w2.cell? ⟨w.heap.size, 1, none⟩ = some (.int .i64 0) := by rw [hB2.cell (by simp; omega)]; simp [go_sem, *]
    have f0' : w2.frozen? ⟨w.heap.size, 0, none⟩ = false := by rw [hB2.frozen (by simp; omega)]; simp [go_sem, *]
    have f1' : w2.frozen? ⟨w.heap.size, 1, none⟩ = false := by rw [hB2.frozen (by simp; omega)]; simp [go_sem, *]
    have r0 : w2.cell? ⟨w1.heap.size, 0, none⟩ = some (.int .i64 0) := by rw [hB2.cell (by simp)]; simp [go_sem]
    have r1 : w2.cell? ⟨w1.heap.size, 1, none⟩ = some (.int .i64 0) := by rw [hB2.cell (by simp)]; simp [go_sem]
    have t0 : w2.frozen? ⟨w1.heap.size, 0, none⟩ = false := by rw [hB2.frozen (by simp)]; simp [go_sem]
    have t1 : w2.frozen? ⟨w1.heap.size, 1, none⟩ = false := by rw [hB2.frozen (by simp)]; simp [go_sem]
    have hne : ¬ w1.heap.size = w.heap.size := by omega
    have hne' : ¬ w.heap.size = w1.heap.size := by omega
    have HBW2 := Lib.hid ((HBW.out.alloc HBW.out.size (.cells #[.int .i64 0, .int .i64 0] 63)).trans (hB2.mono (by simp; omega)))
    clear hB2 q0 q1 f0 f1
    generalize firstBy (flat l) nm.data.toList 2 = fp at HW ⊢
    rw [placeRet_eq]
    go_wp2_with fail
    rw [HW.out, placeRet_eq]
    refine bodyPost_ret (v := .tuple #[.agg #[.int .i64 ((fp.getD (0, 0)).1 : Nat), .int .i64 ((fp.getD (0, 0)).2 : Nat)], .bool fp.isSome]) (by simp [results, Tryz.results217, go_sem, *, World.cell?_setCell_far]) rfl ⟨rfl, ?_⟩
    exact (((HBW2.out.setCell (by simp; omega) _).setCell (by simp; omega) _).setCell (by simp) _).setCell (by simp) _
set_option maxRecDepth 100000 in
set_option maxHeartbeats 1000000 in
theorem findRefNeg (v : Value) (l : List GObj) (i : Int) (nm : ByteArray) (w : World) (h : ObjsAt w v l) (hi : i < 0) :
    Calls Tryz.prog 160 #[v, .int .i64 i, .string nm] w fun e w' => e = .returned (placeRet (winnerIn (flat l) nm.data.toList)) ∧ Below w.heap.size w w' := by
  have HC1 := Lib.hid (winnerR_any v l nm (w.alloc (.cells #[.int .i64 0, .int .i64 0] 63)) (ObjsAt.keep (alloc_old w _) h)); clear h
  generalize winnerIn (flat l) nm.data.toList = fp at HC1 ⊢
  rw [placeRet_eq] at HC1 ⊢
  go_enter Tryz.func160, Tryz.ntmps160
  go_wp2_with (go_at_call 217; refine HC1.out.mono ?_; rintro e w1 ⟨rfl, hB⟩; obtain ⟨hc1, hf1⟩ := bcell hB; have hz1 : w.heap.size < w1.heap.size := (by have := hB.size; (try simp at this); omega))
  have q0 : w1.cell? ⟨w.heap.size, 0, none⟩ = some (.int .i64 0) := by rw [hB.cell (by simp)]; simp [go_sem]
  have q1 : w1.cell? ⟨w.heap.size, 1, none⟩ = some (.int .i64 0) := by rw [hB.cell (by simp)]; simp [go_sem]
  refine bodyPost_ret (v := .tuple #[.agg #[.int .i64 ((fp.getD (0, 0)).1 : Nat), .int .i64 ((fp.getD (0, 0)).2 : Nat)], .bool fp.isSome]) (by simp [results, Tryz.results160, go_sem, q0, q1]) rfl ⟨rfl, ?_⟩
  exact (((alloc_old w _).trans (hB.mono (by simp))).setCell (by simp) _).setCell (by simp) _
set_option maxRecDepth 100000 in
set_option maxHeartbeats 1000000 in
theorem findRefPos (v : Value) (l : List GObj) (i : Nat) (nm : ByteArray) (w : World) (h : ObjsAt w v l) (hi : i < l.length) :
    Calls Tryz.prog 160 #[v, .int .i64 i, .string nm] w fun e w' => e = .returned (placeRet (findR l i nm.data.toList)) ∧ Below w.heap.size w w' := by
  have HC1 := Lib.hid (winnerR_any v l nm (w.alloc (.cells #[.int .i64 0, .int .i64 0] 63)) (ObjsAt.keep (alloc_old w _) h))
  obtain ⟨p, cap, b, o, rfl, hcap, hmax, hp, hc⟩ := h
  obtain rfl := hp (by omega)
  obtain ⟨vs, g0, g1, g2, hin⟩ := hc i hi
  clear hc hp g1
  have hloc : localAt l i nm.data.toList = (l[i].syms.findIdx? (isLocal nm.data.toList)).map (fun k => (i, k)) := by simp [localAt, List.getElem?_eq_getElem hi]
  have HF : Hid (findR l i nm.data.toList = match (l[i].syms.findIdx? (isLocal nm.data.toList)).map (fun k => (i, k)) with | some p => some p | none => winnerIn (flat l) nm.data.toList) := by
    unfold findR; rw [if_pos (by omega), Int.toNat_natCast, hloc]; rfl
  clear hloc
  generalize l[i] = x at hin HF
  obtain ⟨xn, xs⟩ := x
  simp only [] at hin HF
  obtain ⟨⟨pS, capS, bS, oS, rfl, hcapS, hmaxS, hpS, hcS⟩, -⟩ := hin
  simp only [] at hcapS hmaxS hpS hcS g2
  have HCS := Lib.hid hcS; clear hcS
  have HPS := Lib.hid hpS; clear hpS
  go_enter Tryz.func160, Tryz.ntmps160
  go_wp2
  go_loop [8] (fun v8 => ∃ k : Nat, k ≤ xs.length ∧ v8 = .int .i64 k ∧ (xs.take k).all (fun x => !isLocal nm.data.toList x) = true) (fun v8 => xs.length - (intOf v8).toNat)
  case atStart => exact ⟨0, Nat.zero_le _, rfl, rfl⟩
  case round =>
    obtain ⟨k, hk, rfl, hall⟩ := hrel
    have HA := Lib.hid hall; clear hall
    by_cases hks : k < xs.length
    · obtain rfl := HPS.out (by omega)
      obtain ⟨vr, vn, s0, s1, s2, -⟩ := HCS.out k hks
      generalize hy : xs[k] = y at s1 s2
      obtain ⟨yn, yb, yk, ys, yy, yr, yt⟩ := y
      simp only [] at s1 s2
      have HY := Lib.hid hy; clear hy
      by_cases h1 : yn.data.toList = nm.data.toList
      · have bq : (yn.toList == nm.toList) = true := by rw [toList_beq, h1]; simp
        by_cases h2 : yb = 0
        · subst h2
          have HL : Hid (isLocal nm.data.toList ⟨yn, 0, yk, ys, yy, yr, yt⟩ = true) := by simp [isLocal, h1, Hid]
          clear h1
          go_wp2
          rw [HF.out, findIdx_some hks HY.out HL.out HA.out]
          refine bodyPost_ret (v := .tuple #[.agg #[.int .i64 (i : Nat), .int .i64 (k : Nat)], .bool true]) (by simp [results, Tryz.results160, go_sem]) rfl ⟨rfl, ?_⟩
          exact alloc_old w _
        · have b2 : (yb == 0) = false := by simpa using h2
          have HL : Hid (isLocal nm.data.toList ⟨yn, yb, yk, ys, yy, yr, yt⟩ = false) := by simp [isLocal, h2, Hid]
          clear h1 h2
          go_wp2
          go_round
          case rel => exact ⟨k + 1, by omega, by go_num, take_all_snoc hks HY.out HA.out (by rw [HL.out]; rfl)⟩
          case measure => simp [intOf]; omega
      · have bq : (yn.toList == nm.toList) = false := by rw [toList_beq, beq_eq_false_iff_ne]; exact h1
        have HL : Hid (isLocal nm.data.toList ⟨yn, yb, yk, ys, yy, yr, yt⟩ = false) := by
          have : (yn.data.toList == nm.data.toList) = false := by rw [beq_eq_false_iff_ne]; exact h1
          simp only [Hid, isLocal, this, Bool.false_and]
        clear h1
        go_wp2
        go_round
        case rel => exact ⟨k + 1, by omega, by go_num, take_all_snoc hks HY.out HA.out (by rw [HL.out]; rfl)⟩
        case measure => simp [intOf]; omega
    · have HF2 : Hid (findR l i nm.data.toList = winnerIn (flat l) nm.data.toList) := by rw [HF.out, findIdx_none (all_end hks HA.out)]; rfl
      clear HF
      generalize winnerIn (flat l) nm.data.toList = fp at HC1 HF2
      rw [placeRet_eq] at HC1
      go_wp2_with (go_at_call 217; refine HC1.out.mono ?_; rintro e w1 ⟨rfl, hB⟩; obtain ⟨hc1, hf1⟩ := bcell hB; have hz1 : w.heap.size < w1.heap.size := (by have := hB.size; (try simp at this); omega))
      have q0 : w1.cell? ⟨w.heap.size, 0, none⟩ = some (.int .i64 0) := by rw [hB.cell (by simp)]; simp [go_sem]
      have q1 : w1.cell? ⟨w.heap.size, 1, none⟩ = some (.int .i64 0) := by rw [hB.cell (by simp)]; simp [go_sem]
      rw [HF2.out, placeRet_eq]
      refine bodyPost_ret (v := .tuple #[.agg #[.int .i64 ((fp.getD (0, 0)).1 : Nat), .int .i64 ((fp.getD (0, 0)).2 : Nat)], .bool fp.isSome]) (by simp [results, Tryz.results160, go_sem, q0, q1]) rfl ⟨rfl, ?_⟩
      exact (((alloc_old w _).trans (hB.mono (by simp))).setCell (by simp) _).setCell (by simp) _
end Go.Proofs.YtdjgkmpjhpnkeaaGreatDoor
namespace Go.Proofs.YtdjgkmpjhpnkeaaGreatDoor
open Go.RowKit
set_option maxHeartbeats 1000000 in
theorem ref12May_any (v : Value) (l : List GObj) (w : World) (h : ObjsAt w v l) :
    Calls Tryz.prog 161 #[v] w fun e w' => e = .returned (.bool (mayAllR l)) ∧ Below w.heap.size w w' := by
  obtain ⟨p, cap, b, o, rfl, hcap, hmax, hp, hc⟩ := h
  have HC := Lib.hid hc; clear hc
  have HP := Lib.hid hp; clear hp
  go_enter Tryz.func161, Tryz.ntmps161
  go_wp2
  go_loopw [3] (fun v3 wr => ∃ k : Nat, k ≤ l.length ∧ v3 = .int .i64 k ∧ (l.take k).all mayOk = true ∧ Below w.heap.size w wr) (fun v3 _ => l.length - (intOf v3).toNat)
  case atStart => exact ⟨0, Nat.zero_le _, rfl, rfl, Below.refl _ _⟩
  case round =>
    obtain ⟨k, hk, rfl, hall, hbel⟩ := hrel
    have HA := Lib.hid hall; clear hall
    have HB := Lib.hid hbel; clear hbel
    by_cases hlt : k < l.length
    · obtain rfl := HP.out (by omega)
      obtain ⟨vs, g0, g1, g2, hin⟩ := objR_keeps _ _ _ _ _ HB.out (HC.out k hlt)
      have HCON := Lib.hid (refMay_any l[k] vs wr hin); clear hin
      generalize hx : l[k] = x at *
      obtain ⟨xn, xs⟩ := x
      simp only [] at *
      have HX := Lib.hid hx; clear hx
      go_wp2_with (go_at_call 102; refine HCON.out.mono ?_; rintro e w' ⟨rfl, hB⟩)
      · have hbad : (!mayOk ⟨xn, xs⟩) = true := by assumption
        go_ret
        exact ⟨ret_bool (by rw [mayAllR, all_bad hlt HX.out (by simpa using hbad)]; rfl), HB.out.trans (hB.mono HB.out.size)⟩
      · have hok : (!mayOk ⟨xn, xs⟩) = false := by assumption
        go_roundw
        case rel => exact ⟨k + 1, by omega, by go_num, take_all_snoc hlt HX.out HA.out (by simpa using hok), HB.out.trans (hB.mono HB.out.size)⟩
        case measure => simp [intOf]; omega
    · go_wp2
      go_ret
      exact ⟨ret_bool (by rw [mayAllR, all_end hlt HA.out]; simp; omega), HB.out⟩
end Go.Proofs.YtdjgkmpjhpnkeaaGreatDoor
namespace Go.Proofs.YtdjgkmpjhpnkeaaGreatDoor
open Go.RowKit Go.Maps Go.WideMaps
set_option maxRecDepth 100000 in
set_option maxHeartbeats 2000000 in
theorem refCheck_any (v : Value) (l : List GObj) (w : World) (h : ObjsAt w v l) :
    Calls Tryz.prog 159 #[v] w fun e w' => e = .returned (.tuple #[.string (beginRR l).1, .int .i64 (beginRR l).2]) ∧ Below w.heap.size w w' := by
  have HM := Lib.hid (ref12May_any v l w h)
  have HO := Lib.hid h
  obtain ⟨p, cap, b, o, rfl, hcap, hmax, hp, hc⟩ := h
  have HC := Lib.hid hc; clear hc
  have HP := Lib.hid hp; clear hp
  cases hm : mayAllR l with
  | false =>
    have HE : Hid (beginRR l = (emptyB, 2)) := by unfold beginRR; rw [hm]; rfl
    rw [hm] at HM
    clear hm
    go_enter Tryz.func159, Tryz.ntmps159
    go_wp2_with (go_at_call 161; refine HM.out.mono ?_; rintro e w1 ⟨rfl, hB⟩)
    go_ret2
    exact ⟨by rw [HE.out]; rfl, hB⟩
  | true =>
    have HE : Hid (beginRR l = (match dupGo [] (flat l) with | some n => (n, 120) | none => (emptyB, 0))) := by unfold beginRR; rw [hm]; rfl
    rw [hm] at HM
    clear hm
    go_enter Tryz.func159, Tryz.ntmps159
    go_wp2_with (go_at_call 161; refine HM.out.mono ?_; rintro e w1 ⟨rfl, hB⟩)
    have HB1 := Lib.hid hB; clear hB
    go_loopw [4] (fun v4 wr => ∃ (i : Nat) (pre : List Spot), i ≤ l.length ∧ v4 = .int .i64 i ∧ pre ++ objsFrom i (l.drop i) = flat l ∧ dupGo pre (objsFrom i (l.drop i)) = dupGo [] (flat l) ∧ Below w.heap.size w wr) (fun v4 _ => l.length - (intOf v4).toNat)
    case atStart => exact ⟨0, [], Nat.zero_le _, rfl, rfl, rfl, HB1.out⟩
    case round =>
      obtain ⟨i, pre, hi, rfl, hcat, hdup, hbel⟩ := hrel
      have HCAT := Lib.hid hcat; clear hcat
      have HDUP := Lib.hid hdup; clear hdup
      have HBW := Lib.hid hbel; clear hbel
      by_cases hlt : i < l.length
      · obtain rfl := HP.out (by omega)
        obtain ⟨vs, g0, g1, g2, hin⟩ := HC.out i hlt
        have G2 := Lib.hid g2
        have hcat := HCAT.out
        have hdup := HDUP.out
        rw [objsFrom_drop hlt] at hcat hdup
        generalize hx : l[i] = x at g1 hin hcat hdup
        obtain ⟨xn, xs⟩ := x
        simp only [] at g1 hin hcat hdup
        obtain ⟨⟨pS, capS, bS, oS, rfl, hcapS, hmaxS, hpS, hcS⟩, hnmx⟩ := hin
        clear HCAT HDUP hx g1 g2
        have HCAT := Lib.hid hcat; clear hcat
        have HDUP := Lib.hid hdup; clear hdup
        have HCS := Lib.hid hcS; clear hcS
        have HPS := Lib.hid hpS; clear hpS
        go_wp2
        obtain ⟨wo, rfl⟩ : ∃ wo : World, wo = wr := ⟨_, rfl⟩
        go_loopw [5] (fun v5 wr => ∃ (k : Nat) (pre : List Spot), k ≤ xs.length ∧ v5 = .int .i64 k ∧ pre ++ (symsFrom i k (xs.drop k) ++ objsFrom (i + 1) (l.drop (i + 1))) = flat l ∧ dupGo pre (symsFrom i k (xs.drop k) ++ objsFrom (i + 1) (l.drop (i + 1))) = dupGo [] (flat l) ∧ Below w.heap.size w wr) (fun v5 _ => xs.length - (intOf v5).toNat)
        case atStart => exact ⟨0, pre, Nat.zero_le _, rfl, HCAT.out, HDUP.out, HBW.out⟩
        case round =>
          clear HCAT HDUP HBW
          obtain ⟨k, pre, hk, rfl, hcat, hdup, hbel⟩ := hrel
          have HCAT := Lib.hid hcat; clear hcat
          have HDUP := Lib.hid hdup; clear hdup
          have HBW := Lib.hid hbel; clear hbel
          have g2 := cell_keep HBW.out g0 G2.out
          have g0' := size_keep HBW.out g0
          by_cases hks : k < xs.length
          · obtain rfl := HPS.out (by omega)
            obtain ⟨vr, vn, s0, s1, s2, s3, s4, s5, s6, s7, hsin⟩ := symR_keeps _ _ _ _ _ HBW.out (HCS.out k hks)
            obtain ⟨p1, q1, p2, q2, rfl, rfl⟩ := hsin.shape
            generalize hy : xs[k] = y at s1 s2 s3 s4 s5 s6 s7 hsin
            obtain ⟨yn, yb, yk, ys, yy, yr, yt⟩ := y
            simp only [] at s1 s2 s3 s4 s5 s6 s7 hsin
            clear hsin
            have HY := Lib.hid hy; clear hy
            have HST := Lib.hid (cat_step hks HY.out HCAT.out)
            have hcat2 := HCAT.out
            rw [symsFrom_drop hks, HY.out, List.cons_append] at hcat2
            have HCON := Lib.hid (firstR_any _ l yn 1 (wr.alloc (.cells #[.string yn, .int .u8 yb, .int .u8 yk, .int .u32 ys, .string yy, .slice p1 yr.length q1, .slice p2 yt.length q2] 72)) (ObjsAt.keep (HBW.out.alloc HBW.out.size _) HO.out))
            by_cases hb1 : yb = 1
            · subst hb1
              rcases first_self hcat2 rfl with ⟨hn, hf⟩ | ⟨⟨a1, b1⟩, hn, hf, hq⟩
              · simp only [] at hn hf
                rw [hf] at HCON
                simp only [placeRet] at HCON
                have HD := Lib.hid (dup_step hks HY.out HDUP.out (by simp [hn]))
                clear hcat2 hn hf
                go_wp2_with (go_at_call 232; refine HCON.out.mono ?_; rintro e w2 ⟨rfl, hB2⟩; obtain ⟨hc2, hf2⟩ := bcell hB2; have hz2 : wr.heap.size < w2.heap.size := (by have := hB2.size; (try simp at this); omega); have HB2 := Lib.hid hB2; clear hB2)
                have HB3 := Lib.hid ((HBW.out.alloc HBW.out.size _).trans (HB2.out.mono (by have := HBW.out.size; simp; omega)))
                go_roundw
                case rel => exact ⟨k + 1, _, by omega, by go_num, HST.out, HD.out, HB3.out.alloc HB3.out.size _⟩
                case measure => simp [intOf]; omega
              · simp only [] at hn hf hq
                rw [hf] at HCON
                simp only [placeRet] at HCON
                have HD : Hid (dupGo [] (flat l) = some yn) := by
                  rw [← HDUP.out, symsFrom_drop hks, HY.out, List.cons_append, dupGo, if_pos ⟨rfl, by rw [hn]; rfl⟩]; rfl
                have HQ := Lib.hid hq
                clear hcat2 hn hf hq
                go_wp2_with (go_at_call 232; refine HCON.out.mono ?_; rintro e w2 ⟨rfl, hB2⟩; obtain ⟨hc2, hf2⟩ := bcell hB2; have hz2 : wr.heap.size < w2.heap.size := (by have := hB2.size; (try simp at this); omega); have HB2 := Lib.hid hB2; clear hB2)
                all_goals
                  have HB3 := Lib.hid ((HBW.out.alloc HBW.out.size _).trans (HB2.out.mono (by have := HBW.out.size; simp; omega)))
                  first
                  | (go_ret2; exact ⟨by rw [HE.out, HD.out]; rfl, HB3.out.alloc HB3.out.size _⟩)
                  | (exfalso; exact HQ.out ⟨by omega, by omega⟩)
            · have HD := Lib.hid (dup_step hks HY.out HDUP.out (by simp [hb1]))
              have bb1 : (yb == 1) = false := by simpa using hb1
              clear hb1 hcat2
              generalize firstBy (flat l) yn.data.toList 1 = fp at HCON
              rw [placeRet_eq] at HCON
              go_wp2_with (go_at_call 232; refine HCON.out.mono ?_; rintro e w2 ⟨rfl, hB2⟩; obtain ⟨hc2, hf2⟩ := bcell hB2; have hz2 : wr.heap.size < w2.heap.size := (by have := hB2.size; (try simp at this); omega); have HB2 := Lib.hid hB2; clear hB2)
              have HB3 := Lib.hid ((HBW.out.alloc HBW.out.size _).trans (HB2.out.mono (by have := HBW.out.size; simp; omega)))
              go_roundw
              case rel => exact ⟨k + 1, _, by omega, by go_num, HST.out, HD.out, HB3.out.alloc HB3.out.size _⟩
              case measure => simp [intOf]; omega
          · have hcat := HCAT.out
            have hdup := HDUP.out
            rw [List.drop_of_length_le (by omega), symsFrom, List.nil_append] at hcat hdup
            have HCAT2 := Lib.hid hcat; clear hcat
            have HDUP2 := Lib.hid hdup; clear hdup
            go_wp2
            go_roundw
            case rel => exact ⟨i + 1, pre, by omega, by go_num, HCAT2.out, HDUP2.out, HBW.out⟩
            case measure => simp [intOf]; omega
      · have hdup := HDUP.out
        rw [List.drop_of_length_le (by omega), objsFrom] at hdup
        have HD : Hid (dupGo [] (flat l) = none) := by rw [← hdup]; cases pre <;> rfl
        clear hdup HDUP HCAT
        go_wp2
        go_ret2
        exact ⟨by rw [HE.out, HD.out]; rfl, HBW.out⟩
end Go.Proofs.YtdjgkmpjhpnkeaaGreatDoor
namespace Go.Proofs.YtdjgkmpjhpnkeaaGreatDoor
open Go.RowKit Go.Maps Go.WideMaps
theorem findRef_any (v : Value) (l : List GObj) (i : Int) (nm : ByteArray) (w : World) (h : ObjsAt w v l) (h2 : i < l.length) :
    Calls Tryz.prog 160 #[v, .int .i64 i, .string nm] w fun e w' => e = .returned (placeRet (findR l i nm.data.toList)) ∧ Below w.heap.size w w' := by
  by_cases hi0 : i < 0
  · have hf : findR l i nm.data.toList = winnerIn (flat l) nm.data.toList := by unfold findR; rw [if_neg (by omega)]
    rw [hf]
    exact findRefNeg v l i nm w h hi0
  · obtain ⟨j, rfl⟩ := Int.eq_ofNat_of_zero_le (show 0 ≤ i by omega)
    exact findRefPos v l j nm w h (by omega)
set_option maxHeartbeats 1000000 in
theorem refFind_any (v : Value) (l : List GObj) (i : Int) (nm : ByteArray) (w : World) (h : ObjsAt w v l) :
    Calls Tryz.prog 62 #[v, .int .i64 i, .string nm] w fun e w' => e = .returned (findV (findAllR l i nm.data.toList)) ∧ Below w.heap.size w w' := by
  have HO := Lib.hid h
  have HBG := Lib.hid (refCheck_any v l (w.alloc (.cells #[.int .i64 0, .int .i64 0] 63)) (ObjsAt.keep (alloc_old w _) h))
  have hsh : ∃ (p : Option Addr) (cap : Nat), v = .slice p l.length cap := by obtain ⟨p, cap, b, o, rfl, _⟩ := h; exact ⟨p, cap, rfl⟩
  obtain ⟨p, cap, rfl⟩ := hsh
  clear h
  have HFA : Hid (findAllR l i nm.data.toList = if (beginRR l).2 ≠ 0 then ((0, 0), (beginRR l).2) else if i < -1 ∨ (l.length : Int) ≤ i then ((0, 0), 2) else match findR l i nm.data.toList with | some p => (p, 0) | none => ((0, 0), 121)) := rfl
  generalize (beginRR l).2 = c at HBG HFA
  generalize (beginRR l).1 = bn at HBG
  go_enter Tryz.func62, Tryz.ntmps62
  go_wp2_with fail
  refine HBG.out.mono ?_
  rintro e w1 ⟨rfl, hB⟩
  obtain ⟨hc1, hf1⟩ := bcell hB
  have hz : w.heap.size < w1.heap.size := by have := hB.size; (try simp at this); omega
  have HBW := Lib.hid ((alloc_old w (.cells #[.int .i64 0, .int .i64 0] 63)).trans (hB.mono (by simp)))
  have q0 : w1.cell? ⟨w.heap.size, 0, none⟩ = some (.int .i64 0) := by rw [hB.cell (by simp)]; simp [go_sem]
  have q1 : w1.cell? ⟨w.heap.size, 1, none⟩ = some (.int .i64 0) := by rw [hB.cell (by simp)]; simp [go_sem]
  by_cases hc0 : c = 0
  · subst hc0
    by_cases hr : i < -1 ∨ (l.length : Int) ≤ i
    · have HF : Hid (findAllR l i nm.data.toList = ((0, 0), 2)) := by rw [HFA.out, if_neg (by simp), if_pos hr]; rfl
      go_wp2_with fail
      all_goals
        rw [HF.out]
        refine bodyPost_ret (v := .tuple #[.agg #[.int .i64 0, .int .i64 0], .int .i64 2]) (by simp [results, Tryz.results62, go_sem, q0, q1]) rfl ⟨rfl, ?_⟩
        exact (HBW.out.setCell (by simp) _).setCell (by simp) _
    · have hr1 : ¬ i < -1 := fun h => hr (.inl h)
      have hr2 : ¬ (l.length : Int) ≤ i := fun h => hr (.inr h)
      have HF : Hid (findAllR l i nm.data.toList = match findR l i nm.data.toList with | some p => (p, 0) | none => ((0, 0), 121)) := by rw [HFA.out, if_neg (by simp), if_neg hr]; rfl
      have HCON := Lib.hid (findRef_any _ l i nm w1 (ObjsAt.keep HBW.out HO.out) (by omega))
      generalize findR l i nm.data.toList = fr at HF HCON
      cases fr with
      | none =>
        simp only [placeRet] at HCON
        go_wp2_with (go_at_call 160; refine HCON.out.mono ?_; rintro e w2 ⟨rfl, hB2⟩; obtain ⟨hc2, hf2⟩ := bcell hB2; have hz2 : w.heap.size < w2.heap.size := (by have := hB2.size; omega))
        have q0' : w2.cell? ⟨w.heap.size, 0, none⟩ = some (.int .i64 0) := cell_keep hB2 hz q0
        have q1' : w2.cell? ⟨w.heap.size, 1, none⟩ = some (.int .i64 0) := cell_keep hB2 hz q1
        rw [HF.out]
        refine bodyPost_ret (v := .tuple #[.agg #[.int .i64 0, .int .i64 0], .int .i64 121]) (by simp [results, Tryz.results62, go_sem, q0', q1', hz2]) rfl ⟨rfl, ?_⟩
        have hfin : Below w.heap.size w w2 := HBW.out.trans (hB2.mono HBW.out.size)
        exact ((hfin.setCell (by simp) _).setCell (by simp) _).alloc (by simp; omega) _
      | some pq =>
        obtain ⟨pi, pk⟩ := pq
        simp only [placeRet] at HCON
        go_wp2_with (go_at_call 160; refine HCON.out.mono ?_; rintro e w2 ⟨rfl, hB2⟩; obtain ⟨hc2, hf2⟩ := bcell hB2; have hz2 : w.heap.size < w2.heap.size := (by have := hB2.size; omega))
        have q0' : w2.cell? ⟨w.heap.size, 0, none⟩ = some (.int .i64 0) := cell_keep hB2 hz q0
        have q1' : w2.cell? ⟨w.heap.size, 1, none⟩ = some (.int .i64 0) := cell_keep hB2 hz q1
        rw [HF.out]
        refine bodyPost_ret (v := .tuple #[.agg #[.int .i64 (pi : Nat), .int .i64 (pk : Nat)], .int .i64 0]) (by simp [results, Tryz.results62, go_sem, q0', q1', hz2]) rfl ⟨rfl, ?_⟩
        have hfin : Below w.heap.size w w2 := HBW.out.trans (hB2.mono HBW.out.size)
        exact ((hfin.setCell (by simp) _).setCell (by simp) _).alloc (by simp; omega) _
  · have hcb : (c != 0) = true := by simpa using hc0
    have HF : Hid (findAllR l i nm.data.toList = ((0, 0), c)) := by rw [HFA.out, if_pos hc0]; rfl
    clear hc0
    go_wp2_with fail
    rw [HF.out]
    refine bodyPost_ret (v := .tuple #[.agg #[.int .i64 0, .int .i64 0], .int .i64 c]) (by simp [results, Tryz.results62, go_sem, q0, q1]) rfl ⟨rfl, ?_⟩
    exact (HBW.out.setCell (by simp) _).setCell (by simp) _
end Go.Proofs.YtdjgkmpjhpnkeaaGreatDoor
