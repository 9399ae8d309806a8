/- The walks of aediculeref12's first, winner and find. -/
import Derived.Test.YtiogoinaklgglaaDoorWFind
import Derived.Test.YtiogoinaklgglaaDoorWRefMay
namespace Go.Proofs.YtiogoinaklgglaaDoor
open Go.RowKit Go.Maps Go.WideMaps
theorem firstBy_hit {pre rest fl : List Spot} {x : Spot} {n : List UInt8} {b : Int} (hcat : pre ++ (x :: rest) = fl) (hno : firstBy pre n b = none) (hh : hits n b x = true) : firstBy fl n b = some (x.obj, x.sym) := by
  unfold firstBy at hno ⊢
  simp only [Option.map_eq_none_iff] at hno
  rw [← hcat, List.find?_append, hno]
  simp [hh]
theorem firstBy_miss {pre : List Spot} {x : Spot} {n : List UInt8} {b : Int} (hno : firstBy pre n b = none) (hh : hits n b x = false) : firstBy (pre ++ [x]) n b = none := by
  rw [firstBy_snoc, hno, hh]; rfl
set_option maxRecDepth 100000 in
set_option maxHeartbeats 2000000 in
theorem firstR_any (v : Value) (l : List GObj) (nm : ByteArray) (bd : Int) (w : World) (h : ObjsAt w v l) :
    Calls Tryd.prog 24 #[v, .string nm, .int .u8 bd] w fun e w' => e = .returned (placeRet (firstBy (flat l) nm.data.toList bd)) ∧ Below w.heap.size w w' := by
  obtain ⟨p, cap, b, o, rfl, hcap, hmax, hp, hc⟩ := h
  have HC := Lib.hid hc; clear hc
  have HP := Lib.hid hp; clear hp
  go_enter Tryd.func24, Tryd.ntmps24
  go_wp2
  go_loop [8] (fun v8 => ∃ (i : Nat) (pre : List Spot), i ≤ l.length ∧ v8 = .int .i64 i ∧ pre ++ objsFrom i (l.drop i) = flat l ∧ firstBy pre nm.data.toList bd = none) (fun v8 => l.length - (intOf v8).toNat)
  case atStart => exact ⟨0, [], Nat.zero_le _, rfl, rfl, rfl⟩
  case round =>
    obtain ⟨i, pre, hi, rfl, hcat, hno⟩ := hrel
    have HCAT := Lib.hid hcat; clear hcat
    have HNO := Lib.hid hno; clear hno
    by_cases hlt : i < l.length
    · obtain rfl := HP.out (by omega)
      obtain ⟨vs, g0, g1, g2, hin⟩ := HC.out i hlt
      have hcat := HCAT.out
      rw [objsFrom_drop hlt] at hcat
      generalize hx : l[i] = x at g1 hin hcat
      obtain ⟨xn, xs⟩ := x
      simp only [] at g1 hin hcat
      obtain ⟨⟨pS, capS, bS, oS, rfl, hcapS, hmaxS, hpS, hcS⟩, hnmx⟩ := hin
      clear HCAT hx g1
      have HCAT := Lib.hid hcat; clear hcat
      have HCS := Lib.hid hcS; clear hcS
      have HPS := Lib.hid hpS; clear hpS
      go_wp2
      go_loop [9] (fun v9 => ∃ (k : Nat) (pre : List Spot), k ≤ xs.length ∧ v9 = .int .i64 k ∧ pre ++ (symsFrom i k (xs.drop k) ++ objsFrom (i + 1) (l.drop (i + 1))) = flat l ∧ firstBy pre nm.data.toList bd = none) (fun v9 => xs.length - (intOf v9).toNat)
      case atStart => exact ⟨0, pre, Nat.zero_le _, rfl, HCAT.out, HNO.out⟩
      case round =>
        clear HCAT HNO
        obtain ⟨k, pre, hk, rfl, hcat, hno⟩ := hrel
        have HCAT := Lib.hid hcat; clear hcat
        have HNO := Lib.hid hno; clear hno
        by_cases hks : k < xs.length
        · obtain rfl := HPS.out (by omega)
          obtain ⟨vr, vn, s0, s1, s2, -⟩ := HCS.out k hks
          generalize hy : xs[k] = y at s1 s2
          obtain ⟨yn, yb, yk, ys, yy, yr, yt⟩ := y
          simp only [] at s1 s2
          have HY := Lib.hid hy; clear hy
          have HST := Lib.hid (cat_step hks HY.out HCAT.out)
          by_cases hh : yn.data.toList = nm.data.toList ∧ yb = bd
          · obtain ⟨h1, rfl⟩ := hh
            have bq : (yn.toList == nm.toList) = true := by rw [toList_beq, h1]; simp
            have HF : Hid (firstBy (flat l) nm.data.toList yb = some (i, k)) := by
              have hcat := HCAT.out
              rw [symsFrom_drop hks, HY.out, List.cons_append] at hcat
              exact firstBy_hit hcat HNO.out (by simp [hits, h1])
            clear h1
            go_wp2
            rw [HF.out]
            refine bodyPost_ret (v := .tuple #[.agg #[.int .i64 (i : Nat), .int .i64 (k : Nat)], .bool true]) (by simp [results, Tryd.results24, go_sem]) rfl ⟨rfl, ?_⟩
            exact alloc_old w _
          · have HH : Hid (hits nm.data.toList bd ⟨i, k, ⟨yn, yb, yk, ys, yy, yr, yt⟩⟩ = false) := by
              cases hq : hits nm.data.toList bd ⟨i, k, ⟨yn, yb, yk, ys, yy, yr, yt⟩⟩ with
              | false => rfl
              | true => simp [hits] at hq; exact absurd ⟨by rw [hq.1], hq.2⟩ hh
            by_cases h1 : yn.data.toList = nm.data.toList
            · have bq : (yn.toList == nm.toList) = true := by rw [toList_beq, h1]; simp
              have b2 : (yb == bd) = false := by rw [beq_eq_false_iff_ne]; exact fun e => hh ⟨h1, e⟩
              clear h1 hh
              go_wp2
              go_round
              case rel => exact ⟨k + 1, _, by omega, by go_num, HST.out, firstBy_miss HNO.out HH.out⟩
              case measure => simp [intOf]; omega
            · have bq : (yn.toList == nm.toList) = false := by rw [toList_beq, beq_eq_false_iff_ne]; exact h1
              clear h1 hh
              go_wp2
              go_round
              case rel => exact ⟨k + 1, _, by omega, by go_num, HST.out, firstBy_miss HNO.out HH.out⟩
              case measure => simp [intOf]; omega
        · have hcat := HCAT.out
          rw [List.drop_of_length_le (by omega), symsFrom, List.nil_append] at hcat
          have HCAT2 := Lib.hid hcat; clear hcat
          go_wp2
          go_round
          case rel => exact ⟨i + 1, pre, by omega, by go_num, HCAT2.out, HNO.out⟩
          case measure => simp [intOf]; omega
    · have hcat := HCAT.out
      rw [List.drop_of_length_le (by omega), objsFrom, List.append_nil] at hcat
      subst hcat
      clear HCAT
      go_wp2
      rw [HNO.out]
      refine bodyPost_ret (v := .tuple #[.agg #[.int .i64 0, .int .i64 0], .bool false]) (by simp [results, Tryd.results24, go_sem]) rfl ⟨rfl, ?_⟩
      exact alloc_old w _
set_option maxHeartbeats 1000000 in
theorem winnerR_any (v : Value) (l : List GObj) (nm : ByteArray) (w : World) (h : ObjsAt w v l) :
    Calls Tryd.prog 28 #[v, .string nm] w fun e w' => e = .returned (placeRet (winnerIn (flat l) nm.data.toList)) ∧ Below w.heap.size w w' := by
  have HO := Lib.hid h; clear h
  have HC1 := Lib.hid (firstR_any v l nm 1 (w.alloc (.cells #[.int .i64 0, .int .i64 0] 26)) (ObjsAt.keep (alloc_old w _) HO.out))
  cases hf1 : firstBy (flat l) nm.data.toList 1 with
  | some p1 =>
    obtain ⟨a1, b1⟩ := p1
    rw [hf1] at HC1
    have HW : Hid (winnerIn (flat l) nm.data.toList = some (a1, b1)) := by unfold winnerIn; rw [hf1]; rfl
    clear hf1
    simp only [placeRet] at HC1
    go_enter Tryd.func28, Tryd.ntmps28
    go_wp2_with (go_at_call 24; refine HC1.out.mono ?_; rintro e w1 ⟨rfl, hB⟩; obtain ⟨hc1, hf1⟩ := bcell hB; have hz1 : w.heap.size < w1.heap.size := (by have := hB.size; (try simp at this); omega))
    have q0 : w1.cell? ⟨w.heap.size, 0, none⟩ = some (.int .i64 0) := by rw [hB.cell (by simp)]; simp [go_sem]
    have q1 : w1.cell? ⟨w.heap.size, 1, none⟩ = some (.int .i64 0) := by rw [hB.cell (by simp)]; simp [go_sem]
    rw [HW.out]
    refine bodyPost_ret (v := .tuple #[.agg #[.int .i64 (a1 : Nat), .int .i64 (b1 : Nat)], .bool true]) (by simp [results, Tryd.results28, go_sem, q0, q1, hz1]) rfl ⟨rfl, ?_⟩
    exact ((((alloc_old w _).trans (hB.mono (by simp))).setCell (by simp) _).setCell (by simp) _).alloc (by simp; omega) _
  | none =>
    rw [hf1] at HC1
    simp only [placeRet] at HC1
    have HW : Hid (winnerIn (flat l) nm.data.toList = firstBy (flat l) nm.data.toList 2) := by unfold winnerIn; rw [hf1]; rfl
    clear hf1
    go_enter Tryd.func28, Tryd.ntmps28
    go_wp2_with fail
    refine HC1.out.mono ?_
    rintro e w1 ⟨rfl, hB⟩
    have HBW := Lib.hid ((alloc_old w (.cells #[.int .i64 0, .int .i64 0] 26)).trans (hB.mono (by simp)))
    have hz1 : w.heap.size < w1.heap.size := by have := hB.size; (try simp at this); omega
    have q0 : w1.cell? ⟨w.heap.size, 0, none⟩ = some (.int .i64 0) := by rw [hB.cell (by simp)]; simp [go_sem]
    have q1 : w1.cell? ⟨w.heap.size, 1, none⟩ = some (.int .i64 0) := by rw [hB.cell (by simp)]; simp [go_sem]
    have f0 : w1.frozen? ⟨w.heap.size, 0, none⟩ = false := by rw [hB.frozen (by simp)]; simp [go_sem]
    have f1 : w1.frozen? ⟨w.heap.size, 1, none⟩ = false := by rw [hB.frozen (by simp)]; simp [go_sem]
    have HC2 := Lib.hid (firstR_any v l nm 2 (w1.alloc (.cells #[.int .i64 0, .int .i64 0] 26)) (ObjsAt.keep (HBW.out.alloc HBW.out.size _) HO.out))
    clear hB
    go_wp2_with fail
    refine HC2.out.mono ?_
    rintro e w2 ⟨rfl, hB2⟩
    have hz2 : w1.heap.size < w2.heap.size := by have := hB2.size; (try simp at this); omega
    have q0' : w2.cell? ⟨w.heap.size, 0, none⟩ = some (.int .i64 0) := by rw [hB2.cell (by simp; omega)]; simp [go_sem, *]
    have q1' : w2.cell? ⟨w.heap.size, 1, none⟩ = some (.int .i64 0) := by rw [hB2.cell (by simp; omega)]; simp [go_sem, *]
    have f0' : w2.frozen? ⟨w.heap.size, 0, none⟩ = false := by rw [hB2.frozen (by simp; omega)]; simp [go_sem, *]
    have f1' : w2.frozen? ⟨w.heap.size, 1, none⟩ = false := by rw [hB2.frozen (by simp; omega)]; simp [go_sem, *]
    have r0 : w2.cell? ⟨w1.heap.size, 0, none⟩ = some (.int .i64 0) := by rw [hB2.cell (by simp)]; simp [go_sem]
    have r1 : w2.cell? ⟨w1.heap.size, 1, none⟩ = some (.int .i64 0) := by rw [hB2.cell (by simp)]; simp [go_sem]
    have t0 : w2.frozen? ⟨w1.heap.size, 0, none⟩ = false := by rw [hB2.frozen (by simp)]; simp [go_sem]
    have t1 : w2.frozen? ⟨w1.heap.size, 1, none⟩ = false := by rw [hB2.frozen (by simp)]; simp [go_sem]
    have hne : ¬ w1.heap.size = w.heap.size := by omega
    have hne' : ¬ w.heap.size = w1.heap.size := by omega
    have HBW2 := Lib.hid ((HBW.out.alloc HBW.out.size (.cells #[.int .i64 0, .int .i64 0] 26)).trans (hB2.mono (by simp; omega)))
    clear hB2 q0 q1 f0 f1
    generalize firstBy (flat l) nm.data.toList 2 = fp at HW ⊢
    rw [placeRet_eq]
    go_wp2_with fail
    rw [HW.out, placeRet_eq]
    refine bodyPost_ret (v := .tuple #[.agg #[.int .i64 ((fp.getD (0, 0)).1 : Nat), .int .i64 ((fp.getD (0, 0)).2 : Nat)], .bool fp.isSome]) (by simp [results, Tryd.results28, go_sem, *, World.cell?_setCell_far]) rfl ⟨rfl, ?_⟩
    exact (((HBW2.out.setCell (by simp; omega) _).setCell (by simp; omega) _).setCell (by simp) _).setCell (by simp) _
set_option maxRecDepth 100000 in
set_option maxHeartbeats 1000000 in
theorem findRefNeg (v : Value) (l : List GObj) (i : Int) (nm : ByteArray) (w : World) (h : ObjsAt w v l) (hi : i < 0) :
    Calls Tryd.prog 25 #[v, .int .i64 i, .string nm] w fun e w' => e = .returned (placeRet (winnerIn (flat l) nm.data.toList)) ∧ Below w.heap.size w w' := by
  have HC1 := Lib.hid (winnerR_any v l nm (w.alloc (.cells #[.int .i64 0, .int .i64 0] 26)) (ObjsAt.keep (alloc_old w _) h)); clear h
  generalize winnerIn (flat l) nm.data.toList = fp at HC1 ⊢
  rw [placeRet_eq] at HC1 ⊢
  go_enter Tryd.func25, Tryd.ntmps25
  go_wp2_with (go_at_call 28; refine HC1.out.mono ?_; rintro e w1 ⟨rfl, hB⟩; obtain ⟨hc1, hf1⟩ := bcell hB; have hz1 : w.heap.size < w1.heap.size := (by have := hB.size; (try simp at this); omega))
  have q0 : w1.cell? ⟨w.heap.size, 0, none⟩ = some (.int .i64 0) := by rw [hB.cell (by simp)]; simp [go_sem]
  have q1 : w1.cell? ⟨w.heap.size, 1, none⟩ = some (.int .i64 0) := by rw [hB.cell (by simp)]; simp [go_sem]
  refine bodyPost_ret (v := .tuple #[.agg #[.int .i64 ((fp.getD (0, 0)).1 : Nat), .int .i64 ((fp.getD (0, 0)).2 : Nat)], .bool fp.isSome]) (by simp [results, Tryd.results25, go_sem, q0, q1]) rfl ⟨rfl, ?_⟩
  exact (((alloc_old w _).trans (hB.mono (by simp))).setCell (by simp) _).setCell (by simp) _
set_option maxRecDepth 100000 in
set_option maxHeartbeats 1000000 in
theorem findRefPos (v : Value) (l : List GObj) (i : Nat) (nm : ByteArray) (w : World) (h : ObjsAt w v l) (hi : i < l.length) :
    Calls Tryd.prog 25 #[v, .int .i64 i, .string nm] w fun e w' => e = .returned (placeRet (findR l i nm.data.toList)) ∧ Below w.heap.size w w' := by
  have HC1 := Lib.hid (winnerR_any v l nm (w.alloc (.cells #[.int .i64 0, .int .i64 0] 26)) (ObjsAt.keep (alloc_old w _) h))
  obtain ⟨p, cap, b, o, rfl, hcap, hmax, hp, hc⟩ := h
  obtain rfl := hp (by omega)
  obtain ⟨vs, g0, g1, g2, hin⟩ := hc i hi
  clear hc hp g1
  have hloc : localAt l i nm.data.toList = (l[i].syms.findIdx? (isLocal nm.data.toList)).map (fun k => (i, k)) := by simp [localAt, List.getElem?_eq_getElem hi]
  have HF : Hid (findR l i nm.data.toList = match (l[i].syms.findIdx? (isLocal nm.data.toList)).map (fun k => (i, k)) with | some p => some p | none => winnerIn (flat l) nm.data.toList) := by
    unfold findR; rw [if_pos (by omega), Int.toNat_natCast, hloc]; rfl
  clear hloc
  generalize l[i] = x at hin HF
  obtain ⟨xn, xs⟩ := x
  simp only [] at hin HF
  obtain ⟨⟨pS, capS, bS, oS, rfl, hcapS, hmaxS, hpS, hcS⟩, -⟩ := hin
  simp only [] at hcapS hmaxS hpS hcS g2
  have HCS := Lib.hid hcS; clear hcS
  have HPS := Lib.hid hpS; clear hpS
  go_enter Tryd.func25, Tryd.ntmps25
  go_wp2
  go_loop [8] (fun v8 => ∃ k : Nat, k ≤ xs.length ∧ v8 = .int .i64 k ∧ (xs.take k).all (fun x => !isLocal nm.data.toList x) = true) (fun v8 => xs.length - (intOf v8).toNat)
  case atStart => exact ⟨0, Nat.zero_le _, rfl, rfl⟩
  case round =>
    obtain ⟨k, hk, rfl, hall⟩ := hrel
    have HA := Lib.hid hall; clear hall
    by_cases hks : k < xs.length
    · obtain rfl := HPS.out (by omega)
      obtain ⟨vr, vn, s0, s1, s2, -⟩ := HCS.out k hks
      generalize hy : xs[k] = y at s1 s2
      obtain ⟨yn, yb, yk, ys, yy, yr, yt⟩ := y
      simp only [] at s1 s2
      have HY := Lib.hid hy; clear hy
      by_cases h1 : yn.data.toList = nm.data.toList
      · have bq : (yn.toList == nm.toList) = true := by rw [toList_beq, h1]; simp
        by_cases h2 : yb = 0
        · subst h2
          have HL : Hid (isLocal nm.data.toList ⟨yn, 0, yk, ys, yy, yr, yt⟩ = true) := by simp [isLocal, h1, Hid]
          clear h1
          go_wp2
          rw [HF.out, findIdx_some hks HY.out HL.out HA.out]
          refine bodyPost_ret (v := .tuple #[.agg #[.int .i64 (i : Nat), .int .i64 (k : Nat)], .bool true]) (by simp [results, Tryd.results25, go_sem]) rfl ⟨rfl, ?_⟩
          exact alloc_old w _
        · have b2 : (yb == 0) = false := by simpa using h2
          have HL : Hid (isLocal nm.data.toList ⟨yn, yb, yk, ys, yy, yr, yt⟩ = false) := by simp [isLocal, h2, Hid]
          clear h1 h2
          go_wp2
          go_round
          case rel => exact ⟨k + 1, by omega, by go_num, take_all_snoc hks HY.out HA.out (by rw [HL.out]; rfl)⟩
          case measure => simp [intOf]; omega
      · have bq : (yn.toList == nm.toList) = false := by rw [toList_beq, beq_eq_false_iff_ne]; exact h1
        have HL : Hid (isLocal nm.data.toList ⟨yn, yb, yk, ys, yy, yr, yt⟩ = false) := by
          have : (yn.data.toList == nm.data.toList) = false := by rw [beq_eq_false_iff_ne]; exact h1
          simp only [Hid, isLocal, this, Bool.false_and]
        clear h1
        go_wp2
        go_round
        case rel => exact ⟨k + 1, by omega, by go_num, take_all_snoc hks HY.out HA.out (by rw [HL.out]; rfl)⟩
        case measure => simp [intOf]; omega
    · have HF2 : Hid (findR l i nm.data.toList = winnerIn (flat l) nm.data.toList) := by rw [HF.out, findIdx_none (all_end hks HA.out)]; rfl
      clear HF
      generalize winnerIn (flat l) nm.data.toList = fp at HC1 HF2
      rw [placeRet_eq] at HC1
      go_wp2_with (go_at_call 28; refine HC1.out.mono ?_; rintro e w1 ⟨rfl, hB⟩; obtain ⟨hc1, hf1⟩ := bcell hB; have hz1 : w.heap.size < w1.heap.size := (by have := hB.size; (try simp at this); omega))
      have q0 : w1.cell? ⟨w.heap.size, 0, none⟩ = some (.int .i64 0) := by rw [hB.cell (by simp)]; simp [go_sem]
      have q1 : w1.cell? ⟨w.heap.size, 1, none⟩ = some (.int .i64 0) := by rw [hB.cell (by simp)]; simp [go_sem]
      rw [HF2.out, placeRet_eq]
      refine bodyPost_ret (v := .tuple #[.agg #[.int .i64 ((fp.getD (0, 0)).1 : Nat), .int .i64 ((fp.getD (0, 0)).2 : Nat)], .bool fp.isSome]) (by simp [results, Tryd.results25, go_sem, q0, q1]) rfl ⟨rfl, ?_⟩
      exact (((alloc_old w _).trans (hB.mono (by simp))).setCell (by simp) _).setCell (by simp) _
end Go.Proofs.YtiogoinaklgglaaDoor
