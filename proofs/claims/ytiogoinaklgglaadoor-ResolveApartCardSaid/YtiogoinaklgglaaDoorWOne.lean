/- The walk of aediculelaw12.ResolveOne. -/
import Derived.Test.YtiogoinaklgglaaDoorWAlive12
import Derived.Test.YtiogoinaklgglaaDoorWLarge
import Derived.Test.YtiogoinaklgglaaDoorPlainOne
namespace Go.Proofs.YtiogoinaklgglaaDoor
open Go.RowKit Go.Maps Go.WideMaps
set_option maxRecDepth 100000 in
set_option maxHeartbeats 1000000 in
theorem one_guard (v : Value) (l : List GObj) (f : Int) (nm : ByteArray) (w : World) (h : ObjsAt w v l) (hnm : nm.size ≤ 140737488355328) (hg : largeB l = true ∨ 1024 < nm.size ∨ l.length = 0) :
    Calls Tryd.prog 3 #[v, .int .u8 f, .string nm] w fun e w' => e = .returned (.bool true) ∧ Below w.heap.size w w' := by
  have HL := Lib.hid (large_any v l w h)
  obtain ⟨p, cap, b, o, rfl, hcap, hmax, -, -⟩ := h
  have arm : ∀ w1 : World, Below w.heap.size w w1 → True := fun _ _ => trivial
  by_cases h1 : largeB l = true
  · rw [h1] at HL
    clear hg h1
    go_enter Tryd.func3, Tryd.ntmps3
    go_wp2_with (first | (go_at_call 6; refine HL.out.mono ?_; rintro e w1 ⟨rfl, hB1⟩) | (go_at_call 7; refine (alive12_any _).mono ?_; rintro e w2 ⟨rfl, hB2⟩))
    go_ret
    exact ⟨rfl, hB1.trans (hB2.mono hB1.size)⟩
  · have h1' : largeB l = false := by simpa using h1
    rw [h1'] at HL
    clear h1
    by_cases h2 : 1024 < nm.size
    · clear hg h1'
      have h2' : decide ((1024 : Int) < (nm.size : Int)) = true := by simp; omega
      go_enter Tryd.func3, Tryd.ntmps3
      go_wp2_with (first | (go_at_call 6; refine HL.out.mono ?_; rintro e w1 ⟨rfl, hB1⟩) | (go_at_call 7; refine (alive12_any _).mono ?_; rintro e w2 ⟨rfl, hB2⟩))
      go_ret
      exact ⟨rfl, hB1.trans (hB2.mono hB1.size)⟩
    · have h3 : ((l.length : Int) == 0) = true := by
        rcases hg with h | h | h
        · rw [h1'] at h; cases h
        · exact absurd h h2
        · simp [h]
      have h2' : decide ((1024 : Int) < (nm.size : Int)) = false := by simp; omega
      clear hg h1'
      go_enter Tryd.func3, Tryd.ntmps3
      go_wp2_with (first | (go_at_call 6; refine HL.out.mono ?_; rintro e w1 ⟨rfl, hB1⟩) | (go_at_call 7; refine (alive12_any _).mono ?_; rintro e w2 ⟨rfl, hB2⟩))
      go_ret
      exact ⟨rfl, hB1.trans (hB2.mono hB1.size)⟩
set_option maxRecDepth 100000 in
set_option maxHeartbeats 1000000 in
theorem one_err (v : Value) (l : List GObj) (f : Nat) (nm : ByteArray) (w : World) (h : ObjsAt w v l) (hf : f ≤ 255) (hnm : nm.size ≤ 140737488355328) (h1 : largeB l = false) (h2 : ¬ 1024 < nm.size) (h3 : 0 < l.length) (a b : Nat) (c : Int)
    (hF : findAll l ((f % l.length : Nat) : Int) nm.data.toList = ((a, b), c)) (hc : c = 2 ∨ c = 120) :
    Calls Tryd.prog 3 #[v, .int .u8 f, .string nm] w fun e w' => e = .returned (.bool true) ∧ Below w.heap.size w w' := by
  have HL := Lib.hid (large_any v l w h)
  rw [h1] at HL
  have HO := Lib.hid h
  obtain ⟨p, cap, bb, o, rfl, hcap, hmax, -, -⟩ := h
  have b2 : decide ((1024 : Int) < (nm.size : Int)) = false := by simp; omega
  have b3 : ((l.length : Int) == 0) = false := by simp; intro h; subst h; simp at h3
  have HF := Lib.hid hF; clear hF h1
  go_enter Tryd.func3, Tryd.ntmps3
  go_wp2_with (go_at_call 6; refine HL.out.mono ?_; rintro e w1 ⟨rfl, hB1⟩)
  rw [← Int.natCast_emod]
  have hil := Nat.mod_lt f h3
  generalize f % l.length = i at *
  refine (findV_val (ObjsAt.keep hB1 HO.out) (by omega) _ _ _ HF.out).mono ?_
  rintro e w2 ⟨rfl, hB2⟩
  have HB2 := Lib.hid (hB1.trans (hB2.mono hB1.size)); clear hB1 hB2
  rcases hc with rfl | rfl
  all_goals
    go_wp2_with (go_at_call 7; refine (alive12_any _).mono ?_; rintro e w3 ⟨rfl, hB3⟩)
    go_ret
    exact ⟨rfl, (HB2.out.alloc HB2.out.size _).trans (hB3.mono (by have := HB2.out.size; simp; omega))⟩
set_option maxRecDepth 100000 in
set_option maxHeartbeats 4000000 in
theorem one_undef_any (v : Value) (l : List GObj) (f : Nat) (nm : ByteArray) (w : World) (h : ObjsAt w v l) (hf : f ≤ 255) (hnm : nm.size ≤ 140737488355328) (h1 : largeB l = false) (h2 : ¬ 1024 < nm.size) (h3 : 0 < l.length) (hfl : (flat l).length ≤ 1024) (a b : Nat)
    (hF : findAll l ((f % l.length : Nat) : Int) nm.data.toList = ((a, b), 121)) (hf1 : cntBy (flat l) nm.data.toList 1 = 0) (hf2 : cntBy (flat l) nm.data.toList 2 = 0) (hf3 : ownIn (flat l) (f % l.length) nm.data.toList = false) :
    Calls Tryd.prog 3 #[v, .int .u8 f, .string nm] w fun e w' => e = .returned (.bool true) ∧ Below w.heap.size w w' := by
  have HL := Lib.hid (large_any v l w h)
  rw [h1] at HL
  have HO := Lib.hid h
  obtain ⟨p, cap, bb, o, rfl, hcap, hmax, hp, hc⟩ := h
  have HC := Lib.hid hc; clear hc
  obtain rfl := hp h3
  clear hp
  have b2 : decide ((1024 : Int) < (nm.size : Int)) = false := by simp; omega
  have b3 : ((l.length : Int) == 0) = false := by simp; intro h; subst h; simp at h3
  have HF := Lib.hid hF; clear hF h1
  go_enter Tryd.func3, Tryd.ntmps3
  go_wp2_with (go_at_call 6; refine HL.out.mono ?_; rintro e w1 ⟨rfl, hB1⟩)
  rw [← Int.natCast_emod]
  have hil := Nat.mod_lt f h3
  generalize f % l.length = i at *
  refine (findV_val (ObjsAt.keep hB1 HO.out) (by omega) _ _ _ HF.out).mono ?_
  rintro e w2 ⟨rfl, hB2⟩
  have HB2 := Lib.hid (hB1.trans (hB2.mono hB1.size)); clear hB1 hB2
  go_wp2
  go_loopw [10, 11, 12, 13] (fun v10 v11 v12 v13 wr => ∃ (j : Nat) (pre : List Spot), j ≤ l.length ∧ v13 = .int .i64 j ∧ v10 = .int .i64 (cntBy pre nm.data.toList 1) ∧ v11 = .int .i64 (cntBy pre nm.data.toList 2) ∧ v12 = .bool (ownIn pre i nm.data.toList) ∧ pre ++ objsFrom j (l.drop j) = flat l ∧ Below (w2.heap.size + 1) (w2.alloc (.cells #[.int .i64 a, .int .i64 b] 26)) wr) (fun _ _ _ v13 _ => l.length - (intOf v13).toNat)
  case atStart => exact ⟨0, [], Nat.zero_le _, rfl, rfl, rfl, rfl, rfl, Below.refl _ _⟩
  case round =>
    obtain ⟨j, pre, hj, rfl, rfl, rfl, rfl, hcat, hbel⟩ := hrel
    have HCAT := Lib.hid hcat; clear hcat
    have HB := Lib.hid hbel; clear hbel
    have HBW : Hid (Below w.heap.size w wr) := (HB2.out.alloc HB2.out.size _).trans (HB.out.mono (by have := HB2.out.size; omega))
    by_cases hlt : j < l.length
    · obtain ⟨vs, g0, g1, g2, hin⟩ := HC.out j hlt
      have G2 := Lib.hid g2
      have hcat := HCAT.out
      rw [objsFrom_drop hlt] at hcat
      generalize hx : l[j] = x at g1 hin hcat
      obtain ⟨xn, xs⟩ := x
      simp only [] at g1 hin hcat
      obtain ⟨⟨pS, capS, bS, oS, rfl, hcapS, hmaxS, hpS, hcS⟩, hnmx⟩ := hin
      clear HCAT hx g1 g2
      have HCAT := Lib.hid hcat; clear hcat
      have HCS := Lib.hid hcS; clear hcS
      have HPS := Lib.hid hpS; clear hpS
      go_wp2
      obtain ⟨wo, rfl⟩ : ∃ wo : World, wo = wr := ⟨_, rfl⟩
      go_loopw [10, 11, 12, 14] (fun v10 v11 v12 v14 wr => ∃ (k : Nat) (pre : List Spot), k ≤ xs.length ∧ v14 = .int .i64 k ∧ v10 = .int .i64 (cntBy pre nm.data.toList 1) ∧ v11 = .int .i64 (cntBy pre nm.data.toList 2) ∧ v12 = .bool (ownIn pre i nm.data.toList) ∧ pre ++ (symsFrom j k (xs.drop k) ++ objsFrom (j + 1) (l.drop (j + 1))) = flat l ∧ Below (w2.heap.size + 1) (w2.alloc (.cells #[.int .i64 a, .int .i64 b] 26)) wr) (fun _ _ _ v14 _ => xs.length - (intOf v14).toNat)
      case atStart => exact ⟨0, pre, Nat.zero_le _, rfl, rfl, rfl, rfl, HCAT.out, HB.out⟩
      case round =>
        clear HCAT HB HBW
        obtain ⟨k, pre, hk, rfl, rfl, rfl, rfl, hcat, hbel⟩ := hrel
        have HCAT := Lib.hid hcat; clear hcat
        have HB := Lib.hid hbel; clear hbel
        have HBW : Hid (Below w.heap.size w wr) := (HB2.out.alloc HB2.out.size _).trans (HB.out.mono (by have := HB2.out.size; omega))
        have g2 := cell_keep HBW.out g0 G2.out
        have g0' := size_keep HBW.out g0
        by_cases hks : k < xs.length
        · obtain rfl := HPS.out (by omega)
          obtain ⟨vr, vn, s0, s1, s2, s3, s4, s5, s6, s7, hsin⟩ := symR_keeps _ _ _ _ _ HBW.out (HCS.out k hks)
          obtain ⟨p1, q1, p2, q2, rfl, rfl⟩ := hsin.shape
          generalize hy : xs[k] = y at s1 s2 s3 s4 s5 s6 s7 hsin
          obtain ⟨yn, yb, yk, ys, yy, yr, yt⟩ := y
          simp only [] at s1 s2 s3 s4 s5 s6 s7 hsin
          have HY := Lib.hid hy; clear hy
          have HST := Lib.hid (cat_step hks HY.out HCAT.out)
          have hpl : pre.length < 1024 := by
            have h1 := hfl
            rw [← HCAT.out, List.length_append, List.length_append, symsFrom_length, List.length_drop] at h1
            omega
          have hc1 : cntBy pre nm.data.toList 1 ≤ pre.length := List.length_filter_le _ _
          have hc2 : cntBy pre nm.data.toList 2 ≤ pre.length := List.length_filter_le _ _
          have HS1 := Lib.hid (cntBy_snoc pre ⟨j, k, ⟨yn, yb, yk, ys, yy, yr, yt⟩⟩ nm.data.toList 1)
          have HS2 := Lib.hid (cntBy_snoc pre ⟨j, k, ⟨yn, yb, yk, ys, yy, yr, yt⟩⟩ nm.data.toList 2)
          have HS3 := Lib.hid (ownIn_snoc pre ⟨j, k, ⟨yn, yb, yk, ys, yy, yr, yt⟩⟩ i nm.data.toList)
          clear hsin
          have z0 : w2.heap.size + 1 ≤ wr.heap.size := by have := HB.out.size; simp at this; omega
          by_cases hnn : yn.data.toList = nm.data.toList
          · have bq : (yn.toList == nm.toList) = true := by rw [toList_beq, hnn]; simp
            have H1 : Hid (∀ b, hits nm.data.toList b ⟨j, k, ⟨yn, yb, yk, ys, yy, yr, yt⟩⟩ = decide (yb = b)) := fun b => by simp [hits, hnn]
            clear hnn
            go_wp2
            all_goals
              go_roundw
              case rel => exact ⟨k + 1, _, by omega, by go_num, congrArg (Value.int .i64) (by rw [HS1.out, H1.out]; go_light; simp_all; try omega), congrArg (Value.int .i64) (by rw [HS2.out, H1.out]; go_light; simp_all; try omega), congrArg Value.bool (by rw [HS3.out, H1.out]; go_light; simp_all [ibeq]; try omega), HST.out, HB.out.alloc (by omega) _⟩
              case measure => simp [intOf]; omega
          · have bq : (yn.toList == nm.toList) = false := by rw [toList_beq, beq_eq_false_iff_ne]; exact hnn
            have H1 : Hid (∀ b, hits nm.data.toList b ⟨j, k, ⟨yn, yb, yk, ys, yy, yr, yt⟩⟩ = false) := fun b => hits_other (fun e => hnn e.symm)
            clear hnn
            go_wp2
            go_roundw
            case rel => exact ⟨k + 1, _, by omega, by go_num, congrArg (Value.int .i64) (by rw [HS1.out, H1.out]; simp), congrArg (Value.int .i64) (by rw [HS2.out, H1.out]; simp), congrArg Value.bool (by rw [HS3.out, H1.out]; simp), HST.out, HB.out.alloc (by omega) _⟩
            case measure => simp [intOf]; omega
        · have hcat := HCAT.out
          rw [List.drop_of_length_le (by omega), symsFrom, List.nil_append] at hcat
          have HCAT2 := Lib.hid hcat; clear hcat
          go_wp2
          go_roundw
          case rel => exact ⟨j + 1, pre, by omega, by go_num, rfl, rfl, rfl, HCAT2.out, HB.out⟩
          case measure => simp [intOf]; omega
    · have hcat := HCAT.out
      rw [List.drop_of_length_le (by omega), objsFrom, List.append_nil] at hcat
      subst hcat
      clear HCAT
      rw [hf1, hf2, hf3]
      clear hf1 hf2 hf3
      go_wp2_with (go_at_call 7; refine (alive12_any _).mono ?_; rintro e w3 ⟨rfl, hB3⟩)
      go_ret
      exact ⟨rfl, HBW.out.trans (hB3.mono HBW.out.size)⟩
end Go.Proofs.YtiogoinaklgglaaDoor
