/- The walk of aediculelaw12.ResolveOne where a symbol is found. -/
import Derived.Test.YtiogoinaklgglaaDoorWOne
namespace Go.Proofs.YtiogoinaklgglaaDoor
open Go.RowKit Go.Maps Go.WideMaps
set_option maxRecDepth 100000 in
set_option maxHeartbeats 4000000 in
theorem one_ok_any (v : Value) (l : List GObj) (f : Nat) (nm : ByteArray) (w : World) (h : ObjsAt w v l) (hf : f ≤ 255) (hnm : nm.size ≤ 140737488355328) (h1 : largeB l = false) (h2 : ¬ 1024 < nm.size) (h3 : 0 < l.length) (hfl : (flat l).length ≤ 1024) (a b : Nat)
    (hF : findAll l ((f % l.length : Nat) : Int) nm.data.toList = ((a, b), 0)) (os : GObj) (sy : GSym) (hla : l[a]? = some os) (hsb : os.syms[b]? = some sy) (hsn : sy.name.data.toList = nm.data.toList) (hsw : sy.bind = wantB (ownIn (flat l) (f % l.length) nm.data.toList) (cntBy (flat l) nm.data.toList 1)) (hcn : cntBy (flat l) nm.data.toList 1 ≤ 1) (hoi : ownIn (flat l) (f % l.length) nm.data.toList = true → a = f % l.length) :
    Calls Tryd.prog 3 #[v, .int .u8 f, .string nm] w fun e w' => e = .returned (.bool true) ∧ Below w.heap.size w w' := by
  have HLA := Lib.hid hla; clear hla
  have HSB := Lib.hid hsb; clear hsb
  have HSN := Lib.hid hsn; clear hsn
  have HSW := Lib.hid hsw; clear hsw
  have HOI := Lib.hid hoi; clear hoi
  have HL := Lib.hid (large_any v l w h)
  rw [h1] at HL
  have HO := Lib.hid h
  obtain ⟨p, cap, bb, o, rfl, hcap, hmax, hp, hc⟩ := h
  have HC := Lib.hid hc; clear hc
  obtain rfl := hp h3
  clear hp
  have b2 : decide ((1024 : Int) < (nm.size : Int)) = false := by simp; omega
  have b3 : ((l.length : Int) == 0) = false := by simp; intro h; subst h; simp at h3
  have HF := Lib.hid hF; clear hF h1
  go_enter Tryd.func3, Tryd.ntmps3
  go_wp2_with (go_at_call 6; refine HL.out.mono ?_; rintro e w1 ⟨rfl, hB1⟩)
  rw [← Int.natCast_emod]
  have hil := Nat.mod_lt f h3
  generalize f % l.length = i at *
  refine (findV_val (ObjsAt.keep hB1 HO.out) (by omega) _ _ _ HF.out).mono ?_
  rintro e w2 ⟨rfl, hB2⟩
  have HB2 := Lib.hid (hB1.trans (hB2.mono hB1.size)); clear hB1 hB2
  go_wp2
  go_loopw [10, 11, 12, 13] (fun v10 v11 v12 v13 wr => ∃ (j : Nat) (pre : List Spot), j ≤ l.length ∧ v13 = .int .i64 j ∧ v10 = .int .i64 (cntBy pre nm.data.toList 1) ∧ v11 = .int .i64 (cntBy pre nm.data.toList 2) ∧ v12 = .bool (ownIn pre i nm.data.toList) ∧ pre ++ objsFrom j (l.drop j) = flat l ∧ Below (w2.heap.size + 1) (w2.alloc (.cells #[.int .i64 a, .int .i64 b] 26)) wr) (fun _ _ _ v13 _ => l.length - (intOf v13).toNat)
  case atStart => exact ⟨0, [], Nat.zero_le _, rfl, rfl, rfl, rfl, rfl, Below.refl _ _⟩
  case round =>
    obtain ⟨j, pre, hj, rfl, rfl, rfl, rfl, hcat, hbel⟩ := hrel
    have HCAT := Lib.hid hcat; clear hcat
    have HB := Lib.hid hbel; clear hbel
    have HBW : Hid (Below w.heap.size w wr) := (HB2.out.alloc HB2.out.size _).trans (HB.out.mono (by have := HB2.out.size; omega))
    by_cases hlt : j < l.length
    · obtain ⟨vs, g0, g1, g2, hin⟩ := HC.out j hlt
      have G2 := Lib.hid g2
      have hcat := HCAT.out
      rw [objsFrom_drop hlt] at hcat
      generalize hx : l[j] = x at g1 hin hcat
      obtain ⟨xn, xs⟩ := x
      simp only [] at g1 hin hcat
      obtain ⟨⟨pS, capS, bS, oS, rfl, hcapS, hmaxS, hpS, hcS⟩, hnmx⟩ := hin
      clear HCAT hx g1 g2
      have HCAT := Lib.hid hcat; clear hcat
      have HCS := Lib.hid hcS; clear hcS
      have HPS := Lib.hid hpS; clear hpS
      go_wp2
      obtain ⟨wo, rfl⟩ : ∃ wo : World, wo = wr := ⟨_, rfl⟩
      go_loopw [10, 11, 12, 14] (fun v10 v11 v12 v14 wr => ∃ (k : Nat) (pre : List Spot), k ≤ xs.length ∧ v14 = .int .i64 k ∧ v10 = .int .i64 (cntBy pre nm.data.toList 1) ∧ v11 = .int .i64 (cntBy pre nm.data.toList 2) ∧ v12 = .bool (ownIn pre i nm.data.toList) ∧ pre ++ (symsFrom j k (xs.drop k) ++ objsFrom (j + 1) (l.drop (j + 1))) = flat l ∧ Below (w2.heap.size + 1) (w2.alloc (.cells #[.int .i64 a, .int .i64 b] 26)) wr) (fun _ _ _ v14 _ => xs.length - (intOf v14).toNat)
      case atStart => exact ⟨0, pre, Nat.zero_le _, rfl, rfl, rfl, rfl, HCAT.out, HB.out⟩
      case round =>
        clear HCAT HB HBW
        obtain ⟨k, pre, hk, rfl, rfl, rfl, rfl, hcat, hbel⟩ := hrel
        have HCAT := Lib.hid hcat; clear hcat
        have HB := Lib.hid hbel; clear hbel
        have HBW : Hid (Below w.heap.size w wr) := (HB2.out.alloc HB2.out.size _).trans (HB.out.mono (by have := HB2.out.size; omega))
        have g2 := cell_keep HBW.out g0 G2.out
        have g0' := size_keep HBW.out g0
        by_cases hks : k < xs.length
        · obtain rfl := HPS.out (by omega)
          obtain ⟨vr, vn, s0, s1, s2, s3, s4, s5, s6, s7, hsin⟩ := symR_keeps _ _ _ _ _ HBW.out (HCS.out k hks)
          obtain ⟨p1, q1, p2, q2, rfl, rfl⟩ := hsin.shape
          generalize hy : xs[k] = y at s1 s2 s3 s4 s5 s6 s7 hsin
          obtain ⟨yn, yb, yk, ys, yy, yr, yt⟩ := y
          simp only [] at s1 s2 s3 s4 s5 s6 s7 hsin
          have HY := Lib.hid hy; clear hy
          have HST := Lib.hid (cat_step hks HY.out HCAT.out)
          have hpl : pre.length < 1024 := by
            have h1 := hfl
            rw [← HCAT.out, List.length_append, List.length_append, symsFrom_length, List.length_drop] at h1
            omega
          have hc1 : cntBy pre nm.data.toList 1 ≤ pre.length := List.length_filter_le _ _
          have hc2 : cntBy pre nm.data.toList 2 ≤ pre.length := List.length_filter_le _ _
          have HS1 := Lib.hid (cntBy_snoc pre ⟨j, k, ⟨yn, yb, yk, ys, yy, yr, yt⟩⟩ nm.data.toList 1)
          have HS2 := Lib.hid (cntBy_snoc pre ⟨j, k, ⟨yn, yb, yk, ys, yy, yr, yt⟩⟩ nm.data.toList 2)
          have HS3 := Lib.hid (ownIn_snoc pre ⟨j, k, ⟨yn, yb, yk, ys, yy, yr, yt⟩⟩ i nm.data.toList)
          clear hsin
          have z0 : w2.heap.size + 1 ≤ wr.heap.size := by have := HB.out.size; simp at this; omega
          by_cases hnn : yn.data.toList = nm.data.toList
          · have bq : (yn.toList == nm.toList) = true := by rw [toList_beq, hnn]; simp
            have H1 : Hid (∀ b, hits nm.data.toList b ⟨j, k, ⟨yn, yb, yk, ys, yy, yr, yt⟩⟩ = decide (yb = b)) := fun b => by simp [hits, hnn]
            clear hnn
            go_wp2
            all_goals
              go_roundw
              case rel => exact ⟨k + 1, _, by omega, by go_num, congrArg (Value.int .i64) (by rw [HS1.out, H1.out]; go_light; simp_all; try omega), congrArg (Value.int .i64) (by rw [HS2.out, H1.out]; go_light; simp_all; try omega), congrArg Value.bool (by rw [HS3.out, H1.out]; go_light; simp_all [ibeq]; try omega), HST.out, HB.out.alloc (by omega) _⟩
              case measure => simp [intOf]; omega
          · have bq : (yn.toList == nm.toList) = false := by rw [toList_beq, beq_eq_false_iff_ne]; exact hnn
            have H1 : Hid (∀ b, hits nm.data.toList b ⟨j, k, ⟨yn, yb, yk, ys, yy, yr, yt⟩⟩ = false) := fun b => hits_other (fun e => hnn e.symm)
            clear hnn
            go_wp2
            go_roundw
            case rel => exact ⟨k + 1, _, by omega, by go_num, congrArg (Value.int .i64) (by rw [HS1.out, H1.out]; simp), congrArg (Value.int .i64) (by rw [HS2.out, H1.out]; simp), congrArg Value.bool (by rw [HS3.out, H1.out]; simp), HST.out, HB.out.alloc (by omega) _⟩
            case measure => simp [intOf]; omega
        · have hcat := HCAT.out
          rw [List.drop_of_length_le (by omega), symsFrom, List.nil_append] at hcat
          have HCAT2 := Lib.hid hcat; clear hcat
          go_wp2
          go_roundw
          case rel => exact ⟨j + 1, pre, by omega, by go_num, rfl, rfl, rfl, HCAT2.out, HB.out⟩
          case measure => simp [intOf]; omega
    · have hcat := HCAT.out
      rw [List.drop_of_length_le (by omega), objsFrom, List.append_nil] at hcat
      subst hcat
      clear HCAT
      generalize ownIn (flat l) i nm.data.toList = own at HSW HOI ⊢
      generalize cntBy (flat l) nm.data.toList 1 = c1 at HSW hcn ⊢
      generalize cntBy (flat l) nm.data.toList 2 = c2
      have hc01 : c1 = 0 ∨ c1 = 1 := by omega
      obtain ⟨hal, hla⟩ := List.getElem?_eq_some_iff.1 HLA.out
      obtain ⟨hbl, hsb⟩ := List.getElem?_eq_some_iff.1 HSB.out
      obtain ⟨vs, g0, g1, g2, hin⟩ := HC.out a hal
      replace g2 := cell_keep HBW.out g0 g2
      have g0' := size_keep HBW.out g0
      rw [hla] at hin
      obtain ⟨⟨pS, capS, bS, oS, rfl, hcapS, hmaxS, hpS, hcS⟩, -⟩ := hin
      obtain rfl := hpS (by omega)
      have hb2 := hcS b hbl
      rw [hsb] at hb2
      obtain ⟨vr, vn, s0, s1, s2, s3, s4, s5, s6, s7, hsin⟩ := symR_keeps _ _ _ _ _ HBW.out hb2
      obtain ⟨p1, q1, p2, q2, rfl, rfl⟩ := hsin.shape
      clear hb2 hcS hpS hla hsb hsin g1 HLA HSB
      obtain ⟨yn, yb, yk, ys, yy, yr, yt⟩ := sy
      simp only [] at s1 s2 s3 s4 s5 s6 s7 HSN HSW
      generalize os.syms.length = nS at g2 hbl hcapS hmaxS
      have k0 : wr.cell? ⟨w2.heap.size, 0, none⟩ = some (.int .i64 a) := by rw [HB.out.cell (by simp)]; simp [go_sem]
      have k1 : wr.cell? ⟨w2.heap.size, 1, none⟩ = some (.int .i64 b) := by rw [HB.out.cell (by simp)]; simp [go_sem]
      have z0 : w2.heap.size < wr.heap.size := by have := HB.out.size; simp at this; omega
      have bq : (yn.toList == nm.toList) = true := by rw [toList_beq, HSN.out]; simp
      have e1 : decide ((l.length : Int) ≤ (a : Int)) = false := by simp; omega
      have e2 : decide ((nS : Int) ≤ (b : Int)) = false := by simp; omega
      have e3 : (0 : Int) ≤ (a : Int) := by omega
      have e4 : (a : Int) < (l.length : Int) := by omega
      have e5 : (0 : Int) ≤ (b : Int) := by omega
      have e6 : (b : Int) < (nS : Int) := by omega
      have e7 : decide ((a : Int) < 0) = false := by simp
      have e8 : decide ((b : Int) < 0) = false := by simp
      go_wp2
      go_quiet (fail)
      rename_i nq
      go_wp2
      have HBQ : Hid (Below (w2.heap.size + 1) (w2.alloc (.cells #[.int .i64 a, .int .i64 b] 26)) (wr.drewN nq)) := below_drewN HB.out nq
      have HBWQ : Hid (Below w.heap.size w (wr.drewN nq)) := below_drewN HBW.out nq
      have hS : (fun w' => w'.cell? ⟨w2.heap.size, 0, none⟩ = some (.int .i64 a) ∧ w'.cell? ⟨w2.heap.size, 1, none⟩ = some (.int .i64 b) ∧ w'.cell? ⟨bb, o + a * 2 + 1, none⟩ = some (.slice (some ⟨bS, oS, none⟩) nS capS) ∧ w'.cell? ⟨bS, oS + b * 7, none⟩ = some (.string yn) ∧ w'.cell? ⟨bS, oS + b * 7 + 1, none⟩ = some (.int .u8 yb) ∧ w'.cell? ⟨bS, oS + b * 7 + 2, none⟩ = some (.int .u8 yk) ∧ w'.cell? ⟨bS, oS + b * 7 + 3, none⟩ = some (.int .u32 ys) ∧ w'.cell? ⟨bS, oS + b * 7 + 4, none⟩ = some (.string yy) ∧ w'.cell? ⟨bS, oS + b * 7 + 5, none⟩ = some (.slice p1 yr.length q1) ∧ w'.cell? ⟨bS, oS + b * 7 + 6, none⟩ = some (.slice p2 yt.length q2)) (wr.drewN nq) := ⟨k0, k1, g2, s1, s2, s3, s4, s5, s6, s7⟩
      have hzq : (wr.drewN nq).heap.size = wr.heap.size := rfl
      generalize wr.drewN nq = wq at *
      rw [← hzq] at z0 g0' s0
      clear k0 k1 g2 s1 s2 s3 s4 s5 s6 s7 HB HBW hzq
      obtain ⟨k0, k1, g2, s1, s2, s3, s4, s5, s6, s7⟩ := hS
      have n1 : ¬ wq.heap.size = w2.heap.size := by omega
      have n2 : ¬ wq.heap.size = bb := by omega
      have n3 : ¬ wq.heap.size = bS := by omega
      go_region_held3 (fun w' => w'.cell? ⟨w2.heap.size, 0, none⟩ = some (.int .i64 a) ∧ w'.cell? ⟨w2.heap.size, 1, none⟩ = some (.int .i64 b) ∧ w'.cell? ⟨bb, o + a * 2 + 1, none⟩ = some (.slice (some ⟨bS, oS, none⟩) nS capS) ∧ w'.cell? ⟨bS, oS + b * 7, none⟩ = some (.string yn) ∧ w'.cell? ⟨bS, oS + b * 7 + 1, none⟩ = some (.int .u8 yb) ∧ w'.cell? ⟨bS, oS + b * 7 + 2, none⟩ = some (.int .u8 yk) ∧ w'.cell? ⟨bS, oS + b * 7 + 3, none⟩ = some (.int .u32 ys) ∧ w'.cell? ⟨bS, oS + b * 7 + 4, none⟩ = some (.string yy) ∧ w'.cell? ⟨bS, oS + b * 7 + 5, none⟩ = some (.slice p1 yr.length q1) ∧ w'.cell? ⟨bS, oS + b * 7 + 6, none⟩ = some (.slice p2 yt.length q2)) (go_keep) (fail)
      clear n1 n2 n3
      cases own with
      | true =>
        obtain rfl : yb = 0 := HSW.out
        obtain rfl : a = i := HOI.out rfl
        rcases hc01 with rfl | rfl
        all_goals
          go_wp2_with (go_at_call 7; refine (alive12_any _).mono ?_; rintro e w3 ⟨rfl, hB3⟩)
          go_ret
          exact ⟨rfl, (HBWQ.out.alloc HBWQ.out.size _).drew.trans (hB3.mono (by have := HBWQ.out.size; simp; omega))⟩
      | false =>
        rcases hc01 with rfl | rfl
        · obtain rfl : yb = 2 := HSW.out
          go_wp2_with (go_at_call 7; refine (alive12_any _).mono ?_; rintro e w3 ⟨rfl, hB3⟩)
          go_ret
          exact ⟨rfl, (HBWQ.out.alloc HBWQ.out.size _).drew.trans (hB3.mono (by have := HBWQ.out.size; simp; omega))⟩
        · obtain rfl : yb = 1 := HSW.out
          go_wp2_with (go_at_call 7; refine (alive12_any _).mono ?_; rintro e w3 ⟨rfl, hB3⟩)
          go_ret
          exact ⟨rfl, (HBWQ.out.alloc HBWQ.out.size _).drew.trans (hB3.mono (by have := HBWQ.out.size; simp; omega))⟩
end Go.Proofs.YtiogoinaklgglaaDoor
