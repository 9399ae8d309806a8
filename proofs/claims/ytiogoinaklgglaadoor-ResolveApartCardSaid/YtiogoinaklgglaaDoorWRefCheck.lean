/- The walk of aediculeref12.Check. -/
import Derived.Test.YtiogoinaklgglaaDoorWRefFirst
namespace Go.Proofs.YtiogoinaklgglaaDoor
open Go.RowKit Go.Maps Go.WideMaps
set_option maxRecDepth 100000 in
set_option maxHeartbeats 2000000 in
theorem refCheck_any (v : Value) (l : List GObj) (w : World) (h : ObjsAt w v l) :
    Calls Tryd.prog 11 #[v] w fun e w' => e = .returned (.tuple #[.string (beginRR l).1, .int .i64 (beginRR l).2]) ∧ Below w.heap.size w w' := by
  have HM := Lib.hid (ref12May_any v l w h)
  have HO := Lib.hid h
  obtain ⟨p, cap, b, o, rfl, hcap, hmax, hp, hc⟩ := h
  have HC := Lib.hid hc; clear hc
  have HP := Lib.hid hp; clear hp
  cases hm : mayAllR l with
  | false =>
    have HE : Hid (beginRR l = (emptyB, 2)) := by unfold beginRR; rw [hm]; rfl
    rw [hm] at HM
    clear hm
    go_enter Tryd.func11, Tryd.ntmps11
    go_wp2_with (go_at_call 23; refine HM.out.mono ?_; rintro e w1 ⟨rfl, hB⟩)
    go_ret2
    exact ⟨by rw [HE.out]; rfl, hB⟩
  | true =>
    have HE : Hid (beginRR l = (match dupGo [] (flat l) with | some n => (n, 120) | none => (emptyB, 0))) := by unfold beginRR; rw [hm]; rfl
    rw [hm] at HM
    clear hm
    go_enter Tryd.func11, Tryd.ntmps11
    go_wp2_with (go_at_call 23; refine HM.out.mono ?_; rintro e w1 ⟨rfl, hB⟩)
    have HB1 := Lib.hid hB; clear hB
    go_loopw [4] (fun v4 wr => ∃ (i : Nat) (pre : List Spot), i ≤ l.length ∧ v4 = .int .i64 i ∧ pre ++ objsFrom i (l.drop i) = flat l ∧ dupGo pre (objsFrom i (l.drop i)) = dupGo [] (flat l) ∧ Below w.heap.size w wr) (fun v4 _ => l.length - (intOf v4).toNat)
    case atStart => exact ⟨0, [], Nat.zero_le _, rfl, rfl, rfl, HB1.out⟩
    case round =>
      obtain ⟨i, pre, hi, rfl, hcat, hdup, hbel⟩ := hrel
      have HCAT := Lib.hid hcat; clear hcat
      have HDUP := Lib.hid hdup; clear hdup
      have HBW := Lib.hid hbel; clear hbel
      by_cases hlt : i < l.length
      · obtain rfl := HP.out (by omega)
        obtain ⟨vs, g0, g1, g2, hin⟩ := HC.out i hlt
        have G2 := Lib.hid g2
        have hcat := HCAT.out
        have hdup := HDUP.out
        rw [objsFrom_drop hlt] at hcat hdup
        generalize hx : l[i] = x at g1 hin hcat hdup
        obtain ⟨xn, xs⟩ := x
        simp only [] at g1 hin hcat hdup
        obtain ⟨⟨pS, capS, bS, oS, rfl, hcapS, hmaxS, hpS, hcS⟩, hnmx⟩ := hin
        clear HCAT HDUP hx g1 g2
        have HCAT := Lib.hid hcat; clear hcat
        have HDUP := Lib.hid hdup; clear hdup
        have HCS := Lib.hid hcS; clear hcS
        have HPS := Lib.hid hpS; clear hpS
        go_wp2
        obtain ⟨wo, rfl⟩ : ∃ wo : World, wo = wr := ⟨_, rfl⟩
        go_loopw [5] (fun v5 wr => ∃ (k : Nat) (pre : List Spot), k ≤ xs.length ∧ v5 = .int .i64 k ∧ pre ++ (symsFrom i k (xs.drop k) ++ objsFrom (i + 1) (l.drop (i + 1))) = flat l ∧ dupGo pre (symsFrom i k (xs.drop k) ++ objsFrom (i + 1) (l.drop (i + 1))) = dupGo [] (flat l) ∧ Below w.heap.size w wr) (fun v5 _ => xs.length - (intOf v5).toNat)
        case atStart => exact ⟨0, pre, Nat.zero_le _, rfl, HCAT.out, HDUP.out, HBW.out⟩
        case round =>
          clear HCAT HDUP HBW
          obtain ⟨k, pre, hk, rfl, hcat, hdup, hbel⟩ := hrel
          have HCAT := Lib.hid hcat; clear hcat
          have HDUP := Lib.hid hdup; clear hdup
          have HBW := Lib.hid hbel; clear hbel
          have g2 := cell_keep HBW.out g0 G2.out
          have g0' := size_keep HBW.out g0
          by_cases hks : k < xs.length
          · obtain rfl := HPS.out (by omega)
            obtain ⟨vr, vn, s0, s1, s2, s3, s4, s5, s6, s7, hsin⟩ := symR_keeps _ _ _ _ _ HBW.out (HCS.out k hks)
            obtain ⟨p1, q1, p2, q2, rfl, rfl⟩ := hsin.shape
            generalize hy : xs[k] = y at s1 s2 s3 s4 s5 s6 s7 hsin
            obtain ⟨yn, yb, yk, ys, yy, yr, yt⟩ := y
            simp only [] at s1 s2 s3 s4 s5 s6 s7 hsin
            clear hsin
            have HY := Lib.hid hy; clear hy
            have HST := Lib.hid (cat_step hks HY.out HCAT.out)
            have hcat2 := HCAT.out
            rw [symsFrom_drop hks, HY.out, List.cons_append] at hcat2
            have HCON := Lib.hid (firstR_any _ l yn 1 (wr.alloc (.cells #[.string yn, .int .u8 yb, .int .u8 yk, .int .u32 ys, .string yy, .slice p1 yr.length q1, .slice p2 yt.length q2] 37)) (ObjsAt.keep (HBW.out.alloc HBW.out.size _) HO.out))
            by_cases hb1 : yb = 1
            · subst hb1
              rcases first_self hcat2 rfl with ⟨hn, hf⟩ | ⟨⟨a1, b1⟩, hn, hf, hq⟩
              · simp only [] at hn hf
                rw [hf] at HCON
                simp only [placeRet] at HCON
                have HD := Lib.hid (dup_step hks HY.out HDUP.out (by simp [hn]))
                clear hcat2 hn hf
                go_wp2_with (go_at_call 24; refine HCON.out.mono ?_; rintro e w2 ⟨rfl, hB2⟩; obtain ⟨hc2, hf2⟩ := bcell hB2; have hz2 : wr.heap.size < w2.heap.size := (by have := hB2.size; (try simp at this); omega); have HB2 := Lib.hid hB2; clear hB2)
                have HB3 := Lib.hid ((HBW.out.alloc HBW.out.size _).trans (HB2.out.mono (by have := HBW.out.size; simp; omega)))
                go_roundw
                case rel => exact ⟨k + 1, _, by omega, by go_num, HST.out, HD.out, HB3.out.alloc HB3.out.size _⟩
                case measure => simp [intOf]; omega
              · simp only [] at hn hf hq
                rw [hf] at HCON
                simp only [placeRet] at HCON
                have HD : Hid (dupGo [] (flat l) = some yn) := by
                  rw [← HDUP.out, symsFrom_drop hks, HY.out, List.cons_append, dupGo, if_pos ⟨rfl, by rw [hn]; rfl⟩]; rfl
                have HQ := Lib.hid hq
                clear hcat2 hn hf hq
                go_wp2_with (go_at_call 24; refine HCON.out.mono ?_; rintro e w2 ⟨rfl, hB2⟩; obtain ⟨hc2, hf2⟩ := bcell hB2; have hz2 : wr.heap.size < w2.heap.size := (by have := hB2.size; (try simp at this); omega); have HB2 := Lib.hid hB2; clear hB2)
                all_goals
                  have HB3 := Lib.hid ((HBW.out.alloc HBW.out.size _).trans (HB2.out.mono (by have := HBW.out.size; simp; omega)))
                  first
                  | (go_ret2; exact ⟨by rw [HE.out, HD.out]; rfl, HB3.out.alloc HB3.out.size _⟩)
                  | (exfalso; exact HQ.out ⟨by omega, by omega⟩)
            · have HD := Lib.hid (dup_step hks HY.out HDUP.out (by simp [hb1]))
              have bb1 : (yb == 1) = false := by simpa using hb1
              clear hb1 hcat2
              generalize firstBy (flat l) yn.data.toList 1 = fp at HCON
              rw [placeRet_eq] at HCON
              go_wp2_with (go_at_call 24; refine HCON.out.mono ?_; rintro e w2 ⟨rfl, hB2⟩; obtain ⟨hc2, hf2⟩ := bcell hB2; have hz2 : wr.heap.size < w2.heap.size := (by have := hB2.size; (try simp at this); omega); have HB2 := Lib.hid hB2; clear hB2)
              have HB3 := Lib.hid ((HBW.out.alloc HBW.out.size _).trans (HB2.out.mono (by have := HBW.out.size; simp; omega)))
              go_roundw
              case rel => exact ⟨k + 1, _, by omega, by go_num, HST.out, HD.out, HB3.out.alloc HB3.out.size _⟩
              case measure => simp [intOf]; omega
          · have hcat := HCAT.out
            have hdup := HDUP.out
            rw [List.drop_of_length_le (by omega), symsFrom, List.nil_append] at hcat hdup
            have HCAT2 := Lib.hid hcat; clear hcat
            have HDUP2 := Lib.hid hdup; clear hdup
            go_wp2
            go_roundw
            case rel => exact ⟨i + 1, pre, by omega, by go_num, HCAT2.out, HDUP2.out, HBW.out⟩
            case measure => simp [intOf]; omega
      · have hdup := HDUP.out
        rw [List.drop_of_length_le (by omega), objsFrom] at hdup
        have HD : Hid (dupGo [] (flat l) = none) := by rw [← hdup]; cases pre <;> rfl
        clear hdup HDUP HCAT
        go_wp2
        go_ret2
        exact ⟨by rw [HE.out, HD.out]; rfl, HBW.out⟩
end Go.Proofs.YtiogoinaklgglaaDoor
