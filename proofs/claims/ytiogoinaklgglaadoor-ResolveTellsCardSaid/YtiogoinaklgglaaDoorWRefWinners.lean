/- The walk of aediculeref12.Winners. -/
import Derived.Test.YtiogoinaklgglaaDoorWRefFind
import Derived.Test.YtiogoinaklgglaaDoorPlaces
namespace Go.Proofs.YtiogoinaklgglaaDoor
open Go.RowKit Go.Maps Go.WideMaps
set_option maxRecDepth 100000 in
set_option maxHeartbeats 4000000 in
theorem refWinners_any (v : Value) (l : List GObj) (w : World) (h : ObjsAt w v l) (hfl : (beginRR l).2 = 0 → (flat l).length ≤ 1024) :
    Calls Tryd.prog 16 #[v] w (WinPost w (if (beginRR l).2 = 0 then selPlaces (flat l) (flat l) else []) (beginRR l).2) := by
  have HK := Lib.hid (refCheck_any v l w h)
  have HO := Lib.hid h
  obtain ⟨p, cap, b, o, rfl, hcap, hmax, hp, hc⟩ := h
  have HC := Lib.hid hc; clear hc
  have HP := Lib.hid hp; clear hp
  generalize hbn : (beginRR l).1 = bn at HK
  clear hbn
  by_cases hc0 : (beginRR l).2 = 0
  · have hfl2 := hfl hc0
    rw [if_pos hc0]
    rw [hc0] at HK ⊢
    clear hfl
    have HC0 := Lib.hid hc0; clear hc0
    obtain ⟨i0, hin0, hz0, hz1, hz2⟩ := info_parts info_place
    go_enter Tryd.func16, Tryd.ntmps16
    go_wp2_with fail
    refine HK.out.mono ?_
    rintro e w1 ⟨rfl, hB⟩
    have HB1 := Lib.hid hB; clear hB
    have HI0 := Lib.hid hin0
    have HZ0 := Lib.hid hz0
    have HZ1 := Lib.hid hz1
    have HZ2 := Lib.hid hz2
    clear hin0 hz0 hz1 hz2
    go_wp2
    go_loopw [6, 7] (fun v6 v7 wr => ∃ (i : Nat) (pre : List Spot), i ≤ l.length ∧ v7 = .int .i64 i ∧ pre ++ objsFrom i (l.drop i) = flat l ∧ PRow w.heap.size wr v6 (selPlaces (flat l) pre) ∧ Below w.heap.size w wr) (fun _ v7 _ => l.length - (intOf v7).toNat)
    case atStart => exact ⟨0, [], Nat.zero_le _, rfl, rfl, PRow.nil _ _, HB1.out⟩
    case round =>
      obtain ⟨i, pre, hi, rfl, hcat, hown, hbel⟩ := hrel
      rename_i v6
      have HCAT := Lib.hid hcat; clear hcat
      have HOWN := Lib.hid hown; clear hown
      have HBW := Lib.hid hbel; clear hbel
      by_cases hlt : i < l.length
      · obtain rfl := HP.out (by omega)
        obtain ⟨vs, g0, g1, g2, hin⟩ := HC.out i hlt
        have G2 := Lib.hid g2
        have hcat := HCAT.out
        rw [objsFrom_drop hlt] at hcat
        generalize hx : l[i] = x at g1 hin hcat
        obtain ⟨xn, xs⟩ := x
        simp only [] at g1 hin hcat
        obtain ⟨⟨pS, capS, bS, oS, rfl, hcapS, hmaxS, hpS, hcS⟩, hnmx⟩ := hin
        clear HCAT hx g1 g2
        have HCAT := Lib.hid hcat; clear hcat
        have HCS := Lib.hid hcS; clear hcS
        have HPS := Lib.hid hpS; clear hpS
        go_wp2
        obtain ⟨wo, rfl⟩ : ∃ wo : World, wo = wr := ⟨_, rfl⟩
        go_loopw [6, 8] (fun v6 v8 wr => ∃ (k : Nat) (pre : List Spot), k ≤ xs.length ∧ v8 = .int .i64 k ∧ pre ++ (symsFrom i k (xs.drop k) ++ objsFrom (i + 1) (l.drop (i + 1))) = flat l ∧ PRow w.heap.size wr v6 (selPlaces (flat l) pre) ∧ Below w.heap.size w wr) (fun _ v8 _ => xs.length - (intOf v8).toNat)
        case atStart => exact ⟨0, pre, Nat.zero_le _, rfl, HCAT.out, HOWN.out, HBW.out⟩
        case round =>
          clear HCAT HBW HOWN
          obtain ⟨k, pre, hk, rfl, hcat, hown, hbel⟩ := hrel
          rename_i vcur
          have HCAT := Lib.hid hcat; clear hcat
          have HBW := Lib.hid hbel; clear hbel
          have HPR := Lib.hid hown; clear hown
          have g2 := cell_keep HBW.out g0 G2.out
          have g0' := size_keep HBW.out g0
          by_cases hks : k < xs.length
          · obtain rfl := HPS.out (by omega)
            obtain ⟨vr, vn, s0, s1, s2, s3, s4, s5, s6, s7, hsin⟩ := symR_keeps _ _ _ _ _ HBW.out (HCS.out k hks)
            obtain ⟨p1, q1, p2, q2, rfl, rfl⟩ := hsin.shape
            generalize hy : xs[k] = y at s1 s2 s3 s4 s5 s6 s7 hsin
            obtain ⟨yn, yb, yk, ys, yy, yr, yt⟩ := y
            simp only [] at s1 s2 s3 s4 s5 s6 s7 hsin
            clear hsin
            have HY := Lib.hid hy; clear hy
            have HST := Lib.hid (cat_step hks HY.out HCAT.out)
            have hplen : pre.length < 1024 := by
              have h1 := hfl2
              rw [← HCAT.out, List.length_append, List.length_append, symsFrom_length, List.length_drop] at h1
              omega
            have hsl := selPlaces_le (flat l) pre
            have HCON := Lib.hid (winnerR_any _ l yn ((wr.alloc (.cells #[.int .i64 i, .int .i64 k] 26)).alloc (.cells #[.string yn, .int .u8 yb, .int .u8 yk, .int .u32 ys, .string yy, .slice p1 yr.length q1, .slice p2 yt.length q2] 37)) (ObjsAt.keep ((HBW.out.alloc HBW.out.size _).alloc (by have := HBW.out.size; simp; omega) _) HO.out))
            have HSB : Hid (selB (flat l) ⟨i, k, ⟨yn, yb, yk, ys, yy, yr, yt⟩⟩ = (decide (yb = 0) || decide (winnerIn (flat l) yn.data.toList = some (i, k)))) := rfl
            generalize winnerIn (flat l) yn.data.toList = fp at HCON HSB
            rw [placeRet_eq] at HCON
            by_cases hb0 : yb = 0
            · have HSEL : Hid (selB (flat l) ⟨i, k, ⟨yn, yb, yk, ys, yy, yr, yt⟩⟩ = true) := by rw [HSB.out, hb0]; rfl
              subst hb0
              go_wp2_with (first | (go_at_call 28; refine HCON.out.mono ?_; rintro e w2 ⟨rfl, hB2⟩; obtain ⟨hc2, hf2⟩ := bcell hB2; have hz2 : wr.heap.size + 1 < w2.heap.size := (by have := hB2.size; (try simp at this); omega); have hz3 : wr.heap.size < w2.heap.size := (by omega); have HBX : Hid (Below wr.heap.size wr w2) := ((alloc_old wr _).alloc (by simp) _).trans (hB2.mono (by simp; omega)); clear hB2) | (at_builtin; refine wpList_append_own _ rfl _ _ 44 rfl w.heap.size 26 i0 (.agg #[.int .i64 0, .int .i64 0]) 2 16 Tryd.underlying44 HI0.out HZ0.out HZ1.out HZ2.out rfl (by decide) _ (selPlaces (flat l) pre).length (placeCells (selPlaces (flat l) pre)) rfl ?c0 _ 1 1 [.int .i64 i, .int .i64 k] rfl rfl ?c1 two_one ?c3 ?c4 ?c5 ?_))
              case c0 => exact PRow.keep ((HBX.out.alloc HBX.out.size _).alloc (by have := HBX.out.size; simp; omega) _) HPR.out
              case c1 => exact two_news (by simp [go_sem]) (by simp [go_sem])
              case c3 => unfold maxLen; omega
              case c4 => omega
              case c5 => have := HBW.out.size; have := HBX.out.size; simp; omega
              intro v3 w3 hown3 hgrow3 _
              have HOW3 := Lib.hid (PRow.snoc hown3); clear hown3
              have HBY := Lib.hid ((HBW.out.trans (HBX.out.mono HBW.out.size)).alloc (Nat.le_trans HBW.out.size HBX.out.size) (.cells #[.int .i64 ((fp.getD (0, 0)).1 : Nat), .int .i64 ((fp.getD (0, 0)).2 : Nat)] 26))
              have HB3 : Hid (Below w.heap.size w w3) := (HBY.out.alloc (by have := HBW.out.size; have := HBX.out.size; simp; omega) _).grown hgrow3 (by have := HBW.out.size; have := HBX.out.size; simp; omega) (fun q e => (World.ownsRow.lt HPR.out q e).1)
              clear hgrow3
              go_wp2
              go_roundw
              case rel => exact ⟨k + 1, _, by omega, by go_num, HST.out, (selPlaces_yes HSEL.out) ▸ HOW3.out, HB3.out⟩
              case measure => simp [intOf]; omega
            · have bb0 : (yb == 0) = false := by simpa using hb0
              by_cases hfp : fp = some (i, k)
              · have HSEL : Hid (selB (flat l) ⟨i, k, ⟨yn, yb, yk, ys, yy, yr, yt⟩⟩ = true) := by rw [HSB.out, hfp]; simp [Hid]
                clear hb0
                subst hfp
                simp only [Option.getD_some, Option.isSome_some] at HCON
                go_wp2_with (first | (go_at_call 28; refine HCON.out.mono ?_; rintro e w2 ⟨rfl, hB2⟩; obtain ⟨hc2, hf2⟩ := bcell hB2; have hz2 : wr.heap.size + 1 < w2.heap.size := (by have := hB2.size; (try simp at this); omega); have hz3 : wr.heap.size < w2.heap.size := (by omega); have HBX : Hid (Below wr.heap.size wr w2) := ((alloc_old wr _).alloc (by simp) _).trans (hB2.mono (by simp; omega)); clear hB2) | (at_builtin; refine wpList_append_own _ rfl _ _ 44 rfl w.heap.size 26 i0 (.agg #[.int .i64 0, .int .i64 0]) 2 16 Tryd.underlying44 HI0.out HZ0.out HZ1.out HZ2.out rfl (by decide) _ (selPlaces (flat l) pre).length (placeCells (selPlaces (flat l) pre)) rfl ?c0 _ 1 1 [.int .i64 i, .int .i64 k] rfl rfl ?c1 two_one ?c3 ?c4 ?c5 ?_))
                case c0 => exact PRow.keep ((HBX.out.alloc HBX.out.size _).alloc (by have := HBX.out.size; simp; omega) _) HPR.out
                case c1 => exact two_news (by simp [go_sem]) (by simp [go_sem])
                case c3 => unfold maxLen; omega
                case c4 => omega
                case c5 => have := HBW.out.size; have := HBX.out.size; simp; omega
                intro v3 w3 hown3 hgrow3 _
                have HOW3 := Lib.hid (PRow.snoc hown3); clear hown3
                have HBY := Lib.hid ((HBW.out.trans (HBX.out.mono HBW.out.size)).alloc (Nat.le_trans HBW.out.size HBX.out.size) (.cells #[.int .i64 i, .int .i64 k] 26))
                have HB3 : Hid (Below w.heap.size w w3) := (HBY.out.alloc (by have := HBW.out.size; have := HBX.out.size; simp; omega) _).grown hgrow3 (by have := HBW.out.size; have := HBX.out.size; simp; omega) (fun q e => (World.ownsRow.lt HPR.out q e).1)
                clear hgrow3
                go_wp2
                go_roundw
                case rel => exact ⟨k + 1, _, by omega, by go_num, HST.out, (selPlaces_yes HSEL.out) ▸ HOW3.out, HB3.out⟩
                case measure => simp [intOf]; omega
              · have HSEL : Hid (selB (flat l) ⟨i, k, ⟨yn, yb, yk, ys, yy, yr, yt⟩⟩ = false) := by rw [HSB.out]; simp [Hid, hb0, hfp]
                clear hb0
                cases fp with
                | none =>
                  simp only [Option.getD_none, Option.isSome_none] at HCON
                  go_wp2_with (go_at_call 28; refine HCON.out.mono ?_; rintro e w2 ⟨rfl, hB2⟩; obtain ⟨hc2, hf2⟩ := bcell hB2; have hz2 : wr.heap.size + 1 < w2.heap.size := (by have := hB2.size; (try simp at this); omega); have hz3 : wr.heap.size < w2.heap.size := (by omega); have HBX : Hid (Below wr.heap.size wr w2) := ((alloc_old wr _).alloc (by simp) _).trans (hB2.mono (by simp; omega)); clear hB2)
                  have HBY := Lib.hid (HBW.out.trans (HBX.out.mono HBW.out.size))
                  go_roundw
                  case rel => exact ⟨k + 1, _, by omega, by go_num, HST.out, (selPlaces_no HSEL.out).symm ▸ PRow.keep (HBX.out.alloc HBX.out.size _) HPR.out, HBY.out.alloc HBY.out.size _⟩
                  case measure => simp [intOf]; omega
                | some pq =>
                  obtain ⟨pa, pb⟩ := pq
                  simp only [Option.getD_some, Option.isSome_some] at HCON
                  have HNE : Hid (¬ (pa = i ∧ pb = k)) := fun ⟨h1, h2⟩ => hfp (by rw [h1, h2])
                  clear hfp
                  go_wp2_with (go_at_call 28; refine HCON.out.mono ?_; rintro e w2 ⟨rfl, hB2⟩; obtain ⟨hc2, hf2⟩ := bcell hB2; have hz2 : wr.heap.size + 1 < w2.heap.size := (by have := hB2.size; (try simp at this); omega); have hz3 : wr.heap.size < w2.heap.size := (by omega); have HBX : Hid (Below wr.heap.size wr w2) := ((alloc_old wr _).alloc (by simp) _).trans (hB2.mono (by simp; omega)); clear hB2)
                  all_goals
                    have HBY := Lib.hid (HBW.out.trans (HBX.out.mono HBW.out.size))
                    first
                    | (exfalso; exact HNE.out ⟨by omega, by omega⟩)
                    | (go_roundw
                       case rel => exact ⟨k + 1, _, by omega, by go_num, HST.out, (selPlaces_no HSEL.out).symm ▸ PRow.keep (HBX.out.alloc HBX.out.size _) HPR.out, HBY.out.alloc HBY.out.size _⟩
                       case measure => simp [intOf]; omega)
          · have hcat := HCAT.out
            rw [List.drop_of_length_le (by omega), symsFrom, List.nil_append] at hcat
            have HCAT2 := Lib.hid hcat; clear hcat
            go_wp2
            go_roundw
            case rel => exact ⟨i + 1, pre, by omega, by go_num, HCAT2.out, HPR.out, HBW.out⟩
            case measure => simp [intOf]; omega
      · have hcat := HCAT.out
        rw [List.drop_of_length_le (by omega), objsFrom, List.append_nil] at hcat
        subst hcat
        clear HCAT
        have hsl := selPlaces_le (flat l) (flat l)
        have HRW := Lib.hid (PRow.row HOWN.out (by omega))
        go_wp2
        go_ret2
        exact ⟨_, rfl, HRW.out, HBW.out⟩
  · rw [if_neg hc0]
    have hcb : ((beginRR l).2 != 0) = true := by simpa using hc0
    have HC0 := Lib.hid hc0; clear hc0 hfl
    generalize (beginRR l).2 = c at HK hcb HC0 ⊢
    go_enter Tryd.func16, Tryd.ntmps16
    go_wp2_with fail
    refine HK.out.mono ?_
    rintro e w1 ⟨rfl, hB⟩
    go_wp2_with fail
    go_ret2
    exact ⟨_, rfl, rowAt_nil, hB⟩
end Go.Proofs.YtiogoinaklgglaaDoor
