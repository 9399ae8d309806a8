/- The walk of resolve.Winners. -/
import Derived.Test.YtnhmbflinbfeoaaDoorWResFind
import Derived.Test.YtnhmbflinbfeoaaDoorPlaces
import Derived.Test.YtnhmbflinbfeoaaDoorPlain
namespace Go.Proofs.YtnhmbflinbfeoaaDoor
open Go.RowKit Go.Maps Go.WideMaps
set_option maxRecDepth 100000 in
set_option maxHeartbeats 4000000 in
theorem winners_any (v : Value) (l : List GObj) (w : World) (h : ObjsAt w v l) :
    Calls Tryd.prog 9 #[v] w (WinPost w (if (beginR l).2 = 0 then selPlaces (flat l) (flat l) else []) (beginR l).2) := by
  have HK := Lib.hid (begin_any v l w h)
  have HO := Lib.hid h
  obtain ⟨p, cap, b, o, rfl, hcap, hmax, hp, hc⟩ := h
  have HC := Lib.hid hc; clear hc
  have HP := Lib.hid hp; clear hp
  by_cases hz0 : (beginR l).2 = 0
  case neg =>
    rw [if_neg hz0]
    have hcb : ((beginR l).2 != 0) = true := by simpa using hz0
    have HZN := Lib.hid hz0; clear hz0
    go_enter Tryd.func9, Tryd.ntmps9
    go_wp2_with fail
    refine HK.out.mono ?_
    rintro e w1 ⟨hcase, hB⟩
    rcases hcase with ⟨c, hb2, hc0, rfl⟩ | ⟨hb2, hb1, rb, rfl, hres⟩
    · subst hb2
      go_wp2_with fail
      go_ret2
      exact ⟨_, rfl, rowAt_nil, hB⟩
    · exact absurd hb2 HZN.out
  case pos =>
    rw [if_pos hz0]
    have HZP := Lib.hid hz0
    rw [hz0]
    clear hz0
    go_enter Tryd.func9, Tryd.ntmps9
    go_wp2_with fail
    refine HK.out.mono ?_
    rintro e w1 ⟨hcase, hB⟩
    rcases hcase with ⟨c, hb2, hc0, rfl⟩ | ⟨hb2, hb1, rb, rfl, hres⟩
    · exact absurd (hb2.symm.trans HZP.out) hc0
    have hfl2 := flat_length_le (beginR_zero hb2).1
    clear hb1 hb2
    obtain ⟨i0, hin0, hz0, hz1, hz2⟩ := info_parts info_place
    have HI0 := Lib.hid hin0
    have HZ0 := Lib.hid hz0
    have HZ1 := Lib.hid hz1
    have HZ2 := Lib.hid hz2
    clear hin0 hz0 hz1 hz2
    have HB1 := Lib.hid hB; clear hB
    obtain ⟨tb, nt, r0, r1, hmap, hrb⟩ := hres
    have R0 := Lib.hid r0
    have HMAP := Lib.hid hmap
    clear r0 r1 hmap
    go_wp2
    go_loopw [7, 26] (fun v7 v26 wr => ∃ (i : Nat) (pre : List Spot), i ≤ l.length ∧ v26 = .int .i64 i ∧ pre ++ objsFrom i (l.drop i) = flat l ∧ PRow w1.heap.size wr v7 (selPlaces (flat l) pre) ∧ Below w1.heap.size w1 wr) (fun _ v26 _ => l.length - (intOf v26).toNat)
    case atStart => exact ⟨0, [], Nat.zero_le _, rfl, rfl, PRow.nil _ _, Below.refl _ _⟩
    case round =>
      obtain ⟨i, pre, hi, rfl, hcat, hown, hbel⟩ := hrel
      have HCAT := Lib.hid hcat; clear hcat
      have HOWN := Lib.hid hown; clear hown
      have HBW := Lib.hid hbel; clear hbel
      have HBV : Hid (Below w.heap.size w wr) := HB1.out.trans (HBW.out.mono HB1.out.size)
      by_cases hlt : i < l.length
      · obtain rfl := HP.out (by omega)
        obtain ⟨vs, g0, g1, g2, hin⟩ := HC.out i hlt
        have hcat := HCAT.out
        rw [objsFrom_drop hlt] at hcat
        replace g1 := cell_keep HBV.out g0 g1
        replace g2 := cell_keep HBV.out g0 g2
        replace g0 := size_keep HBV.out g0
        generalize hx : l[i] = x at g1 hin hcat
        obtain ⟨xn, xs⟩ := x
        simp only [] at g1 hin hcat
        obtain ⟨⟨pS, capS, bS, oS, rfl, hcapS, hmaxS, hpS, hcS⟩, hnmx⟩ := hin
        clear HCAT hx
        have HCAT := Lib.hid hcat; clear hcat
        have HCS := Lib.hid hcS; clear hcS
        have HPS := Lib.hid hpS; clear hpS
        go_wp2
        obtain ⟨wo, rfl⟩ : ∃ wo : World, wo = wr := ⟨_, rfl⟩
        go_loopw [7, 34] (fun v7 v34 wr => ∃ (k : Nat) (pre : List Spot), k ≤ xs.length ∧ v34 = .int .i64 k ∧ pre ++ (symsFrom i k (xs.drop k) ++ objsFrom (i + 1) (l.drop (i + 1))) = flat l ∧ PRow w1.heap.size wr v7 (selPlaces (flat l) pre) ∧ Below w1.heap.size w1 wr) (fun _ v34 _ => xs.length - (intOf v34).toNat)
        case atStart => exact ⟨0, pre, Nat.zero_le _, rfl, HCAT.out, PRow.keep (alloc_old _ _) HOWN.out, HBW.out.alloc HBW.out.size _⟩
        case round =>
          clear HCAT HBW HOWN HBV g0 g1 g2
          obtain ⟨k, pre, hk, rfl, hcat, hown, hbel⟩ := hrel
          have HCAT := Lib.hid hcat; clear hcat
          have HBW := Lib.hid hbel; clear hbel
          have HPR := Lib.hid hown; clear hown
          have HBV : Hid (Below w.heap.size w wr) := HB1.out.trans (HBW.out.mono HB1.out.size)
          by_cases hks : k < xs.length
          · obtain rfl := HPS.out (by omega)
            obtain ⟨vr, vn, s0, s1, s2, s3, s4, s5, s6, s7, hsin⟩ := symR_keeps _ _ _ _ _ HBV.out (HCS.out k hks)
            obtain ⟨p1, q1, p2, q2, rfl, rfl⟩ := hsin.shape
            have hns : xs[k].name.size ≤ 9223372036854775807 := by have := hsin.2.2.2.2.2.1; omega
            generalize hy : xs[k] = y at s1 s2 s3 s4 s5 s6 s7 hsin hns
            obtain ⟨yn, yb, yk, ys, yy, yr, yt⟩ := y
            simp only [] at s1 s2 s3 s4 s5 s6 s7 hsin hns
            clear hsin
            have HY := Lib.hid hy; clear hy
            have HST := Lib.hid (cat_step hks HY.out HCAT.out)
            have hplen : pre.length < 1024 := by
              have h1 := hfl2
              rw [← HCAT.out, List.length_append, List.length_append, symsFrom_length, List.length_drop] at h1
              omega
            have hsl := selPlaces_le (flat l) pre
            have t0 : wr.cell? ⟨rb, 0, none⟩ = some (.map (some tb)) := cell_keep HBW.out hrb R0.out
            have hrbw : rb < wr.heap.size := size_keep HBW.out hrb
            have HM := Lib.hid (((HMAP.out.below HBW.out HMAP.out.lt).alloc (.cells #[.string yn, .int .u8 yb, .int .u8 yk, .int .u32 ys, .string yy, .slice p1 yr.length q1, .slice p2 yt.length q2] 46)).alloc (.cells #[.int .i64 i, .int .i64 k] 30))
            have HG := Lib.hid (tabFn_get (flat l) yn.data.toList)
            have HI := Lib.hid (tabFn_isSome (flat l) yn.data.toList)
            have HSB : Hid (selB (flat l) ⟨i, k, ⟨yn, yb, yk, ys, yy, yr, yt⟩⟩ = (decide (yb = 0) || decide (winnerIn (flat l) yn.data.toList = some (i, k)))) := rfl
            generalize winnerIn (flat l) yn.data.toList = fp at HG HI HSB
            have hne0 : ¬ wr.heap.size = rb := by omega
            have hne1 : ¬ wr.heap.size + 1 = rb := by omega
            have hne2 : ¬ wr.heap.size + 1 + 1 = rb := by omega
            go_wp2
            go_cut [13, 14] (fun v13 v14 wx => ∃ g : Nat, v13 = .pointer (some ⟨g, 0, none⟩) ∧ v14 = .bool fp.isSome ∧ g < wx.heap.size ∧ wx.cell? ⟨g, 0, none⟩ = some (.int .i64 ((fp.getD (0, 0)).1 : Nat)) ∧ wx.cell? ⟨g, 1, none⟩ = some (.int .i64 ((fp.getD (0, 0)).2 : Nat)) ∧ Below (wr.heap.size + 1 + 1) ((wr.alloc (.cells #[.string yn, .int .u8 yb, .int .u8 yk, .int .u32 ys, .string yy, .slice p1 yr.length q1, .slice p2 yt.length q2] 46)).alloc (.cells #[.int .i64 i, .int .i64 k] 30)) wx)
            case first =>
              go_region_held3 (fun w' => w'.cell? ⟨rb, 0, none⟩ = some (.map (some tb)) ∧ w'.cell? ⟨wr.heap.size, 0, none⟩ = some (.string yn)) (first | (simp (maxDischargeDepth := 8) [*, World.cell?_alloc_some, World.cell?_setCell_far]; done) | (refine ⟨?_, ?_⟩ <;> (rw [World.cell?_setCell_far _ _ _ _ (by show _ ≠ _; simp only []; omega), World.cell?_setCell_far _ _ _ _ (by show _ ≠ _; simp only []; omega)]; simp (maxDischargeDepth := 8) [*]))) (first | (go_at_call 25; refine (winner_any tb nt (tabFn (flat l)) yn _ _ _ _ ?_ hns HG.out HI.out).mono ?_; (first | exact HM.out.drew | exact (HM.out.alloc _).drew); rintro e w' ⟨rfl, hB⟩; have k1 : w'.cell? ⟨rb, 0, none⟩ = some (.map (some tb)) := cell_keep hB (by simp; omega) (by simp [go_sem, *]); have k2 : w'.cell? ⟨wr.heap.size, 0, none⟩ = some (.string yn) := cell_keep hB (by simp <;> omega) (by simp [go_sem, *]); obtain ⟨hc, hf⟩ := bcell hB))
              all_goals go_wp2_with fail
              all_goals go_meet
              all_goals go_light
              · exact ⟨_, rfl, rfl, by simp, by simp [go_sem], by simp [go_sem], ((Below.refl _ _).drew.trans (hB.mono (by simp))).alloc (by have := hB.size; simp at this; omega) _⟩
              · have c0 : w'.cell? ⟨wr.heap.size + 1 + 1, 0, none⟩ = some (.int .i64 0) := cell_keep hB (by simp) (by simp [go_sem])
                have c1 : w'.cell? ⟨wr.heap.size + 1 + 1, 1, none⟩ = some (.int .i64 0) := cell_keep hB (by simp) (by simp [go_sem])
                have hzz : wr.heap.size + 1 + 1 < w'.heap.size := by have := hB.size; simp at this; omega
                exact ⟨_, rfl, rfl, by simpa [go_sem] using hzz, by simp [go_sem, c0], by simp [go_sem, c1], ((((Below.refl _ _).alloc (by simp) _).drew.trans (hB.mono (by simp))).setCell (by simp) _).setCell (by simp) _⟩
            case rest =>
              obtain ⟨g, rfl, rfl, hg, hg0, hg1, hbx⟩ := hcut
              clear s0 s1 s2 s3 s4 s5 s6 s7 t0 hne0 hne1 hne2
              have HBX : Hid (Below wr.heap.size wr wc) := ((alloc_old wr _).alloc (by simp) _).trans (hbx.mono (by omega))
              have y0 : wc.cell? ⟨wr.heap.size, 0, none⟩ = some (.string yn) := by rw [hbx.cell (by simp; omega)]; simp [go_sem]
              have y1 : wc.cell? ⟨wr.heap.size, 1, none⟩ = some (.int .u8 yb) := by rw [hbx.cell (by simp; omega)]; simp [go_sem]
              have p0 : wc.cell? ⟨wr.heap.size + 1, 0, none⟩ = some (.int .i64 i) := by rw [hbx.cell (by simp)]; simp [go_sem]
              have p1 : wc.cell? ⟨wr.heap.size + 1, 1, none⟩ = some (.int .i64 k) := by rw [hbx.cell (by simp)]; simp [go_sem]
              have hz2 : wr.heap.size + 1 < wc.heap.size := by have := hbx.size; (try simp at this); omega
              clear hbx
              by_cases hb0 : yb = 0
              · have HSEL : Hid (selB (flat l) ⟨i, k, ⟨yn, yb, yk, ys, yy, yr, yt⟩⟩ = true) := by rw [HSB.out, hb0]; rfl
                have bb0 : (yb == 0) = true := by simpa using hb0
                go_wp2_with (at_builtin; refine wpList_append_own _ rfl _ _ 25 rfl w1.heap.size 30 i0 (.agg #[.int .i64 0, .int .i64 0]) 2 16 Tryd.underlying25 HI0.out HZ0.out HZ1.out HZ2.out rfl (by decide) _ (selPlaces (flat l) pre).length (placeCells (selPlaces (flat l) pre)) rfl ?c0 _ 1 1 [.int .i64 i, .int .i64 k] rfl rfl ?c1 two_one ?c3 ?c4 ?c5 ?_)
                case c0 => exact PRow.keep (HBX.out.alloc HBX.out.size _) HPR.out
                case c1 => exact two_news (by simp [go_sem]) (by simp [go_sem])
                case c3 => unfold maxLen; omega
                case c4 => omega
                case c5 => have := HBW.out.size; have := HBX.out.size; simp; omega
                intro v3 w3 hown3 hgrow3 _
                have HOW3 := Lib.hid (PRow.snoc hown3); clear hown3
                have HB3 : Hid (Below w1.heap.size w1 w3) := ((HBW.out.trans (HBX.out.mono HBW.out.size)).alloc (Nat.le_trans HBW.out.size HBX.out.size) _).grown hgrow3 (by have := HBW.out.size; have := HBX.out.size; simp; omega) (fun q e => (World.ownsRow.lt HPR.out q e).1)
                clear hgrow3
                go_wp2
                go_roundw
                case rel => exact ⟨k + 1, _, by omega, by go_num, HST.out, (selPlaces_yes HSEL.out) ▸ HOW3.out, HB3.out⟩
                case measure => simp [intOf]; omega
              · have bb0 : (yb == 0) = false := by simpa using hb0
                by_cases hfp : fp = some (i, k)
                · have HSEL : Hid (selB (flat l) ⟨i, k, ⟨yn, yb, yk, ys, yy, yr, yt⟩⟩ = true) := by rw [HSB.out, hfp]; simp [Hid]
                  clear hb0
                  subst hfp
                  simp only [Option.getD_some] at hg0 hg1
                  go_wp2_with (at_builtin; refine wpList_append_own _ rfl _ _ 25 rfl w1.heap.size 30 i0 (.agg #[.int .i64 0, .int .i64 0]) 2 16 Tryd.underlying25 HI0.out HZ0.out HZ1.out HZ2.out rfl (by decide) _ (selPlaces (flat l) pre).length (placeCells (selPlaces (flat l) pre)) rfl ?c0 _ 1 1 [.int .i64 i, .int .i64 k] rfl rfl ?c1 two_one ?c3 ?c4 ?c5 ?_)
                  case c0 => exact PRow.keep (HBX.out.alloc HBX.out.size _) HPR.out
                  case c3 => unfold maxLen; omega
                  case c4 => omega
                  case c5 => have := HBW.out.size; have := HBX.out.size; simp; omega
                  intro v3 w3 hown3 hgrow3 _
                  have HOW3 := Lib.hid (PRow.snoc hown3); clear hown3
                  have HB3 : Hid (Below w1.heap.size w1 w3) := ((HBW.out.trans (HBX.out.mono HBW.out.size)).alloc (Nat.le_trans HBW.out.size HBX.out.size) _).grown hgrow3 (by have := HBW.out.size; have := HBX.out.size; simp; omega) (fun q e => (World.ownsRow.lt HPR.out q e).1)
                  clear hgrow3
                  go_wp2
                  go_roundw
                  case rel => exact ⟨k + 1, _, by omega, by go_num, HST.out, (selPlaces_yes HSEL.out) ▸ HOW3.out, HB3.out⟩
                  case measure => simp [intOf]; omega
                · have HSEL : Hid (selB (flat l) ⟨i, k, ⟨yn, yb, yk, ys, yy, yr, yt⟩⟩ = false) := by rw [HSB.out]; simp [Hid, hb0, hfp]
                  clear hb0
                  cases fp with
                  | none =>
                    simp only [Option.getD_none] at hg0 hg1
                    have HNE : Hid (¬ (0 = i ∧ 0 = k) ∨ True) := .inr trivial
                    go_wp2
                    all_goals
                      first
                      | (exfalso; exact HNE.out ⟨by omega, by omega⟩)
                      | (go_roundw
                         case rel => exact ⟨k + 1, _, by omega, by go_num, HST.out, (selPlaces_no HSEL.out).symm ▸ PRow.keep HBX.out HPR.out, HBW.out.trans (HBX.out.mono HBW.out.size)⟩
                         case measure => simp [intOf]; omega)
                  | some pq =>
                    obtain ⟨pa, pb⟩ := pq
                    simp only [Option.getD_some] at hg0 hg1
                    have HNE : Hid (¬ (pa = i ∧ pb = k)) := fun ⟨h1, h2⟩ => hfp (by rw [h1, h2])
                    clear hfp
                    go_wp2
                    all_goals
                      first
                      | (exfalso; exact HNE.out ⟨by omega, by omega⟩)
                      | (go_roundw
                         case rel => exact ⟨k + 1, _, by omega, by go_num, HST.out, (selPlaces_no HSEL.out).symm ▸ PRow.keep HBX.out HPR.out, HBW.out.trans (HBX.out.mono HBW.out.size)⟩
                         case measure => simp [intOf]; omega)
          · have hcat := HCAT.out
            rw [List.drop_of_length_le (by omega), symsFrom, List.nil_append] at hcat
            have HCAT2 := Lib.hid hcat; clear hcat
            go_wp2
            go_roundw
            case rel => exact ⟨i + 1, pre, by omega, by go_num, HCAT2.out, HPR.out, HBW.out⟩
            case measure => simp [intOf]; omega
      · have hcat := HCAT.out
        rw [List.drop_of_length_le (by omega), objsFrom, List.append_nil] at hcat
        subst hcat
        clear HCAT
        have hsl := selPlaces_le (flat l) (flat l)
        have HRW := Lib.hid (PRow.row HOWN.out (by omega))
        go_wp2
        go_ret2
        exact ⟨_, rfl, HRW.out, HBV.out⟩
end Go.Proofs.YtnhmbflinbfeoaaDoor
