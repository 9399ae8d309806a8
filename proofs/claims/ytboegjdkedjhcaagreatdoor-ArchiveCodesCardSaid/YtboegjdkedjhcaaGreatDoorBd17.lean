/- The walk of resolve.begin. -/
import Derived.Test.YtboegjdkedjhcaaGreatDoorBd11
import Derived.Deep.RegionHeld3
import Derived.Deep.DeepCutAuto
import Derived.Deep.QuietTactic
import Derived.BigQuiet
import Derived.StillTailTactics
namespace Go.Proofs.YtboegjdkedjhcaaGreatDoor
open Go.RowKit Go.Maps Go.WideMaps
/-- the resolver's box and its two tables, behind the symbols pre -/
def Tabs (B : Nat) (v : Value) (w : World) (pre : List Spot) : Prop :=
  w.cell? ⟨B + 1, 0, none⟩ = some (.map (some B)) ∧ w.cell? ⟨B + 1, 1, none⟩ = some v ∧ MapFn Tryz.prog 9 w B pre.length (tabFn pre) ∧ MapFn Tryz.prog 9 w (B + 1 + 1) pre.length (strongFn pre)
theorem Tabs.keep {B : Nat} {v : Value} {w w' : World} {pre : List Spot} (hb : Below w.heap.size w w') (h : Tabs B v w pre) : Tabs B v w' pre :=
  ⟨cell_keep hb (by have := h.2.2.2.lt; omega) h.1, cell_keep hb (by have := h.2.2.2.lt; omega) h.2.1, h.2.2.1.below hb h.2.2.1.lt, h.2.2.2.below hb h.2.2.2.lt⟩
/-- what begin makes of objects that may be linked -/
def Resolver (w : World) (rb : Nat) (v : Value) (l : List GObj) : Prop :=
  ∃ tb n, w.cell? ⟨rb, 0, none⟩ = some (.map (some tb)) ∧ w.cell? ⟨rb, 1, none⟩ = some v ∧ MapFn Tryz.prog 9 w tb n (tabFn (flat l)) ∧ rb < w.heap.size
set_option maxHeartbeats 400000 in
theorem begin_bad (v : Value) (l : List GObj) (w : World) (h : ObjsAt w v l) (hm : mayAll l = false) :
    Calls Tryz.prog 148 #[v] w fun e w' => e = .returned (.tuple #[.pointer none, .string emptyB, .int .i64 2]) ∧ Below w.heap.size w w' := by
  have HCON := Lib.hid (containsObj_any v l w h)
  obtain ⟨p, cap, b, o, rfl, hcap, hmax, -, -⟩ := h
  by_cases hl : l.length ≤ 16
  · have ha : (!l.all mayP) = true := by simp [mayAll, hl] at hm; simpa using hm
    rw [ha] at HCON
    clear ha hm
    go_enter Tryz.func148, Tryz.ntmps148
    go_wp2_with (go_at_call 54; refine HCON.out.mono ?_; rintro e w1 ⟨rfl, hB⟩)
    go_ret3
    exact ⟨rfl, hB⟩
  · clear hm
    go_enter Tryz.func148, Tryz.ntmps148
    go_wp2
    go_ret3
    exact ⟨rfl, Below.refl _ _⟩
set_option maxRecDepth 100000 in
set_option maxHeartbeats 2000000 in
theorem begin_ok (v : Value) (l : List GObj) (w : World) (h : ObjsAt w v l) (hm : mayAll l = true) :
    Calls Tryz.prog 148 #[v] w fun e w' => ((∃ n, dupGo [] (flat l) = some n ∧ e = .returned (.tuple #[.pointer none, .string n, .int .i64 120])) ∨ (dupGo [] (flat l) = none ∧ ∃ rb, e = .returned (.tuple #[.pointer (some ⟨rb, 0, none⟩), .string emptyB, .int .i64 0]) ∧ Resolver w' rb v l)) ∧ Below w.heap.size w w' := by
  have HCON := Lib.hid (containsObj_any v l w h)
  have HFL := Lib.hid (flat_length_le hm)
  obtain ⟨p, cap, b, o, rfl, hcap, hmax, hp, hc⟩ := h
  have HC := Lib.hid hc; clear hc
  have HP := Lib.hid hp; clear hp
  simp only [mayAll, Bool.and_eq_true, decide_eq_true_eq] at hm
  obtain ⟨hl16, hall⟩ := hm
  have hb16 : decide ((16 : Int) < (l.length : Int)) = false := by simp; omega
  rw [hall] at HCON
  clear hall
  have hmm := @run_makeMap Tryz.prog
  go_enter Tryz.func148, Tryz.ntmps148
  go_wp2_with (go_at_call 54; refine HCON.out.mono ?_; rintro e w1 ⟨rfl, hB0⟩)
  clear hmm
  have hsz01 : w.heap.size ≤ w1.heap.size := hB0.size
  go_loopw [27] (fun v27 wr => ∃ (i : Nat) (pre : List Spot), i ≤ l.length ∧ v27 = .int .i64 i ∧ pre ++ objsFrom i (l.drop i) = flat l ∧ dupGo pre (objsFrom i (l.drop i)) = dupGo [] (flat l) ∧ Tabs w1.heap.size (.slice p l.length cap) wr pre ∧ Below w.heap.size w wr) (fun v27 _ => l.length - (intOf v27).toNat)
  case atStart =>
    refine ⟨0, [], Nat.zero_le _, rfl, rfl, rfl, ⟨by simp [go_sem], by simp [go_sem], ?_, ?_⟩, ?_⟩
    · have := MapFn.made Tryz.prog 9 w1
      rw [tabFn_nil] at this
      exact (this.alloc _).alloc _
    · have := MapFn.made Tryz.prog 9 ((w1.alloc (.map #[] 0)).alloc (.cells #[.map (some w1.heap.size), .slice p l.length cap] 304))
      rw [strongFn_nil] at this
      simpa using this
    · have := hB0.size
      go_grown
  case round =>
    obtain ⟨i, pre, hi, rfl, hcat, hdup, htabs, hbel⟩ := hrel
    have HB := Lib.hid hbel; clear hbel
    have HT := Lib.hid htabs; clear htabs
    have HCAT := Lib.hid hcat; clear hcat
    have HDUP := Lib.hid hdup; clear hdup
    by_cases hlt : i < l.length
    · obtain rfl := HP.out (by omega)
      obtain ⟨vs, g0, g1, g2, hin⟩ := HC.out i hlt
      replace g1 := cell_keep HB.out g0 g1
      replace g2 := cell_keep HB.out g0 g2
      replace g0 := size_keep HB.out g0
      have hcat := HCAT.out
      have hdup := HDUP.out
      rw [objsFrom_drop hlt] at hcat hdup
      generalize hx : l[i] = x at g1 g2 hin hcat hdup
      obtain ⟨xn, xs⟩ := x
      simp only [] at g1 g2 hin hcat hdup
      obtain ⟨⟨pS, capS, bS, oS, rfl, hcapS, hmaxS, hpS, hcS⟩, hnmx⟩ := hin
      clear HCAT HDUP hx
      have HCAT := Lib.hid hcat; clear hcat
      have HDUP := Lib.hid hdup; clear hdup
      have HCS := Lib.hid hcS; clear hcS
      have HPS := Lib.hid hpS; clear hpS
      go_wp2
      obtain ⟨wo, rfl⟩ : ∃ wo : World, wo = wr := ⟨_, rfl⟩
      go_loopw [35] (fun v35 wr => ∃ (k : Nat) (pre : List Spot), k ≤ xs.length ∧ v35 = .int .i64 k ∧ pre ++ (symsFrom i k (xs.drop k) ++ objsFrom (i + 1) (l.drop (i + 1))) = flat l ∧ dupGo pre (symsFrom i k (xs.drop k) ++ objsFrom (i + 1) (l.drop (i + 1))) = dupGo [] (flat l) ∧ Tabs w1.heap.size (.slice (some ⟨b, o, none⟩) l.length cap) wr pre ∧ Below w.heap.size w wr) (fun v35 _ => xs.length - (intOf v35).toNat)
      case atStart => exact ⟨0, pre, Nat.zero_le _, rfl, HCAT.out, HDUP.out, HT.out.keep (alloc_old _ _), HB.out.alloc HB.out.size _⟩
      case round =>
        clear HCAT HDUP HT g1 g2 g0 HB
        obtain ⟨k, pre, hk, rfl, hcat, hdup, htabs, hbel⟩ := hrel
        have HCAT := Lib.hid hcat; clear hcat
        have HDUP := Lib.hid hdup; clear hdup
        have HB := Lib.hid hbel; clear hbel
        have HT := Lib.hid htabs
        obtain ⟨t0, t1, hM, hN⟩ := htabs
        have z2 : w1.heap.size + 1 + 1 < wr.heap.size := hN.lt
        have z1 : w1.heap.size + 1 < wr.heap.size := by omega
        have z0 : w1.heap.size < wr.heap.size := by omega
        by_cases hks : k < xs.length
        · obtain rfl := HPS.out (by omega)
          obtain ⟨vr, vn, g0, g1, g2, g3, g4, g5, g6, g7, hsin⟩ := symR_keeps _ _ _ _ _ HB.out (HCS.out k hks)
          obtain ⟨p1, q1, p2, q2, rfl, rfl⟩ := hsin.shape
          have hns : xs[k].name.size ≤ 9223372036854775807 := by have := hsin.2.2.2.2.2.1; omega
          generalize hy : xs[k] = y at g1 g2 g3 g4 g5 g6 g7 hsin hns
          obtain ⟨yn, yb, yk, ys, yy, yr, yt⟩ := y
          simp only [] at g1 g2 g3 g4 g5 g6 g7 hsin hns
          have HY := Lib.hid hy; clear hy
          have HM := Lib.hid (hM.alloc (.cells #[.string yn, .int .u8 yb, .int .u8 yk, .int .u32 ys, .string yy, .slice p1 yr.length q1, .slice p2 yt.length q2] 55)); clear hM
          have HN := Lib.hid (hN.alloc (.cells #[.string yn, .int .u8 yb, .int .u8 yk, .int .u32 ys, .string yy, .slice p1 yr.length q1, .slice p2 yt.length q2] 55)); clear hN
          obtain ⟨pa, pb, hv⟩ := tabFn_val pre yn.data.toList
          have HV := Lib.hid hv; clear hv
          have HI := Lib.hid (tabFn_isSome pre yn.data.toList)
          go_wp2
          go_cut [12] (fun v12 wx => v12 = .bool (winnerIn pre yn.data.toList).isSome ∧ Below (wr.heap.size + 1) (wr.alloc (.cells #[.string yn, .int .u8 yb, .int .u8 yk, .int .u32 ys, .string yy, .slice p1 yr.length q1, .slice p2 yt.length q2] 55)) wx)
          case first =>
            have hne0 : ¬ wr.heap.size = w1.heap.size := by omega
            go_region_held3 (fun w' => w'.cell? ⟨w1.heap.size + 1, 0, none⟩ = some (.map (some w1.heap.size)) ∧ w'.cell? ⟨wr.heap.size, 0, none⟩ = some (.string yn)) (go_keep) (first | (go_at_call 201; refine (winner_any w1.heap.size pre.length (tabFn pre) yn _ pa pb _ ?_ hns HV.out HI.out).mono ?_; (first | exact HM.out.drew | exact (HM.out.alloc _).drew); rintro e w' ⟨rfl, hB⟩; have k1 : w'.cell? ⟨w1.heap.size + 1, 0, none⟩ = some (.map (some w1.heap.size)) := cell_keep hB (by simp; omega) (by simp [go_sem, *]); have k2 : w'.cell? ⟨wr.heap.size, 0, none⟩ = some (.string yn) := cell_keep hB (by simp <;> omega) (by simp [go_sem, *]); obtain ⟨hc, hf⟩ := bcell hB))
            all_goals clear HV HI
            all_goals go_wp2_with fail
            all_goals go_meet
            · exact ⟨rfl, ((Below.refl _ _).drew.trans (hB.mono (by simp))).alloc (by have := hB.size; simp at this; omega) _⟩
            · exact ⟨rfl, ((((Below.refl _ _).alloc (by simp) _).drew.trans (hB.mono (by simp))).setCell (by simp) _).setCell (by simp) _⟩
          case rest =>
            obtain ⟨rfl, hbx⟩ := hcut
            have k0 : wc.cell? ⟨wr.heap.size, 0, none⟩ = some (.string yn) := by rw [hbx.cell (by simp)]; simp [go_sem]
            have k1 : wc.cell? ⟨wr.heap.size, 1, none⟩ = some (.int .u8 yb) := by rw [hbx.cell (by simp)]; simp [go_sem]
            have t0c : wc.cell? ⟨w1.heap.size + 1, 0, none⟩ = some (.map (some w1.heap.size)) := by rw [hbx.cell (by simp; omega)]; simp [go_sem, *]
            have t1c : wc.cell? ⟨w1.heap.size + 1, 1, none⟩ = some (.slice (some ⟨b, o, none⟩) l.length cap) := by rw [hbx.cell (by simp; omega)]; simp [go_sem, *]
            have zc : wr.heap.size < wc.heap.size := by have := hbx.size; simp at this; omega
            have HMc := Lib.hid (HM.out.below hbx (by omega)); clear HM
            have HNc := Lib.hid (HN.out.below hbx (by omega)); clear HN
            have HBW : Hid (Below w.heap.size w wc) := HB.out.trans ((alloc_old wr _).mono HB.out.size |>.trans (hbx.mono (by have := HB.out.size; omega)))
            have hplen : pre.length < 1024 := by
              have h1 := HFL.out
              rw [← HCAT.out, List.length_append, List.length_append, symsFrom_length, List.length_drop] at h1
              omega
            have HBX := Lib.hid hbx; clear hbx
            clear t0 t1 g1 g2 g3 g4 g5 g6 g7 hsin HT HB HV HI
            by_cases hb1 : yb = 1
            · subst hb1
              by_cases hst : (firstBy pre yn.data.toList 1).isSome = true
              · have hrun := HNc.out.look (t := 78) (e := 3) keyedS Tryz.underlying78 Tryz.underlying9 (zeroInt _) hns
                rw [strongFn_val_yes hst] at hrun
                have HDUP2 : Hid (dupGo [] (flat l) = some yn) := by
                  rw [← HDUP.out, symsFrom_drop hks, HY.out, List.cons_append, dupGo, if_pos ⟨rfl, hst⟩]; rfl
                have HST := Lib.hid hst; clear hst
                go_wp2
                go_quiet (fail)
                go_wp2
                go_ret3
                exact ⟨.inl ⟨yn, HDUP2.out, rfl⟩, below_drewN HBW.out _⟩
              · have hst' : (firstBy pre yn.data.toList 1).isSome = false := by simpa using hst
                have hrun := HNc.out.look (t := 78) (e := 3) keyedS Tryz.underlying78 Tryz.underlying9 (zeroInt _) hns
                rw [strongFn_val_no hst'] at hrun
                have HDUP2 := Lib.hid (dup_step hks HY.out HDUP.out (by simp [hst']))
                have HST := Lib.hid hst'; clear hst hst'
                go_wp2
                go_still_tail 9, (by kernel_rfl)
                refine wpList_put _ rfl _ _ _ 302 rfl 9 185 keyedS Tryz.underlying302 Tryz.underlying9 rfl HMc.out.drew (by unfold maxLen; omega) yn (placeV (i, k)) rfl rfl hns ?_
                intro w2 hM2 hg2
                rw [tab_strong (x := ⟨i, k, ⟨yn, 1, yk, ys, yy, yr, yt⟩⟩) rfl HST.out] at hM2
                have hz2 : wc.heap.size ≤ w2.heap.size := hg2.size
                have k0' : w2.cell? ⟨wr.heap.size, 0, none⟩ = some (.string yn) := cell_grown hg2 zc (by omega) k0
                have k1' : w2.cell? ⟨wr.heap.size, 1, none⟩ = some (.int .u8 1) := cell_grown hg2 zc (by omega) k1
                have t0' : w2.cell? ⟨w1.heap.size + 1, 0, none⟩ = some (.map (some w1.heap.size)) := cell_grown hg2 (Nat.lt_trans z1 zc) (by omega) t0c
                have t1' : w2.cell? ⟨w1.heap.size + 1, 1, none⟩ = some (.slice (some ⟨b, o, none⟩) l.length cap) := cell_grown hg2 (Nat.lt_trans z1 zc) (by omega) t1c
                have HN2 := Lib.hid (HNc.out.drew.grown hg2 (by omega))
                have HM2 := Lib.hid hM2; clear hM2
                have HG2 := Lib.hid hg2; clear hg2
                have zc2 : wr.heap.size < w2.heap.size := by omega
                have HV := Lib.hid (strongFn_val_no HST.out)
                clear hrun HMc HNc k0 k1 t0c t1c
                go_wp2_with (first | (at_lookup; refine wpList_look _ rfl _ _ 78 rfl 9 3 keyedS Tryz.underlying78 Tryz.underlying9 (zeroInt _) rfl HN2.out yn rfl hns HV.out ?_) | (at_mapUpdate; refine wpList_put _ rfl _ _ _ 78 rfl 9 3 keyedS Tryz.underlying78 Tryz.underlying9 rfl HN2.out (by unfold maxLen; omega) yn (.int .i64 1) rfl rfl hns ?_; intro w3 hM3 hg3; have HM3 := Lib.hid hM3; have HG3 := Lib.hid hg3; clear hM3 hg3))
                go_roundw
                case rel => exact ⟨k + 1, _, by omega, by go_num, cat_step hks HY.out HCAT.out, HDUP2.out, ⟨cell_grown HG3.out (by omega) (by omega) t0', cell_grown HG3.out (by omega) (by omega) t1', (HM2.out.grown HG3.out (by omega)).mono (by simp), ((strong_yes (x := ⟨i, k, ⟨yn, 1, yk, ys, yy, yr, yt⟩⟩) rfl) ▸ HM3.out).mono (by simp)⟩, (HBW.out.drew.grown HG2.out (by simp; omega) (fun q e => by simp at e; omega)).grown HG3.out (by omega) (fun q e => by simp at e; omega)⟩
                case measure => simp [intOf]; omega
            · have b1 : (yb == 1) = false := by simpa using hb1
              have HDUP2 := Lib.hid (dup_step hks HY.out HDUP.out (by simp [hb1]))
              have HB1 := Lib.hid hb1; clear hb1
              by_cases hb2 : yb = 2 ∧ (winnerIn pre yn.data.toList).isSome = false
              · obtain ⟨rfl, hw⟩ := hb2
                have HW := Lib.hid hw
                go_wp2
                go_still_tail 9, (by kernel_rfl)
                refine wpList_put _ rfl _ _ _ 302 rfl 9 185 keyedS Tryz.underlying302 Tryz.underlying9 rfl HMc.out.drew (by unfold maxLen; omega) yn (placeV (i, k)) rfl rfl hns ?_
                intro w2 hM2 hg2
                rw [tab_weak (x := ⟨i, k, ⟨yn, 2, yk, ys, yy, yr, yt⟩⟩) rfl HW.out] at hM2
                have hz2 : wc.heap.size ≤ w2.heap.size := hg2.size
                have k1' : w2.cell? ⟨wr.heap.size, 1, none⟩ = some (.int .u8 2) := cell_grown hg2 zc (by omega) k1
                have t0' : w2.cell? ⟨w1.heap.size + 1, 0, none⟩ = some (.map (some w1.heap.size)) := cell_grown hg2 (Nat.lt_trans z1 zc) (by omega) t0c
                have t1' : w2.cell? ⟨w1.heap.size + 1, 1, none⟩ = some (.slice (some ⟨b, o, none⟩) l.length cap) := cell_grown hg2 (Nat.lt_trans z1 zc) (by omega) t1c
                have HN2 := Lib.hid (HNc.out.drew.grown hg2 (by omega))
                have HM2 := Lib.hid hM2; clear hM2
                have HG2 := Lib.hid hg2; clear hg2
                have zc2 : wr.heap.size < w2.heap.size := by omega
                clear HMc HNc k0 k1 t0c t1c
                go_wp2
                go_roundw
                case rel => exact ⟨k + 1, _, by omega, by go_num, cat_step hks HY.out HCAT.out, HDUP2.out, ⟨t0', t1', HM2.out.mono (by simp), ((strong_same (l := pre) (x := ⟨i, k, ⟨yn, 2, yk, ys, yy, yr, yt⟩⟩) HB1.out) ▸ HN2.out).mono (by simp)⟩, HBW.out.drew.grown HG2.out (by simp; omega) (fun q e => by simp at e; omega)⟩
                case measure => simp [intOf]; omega
              · have hor : ¬ yb = 2 ∨ (winnerIn pre yn.data.toList).isSome = true := by
                  by_cases h2 : yb = 2
                  · right
                    cases h3 : (winnerIn pre yn.data.toList).isSome with
                    | true => rfl
                    | false => exact absurd ⟨h2, h3⟩ hb2
                  · exact .inl h2
                have HOR := Lib.hid hor
                clear hb2
                have fin : Hid (Tabs w1.heap.size (.slice (some ⟨b, o, none⟩) l.length cap) wc (pre ++ [⟨i, k, ⟨yn, yb, yk, ys, yy, yr, yt⟩⟩])) :=
                  ⟨t0c, t1c, ((tab_same (l := pre) (x := ⟨i, k, ⟨yn, yb, yk, ys, yy, yr, yt⟩⟩) HB1.out HOR.out) ▸ HMc.out).mono (by simp), ((strong_same (l := pre) (x := ⟨i, k, ⟨yn, yb, yk, ys, yy, yr, yt⟩⟩) HB1.out) ▸ HNc.out).mono (by simp)⟩
                clear HMc HNc t0c t1c
                rcases hor with h2 | h2
                · have b2 : (yb == 2) = false := by simpa using h2
                  clear h2
                  go_wp2
                  go_roundw
                  case rel => exact ⟨k + 1, _, by omega, by go_num, cat_step hks HY.out HCAT.out, HDUP2.out, fin.out, HBW.out⟩
                  case measure => simp [intOf]; omega
                · go_wp2
                  all_goals
                    go_roundw
                    case rel => exact ⟨k + 1, _, by omega, by go_num, cat_step hks HY.out HCAT.out, HDUP2.out, fin.out, HBW.out⟩
                    case measure => simp [intOf]; omega
        · go_wp2
          have hcat := HCAT.out
          have hdup := HDUP.out
          rw [List.drop_of_length_le (by omega), symsFrom, List.nil_append] at hcat hdup
          have HCAT2 := Lib.hid hcat; clear hcat
          have HDUP2 := Lib.hid hdup; clear hdup
          go_roundw
          case rel => exact ⟨i + 1, pre, by omega, by go_num, HCAT2.out, HDUP2.out, HT.out, HB.out⟩
          case measure => simp [intOf]; omega
    · have hcat := HCAT.out
      have hdup := HDUP.out
      rw [List.drop_of_length_le (by omega), objsFrom] at hcat hdup
      rw [List.append_nil] at hcat
      subst hcat
      have HD : Hid (dupGo [] (flat l) = none) := hdup.symm
      clear hdup HCAT HDUP
      go_wp2
      go_ret3
      obtain ⟨t0, t1, hM, hN⟩ := HT.out
      exact ⟨.inr ⟨HD.out, _, rfl, _, _, t0, t1, hM, by have := hN.lt; omega⟩, HB.out⟩
end Go.Proofs.YtboegjdkedjhcaaGreatDoor
