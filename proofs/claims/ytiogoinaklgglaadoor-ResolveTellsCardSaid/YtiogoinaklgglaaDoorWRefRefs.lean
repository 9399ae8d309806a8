/- The walk of aediculeref12.Refs. -/
import Derived.Test.YtiogoinaklgglaaDoorWRefFind
import Derived.Test.YtiogoinaklgglaaDoorPlaces
import Derived.Test.YtiogoinaklgglaaDoorPlainRefs
namespace Go.Proofs.YtiogoinaklgglaaDoor
open Go.RowKit Go.Maps Go.WideMaps
def refsV (c : ByteArray × Int) (l : List GObj) (a b : Int) : List (Nat × Nat) × ByteArray × Int := if c.2 ≠ 0 then ([], c.1, c.2) else if hasR l a b then refsGo l a [] (relsAt l a.toNat b.toNat) else ([], emptyB, 2)
theorem hasR_yes {l : List GObj} {a b : Int} (h : hasR l a b = true) : ∃ (an bn : Nat) (ha : an < l.length), a = an ∧ b = bn ∧ bn < l[an].syms.length := by
  by_cases h1 : a < 0 ∨ (l.length : Int) ≤ a ∨ b < 0
  · rw [hasR_no0 h1] at h; simp at h
  · obtain ⟨an, rfl⟩ := Int.eq_ofNat_of_zero_le (show 0 ≤ a by omega)
    obtain ⟨bn, rfl⟩ := Int.eq_ofNat_of_zero_le (show 0 ≤ b by omega)
    have ha : an < l.length := by omega
    rw [hasR_at ha] at h
    exact ⟨an, bn, ha, rfl, rfl, by simpa using h⟩
set_option maxRecDepth 100000 in
set_option maxHeartbeats 1000000 in
theorem refRefs_bad (v : Value) (l : List GObj) (a b : Int) (w : World) (h : ObjsAt w v l) (hc : (beginRR l).2 ≠ 0) :
    Calls Tryd.prog 14 #[v, .agg #[.int .i64 a, .int .i64 b]] w (RefsPost w [] (beginRR l).1 (beginRR l).2) := by
  have HK := Lib.hid (refCheck_any v l (w.alloc (.cells #[.int .i64 a, .int .i64 b] 26)) (ObjsAt.keep (alloc_old w _) h)); clear h
  have hcb : ((beginRR l).2 != 0) = true := by simpa using hc
  clear hc
  generalize (beginRR l).2 = c at *
  generalize (beginRR l).1 = cn at *
  go_enter Tryd.func14, Tryd.ntmps14
  go_wp2_with fail
  refine HK.out.mono ?_
  rintro e w1 ⟨rfl, hB⟩
  go_wp2_with fail
  go_ret3
  exact ⟨_, rfl, rowAt_nil, (alloc_old w _).trans (hB.mono (by simp))⟩
set_option maxRecDepth 100000 in
set_option maxHeartbeats 1000000 in
theorem refRefs_out (v : Value) (l : List GObj) (a b : Int) (w : World) (h : ObjsAt w v l) (hc : (beginRR l).2 = 0) (hh : hasR l a b = false) :
    Calls Tryd.prog 14 #[v, .agg #[.int .i64 a, .int .i64 b]] w (RefsPost w [] emptyB 2) := by
  have HK := Lib.hid (refCheck_any v l (w.alloc (.cells #[.int .i64 a, .int .i64 b] 26)) (ObjsAt.keep (alloc_old w _) h))
  have HO := Lib.hid h; clear h
  rw [hc] at HK
  generalize (beginRR l).1 = cn at *
  have HH := Lib.hid hh; clear hh hc
  go_enter Tryd.func14, Tryd.ntmps14
  go_wp2_with fail
  refine HK.out.mono ?_
  rintro e w1 ⟨rfl, hB⟩
  have p0 : w1.cell? ⟨w.heap.size, 0, none⟩ = some (.int .i64 a) := cell_keep hB (by simp) (by simp [go_sem])
  have p1 : w1.cell? ⟨w.heap.size, 1, none⟩ = some (.int .i64 b) := cell_keep hB (by simp) (by simp [go_sem])
  have HB : Hid (Below w.heap.size w w1) := (alloc_old w _).trans (hB.mono (by simp))
  clear hB
  have HHAS := Lib.hid (has_any v l a b w1 (ObjsAt.keep HB.out HO.out))
  rw [HH.out] at HHAS
  go_wp2_with (go_at_call 26; refine HHAS.out.mono ?_; rintro e w2 ⟨rfl, hB2⟩)
  go_ret3
  exact ⟨_, rfl, rowAt_nil, HB.out.trans (hB2.mono HB.out.size)⟩
set_option maxRecDepth 100000 in
set_option maxHeartbeats 4000000 in
theorem refRefs_in (v : Value) (l : List GObj) (a b : Nat) (w : World) (h : ObjsAt w v l) (hc : (beginRR l).2 = 0) (ha : a < l.length) (hb : b < l[a].syms.length) :
    Calls Tryd.prog 14 #[v, .agg #[.int .i64 a, .int .i64 b]] w (RefsPost w (refsGo l a [] l[a].syms[b].rels).1 (refsGo l a [] l[a].syms[b].rels).2.1 (refsGo l a [] l[a].syms[b].rels).2.2) := by
  have HK := Lib.hid (refCheck_any v l (w.alloc (.cells #[.int .i64 a, .int .i64 b] 26)) (ObjsAt.keep (alloc_old w _) h))
  have HO := Lib.hid h
  have hrl := relsR_le (beginRR_zero hc) ha hb
  have HH := Lib.hid ((hasR_at ha).trans (decide_eq_true hb))
  obtain ⟨p, cap, bb, o, rfl, hcap, hmax, hp, hcc⟩ := h
  rw [hc] at HK
  clear hc
  obtain rfl := hp (by omega)
  obtain ⟨vs, g0, -, g2, ⟨pS, capS, bS, oS, rfl, hcapS, hmaxS, hpS, hcS⟩, -⟩ := hcc a ha
  obtain rfl := hpS (by omega)
  obtain ⟨vr, vn, s0, -, -, -, -, -, s6, -, ⟨pR, capR, bR, oR, rfl, hcapR, hmaxR, hpR, hcR⟩, -⟩ := hcS b hb
  clear hcc hp hpS hcS
  generalize l[a].syms[b].rels = rs at *
  generalize l[a].syms.length = nS at *
  generalize (beginRR l).1 = cn at *
  have G0 := Lib.hid g0
  have G2 := Lib.hid g2
  have S0 := Lib.hid s0
  have S6 := Lib.hid s6
  have HCR := Lib.hid hcR
  have HPR := Lib.hid hpR
  clear g0 g2 s0 s6 hcR hpR
  obtain ⟨i0, hin0, hz0, hz1, hz2⟩ := info_parts info_place
  have HI0 := Lib.hid hin0
  have HZ0 := Lib.hid hz0
  have HZ1 := Lib.hid hz1
  have HZ2 := Lib.hid hz2
  clear hin0 hz0 hz1 hz2
  go_enter Tryd.func14, Tryd.ntmps14
  go_wp2_with fail
  refine HK.out.mono ?_
  rintro e w1 ⟨rfl, hB⟩
  have p0 : w1.cell? ⟨w.heap.size, 0, none⟩ = some (.int .i64 a) := cell_keep hB (by simp) (by simp [go_sem])
  have p1 : w1.cell? ⟨w.heap.size, 1, none⟩ = some (.int .i64 b) := cell_keep hB (by simp) (by simp [go_sem])
  have hz1 : w.heap.size < w1.heap.size := by have := hB.size; (try simp at this); omega
  have HB : Hid (Below w.heap.size w w1) := (alloc_old w _).trans (hB.mono (by simp))
  clear hB HK
  have HHAS := Lib.hid (has_any _ l a b w1 (ObjsAt.keep HB.out HO.out))
  rw [HH.out] at HHAS
  go_wp2_with (go_at_call 26; refine HHAS.out.mono ?_; rintro e w2 ⟨rfl, hB2⟩; replace p0 := cell_keep hB2 hz1 p0; replace p1 := cell_keep hB2 hz1 p1; have hz2 : w.heap.size < w2.heap.size := size_keep hB2 hz1; have HB2 : Hid (Below w.heap.size w w2) := HB.out.trans (hB2.mono HB.out.size); clear hB2 HHAS HB; have g2 := cell_keep HB2.out G0.out G2.out; have g0 := size_keep HB2.out G0.out; have s6 := cell_keep HB2.out S0.out S6.out; have s0 := size_keep HB2.out S0.out)
  go_quiet (fail)
  rename_i nq
  go_wp2
  have HB3 : Hid (Below w.heap.size w (w2.drewN nq)) := below_drewN HB2.out nq
  replace p0 : (w2.drewN nq).cell? ⟨w.heap.size, 0, none⟩ = some (.int .i64 a) := p0
  have P0 := Lib.hid p0
  have hz3 : w.heap.size < (w2.drewN nq).heap.size := hz2
  clear p0 p1 g0 g2 s0 s6 hz1 hz2 HB2 G0 G2 S0 S6
  generalize w2.drewN nq = w3 at *
  go_loopw [9, 11] (fun v9 v11 wr => ∃ (j : Nat) (acc : List (Nat × Nat)), j ≤ rs.length ∧ v11 = .int .i64 j ∧ acc.length = j ∧ refsGo l a acc (rs.drop j) = refsGo l a [] rs ∧ PRow w3.heap.size wr v9 acc ∧ Below w3.heap.size w3 wr) (fun _ v11 _ => rs.length - (intOf v11).toNat)
  case atStart => exact ⟨0, [], Nat.zero_le _, rfl, rfl, rfl, PRow.nil _ _, Below.refl _ _⟩
  case round =>
    obtain ⟨j, acc, hj, rfl, hal, hgo, hown, hbel⟩ := hrel
    have HGO := Lib.hid hgo; clear hgo
    have HOWN := Lib.hid hown; clear hown
    have HBW := Lib.hid hbel; clear hbel
    have HBV : Hid (Below w.heap.size w wr) := HB3.out.trans (HBW.out.mono HB3.out.size)
    by_cases hlt : j < rs.length
    · obtain rfl := HPR.out (by omega)
      obtain ⟨s0, -, -, s3, -, -, -, -, hnm⟩ := relR_keeps _ _ _ _ _ HBV.out (HCR.out j hlt)
      generalize hx : rs[j] = x at s3 hnm
      obtain ⟨xo, xk, xn, xa⟩ := x
      simp only [] at s3 hnm
      have HX := Lib.hid hx; clear hx
      have t0 : wr.cell? ⟨w.heap.size, 0, none⟩ = some (.int .i64 a) := cell_keep HBW.out hz3 P0.out
      have hzr : w.heap.size < wr.heap.size := size_keep HBW.out hz3
      have HOR := Lib.hid (ObjsAt.keep HBV.out HO.out)
      have HF := Lib.hid (fun (w' : World) (ho : ObjsAt w' (.slice (some ⟨bb, o, none⟩) l.length cap) l) => findRef_any (.slice (some ⟨bb, o, none⟩) l.length cap) l a xn w' ho (by omega))
      have HYS := Lib.hid (fun q => refsGo_yes (p := q) hlt HX.out HGO.out)
      have HNS := Lib.hid (refsGo_no hlt HX.out HGO.out)
      simp only [] at HYS HNS
      generalize findR l a xn.data.toList = fp at HF HYS HNS
      simp only [placeRet_eq] at HF
      have hne0 : ¬ wr.heap.size = w.heap.size := by omega
      have hne1 : ¬ wr.heap.size = bR := by omega
      go_wp2
      go_cut [12, 13] (fun v12 v13 wx => ∃ g : Nat, v12 = .pointer (some ⟨g, 0, none⟩) ∧ v13 = .bool fp.isSome ∧ g < wx.heap.size ∧ wx.cell? ⟨g, 0, none⟩ = some (.int .i64 ((fp.getD (0, 0)).1 : Nat)) ∧ wx.cell? ⟨g, 1, none⟩ = some (.int .i64 ((fp.getD (0, 0)).2 : Nat)) ∧ Below wr.heap.size wr wx)
      case first =>
        go_region_held3 (fun w' => w'.cell? ⟨w.heap.size, 0, none⟩ = some (.int .i64 a) ∧ w'.cell? ⟨bR, oR + j * 4 + 2, none⟩ = some (.string xn)) (go_keep) (first | (go_at_call 25; refine (HF.out _ ?_).mono ?_; (first | exact ObjsAt.keep (Below.refl _ _).drew HOR.out | exact ObjsAt.keep ((Below.refl _ _).alloc (by simp) _).drew HOR.out); rintro e w' ⟨rfl, hB⟩; have k1 : w'.cell? ⟨w.heap.size, 0, none⟩ = some (.int .i64 a) := cell_keep hB (by simp; omega) (by simp [go_sem, *]); have k2 : w'.cell? ⟨bR, oR + j * 4 + 2, none⟩ = some (.string xn) := cell_keep hB (by simp <;> omega) (by simp [go_sem, *]); obtain ⟨hc, hf⟩ := bcell hB))
        all_goals go_wp2_with fail
        all_goals go_meet
        all_goals go_light
        · exact ⟨_, rfl, rfl, by simp, by simp [go_sem], by simp [go_sem], ((Below.refl _ _).drew.trans (hB.mono (by simp))).alloc (by have := hB.size; (try simp at this); omega) _⟩
        · have c0 : w'.cell? ⟨wr.heap.size, 0, none⟩ = some (.int .i64 0) := cell_keep hB (by simp) (by simp [go_sem])
          have c1 : w'.cell? ⟨wr.heap.size, 1, none⟩ = some (.int .i64 0) := cell_keep hB (by simp) (by simp [go_sem])
          have hzz : wr.heap.size < w'.heap.size := by have := hB.size; (try simp at this); omega
          exact ⟨_, rfl, rfl, by simpa [go_sem] using hzz, by simp [go_sem, c0], by simp [go_sem, c1], ((((Below.refl _ _).alloc (by simp) _).drew.trans (hB.mono (by simp))).setCell (by simp) _).setCell (by simp) _⟩
      case rest =>
        obtain ⟨g, rfl, rfl, hg, hg0, hg1, hbx⟩ := hcut
        replace s3 := cell_keep hbx s0 s3
        replace s0 := size_keep hbx s0
        have HBX := Lib.hid hbx; clear hbx
        clear HF t0 hne0 hne1
        cases fp with
        | none =>
          have HNE := Lib.hid (HNS.out rfl)
          simp only [Option.getD_none] at hg0 hg1
          go_wp2
          go_quiet (fail)
          go_wp2
          go_ret3
          rw [HNE.out]
          exact ⟨_, rfl, rowAt_nil, below_drewN (HBV.out.trans (HBX.out.mono HBV.out.size)) _⟩
        | some pq =>
          obtain ⟨pa, pb⟩ := pq
          have HYE := Lib.hid (HYS.out (pa, pb) rfl)
          simp only [Option.getD_some] at hg0 hg1
          go_wp2_with (at_builtin; refine wpList_append_own _ rfl _ _ 44 rfl w3.heap.size 26 i0 (.agg #[.int .i64 0, .int .i64 0]) 2 16 Tryd.underlying44 HI0.out HZ0.out HZ1.out HZ2.out rfl (by decide) _ acc.length (placeCells acc) rfl ?c0 _ 1 1 [.int .i64 pa, .int .i64 pb] rfl rfl ?c1 two_one ?c3 ?c4 ?c5 ?_)
          case c0 => exact PRow.keep (HBX.out.alloc HBX.out.size _) HOWN.out
          case c1 => exact two_news (by simp [go_sem]) (by simp [go_sem])
          case c3 => unfold maxLen; omega
          case c4 => omega
          case c5 => have := HBW.out.size; have := HBX.out.size; simp; omega
          intro v3 w4 hown3 hgrow3 _
          rw [← hal] at hown3
          have HOW3 := Lib.hid (PRow.snoc hown3); clear hown3
          have HB4 : Hid (Below w3.heap.size w3 w4) := ((HBW.out.trans (HBX.out.mono HBW.out.size)).alloc (Nat.le_trans HBW.out.size HBX.out.size) _).grown hgrow3 (by have := HBW.out.size; have := HBX.out.size; simp; omega) (fun q e => (World.ownsRow.lt HOWN.out q e).1)
          clear hgrow3
          go_wp2
          go_roundw
          case rel => exact ⟨j + 1, _, by omega, by go_num, by simp [hal], HYE.out, HOW3.out, HB4.out⟩
          case measure => simp [intOf]; omega
    · have hgo := refsGo_end hlt HGO.out
      have HRW := Lib.hid (PRow.row HOWN.out (by omega))
      have HGE := Lib.hid hgo; clear hgo
      go_wp2
      go_ret3
      rw [HGE.out]
      exact ⟨_, rfl, HRW.out, HBV.out⟩
theorem refRefs_any (v : Value) (l : List GObj) (a b : Int) (w : World) (h : ObjsAt w v l) :
    Calls Tryd.prog 14 #[v, .agg #[.int .i64 a, .int .i64 b]] w (RefsPost w (refsV (beginRR l) l a b).1 (refsV (beginRR l) l a b).2.1 (refsV (beginRR l) l a b).2.2) := by
  unfold refsV
  by_cases hc : (beginRR l).2 = 0
  · rw [if_neg (by simpa using hc)]
    cases hh : hasR l a b with
    | false => exact refRefs_out v l a b w h hc hh
    | true =>
      obtain ⟨an, bn, ha, rfl, rfl, hb⟩ := hasR_yes hh
      rw [if_pos rfl, Int.toNat_natCast, Int.toNat_natCast, relsAt_eq ha hb]
      exact refRefs_in v l an bn w h hc ha hb
  · rw [if_pos hc]
    exact refRefs_bad v l a b w h hc
end Go.Proofs.YtiogoinaklgglaaDoor
