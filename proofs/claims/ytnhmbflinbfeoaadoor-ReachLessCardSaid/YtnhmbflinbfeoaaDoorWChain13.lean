/- The walk of reach.Chain. -/
import Derived.Test.YtnhmbflinbfeoaaDoorWGoes13
import Derived.Test.YtnhmbflinbfeoaaDoorGoes13
import Derived.Test.YtnhmbflinbfeoaaDoorWReachHas
import Derived.Test.YtnhmbflinbfeoaaDoorWBeginAny
import Derived.Deep.LoopGhost
namespace Go.Proofs.YtnhmbflinbfeoaaDoor
open Go.RowKit Go.Maps
def ChainPost (l : List GObj) (p x : PP) (w : World) (e : Ending) (w' : World) : Prop :=
  ∃ C vo, e = .returned (.tuple #[vo, .int .i64 0]) ∧ RowAt 2 PlaceR w' vo C ∧ ChainOf l p x C ∧ C.length ≤ 1024 ∧ Below w.heap.size w w'
theorem hasR_valid {l : List GObj} {p : PP} (h : validP l p) : hasR l p.1 p.2 = true := by
  obtain ⟨o, s, h1, h2⟩ := h
  unfold hasR
  have h3 := (List.getElem?_eq_some_iff.1 h2).1
  simp [h1, h3]
set_option maxRecDepth 100000 in
set_option maxHeartbeats 4000000 in
theorem chain_any (hsort : SortOk) (hrev : RevOk) (v : Value) (l : List GObj) (p x : PP) (w : World) (h : ObjsAt w v l) (hc : (beginR l).2 = 0) (hp : validP l p) (hr : Reach l p x) :
    Calls Tryd.prog 12 #[v, placeV p, placeV x] w (ChainPost l p x w) := by
  have HSORT := Lib.hid hsort; clear hsort
  have HREV := Lib.hid hrev; clear hrev
  have HO := Lib.hid h
  obtain ⟨pv, cap, bb, o, rfl, -⟩ := h
  have HC := Lib.hid hc
  have HP := Lib.hid hp
  have HR := Lib.hid hr
  have hx := hr.valid hp
  have hh1 := hasR_valid hp
  have hh2 := hasR_valid hx
  obtain ⟨p1, p2⟩ := p
  obtain ⟨x1, x2⟩ := x
  simp only [] at hh1 hh2
  unfold placeV
  simp only []
  have hb0 := (alloc_old w (.cells #[.int .i64 p1, .int .i64 p2] 30)).alloc (by simp) (.cells #[.int .i64 x1, .int .i64 x2] 30)
  have HCK := Lib.hid (fun (W : World) (hW : Below w.heap.size w W) => resCheck_any (.slice pv l.length cap) l W (ObjsAt.keep hW HO.out))
  have HHP := Lib.hid (fun (W : World) (hW : Below w.heap.size w W) => rhas_any (.slice pv l.length cap) l p1 p2 W (ObjsAt.keep hW HO.out))
  have HHX := Lib.hid (fun (W : World) (hW : Below w.heap.size w W) => rhas_any (.slice pv l.length cap) l x1 x2 W (ObjsAt.keep hW HO.out))
  have HB0 := Lib.hid hb0
  rw [hc] at HCK
  rw [hh1] at HHP
  rw [hh2] at HHX
  clear hc hp hr hx hh1 hh2
  have b0 : ((w.alloc (.cells #[.int .i64 p1, .int .i64 p2] 30)).alloc (.cells #[.int .i64 x1, .int .i64 x2] 30)).cell? ⟨w.heap.size, 0, none⟩ = some (.int .i64 p1) := by simp [go_sem]
  have b1 : ((w.alloc (.cells #[.int .i64 p1, .int .i64 p2] 30)).alloc (.cells #[.int .i64 x1, .int .i64 x2] 30)).cell? ⟨w.heap.size, 1, none⟩ = some (.int .i64 p2) := by simp [go_sem]
  have b2 : ((w.alloc (.cells #[.int .i64 p1, .int .i64 p2] 30)).alloc (.cells #[.int .i64 x1, .int .i64 x2] 30)).cell? ⟨w.heap.size + 1, 0, none⟩ = some (.int .i64 x1) := by simp [go_sem]
  have b3 : ((w.alloc (.cells #[.int .i64 p1, .int .i64 p2] 30)).alloc (.cells #[.int .i64 x1, .int .i64 x2] 30)).cell? ⟨w.heap.size + 1, 1, none⟩ = some (.int .i64 x2) := by simp [go_sem]
  have hz2 : w.heap.size + 1 < ((w.alloc (.cells #[.int .i64 p1, .int .i64 p2] 30)).alloc (.cells #[.int .i64 x1, .int .i64 x2] 30)).heap.size := by simp
  clear hb0
  go_enter Tryd.func12, Tryd.ntmps12
  go_wp2_with fail
  generalize (w.alloc (.cells #[.int .i64 p1, .int .i64 p2] 30)).alloc (.cells #[.int .i64 x1, .int .i64 x2] 30) = w1 at *
  refine (HCK.out w1 HB0.out).mono ?_
  rintro e w2 ⟨rfl, hB⟩
  replace b0 := cell_keep hB (by omega) b0
  replace b1 := cell_keep hB (by omega) b1
  replace b2 := cell_keep hB hz2 b2
  replace b3 := cell_keep hB hz2 b3
  replace hz2 := size_keep hB hz2
  have HB2 : Hid (Below w.heap.size w w2) := HB0.out.trans (hB.mono HB0.out.size)
  clear hB HB0 HCK
  go_wp2_with fail
  refine (HHP.out w2 HB2.out).mono ?_
  rintro e w3 ⟨rfl, hB⟩
  replace b0 := cell_keep hB (by omega) b0
  replace b1 := cell_keep hB (by omega) b1
  replace b2 := cell_keep hB hz2 b2
  replace b3 := cell_keep hB hz2 b3
  replace hz2 := size_keep hB hz2
  have HB3 : Hid (Below w.heap.size w w3) := HB2.out.trans (hB.mono HB2.out.size)
  clear hB HB2 HHP
  go_wp2_with fail
  refine (HHX.out w3 HB3.out).mono ?_
  rintro e w4 ⟨rfl, hB⟩
  replace b0 := cell_keep hB (by omega) b0
  replace b1 := cell_keep hB (by omega) b1
  replace b2 := cell_keep hB hz2 b2
  replace b3 := cell_keep hB hz2 b3
  replace hz2 := size_keep hB hz2
  have HB4 : Hid (Below w.heap.size w w4) := HB3.out.trans (hB.mono HB3.out.size)
  clear hB HB3 HHX
  go_wp2_with fail
  refine (rbegin_any _ _ _ w4).mono ?_
  rintro e w5 ⟨⟨sb, mb, rfl, hs5⟩, hB⟩
  have HGO := Lib.hid (goes_any HSORT.out sb mb (.slice pv l.length cap) l (p1, p2) w4 w5 hs5 hB (ObjsAt.keep HB4.out HO.out) HC.out HP.out)
  unfold placeV at HGO
  simp only [] at HGO
  have c0 := cell_keep hB (by omega) b0
  have c1 := cell_keep hB (by omega) b1
  clear hs5 hB
  go_wp2_with fail
  refine HGO.out.mono ?_
  rintro e w6 ⟨rfl, v6, L, F, hs6, hg6, hB⟩
  clear c0 c1 HGO
  replace b0 := cell_keep hB (by omega) b0
  replace b1 := cell_keep hB (by omega) b1
  replace b2 := cell_keep hB hz2 b2
  replace b3 := cell_keep hB hz2 b3
  replace hz2 := size_keep hB hz2
  have HB6 : Hid (Below w.heap.size w w6) := HB4.out.trans (hB.mono HB4.out.size)
  clear hB HB4
  have hL := hg6.len HP.out HC.out
  have s1 : w6.cell? ⟨sb, 1, none⟩ = some (.map (some mb)) := Lib.cell_of_heap hs6.box 1
  have hsl := hs6.lt
  have HML := Lib.hid hs6.map.lt
  have hxm := (hg6.done (Nat.le_refl _) (x1, x2)).2 HR.out
  obtain ⟨i0, hi0⟩ := List.mem_iff_getElem?.1 hxm
  obtain ⟨⟨f1, f2⟩, hF⟩ := Option.isSome_iff_exists.1 ((hg6.dom (x1, x2)).2 hxm)
  have hlk : ∀ (q : PP) (z : PP), placeOkK q → F q = some z → ∀ W : World, Below w6.heap.size w6 W → (Instr.lookup 56 (.map (some mb)) (placeV q) true).run Tryd.prog W = .ok (.tuple #[placeV z, .bool true]) W := fun q z hq hz W hW => by
    have := (hs6.map.below hW hs6.map.lt).look_ok (a := q) placeKeyed Tryd.underlying56 (zeroPl W) hq
    simp only [hz, Option.map_some, Option.getD_some, Option.isSome_some] at this
    exact this
  have hlk1 := hlk (x1, x2) (f1, f2) (valid_ok (beginR_zero HC.out).1 (HR.out.valid HP.out)) hF
  simp only [placeV] at hlk1
  have HLK := Lib.hid hlk1; clear hlk hlk1 hxm hF
  have HI0 := Lib.hid hi0; clear hi0
  have HS6 := Lib.hid hs6; clear hs6
  have HG6 := Lib.hid hg6; clear hg6
  have hn0 : ¬ w6.heap.size = sb := by omega
  have hn1 : ¬ w6.heap.size = w.heap.size + 1 := by omega
  go_wp2_with fail
  go_cut [12] (fun v12 wx => v12 = .bool true ∧ Below w6.heap.size w6 wx)
  case first =>
    go_region_held3 (fun w' => w'.cell? ⟨sb, 1, none⟩ = some (.map (some mb)) ∧ w'.cell? ⟨w.heap.size + 1, 0, none⟩ = some (.int .i64 x1) ∧ w'.cell? ⟨w.heap.size + 1, 1, none⟩ = some (.int .i64 x2) ∧ (Instr.lookup 56 (.map (some mb)) (.agg #[.int .i64 x1, .int .i64 x2]) true).run Tryd.prog w' = .ok (.tuple #[.agg #[.int .i64 f1, .int .i64 f2], .bool true]) w') ((refine ⟨?_, ?_, ?_, HLK.out _ ?_⟩; go_keep; go_keep; go_keep; go_grown)) (fail)
    all_goals
      go_wp2_with fail
      go_meet
      exact ⟨rfl, by go_grown⟩
  case rest =>
    obtain ⟨rfl, hbx⟩ := hcut
    replace b0 := cell_keep hbx (by omega) b0
    replace b1 := cell_keep hbx (by omega) b1
    replace b2 := cell_keep hbx (by omega) b2
    replace b3 := cell_keep hbx (by omega) b3
    replace hz2 := size_keep hbx hz2
    have HS7 := Lib.hid (HS6.out.keep hbx); clear HS6
    have HB7 : Hid (Below w.heap.size w wc) := HB6.out.trans (hbx.mono HB6.out.size)
    clear hbx HB6 HLK HML s1
    go_wp2_with fail
    have HBL : Hid (Below wc.heap.size wc ((wc.alloc (.cells #[.int .i64 x1, .int .i64 x2] 30)).alloc (.cells #[.int .i64 x1, .int .i64 x2] 30))) := (alloc_old wc _).alloc (by simp) _
    have HPR : Hid (PRow wc.heap.size ((wc.alloc (.cells #[.int .i64 x1, .int .i64 x2] 30)).alloc (.cells #[.int .i64 x1, .int .i64 x2] 30)) (.slice (some ⟨wc.heap.size, 0, none⟩) 1 1) [(x1, x2)]) := by
      refine ⟨rfl, .inr ⟨wc.heap.size, 1, #[.int .i64 x1, .int .i64 x2], rfl, Nat.le_refl _, ?_, Nat.le_refl _, by unfold maxLen; omega, rfl, rfl⟩⟩
      exact (Below.heap_alloc _ _ _ (by simp)).trans (heap_alloc_new wc _)
    have HPA : Hid (PlaceAt ((wc.alloc (.cells #[.int .i64 x1, .int .i64 x2] 30)).alloc (.cells #[.int .i64 x1, .int .i64 x2] 30)) (wc.heap.size + 1) x1 x2) := ⟨by simp, by simp [go_sem], by simp [go_sem]⟩
    have F0 : Hid (((wc.alloc (.cells #[.int .i64 x1, .int .i64 x2] 30)).alloc (.cells #[.int .i64 x1, .int .i64 x2] 30)).frozen? ⟨wc.heap.size + 1, 0, none⟩ = false) := Lib.hid (by simp [go_sem])
    have F1 : Hid (((wc.alloc (.cells #[.int .i64 x1, .int .i64 x2] 30)).alloc (.cells #[.int .i64 x1, .int .i64 x2] 30)).frozen? ⟨wc.heap.size + 1, 1, none⟩ = false) := Lib.hid (by simp [go_sem])
    have B0 := Lib.hid b0; have B1 := Lib.hid b1
    clear b0 b1 b2 b3
    obtain ⟨iP, s0, s1, s2, s3⟩ := info_parts info_place
    have HI := Lib.hid (And.intro s0 (And.intro s1 (And.intro s2 s3)))
    clear s0 s1 s2 s3
    generalize (wc.alloc (.cells #[.int .i64 x1, .int .i64 x2] 30)).alloc (.cells #[.int .i64 x1, .int .i64 x2] 30) = w8 at *
    go_loopg [13, 14] i0 (fun kk v13 v14 wr => ∃ (D : List PP) (pb y1 y2 : Nat), v14 = .pointer (some ⟨pb, 0, none⟩) ∧ L[kk]? = some (y1, y2) ∧ Up l L (x1, x2) D kk ∧ PlaceAt wr pb y1 y2 ∧ wr.frozen? ⟨pb, 0, none⟩ = false ∧ wr.frozen? ⟨pb, 1, none⟩ = false ∧ PRow wc.heap.size wr v13 D ∧ v13.ownBlock ≠ some pb ∧ wc.heap.size ≤ pb ∧ Below wc.heap.size wc wr)
    case atStart => exact ⟨[(x1, x2)], wc.heap.size + 1, x1, x2, rfl, HI0.out, .start HI0.out, HPA.out, F0.out, F1.out, HPR.out, by simp [Value.ownBlock], by omega, HBL.out⟩
    case round =>
      obtain ⟨D, pb, y1, y2, rfl, hLk, hup, ⟨hpb, e0, e1⟩, f0, f1, hown, hne, hcpb, hbel⟩ := hrel
      have HBE := Lib.hid hbel; clear hbel
      have HUP := Lib.hid hup; clear hup
      have HLK := Lib.hid hLk; clear hLk
      have HOW := Lib.hid hown; clear hown
      have HNE := Lib.hid hne; clear hne
      have b0 := cell_keep HBE.out (by omega) B0.out
      have b1 := cell_keep HBE.out (by omega) B1.out
      by_cases he : y1 = p1 ∧ y2 = p2
      · obtain ⟨rfl, rfl⟩ := he
        have HDL := Lib.hid (HUP.out.len HG6.out.nd)
        have hd0 : 0 < D.length := (List.getElem?_eq_some_iff.1 HUP.out.first).1
        have hd1 := HDL.out
        have HRV := Lib.hid (HREV.out _ _ D wr HOW.out (by omega) hd0)
        have HCH := Lib.hid (HUP.out.chain HG6.out HLK.out)
        obtain ⟨pD, cD, rfl⟩ := own_shape HOW.out
        go_wp2_with fail
        refine HRV.out.mono ?_
        rintro e w9 ⟨rfl, hrow, hkb⟩
        have HFI := Lib.hid (And.intro hrow hkb); clear hrow hkb
        go_wp2
        go_ret2
        obtain ⟨hrow, hkb⟩ := HFI.out
        have hlen : D.length = D.reverse.length := by simp
        refine ⟨D.reverse, _, rfl, PRow.row hrow (by rw [← hlen]; omega), HCH.out, by rw [← hlen]; omega, ?_⟩
        exact (HB7.out.trans (HBE.out.mono HB7.out.size)).trans (hkb.below (by have := HB7.out.size; have := HBE.out.size; omega) (fun k hk e => by have := (HOW.out.lt k e).1; have := HB7.out.size; omega))
      · obtain ⟨j, z, hji, hFz, hLj, hkn⟩ := HG6.out.back HLK.out (fun e => he (by cases e; exact ⟨rfl, rfl⟩))
        obtain ⟨z1, z2⟩ := z
        have hyr : Reach l (p1, p2) (y1, y2) := (HG6.out.done (Nat.le_refl _) _).1 (List.mem_of_getElem? HLK.out)
        have hrun := ((HS7.out.keep HBE.out).map.drew).look (a := (y1, y2)) placeKeyed Tryd.underlying56 (zeroPl _) (valid_ok (beginR_zero HC.out).1 (hyr.valid HP.out))
        simp only [hFz, Option.map_some, Option.getD_some] at hrun
        have hrun2 : (Instr.lookup 56 (.map (some mb)) (.agg #[.int .i64 y1, .int .i64 y2]) false).run Tryd.prog wr.drew = .ok (.agg #[.int .i64 z1, .int .i64 z2]) wr.drew := hrun
        clear hrun
        have s1 : wr.cell? ⟨sb, 1, none⟩ = some (.map (some mb)) := Lib.cell_of_heap (HS7.out.keep HBE.out).box 1
        have HJ := Lib.hid (And.intro hji (And.intro hLj hkn)); clear hji hLj hkn hFz hyr
        have HPB := Lib.hid hpb
        have hcase : (y1 = p1 ∧ ¬ y2 = p2) ∨ ¬ y1 = p1 := by omega
        have HSTEP : Hid (Up l L (x1, x2) (D ++ [(z1, z2)]) j) := Up.step HUP.out HJ.out.1 HLK.out HJ.out.2.1 HJ.out.2.2
        have HLJ := Lib.hid HJ.out.2.1
        have hjk := HJ.out.1
        have hDL := HUP.out.len HG6.out.nd
        have hwr := HBE.out.size
        have HSET : Hid (Below wc.heap.size wc (((wr.setCell ⟨pb, 0, none⟩ (.int .i64 z1)).setCell ⟨pb, 1, none⟩ (.int .i64 z2)).alloc (.cells #[.int .i64 z1, .int .i64 z2] 30)).drew) := Lib.hid (by
          have hbe := HBE.out
          go_grown)
        have HOW2 : Hid ((((wr.setCell ⟨pb, 0, none⟩ (.int .i64 z1)).setCell ⟨pb, 1, none⟩ (.int .i64 z2)).alloc (.cells #[.int .i64 z1, .int .i64 z2] 30)).drew.ownsRow wc.heap.size 30 2 u13 D.length (placeCells D)) := Lib.hid (by
          refine ((own_congr HOW.out fun g hg => ?_).alloc _).drew
          have hgp : g ≠ pb := fun e => HNE.out (e ▸ hg)
          rw [Below.heap_setCell _ _ _ _ (by simpa using hgp), Below.heap_setCell _ _ _ _ (by simpa using hgp)])
        have HNEWS : Hid (∀ j u, [Value.int .i64 (z1 : Nat), Value.int .i64 (z2 : Nat)][j]? = some u → (((wr.setCell ⟨pb, 0, none⟩ (.int .i64 z1)).setCell ⟨pb, 1, none⟩ (.int .i64 z2)).alloc (.cells #[.int .i64 z1, .int .i64 z2] 30)).drew.cell? ((⟨wr.heap.size, 0, none⟩ : Addr).add j) = some u) := two_news (by simp [go_sem]) (by simp [go_sem])
        have HWZ : Hid (wc.heap.size ≤ (((wr.setCell ⟨pb, 0, none⟩ (.int .i64 z1)).setCell ⟨pb, 1, none⟩ (.int .i64 z2)).alloc (.cells #[.int .i64 z1, .int .i64 z2] 30)).drew.heap.size) := Lib.hid (by simp; omega)
        have HQ0 : Hid ((((wr.setCell ⟨pb, 0, none⟩ (.int .i64 z1)).setCell ⟨pb, 1, none⟩ (.int .i64 z2)).alloc (.cells #[.int .i64 z1, .int .i64 z2] 30)).drew.cell? ⟨pb, 0, none⟩ = some (.int .i64 z1) ∧ (((wr.setCell ⟨pb, 0, none⟩ (.int .i64 z1)).setCell ⟨pb, 1, none⟩ (.int .i64 z2)).alloc (.cells #[.int .i64 z1, .int .i64 z2] 30)).drew.cell? ⟨pb, 1, none⟩ = some (.int .i64 z2)) := Lib.hid (by
          have hne : ¬ wr.heap.size = pb := by omega
          constructor <;> simp [go_sem, *])
        obtain ⟨pD, cD, rfl⟩ := own_shape HOW.out
        clear he HJ
        rcases hcase with ⟨rfl, h2⟩ | h2
        all_goals
          go_wp2_with fail
          go_still_tail 7, (by kernel_rfl)
          go_wp2_with (at_builtin; refine wpList_append_own _ rfl _ _ 25 rfl wc.heap.size 30 iP (.agg #[.int .i64 0, .int .i64 0]) 2 16 Tryd.underlying25 HI.out.1 HI.out.2.1 HI.out.2.2.1 HI.out.2.2.2 rfl (by decide) _ D.length (placeCells D) rfl HOW2.out _ 1 1 [.int .i64 z1, .int .i64 z2] rfl rfl HNEWS.out two_one (by unfold maxLen; omega) (by omega) HWZ.out ?_)
          intro v9 w9 hown9 hgrow9 _
          have HO9 := Lib.hid (PRow.snoc hown9)
          have HB9 : Hid (Below wc.heap.size wc w9) := HSET.out.grown hgrow9 HWZ.out (fun q e => (World.ownsRow.lt HOW2.out q e).1)
          have q0 : w9.cell? ⟨pb, 0, none⟩ = some (.int .i64 z1) := (hgrow9.cell_far ⟨pb, 0, none⟩ (by simp; omega) (fun e => HNE.out e.symm)).trans HQ0.out.1
          have q1 : w9.cell? ⟨pb, 1, none⟩ = some (.int .i64 z2) := (hgrow9.cell_far ⟨pb, 1, none⟩ (by simp; omega) (fun e => HNE.out e.symm)).trans HQ0.out.2
          have hz9 : wr.heap.size ≤ w9.heap.size := by have := hgrow9.size; simp at this; omega
          clear hown9 hgrow9 e0 e1 f0 f1
          go_wp2
          go_roundg j
          case measure => omega
          case rel =>
            refine ⟨D ++ [(z1, z2)], w9.heap.size, z1, z2, rfl, HLJ.out, HSTEP.out, ⟨by simp, by simp [go_sem], by simp [go_sem]⟩, by simp [go_sem], by simp [go_sem], PRow.keep (alloc_old w9 _) HO9.out, fun e => ?_, by omega, HB9.out.alloc (by omega) _⟩
            have := (HO9.out.lt _ e).2
            omega
end Go.Proofs.YtnhmbflinbfeoaaDoor
