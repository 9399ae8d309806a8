/- The walk of aediculelaw12.ResolveTells. -/
import Derived.Test.YtiogoinaklgglaaDoorWCopyAll
import Derived.Test.YtiogoinaklgglaaDoorPlainSameMay
import Derived.Test.YtiogoinaklgglaaDoorWOne
import Derived.Test.YtiogoinaklgglaaDoorWRefFind
import Derived.Test.YtiogoinaklgglaaDoorWRefRefs
import Derived.Test.YtiogoinaklgglaaDoorWRefs
import Derived.Test.YtiogoinaklgglaaDoorWWinners
import Derived.Test.YtiogoinaklgglaaDoorWRefWinners
import Derived.Test.YtiogoinaklgglaaDoorWRefSame
import Derived.Test.YtiogoinaklgglaaDoorWRefSameSym
namespace Go.Proofs.YtiogoinaklgglaaDoor
open Go.RowKit Go.Maps Go.WideMaps
set_option maxRecDepth 100000 in
set_option maxHeartbeats 1000000 in
theorem tells_guard (v : Value) (l : List GObj) (i : Int) (nm : ByteArray) (a b : Int) (w : World) (h : ObjsAt w v l) (hnm : nm.size ≤ 140737488355328) (hg : largeB l = true ∨ 1024 < nm.size) :
    Calls Tryd.prog 5 #[v, .int .i64 i, .string nm, .agg #[.int .i64 a, .int .i64 b]] w fun e w' => e = .returned (.bool true) ∧ Below w.heap.size w w' := by
  have HL := Lib.hid (large_any v l _ (ObjsAt.keep (alloc_old w (.cells #[.int .i64 a, .int .i64 b] 26)) h))
  obtain ⟨p, cap, bb, o, rfl, hcap, hmax, -, -⟩ := h
  by_cases h1 : largeB l = true
  · rw [h1] at HL
    clear hg h1
    go_enter Tryd.func5, Tryd.ntmps5
    go_wp2_with (first | (go_at_call 6; refine HL.out.mono ?_; rintro e w1 ⟨rfl, hB1⟩) | (go_at_call 7; refine (alive12_any _).mono ?_; rintro e w2 ⟨rfl, hB2⟩))
    go_ret
    exact ⟨rfl, ((alloc_old w _).trans (hB1.mono (by simp))).trans (hB2.mono (by have := hB1.size; simp at this; omega))⟩
  · have h1' : largeB l = false := by simpa using h1
    rw [h1'] at HL
    have h2 : 1024 < nm.size := hg.resolve_left h1
    clear h1 hg h1'
    have h2' : decide ((1024 : Int) < (nm.size : Int)) = true := by simp; omega
    go_enter Tryd.func5, Tryd.ntmps5
    go_wp2_with (first | (go_at_call 6; refine HL.out.mono ?_; rintro e w1 ⟨rfl, hB1⟩) | (go_at_call 7; refine (alive12_any _).mono ?_; rintro e w2 ⟨rfl, hB2⟩))
    go_ret
    exact ⟨rfl, ((alloc_old w _).trans (hB1.mono (by simp))).trans (hB2.mono (by have := hB1.size; simp at this; omega))⟩
/-- what is kept all along -/
def TSt (w : World) (v : Value) (l : List GObj) (a b : Int) (wk : World) : Prop := ObjsAt wk v l ∧ PlaceAt wk w.heap.size a b ∧ Below w.heap.size w wk
theorem TSt.keep {w : World} {v : Value} {l : List GObj} {a b : Int} {wk wk' : World} (hb : Below wk.heap.size wk wk') (h : TSt w v l a b wk) : TSt w v l a b wk' := ⟨ObjsAt.keep hb h.1, placeAt_keep hb h.2.1, h.2.2.trans (hb.mono h.2.2.size)⟩
set_option maxRecDepth 100000 in
set_option maxHeartbeats 4000000 in
theorem tells_main (v : Value) (l : List GObj) (i : Int) (nm : ByteArray) (a b : Int) (w : World) (h : ObjsAt w v l) (hbd : ObjsBd l) (hnm : nm.size ≤ 140737488355328) (h1 : largeB l = false) (h2 : ¬ 1024 < nm.size) :
    Calls Tryd.prog 5 #[v, .int .i64 i, .string nm, .agg #[.int .i64 a, .int .i64 b]] w fun e w' => e = .returned (.bool true) ∧ Below w.heap.size w w' := by
  have hsz := objsSz_of h
  have hbs := begin_same h1 hsz
  have hfs := findAll_same h1 hsz i nm.data.toList
  have HFL : Hid ((beginRR l).2 = 0 → (flat l).length ≤ 1024) := fun hc => by
    rw [begin_same h1 hsz] at hc
    exact flat_length_le (beginR_zero hc).1
  have c1 := fun v' w' (h' : ObjsAt w' v' l) => resCheck_any v' l w' h'
  have c2 := fun v' w' (h' : ObjsAt w' v' l) => refCheck_any v' l w' h'
  have c3 := fun v' w' (h' : ObjsAt w' v' l) => resFind_any v' l i nm w' h' (by omega)
  have c4 := fun v' w' (h' : ObjsAt w' v' l) => refFind_any v' l i nm w' h'
  have c5 := fun v' w' (h' : ObjsAt w' v' l) => refs_any v' l a b w' h'
  have c6 := fun v' w' (h' : ObjsAt w' v' l) => refRefs_any v' l a b w' h'
  have c7 := fun v' w' (h' : ObjsAt w' v' l) => winners_any v' l w' h'
  have c8 := fun v' w' (h' : ObjsAt w' v' l) => refWinners_any v' l w' h' HFL.out
  rw [hbs] at c2 c6 c8
  rw [hfs] at c4
  generalize hfa : findAll l i nm.data.toList = fr at c3 c4
  generalize (if (beginR l).2 = 0 then selPlaces (flat l) (flat l) else []) = wps at c7 c8
  generalize refsV (beginR l) l a b = rv at c5 c6
  generalize beginR l = br at c1 c2 c7 c8
  obtain ⟨⟨fa, fb⟩, fc⟩ := fr
  obtain ⟨rps, rn, rc⟩ := rv
  obtain ⟨bn, bc⟩ := br
  simp only [findV] at c1 c2 c3 c4 c5 c6 c7 c8
  have C1 := Lib.hid c1; have C2 := Lib.hid c2; have C3 := Lib.hid c3; have C4 := Lib.hid c4; have C5 := Lib.hid c5; have C6 := Lib.hid c6; have C7 := Lib.hid c7; have C8 := Lib.hid c8
  clear c1 c2 c3 c4 c5 c6 c7 c8 hbs hfs hfa hsz HFL
  have hT : TSt w v l a b (w.alloc (.cells #[.int .i64 a, .int .i64 b] 26)) := ⟨ObjsAt.keep (alloc_old w _) h, ⟨by simp, by simp [go_sem], by simp [go_sem]⟩, alloc_old w _⟩
  have HT := Lib.hid hT; clear hT
  have HL := Lib.hid (large_any v l _ HT.out.1)
  rw [h1] at HL
  have HBD := Lib.hid hbd; clear hbd
  have HO0 := Lib.hid h
  obtain ⟨p, cap, bb, o, rfl, hcap, hmax, hp, hc⟩ := h
  have HP := Lib.hid hp; clear hp
  have HC := Lib.hid hc; clear hc
  have b2 : decide ((1024 : Int) < (nm.size : Int)) = false := by simp; omega
  clear h1
  go_enter Tryd.func5, Tryd.ntmps5
  go_wp2_with (go_at_call 6; refine HL.out.mono ?_; rintro e w1 ⟨rfl, hB1⟩; replace HT := Lib.hid (HT.out.keep (by simpa using hB1)); clear hB1)
  clear HL
  refine (copyAll_any _ l _ HT.out.1 HBD.out).mono ?_
  rintro e w2 ⟨vo, us, rfl, hum, hsep, hB⟩
  have HO := Lib.hid (hsep.objs HT.out.1 hum)
  replace HT := Lib.hid (HT.out.keep hB)
  clear hB hsep hum us HBD
  obtain ⟨po, co, bo, oo, rfl, hco, -, hpo, hcc⟩ := HO.out
  have HPO := Lib.hid hpo; clear hpo hcc
  have keepT := True.intro
  go_wp2_with fail
  refine (C1.out _ _ HO.out).mono ?_
  rintro e w3 ⟨rfl, hB⟩
  replace HT := Lib.hid (HT.out.keep hB); replace HO := Lib.hid (HO.out.keep hB); clear hB
  go_wp2_with fail
  refine (C2.out _ _ HT.out.1).mono ?_
  rintro e w4 ⟨rfl, hB⟩
  replace HT := Lib.hid (HT.out.keep hB); replace HO := Lib.hid (HO.out.keep hB); clear hB
  go_wp2_with fail
  refine (C3.out _ _ HO.out).mono ?_
  rintro e w5 ⟨rfl, hB⟩
  have HQ1 : Hid (PlaceAt (w5.alloc (.cells #[.int .i64 fa, .int .i64 fb] 26)) w5.heap.size fa fb) := ⟨by simp, by simp [go_sem], by simp [go_sem]⟩
  replace HT := Lib.hid ((HT.out.keep hB).keep (alloc_old w5 (.cells #[.int .i64 fa, .int .i64 fb] 26)))
  replace HO := Lib.hid ((HO.out.keep hB).keep (alloc_old w5 (.cells #[.int .i64 fa, .int .i64 fb] 26)))
  clear hB
  go_wp2_with fail
  refine (C4.out _ _ HT.out.1).mono ?_
  rintro e w6 ⟨rfl, hB⟩
  have HQ2 : Hid (PlaceAt (w6.alloc (.cells #[.int .i64 fa, .int .i64 fb] 26)) w6.heap.size fa fb) := ⟨by simp, by simp [go_sem], by simp [go_sem]⟩
  replace HQ1 := Lib.hid (placeAt_keep (alloc_old w6 (.cells #[.int .i64 fa, .int .i64 fb] 26)) (placeAt_keep hB HQ1.out))
  replace HT := Lib.hid ((HT.out.keep hB).keep (alloc_old w6 (.cells #[.int .i64 fa, .int .i64 fb] 26)))
  replace HO := Lib.hid ((HO.out.keep hB).keep (alloc_old w6 (.cells #[.int .i64 fa, .int .i64 fb] 26)))
  clear hB
  obtain ⟨q0, q1, q2⟩ := HQ1.out
  obtain ⟨q3, q4, q5⟩ := HQ2.out
  obtain ⟨t0, t1, t2⟩ := HT.out.2.1
  go_wp2_with fail
  clear q0 q1 q2 q3 q4 q5 t0 t1 t2 HQ1 HQ2
  refine (C5.out _ _ HO.out).mono ?_
  rintro e w7 ⟨vr1, rfl, hr1, hB⟩
  replace HT := Lib.hid (HT.out.keep hB); replace HO := Lib.hid (HO.out.keep hB); clear hB
  have HR1 := Lib.hid hr1; clear hr1
  obtain ⟨t0, t1, t2⟩ := HT.out.2.1
  go_wp2_with fail
  clear t0 t1 t2
  refine (C6.out _ _ HT.out.1).mono ?_
  rintro e w8 ⟨vr2, rfl, hr2, hB⟩
  replace HT := Lib.hid (HT.out.keep hB); replace HO := Lib.hid (HO.out.keep hB); replace HR1 := Lib.hid (HR1.out.keep placeR_keeps hB); clear hB
  have HR2 := Lib.hid hr2; clear hr2
  go_wp2_with fail
  refine (C7.out _ _ HO.out).mono ?_
  rintro e w9 ⟨vw1, rfl, hr3, hB⟩
  replace HT := Lib.hid (HT.out.keep hB); replace HO := Lib.hid (HO.out.keep hB); replace HR1 := Lib.hid (HR1.out.keep placeR_keeps hB); replace HR2 := Lib.hid (HR2.out.keep placeR_keeps hB); clear hB
  have HR3 := Lib.hid hr3; clear hr3
  go_wp2_with fail
  refine (C8.out _ _ HT.out.1).mono ?_
  rintro e w10 ⟨vw2, rfl, hr4, hB⟩
  replace HT := Lib.hid (HT.out.keep hB); replace HO := Lib.hid (HO.out.keep hB); replace HR1 := Lib.hid (HR1.out.keep placeR_keeps hB); replace HR2 := Lib.hid (HR2.out.keep placeR_keeps hB); replace HR3 := Lib.hid (HR3.out.keep placeR_keeps hB); clear hB
  have HR4 := Lib.hid hr4; clear hr4
  clear C1 C2 C3 C4 C5 C6 C7 C8
  go_wp2
  go_loopw [28] (fun v28 wr => ∃ k : Nat, k ≤ l.length ∧ v28 = .int .i64 k ∧ Below w10.heap.size w10 wr) (fun v28 _ => l.length - (intOf v28).toNat)
  case atStart => exact ⟨0, Nat.zero_le _, rfl, Below.refl _ _⟩
  case round =>
    obtain ⟨k, hk, rfl, hbel⟩ := hrel
    have HB := Lib.hid hbel; clear hbel
    by_cases hlt : k < l.length
    · obtain rfl := HP.out (by omega)
      obtain rfl := HPO.out (by omega)
      obtain ⟨_, _, _, _, e1, -, -, f1, hc1⟩ := ObjsAt.keep HB.out HT.out.1
      cases e1
      cases f1 (by omega)
      obtain ⟨_, _, _, _, e2, -, -, f2, hc2⟩ := ObjsAt.keep HB.out HO.out
      cases e2
      cases f2 (by omega)
      obtain ⟨vs, g0, g1, g2, hin1⟩ := hc1 k hlt
      obtain ⟨us, k0, k1, k2, hin2⟩ := hc2 k hlt
      clear hc1 hc2
      generalize l[k] = x at g1 g2 hin1 k1 k2 hin2
      have HCS := Lib.hid (sameObj_any x us vs wr.drew (ObjIn.keep (Below.refl _ _).drew hin2) (ObjIn.keep (Below.refl _ _).drew hin1))
      obtain ⟨⟨pS, capS, bS, oS, rfl, -⟩, -⟩ := hin1
      obtain ⟨⟨pT, capT, bT, oT, rfl, -⟩, -⟩ := hin2
      obtain ⟨xn, xs⟩ := x
      simp only [] at g1 g2 k1 k2 HCS
      go_wp2
      go_still_tail 8, (by kernel_rfl)
      change wpList _ _ _ _ _ wr.drew
      go_wp2_with (go_at_call 17; refine HCS.out.mono ?_; rintro e w2 ⟨rfl, hB2⟩)
      exact ⟨⟨k + 1, by omega, by go_num, HB.out.drew.trans (hB2.mono HB.out.size)⟩, by simp [intOf]; omega⟩
    · replace HR1 := Lib.hid (HR1.out.keep placeR_keeps HB.out); replace HR2 := Lib.hid (HR2.out.keep placeR_keeps HB.out); replace HR3 := Lib.hid (HR3.out.keep placeR_keeps HB.out); replace HR4 := Lib.hid (HR4.out.keep placeR_keeps HB.out)
      have HW := Lib.hid (HT.out.2.2.trans (HB.out.mono HT.out.2.2.size))
      clear HT HO HB
      go_wp2_with fail
      refine (same_any _ _ _ _ HR1.out HR2.out).mono ?_
      rintro e w11 ⟨rfl, hB⟩
      replace HR3 := Lib.hid (HR3.out.keep placeR_keeps hB); replace HR4 := Lib.hid (HR4.out.keep placeR_keeps hB)
      replace HW := Lib.hid (HW.out.trans (hB.mono HW.out.size)); clear hB
      go_wp2_with fail
      refine (same_any _ _ _ _ HR3.out HR4.out).mono ?_
      rintro e w12 ⟨rfl, hB⟩
      replace HW := Lib.hid (HW.out.trans (hB.mono HW.out.size)); clear hB
      go_wp2_with fail
      refine (alive12_any _).mono ?_
      rintro e w13 ⟨rfl, hB⟩
      replace HW := Lib.hid (HW.out.trans (hB.mono HW.out.size)); clear hB
      go_wp2_with fail
      go_ret
      exact ⟨rfl, HW.out⟩
theorem tells_any (v : Value) (l : List GObj) (i : Int) (nm : ByteArray) (a b : Int) (w : World) (h : ObjsAt w v l) (hbd : ObjsBd l) (hnm : nm.size ≤ 140737488355328) :
    Calls Tryd.prog 5 #[v, .int .i64 i, .string nm, .agg #[.int .i64 a, .int .i64 b]] w fun e w' => e = .returned (.bool true) ∧ Below w.heap.size w w' := by
  by_cases hg : largeB l = true ∨ 1024 < nm.size
  · exact tells_guard v l i nm a b w h hnm hg
  · exact tells_main v l i nm a b w h hbd hnm (by simpa using fun h => hg (.inl h)) (fun h => hg (.inr h))
end Go.Proofs.YtiogoinaklgglaaDoor
