/- The walk of aediculelaw14.LayTells. -/
import Derived.Test.YteekdjlpfgkgjaaDoorWRefOf14
import Derived.Test.YteekdjlpfgkgjaaDoorWRefAt14
import Derived.Test.YteekdjlpfgkgjaaDoorWAlive14
import Derived.Test.YteekdjlpfgkgjaaDoorWLarge13
import Derived.Test.YteekdjlpfgkgjaaDoorWCopyAll
import Derived.Test.YteekdjlpfgkgjaaDoorPlainSameMay
import Derived.Test.YteekdjlpfgkgjaaDoorWRefSameSym
import Derived.Test.YteekdjlpfgkgjaaDoorPlaces
namespace Go.Proofs.YteekdjlpfgkgjaaDoor
open Go.RowKit Go.Maps Go.WideMaps
theorem refOf14_any (v v2 : Value) (l : List GObj) (ps : List GP) (w : World) (h : ObjsAt w v l) (h2 : RowAt 2 PlcR w v2 ps) (hlen : ps.length ≤ 1200) (hmr : mayAll l = mayAllR l) :
    Calls Tryd.prog 9 #[v, v2] w (OfPost w (layOf l ps)) := by
  by_cases hm : layMay l ps = true
  · have := refOf14_ok v v2 l ps w h h2 hlen hm (by simp only [layMay, Bool.and_eq_true] at hm; rw [← hmr]; exact hm.1)
    have e : layOf l ps = ofR (layKinds l ps [1, 3, 2] (List.replicate ps.length addr0) [] 256) := by unfold layOf ofR; rw [if_pos hm]; rfl
    rw [e]; exact this
  · have hm' : layMay l ps = false := by simpa using hm
    have HM := Lib.hid (ref14May_any v v2 l ps w h h2)
    have hmg : (mayGo l none ps && mayAllR l) = false := by rw [← hmr, Bool.and_comm]; exact hm'
    rw [hmg] at HM
    have HE : Hid (layOf l ps = ([], [], 2)) := by simp [Hid, layOf, hm']
    clear hm hm' hmg
    obtain ⟨p, cap, b, o, rfl, hcap, hmax, -, -⟩ := h
    obtain ⟨p2, cap2, b2, o2, rfl, hcap2, hmax2, hp2, hc2⟩ := h2
    clear hp2 hc2 hmr
    go_enter Tryd.func9, Tryd.ntmps9
    go_wp2_with (go_at_call 26; refine HM.out.mono ?_; rintro e w1 ⟨rfl, hB1⟩)
    go_ret3
    rw [HE.out]
    exact ⟨_, _, rfl, rowAt_nil, rowAt_nil, hB1⟩
def plcCells (p : GP) : List Value := [.int .i64 p.1, .int .i64 p.2]
theorem plcCells_len (p : GP) : (plcCells p).length = 2 := rfl
theorem plcCells_one {l : List GP} : ∀ u ∈ l.flatMap plcCells, u.oneCell' = true := by
  intro u hu
  obtain ⟨x, _, hx⟩ := List.mem_flatMap.1 hu
  simp only [plcCells, List.mem_cons, List.not_mem_nil, or_false] at hx
  rcases hx with rfl | rfl <;> rfl
theorem plc_news {w : World} {b o : Nat} {l : List GP} (h : ∀ i (hi : i < l.length), PlcR w b (o + i * 2) l[i]) : ∀ j u, (l.flatMap plcCells)[j]? = some u → w.cell? ((⟨b, o, none⟩ : Addr).add j) = some u := by
  refine row_news plcCells_len (by omega) fun i hi j u hu => ?_
  obtain ⟨-, h1, h2⟩ := h i hi
  match j, hu with
  | 0, hu => cases hu; exact h1
  | 1, hu => cases hu; exact h2
theorem plc_row {w : World} {v : Value} {base : Nat} {e : TypeId} {l : List GP} (h : w.ownsRow base e 2 v l.length (l.flatMap plcCells)) (hl : l.length ≤ 140737488355328) : RowAt 2 PlcR w v l :=
  owned_row plcCells_len h hl fun g o' i hi hg hcell => ⟨hg, hcell 0 _ (by omega) rfl, hcell 1 _ (by omega) rfl⟩
theorem info_plc : (Tryd.prog.info? 26).map (fun i => (i.zero, i.size, i.bytes)) = some (some (.agg #[.int .i64 0, .int .i64 0]), 2, 16) := by kernel_rfl
/-- what is kept all along -/
structure LSt (w : World) (v v2 v3 : Value) (l : List GObj) (ps : List GP) (wh : List GAddr) (a b : Int) (wk : World) : Prop where
  objs : ObjsAt wk v l
  plcs : RowAt 2 PlcR wk v2 ps
  addrs : RowAt 3 AddrR wk v3 wh
  pl : PlaceAt wk w.heap.size a b
  below : Below w.heap.size w wk
theorem LSt.keep {w : World} {v v2 v3 : Value} {l : List GObj} {ps : List GP} {wh : List GAddr} {a b : Int} {wk wk' : World} (h : LSt w v v2 v3 l ps wh a b wk) (hb : Below wk.heap.size wk wk') : LSt w v v2 v3 l ps wh a b wk' :=
  ⟨ObjsAt.keep hb h.objs, RowAt.keep plcR_keeps hb h.plcs, RowAt.keep addrR_keeps hb h.addrs, placeAt_keep hb h.pl, h.below.trans (hb.mono h.below.size)⟩
set_option maxRecDepth 100000 in
set_option maxHeartbeats 1000000 in
theorem layTells_guard (v v2 v3 : Value) (l : List GObj) (ps : List GP) (wh : List GAddr) (a b x : Int) (w : World) (h : ObjsAt w v l) (h2 : RowAt 2 PlcR w v2 ps) (h3 : RowAt 3 AddrR w v3 wh) (hg : large13B l = true ∨ 1200 < ps.length ∨ 300 < wh.length) :
    Calls Tryd.prog 3 #[v, v2, v3, .agg #[.int .i64 a, .int .i64 b], .int .u32 x] w fun e w' => e = .returned (.bool true) ∧ Below w.heap.size w w' := by
  have HL := Lib.hid (large13_any v l _ (ObjsAt.keep (alloc_old w (.cells #[.int .i64 a, .int .i64 b] 26)) h))
  obtain ⟨p, cap, bb, o, rfl, hcap, hmax, -, -⟩ := h
  obtain ⟨p2, cap2, b2, o2, rfl, hcap2, hmax2, -, -⟩ := h2
  obtain ⟨p3, cap3, b3, o3, rfl, hcap3, hmax3, -, -⟩ := h3
  have hfin : ∀ (w1 w2 : World), Below (w.alloc (.cells #[.int .i64 a, .int .i64 b] 26)).heap.size (w.alloc (.cells #[.int .i64 a, .int .i64 b] 26)) w1 → Below w1.heap.size w1 w2 → Below w.heap.size w w2 := fun w1 w2 h1 h2 =>
    ((alloc_old w _).trans (h1.mono (by simp))).trans (h2.mono (by have := h1.size; simp at this; omega))
  have HFIN := Lib.hid hfin; clear hfin
  by_cases h1 : large13B l = true
  · rw [h1] at HL
    clear hg h1
    go_enter Tryd.func3, Tryd.ntmps3
    go_wp2_with (first | (go_at_call 5; refine HL.out.mono ?_; rintro e w1 ⟨rfl, hB1⟩) | (go_at_call 6; refine (alive14_any _).mono ?_; rintro e w2 ⟨rfl, hB2⟩))
    go_ret
    exact ⟨rfl, HFIN.out _ _ hB1 hB2⟩
  · have h1' : large13B l = false := by simpa using h1
    rw [h1'] at HL
    have hlen := hg.resolve_left h1
    clear h1 hg h1'
    by_cases h2 : 1200 < ps.length
    · have h2' : decide ((1200 : Int) < (ps.length : Int)) = true := by simp; omega
      go_enter Tryd.func3, Tryd.ntmps3
      go_wp2_with (first | (go_at_call 5; refine HL.out.mono ?_; rintro e w1 ⟨rfl, hB1⟩) | (go_at_call 6; refine (alive14_any _).mono ?_; rintro e w2 ⟨rfl, hB2⟩))
      go_ret
      exact ⟨rfl, HFIN.out _ _ hB1 hB2⟩
    · have h2' : decide ((1200 : Int) < (ps.length : Int)) = false := by simp; omega
      have h3 := hlen.resolve_left h2
      have h3' : decide ((300 : Int) < (wh.length : Int)) = true := by simp; omega
      clear hlen
      go_enter Tryd.func3, Tryd.ntmps3
      go_wp2_with (first | (go_at_call 5; refine HL.out.mono ?_; rintro e w1 ⟨rfl, hB1⟩) | (go_at_call 6; refine (alive14_any _).mono ?_; rintro e w2 ⟨rfl, hB2⟩))
      go_ret
      exact ⟨rfl, HFIN.out _ _ hB1 hB2⟩
set_option maxRecDepth 100000 in
set_option maxHeartbeats 4000000 in
theorem layTells_main (v v2 v3 : Value) (l : List GObj) (ps : List GP) (wh : List GAddr) (a b x : Int) (w : World) (h : ObjsAt w v l) (hbd : ObjsBd l) (h2 : RowAt 2 PlcR w v2 ps) (h3 : RowAt 3 AddrR w v3 wh) (hx0 : 0 ≤ x) (hx1 : x ≤ 4294967295) (hL : large13B l = false) (hlen : ps.length ≤ 1200) (hwl : wh.length ≤ 300) :
    Calls Tryd.prog 3 #[v, v2, v3, .agg #[.int .i64 a, .int .i64 b], .int .u32 x] w fun e w' => e = .returned (.bool true) ∧ Below w.heap.size w w' := by
  have hL8 : largeB l = false := by simp only [large13B, Bool.or_eq_false_iff] at hL; exact hL.1
  have hmr := may_same hL8 (objsSz_of h)
  have c1 := fun v' v2' w' (h' : ObjsAt w' v' l) (h2' : RowAt 2 PlcR w' v2' ps) => layOf_any v' v2' l ps w' h' h2' hlen
  have c2 := fun v' v2' w' (h' : ObjsAt w' v' l) (h2' : RowAt 2 PlcR w' v2' ps) => refOf14_any v' v2' l ps w' h' h2' hlen hmr
  have c3 := fun v' w' (h' : RowAt 3 AddrR w' v' wh) => layFind_any v' wh (a, b) w' h'
  have c4 := fun v' w' (h' : RowAt 3 AddrR w' v' wh) => refFind14_any v' wh (a, b) w' h'
  have c5 := fun v' v2' w' (h' : ObjsAt w' v' l) (h2' : RowAt 3 AddrR w' v2' wh) => layAt_any v' v2' l wh x w' h' h2' hx0 hx1
  have c6 := fun v' v2' w' (h' : ObjsAt w' v' l) (h2' : RowAt 3 AddrR w' v2' wh) => refAt14_any v' v2' l wh x w' h' h2' hx0 hx1
  generalize layOf l ps = ro at c1 c2
  generalize layFind wh (a, b) = rf at c3 c4
  generalize layAt l wh x = rt at c5 c6
  obtain ⟨ra, rs, rc⟩ := ro
  obtain ⟨fn, fi⟩ := rf
  obtain ⟨⟨tx, ty⟩, tf, ti⟩ := rt
  simp only [] at c3 c4
  have C1 := Lib.hid c1; have C2 := Lib.hid c2; have C3 := Lib.hid c3; have C4 := Lib.hid c4; have C5 := Lib.hid c5; have C6 := Lib.hid c6
  clear c1 c2 c3 c4 c5 c6 hmr hL8
  have HT : Hid (LSt w v v2 v3 l ps wh a b (w.alloc (.cells #[.int .i64 a, .int .i64 b] 26))) := ⟨ObjsAt.keep (alloc_old w _) h, RowAt.keep plcR_keeps (alloc_old w _) h2, RowAt.keep addrR_keeps (alloc_old w _) h3, ⟨by simp, by simp [go_sem], by simp [go_sem]⟩, alloc_old w _⟩
  have HL := Lib.hid (large13_any v l _ HT.out.objs)
  rw [hL] at HL
  have HBD := Lib.hid hbd; clear hbd hL
  obtain ⟨p, cap, bb, o, rfl, hcap, hmax, hp, hc⟩ := h
  obtain ⟨p2, cap2, b2, o2, rfl, hcap2, hmax2, -, -⟩ := h2
  obtain ⟨p3, cap3, b3, o3, rfl, hcap3, hmax3, -, -⟩ := h3
  have HP := Lib.hid hp; clear hp hc
  have d1 : decide ((1200 : Int) < (ps.length : Int)) = false := by simp; omega
  have d2 : decide ((300 : Int) < (wh.length : Int)) = false := by simp; omega
  go_enter Tryd.func3, Tryd.ntmps3
  go_wp2_with (go_at_call 5; refine HL.out.mono ?_; rintro e w1 ⟨rfl, hB1⟩; replace HT := Lib.hid (HT.out.keep (by simpa using hB1)); clear hB1)
  clear HL
  refine (copyAll_any _ l _ HT.out.objs HBD.out).mono ?_
  rintro e w2 ⟨vo, us, rfl, hum, hsep, hB⟩
  have HO := Lib.hid (hsep.objs HT.out.objs hum)
  replace HT := Lib.hid (HT.out.keep hB)
  clear hB hsep hum us HBD
  obtain ⟨po, co, bo, oo, rfl, hco, -, hpo, hcc⟩ := HO.out
  have HPO := Lib.hid hpo; clear hpo hcc
  obtain ⟨iP, r0, r1, r2, r3⟩ := info_parts info_plc
  have HA := Lib.hid (And.intro r0 (And.intro r1 (And.intro r2 r3)))
  clear r0 r1 r2 r3
  have HPR : Hid (∃ (b o : Nat), (0 < ps.length → p2 = some ⟨b, o, none⟩) ∧ ∀ i (h : i < ps.length), PlcR w2 b (o + i * 2) ps[i]) := by
    obtain ⟨_, _, b, o, e1, -, -, h4, h5⟩ := HT.out.plcs
    cases e1
    exact ⟨b, o, h4, h5⟩
  obtain ⟨qb, qo, hq1, hq2⟩ := HPR.out
  have HQ1 := Lib.hid hq1; have HQ2 := Lib.hid hq2
  clear hq1 hq2 HPR
  go_wp2_with (at_builtin; refine wpList_copy rfl _ _ 23 rfl 26 iP _ 2 16 Tryd.underlying23 HA.out.1 HA.out.2.1 HA.out.2.2.1 HA.out.2.2.2 rfl (by decide) rfl p2 ps.length cap2 qb qo (ps.flatMap plcCells) rfl HQ1.out (flat_len plcCells_len ps) (fun _ => plc_news HQ2.out) plcCells_one ?_ ?_ ?_)
  · omega
  · omega
  intro vc w3 hown hgrow
  have HCP := Lib.hid (plc_row hown (by omega))
  have hB : Below w2.heap.size w2 w3 := (Below.refl _ _).grown hgrow (Nat.le_refl _) (fun k hk => by cases hk)
  replace HT := Lib.hid (HT.out.keep hB); replace HO := Lib.hid (HO.out.keep hB)
  clear hown hgrow hB HQ1 HQ2 HA
  go_wp2_with fail
  refine (C1.out _ _ _ HO.out HCP.out).mono ?_
  rintro e w4 ⟨va, vs, rfl, hra, hrs, hB⟩
  have HR1 := Lib.hid hra; have HS1 := Lib.hid hrs; clear hra hrs
  replace HT := Lib.hid (HT.out.keep hB); replace HO := Lib.hid (HO.out.keep hB); clear hB HCP
  go_wp2_with fail
  refine (C2.out _ _ _ HT.out.objs HT.out.plcs).mono ?_
  rintro e w5 ⟨va', vs', rfl, hra, hrs, hB⟩
  have HR2 := Lib.hid hra; have HS2 := Lib.hid hrs; clear hra hrs
  replace HT := Lib.hid (HT.out.keep hB); replace HO := Lib.hid (HO.out.keep hB); replace HR1 := Lib.hid (HR1.out.keep addrR_keeps hB); replace HS1 := Lib.hid (HS1.out.keep spanR_keeps hB); clear hB
  simp only [] at HR1 HR2 HS1 HS2 ⊢
  obtain ⟨t0, t1, t2⟩ := HT.out.pl
  go_wp2_with fail
  clear t0 t1 t2
  refine (C3.out _ _ HT.out.addrs).mono ?_
  rintro e w6 ⟨rfl, hB⟩
  replace HT := Lib.hid (HT.out.keep hB); replace HO := Lib.hid (HO.out.keep hB); replace HR1 := Lib.hid (HR1.out.keep addrR_keeps hB); replace HS1 := Lib.hid (HS1.out.keep spanR_keeps hB); replace HR2 := Lib.hid (HR2.out.keep addrR_keeps hB); replace HS2 := Lib.hid (HS2.out.keep spanR_keeps hB); clear hB
  obtain ⟨t0, t1, t2⟩ := HT.out.pl
  go_wp2_with fail
  clear t0 t1 t2
  refine (C4.out _ _ HT.out.addrs).mono ?_
  rintro e w7 ⟨rfl, hB⟩
  replace HT := Lib.hid (HT.out.keep hB); replace HO := Lib.hid (HO.out.keep hB); replace HR1 := Lib.hid (HR1.out.keep addrR_keeps hB); replace HS1 := Lib.hid (HS1.out.keep spanR_keeps hB); replace HR2 := Lib.hid (HR2.out.keep addrR_keeps hB); replace HS2 := Lib.hid (HS2.out.keep spanR_keeps hB); clear hB
  go_wp2_with fail
  refine (C5.out _ _ _ HO.out HT.out.addrs).mono ?_
  rintro e w8 ⟨rfl, hB⟩
  replace hB := hB.alloc hB.size (.cells #[.int .i64 tx, .int .i64 ty] 26)
  have HX1 : Hid (PlaceAt (w8.alloc (.cells #[.int .i64 tx, .int .i64 ty] 26)) w8.heap.size tx ty) := ⟨by simp, by simp [go_sem], by simp [go_sem]⟩
  replace HT := Lib.hid (HT.out.keep hB); replace HO := Lib.hid (HO.out.keep hB); replace HR1 := Lib.hid (HR1.out.keep addrR_keeps hB); replace HS1 := Lib.hid (HS1.out.keep spanR_keeps hB); replace HR2 := Lib.hid (HR2.out.keep addrR_keeps hB); replace HS2 := Lib.hid (HS2.out.keep spanR_keeps hB); clear hB
  simp only []
  go_wp2_with fail
  refine (C6.out _ _ _ HT.out.objs HT.out.addrs).mono ?_
  rintro e w9 ⟨rfl, hB⟩
  replace hB := hB.alloc hB.size (.cells #[.int .i64 tx, .int .i64 ty] 26)
  have HX2 : Hid (PlaceAt (w9.alloc (.cells #[.int .i64 tx, .int .i64 ty] 26)) w9.heap.size tx ty) := ⟨by simp, by simp [go_sem], by simp [go_sem]⟩
  replace HX1 := Lib.hid (placeAt_keep hB HX1.out)
  replace HT := Lib.hid (HT.out.keep hB); replace HO := Lib.hid (HO.out.keep hB); replace HR1 := Lib.hid (HR1.out.keep addrR_keeps hB); replace HS1 := Lib.hid (HS1.out.keep spanR_keeps hB); replace HR2 := Lib.hid (HR2.out.keep addrR_keeps hB); replace HS2 := Lib.hid (HS2.out.keep spanR_keeps hB); clear hB
  simp only []
  clear C1 C2 C3 C4 C5 C6
  go_wp2
  generalize w9.alloc (.cells #[.int .i64 tx, .int .i64 ty] 26) = w10 at *
  generalize w9.heap.size = yb at *
  generalize w8.heap.size = xb at *
  go_loopw [28] (fun v28 wr => ∃ k : Nat, k ≤ l.length ∧ v28 = .int .i64 k ∧ Below w10.heap.size w10 wr) (fun v28 _ => l.length - (intOf v28).toNat)
  case atStart => exact ⟨0, Nat.zero_le _, rfl, Below.refl _ _⟩
  case round =>
    obtain ⟨k, hk, rfl, hbel⟩ := hrel
    have HB := Lib.hid hbel; clear hbel
    by_cases hlt : k < l.length
    · obtain rfl := HP.out (by omega)
      obtain rfl := HPO.out (by omega)
      obtain ⟨_, _, _, _, e1, -, -, f1, hc1⟩ := ObjsAt.keep HB.out HT.out.objs
      cases e1
      cases f1 (by omega)
      obtain ⟨_, _, _, _, e2, -, -, f2, hc2⟩ := ObjsAt.keep HB.out HO.out
      cases e2
      cases f2 (by omega)
      obtain ⟨vs, g0, g1, g2, hin1⟩ := hc1 k hlt
      obtain ⟨us, k0, k1, k2, hin2⟩ := hc2 k hlt
      clear hc1 hc2
      generalize l[k] = x at g1 g2 hin1 k1 k2 hin2
      have HCS := Lib.hid (sameObj_any x us vs wr.drew (ObjIn.keep (Below.refl _ _).drew hin2) (ObjIn.keep (Below.refl _ _).drew hin1))
      obtain ⟨⟨pS, capS, bS, oS, rfl, -⟩, -⟩ := hin1
      obtain ⟨⟨pT, capT, bT, oT, rfl, -⟩, -⟩ := hin2
      obtain ⟨xn, xs⟩ := x
      simp only [] at g1 g2 k1 k2 HCS
      go_wp2
      go_still_tail 8, (by kernel_rfl)
      change wpList _ _ _ _ _ wr.drew
      go_wp2_with (go_at_call 14; refine HCS.out.mono ?_; rintro e w2 ⟨rfl, hB2⟩)
      exact ⟨⟨k + 1, by omega, by go_num, HB.out.drew.trans (hB2.mono HB.out.size)⟩, by simp [intOf]; omega⟩
    · have HW := Lib.hid (HT.out.below.trans (HB.out.mono HT.out.below.size))
      replace HR1 := Lib.hid (HR1.out.keep addrR_keeps HB.out); replace HS1 := Lib.hid (HS1.out.keep spanR_keeps HB.out); replace HR2 := Lib.hid (HR2.out.keep addrR_keeps HB.out); replace HS2 := Lib.hid (HS2.out.keep spanR_keeps HB.out)
      replace HX1 := Lib.hid (placeAt_keep HB.out HX1.out); replace HX2 := Lib.hid (placeAt_keep HB.out HX2.out)
      clear HT HO HB
      go_wp2_with fail
      refine (sameAddrs_any _ _ _ _ HR1.out HR2.out).mono ?_
      rintro e w11 ⟨rfl, hB⟩
      replace HS1 := Lib.hid (HS1.out.keep spanR_keeps hB); replace HS2 := Lib.hid (HS2.out.keep spanR_keeps hB)
      replace HX1 := Lib.hid (placeAt_keep hB HX1.out); replace HX2 := Lib.hid (placeAt_keep hB HX2.out)
      replace HW := Lib.hid (HW.out.trans (hB.mono HW.out.size)); clear hB
      go_wp2_with fail
      refine (sameSpans_any _ _ _ _ HS1.out HS2.out).mono ?_
      rintro e w12 ⟨rfl, hB⟩
      obtain ⟨q0, q1, q2⟩ := placeAt_keep hB HX1.out
      obtain ⟨q3, q4, q5⟩ := placeAt_keep hB HX2.out
      replace HW := Lib.hid (HW.out.trans (hB.mono HW.out.size)); clear hB
      go_wp2_with fail
      refine (alive14_any _).mono ?_
      rintro e w13 ⟨rfl, hB⟩
      replace HW := Lib.hid (HW.out.trans (hB.mono HW.out.size)); clear hB
      go_wp2_with fail
      go_ret
      exact ⟨rfl, HW.out⟩
theorem layTells_any (v v2 v3 : Value) (l : List GObj) (ps : List GP) (wh : List GAddr) (a b x : Int) (w : World) (h : ObjsAt w v l) (hbd : ObjsBd l) (h2 : RowAt 2 PlcR w v2 ps) (h3 : RowAt 3 AddrR w v3 wh) (hx0 : 0 ≤ x) (hx1 : x ≤ 4294967295) :
    Calls Tryd.prog 3 #[v, v2, v3, .agg #[.int .i64 a, .int .i64 b], .int .u32 x] w fun e w' => e = .returned (.bool true) ∧ Below w.heap.size w w' := by
  by_cases hg : large13B l = true ∨ 1200 < ps.length ∨ 300 < wh.length
  · exact layTells_guard v v2 v3 l ps wh a b x w h h2 h3 hg
  · have h1 : large13B l = false := by
      cases hb : large13B l with
      | false => rfl
      | true => exact absurd (.inl hb) hg
    exact layTells_main v v2 v3 l ps wh a b x w h hbd h2 h3 hx0 hx1 h1 (Nat.le_of_not_lt fun h => hg (.inr (.inl h))) (Nat.le_of_not_lt fun h => hg (.inr (.inr h)))
end Go.Proofs.YteekdjlpfgkgjaaDoor
