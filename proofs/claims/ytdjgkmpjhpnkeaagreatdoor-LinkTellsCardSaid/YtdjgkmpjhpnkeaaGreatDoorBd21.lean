/- The walks of reach's begin and goes. A scope whose label is jumped back to, and walked into once. No program in sight. The walk of resolve.Winners. The walks of reach's entry, told and Kept. The walks of reach's told and All. The walk of reach.All. -/
import Derived.Test.YtdjgkmpjhpnkeaaGreatDoorBd20
import Derived.WalkMore
import Derived.ScopeJumps
import Derived.Test.YtdjgkmpjhpnkeaaGreatDoorBd07
import Derived.Test.YtdjgkmpjhpnkeaaGreatDoorBd02
import Derived.Test.YtdjgkmpjhpnkeaaGreatDoorBd05
namespace Go.Proofs.YtdjgkmpjhpnkeaaGreatDoor
theorem wp_scope_jumps2 {P : Program} {a : Act} {w : World} {Q : Exit → Act → World → Prop} {c X : Code} (l : Nat) (J : Act → World → Prop) (μ : Act → World → Nat) (hf : findLabel c l = some (Code.seq Code.skip X))
    (hX : ∀ a w, J a w → X.wp P (Exit.jump l (fun a' w' => J a' w' ∧ μ a' w' < μ a w) Q) a w)
    (first : (∀ a w, J a w → X.wp P (Exit.jump l J Q) a w) → c.wp P (Exit.jump l J Q) a w) : (Code.scope c).wp P Q a w :=
  wp_scope_jumps l J μ hf (first fun a w h => wp_mono (hX a w h) fun e a' w' hq => by
    cases e with
    | goto l' => exact ⟨hq.1, hq.2.1⟩
    | normal => exact hq
    | exit id => exact hq
    | ret => exact hq
    | panic ch => exact hq
    | outgrown => exact hq) (fun a w h => wp_seq (wp_skip (hX a w h)))
end Go.Proofs.YtdjgkmpjhpnkeaaGreatDoor
namespace Go.Proofs.YtdjgkmpjhpnkeaaGreatDoor
open Go.RowKit Go.Maps
set_option maxHeartbeats 1000000 in
theorem rbegin_any (pv : Option Addr) (nv cv : Nat) (w : World) :
    Calls Tryz.prog 137 #[.slice pv nv cv] w fun e w' => (∃ sb mb, e = .returned (.pointer (some ⟨sb, 0, none⟩)) ∧ SrchSt w.heap.size sb mb (.slice pv nv cv) (.slice none 0 0) [] (fun _ => none) w') ∧ Below w.heap.size w w' := by
  have hmm := @run_makeMap Tryz.prog
  go_enter Tryz.func137, Tryz.ntmps137
  go_wp2
  go_ret
  refine ⟨⟨_, _, rfl, ⟨?_, PRow.nil _ _, (MapKFn.made placeE w).alloc _, by omega, by omega⟩⟩, (alloc_old w _).alloc (by simp) _⟩
  have := heap_alloc_new (w.alloc (.map #[] 0)) (.cells #[.slice none 0 0, .map (some w.heap.size), .slice pv nv cv] 234)
  simpa using this
theorem valid_ok {l : List GObj} {p : PP} (hm : mayAll l = true) (h : validP l p) : placeOkK p := by
  obtain ⟨o, s, h1, h2⟩ := h
  simp only [mayAll, Bool.and_eq_true, decide_eq_true_eq, List.all_eq_true] at hm
  have h3 := hm.2 o (List.mem_of_getElem? h1)
  simp only [mayP, Bool.and_eq_true, decide_eq_true_eq] at h3
  have h4 := (List.getElem?_eq_some_iff.1 h1).1
  have h5 := (List.getElem?_eq_some_iff.1 h2).1
  exact ⟨by omega, by omega⟩
def GoesPost (w0 : World) (sb mb : Nat) (ov : Value) (l : List GObj) (p : PP) (e : Ending) (w' : World) : Prop :=
  e = .returned (.tuple #[]) ∧ ∃ v' L F, SrchSt w0.heap.size sb mb ov v' L F w' ∧ Goes l p L F L.length ∧ Below w0.heap.size w0 w'
/-- what holds wherever goes is at its label -/
def GoesJ (w0 : World) (wb sb mb : Nat) (ov : Value) (l : List GObj) (p1 p2 : Nat) (a' : Act) (wr : World) : Prop :=
  ∃ (n : Nat) (v : Value) (L : List PP) (F : PP → Option PP) (u2 u5 u6 u7 u8 u9 u10 u11 u12 u13 u14 u15 u16 u17 u18 u19 u20 u21 u22 u23 u24 u25 u26 u27 u28 u29 u30 u31 u32 u33 u34 u35 u36 u37 u38 u39 u40 u41 u42 u43 u44 u45 u46 u47 u48 u49 u50 u51 : Value), a' = { tmps := #[.pointer (some ⟨sb, 0, none⟩), .agg #[.int .i64 p1, .int .i64 p2], u2, .pointer (some ⟨wb, 0, none⟩), .int .i64 n, u5, u6, u7, u8, u9, u10, u11, u12, u13, u14, u15, u16, u17, u18, u19, u20, u21, u22, u23, u24, u25, u26, u27, u28, u29, u30, u31, u32, u33, u34, u35, u36, u37, u38, u39, u40, u41, u42, u43, u44, u45, u46, u47, u48, u49, u50, u51], defers := [] } ∧ SrchSt w0.heap.size sb mb ov v L F wr ∧ Goes l (p1, p2) L F n ∧ n < L.length ∧ Below w0.heap.size w0 wr
set_option maxRecDepth 100000 in
set_option maxHeartbeats 4000000 in
theorem goes_any (hsort : SortOk) (sb mb : Nat) (ov : Value) (l : List GObj) (p : PP) (w0 w : World) (h : SrchSt w0.heap.size sb mb ov (.slice none 0 0) [] (fun _ => none) w) (hb : Below w0.heap.size w0 w) (ho : ObjsAt w0 ov l) (hc : (beginR l).2 = 0) (hv : validP l p) :
    Calls Tryz.prog 138 #[.pointer (some ⟨sb, 0, none⟩), placeV p] w (GoesPost w0 sb mb ov l p) := by
  have HSORT := Lib.hid hsort; clear hsort
  have HS := Lib.hid h; clear h
  have HB := Lib.hid hb; clear hb
  have HO := Lib.hid ho; clear ho
  have HC := Lib.hid hc; clear hc
  have HV := Lib.hid hv; clear hv
  obtain ⟨p1, p2⟩ := p
  have HPO : Hid (placeOkK (p1, p2)) := Lib.hid (valid_ok (beginR_zero HC.out).1 HV.out)
  unfold placeV
  simp only []
  go_enter Tryz.func138, Tryz.ntmps138
  go_wp2_with fail
  refine wp_scope_jumps2 0 (GoesJ w0 w.heap.size sb mb ov l p1 p2) (fun a' _ => 2000 - (intOf (a'.tmps.getD 4 undef)).toNat) rfl ?_ ?_
  · rintro a' wr ⟨n, v, L, F, u2, u5, u6, u7, u8, u9, u10, u11, u12, u13, u14, u15, u16, u17, u18, u19, u20, u21, u22, u23, u24, u25, u26, u27, u28, u29, u30, u31, u32, u33, u34, u35, u36, u37, u38, u39, u40, u41, u42, u43, u44, u45, u46, u47, u48, u49, u50, u51, rfl, hs, hg, hn, hbel⟩
    have hxv : validP l L[n] := hg.valid HV.out _ (List.getElem_mem hn)
    have hx : L[n]? = some L[n] := List.getElem?_eq_getElem hn
    have hL := hg.len HV.out HC.out
    obtain ⟨gv, cv, rfl, hgb, hgl⟩ := World.ownsRow.form hs.row (by omega)
    have c0 : wr.cell? ⟨sb, 0, none⟩ = some (.slice (some ⟨gv, 0, none⟩) L.length cv) := Lib.cell_of_heap hs.box 0
    have c2 : wr.cell? ⟨sb, 2, none⟩ = some ov := Lib.cell_of_heap hs.box 2
    obtain ⟨-, e0, e1⟩ := (placeRow_at hs.row n hn : PlaceR wr gv (n * 2) L[n])
    generalize L[n] = x at *
    obtain ⟨x1, x2⟩ := x
    simp only [] at e0 e1
    obtain ⟨o, s, hv1, hv2⟩ := hxv
    simp only [] at hv1 hv2
    obtain ⟨ha, rfl⟩ := List.getElem?_eq_some_iff.1 hv1
    obtain ⟨hb2, -⟩ := List.getElem?_eq_some_iff.1 hv2
    have HK := Lib.hid (known_any HSORT.out sb ov l x1 x2 wr hs.lt c2 (ObjsAt.keep hbel HO.out) HC.out ha hb2)
    unfold placeV at HK
    simp only [] at HK
    clear hv1 hv2 ha hb2
    have HX := Lib.hid hx; clear hx
    have HS1 := Lib.hid hs; clear hs
    have HG := Lib.hid hg; clear hg
    have HBE := Lib.hid hbel; clear hbel
    have d1 : (0 : Int) ≤ (n : Int) := by omega
    go_wp2_with (go_at_call 219; refine HK.out.mono ?_; rintro e wk ⟨vo, rfl, ks, ⟨pk, ck, bk, ok, rfl, hck, hmk, hpk, hrk⟩, hmem, hlen, hob, hbk⟩)
    have HBK := Lib.hid hbk; clear hbk
    have HPK := Lib.hid hpk; clear hpk
    have HRK := Lib.hid hrk; clear hrk
    have HMEM := Lib.hid hmem; clear hmem
    have HI0 : Hid (Inn w0 wk sb mb ov l (p1, p2) (x1, x2) n ks bk 0 (.slice (some ⟨gv, 0, none⟩) L.length cv) L F wk) := by
      refine ⟨HS1.out.keep HBK.out, HG.out, HX.out, fun i hi h0 => by omega, fun hks0 => ⟨rfl, ?_, (HRK.out 0 hks0).1, ?_, ?_⟩, HBE.out.trans (HBK.out.mono HBE.out.size)⟩
      · have := hob bk (by rw [HPK.out hks0]; rfl)
        intro e; simp [Value.ownBlock] at e; omega
      · have := hob bk (by rw [HPK.out hks0]; rfl)
        have := HS1.out.lt; omega
      · have := hob bk (by rw [HPK.out hks0]; rfl)
        have := HS1.out.map.lt; omega
    clear hob
    obtain ⟨wo, rfl⟩ : ∃ wo : World, wo = wr := ⟨_, rfl⟩
    go_loopw [24] (fun v24 wi => ∃ (k : Nat) (v : Value) (L' : List PP) (F' : PP → Option PP), k ≤ ks.length ∧ v24 = .int .i64 k ∧ Inn w0 wk sb mb ov l (p1, p2) (x1, x2) n ks bk k v L' F' wi) (fun v24 _ => ks.length - (intOf v24).toNat)
    case atStart => exact ⟨0, _, _, _, Nat.zero_le _, rfl, HI0.out⟩
    case round =>
      obtain ⟨k, v, L', F', hk, rfl, hinn⟩ := hrel
      have HI := Lib.hid hinn; clear hinn
      clear c0 c2 e0 e1
      by_cases hlt : k < ks.length
      · obtain rfl := HPK.out (by omega)
        have hLn := (List.getElem?_eq_some_iff.1 HI.out.x).1
        have hLx := (List.getElem?_eq_some_iff.1 HI.out.x).2
        obtain ⟨gv', cv', rfl, hgb', hgl'⟩ := World.ownsRow.form HI.out.st.row (by omega)
        obtain ⟨hb1, hb2, hb3, hb4, hb5⟩ := HI.out.hb (by omega)
        have c0 : wr.cell? ⟨sb, 0, none⟩ = some (.slice (some ⟨gv', 0, none⟩) L'.length cv') := Lib.cell_of_heap HI.out.st.box 0
        obtain ⟨-, e0, e1⟩ := (placeRow_at HI.out.st.row n hLn : PlaceR wr gv' (n * 2) L'[n])
        rw [hLx] at e0 e1
        obtain ⟨-, y0, y1⟩ := HRK.out k hlt
        have t0 : wr.cell? ⟨bk, ok + k * 2, none⟩ = some (.int .i64 ks[k].1) := (World.cell?_of_block (w := wk) (a := ⟨bk, ok + k * 2, none⟩) hb1).trans y0
        have t1 : wr.cell? ⟨bk, ok + k * 2 + 1, none⟩ = some (.int .i64 ks[k].2) := (World.cell?_of_block (w := wk) (a := ⟨bk, ok + k * 2 + 1, none⟩) hb1).trans y1
        have hsl := HI.out.st.lt
        have hL' := HI.out.g.len HV.out HC.out
        have hyk : placeOkK ks[k] := by
          obtain ⟨_, _, hf⟩ := (HMEM.out ks[k]).1 (List.getElem_mem hlt)
          exact valid_ok (beginR_zero HC.out).1 (findR_valid hf)
        have HSTEP := Lib.hid (fun (w5 w6 : World) (e : Ending) (hb : Below wr.heap.size wr w5) (hp : PutPost w0.heap.size sb mb ov (.slice (some ⟨gv', 0, none⟩) L'.length cv') L' F' ks[k] (x1, x2) w5 e w6) => HI.out.step hlt (fun q hq => (HMEM.out q).1 hq) hb hp)
        have HPU := Lib.hid (fun (w5 : World) (hb : Below wr.heap.size wr w5) => put_any w0.heap.size sb mb ov (.slice (some ⟨gv', 0, none⟩) L'.length cv') L' F' ks[k] (x1, x2) w5 (HI.out.st.keep hb) hyk (by omega))
        clear y0 y1 hb1 hb2 hb3 hb4 hb5 hyk hLx
        generalize ks[k] = y at *
        obtain ⟨y1, y2⟩ := y
        simp only [] at t0 t1 e0 e1
        unfold placeV at HPU
        simp only [] at HPU
        have d2 : (0 : Int) ≤ (k : Int) := by omega
        go_wp2_with fail
        have HW1 : Hid (Below wr.heap.size wr (wr.alloc (.cells #[.int .i64 y1, .int .i64 y2] 63))) := alloc_old wr _
        have b0 : (wr.alloc (.cells #[.int .i64 y1, .int .i64 y2] 63)).cell? ⟨wr.heap.size, 0, none⟩ = some (.int .i64 y1) := by simp [go_sem]
        have b1 : (wr.alloc (.cells #[.int .i64 y1, .int .i64 y2] 63)).cell? ⟨wr.heap.size, 1, none⟩ = some (.int .i64 y2) := by simp [go_sem]
        replace c0 := cell_keep HW1.out hsl c0
        replace e0 := cell_keep HW1.out hgl' e0
        replace e1 := cell_keep HW1.out hgl' e1
        clear t0 t1
        generalize wr.alloc (.cells #[.int .i64 y1, .int .i64 y2] 63) = w5 at *
        go_still_tail 12, (by kernel_rfl)
        change wpList _ _ _ _ _ w5.drew
        go_wp2_with (go_at_call 218; refine (HPU.out w5.drew HW1.out.drew).mono ?_; rintro e w6 ⟨rfl, hp6⟩; have HP6 := Lib.hid hp6; clear hp6)
        go_roundw
        case rel =>
          obtain ⟨v2, L2, F2, h2⟩ := HSTEP.out w5.drew w6 _ HW1.out.drew ⟨rfl, HP6.out⟩
          exact ⟨k + 1, v2, L2, F2, by omega, by go_num, h2⟩
        case measure => simp [intOf]; omega
      · have HL := Lib.hid (HI.out.st)
        obtain ⟨pv', cv', rfl⟩ := own_shape HL.out.row
        have c0 : wr.cell? ⟨sb, 0, none⟩ = some (.slice pv' L'.length cv') := Lib.cell_of_heap HL.out.box 0
        have HG2 : Hid (Goes l (p1, p2) L' F' (n + 1)) := HI.out.g.next _ HI.out.x fun q hq => by
          obtain ⟨i, hi, rfl⟩ := List.mem_iff_getElem.1 ((HMEM.out q).2 hq)
          exact HI.out.m i hi (by omega)
        by_cases hlast : n + 1 < L'.length
        · have d3 : decide ((n : Int) + 1 < (L'.length : Int)) = true := by simp; omega
          have d4 : decide (n + 1 < L'.length) = true := by simpa using hlast
          go_wp2_with fail
          go_step3
          refine ⟨rfl, ⟨n + 1, _, L', F', _, _, _, _, _, _, _, _, _, _, _, _, _, _, _, _, _, _, _, _, _, _, _, _, _, _, _, _, _, _, _, _, _, _, _, _, _, _, _, _, _, _, _, _, _, _, _, _, rfl, HL.out, HG2.out, hlast, HI.out.b⟩, ?_⟩
          simp [intOf]; omega
        · have d3 : decide ((n : Int) + 1 < (L'.length : Int)) = false := by simp; omega
          have d4 : decide (n + 1 < L'.length) = false := by simpa using hlast
          go_wp2_with fail
          simp only [Exit.jump]
          go_end0
          exact ⟨rfl, _, L', F', HL.out, HG2.out.full (by omega), HI.out.b⟩
  · intro hX
    have HX := Lib.hid hX; clear hX
    go_wp2_with fail
    have HW1 : Hid (Below w.heap.size w (w.alloc (.cells #[.int .i64 p1, .int .i64 p2] 63))) := alloc_old w _
    have b0 : (w.alloc (.cells #[.int .i64 p1, .int .i64 p2] 63)).cell? ⟨w.heap.size, 0, none⟩ = some (.int .i64 p1) := by simp [go_sem]
    have b1 : (w.alloc (.cells #[.int .i64 p1, .int .i64 p2] 63)).cell? ⟨w.heap.size, 1, none⟩ = some (.int .i64 p2) := by simp [go_sem]
    generalize w.alloc (.cells #[.int .i64 p1, .int .i64 p2] 63) = w1 at *
    have HPU := Lib.hid (put_any w0.heap.size sb mb ov (.slice none 0 0) [] (fun _ => none) (p1, p2) (p1, p2) w1.drew (HS.out.keep HW1.out.drew) HPO.out (by simp))
    unfold placeV at HPU
    simp only [] at HPU
    go_still_tail 5, (by kernel_rfl)
    change wpList _ _ _ _ _ w1.drew
    go_wp2_with (go_at_call 218; refine HPU.out.mono ?_; rintro e w2 ⟨rfl, v', hs2, hkb2, hv2⟩)
    go_step3
    rename_i K1 hK1
    show K1 _ _
    refine hK1 _ _ (HX.out _ _ ⟨0, v', [(p1, p2)], updF (fun _ => none) (p1, p2) (p1, p2), _, _, _, _, _, _, _, _, _, _, _, _, _, _, _, _, _, _, _, _, _, _, _, _, _, _, _, _, _, _, _, _, _, _, _, _, _, _, _, _, _, _, _, _, _, _, _, _, rfl, hs2, Goes.start l (p1, p2), by simp, ?_⟩)
    exact (HB.out.trans ((HW1.out.drew).mono HB.out.size)).trans (hkb2.below (by have := HB.out.size; have := HW1.out.size; simp; omega) (fun k hk e => by have h1 := HS.out.sbl; have h2 := HS.out.mbl; rcases e with e | e | e; omega; omega; cases e))
end Go.Proofs.YtdjgkmpjhpnkeaaGreatDoor
namespace Go.Proofs.YtdjgkmpjhpnkeaaGreatDoor
open Go.RowKit Go.Maps Go.WideMaps
set_option maxRecDepth 100000 in
set_option maxHeartbeats 4000000 in
theorem winners_any (v : Value) (l : List GObj) (w : World) (h : ObjsAt w v l) :
    Calls Tryz.prog 132 #[v] w (WinPost w (if (beginR l).2 = 0 then selPlaces (flat l) (flat l) else []) (beginR l).2) := by
  have HK := Lib.hid (begin_any v l w h)
  have HO := Lib.hid h
  obtain ⟨p, cap, b, o, rfl, hcap, hmax, hp, hc⟩ := h
  have HC := Lib.hid hc; clear hc
  have HP := Lib.hid hp; clear hp
  by_cases hz0 : (beginR l).2 = 0
  case neg =>
    rw [if_neg hz0]
    have hcb : ((beginR l).2 != 0) = true := by simpa using hz0
    have HZN := Lib.hid hz0; clear hz0
    go_enter Tryz.func132, Tryz.ntmps132
    go_wp2_with fail
    refine HK.out.mono ?_
    rintro e w1 ⟨hcase, hB⟩
    rcases hcase with ⟨c, hb2, hc0, rfl⟩ | ⟨hb2, hb1, rb, rfl, hres⟩
    · subst hb2
      go_wp2_with fail
      go_ret2
      exact ⟨_, rfl, rowAt_nil, hB⟩
    · exact absurd hb2 HZN.out
  case pos =>
    rw [if_pos hz0]
    have HZP := Lib.hid hz0
    rw [hz0]
    clear hz0
    go_enter Tryz.func132, Tryz.ntmps132
    go_wp2_with fail
    refine HK.out.mono ?_
    rintro e w1 ⟨hcase, hB⟩
    rcases hcase with ⟨c, hb2, hc0, rfl⟩ | ⟨hb2, hb1, rb, rfl, hres⟩
    · exact absurd (hb2.symm.trans HZP.out) hc0
    have hfl2 := flat_length_le (beginR_zero hb2).1
    clear hb1 hb2
    obtain ⟨i0, hin0, hz0, hz1, hz2⟩ := info_parts info_place
    have HI0 := Lib.hid hin0
    have HZ0 := Lib.hid hz0
    have HZ1 := Lib.hid hz1
    have HZ2 := Lib.hid hz2
    clear hin0 hz0 hz1 hz2
    have HB1 := Lib.hid hB; clear hB
    obtain ⟨tb, nt, r0, r1, hmap, hrb⟩ := hres
    have R0 := Lib.hid r0
    have HMAP := Lib.hid hmap
    clear r0 r1 hmap
    go_wp2
    go_loopw [7, 26] (fun v7 v26 wr => ∃ (i : Nat) (pre : List Spot), i ≤ l.length ∧ v26 = .int .i64 i ∧ pre ++ objsFrom i (l.drop i) = flat l ∧ PRow w1.heap.size wr v7 (selPlaces (flat l) pre) ∧ Below w1.heap.size w1 wr) (fun _ v26 _ => l.length - (intOf v26).toNat)
    case atStart => exact ⟨0, [], Nat.zero_le _, rfl, rfl, PRow.nil _ _, Below.refl _ _⟩
    case round =>
      obtain ⟨i, pre, hi, rfl, hcat, hown, hbel⟩ := hrel
      have HCAT := Lib.hid hcat; clear hcat
      have HOWN := Lib.hid hown; clear hown
      have HBW := Lib.hid hbel; clear hbel
      have HBV : Hid (Below w.heap.size w wr) := HB1.out.trans (HBW.out.mono HB1.out.size)
      by_cases hlt : i < l.length
      · obtain rfl := HP.out (by omega)
        obtain ⟨vs, g0, g1, g2, hin⟩ := HC.out i hlt
        have hcat := HCAT.out
        rw [objsFrom_drop hlt] at hcat
        replace g1 := cell_keep HBV.out g0 g1
        replace g2 := cell_keep HBV.out g0 g2
        replace g0 := size_keep HBV.out g0
        generalize hx : l[i] = x at g1 hin hcat
        obtain ⟨xn, xs⟩ := x
        simp only [] at g1 hin hcat
        obtain ⟨⟨pS, capS, bS, oS, rfl, hcapS, hmaxS, hpS, hcS⟩, hnmx⟩ := hin
        clear HCAT hx
        have HCAT := Lib.hid hcat; clear hcat
        have HCS := Lib.hid hcS; clear hcS
        have HPS := Lib.hid hpS; clear hpS
        go_wp2
        obtain ⟨wo, rfl⟩ : ∃ wo : World, wo = wr := ⟨_, rfl⟩
        go_loopw [7, 34] (fun v7 v34 wr => ∃ (k : Nat) (pre : List Spot), k ≤ xs.length ∧ v34 = .int .i64 k ∧ pre ++ (symsFrom i k (xs.drop k) ++ objsFrom (i + 1) (l.drop (i + 1))) = flat l ∧ PRow w1.heap.size wr v7 (selPlaces (flat l) pre) ∧ Below w1.heap.size w1 wr) (fun _ v34 _ => xs.length - (intOf v34).toNat)
        case atStart => exact ⟨0, pre, Nat.zero_le _, rfl, HCAT.out, PRow.keep (alloc_old _ _) HOWN.out, HBW.out.alloc HBW.out.size _⟩
        case round =>
          clear HCAT HBW HOWN HBV g0 g1 g2
          obtain ⟨k, pre, hk, rfl, hcat, hown, hbel⟩ := hrel
          have HCAT := Lib.hid hcat; clear hcat
          have HBW := Lib.hid hbel; clear hbel
          have HPR := Lib.hid hown; clear hown
          have HBV : Hid (Below w.heap.size w wr) := HB1.out.trans (HBW.out.mono HB1.out.size)
          by_cases hks : k < xs.length
          · obtain rfl := HPS.out (by omega)
            obtain ⟨vr, vn, s0, s1, s2, s3, s4, s5, s6, s7, hsin⟩ := symR_keeps _ _ _ _ _ HBV.out (HCS.out k hks)
            obtain ⟨p1, q1, p2, q2, rfl, rfl⟩ := hsin.shape
            have hns : xs[k].name.size ≤ 9223372036854775807 := by have := hsin.2.2.2.2.2.1; omega
            generalize hy : xs[k] = y at s1 s2 s3 s4 s5 s6 s7 hsin hns
            obtain ⟨yn, yb, yk, ys, yy, yr, yt⟩ := y
            simp only [] at s1 s2 s3 s4 s5 s6 s7 hsin hns
            clear hsin
            have HY := Lib.hid hy; clear hy
            have HST := Lib.hid (cat_step hks HY.out HCAT.out)
            have hplen : pre.length < 1024 := by
              have h1 := hfl2
              rw [← HCAT.out, List.length_append, List.length_append, symsFrom_length, List.length_drop] at h1
              omega
            have hsl := selPlaces_le (flat l) pre
            have t0 : wr.cell? ⟨rb, 0, none⟩ = some (.map (some tb)) := cell_keep HBW.out hrb R0.out
            have hrbw : rb < wr.heap.size := size_keep HBW.out hrb
            have HM := Lib.hid (((HMAP.out.below HBW.out HMAP.out.lt).alloc (.cells #[.string yn, .int .u8 yb, .int .u8 yk, .int .u32 ys, .string yy, .slice p1 yr.length q1, .slice p2 yt.length q2] 72)).alloc (.cells #[.int .i64 i, .int .i64 k] 63))
            have HG := Lib.hid (tabFn_get (flat l) yn.data.toList)
            have HI := Lib.hid (tabFn_isSome (flat l) yn.data.toList)
            have HSB : Hid (selB (flat l) ⟨i, k, ⟨yn, yb, yk, ys, yy, yr, yt⟩⟩ = (decide (yb = 0) || decide (winnerIn (flat l) yn.data.toList = some (i, k)))) := rfl
            generalize winnerIn (flat l) yn.data.toList = fp at HG HI HSB
            have hne0 : ¬ wr.heap.size = rb := by omega
            have hne1 : ¬ wr.heap.size + 1 = rb := by omega
            have hne2 : ¬ wr.heap.size + 1 + 1 = rb := by omega
            go_wp2
            go_cut [13, 14] (fun v13 v14 wx => ∃ g : Nat, v13 = .pointer (some ⟨g, 0, none⟩) ∧ v14 = .bool fp.isSome ∧ g < wx.heap.size ∧ wx.cell? ⟨g, 0, none⟩ = some (.int .i64 ((fp.getD (0, 0)).1 : Nat)) ∧ wx.cell? ⟨g, 1, none⟩ = some (.int .i64 ((fp.getD (0, 0)).2 : Nat)) ∧ Below (wr.heap.size + 1 + 1) ((wr.alloc (.cells #[.string yn, .int .u8 yb, .int .u8 yk, .int .u32 ys, .string yy, .slice p1 yr.length q1, .slice p2 yt.length q2] 72)).alloc (.cells #[.int .i64 i, .int .i64 k] 63)) wx)
            case first =>
              go_region_held3 (fun w' => w'.cell? ⟨rb, 0, none⟩ = some (.map (some tb)) ∧ w'.cell? ⟨wr.heap.size, 0, none⟩ = some (.string yn)) (first | (simp (maxDischargeDepth := 8) [*, World.cell?_alloc_some, World.cell?_setCell_far]; done) | (refine ⟨?_, ?_⟩ <;> (rw [World.cell?_setCell_far _ _ _ _ (by show _ ≠ _; simp only []; omega), World.cell?_setCell_far _ _ _ _ (by show _ ≠ _; simp only []; omega)]; simp (maxDischargeDepth := 8) [*]))) (first | (go_at_call 216; refine (winner_any tb nt (tabFn (flat l)) yn _ _ _ _ ?_ hns HG.out HI.out).mono ?_; (first | exact HM.out.drew | exact (HM.out.alloc _).drew); rintro e w' ⟨rfl, hB⟩; have k1 : w'.cell? ⟨rb, 0, none⟩ = some (.map (some tb)) := cell_keep hB (by simp; omega) (by simp [go_sem, *]); have k2 : w'.cell? ⟨wr.heap.size, 0, none⟩ = some (.string yn) := cell_keep hB (by simp <;> omega) (by simp [go_sem, *]); obtain ⟨hc, hf⟩ := bcell hB))
              all_goals go_wp2_with fail
              all_goals go_meet
              all_goals go_light
              · exact ⟨_, rfl, rfl, by simp, by simp [go_sem], by simp [go_sem], ((Below.refl _ _).drew.trans (hB.mono (by simp))).alloc (by have := hB.size; simp at this; omega) _⟩
              · have c0 : w'.cell? ⟨wr.heap.size + 1 + 1, 0, none⟩ = some (.int .i64 0) := cell_keep hB (by simp) (by simp [go_sem])
                have c1 : w'.cell? ⟨wr.heap.size + 1 + 1, 1, none⟩ = some (.int .i64 0) := cell_keep hB (by simp) (by simp [go_sem])
                have hzz : wr.heap.size + 1 + 1 < w'.heap.size := by have := hB.size; simp at this; omega
                exact ⟨_, rfl, rfl, by simpa [go_sem] using hzz, by simp [go_sem, c0], by simp [go_sem, c1], ((((Below.refl _ _).alloc (by simp) _).drew.trans (hB.mono (by simp))).setCell (by simp) _).setCell (by simp) _⟩
            case rest =>
              obtain ⟨g, rfl, rfl, hg, hg0, hg1, hbx⟩ := hcut
              clear s0 s1 s2 s3 s4 s5 s6 s7 t0 hne0 hne1 hne2
              have HBX : Hid (Below wr.heap.size wr wc) := ((alloc_old wr _).alloc (by simp) _).trans (hbx.mono (by omega))
              have y0 : wc.cell? ⟨wr.heap.size, 0, none⟩ = some (.string yn) := by rw [hbx.cell (by simp; omega)]; simp [go_sem]
              have y1 : wc.cell? ⟨wr.heap.size, 1, none⟩ = some (.int .u8 yb) := by rw [hbx.cell (by simp; omega)]; simp [go_sem]
              have p0 : wc.cell? ⟨wr.heap.size + 1, 0, none⟩ = some (.int .i64 i) := by rw [hbx.cell (by simp)]; simp [go_sem]
              have p1 : wc.cell? ⟨wr.heap.size + 1, 1, none⟩ = some (.int .i64 k) := by rw [hbx.cell (by simp)]; simp [go_sem]
              have hz2 : wr.heap.size + 1 < wc.heap.size := by have := hbx.size; (try simp at this); omega
              clear hbx
              by_cases hb0 : yb = 0
              · have HSEL : Hid (selB (flat l) ⟨i, k, ⟨yn, yb, yk, ys, yy, yr, yt⟩⟩ = true) := by rw [HSB.out, hb0]; rfl
                have bb0 : (yb == 0) = true := by simpa using hb0
                go_wp2_with (at_builtin; refine wpList_append_own _ rfl _ _ 22 rfl w1.heap.size 63 i0 (.agg #[.int .i64 0, .int .i64 0]) 2 16 Tryz.underlying22 HI0.out HZ0.out HZ1.out HZ2.out rfl (by decide) _ (selPlaces (flat l) pre).length (placeCells (selPlaces (flat l) pre)) rfl ?c0 _ 1 1 [.int .i64 i, .int .i64 k] rfl rfl ?c1 two_one ?c3 ?c4 ?c5 ?_)
                case c0 => exact PRow.keep (HBX.out.alloc HBX.out.size _) HPR.out
                case c1 => exact two_news (by simp [go_sem]) (by simp [go_sem])
                case c3 => unfold maxLen; omega
                case c4 => omega
                case c5 => have := HBW.out.size; have := HBX.out.size; simp; omega
                intro v3 w3 hown3 hgrow3 _
                have HOW3 := Lib.hid (PRow.snoc hown3); clear hown3
                have HB3 : Hid (Below w1.heap.size w1 w3) := ((HBW.out.trans (HBX.out.mono HBW.out.size)).alloc (Nat.le_trans HBW.out.size HBX.out.size) _).grown hgrow3 (by have := HBW.out.size; have := HBX.out.size; simp; omega) (fun q e => (World.ownsRow.lt HPR.out q e).1)
                clear hgrow3
                go_wp2
                go_roundw
                case rel => exact ⟨k + 1, _, by omega, by go_num, HST.out, (selPlaces_yes HSEL.out) ▸ HOW3.out, HB3.out⟩
                case measure => simp [intOf]; omega
              · have bb0 : (yb == 0) = false := by simpa using hb0
                by_cases hfp : fp = some (i, k)
                · have HSEL : Hid (selB (flat l) ⟨i, k, ⟨yn, yb, yk, ys, yy, yr, yt⟩⟩ = true) := by rw [HSB.out, hfp]; simp [Hid]
                  clear hb0
                  subst hfp
                  simp only [Option.getD_some] at hg0 hg1
                  go_wp2_with (at_builtin; refine wpList_append_own _ rfl _ _ 22 rfl w1.heap.size 63 i0 (.agg #[.int .i64 0, .int .i64 0]) 2 16 Tryz.underlying22 HI0.out HZ0.out HZ1.out HZ2.out rfl (by decide) _ (selPlaces (flat l) pre).length (placeCells (selPlaces (flat l) pre)) rfl ?c0 _ 1 1 [.int .i64 i, .int .i64 k] rfl rfl ?c1 two_one ?c3 ?c4 ?c5 ?_)
                  case c0 => exact PRow.keep (HBX.out.alloc HBX.out.size _) HPR.out
                  case c3 => unfold maxLen; omega
                  case c4 => omega
                  case c5 => have := HBW.out.size; have := HBX.out.size; simp; omega
                  intro v3 w3 hown3 hgrow3 _
                  have HOW3 := Lib.hid (PRow.snoc hown3); clear hown3
                  have HB3 : Hid (Below w1.heap.size w1 w3) := ((HBW.out.trans (HBX.out.mono HBW.out.size)).alloc (Nat.le_trans HBW.out.size HBX.out.size) _).grown hgrow3 (by have := HBW.out.size; have := HBX.out.size; simp; omega) (fun q e => (World.ownsRow.lt HPR.out q e).1)
                  clear hgrow3
                  go_wp2
                  go_roundw
                  case rel => exact ⟨k + 1, _, by omega, by go_num, HST.out, (selPlaces_yes HSEL.out) ▸ HOW3.out, HB3.out⟩
                  case measure => simp [intOf]; omega
                · have HSEL : Hid (selB (flat l) ⟨i, k, ⟨yn, yb, yk, ys, yy, yr, yt⟩⟩ = false) := by rw [HSB.out]; simp [Hid, hb0, hfp]
                  clear hb0
                  cases fp with
                  | none =>
                    simp only [Option.getD_none] at hg0 hg1
                    have HNE : Hid (¬ (0 = i ∧ 0 = k) ∨ True) := .inr trivial
                    go_wp2
                    all_goals
                      first
                      | (exfalso; exact HNE.out ⟨by omega, by omega⟩)
                      | (go_roundw
                         case rel => exact ⟨k + 1, _, by omega, by go_num, HST.out, (selPlaces_no HSEL.out).symm ▸ PRow.keep HBX.out HPR.out, HBW.out.trans (HBX.out.mono HBW.out.size)⟩
                         case measure => simp [intOf]; omega)
                  | some pq =>
                    obtain ⟨pa, pb⟩ := pq
                    simp only [Option.getD_some] at hg0 hg1
                    have HNE : Hid (¬ (pa = i ∧ pb = k)) := fun ⟨h1, h2⟩ => hfp (by rw [h1, h2])
                    clear hfp
                    go_wp2
                    all_goals
                      first
                      | (exfalso; exact HNE.out ⟨by omega, by omega⟩)
                      | (go_roundw
                         case rel => exact ⟨k + 1, _, by omega, by go_num, HST.out, (selPlaces_no HSEL.out).symm ▸ PRow.keep HBX.out HPR.out, HBW.out.trans (HBX.out.mono HBW.out.size)⟩
                         case measure => simp [intOf]; omega)
          · have hcat := HCAT.out
            rw [List.drop_of_length_le (by omega), symsFrom, List.nil_append] at hcat
            have HCAT2 := Lib.hid hcat; clear hcat
            go_wp2
            go_roundw
            case rel => exact ⟨i + 1, pre, by omega, by go_num, HCAT2.out, HPR.out, HBW.out⟩
            case measure => simp [intOf]; omega
      · have hcat := HCAT.out
        rw [List.drop_of_length_le (by omega), objsFrom, List.append_nil] at hcat
        subst hcat
        clear HCAT
        have hsl := selPlaces_le (flat l) (flat l)
        have HRW := Lib.hid (PRow.row HOWN.out (by omega))
        go_wp2
        go_ret2
        exact ⟨_, rfl, HRW.out, HBV.out⟩
end Go.Proofs.YtdjgkmpjhpnkeaaGreatDoor
namespace Go.Proofs.YtdjgkmpjhpnkeaaGreatDoor
open Go.RowKit Go.Maps
theorem box2 (w : World) (a b : Value) (T : TypeId) {w1 : World} (hB : Below (w.alloc (.cells #[a, b] T)).heap.size (w.alloc (.cells #[a, b] T)) w1) :
    w1.cell? ⟨w.heap.size, 0, none⟩ = some a ∧ w1.cell? ⟨w.heap.size, 1, none⟩ = some b ∧ w1.frozen? ⟨w.heap.size, 0, none⟩ = false ∧ w1.frozen? ⟨w.heap.size, 1, none⟩ = false ∧ w.heap.size < w1.heap.size ∧ Below w.heap.size w w1 := by
  refine ⟨cell_keep hB (by simp) (by simp [go_sem]), cell_keep hB (by simp) (by simp [go_sem]), (hB.frozen (p := ⟨w.heap.size, 0, none⟩) (by simp)).trans (by simp [go_sem]), (hB.frozen (p := ⟨w.heap.size, 1, none⟩) (by simp)).trans (by simp [go_sem]), ?_, (alloc_old w _).trans (hB.mono (by simp))⟩
  have := hB.size; simp at this; omega
/-- the entry's symbol, or why there is none -/
def entryR (l : List GObj) (nm : ByteArray) : PP × ByteArray × Int :=
  if (beginR l).2 ≠ 0 then ((0, 0), (beginR l).1, (beginR l).2) else match findR l (-1) nm.data.toList with | some p => (p, emptyB, 0) | none => ((0, 0), nm, 121)
def EntryPost (l : List GObj) (nm : ByteArray) (w : World) (e : Ending) (w' : World) : Prop :=
  e = .returned (.tuple #[placeV (entryR l nm).1, .string (entryR l nm).2.1, .int .i64 (entryR l nm).2.2]) ∧ Below w.heap.size w w'
theorem findOut {l : List GObj} {n : List UInt8} (hc : (beginR l).2 = 0) : findAll l (-1) n = fndR (findR l (-1) n) := by
  unfold findAll fndR
  rw [hc, if_neg (by simp), if_neg (by omega)]
  cases findR l (-1) n <;> rfl
set_option maxHeartbeats 2000000 in
theorem entry_any (v : Value) (l : List GObj) (nm : ByteArray) (w : World) (h : ObjsAt w v l) (hn : nm.size ≤ 9223372036854775807) :
    Calls Tryz.prog 131 #[.string nm, v] w (EntryPost l nm w) := by
  have HO := Lib.hid h
  have HCK := Lib.hid (resCheck_any v l (w.alloc (.cells #[.int .i64 0, .int .i64 0] 63)) (ObjsAt.keep (alloc_old w _) h))
  obtain ⟨p, cap, bb, o, rfl, -⟩ := h
  by_cases hc : (beginR l).2 = 0
  · have HE : Hid (entryR l nm = match findR l (-1) nm.data.toList with | some p => (p, emptyB, 0) | none => ((0, 0), nm, 121)) := by
      unfold entryR; rw [if_neg (by simpa using hc)]; rfl
    have HFA := Lib.hid (findOut (n := nm.data.toList) hc)
    rw [hc] at HCK
    clear hc
    generalize (beginR l).1 = bn at HCK
    generalize hf : findR l (-1) nm.data.toList = fp at HE HFA
    clear hf
    obtain ⟨pa, pb, c, hfp⟩ : ∃ (pa pb : Nat) (c : Int), fndR fp = ((pa, pb), c) := ⟨_, _, _, rfl⟩
    have HFP := Lib.hid hfp; clear hfp
    have HF : Hid (∀ W, Below w.heap.size w W → Calls Tryz.prog 55 #[.slice p l.length cap, .int .i64 (-1), .string nm] W fun e w' => e = .returned (.tuple #[.agg #[.int .i64 pa, .int .i64 pb], .int .i64 c]) ∧ Below W.heap.size W w') := fun W hW => by
      have := resFind_any (.slice p l.length cap) l (-1) nm W (ObjsAt.keep hW HO.out) hn
      rw [HFA.out, HFP.out] at this
      exact this
    go_enter Tryz.func131, Tryz.ntmps131
    go_wp2_with fail
    refine HCK.out.mono ?_
    rintro e w1 ⟨rfl, hB⟩
    obtain ⟨q0, q1, r0, r1, hz, hb1⟩ := box2 w _ _ _ hB
    have HB1 := Lib.hid hb1; clear hb1
    clear hB HCK
    go_wp2_with fail
    refine (HF.out w1 HB1.out).mono ?_
    rintro e w2 ⟨rfl, hB2⟩
    replace q0 := cell_keep hB2 hz q0
    replace q1 := cell_keep hB2 hz q1
    replace r0 := (hB2.frozen (p := ⟨w.heap.size, 0, none⟩) hz).trans r0
    replace r1 := (hB2.frozen (p := ⟨w.heap.size, 1, none⟩) hz).trans r1
    have hz2 : w.heap.size < w2.heap.size := by have := hB2.size; omega
    have HB2 : Hid (Below w.heap.size w w2) := HB1.out.trans (hB2.mono HB1.out.size)
    clear hB2 HB1 hz
    by_cases hc0 : c = 0
    · subst hc0
      have HE2 : Hid (entryR l nm = ((pa, pb), emptyB, 0)) := by
        have h1 := HE.out; have h2 := HFP.out
        cases fp with
        | none => simp [fndR] at h2
        | some pq => simp only [fndR, Prod.mk.injEq, and_true] at h2; rw [h1, ← h2]; rfl
      go_wp2_with fail
      refine bodyPost_ret (v := .tuple #[.agg #[.int .i64 pa, .int .i64 pb], .string ⟨#[]⟩, .int .i64 0]) (by simp [results, Tryz.results131, go_sem, q0, q1, hz2]) rfl ⟨by rw [HE2.out]; rfl, ?_⟩
      exact ((HB2.out.setCell (by simp) _).setCell (by simp) _).alloc (by simp; omega) _
    · have hcb : (c != 0) = true := by simpa using hc0
      have HE2 : Hid (entryR l nm = ((pa, pb), nm, c)) := by
        have h1 := HE.out; have h2 := HFP.out
        cases fp with
        | none => simp only [fndR, Prod.mk.injEq] at h2; rw [h1, ← h2.1.1, ← h2.1.2, ← h2.2]; rfl
        | some pq => simp only [fndR, Prod.mk.injEq] at h2; exact absurd h2.2.symm hc0
      clear hc0
      go_wp2_with fail
      refine bodyPost_ret (v := .tuple #[.agg #[.int .i64 pa, .int .i64 pb], .string nm, .int .i64 c]) (by simp [results, Tryz.results131, go_sem, q0, q1, hz2]) rfl ⟨by rw [HE2.out]; rfl, ?_⟩
      exact ((HB2.out.setCell (by simp) _).setCell (by simp) _).alloc (by simp; omega) _
  · have HE : Hid (entryR l nm = ((0, 0), (beginR l).1, (beginR l).2)) := by unfold entryR; rw [if_pos hc]; rfl
    have hcb : ((beginR l).2 != 0) = true := by simpa using hc
    clear hc
    generalize (beginR l).1 = bn at *
    generalize (beginR l).2 = bc at *
    go_enter Tryz.func131, Tryz.ntmps131
    go_wp2_with fail
    refine HCK.out.mono ?_
    rintro e w1 ⟨rfl, hB⟩
    obtain ⟨q0, q1, r0, r1, hz, hb1⟩ := box2 w _ _ _ hB
    go_wp2_with fail
    refine bodyPost_ret (v := .tuple #[.agg #[.int .i64 0, .int .i64 0], .string bn, .int .i64 bc]) (by simp [results, Tryz.results131, go_sem, q0, q1]) rfl ⟨by rw [HE.out]; rfl, ?_⟩
    exact (hb1.setCell (by simp) _).setCell (by simp) _
end Go.Proofs.YtdjgkmpjhpnkeaaGreatDoor
namespace Go.Proofs.YtdjgkmpjhpnkeaaGreatDoor
open Go.RowKit Go.Maps
def refsC (l : List GObj) (x : PP) : Int := (refsV (beginR l) l x.1 x.2).2.2
def ToldPost (l : List GObj) (pv : Value) (ks : List PP) (w : World) (e : Ending) (w' : World) : Prop :=
  ((e = .returned (.tuple #[pv, .string ⟨#[]⟩, .int .i64 0]) ∧ ∀ x ∈ ks, refsC l x = 0) ∨ (∃ n c, c ≠ 0 ∧ e = .returned (.tuple #[.slice none 0 0, .string n, .int .i64 c]) ∧ ∃ x ∈ ks, refsC l x ≠ 0)) ∧ Below w.heap.size w w'
set_option maxRecDepth 100000 in
set_option maxHeartbeats 2000000 in
theorem rtold_any (v pv : Value) (l : List GObj) (ks : List PP) (w : World) (h : ObjsAt w v l) (hk : RowAt 2 PlaceR w pv ks) :
    Calls Tryz.prog 133 #[v, pv] w (ToldPost l pv ks w) := by
  have HO := Lib.hid h
  obtain ⟨p, cap, bb, o, rfl, -⟩ := h
  obtain ⟨pk, ck, bk, ok, rfl, hck, hmk, hpk, hrk⟩ := hk
  have HPK := Lib.hid hpk; clear hpk
  have HRK := Lib.hid hrk; clear hrk
  go_enter Tryz.func133, Tryz.ntmps133
  go_wp2
  go_loopw [14] (fun v14 wr => ∃ k : Nat, k ≤ ks.length ∧ v14 = .int .i64 k ∧ (∀ i (h : i < ks.length), i < k → refsC l ks[i] = 0) ∧ Below w.heap.size w wr) (fun v14 _ => ks.length - (intOf v14).toNat)
  case atStart => exact ⟨0, Nat.zero_le _, rfl, fun i _ h0 => by omega, Below.refl _ _⟩
  case round =>
    obtain ⟨k, hk, rfl, hall, hbel⟩ := hrel
    have HA := Lib.hid hall; clear hall
    have HB := Lib.hid hbel; clear hbel
    by_cases hlt : k < ks.length
    · obtain rfl := HPK.out (by omega)
      obtain ⟨-, y0, y1⟩ := placeR_keeps _ _ _ _ _ HB.out (HRK.out k hlt)
      have HRF := Lib.hid (fun (W : World) (hW : Below wr.heap.size wr W) => refs_any (.slice p l.length cap) l ks[k].1 ks[k].2 W (ObjsAt.keep (HB.out.trans (hW.mono HB.out.size)) HO.out))
      have HC : Hid ((refsV (beginR l) l ks[k].1 ks[k].2).2.2 = refsC l ks[k]) := Lib.hid rfl
      have hkm : ks[k] ∈ ks := List.getElem_mem hlt
      have HKE : Hid (∀ i (h : i < ks.length), i = k → ks[i] = ks[k]) := Lib.hid fun i hi e => by subst e; rfl
      have HKM := Lib.hid hkm; clear hkm
      generalize (refsV (beginR l) l ks[k].1 ks[k].2).2.2 = c at HRF HC
      generalize (refsV (beginR l) l ks[k].1 ks[k].2).2.1 = bn at HRF
      generalize (refsV (beginR l) l ks[k].1 ks[k].2).1 = qs at HRF
      generalize ks[k] = y at *
      obtain ⟨y1', y2'⟩ := y
      simp only [] at y0 y1 HRF
      have d2 : (0 : Int) ≤ (k : Int) := by omega
      go_wp2_with fail
      refine (HRF.out _ ?_).mono ?_
      · exact alloc_old _ _
      rintro e w1 ⟨vo, rfl, -, hB1⟩
      have HB1 : Hid (Below w.heap.size w w1) := HB.out.trans (((alloc_old wr _).trans (hB1.mono (by simp))).mono HB.out.size)
      clear hB1
      by_cases hc0 : c = 0
      · subst hc0
        go_wp2
        go_roundw
        case rel => exact ⟨k + 1, by omega, by go_num, fun i hi hik => by
          by_cases h1 : i < k
          · exact HA.out i hi h1
          · rw [HKE.out i hi (by omega), ← HC.out], HB1.out⟩
        case measure => simp [intOf]; omega
      · have hcb : (c != 0) = true := by simpa using hc0
        have HC0 := Lib.hid hc0; clear hc0
        go_wp2
        go_ret3
        exact ⟨.inr ⟨bn, c, HC0.out, rfl, _, HKM.out, by rw [← HC.out]; exact HC0.out⟩, HB1.out⟩
    · go_wp2
      go_ret3
      exact ⟨.inl ⟨rfl, fun x hx => by
        obtain ⟨i, hi, rfl⟩ := List.mem_iff_getElem.1 hx
        exact HA.out i hi (by omega)⟩, HB.out⟩
end Go.Proofs.YtdjgkmpjhpnkeaaGreatDoor
namespace Go.Proofs.YtdjgkmpjhpnkeaaGreatDoor
open Go.RowKit Go.Maps
def allK (l : List GObj) : List PP := selPlaces (flat l) (flat l)
def AllPost13 (l : List GObj) (nm : ByteArray) (w : World) (e : Ending) (w' : World) : Prop :=
  ((∃ vo, (entryR l nm).2.2 = 0 ∧ (∀ x ∈ allK l, refsC l x = 0) ∧ RowAt 2 PlaceR w' vo (allK l) ∧ e = .returned (.tuple #[vo, .string ⟨#[]⟩, .int .i64 0])) ∨ (∃ n c, c ≠ 0 ∧ e = .returned (.tuple #[.slice none 0 0, .string n, .int .i64 c]) ∧ ((entryR l nm).2.2 ≠ 0 ∨ ∃ x ∈ allK l, refsC l x ≠ 0))) ∧ Below w.heap.size w w'
set_option maxRecDepth 100000 in
set_option maxHeartbeats 4000000 in
theorem all13_any (v : Value) (l : List GObj) (nm : ByteArray) (w : World) (h : ObjsAt w v l) (hn : nm.size ≤ 9223372036854775807) :
    Calls Tryz.prog 51 #[.string nm, v] w (AllPost13 l nm w) := by
  have HO := Lib.hid h
  have HE := Lib.hid (entry_any v l nm w h hn)
  obtain ⟨p, cap, bb, o, rfl, -⟩ := h
  unfold EntryPost placeV at HE
  obtain ⟨⟨pa, pb⟩, bn, c, her⟩ : ∃ (pq : PP) (bn : ByteArray) (c : Int), entryR l nm = (pq, bn, c) := ⟨_, _, _, rfl⟩
  rw [her] at HE
  simp only [] at HE
  have HER := Lib.hid her; clear her
  by_cases hc0 : c = 0
  · subst hc0
    have hb0 : (beginR l).2 = 0 := by
      have h1 := HER.out
      unfold entryR at h1
      by_cases hb : (beginR l).2 ≠ 0
      · rw [if_pos hb] at h1; simp only [Prod.mk.injEq] at h1; exact absurd h1.2.2 hb
      · simpa using hb
    have HB0 := Lib.hid hb0; clear hb0
    go_enter Tryz.func51, Tryz.ntmps51
    go_wp2_with fail
    refine HE.out.mono ?_
    rintro e w1 ⟨rfl, hB⟩
    have HB2 : Hid (Below w.heap.size w (w1.alloc (.cells #[.int .i64 pa, .int .i64 pb] 63))) := hB.alloc hB.size _
    clear HE hB
    have HW := Lib.hid (winners_any (.slice p l.length cap) l _ (ObjsAt.keep HB2.out HO.out))
    rw [HB0.out, if_pos rfl] at HW
    go_wp2_with fail
    refine HW.out.mono ?_
    rintro e w3 ⟨vo, rfl, hrow, hB3⟩
    have HR := Lib.hid hrow
    obtain ⟨pv, cv, bv, ov, rfl, -⟩ := hrow
    have HB3 : Hid (Below w.heap.size w w3) := HB2.out.trans (hB3.mono HB2.out.size)
    clear hB3
    have HT := Lib.hid (rtold_any (.slice p l.length cap) _ l _ w3 (ObjsAt.keep HB3.out HO.out) HR.out)
    have HEQ : Hid (selPlaces (flat l) (flat l) = allK l) := Lib.hid rfl
    rw [HEQ.out] at HR HT
    rw [HEQ.out]
    clear HEQ
    go_wp2_with fail
    refine HT.out.mono ?_
    rintro e w6 ⟨hcase, hB6⟩
    have HB6 : Hid (Below w.heap.size w w6) := HB3.out.trans (hB6.mono HB3.out.size)
    have HR6 := Lib.hid (HR.out.keep placeR_keeps hB6)
    clear hB6
    rcases hcase with ⟨rfl, hall⟩ | ⟨n, c, hc, rfl, x, hx, hxc⟩
    · have HALL := Lib.hid hall; clear hall
      go_wp2
      go_ret3
      exact ⟨.inl ⟨_, by rw [HER.out], HALL.out, HR6.out, rfl⟩, HB6.out⟩
    · have HX := Lib.hid (And.intro hc (And.intro hx hxc)); clear hc hx hxc
      go_wp2
      go_ret3
      exact ⟨.inr ⟨n, c, HX.out.1, rfl, .inr ⟨x, HX.out.2.1, HX.out.2.2⟩⟩, HB6.out⟩
  · have hcb : (c != 0) = true := by simpa using hc0
    have HC0 := Lib.hid hc0; clear hc0
    go_enter Tryz.func51, Tryz.ntmps51
    go_wp2_with fail
    refine HE.out.mono ?_
    rintro e w1 ⟨rfl, hB⟩
    have HB1 := Lib.hid hB; clear hB
    go_wp2
    go_ret3
    exact ⟨.inr ⟨bn, c, HC0.out, rfl, .inl (by rw [HER.out]; exact HC0.out)⟩, HB1.out.alloc HB1.out.size _⟩
end Go.Proofs.YtdjgkmpjhpnkeaaGreatDoor
