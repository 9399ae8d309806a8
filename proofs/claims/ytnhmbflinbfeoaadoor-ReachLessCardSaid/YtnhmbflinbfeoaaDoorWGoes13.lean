/- The walks of reach's begin and goes. A scope whose label is jumped back to, and walked into once. No program in sight. -/
import Derived.Test.YtnhmbflinbfeoaaDoorWReachPut
import Derived.Test.YtnhmbflinbfeoaaDoorWKnown
import Derived.Test.YtnhmbflinbfeoaaDoorGoes13
import Derived.WalkMore
import Derived.ScopeJumps
namespace Go.Proofs.YtnhmbflinbfeoaaDoor
theorem wp_scope_jumps2 {P : Program} {a : Act} {w : World} {Q : Exit → Act → World → Prop} {c X : Code} (l : Nat) (J : Act → World → Prop) (μ : Act → World → Nat) (hf : findLabel c l = some (Code.seq Code.skip X))
    (hX : ∀ a w, J a w → X.wp P (Exit.jump l (fun a' w' => J a' w' ∧ μ a' w' < μ a w) Q) a w)
    (first : (∀ a w, J a w → X.wp P (Exit.jump l J Q) a w) → c.wp P (Exit.jump l J Q) a w) : (Code.scope c).wp P Q a w :=
  wp_scope_jumps l J μ hf (first fun a w h => wp_mono (hX a w h) fun e a' w' hq => by
    cases e with
    | goto l' => exact ⟨hq.1, hq.2.1⟩
    | normal => exact hq
    | exit id => exact hq
    | ret => exact hq
    | panic ch => exact hq
    | outgrown => exact hq) (fun a w h => wp_seq (wp_skip (hX a w h)))
end Go.Proofs.YtnhmbflinbfeoaaDoor
namespace Go.Proofs.YtnhmbflinbfeoaaDoor
open Go.RowKit Go.Maps
set_option maxHeartbeats 1000000 in
theorem rbegin_any (pv : Option Addr) (nv cv : Nat) (w : World) :
    Calls Tryd.prog 18 #[.slice pv nv cv] w fun e w' => (∃ sb mb, e = .returned (.pointer (some ⟨sb, 0, none⟩)) ∧ SrchSt w.heap.size sb mb (.slice pv nv cv) (.slice none 0 0) [] (fun _ => none) w') ∧ Below w.heap.size w w' := by
  have hmm := @run_makeMap Tryd.prog
  go_enter Tryd.func18, Tryd.ntmps18
  go_wp2
  go_ret
  refine ⟨⟨_, _, rfl, ⟨?_, PRow.nil _ _, (MapKFn.made placeE w).alloc _, by omega, by omega⟩⟩, (alloc_old w _).alloc (by simp) _⟩
  have := heap_alloc_new (w.alloc (.map #[] 0)) (.cells #[.slice none 0 0, .map (some w.heap.size), .slice pv nv cv] 60)
  simpa using this
theorem valid_ok {l : List GObj} {p : PP} (hm : mayAll l = true) (h : validP l p) : placeOkK p := by
  obtain ⟨o, s, h1, h2⟩ := h
  simp only [mayAll, Bool.and_eq_true, decide_eq_true_eq, List.all_eq_true] at hm
  have h3 := hm.2 o (List.mem_of_getElem? h1)
  simp only [mayP, Bool.and_eq_true, decide_eq_true_eq] at h3
  have h4 := (List.getElem?_eq_some_iff.1 h1).1
  have h5 := (List.getElem?_eq_some_iff.1 h2).1
  exact ⟨by omega, by omega⟩
def GoesPost (w0 : World) (sb mb : Nat) (ov : Value) (l : List GObj) (p : PP) (e : Ending) (w' : World) : Prop :=
  e = .returned (.tuple #[]) ∧ ∃ v' L F, SrchSt w0.heap.size sb mb ov v' L F w' ∧ Goes l p L F L.length ∧ Below w0.heap.size w0 w'
/-- what holds wherever goes is at its label -/
def GoesJ (w0 : World) (wb sb mb : Nat) (ov : Value) (l : List GObj) (p1 p2 : Nat) (a' : Act) (wr : World) : Prop :=
  ∃ (n : Nat) (v : Value) (L : List PP) (F : PP → Option PP) (u2 u5 u6 u7 u8 u9 u10 u11 u12 u13 u14 u15 u16 u17 u18 u19 u20 u21 u22 u23 u24 u25 u26 u27 u28 u29 u30 u31 u32 u33 u34 u35 u36 u37 u38 u39 u40 u41 u42 u43 u44 u45 u46 u47 u48 u49 u50 u51 : Value), a' = { tmps := #[.pointer (some ⟨sb, 0, none⟩), .agg #[.int .i64 p1, .int .i64 p2], u2, .pointer (some ⟨wb, 0, none⟩), .int .i64 n, u5, u6, u7, u8, u9, u10, u11, u12, u13, u14, u15, u16, u17, u18, u19, u20, u21, u22, u23, u24, u25, u26, u27, u28, u29, u30, u31, u32, u33, u34, u35, u36, u37, u38, u39, u40, u41, u42, u43, u44, u45, u46, u47, u48, u49, u50, u51], defers := [] } ∧ SrchSt w0.heap.size sb mb ov v L F wr ∧ Goes l (p1, p2) L F n ∧ n < L.length ∧ Below w0.heap.size w0 wr
set_option maxRecDepth 100000 in
set_option maxHeartbeats 4000000 in
theorem goes_any (hsort : SortOk) (sb mb : Nat) (ov : Value) (l : List GObj) (p : PP) (w0 w : World) (h : SrchSt w0.heap.size sb mb ov (.slice none 0 0) [] (fun _ => none) w) (hb : Below w0.heap.size w0 w) (ho : ObjsAt w0 ov l) (hc : (beginR l).2 = 0) (hv : validP l p) :
    Calls Tryd.prog 19 #[.pointer (some ⟨sb, 0, none⟩), placeV p] w (GoesPost w0 sb mb ov l p) := by
  have HSORT := Lib.hid hsort; clear hsort
  have HS := Lib.hid h; clear h
  have HB := Lib.hid hb; clear hb
  have HO := Lib.hid ho; clear ho
  have HC := Lib.hid hc; clear hc
  have HV := Lib.hid hv; clear hv
  obtain ⟨p1, p2⟩ := p
  have HPO : Hid (placeOkK (p1, p2)) := Lib.hid (valid_ok (beginR_zero HC.out).1 HV.out)
  unfold placeV
  simp only []
  go_enter Tryd.func19, Tryd.ntmps19
  go_wp2_with fail
  refine wp_scope_jumps2 0 (GoesJ w0 w.heap.size sb mb ov l p1 p2) (fun a' _ => 2000 - (intOf (a'.tmps.getD 4 undef)).toNat) rfl ?_ ?_
  · rintro a' wr ⟨n, v, L, F, u2, u5, u6, u7, u8, u9, u10, u11, u12, u13, u14, u15, u16, u17, u18, u19, u20, u21, u22, u23, u24, u25, u26, u27, u28, u29, u30, u31, u32, u33, u34, u35, u36, u37, u38, u39, u40, u41, u42, u43, u44, u45, u46, u47, u48, u49, u50, u51, rfl, hs, hg, hn, hbel⟩
    have hxv : validP l L[n] := hg.valid HV.out _ (List.getElem_mem hn)
    have hx : L[n]? = some L[n] := List.getElem?_eq_getElem hn
    have hL := hg.len HV.out HC.out
    obtain ⟨gv, cv, rfl, hgb, hgl⟩ := World.ownsRow.form hs.row (by omega)
    have c0 : wr.cell? ⟨sb, 0, none⟩ = some (.slice (some ⟨gv, 0, none⟩) L.length cv) := Lib.cell_of_heap hs.box 0
    have c2 : wr.cell? ⟨sb, 2, none⟩ = some ov := Lib.cell_of_heap hs.box 2
    obtain ⟨-, e0, e1⟩ := (placeRow_at hs.row n hn : PlaceR wr gv (n * 2) L[n])
    generalize L[n] = x at *
    obtain ⟨x1, x2⟩ := x
    simp only [] at e0 e1
    obtain ⟨o, s, hv1, hv2⟩ := hxv
    simp only [] at hv1 hv2
    obtain ⟨ha, rfl⟩ := List.getElem?_eq_some_iff.1 hv1
    obtain ⟨hb2, -⟩ := List.getElem?_eq_some_iff.1 hv2
    have HK := Lib.hid (known_any HSORT.out sb ov l x1 x2 wr hs.lt c2 (ObjsAt.keep hbel HO.out) HC.out ha hb2)
    unfold placeV at HK
    simp only [] at HK
    clear hv1 hv2 ha hb2
    have HX := Lib.hid hx; clear hx
    have HS1 := Lib.hid hs; clear hs
    have HG := Lib.hid hg; clear hg
    have HBE := Lib.hid hbel; clear hbel
    have d1 : (0 : Int) ≤ (n : Int) := by omega
    go_wp2_with (go_at_call 30; refine HK.out.mono ?_; rintro e wk ⟨vo, rfl, ks, ⟨pk, ck, bk, ok, rfl, hck, hmk, hpk, hrk⟩, hmem, hlen, hob, hbk⟩)
    have HBK := Lib.hid hbk; clear hbk
    have HPK := Lib.hid hpk; clear hpk
    have HRK := Lib.hid hrk; clear hrk
    have HMEM := Lib.hid hmem; clear hmem
    have HI0 : Hid (Inn w0 wk sb mb ov l (p1, p2) (x1, x2) n ks bk 0 (.slice (some ⟨gv, 0, none⟩) L.length cv) L F wk) := by
      refine ⟨HS1.out.keep HBK.out, HG.out, HX.out, fun i hi h0 => by omega, fun hks0 => ⟨rfl, ?_, (HRK.out 0 hks0).1, ?_, ?_⟩, HBE.out.trans (HBK.out.mono HBE.out.size)⟩
      · have := hob bk (by rw [HPK.out hks0]; rfl)
        intro e; simp [Value.ownBlock] at e; omega
      · have := hob bk (by rw [HPK.out hks0]; rfl)
        have := HS1.out.lt; omega
      · have := hob bk (by rw [HPK.out hks0]; rfl)
        have := HS1.out.map.lt; omega
    clear hob
    obtain ⟨wo, rfl⟩ : ∃ wo : World, wo = wr := ⟨_, rfl⟩
    go_loopw [24] (fun v24 wi => ∃ (k : Nat) (v : Value) (L' : List PP) (F' : PP → Option PP), k ≤ ks.length ∧ v24 = .int .i64 k ∧ Inn w0 wk sb mb ov l (p1, p2) (x1, x2) n ks bk k v L' F' wi) (fun v24 _ => ks.length - (intOf v24).toNat)
    case atStart => exact ⟨0, _, _, _, Nat.zero_le _, rfl, HI0.out⟩
    case round =>
      obtain ⟨k, v, L', F', hk, rfl, hinn⟩ := hrel
      have HI := Lib.hid hinn; clear hinn
      clear c0 c2 e0 e1
      by_cases hlt : k < ks.length
      · obtain rfl := HPK.out (by omega)
        have hLn := (List.getElem?_eq_some_iff.1 HI.out.x).1
        have hLx := (List.getElem?_eq_some_iff.1 HI.out.x).2
        obtain ⟨gv', cv', rfl, hgb', hgl'⟩ := World.ownsRow.form HI.out.st.row (by omega)
        obtain ⟨hb1, hb2, hb3, hb4, hb5⟩ := HI.out.hb (by omega)
        have c0 : wr.cell? ⟨sb, 0, none⟩ = some (.slice (some ⟨gv', 0, none⟩) L'.length cv') := Lib.cell_of_heap HI.out.st.box 0
        obtain ⟨-, e0, e1⟩ := (placeRow_at HI.out.st.row n hLn : PlaceR wr gv' (n * 2) L'[n])
        rw [hLx] at e0 e1
        obtain ⟨-, y0, y1⟩ := HRK.out k hlt
        have t0 : wr.cell? ⟨bk, ok + k * 2, none⟩ = some (.int .i64 ks[k].1) := (World.cell?_of_block (w := wk) (a := ⟨bk, ok + k * 2, none⟩) hb1).trans y0
        have t1 : wr.cell? ⟨bk, ok + k * 2 + 1, none⟩ = some (.int .i64 ks[k].2) := (World.cell?_of_block (w := wk) (a := ⟨bk, ok + k * 2 + 1, none⟩) hb1).trans y1
        have hsl := HI.out.st.lt
        have hL' := HI.out.g.len HV.out HC.out
        have hyk : placeOkK ks[k] := by
          obtain ⟨_, _, hf⟩ := (HMEM.out ks[k]).1 (List.getElem_mem hlt)
          exact valid_ok (beginR_zero HC.out).1 (findR_valid hf)
        have HSTEP := Lib.hid (fun (w5 w6 : World) (e : Ending) (hb : Below wr.heap.size wr w5) (hp : PutPost w0.heap.size sb mb ov (.slice (some ⟨gv', 0, none⟩) L'.length cv') L' F' ks[k] (x1, x2) w5 e w6) => HI.out.step hlt (fun q hq => (HMEM.out q).1 hq) hb hp)
        have HPU := Lib.hid (fun (w5 : World) (hb : Below wr.heap.size wr w5) => put_any w0.heap.size sb mb ov (.slice (some ⟨gv', 0, none⟩) L'.length cv') L' F' ks[k] (x1, x2) w5 (HI.out.st.keep hb) hyk (by omega))
        clear y0 y1 hb1 hb2 hb3 hb4 hb5 hyk hLx
        generalize ks[k] = y at *
        obtain ⟨y1, y2⟩ := y
        simp only [] at t0 t1 e0 e1
        unfold placeV at HPU
        simp only [] at HPU
        have d2 : (0 : Int) ≤ (k : Int) := by omega
        go_wp2_with fail
        have HW1 : Hid (Below wr.heap.size wr (wr.alloc (.cells #[.int .i64 y1, .int .i64 y2] 30))) := alloc_old wr _
        have b0 : (wr.alloc (.cells #[.int .i64 y1, .int .i64 y2] 30)).cell? ⟨wr.heap.size, 0, none⟩ = some (.int .i64 y1) := by simp [go_sem]
        have b1 : (wr.alloc (.cells #[.int .i64 y1, .int .i64 y2] 30)).cell? ⟨wr.heap.size, 1, none⟩ = some (.int .i64 y2) := by simp [go_sem]
        replace c0 := cell_keep HW1.out hsl c0
        replace e0 := cell_keep HW1.out hgl' e0
        replace e1 := cell_keep HW1.out hgl' e1
        clear t0 t1
        generalize wr.alloc (.cells #[.int .i64 y1, .int .i64 y2] 30) = w5 at *
        go_still_tail 12, (by kernel_rfl)
        change wpList _ _ _ _ _ w5.drew
        go_wp2_with (go_at_call 29; refine (HPU.out w5.drew HW1.out.drew).mono ?_; rintro e w6 ⟨rfl, hp6⟩; have HP6 := Lib.hid hp6; clear hp6)
        go_roundw
        case rel =>
          obtain ⟨v2, L2, F2, h2⟩ := HSTEP.out w5.drew w6 _ HW1.out.drew ⟨rfl, HP6.out⟩
          exact ⟨k + 1, v2, L2, F2, by omega, by go_num, h2⟩
        case measure => simp [intOf]; omega
      · have HL := Lib.hid (HI.out.st)
        obtain ⟨pv', cv', rfl⟩ := own_shape HL.out.row
        have c0 : wr.cell? ⟨sb, 0, none⟩ = some (.slice pv' L'.length cv') := Lib.cell_of_heap HL.out.box 0
        have HG2 : Hid (Goes l (p1, p2) L' F' (n + 1)) := HI.out.g.next _ HI.out.x fun q hq => by
          obtain ⟨i, hi, rfl⟩ := List.mem_iff_getElem.1 ((HMEM.out q).2 hq)
          exact HI.out.m i hi (by omega)
        by_cases hlast : n + 1 < L'.length
        · have d3 : decide ((n : Int) + 1 < (L'.length : Int)) = true := by simp; omega
          have d4 : decide (n + 1 < L'.length) = true := by simpa using hlast
          go_wp2_with fail
          go_step3
          refine ⟨rfl, ⟨n + 1, _, L', F', _, _, _, _, _, _, _, _, _, _, _, _, _, _, _, _, _, _, _, _, _, _, _, _, _, _, _, _, _, _, _, _, _, _, _, _, _, _, _, _, _, _, _, _, _, _, _, _, rfl, HL.out, HG2.out, hlast, HI.out.b⟩, ?_⟩
          simp [intOf]; omega
        · have d3 : decide ((n : Int) + 1 < (L'.length : Int)) = false := by simp; omega
          have d4 : decide (n + 1 < L'.length) = false := by simpa using hlast
          go_wp2_with fail
          simp only [Exit.jump]
          go_end0
          exact ⟨rfl, _, L', F', HL.out, HG2.out.full (by omega), HI.out.b⟩
  · intro hX
    have HX := Lib.hid hX; clear hX
    go_wp2_with fail
    have HW1 : Hid (Below w.heap.size w (w.alloc (.cells #[.int .i64 p1, .int .i64 p2] 30))) := alloc_old w _
    have b0 : (w.alloc (.cells #[.int .i64 p1, .int .i64 p2] 30)).cell? ⟨w.heap.size, 0, none⟩ = some (.int .i64 p1) := by simp [go_sem]
    have b1 : (w.alloc (.cells #[.int .i64 p1, .int .i64 p2] 30)).cell? ⟨w.heap.size, 1, none⟩ = some (.int .i64 p2) := by simp [go_sem]
    generalize w.alloc (.cells #[.int .i64 p1, .int .i64 p2] 30) = w1 at *
    have HPU := Lib.hid (put_any w0.heap.size sb mb ov (.slice none 0 0) [] (fun _ => none) (p1, p2) (p1, p2) w1.drew (HS.out.keep HW1.out.drew) HPO.out (by simp))
    unfold placeV at HPU
    simp only [] at HPU
    go_still_tail 5, (by kernel_rfl)
    change wpList _ _ _ _ _ w1.drew
    go_wp2_with (go_at_call 29; refine HPU.out.mono ?_; rintro e w2 ⟨rfl, v', hs2, hkb2, hv2⟩)
    go_step3
    rename_i K1 hK1
    show K1 _ _
    refine hK1 _ _ (HX.out _ _ ⟨0, v', [(p1, p2)], updF (fun _ => none) (p1, p2) (p1, p2), _, _, _, _, _, _, _, _, _, _, _, _, _, _, _, _, _, _, _, _, _, _, _, _, _, _, _, _, _, _, _, _, _, _, _, _, _, _, _, _, _, _, _, _, _, _, _, _, rfl, hs2, Goes.start l (p1, p2), by simp, ?_⟩)
    exact (HB.out.trans ((HW1.out.drew).mono HB.out.size)).trans (hkb2.below (by have := HB.out.size; have := HW1.out.size; simp; omega) (fun k hk e => by have h1 := HS.out.sbl; have h2 := HS.out.mbl; rcases e with e | e | e; omega; omega; cases e))
end Go.Proofs.YtnhmbflinbfeoaaDoor
