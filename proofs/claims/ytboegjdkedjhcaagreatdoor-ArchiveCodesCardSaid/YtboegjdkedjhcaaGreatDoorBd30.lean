/- The walks of reach's begin and goes. A scope whose label is jumped back to, and walked into once. No program in sight. The walks of reach's entry, told and Kept. The walks of reach's told and All. The walk of reach.All. The walk of reach.Kept. What is kept: among all ones, and closed, in plain Lean. No program in sight. The walks of reach.told, All and Kept, with the errors told exactly. The walk of aediculeref08.CopyAll. -/
import Derived.Test.YtboegjdkedjhcaaGreatDoorBd19
import Derived.Test.YtboegjdkedjhcaaGreatDoorBd27
import Derived.Test.YtboegjdkedjhcaaGreatDoorBd16
import Derived.WalkMore
import Derived.ScopeJumps
import Derived.Test.YtboegjdkedjhcaaGreatDoorBd23
import Derived.Test.YtboegjdkedjhcaaGreatDoorBd06
namespace Go.Proofs.YtboegjdkedjhcaaGreatDoor
theorem wp_scope_jumps2 {P : Program} {a : Act} {w : World} {Q : Exit → Act → World → Prop} {c X : Code} (l : Nat) (J : Act → World → Prop) (μ : Act → World → Nat) (hf : findLabel c l = some (Code.seq Code.skip X))
    (hX : ∀ a w, J a w → X.wp P (Exit.jump l (fun a' w' => J a' w' ∧ μ a' w' < μ a w) Q) a w)
    (first : (∀ a w, J a w → X.wp P (Exit.jump l J Q) a w) → c.wp P (Exit.jump l J Q) a w) : (Code.scope c).wp P Q a w :=
  wp_scope_jumps l J μ hf (first fun a w h => wp_mono (hX a w h) fun e a' w' hq => by
    cases e with
    | goto l' => exact ⟨hq.1, hq.2.1⟩
    | normal => exact hq
    | exit id => exact hq
    | ret => exact hq
    | panic ch => exact hq
    | outgrown => exact hq) (fun a w h => wp_seq (wp_skip (hX a w h)))
end Go.Proofs.YtboegjdkedjhcaaGreatDoor
namespace Go.Proofs.YtboegjdkedjhcaaGreatDoor
open Go.RowKit Go.Maps
set_option maxHeartbeats 1000000 in
theorem rbegin_any (pv : Option Addr) (nv cv : Nat) (w : World) :
    Calls Tryz.prog 109 #[.slice pv nv cv] w fun e w' => (∃ sb mb, e = .returned (.pointer (some ⟨sb, 0, none⟩)) ∧ SrchSt w.heap.size sb mb (.slice pv nv cv) (.slice none 0 0) [] (fun _ => none) w') ∧ Below w.heap.size w w' := by
  have hmm := @run_makeMap Tryz.prog
  go_enter Tryz.func109, Tryz.ntmps109
  go_wp2
  go_ret
  refine ⟨⟨_, _, rfl, ⟨?_, PRow.nil _ _, (MapKFn.made placeE w).alloc _, by omega, by omega⟩⟩, (alloc_old w _).alloc (by simp) _⟩
  have := heap_alloc_new (w.alloc (.map #[] 0)) (.cells #[.slice none 0 0, .map (some w.heap.size), .slice pv nv cv] 196)
  simpa using this
theorem valid_ok {l : List GObj} {p : PP} (hm : mayAll l = true) (h : validP l p) : placeOkK p := by
  obtain ⟨o, s, h1, h2⟩ := h
  simp only [mayAll, Bool.and_eq_true, decide_eq_true_eq, List.all_eq_true] at hm
  have h3 := hm.2 o (List.mem_of_getElem? h1)
  simp only [mayP, Bool.and_eq_true, decide_eq_true_eq] at h3
  have h4 := (List.getElem?_eq_some_iff.1 h1).1
  have h5 := (List.getElem?_eq_some_iff.1 h2).1
  exact ⟨by omega, by omega⟩
def GoesPost (w0 : World) (sb mb : Nat) (ov : Value) (l : List GObj) (p : PP) (e : Ending) (w' : World) : Prop :=
  e = .returned (.tuple #[]) ∧ ∃ v' L F, SrchSt w0.heap.size sb mb ov v' L F w' ∧ Goes l p L F L.length ∧ Below w0.heap.size w0 w'
/-- what holds wherever goes is at its label -/
def GoesJ (w0 : World) (wb sb mb : Nat) (ov : Value) (l : List GObj) (p1 p2 : Nat) (a' : Act) (wr : World) : Prop :=
  ∃ (n : Nat) (v : Value) (L : List PP) (F : PP → Option PP) (u2 u5 u6 u7 u8 u9 u10 u11 u12 u13 u14 u15 u16 u17 u18 u19 u20 u21 u22 u23 u24 u25 u26 u27 u28 u29 u30 u31 u32 u33 u34 u35 u36 u37 u38 u39 u40 u41 u42 u43 u44 u45 u46 u47 u48 u49 u50 u51 : Value), a' = { tmps := #[.pointer (some ⟨sb, 0, none⟩), .agg #[.int .i64 p1, .int .i64 p2], u2, .pointer (some ⟨wb, 0, none⟩), .int .i64 n, u5, u6, u7, u8, u9, u10, u11, u12, u13, u14, u15, u16, u17, u18, u19, u20, u21, u22, u23, u24, u25, u26, u27, u28, u29, u30, u31, u32, u33, u34, u35, u36, u37, u38, u39, u40, u41, u42, u43, u44, u45, u46, u47, u48, u49, u50, u51], defers := [] } ∧ SrchSt w0.heap.size sb mb ov v L F wr ∧ Goes l (p1, p2) L F n ∧ n < L.length ∧ Below w0.heap.size w0 wr
set_option maxRecDepth 100000 in
set_option maxHeartbeats 4000000 in
theorem goes_any (hsort : SortOk) (sb mb : Nat) (ov : Value) (l : List GObj) (p : PP) (w0 w : World) (h : SrchSt w0.heap.size sb mb ov (.slice none 0 0) [] (fun _ => none) w) (hb : Below w0.heap.size w0 w) (ho : ObjsAt w0 ov l) (hc : (beginR l).2 = 0) (hv : validP l p) :
    Calls Tryz.prog 110 #[.pointer (some ⟨sb, 0, none⟩), placeV p] w (GoesPost w0 sb mb ov l p) := by
  have HSORT := Lib.hid hsort; clear hsort
  have HS := Lib.hid h; clear h
  have HB := Lib.hid hb; clear hb
  have HO := Lib.hid ho; clear ho
  have HC := Lib.hid hc; clear hc
  have HV := Lib.hid hv; clear hv
  obtain ⟨p1, p2⟩ := p
  have HPO : Hid (placeOkK (p1, p2)) := Lib.hid (valid_ok (beginR_zero HC.out).1 HV.out)
  unfold placeV
  simp only []
  go_enter Tryz.func110, Tryz.ntmps110
  go_wp2_with fail
  refine wp_scope_jumps2 0 (GoesJ w0 w.heap.size sb mb ov l p1 p2) (fun a' _ => 2000 - (intOf (a'.tmps.getD 4 undef)).toNat) rfl ?_ ?_
  · rintro a' wr ⟨n, v, L, F, u2, u5, u6, u7, u8, u9, u10, u11, u12, u13, u14, u15, u16, u17, u18, u19, u20, u21, u22, u23, u24, u25, u26, u27, u28, u29, u30, u31, u32, u33, u34, u35, u36, u37, u38, u39, u40, u41, u42, u43, u44, u45, u46, u47, u48, u49, u50, u51, rfl, hs, hg, hn, hbel⟩
    have hxv : validP l L[n] := hg.valid HV.out _ (List.getElem_mem hn)
    have hx : L[n]? = some L[n] := List.getElem?_eq_getElem hn
    have hL := hg.len HV.out HC.out
    obtain ⟨gv, cv, rfl, hgb, hgl⟩ := World.ownsRow.form hs.row (by omega)
    have c0 : wr.cell? ⟨sb, 0, none⟩ = some (.slice (some ⟨gv, 0, none⟩) L.length cv) := Lib.cell_of_heap hs.box 0
    have c2 : wr.cell? ⟨sb, 2, none⟩ = some ov := Lib.cell_of_heap hs.box 2
    obtain ⟨-, e0, e1⟩ := (placeRow_at hs.row n hn : PlaceR wr gv (n * 2) L[n])
    generalize L[n] = x at *
    obtain ⟨x1, x2⟩ := x
    simp only [] at e0 e1
    obtain ⟨o, s, hv1, hv2⟩ := hxv
    simp only [] at hv1 hv2
    obtain ⟨ha, rfl⟩ := List.getElem?_eq_some_iff.1 hv1
    obtain ⟨hb2, -⟩ := List.getElem?_eq_some_iff.1 hv2
    have HK := Lib.hid (known_any HSORT.out sb ov l x1 x2 wr hs.lt c2 (ObjsAt.keep hbel HO.out) HC.out ha hb2)
    unfold placeV at HK
    simp only [] at HK
    clear hv1 hv2 ha hb2
    have HX := Lib.hid hx; clear hx
    have HS1 := Lib.hid hs; clear hs
    have HG := Lib.hid hg; clear hg
    have HBE := Lib.hid hbel; clear hbel
    have d1 : (0 : Int) ≤ (n : Int) := by omega
    go_wp2_with (go_at_call 145; refine HK.out.mono ?_; rintro e wk ⟨vo, rfl, ks, ⟨pk, ck, bk, ok, rfl, hck, hmk, hpk, hrk⟩, hmem, hlen, hob, hbk⟩)
    have HBK := Lib.hid hbk; clear hbk
    have HPK := Lib.hid hpk; clear hpk
    have HRK := Lib.hid hrk; clear hrk
    have HMEM := Lib.hid hmem; clear hmem
    have HI0 : Hid (Inn w0 wk sb mb ov l (p1, p2) (x1, x2) n ks bk 0 (.slice (some ⟨gv, 0, none⟩) L.length cv) L F wk) := by
      refine ⟨HS1.out.keep HBK.out, HG.out, HX.out, fun i hi h0 => by omega, fun hks0 => ⟨rfl, ?_, (HRK.out 0 hks0).1, ?_, ?_⟩, HBE.out.trans (HBK.out.mono HBE.out.size)⟩
      · have := hob bk (by rw [HPK.out hks0]; rfl)
        intro e; simp [Value.ownBlock] at e; omega
      · have := hob bk (by rw [HPK.out hks0]; rfl)
        have := HS1.out.lt; omega
      · have := hob bk (by rw [HPK.out hks0]; rfl)
        have := HS1.out.map.lt; omega
    clear hob
    obtain ⟨wo, rfl⟩ : ∃ wo : World, wo = wr := ⟨_, rfl⟩
    go_loopw [24] (fun v24 wi => ∃ (k : Nat) (v : Value) (L' : List PP) (F' : PP → Option PP), k ≤ ks.length ∧ v24 = .int .i64 k ∧ Inn w0 wk sb mb ov l (p1, p2) (x1, x2) n ks bk k v L' F' wi) (fun v24 _ => ks.length - (intOf v24).toNat)
    case atStart => exact ⟨0, _, _, _, Nat.zero_le _, rfl, HI0.out⟩
    case round =>
      obtain ⟨k, v, L', F', hk, rfl, hinn⟩ := hrel
      have HI := Lib.hid hinn; clear hinn
      clear c0 c2 e0 e1
      by_cases hlt : k < ks.length
      · obtain rfl := HPK.out (by omega)
        have hLn := (List.getElem?_eq_some_iff.1 HI.out.x).1
        have hLx := (List.getElem?_eq_some_iff.1 HI.out.x).2
        obtain ⟨gv', cv', rfl, hgb', hgl'⟩ := World.ownsRow.form HI.out.st.row (by omega)
        obtain ⟨hb1, hb2, hb3, hb4, hb5⟩ := HI.out.hb (by omega)
        have c0 : wr.cell? ⟨sb, 0, none⟩ = some (.slice (some ⟨gv', 0, none⟩) L'.length cv') := Lib.cell_of_heap HI.out.st.box 0
        obtain ⟨-, e0, e1⟩ := (placeRow_at HI.out.st.row n hLn : PlaceR wr gv' (n * 2) L'[n])
        rw [hLx] at e0 e1
        obtain ⟨-, y0, y1⟩ := HRK.out k hlt
        have t0 : wr.cell? ⟨bk, ok + k * 2, none⟩ = some (.int .i64 ks[k].1) := (World.cell?_of_block (w := wk) (a := ⟨bk, ok + k * 2, none⟩) hb1).trans y0
        have t1 : wr.cell? ⟨bk, ok + k * 2 + 1, none⟩ = some (.int .i64 ks[k].2) := (World.cell?_of_block (w := wk) (a := ⟨bk, ok + k * 2 + 1, none⟩) hb1).trans y1
        have hsl := HI.out.st.lt
        have hL' := HI.out.g.len HV.out HC.out
        have hyk : placeOkK ks[k] := by
          obtain ⟨_, _, hf⟩ := (HMEM.out ks[k]).1 (List.getElem_mem hlt)
          exact valid_ok (beginR_zero HC.out).1 (findR_valid hf)
        have HSTEP := Lib.hid (fun (w5 w6 : World) (e : Ending) (hb : Below wr.heap.size wr w5) (hp : PutPost w0.heap.size sb mb ov (.slice (some ⟨gv', 0, none⟩) L'.length cv') L' F' ks[k] (x1, x2) w5 e w6) => HI.out.step hlt (fun q hq => (HMEM.out q).1 hq) hb hp)
        have HPU := Lib.hid (fun (w5 : World) (hb : Below wr.heap.size wr w5) => put_any w0.heap.size sb mb ov (.slice (some ⟨gv', 0, none⟩) L'.length cv') L' F' ks[k] (x1, x2) w5 (HI.out.st.keep hb) hyk (by omega))
        clear y0 y1 hb1 hb2 hb3 hb4 hb5 hyk hLx
        generalize ks[k] = y at *
        obtain ⟨y1, y2⟩ := y
        simp only [] at t0 t1 e0 e1
        unfold placeV at HPU
        simp only [] at HPU
        have d2 : (0 : Int) ≤ (k : Int) := by omega
        go_wp2_with fail
        have HW1 : Hid (Below wr.heap.size wr (wr.alloc (.cells #[.int .i64 y1, .int .i64 y2] 185))) := alloc_old wr _
        have b0 : (wr.alloc (.cells #[.int .i64 y1, .int .i64 y2] 185)).cell? ⟨wr.heap.size, 0, none⟩ = some (.int .i64 y1) := by simp [go_sem]
        have b1 : (wr.alloc (.cells #[.int .i64 y1, .int .i64 y2] 185)).cell? ⟨wr.heap.size, 1, none⟩ = some (.int .i64 y2) := by simp [go_sem]
        replace c0 := cell_keep HW1.out hsl c0
        replace e0 := cell_keep HW1.out hgl' e0
        replace e1 := cell_keep HW1.out hgl' e1
        clear t0 t1
        generalize wr.alloc (.cells #[.int .i64 y1, .int .i64 y2] 185) = w5 at *
        go_still_tail 12, (by kernel_rfl)
        change wpList _ _ _ _ _ w5.drew
        go_wp2_with (go_at_call 144; refine (HPU.out w5.drew HW1.out.drew).mono ?_; rintro e w6 ⟨rfl, hp6⟩; have HP6 := Lib.hid hp6; clear hp6)
        go_roundw
        case rel =>
          obtain ⟨v2, L2, F2, h2⟩ := HSTEP.out w5.drew w6 _ HW1.out.drew ⟨rfl, HP6.out⟩
          exact ⟨k + 1, v2, L2, F2, by omega, by go_num, h2⟩
        case measure => simp [intOf]; omega
      · have HL := Lib.hid (HI.out.st)
        obtain ⟨pv', cv', rfl⟩ := own_shape HL.out.row
        have c0 : wr.cell? ⟨sb, 0, none⟩ = some (.slice pv' L'.length cv') := Lib.cell_of_heap HL.out.box 0
        have HG2 : Hid (Goes l (p1, p2) L' F' (n + 1)) := HI.out.g.next _ HI.out.x fun q hq => by
          obtain ⟨i, hi, rfl⟩ := List.mem_iff_getElem.1 ((HMEM.out q).2 hq)
          exact HI.out.m i hi (by omega)
        by_cases hlast : n + 1 < L'.length
        · have d3 : decide ((n : Int) + 1 < (L'.length : Int)) = true := by simp; omega
          have d4 : decide (n + 1 < L'.length) = true := by simpa using hlast
          go_wp2_with fail
          go_step3
          refine ⟨rfl, ⟨n + 1, _, L', F', _, _, _, _, _, _, _, _, _, _, _, _, _, _, _, _, _, _, _, _, _, _, _, _, _, _, _, _, _, _, _, _, _, _, _, _, _, _, _, _, _, _, _, _, _, _, _, _, rfl, HL.out, HG2.out, hlast, HI.out.b⟩, ?_⟩
          simp [intOf]; omega
        · have d3 : decide ((n : Int) + 1 < (L'.length : Int)) = false := by simp; omega
          have d4 : decide (n + 1 < L'.length) = false := by simpa using hlast
          go_wp2_with fail
          simp only [Exit.jump]
          go_end0
          exact ⟨rfl, _, L', F', HL.out, HG2.out.full (by omega), HI.out.b⟩
  · intro hX
    have HX := Lib.hid hX; clear hX
    go_wp2_with fail
    have HW1 : Hid (Below w.heap.size w (w.alloc (.cells #[.int .i64 p1, .int .i64 p2] 185))) := alloc_old w _
    have b0 : (w.alloc (.cells #[.int .i64 p1, .int .i64 p2] 185)).cell? ⟨w.heap.size, 0, none⟩ = some (.int .i64 p1) := by simp [go_sem]
    have b1 : (w.alloc (.cells #[.int .i64 p1, .int .i64 p2] 185)).cell? ⟨w.heap.size, 1, none⟩ = some (.int .i64 p2) := by simp [go_sem]
    generalize w.alloc (.cells #[.int .i64 p1, .int .i64 p2] 185) = w1 at *
    have HPU := Lib.hid (put_any w0.heap.size sb mb ov (.slice none 0 0) [] (fun _ => none) (p1, p2) (p1, p2) w1.drew (HS.out.keep HW1.out.drew) HPO.out (by simp))
    unfold placeV at HPU
    simp only [] at HPU
    go_still_tail 5, (by kernel_rfl)
    change wpList _ _ _ _ _ w1.drew
    go_wp2_with (go_at_call 144; refine HPU.out.mono ?_; rintro e w2 ⟨rfl, v', hs2, hkb2, hv2⟩)
    go_step3
    rename_i K1 hK1
    show K1 _ _
    refine hK1 _ _ (HX.out _ _ ⟨0, v', [(p1, p2)], updF (fun _ => none) (p1, p2) (p1, p2), _, _, _, _, _, _, _, _, _, _, _, _, _, _, _, _, _, _, _, _, _, _, _, _, _, _, _, _, _, _, _, _, _, _, _, _, _, _, _, _, _, _, _, _, _, _, _, _, rfl, hs2, Goes.start l (p1, p2), by simp, ?_⟩)
    exact (HB.out.trans ((HW1.out.drew).mono HB.out.size)).trans (hkb2.below (by have := HB.out.size; have := HW1.out.size; simp; omega) (fun k hk e => by have h1 := HS.out.sbl; have h2 := HS.out.mbl; rcases e with e | e | e; omega; omega; cases e))
end Go.Proofs.YtboegjdkedjhcaaGreatDoor
namespace Go.Proofs.YtboegjdkedjhcaaGreatDoor
open Go.RowKit Go.Maps
theorem box2 (w : World) (a b : Value) (T : TypeId) {w1 : World} (hB : Below (w.alloc (.cells #[a, b] T)).heap.size (w.alloc (.cells #[a, b] T)) w1) :
    w1.cell? ⟨w.heap.size, 0, none⟩ = some a ∧ w1.cell? ⟨w.heap.size, 1, none⟩ = some b ∧ w1.frozen? ⟨w.heap.size, 0, none⟩ = false ∧ w1.frozen? ⟨w.heap.size, 1, none⟩ = false ∧ w.heap.size < w1.heap.size ∧ Below w.heap.size w w1 := by
  refine ⟨cell_keep hB (by simp) (by simp [go_sem]), cell_keep hB (by simp) (by simp [go_sem]), (hB.frozen (p := ⟨w.heap.size, 0, none⟩) (by simp)).trans (by simp [go_sem]), (hB.frozen (p := ⟨w.heap.size, 1, none⟩) (by simp)).trans (by simp [go_sem]), ?_, (alloc_old w _).trans (hB.mono (by simp))⟩
  have := hB.size; simp at this; omega
/-- the entry's symbol, or why there is none -/
def entryR (l : List GObj) (nm : ByteArray) : PP × ByteArray × Int :=
  if (beginR l).2 ≠ 0 then ((0, 0), (beginR l).1, (beginR l).2) else match findR l (-1) nm.data.toList with | some p => (p, emptyB, 0) | none => ((0, 0), nm, 121)
def EntryPost (l : List GObj) (nm : ByteArray) (w : World) (e : Ending) (w' : World) : Prop :=
  e = .returned (.tuple #[placeV (entryR l nm).1, .string (entryR l nm).2.1, .int .i64 (entryR l nm).2.2]) ∧ Below w.heap.size w w'
theorem findOut {l : List GObj} {n : List UInt8} (hc : (beginR l).2 = 0) : findAll l (-1) n = fndR (findR l (-1) n) := by
  unfold findAll fndR
  rw [hc, if_neg (by simp), if_neg (by omega)]
  cases findR l (-1) n <;> rfl
set_option maxHeartbeats 2000000 in
theorem entry_any (v : Value) (l : List GObj) (nm : ByteArray) (w : World) (h : ObjsAt w v l) (hn : nm.size ≤ 9223372036854775807) :
    Calls Tryz.prog 108 #[.string nm, v] w (EntryPost l nm w) := by
  have HO := Lib.hid h
  have HCK := Lib.hid (resCheck_any v l (w.alloc (.cells #[.int .i64 0, .int .i64 0] 185)) (ObjsAt.keep (alloc_old w _) h))
  obtain ⟨p, cap, bb, o, rfl, -⟩ := h
  by_cases hc : (beginR l).2 = 0
  · have HE : Hid (entryR l nm = match findR l (-1) nm.data.toList with | some p => (p, emptyB, 0) | none => ((0, 0), nm, 121)) := by
      unfold entryR; rw [if_neg (by simpa using hc)]; rfl
    have HFA := Lib.hid (findOut (n := nm.data.toList) hc)
    rw [hc] at HCK
    clear hc
    generalize (beginR l).1 = bn at HCK
    generalize hf : findR l (-1) nm.data.toList = fp at HE HFA
    clear hf
    obtain ⟨pa, pb, c, hfp⟩ : ∃ (pa pb : Nat) (c : Int), fndR fp = ((pa, pb), c) := ⟨_, _, _, rfl⟩
    have HFP := Lib.hid hfp; clear hfp
    have HF : Hid (∀ W, Below w.heap.size w W → Calls Tryz.prog 114 #[.slice p l.length cap, .int .i64 (-1), .string nm] W fun e w' => e = .returned (.tuple #[.agg #[.int .i64 pa, .int .i64 pb], .int .i64 c]) ∧ Below W.heap.size W w') := fun W hW => by
      have := resFind_any (.slice p l.length cap) l (-1) nm W (ObjsAt.keep hW HO.out) hn
      rw [HFA.out, HFP.out] at this
      exact this
    go_enter Tryz.func108, Tryz.ntmps108
    go_wp2_with fail
    refine HCK.out.mono ?_
    rintro e w1 ⟨rfl, hB⟩
    obtain ⟨q0, q1, r0, r1, hz, hb1⟩ := box2 w _ _ _ hB
    have HB1 := Lib.hid hb1; clear hb1
    clear hB HCK
    go_wp2_with fail
    refine (HF.out w1 HB1.out).mono ?_
    rintro e w2 ⟨rfl, hB2⟩
    replace q0 := cell_keep hB2 hz q0
    replace q1 := cell_keep hB2 hz q1
    replace r0 := (hB2.frozen (p := ⟨w.heap.size, 0, none⟩) hz).trans r0
    replace r1 := (hB2.frozen (p := ⟨w.heap.size, 1, none⟩) hz).trans r1
    have hz2 : w.heap.size < w2.heap.size := by have := hB2.size; omega
    have HB2 : Hid (Below w.heap.size w w2) := HB1.out.trans (hB2.mono HB1.out.size)
    clear hB2 HB1 hz
    by_cases hc0 : c = 0
    · subst hc0
      have HE2 : Hid (entryR l nm = ((pa, pb), emptyB, 0)) := by
        have h1 := HE.out; have h2 := HFP.out
        cases fp with
        | none => simp [fndR] at h2
        | some pq => simp only [fndR, Prod.mk.injEq, and_true] at h2; rw [h1, ← h2]; rfl
      go_wp2_with fail
      refine bodyPost_ret (v := .tuple #[.agg #[.int .i64 pa, .int .i64 pb], .string ⟨#[]⟩, .int .i64 0]) (by simp [results, Tryz.results108, go_sem, q0, q1, hz2]) rfl ⟨by rw [HE2.out]; rfl, ?_⟩
      exact ((HB2.out.setCell (by simp) _).setCell (by simp) _).alloc (by simp; omega) _
    · have hcb : (c != 0) = true := by simpa using hc0
      have HE2 : Hid (entryR l nm = ((pa, pb), nm, c)) := by
        have h1 := HE.out; have h2 := HFP.out
        cases fp with
        | none => simp only [fndR, Prod.mk.injEq] at h2; rw [h1, ← h2.1.1, ← h2.1.2, ← h2.2]; rfl
        | some pq => simp only [fndR, Prod.mk.injEq] at h2; exact absurd h2.2.symm hc0
      clear hc0
      go_wp2_with fail
      refine bodyPost_ret (v := .tuple #[.agg #[.int .i64 pa, .int .i64 pb], .string nm, .int .i64 c]) (by simp [results, Tryz.results108, go_sem, q0, q1, hz2]) rfl ⟨by rw [HE2.out]; rfl, ?_⟩
      exact ((HB2.out.setCell (by simp) _).setCell (by simp) _).alloc (by simp; omega) _
  · have HE : Hid (entryR l nm = ((0, 0), (beginR l).1, (beginR l).2)) := by unfold entryR; rw [if_pos hc]; rfl
    have hcb : ((beginR l).2 != 0) = true := by simpa using hc
    clear hc
    generalize (beginR l).1 = bn at *
    generalize (beginR l).2 = bc at *
    go_enter Tryz.func108, Tryz.ntmps108
    go_wp2_with fail
    refine HCK.out.mono ?_
    rintro e w1 ⟨rfl, hB⟩
    obtain ⟨q0, q1, r0, r1, hz, hb1⟩ := box2 w _ _ _ hB
    go_wp2_with fail
    refine bodyPost_ret (v := .tuple #[.agg #[.int .i64 0, .int .i64 0], .string bn, .int .i64 bc]) (by simp [results, Tryz.results108, go_sem, q0, q1]) rfl ⟨by rw [HE.out]; rfl, ?_⟩
    exact (hb1.setCell (by simp) _).setCell (by simp) _
end Go.Proofs.YtboegjdkedjhcaaGreatDoor
namespace Go.Proofs.YtboegjdkedjhcaaGreatDoor
open Go.RowKit Go.Maps
def refsC (l : List GObj) (x : PP) : Int := (refsV (beginR l) l x.1 x.2).2.2
end Go.Proofs.YtboegjdkedjhcaaGreatDoor
namespace Go.Proofs.YtboegjdkedjhcaaGreatDoor
open Go.RowKit Go.Maps
def allK (l : List GObj) : List PP := selPlaces (flat l) (flat l)
end Go.Proofs.YtboegjdkedjhcaaGreatDoor
namespace Go.Proofs.YtboegjdkedjhcaaGreatDoor
open Go.RowKit Go.Maps
theorem plt_tri (a b : PP) : plt a b ∨ a = b ∨ plt b a := by
  obtain ⟨a1, a2⟩ := a
  obtain ⟨b1, b2⟩ := b
  unfold plt
  simp only [Prod.mk.injEq]
  omega
theorem keptOf_sorted {l : List GObj} {p : PP} {L K : List PP} {F : PP → Option PP} (g : Goes l p L F L.length) (hp : K.Perm L) (hs : K.Pairwise (fun a b => ¬ plt b a)) : KeptOf l p K := by
  have hn : K.Nodup := hp.nodup_iff.2 g.nd
  refine ⟨?_, fun x => by rw [hp.mem_iff]; exact g.done (Nat.le_refl _) x⟩
  have := hs.and hn
  refine this.imp fun {a b} ⟨h1, h2⟩ => ?_
  rcases plt_tri a b with h | h | h
  · exact h
  · exact absurd h h2
  · exact absurd h h1
def KeptYes (l : List GObj) (nm : ByteArray) (p : PP) (K : List PP) : Prop := (beginR l).2 = 0 ∧ findR l (-1) nm.data.toList = some p ∧ KeptOf l p K ∧ ∀ x ∈ K, refsC l x = 0
end Go.Proofs.YtboegjdkedjhcaaGreatDoor
namespace Go.Proofs.YtboegjdkedjhcaaGreatDoor
theorem findR_all {l : List GObj} {i : Int} {n : List UInt8} {q : PP} (h : findR l i n = some q) : q ∈ selPlaces (flat l) (flat l) := by
  obtain ⟨x, hx, rfl, hn, hb⟩ := findR_spot h
  unfold selPlaces
  refine List.mem_map.2 ⟨x, List.mem_filter.2 ⟨hx, ?_⟩, rfl⟩
  unfold selB
  rcases hb with ⟨h1, -⟩ | h1
  · simp [h1]
  · rw [hn]; simp [h1]
theorem reach_all {l : List GObj} {i : Int} {n : List UInt8} {p x : PP} (hp : findR l i n = some p) (h : Reach l p x) : x ∈ selPlaces (flat l) (flat l) := by
  cases h with
  | refl => exact findR_all hp
  | step _ k => obtain ⟨_, _, hf⟩ := k; exact findR_all hf
end Go.Proofs.YtboegjdkedjhcaaGreatDoor
namespace Go.Proofs.YtboegjdkedjhcaaGreatDoor
open Go.RowKit Go.Maps
/-- the first of places whose names are none, and why; none: no error -/
def toldR (l : List GObj) : List PP → ByteArray × Int
  | [] => (emptyB, 0)
  | x :: r => if (refsV (beginR l) l x.1 x.2).2.2 = 0 then toldR l r else ((refsV (beginR l) l x.1 x.2).2.1, (refsV (beginR l) l x.1 x.2).2.2)
theorem toldR_step {l : List GObj} {ks : List PP} {k : Nat} (h : k < ks.length) : toldR l (ks.drop k) = if (refsV (beginR l) l ks[k].1 ks[k].2).2.2 = 0 then toldR l (ks.drop (k + 1)) else ((refsV (beginR l) l ks[k].1 ks[k].2).2.1, (refsV (beginR l) l ks[k].1 ks[k].2).2.2) := by
  rw [List.drop_eq_getElem_cons h, toldR]
theorem toldR_all {l : List GObj} : ∀ {ks : List PP} {n : ByteArray}, toldR l ks = (n, 0) → ∀ x ∈ ks, refsC l x = 0
  | [], _, _, x, hx => by cases hx
  | y :: r, n, h, x, hx => by
    rw [toldR] at h
    split at h
    · rename_i h0
      rcases List.mem_cons.1 hx with rfl | hx
      · exact h0
      · exact toldR_all h x hx
    · rename_i h0
      simp only [Prod.mk.injEq] at h
      exact absurd h.2 h0
def Told18Post (l : List GObj) (pv : Value) (ks : List PP) (w : World) (e : Ending) (w' : World) : Prop :=
  (if (toldR l ks).2 = 0 then e = .returned (.tuple #[pv, .string ⟨#[]⟩, .int .i64 0]) else e = .returned (.tuple #[.slice none 0 0, .string (toldR l ks).1, .int .i64 (toldR l ks).2])) ∧ Below w.heap.size w w'
/-- why nothing is kept -/
def KeptErr (l : List GObj) (nm n : ByteArray) (c : Int) : Prop :=
  ((entryR l nm).2.2 ≠ 0 ∧ n = (entryR l nm).2.1 ∧ c = (entryR l nm).2.2) ∨ ((entryR l nm).2.2 = 0 ∧ ∃ p K, findR l (-1) nm.data.toList = some p ∧ KeptOf l p K ∧ toldR l K = (n, c))
def Kept18Post (l : List GObj) (nm : ByteArray) (w : World) (e : Ending) (w' : World) : Prop :=
  ((∃ p K vo, KeptYes l nm p K ∧ RowAt 2 PlaceR w' vo K ∧ e = .returned (.tuple #[vo, .string ⟨#[]⟩, .int .i64 0])) ∨ (∃ n c, c ≠ 0 ∧ e = .returned (.tuple #[.slice none 0 0, .string n, .int .i64 c]) ∧ KeptErr l nm n c)) ∧ Below w.heap.size w w'
set_option maxRecDepth 100000 in
set_option maxHeartbeats 2000000 in
theorem told18_any (v pv : Value) (l : List GObj) (ks : List PP) (w : World) (h : ObjsAt w v l) (hk : RowAt 2 PlaceR w pv ks) :
    Calls Tryz.prog 113 #[v, pv] w (Told18Post l pv ks w) := by
  have HO := Lib.hid h
  obtain ⟨p, cap, bb, o, rfl, -⟩ := h
  obtain ⟨pk, ck, bk, ok, rfl, hck, hmk, hpk, hrk⟩ := hk
  have HPK := Lib.hid hpk; clear hpk
  have HRK := Lib.hid hrk; clear hrk
  go_enter Tryz.func113, Tryz.ntmps113
  go_wp2
  go_loopw [14] (fun v14 wr => ∃ k : Nat, k ≤ ks.length ∧ v14 = .int .i64 k ∧ toldR l (ks.drop k) = toldR l ks ∧ Below w.heap.size w wr) (fun v14 _ => ks.length - (intOf v14).toNat)
  case atStart => exact ⟨0, Nat.zero_le _, rfl, rfl, Below.refl _ _⟩
  case round =>
    obtain ⟨k, hk, rfl, hall, hbel⟩ := hrel
    have HA := Lib.hid hall; clear hall
    have HB := Lib.hid hbel; clear hbel
    by_cases hlt : k < ks.length
    · obtain rfl := HPK.out (by omega)
      obtain ⟨-, y0, y1⟩ := placeR_keeps _ _ _ _ _ HB.out (HRK.out k hlt)
      have HRF := Lib.hid (fun (W : World) (hW : Below wr.heap.size wr W) => refs_any (.slice p l.length cap) l ks[k].1 ks[k].2 W (ObjsAt.keep (HB.out.trans (hW.mono HB.out.size)) HO.out))
      have HC : Hid (toldR l (ks.drop k) = if (refsV (beginR l) l ks[k].1 ks[k].2).2.2 = 0 then toldR l (ks.drop (k + 1)) else ((refsV (beginR l) l ks[k].1 ks[k].2).2.1, (refsV (beginR l) l ks[k].1 ks[k].2).2.2)) := toldR_step hlt
      generalize (refsV (beginR l) l ks[k].1 ks[k].2).2.2 = c at HRF HC
      generalize (refsV (beginR l) l ks[k].1 ks[k].2).2.1 = bn at HRF HC
      generalize (refsV (beginR l) l ks[k].1 ks[k].2).1 = qs at HRF
      generalize ks[k] = y at *
      obtain ⟨y1', y2'⟩ := y
      simp only [] at y0 y1 HRF
      have d2 : (0 : Int) ≤ (k : Int) := by omega
      go_wp2_with fail
      refine (HRF.out _ ?_).mono ?_
      · exact alloc_old _ _
      rintro e w1 ⟨vo, rfl, -, hB1⟩
      have HB1 : Hid (Below w.heap.size w w1) := HB.out.trans (((alloc_old wr _).trans (hB1.mono (by simp))).mono HB.out.size)
      clear hB1
      by_cases hc0 : c = 0
      · subst hc0
        go_wp2
        go_roundw
        case rel => exact ⟨k + 1, by omega, by go_num, by rw [← HA.out, HC.out]; simp, HB1.out⟩
        case measure => simp [intOf]; omega
      · have hcb : (c != 0) = true := by simpa using hc0
        have HC0 := Lib.hid hc0; clear hc0
        go_wp2
        go_ret3
        have HE : Hid (toldR l ks = (bn, c)) := by rw [Hid, ← HA.out, HC.out, if_neg HC0.out]
        refine ⟨?_, HB1.out⟩
        rw [HE.out, if_neg HC0.out]
        rfl
    · go_wp2
      go_ret3
      have HE : Hid (toldR l ks = (emptyB, 0)) := by rw [Hid, ← HA.out, List.drop_of_length_le (by omega)]; rfl
      refine ⟨?_, HB.out⟩
      rw [HE.out, if_pos rfl]
      rfl
set_option maxRecDepth 100000 in
set_option maxHeartbeats 4000000 in
theorem kept18_any (hsort : SortOk) (v : Value) (l : List GObj) (nm : ByteArray) (w : World) (h : ObjsAt w v l) (hn : nm.size ≤ 9223372036854775807) :
    Calls Tryz.prog 69 #[.string nm, v] w (Kept18Post l nm w) := by
  have HSORT := Lib.hid hsort; clear hsort
  have HO := Lib.hid h
  have HE := Lib.hid (entry_any v l nm w h hn)
  obtain ⟨p, cap, bb, o, rfl, -⟩ := h
  unfold EntryPost placeV at HE
  obtain ⟨⟨pa, pb⟩, bn, c, her⟩ : ∃ (pq : PP) (bn : ByteArray) (c : Int), entryR l nm = (pq, bn, c) := ⟨_, _, _, rfl⟩
  rw [her] at HE
  simp only [] at HE
  have HER := Lib.hid her; clear her
  by_cases hc0 : c = 0
  · subst hc0
    obtain ⟨hb0, hf⟩ : (beginR l).2 = 0 ∧ findR l (-1) nm.data.toList = some (pa, pb) := by
      have h1 := HER.out
      unfold entryR at h1
      by_cases hb : (beginR l).2 ≠ 0
      · rw [if_pos hb] at h1; simp only [Prod.mk.injEq] at h1; exact absurd h1.2.2 hb
      · rw [if_neg hb] at h1
        refine ⟨by simpa using hb, ?_⟩
        cases hf : findR l (-1) nm.data.toList with
        | none => rw [hf] at h1; simp at h1
        | some q => rw [hf] at h1; simp only [Prod.mk.injEq] at h1; rw [h1.1]
    have HV := Lib.hid (findR_valid hf)
    have HB0 := Lib.hid hb0; clear hb0
    have HF := Lib.hid hf; clear hf
    go_enter Tryz.func69, Tryz.ntmps69
    go_wp2_with fail
    refine HE.out.mono ?_
    rintro e w1 ⟨rfl, hB⟩
    have HB1 := Lib.hid hB; clear hB
    clear HE
    go_wp2_with fail
    refine (rbegin_any _ _ _ _).mono ?_
    rintro e w3 ⟨⟨sb, mb, rfl, hs3⟩, hB3⟩
    obtain ⟨q0, q1, -, -, hz, -⟩ := box2 w1 _ _ _ hB3
    have HGO := Lib.hid (goes_any HSORT.out sb mb (.slice p l.length cap) l (pa, pb) _ w3 hs3 hB3 (ObjsAt.keep (HB1.out.alloc HB1.out.size _) HO.out) HB0.out HV.out)
    unfold placeV at HGO
    simp only [] at HGO
    have HB2 : Hid (Below w.heap.size w (w1.alloc (.cells #[.int .i64 pa, .int .i64 pb] 185))) := HB1.out.alloc HB1.out.size _
    clear hs3 hB3
    generalize w1.alloc (.cells #[.int .i64 pa, .int .i64 pb] 185) = w2 at HGO HB2
    go_wp2_with fail
    refine HGO.out.mono ?_
    rintro e w4 ⟨rfl, v4, L, F, hs4, hg4, hb4⟩
    clear q0 q1 HGO
    obtain ⟨pv, cv, rfl⟩ := own_shape hs4.row
    have c0 : w4.cell? ⟨sb, 0, none⟩ = some (.slice pv L.length cv) := Lib.cell_of_heap hs4.box 0
    have hL := hg4.len HV.out HB0.out
    have HSC := Lib.hid (HSORT.out _ _ L w4 hs4.row (by omega))
    have HS4 := Lib.hid hs4; clear hs4
    have HG4 := Lib.hid hg4; clear hg4
    have HB4 : Hid (Below w.heap.size w w4) := HB2.out.trans (hb4.mono HB2.out.size)
    have hb24 : w.heap.size ≤ w2.heap.size := HB2.out.size
    clear hb4
    go_wp2_with fail
    refine HSC.out.mono ?_
    rintro e w5 ⟨rfl, K, hperm, hsort, hrow, hkb⟩
    have c1 : w5.cell? ⟨sb, 0, none⟩ = some (.slice pv L.length cv) := hkb.cell HS4.out.lt (fun e => HS4.out.nev e) c0
    clear c0
    have hlen := hperm.length_eq
    have HK : Hid (KeptOf l (pa, pb) K) := Lib.hid (keptOf_sorted HG4.out hperm hsort)
    have HR := Lib.hid (PRow.row hrow (by omega))
    have HB5 : Hid (Below w.heap.size w w5) := HB4.out.trans (hkb.below HB4.out.size (fun k hk e => by have := (HS4.out.row.lt k e).1; omega))
    clear hperm hsort hrow hkb HSC
    have HT := Lib.hid (told18_any (.slice p l.length cap) (.slice pv L.length cv) l K w5 (ObjsAt.keep HB5.out HO.out) HR.out)
    go_wp2_with fail
    refine HT.out.mono ?_
    rintro e w6 ⟨hcase, hB6⟩
    have HB6 : Hid (Below w.heap.size w w6) := HB5.out.trans (hB6.mono HB5.out.size)
    have HR6 := Lib.hid (HR.out.keep placeR_keeps hB6)
    clear hB6
    generalize htr : toldR l K = tr at hcase
    obtain ⟨n, c⟩ := tr
    simp only [] at hcase
    have HTR := Lib.hid htr; clear htr
    by_cases hc : c = 0
    · subst hc
      rw [if_pos rfl] at hcase
      subst hcase
      have HALL := Lib.hid (toldR_all HTR.out)
      go_wp2
      go_ret3
      exact ⟨.inl ⟨_, K, _, ⟨HB0.out, HF.out, HK.out, HALL.out⟩, HR6.out, rfl⟩, HB6.out⟩
    · rw [if_neg hc] at hcase
      subst hcase
      have hcn : (c != 0) = true := by simpa using hc
      have HC := Lib.hid hc; clear hc
      go_wp2
      go_ret3
      exact ⟨.inr ⟨n, c, HC.out, rfl, .inr ⟨by rw [HER.out], _, K, HF.out, HK.out, HTR.out⟩⟩, HB6.out⟩
  · have hcb : (c != 0) = true := by simpa using hc0
    have HC0 := Lib.hid hc0; clear hc0
    go_enter Tryz.func69, Tryz.ntmps69
    go_wp2_with fail
    refine HE.out.mono ?_
    rintro e w1 ⟨rfl, hB⟩
    have HB1 := Lib.hid hB; clear hB
    go_wp2
    go_ret3
    exact ⟨.inr ⟨bn, c, HC0.out, rfl, .inl ⟨by rw [HER.out]; exact HC0.out, by rw [HER.out], by rw [HER.out]⟩⟩, HB1.out.alloc HB1.out.size _⟩
end Go.Proofs.YtboegjdkedjhcaaGreatDoor
namespace Go.Proofs.YtboegjdkedjhcaaGreatDoor
open Go.RowKit Go.Maps Go.WideMaps
def CopyAllPost (w : World) (l : List GObj) (e : Ending) (w' : World) : Prop := ∃ (v : Value) (us : List CT), e = .returned v ∧ us.map (·.o) = l ∧ AllSep w.heap.size w' v us ∧ Below w.heap.size w w'
theorem two_cells {w : World} {g : Nat} {a b : Value} (h0 : w.cell? ⟨g, 0, none⟩ = some a) (h1 : w.cell? ⟨g, 1, none⟩ = some b) : ∀ j u, [a, b][j]? = some u → w.cell? ((⟨g, 0, none⟩ : Addr).add j) = some u := by
  intro j u hu
  rw [add_at, Nat.zero_add]
  match j, hu with
  | 0, hu => cases hu; exact h0
  | 1, hu => cases hu; exact h1
theorem two_single {s : ByteArray} {p : Option Addr} {n c : Nat} : ∀ u ∈ [Value.string s, .slice p n c], u.oneCell' = true := by
  intro u hu
  simp only [List.mem_cons, List.not_mem_nil, or_false] at hu
  rcases hu with rfl | rfl <;> rfl
set_option maxRecDepth 100000 in
set_option maxHeartbeats 2000000 in
theorem copyAll_any (v : Value) (l : List GObj) (w : World) (h : ObjsAt w v l) (hbd : ObjsBd l) :
    Calls Tryz.prog 29 #[v] w (CopyAllPost w l) := by
  obtain ⟨p, cap, b, o, rfl, hcap, hmax, hp, hc⟩ := h
  obtain ⟨hb1, hb2⟩ := hbd
  have HP := Lib.hid hp; clear hp
  have HC := Lib.hid hc; clear hc
  have HBD := Lib.hid hb2; clear hb2
  obtain ⟨iS, s0, s1, s2, s3⟩ := info_parts info_obj
  have HS := Lib.hid (And.intro s0 (And.intro s1 (And.intro s2 s3)))
  clear s0 s1 s2 s3
  go_enter Tryz.func29, Tryz.ntmps29
  go_wp2
  go_loopw [3, 4] (fun v3 v4 wr => ∃ (i : Nat) (us : List CT), i ≤ l.length ∧ v4 = .int .i64 i ∧ us.length = i ∧ us.map (·.o) = l.take i ∧ AllSep w.heap.size wr v3 us ∧ Below w.heap.size w wr) (fun _ v4 _ => l.length - (intOf v4).toNat)
  case atStart => exact ⟨0, [], Nat.zero_le _, rfl, rfl, rfl, ⟨World.ownsRow_nil _ _ _ _, fun u hu => (by cases hu), List.Pairwise.nil⟩, Below.refl _ _⟩
  case round =>
    obtain ⟨i, us, hi, rfl, hul, hum, hsep, hbel⟩ := hrel
    have HUL := Lib.hid hul; clear hul
    have HUM := Lib.hid hum; clear hum
    have HSEP := Lib.hid hsep; clear hsep
    have HB := Lib.hid hbel; clear hbel
    by_cases hlt : i < l.length
    · obtain rfl := HP.out (by omega)
      obtain ⟨vs, g0, g1, g2, hin⟩ := objR_keeps _ _ _ _ _ HB.out (HC.out i hlt)
      have hob := HBD.out _ (List.getElem_mem hlt)
      generalize hx : l[i] = x at g1 g2 hin hob
      have HX := Lib.hid hx; clear hx
      have HCON := Lib.hid (copy_any x vs wr hin hob)
      obtain ⟨⟨pS, capS, bS, oS, rfl, -⟩, -⟩ := hin
      obtain ⟨xn, xs⟩ := x
      simp only [] at g1 g2 HCON
      go_wp2_with fail
      refine HCON.out.mono ?_
      intro e w1 hpost
      obtain ⟨vs1, rfl, hos, ⟨ps, cs, rfl⟩, hbw⟩ := hpost.sep
      clear hpost
      simp only [] at hos ⊢
      have HOS := Lib.hid hos; clear hos
      have HBW := Lib.hid hbw; clear hbw
      have hsz := HBW.out.size
      have hsz0 := HB.out.size
      go_wp2_with (at_builtin; refine wpList_append_own_at _ rfl _ _ 22 rfl w.heap.size 50 iS _ 2 40 Tryz.underlying22 HS.out.1 HS.out.2.1 HS.out.2.2.1 HS.out.2.2.2 rfl (by decide) _ us.length (us.flatMap objCells) rfl ?c0 _ 1 1 [.string xn, .slice ps xs.length cs] rfl rfl ?c1 two_single ?c3 ?c4 ?c5 ?_)
      case c0 => exact ownsRow_below (HBW.out.alloc hsz _) HSEP.out.1
      case c1 => exact two_cells (by simp [go_sem]) (by simp [go_sem])
      case c3 => have := HUL.out; unfold maxLen; omega
      case c4 => have := HUL.out; omega
      case c5 => simp; omega
      intro v' w' hown3 hgrow3 _ hblk
      have HSEP2 := Lib.hid (AllSep.snoc HSEP.out HBW.out HOS.out hsz0 hown3 hgrow3 (by simpa using hblk))
      have HB4 : Hid (Below w.heap.size w w') := ((HB.out.trans (HBW.out.mono hsz0)).alloc (by omega) _).grown hgrow3 (by simp; omega) (fun q e => (World.ownsRow.lt HSEP.out.1 q e).1)
      clear hown3 hgrow3 hblk
      go_wp2
      go_roundw
      case rel => exact ⟨i + 1, _, by omega, by go_num, by simp [HUL.out], by rw [List.map_append, HUM.out, List.take_succ_eq_append_getElem hlt, HX.out]; rfl, HSEP2.out, HB4.out⟩
      case measure => simp [intOf]; omega
    · have hie : i = l.length := by omega
      have hum := HUM.out
      rw [hie, List.take_length] at hum
      have HUM2 := Lib.hid hum; clear hum hie
      go_wp2
      go_ret
      exact ⟨_, us, rfl, HUM2.out, HSEP.out, HB.out⟩
end Go.Proofs.YtboegjdkedjhcaaGreatDoor
