/- Rows of objects of one's own; the walk of archive.members. The walk of the archive's scope.put: an object behind the others, and the names that it defines. The walk of archive.Index: the names that members define, in some. -/
import Derived.Test.YtboegjdkedjhcaaGreatDoorBs27
import Derived.Test.YtboegjdkedjhcaaGreatDoorBs17
import Derived.Test.YtboegjdkedjhcaaGreatDoorBs14
import Derived.Test.YtboegjdkedjhcaaGreatDoorBs11
import Derived.Deep.RegionHeld3
import Derived.Deep.DeepCutAuto
import Derived.BigQuiet
import Derived.StillTailTactics
import Derived.Outline
import Derived.Lib.Builder
import Derived.Handy
import Derived.Test.YtboegjdkedjhcaaGreatDoorEqLay
import Derived.Lib.Hide
import Derived.Test.YtboegjdkedjhcaaGreatDoorBs07
import Derived.Test.YtboegjdkedjhcaaGreatDoorBs04
import Derived.Test.YtboegjdkedjhcaaGreatDoorRows
import Derived.Lib.AppendStr
import Derived.Lib.UnsafeStr
import Derived.Laws.Externs
import Derived.RegionTactic
import Derived.OwnWalk
namespace Go.Proofs.YtboegjdkedjhcaaGreatDoor
set_option maxRecDepth 100000
section
open Go.RowKit Go.Maps
def ArcR (w : World) (b o : Nat) (x : GArc) : Prop := ∃ vs, b < w.heap.size ∧ w.cell? ⟨b, o, none⟩ = some (.string x.name) ∧ w.cell? ⟨b, o + 1, none⟩ = some vs ∧ ArcIn w x vs
theorem arcR_keeps : Keeps ArcR := fun _ _ _ _ _ hb ⟨vs, h0, h1, h2, r⟩ => ⟨vs, size_keep hb h0, cell_keep hb h0 h1, cell_keep hb h0 h2, ArcIn.keep hb r⟩
def ArcsAt (w : World) (v : Value) (l : List GArc) : Prop := RowAt 2 ArcR w v l
theorem ArcsAt.keep {w w' : World} {v : Value} {l : List GArc} (hb : Below w.heap.size w w') (h : ArcsAt w v l) : ArcsAt w' v l := RowAt.keep arcR_keeps hb h
def memsA (x : GArc) : List GObj := if arcOk x = true then x.members else []
def memsOf (l : List GArc) : List GObj := l.flatMap memsA
theorem memsOf_snoc {l : List GArc} {k : Nat} {x : GArc} (h : k < l.length) (hx : l[k] = x) : memsOf (l.take (k + 1)) = memsOf (l.take k) ++ memsA x := by
 rw [List.take_succ_eq_append_getElem h, hx, memsOf, List.flatMap_append]; simp [memsOf]
theorem memsOf_take (l : List GArc) (k : Nat) : (memsOf (l.take k)).length ≤ (memsOf l).length := by
 have e : memsOf l = memsOf (l.take k) ++ memsOf (l.drop k) := by unfold memsOf; rw [← List.flatMap_append, List.take_append_drop]
 rw [e, List.length_append]; omega
structure OwnObsB (B : Nat) (w0 w : World) (v : Value) (ts : List (GObj × Value)) : Prop where
 row : w.ownsRow B 50 2 v ts.length (ts.flatMap obCells)
 mem : ∀ t ∈ ts, ObjIn w0 t.1 t.2
abbrev OwnObs (w0 w : World) (v : Value) (ts : List (GObj × Value)) : Prop := OwnObsB w0.heap.size w0 w v ts
theorem OwnObsB.nil (B : Nat) (w0 w : World) : OwnObsB B w0 w (.slice none 0 0) [] := ⟨World.ownsRow_nil _ _ _ _, fun t ht => by cases ht⟩
theorem OwnObs.nil (w0 w : World) : OwnObs w0 w (.slice none 0 0) [] := OwnObsB.nil _ _ _
theorem OwnObsB.mono {B B' : Nat} {w0 w : World} {v : Value} {ts : List (GObj × Value)} (h : OwnObsB B w0 w v ts) (hb : B' ≤ B) : OwnObsB B' w0 w v ts := ⟨owns_mono h.row hb, h.mem⟩
theorem OwnObsB.congr {B : Nat} {w0 w w' : World} {v : Value} {ts : List (GObj × Value)} (h : OwnObsB B w0 w v ts) (hk : ∀ g, v.ownBlock = some g → w'.heap[g]? = w.heap[g]?) : OwnObsB B w0 w' v ts := ⟨own_congr h.row hk, h.mem⟩
theorem OwnObsB.keep {B : Nat} {w0 w w' : World} {v : Value} {ts : List (GObj × Value)} (h : OwnObsB B w0 w v ts) (hb : Below w.heap.size w w') : OwnObsB B w0 w' v ts := h.congr fun g hg => hb.block g (h.row.lt g hg).2
theorem OwnObsB.objs {B : Nat} {w0 w : World} {v : Value} {ts : List (GObj × Value)} (h : OwnObsB B w0 w v ts) (hb : Below w0.heap.size w0 w) (hl : ts.length ≤ 140737488355328) : ObjsAt w v (ts.map (·.1)) := by
 have h5 : RowAt 2 (fun w b o (u : GObj × Value) => ObjR w b o u.1) w v ts := owned_row obCells_len h.row hl fun g o' i hi hg hcell =>
  ⟨ts[i].2, hg, hcell 0 _ (by omega) rfl, hcell 1 _ (by omega) rfl, (h.mem _ (List.getElem_mem hi)).keep hb⟩
 obtain ⟨p, cap, b, o, rfl, q2, q3, q4, q5⟩ := h5; exact ⟨p, cap, b, o, by simp, by simpa using q2, by simpa using q3, by simpa using q4, fun i hi => by simpa using q5 i (by simpa using hi)⟩
theorem ObjIn.form {w : World} {x : GObj} {v : Value} (h : ObjIn w x v) : ∃ p c, v = .slice p x.syms.length c := by
 obtain ⟨⟨p, c, _, _, h1, _⟩, _⟩ := h; exact ⟨p, c, h1⟩
theorem obs_one {w : World} {ts : List (GObj × Value)} (h : ∀ t ∈ ts, ObjIn w t.1 t.2) : ∀ u ∈ ts.flatMap obCells, u.oneCell' = true := by
 intro u hu; obtain ⟨t, ht, hu⟩ := List.mem_flatMap.1 hu; obtain ⟨p, c, e⟩ := (h t ht).form; simp only [obCells, List.mem_cons, List.not_mem_nil, or_false] at hu; rcases hu with rfl | rfl
 ·rfl
 ·rw [e]; rfl
theorem objs_pairs {w : World} {v : Value} {l : List GObj} (h : ObjsAt w v l) : ∃ (p : Option Addr) (cap b o : Nat) (ts : List (GObj × Value)), v = .slice p l.length cap ∧ ts.map (·.1) = l ∧ l.length ≤ cap ∧ (0 < l.length → p = some ⟨b, o, none⟩) ∧ (∀ t ∈ ts, ObjIn w t.1 t.2) ∧
 ∀ j u, (ts.flatMap obCells)[j]? = some u → w.cell? ((⟨b, o, none⟩ : Addr).add j) = some u := by
 obtain ⟨p, cap, b, o, rfl, h1, -, h2, h3⟩ := h
 have hg : ∃ g : Nat → Value, ∀ i (hi : i < l.length), w.cell? ⟨b, o + i * 2, none⟩ = some (.string l[i].name) ∧ w.cell? ⟨b, o + i * 2 + 1, none⟩ = some (g i) ∧ ObjIn w l[i] (g i) := by
  refine ⟨fun i => if hi : i < l.length then Classical.choose (h3 i hi) else .slice none 0 0, fun i hi => ?_⟩
  simp only [hi, dif_pos]; obtain ⟨-, k1, k2, k3⟩ := Classical.choose_spec (h3 i hi); exact ⟨k1, k2, k3⟩
 obtain ⟨g, hg⟩ := hg; have hlen : (l.zipIdx.map fun q => (q.1, g q.2)).length = l.length := by simp
 have hget : ∀ i (hi : i < l.length), (l.zipIdx.map fun q => (q.1, g q.2))[i]'(by simpa using hi) = (l[i], g i) := fun i hi => by simp
 refine ⟨p, cap, b, o, l.zipIdx.map fun q => (q.1, g q.2), rfl, ?_, h1, h2, ?_, ?_⟩
 ·apply List.ext_getElem
  ·simp
  ·intro i h1 h2; simp
 ·intro t ht; obtain ⟨i, hi, rfl⟩ := List.mem_iff_getElem.1 ht; rw [hget i (by simpa using hi)]
  exact (hg i (by simpa using hi)).2.2
 ·refine row_news obCells_len (by omega) fun i hi j u hu => ?_
  have hi' : i < l.length := by simpa using hi
  rw [hget i hi'] at hu; obtain ⟨k1, k2, -⟩ := hg i hi'
  match j, hu with
  | 0, hu => simp only [obCells] at hu; cases hu; exact k1
  | 1, hu => simp only [obCells] at hu; cases hu; exact k2
theorem OwnObsB.more {B : Nat} {w0 w w' : World} {v v' : Value} {ts us : List (GObj × Value)} (h : OwnObsB B w0 w v ts) (hu : ∀ t ∈ us, ObjIn w0 t.1 t.2) (hown : w'.ownsRow B 50 2 v' (ts.length + us.length) (ts.flatMap obCells ++ us.flatMap obCells)) :
 OwnObsB B w0 w' v' (ts ++ us) := by
 refine ⟨by rw [List.length_append, List.flatMap_append]; exact hown, fun t ht => ?_⟩
 rcases List.mem_append.1 ht with h1 | h1
 ·exact h.mem t h1
 ·exact hu t h1
set_option maxHeartbeats 2000000 in
theorem members_any (w0 : World) (v : Value) (l : List GArc) (w : World) (h : ArcsAt w0 v l) (hb0 : Below w0.heap.size w0 w) (hsm : (memsOf l).length ≤ 100000) :
 Calls Tryz.prog 63 #[v] w fun e w' => ∃ vo ts, e = .returned vo ∧ OwnObsB w.heap.size w0 w' vo ts ∧ ts.map (·.1) = memsOf l ∧ Below w.heap.size w w' := by
 have HO := Lib.hid h; have HB0 := Lib.hid hb0; have hz0 : w0.heap.size ≤ w.heap.size := hb0.size; clear hb0; obtain ⟨p, cap, b, o, hvs, hcap, hmax, hp, -⟩ := h; subst hvs; have HP := Lib.hid hp; clear hp; obtain ⟨iO, s0, s1, s2, s3⟩ := info_parts info_obj; have HI := Lib.hid (And.intro s0 (And.intro s1 (And.intro s2 s3))); clear s0 s1 s2 s3; go_enter Tryz.func63, Tryz.ntmps63; go_wp2
 go_loopw [2, 7] (fun v2 v7 wr => ∃ (k : Nat) (ts : List (GObj × Value)), v7 = .int .i64 k ∧ k ≤ l.length ∧ ts.map (·.1) = memsOf (l.take k) ∧ OwnObsB w.heap.size w0 wr v2 ts ∧ Below w.heap.size w wr) (fun _ v7 _ => l.length - (intOf v7).toNat)
 case atStart => exact ⟨0, [], by go_num, Nat.zero_le _, rfl, OwnObsB.nil _ _ _, Below.refl _ _⟩
 case round =>
  obtain ⟨k, ts, rfl, hk, hts, hown, hbel⟩ := hrel; have HTS := Lib.hid hts; have HOW := Lib.hid hown; have HB := Lib.hid hbel; have HBZ : Hid (Below w0.heap.size w0 wr) := HB0.out.trans (hbel.mono hz0); obtain ⟨pv, cv, rfl⟩ := own_shape hown.row; have htl : Hid (ts.length = (memsOf (l.take k)).length) := by rw [Hid, ← hts, List.length_map]
  clear hts hown hbel
  by_cases hlt : k < l.length
  ·obtain rfl := HP.out (by omega)
   obtain ⟨p', cap', b', o', he, -, -, hp', hc'⟩ := ArcsAt.keep HBZ.out HO.out; cases he; cases hp' (by omega)
   obtain ⟨_, _, b0, o0, he0, -, -, hp0, hc0⟩ := HO.out; cases he0; cases hp0 (by omega)
   obtain ⟨vs, g0, g1, g2, hin⟩ := hc' k hlt; obtain ⟨vs', g0', -, g2', hin0⟩ := hc0 k hlt; have hvv : vs' = vs := by have := cell_keep HBZ.out g0' g2'; rw [g2] at this; injection this with e; exact e.symm
   subst hvv; have hml := memsOf_take l (k + 1); have hms := memsOf_snoc hlt rfl; rw [hms, List.length_append, ← htl.out] at hml; generalize hx : l[k] = y at g1 g2 hin hin0 hms hml; have HMS := Lib.hid hms; clear hx hc' hp' hc0 hp0 g0' g2' hms; obtain ⟨yn, ym⟩ := y; simp only [] at g1 g2; have HIN := Lib.hid hin; have HIN0 := Lib.hid hin0; obtain ⟨⟨p1, q1, b1, o1, rfl, -⟩, hyn⟩ := hin; simp only [] at g2 HIN HIN0; clear hin0 hyn; have HCK := Lib.hid (arcCheck_any ⟨yn, ym⟩ _ _ (ArcIn.keep (alloc_old wr (.cells #[.string yn, .slice p1 ym.length q1] 24)) HIN.out)); have hma : memsA ⟨yn, ym⟩ = if arcOk ⟨yn, ym⟩ = true then ym else [] := rfl
   generalize arcOk ⟨yn, ym⟩ = ok at HCK hma; rw [hma] at hml HMS; clear hma; simp only [] at HCK; cases ok with
   | false =>
     simp only [errB, Bool.false_eq_true, if_false, List.append_nil] at HCK HMS; clear hml; go_wp2_with (go_at_call 10; refine HCK.out.mono ?_; rintro e w1 ⟨rfl, hB⟩); have HB1 : Hid (Below wr.heap.size wr w1) := (alloc_old wr _).trans (hB.mono (by simp))
     go_roundw
     case rel => exact ⟨k + 1, ts, by go_num, by omega, HTS.out.trans HMS.out.symm, HOW.out.keep HB1.out, HB.out.trans (HB1.out.mono HB.out.size)⟩
     case measure => simp [intOf]; omega
   | true =>
     simp only [errB, if_true] at HCK HMS hml; go_wp2_with fail; refine HCK.out.mono ?_; rintro e w1 ⟨rfl, hB⟩; have d1 : w1.cell? ⟨wr.heap.size, 1, none⟩ = some (.slice p1 ym.length q1) := by rw [hB.cell (by simp)]; simp [go_sem]
     have HB1 : Hid (Below wr.heap.size wr w1) := (alloc_old wr _).trans (hB.mono (by simp))
     have HBW1 : Hid (Below w.heap.size w w1) := HB.out.trans (HB1.out.mono HB.out.size); have HBZ1 : Hid (Below w0.heap.size w0 w1) := HB0.out.trans (HBW1.out.mono hz0); have HOW1 := Lib.hid (HOW.out.keep HB1.out); obtain ⟨pu, cu, bu, ou, us, heu, hus, -, hpu, hmu, hcu⟩ := objs_pairs HIN0.out.1; cases heu; simp only [] at hus hpu; have hul : Hid (us.length = ym.length) := by rw [Hid, ← hus, List.length_map]
     have HCU : Hid (0 < ym.length → ∀ j u, (us.flatMap obCells)[j]? = some u → w1.cell? ((⟨bu, ou, none⟩ : Addr).add j) = some u) := fun h0 j u hj => by
      have h1 := hcu j u hj; rw [add_at] at h1 ⊢
      have h2 : bu < w0.heap.size := by
       by_cases h3 : bu < w0.heap.size
       ·exact h3
       ·rw [World.cell?, Array.getElem?_eq_none (by simpa using h3)] at h1; cases h1
      exact cell_keep HBZ1.out h2 h1
     have HMU := Lib.hid hmu; have HPU := Lib.hid hpu; have HUS := Lib.hid hus; have hw1 : w.heap.size ≤ w1.heap.size := HBW1.out.size; clear hB hcu hmu hpu hus; go_wp2_with (at_builtin; refine wpList_append_src rfl _ _ 22 rfl w.heap.size 50 iO _ 2 40 Tryz.underlying22 HI.out.1 HI.out.2.1 HI.out.2.2.1 HI.out.2.2.2 rfl (by decide) (.slice pv ts.length cv) ts.length (ts.flatMap obCells) rfl HOW1.out.row p1 ym.length q1 bu ou (us.flatMap obCells) rfl HPU.out (by rw [flat_len obCells_len, hul.out]) HCU.out (obs_one HMU.out) (by unfold maxLen; omega) (by omega) hw1 ?_)
     intro v' w' hown3 hgrow3; obtain ⟨pw3, cw3, rfl⟩ := own_shape hown3; have HO3 : Hid (OwnObsB w.heap.size w0 w' (.slice pw3 (ts.length + ym.length) cw3) (ts ++ us)) := HOW1.out.more HMU.out (by rw [hul.out]; exact hown3)
     have HBF : Hid (Below w.heap.size w w') := HBW1.out.grown hgrow3 hw1 (fun q e => (HOW1.out.row.lt q e).1)
     clear hown3 hgrow3; go_wp2; go_roundw
     case rel => exact ⟨k + 1, ts ++ us, by go_num, by omega, by rw [List.map_append, HTS.out, HUS.out]; exact HMS.out.symm, HO3.out, HBF.out⟩
     case measure => simp [intOf]; omega
  ·obtain rfl : k = l.length := by omega
   rw [List.take_length] at HTS; go_wp2; go_ret; exact ⟨_, ts, rfl, HOW.out, HTS.out, HB.out⟩
end
section
open Go.RowKit Go.Maps
def defS (ss : List GSym) (n : List UInt8) : Bool := ss.any fun s => s.bind != 0 && s.name.data.toList == n
def defB (l : List GObj) (n : List UInt8) : Bool := l.any fun o => defS o.syms n
def boolF (F : List UInt8 → Bool) (n : List UInt8) : Option Value := if F n then some (.bool true) else none
theorem defS_snoc {l : List GSym} {k : Nat} {x : GSym} (h : k < l.length) (hx : l[k] = x) (n : List UInt8) : defS (l.take (k + 1)) n = (defS (l.take k) n || (x.bind != 0 && x.name.data.toList == n)) := by
 rw [List.take_succ_eq_append_getElem h, hx]; simp [defS]
structure ScopeSt (w0 : World) (sb mb : Nat) (v : Value) (ts : List (GObj × Value)) (N : Nat) (F : List UInt8 → Bool) (w : World) : Prop where
 box : w.heap[sb]? = some (.cells #[v, .map (some mb)] 131 (0, 0))
 row : OwnObs w0 w v ts
 map : MapFn Tryz.prog 9 w mb N (boolF F)
 sbl : w0.heap.size ≤ sb
 mbl : w0.heap.size ≤ mb
 blw : Below w0.heap.size w0 w
section
variable {w0 : World} {sb mb : Nat} {v : Value} {ts : List (GObj × Value)} {N : Nat} {F : List UInt8 → Bool} {w : World}
theorem ScopeSt.lt (h : ScopeSt w0 sb mb v ts N F w) : sb < w.heap.size := (Array.getElem?_eq_some_iff.1 h.box).1
theorem ScopeSt.keep {w' : World} (h : ScopeSt w0 sb mb v ts N F w) (hb : Below w.heap.size w w') : ScopeSt w0 sb mb v ts N F w' :=
 ⟨(hb.block _ h.lt).trans h.box, h.row.keep hb, h.map.below hb h.map.lt, h.sbl, h.mbl, h.blw.trans (hb.mono h.blw.size)⟩
theorem ScopeSt.ne (h : ScopeSt w0 sb mb v ts N F w) : sb ≠ mb := by
 rintro rfl; obtain ⟨D, ⟨es, clock, h1, h2⟩, hf⟩ := h.map; rw [h.box] at h1; cases h1
theorem ScopeSt.nem (h : ScopeSt w0 sb mb v ts N F w) : v.ownBlock ≠ some mb := fun e => by
 obtain ⟨D, ⟨es, clock, h1, h2⟩, hf⟩ := h.map; obtain ⟨cur, h2⟩ := own_type h.row.row e; rw [h1] at h2; cases h2
theorem ScopeSt.setMap {w' : World} {N' : Nat} {F' : List UInt8 → Bool} (h : ScopeSt w0 sb mb v ts N F w) (hg : w.grownBy w' (some mb)) (hM : MapFn Tryz.prog 9 w' mb N' (boolF F')) : ScopeSt w0 sb mb v ts N' F' w' :=
 ⟨(hg.block sb h.lt (fun e => by cases e; exact h.ne rfl)).trans h.box, h.row.congr fun g hgv => hg.block g (h.row.row.lt g hgv).2 (fun e => by cases e; exact h.nem hgv), hM, h.sbl, h.mbl, h.blw.grown hg h.blw.size (fun k e => by cases e; exact h.mbl)⟩
theorem ScopeSt.add {w5 : World} {o : GObj} {vs v' : Value} {X : Obj} (h : ScopeSt w0 sb mb v ts N F w) (ho : ObjIn w0 o vs)
 (hown : w5.ownsRow w0.heap.size 50 2 v' (ts.length + 1) (ts.flatMap obCells ++ [.string o.name, vs])) (hg5 : (w.alloc X).drew.grownBy w5 v.ownBlock) (hv : v'.ownBlock = v.ownBlock ∨ v'.ownBlock = some (w.alloc X).drew.heap.size) :
 ScopeSt w0 sb mb v' (ts ++ [(o, vs)]) N F (w5.setCell ⟨sb, 0, none⟩ v') ∧ KB (SB sb mb v) w (w5.setCell ⟨sb, 0, none⟩ v') ∧ (v'.ownBlock = v.ownBlock ∨ ∃ g, v'.ownBlock = some g ∧ w.heap.size ≤ g) := by
 have hsl := h.lt; have hml := h.map.lt
 have hb5 : w5.heap[sb]? = some (.cells #[v, .map (some mb)] 131 (0, 0)) :=
  (hg5.block sb (by simp; omega) (fun e => own_ne_box h.row.row h.box (by decide) e.symm)).trans ((Below.heap_alloc w X sb hsl).trans h.box)
 have hset : ∀ g, g ≠ sb → (w5.setCell ⟨sb, 0, none⟩ v').heap[g]? = w5.heap[g]? := fun g hgs => Below.heap_setCell _ _ _ _ (by simpa using hgs)
 refine ⟨⟨?_, ?_, ?_, h.sbl, h.mbl, ?_⟩, ?_, ?_⟩
 ·simp [World.setCell, Array.getElem?_modify, hb5]
 ·have h1 : OwnObs w0 w5 v' (ts ++ [(o, vs)]) := h.row.more (us := [(o, vs)]) (fun t ht => by obtain rfl : t = (o, vs) := (by simpa using ht); exact ho) (by simpa [obCells] using hown)
  exact h1.congr fun g hg' => hset g fun e => own_ne_box hown (e ▸ hb5) (by decide) hg'
 ·exact ((h.map.alloc X).drew.kept (hg5.block mb (by simp; omega) (fun e => h.nem e.symm))).setCell (fun e => h.ne e.symm) _
 ·exact (((h.blw.alloc h.blw.size X).drew).grown hg5 (by have := h.blw.size; simp; omega) (fun k e => (h.row.row.lt k e).1)).setCell h.sbl _
 ·exact KB.setCell (((KB.of_below (alloc_old w X)).drew).grown hg5 fun k e => .inl (.inr (.inr e))) (.inl (.inl rfl)) _
 ·rcases hv with hv | hv
  ·exact .inl hv
  ·exact .inr ⟨_, hv, by simp⟩
end
theorem boolF_put {F G : List UInt8 → Bool} {s : ByteArray} (h : ∀ n, G n = (F n || s.data.toList == n)) : (fun l => if l = s.data.toList then some (.bool true) else boolF F l) = boolF G := by
 funext n
 unfold boolF; rw [h n]
 by_cases e : n = s.data.toList
 ·subst e; simp
 ·have e2 : (s.data.toList == n) = false := by simp; exact fun h => e h.symm
  simp [e, e2]
theorem defS_nil (F : List UInt8 → Bool) : (fun n => F n || defS [] n) = F := by funext n; simp [defS]
def SPutPost (w0 : World) (sb mb : Nat) (v : Value) (ts : List (GObj × Value)) (N : Nat) (F : List UInt8 → Bool) (o : GObj) (vs : Value) (w : World) (e : Ending) (w' : World) : Prop :=
 e = .returned (.tuple #[]) ∧ ∃ v', ScopeSt w0 sb mb v' (ts ++ [(o, vs)]) (N + o.syms.length) (fun n => F n || defS o.syms n) w' ∧ KB (SB sb mb v) w w' ∧ (v'.ownBlock = v.ownBlock ∨ ∃ g, v'.ownBlock = some g ∧ w.heap.size ≤ g)
set_option maxHeartbeats 2000000 in
theorem sput_any (w0 : World) (sb mb : Nat) (v : Value) (ts : List (GObj × Value)) (N : Nat) (F : List UInt8 → Bool) (o : GObj) (vs : Value) (w : World) (h : ScopeSt w0 sb mb v ts N F w) (ho : ObjIn w0 o vs) (hN : N + o.syms.length ≤ 1000000000) (hT : ts.length ≤ 100000) :
 Calls Tryz.prog 60 #[.pointer (some ⟨sb, 0, none⟩), .agg #[.string o.name, vs]] w (SPutPost w0 sb mb v ts N F o vs w) := by
 obtain ⟨pv, cv, rfl⟩ := own_shape h.row.row; obtain ⟨po, co, rfl⟩ := ho.form; obtain ⟨yn, ys⟩ := o; simp only [] at *; have HS := Lib.hid h; have HO := Lib.hid ho; have HSL := Lib.hid h.lt; have HML := Lib.hid h.map.lt; have c0 : w.cell? ⟨sb, 0, none⟩ = some (.slice pv ts.length cv) := Lib.cell_of_heap h.box 0; have c1 : w.cell? ⟨sb, 1, none⟩ = some (.map (some mb)) := Lib.cell_of_heap h.box 1; have f0 : w.frozen? ⟨sb, 0, none⟩ = false := Lib.frozen_of_heap h.box 0; have hzs : sb < w.heap.size := h.lt; have hw0 : w0.heap.size ≤ w.heap.size := h.blw.size; clear h ho; have HBB : Hid (Below w.heap.size w (w.alloc (.cells #[.string yn, .slice po ys.length co] 50))) := alloc_old w _; have b0 : (w.alloc (.cells #[.string yn, .slice po ys.length co] 50)).cell? ⟨w.heap.size, 0, none⟩ = some (.string yn) := by simp [go_sem]
 have b1 : (w.alloc (.cells #[.string yn, .slice po ys.length co] 50)).cell? ⟨w.heap.size, 1, none⟩ = some (.slice po ys.length co) := by simp [go_sem]
 have hz2 : w.heap.size < (w.alloc (.cells #[.string yn, .slice po ys.length co] 50)).heap.size := by simp
 have k0 := HBB.out; replace c0 := cell_keep k0 hzs c0; replace c1 := cell_keep k0 hzs c1; replace f0 := (k0.frozen (p := ⟨sb, 0, none⟩) hzs).trans f0; clear k0; obtain ⟨iO, s0, s1, s2, s3⟩ := info_parts info_obj; have HI := Lib.hid (And.intro s0 (And.intro s1 (And.intro s2 s3))); clear s0 s1 s2 s3; go_enter Tryz.func60, Tryz.ntmps60; go_wp2; generalize (w.alloc (.cells #[.string yn, .slice po ys.length co] 50)) = w2 at *; have HS2 := Lib.hid (HS.out.keep HBB.out); have hzs2 : sb < w2.heap.size := by omega
 have HB2 := Lib.hid HS2.out.box; have HOWN : Hid ((w2.alloc (.cells #[.string yn, .slice po ys.length co] 50)).drew.ownsRow w0.heap.size 50 2 (.slice pv ts.length cv) ts.length (ts.flatMap obCells)) := (HS2.out.row.row.alloc _).drew; have HNEWS : Hid (∀ j u, [Value.string yn, .slice po ys.length co][j]? = some u → (w2.alloc (.cells #[.string yn, .slice po ys.length co] 50)).drew.cell? ((⟨w2.heap.size, 0, none⟩ : Addr).add j) = some u) := ob_news (by simp [go_sem]) (by simp [go_sem])
 go_cut [] (fun wx => ∃ v', ScopeSt w0 sb mb v' (ts ++ [(⟨yn, ys⟩, .slice po ys.length co)]) N F wx ∧ KB (SB sb mb (.slice pv ts.length cv)) w2 wx ∧ (v'.ownBlock = (Value.slice pv ts.length cv).ownBlock ∨ ∃ g, v'.ownBlock = some g ∧ w2.heap.size ≤ g))
 case first =>
  go_region_law ((refine step_append_own_at rfl (.tmp 10) (.tmp 12) 22 rfl w0.heap.size 50 iO _ 2 40 Tryz.underlying22 HI.out.1 HI.out.2.1 HI.out.2.2.1 HI.out.2.2.2 rfl (by decide) (.slice pv ts.length cv) ts.length (ts.flatMap obCells) (by simp [Act.eval]) HOWN.out ⟨w2.heap.size, 0, none⟩ 1 1 [.string yn, .slice po ys.length co] (by simp [Act.eval]) rfl HNEWS.out ob_one (by unfold maxLen; omega) (by omega) (by simp; omega) ?_; intro v' w5 hown hgrow hv; obtain ⟨pw, cw, rfl⟩ := own_shape hown; have HG := Lib.hid (And.intro hown (And.intro hgrow hv)); have hb5 : w5.heap[sb]? = some (.cells #[.slice pv ts.length cv, .map (some mb)] 131 (0, 0)) := (hgrow.block sb (by simp; omega) (fun e => own_ne_box HOWN.out ((Below.heap_alloc w2 _ sb hzs2).trans HB2.out) (by decide) e.symm)).trans ((Below.heap_alloc w2 _ sb hzs2).trans HB2.out); have e1 : w5.cell? ⟨sb, 0, none⟩ = some (.slice pv ts.length cv) := Lib.cell_of_heap hb5 0; have e2 : w5.frozen? ⟨sb, 0, none⟩ = false := Lib.frozen_of_heap hb5 0; clear hown hgrow hv hb5))
  all_goals
   go_wp2_with fail
   go_meet
   exact ⟨_, HS2.out.add HO.out HG.out.1 HG.out.2.1 HG.out.2.2⟩
 case rest =>
  obtain ⟨v', hst, hkb, hob⟩ := hcut; have hkw : KB (SB sb mb (.slice pv ts.length cv)) w wc := KB.trans (KB.of_below HBB.out) hkb
  have HOB : Hid (v'.ownBlock = (Value.slice pv ts.length cv).ownBlock ∨ ∃ g, v'.ownBlock = some g ∧ w.heap.size ≤ g) := by
   rcases hob with h1 | ⟨g, h1, h2⟩
   ·exact .inl h1
   ·exact .inr ⟨g, h1, by omega⟩
  have hnw : ¬ SB sb mb (.slice pv ts.length cv) w.heap.size := by
   rintro (e | e | e)
   ·omega
   ·have := HML.out; omega
   ·have := (HS.out.row.row.lt _ e).2; omega
  have hwc2 : w2.heap.size ≤ wc.heap.size := hkb.size; replace b0 := hkb.cell hz2 hnw b0; replace b1 := hkb.cell hz2 hnw b1; have HST := Lib.hid hst; have HKW := Lib.hid hkw; have HNW := Lib.hid hnw; have hzc : w.heap.size < wc.heap.size := by omega
  clear hst hkb hob hkw hnw c0 c1 f0 HOWN HNEWS HB2; have HIN := Lib.hid (HO.out.keep HST.out.blw); obtain ⟨⟨pS, capS, bS, oS, heS, hcapS, hmaxS, hpS, hcS⟩, hnm⟩ := HO.out; cases heS; simp only [] at hcapS hmaxS hpS hcS hnm HIN; have HPS := Lib.hid hpS; have HCS := Lib.hid hcS; clear hpS hcS hnm; go_wp2
  go_loopw [19] (fun v19 wr => ∃ k : Nat, k ≤ ys.length ∧ v19 = .int .i64 k ∧ ScopeSt w0 sb mb v' (ts ++ [(⟨yn, ys⟩, .slice po ys.length co)]) (N + k) (fun n => F n || defS (ys.take k) n) wr ∧ KB (SB sb mb (.slice pv ts.length cv)) w wr ∧ wr.heap[w.heap.size]? = wc.heap[w.heap.size]?) (fun v19 _ => ys.length - (intOf v19).toNat)
  case atStart => exact ⟨0, Nat.zero_le _, rfl, by rw [List.take_zero, defS_nil]; exact HST.out, HKW.out, rfl⟩
  case round =>
   obtain ⟨k, hk, rfl, hst, hkb, hob⟩ := hrel; have HSR := Lib.hid hst; have HKR := Lib.hid hkb; have HOBx := Lib.hid hob; have hszr : w.heap.size < wr.heap.size := by have := hkb.size; have := (Array.getElem?_eq_some_iff.1 (hob.trans (Array.getElem?_eq_getElem hzc))).1; exact this
   clear hst hkb hob
   by_cases hlt : k < ys.length
   ·obtain rfl := HPS.out (by omega)
    obtain ⟨vr, vn, g0, g1, g2, g3, g4, g5, g6, g7, hsin⟩ := symR_keeps _ _ _ _ _ HSR.out.blw (HCS.out k hlt); obtain ⟨p1, q1, p2, q2, rfl, rfl⟩ := hsin.shape; have hns : ys[k].name.size ≤ 9223372036854775807 := by have := hsin.2.2.2.2.2.1; omega
    have hbd := hsin.2.2.1; have hdn := fun n => defS_snoc hlt rfl n
    generalize hy : ys[k] = y at g1 g2 g3 g4 g5 g6 g7 hsin hns hbd hdn; have HDN := Lib.hid hdn; clear hy hsin hdn; obtain ⟨xn, xb, xk, xz, xy, xr, xt⟩ := y; simp only [] at g1 g2 g3 g4 g5 g6 g7 hns hbd HDN; have HSA := Lib.hid (HSR.out.keep (alloc_old wr (.cells #[.string xn, .int .u8 xb, .int .u8 xk, .int .u32 xz, .string xy, .slice p1 xr.length q1, .slice p2 xt.length q2] 55))); have HKA : Hid (KB (SB sb mb (.slice pv ts.length cv)) w (wr.alloc (.cells #[.string xn, .int .u8 xb, .int .u8 xk, .int .u32 xz, .string xy, .slice p1 xr.length q1, .slice p2 xt.length q2] 55))) := HKR.out.alloc _; have HOA : Hid ((wr.alloc (.cells #[.string xn, .int .u8 xb, .int .u8 xk, .int .u32 xz, .string xy, .slice p1 xr.length q1, .slice p2 xt.length q2] 55)).heap[w.heap.size]? = wc.heap[w.heap.size]?) := (Below.heap_alloc _ _ _ hszr).trans HOBx.out
    by_cases hb0 : xb = 0
    ·subst hb0; have HF : Hid ((fun n => F n || defS (ys.take (k + 1)) n) = fun n => F n || defS (ys.take k) n) := by funext n; rw [HDN.out n]; simp
     go_wp2; go_roundw
     case rel =>
      refine ⟨k + 1, by omega, by go_num, ?_, HKA.out, HOA.out⟩
      rw [HF.out]; exact ⟨HSA.out.box, HSA.out.row, HSA.out.map.mono (by omega), HSA.out.sbl, HSA.out.mbl, HSA.out.blw⟩
     case measure => simp [intOf]; omega
    ·have hbb : (xb != 0) = true := by simpa using hb0
     have HF := Lib.hid (boolF_put (F := fun n => F n || defS (ys.take k) n) (G := fun n => F n || defS (ys.take (k + 1)) n) (s := xn) (fun n => by rw [HDN.out n, hbb, Bool.true_and, Bool.or_assoc]))
     have d1 : (wr.alloc (.cells #[.string xn, .int .u8 xb, .int .u8 xk, .int .u32 xz, .string xy, .slice p1 xr.length q1, .slice p2 xt.length q2] 55)).cell? ⟨sb, 1, none⟩ = some (.map (some mb)) := Lib.cell_of_heap HSA.out.box 1; have hszA : w.heap.size < (wr.alloc (.cells #[.string xn, .int .u8 xb, .int .u8 xk, .int .u32 xz, .string xy, .slice p1 xr.length q1, .slice p2 xt.length q2] 55)).heap.size := by simp; omega
     clear hb0; go_wp2; generalize hwa : (wr.alloc (.cells #[.string xn, .int .u8 xb, .int .u8 xk, .int .u32 xz, .string xy, .slice p1 xr.length q1, .slice p2 xt.length q2] 55)) = wA at *; have e0 : wA.cell? ⟨wr.heap.size, 0, none⟩ = some (.string xn) := by subst hwa; simp [go_sem]
     clear hwa
     go_still_tail 6, (by kernel_rfl)
     refine wpList_put _ rfl _ _ _ 129 rfl 9 4 keyedS Tryz.underlying129 Tryz.underlying9 rfl HSA.out.map.drew (by unfold maxLen; omega) xn (.bool true) rfl rfl hns ?_
     intro w4 hM4 hg4; have HS4 : Hid (ScopeSt w0 sb mb v' _ (N + (k + 1)) (fun n => F n || defS (ys.take (k + 1)) n) w4) := (HSA.out.keep (Below.refl _ _).drew).setMap hg4 (by rw [← HF.out]; exact hM4)
     have HK4 : Hid (KB (SB sb mb (.slice pv ts.length cv)) w w4) := HKA.out.drew.grown hg4 (fun q e => by cases e; exact .inl (.inr (.inl rfl)))
     have HO4 : Hid (w4.heap[w.heap.size]? = wc.heap[w.heap.size]?) := (hg4.block _ (by show _ < wA.heap.size; omega) (fun e => by cases e; exact HNW.out (.inr (.inl rfl)))).trans HOA.out
     clear hM4 hg4; go_wp2; go_roundw
     case rel => exact ⟨k + 1, by omega, by go_num, HS4.out, HK4.out, HO4.out⟩
     case measure => simp [intOf]; omega
   ·obtain rfl : k = ys.length := by omega
    rw [List.take_length] at HSR; go_wp2; go_end0; exact ⟨rfl, v', HSR.out, HKR.out, HOB.out⟩
end
section
open Go.RowKit Go.Maps
def entsO (k : Nat) (ss : List GSym) : List GEnt := (ss.filter fun s => s.bind != 0).map fun s => ⟨s.name, k, s.bind⟩
def entsFrom : Nat → List GObj → List GEnt
 | _, [] => []
 | k, o :: r => entsO k o.syms ++ entsFrom (k + 1) r
def symsN (l : List GObj) : Nat := (l.flatMap fun o => o.syms).length
theorem entsFrom_app : ∀ (l r : List GObj) (k : Nat), entsFrom k (l ++ r) = entsFrom k l ++ entsFrom (k + l.length) r
 | [], r, k => by simp [entsFrom]
 | o :: l, r, k => by
   have ih := entsFrom_app l r (k + 1); simp only [List.cons_append, entsFrom, ih, List.append_assoc, List.length_cons]; rw [show k + 1 + l.length = k + (l.length + 1) by omega]
theorem entsFrom_snoc {l : List GObj} {k : Nat} {x : GObj} (h : k < l.length) (hx : l[k] = x) : entsFrom 0 (l.take (k + 1)) = entsFrom 0 (l.take k) ++ entsO k x.syms := by
 rw [List.take_succ_eq_append_getElem h, hx, entsFrom_app]; simp only [entsFrom, List.append_nil, List.length_take, Nat.zero_add]; rw [Nat.min_eq_left (by omega)]
theorem entsO_snoc {k : Nat} {l : List GSym} {j : Nat} {x : GSym} (h : j < l.length) (hx : l[j] = x) : entsO k (l.take (j + 1)) = entsO k (l.take j) ++ if x.bind = 0 then [] else [⟨x.name, k, x.bind⟩] := by
 rw [List.take_succ_eq_append_getElem h, hx, entsO, List.filter_append, List.map_append]
 by_cases hb : x.bind = 0 <;> simp [entsO, hb]
theorem entsO_len (k : Nat) (ss : List GSym) : (entsO k ss).length ≤ ss.length := by
 unfold entsO; rw [List.length_map]; exact List.length_filter_le _ _
theorem entsFrom_len : ∀ (l : List GObj) (k : Nat), (entsFrom k l).length ≤ symsN l
 | [], k => by simp [entsFrom]
 | o :: r, k => by
   have ih := entsFrom_len r (k + 1); have h1 := entsO_len k o.syms; simp only [entsFrom, symsN, List.flatMap_cons, List.length_append] at ih ⊢; omega
theorem ents_pre {l : List GObj} {k : Nat} (hk : k < l.length) (j : Nat) : (entsFrom 0 (l.take k) ++ entsO k (l[k].syms.take j)).length ≤ symsN l := by
 have a1 := entsFrom_len (l.take k) 0; have a2 := entsO_len k (l[k].syms.take j); rw [List.length_take] at a2
 have e : symsN l = symsN (l.take k) + (l[k].syms.length + symsN (l.drop (k + 1))) := by
  unfold symsN
  conv => lhs; rw [← List.take_append_drop k l, List.drop_eq_getElem_cons hk]
  rw [List.flatMap_append, List.flatMap_cons, List.length_append, List.length_append]
 rw [List.length_append]; omega
theorem mem_entsO {k : Nat} {ss : List GSym} {x : GEnt} : x ∈ entsO k ss ↔ ∃ s ∈ ss, s.bind ≠ 0 ∧ x = ⟨s.name, k, s.bind⟩ := by
 unfold entsO; simp only [List.mem_map, List.mem_filter, bne_iff_ne, ne_eq]; constructor
 ·rintro ⟨s, ⟨h1, h2⟩, rfl⟩; exact ⟨s, h1, h2, rfl⟩
 ·rintro ⟨s, h1, h2, rfl⟩; exact ⟨s, ⟨h1, h2⟩, rfl⟩
theorem mem_entsFrom : ∀ {l : List GObj} {a : Nat} {x : GEnt}, x ∈ entsFrom a l ↔ ∃ (k : Nat) (h : k < l.length), ∃ s ∈ l[k].syms, s.bind ≠ 0 ∧ x = ⟨s.name, a + k, s.bind⟩
 | [], a, x => by simp [entsFrom]
 | o :: r, a, x => by
   rw [entsFrom, List.mem_append, mem_entsO, mem_entsFrom (l := r)]; constructor
   ·rintro (⟨s, h1, h2, rfl⟩ | ⟨k, hk, s, h1, h2, rfl⟩)
    ·exact ⟨0, by simp, s, by simpa using h1, h2, rfl⟩
    ·exact ⟨k + 1, by simpa using hk, s, by simpa using h1, h2, by rw [show a + (k + 1) = a + 1 + k by omega]⟩
   ·rintro ⟨k, hk, s, h1, h2, rfl⟩
    match k, hk, h1 with
    | 0, hk, h1 => exact .inl ⟨s, by simpa using h1, h2, rfl⟩
    | k + 1, hk, h1 => exact .inr ⟨k, by simpa using hk, s, by simpa using h1, h2, by rw [show a + (k + 1) = a + 1 + k by omega]⟩
theorem info_ent : (Tryz.prog.info? 47).map (fun i => (i.zero, i.size, i.bytes)) = some (some (.agg #[.string ⟨#[]⟩, .int .i64 0, .int .u8 0]), 3, 32) := by kernel_rfl
theorem ent_news {w : World} {g : Nat} {a b c : Value} (h0 : w.cell? ⟨g, 0, none⟩ = some a) (h1 : w.cell? ⟨g, 1, none⟩ = some b) (h2 : w.cell? ⟨g, 2, none⟩ = some c) : ∀ j u, [a, b, c][j]? = some u → w.cell? ((⟨g, 0, none⟩ : Addr).add j) = some u := by
 intro j u hu
 match j, hu with
 | 0, hu => simp at hu; subst hu; simpa [Addr.add] using h0
 | 1, hu => simp at hu; subst hu; simpa [Addr.add] using h1
 | 2, hu => simp at hu; subst hu; simpa [Addr.add] using h2
theorem ent_one {a : ByteArray} {b c : Int} : ∀ u ∈ [Value.string a, .int .i64 b, .int .u8 c], u.oneCell' = true := by
 intro u hu; simp at hu; rcases hu with rfl | rfl | rfl <;> rfl
theorem EntRow.snoc {w : World} {B : Nat} {v : Value} {es : List GEnt} {x : GEnt} (h : w.ownsRow B 47 3 v (es.length + 1) (es.flatMap entCells ++ [.string x.name, .int .i64 x.mem, .int .u8 x.bind])) : EntRow B w v (es ++ [x]) := by
 unfold EntRow; rw [List.length_append, List.flatMap_append]; simpa [entCells] using h
def IndexPost (l : List GObj) (w : World) (e : Ending) (w' : World) : Prop := ∃ vo es, e = .returned vo ∧ EntRow w.heap.size w' vo es ∧ es.Perm (entsFrom 0 l) ∧ Below w.heap.size w w'
set_option maxHeartbeats 4000000 in
theorem index_any (v : Value) (l : List GArc) (w : World) (h : ArcsAt w v l) (hsm : (memsOf l).length ≤ 100000) (hsy : symsN (memsOf l) ≤ 1000000000) :
 Calls Tryz.prog 19 #[v] w (IndexPost (memsOf l) w) := by
 have HME := Lib.hid (members_any w v l w h (Below.refl _ _) hsm); obtain ⟨p, cap, b, o, rfl, -⟩ := h; obtain ⟨iE, s0, s1, s2, s3⟩ := info_parts info_ent; have HI := Lib.hid (And.intro s0 (And.intro s1 (And.intro s2 s3))); clear s0 s1 s2 s3; go_enter Tryz.func19, Tryz.ntmps19; go_wp2_with fail; refine HME.out.mono ?_; rintro e w1 ⟨vo, ts, rfl, how, hts, hB1⟩; have HB1 := Lib.hid hB1; have htl : Hid (ts.length = (memsOf l).length) := by rw [Hid, ← hts, List.length_map]
 have hob := how.objs hB1 (by rw [htl.out]; omega)
 rw [hts] at hob; clear HME how hts htl hB1 ts; generalize memsOf l = m at *; obtain ⟨pm, cm, bm, om, rfl, hcm, hmm, hpm, hcm2⟩ := hob; have HP := Lib.hid hpm; have HC := Lib.hid hcm2; have HSY := Lib.hid hsy; have hz1 : w.heap.size ≤ w1.heap.size := HB1.out.size; clear hpm hcm2 hsy; go_wp2_with fail
 go_loopw [2, 10] (fun v2 v10 wr => ∃ k : Nat, k ≤ m.length ∧ v10 = .int .i64 k ∧ EntRow w1.heap.size wr v2 (entsFrom 0 (m.take k)) ∧ Below w1.heap.size w1 wr) (fun _ v10 _ => m.length - (intOf v10).toNat)
 case atStart => exact ⟨0, Nat.zero_le _, rfl, World.ownsRow_nil _ _ _ _, Below.refl _ _⟩
 case round =>
  obtain ⟨k, hk, rfl, hrow, hbel⟩ := hrel; have HROW := Lib.hid hrow; have HB := Lib.hid hbel; clear hrow hbel
  by_cases hlt : k < m.length
  ·obtain rfl := HP.out (by omega)
   obtain ⟨vs, g0, g1, g2, hin⟩ := HC.out k hlt; replace g1 := cell_keep HB.out g0 g1; replace g2 := cell_keep HB.out g0 g2; replace g0 := size_keep HB.out g0; have hpre := fun j => ents_pre hlt j
   have hsn := entsFrom_snoc hlt rfl; generalize hx : m[k] = x at g1 g2 hin hsn hpre; obtain ⟨yn, ys⟩ := x; simp only [] at g1 g2 hin hsn hpre; have HPRE := Lib.hid hpre; have HSN := Lib.hid hsn; obtain ⟨⟨pS, capS, bS, oS, rfl, hcapS, hmaxS, hpS, hcS⟩, hnmx⟩ := hin; have HCS := Lib.hid hcS; have HPS := Lib.hid hpS; have HOR : Hid (EntRow w1.heap.size (wr.alloc (.cells #[.string yn, .slice pS ys.length capS] 50)) _ (entsFrom 0 (m.take k))) := own_congr HROW.out fun g hg => Below.heap_alloc _ _ _ (World.ownsRow.lt HROW.out g hg).2
   have HBA : Hid (Below w1.heap.size w1 (wr.alloc (.cells #[.string yn, .slice pS ys.length capS] 50))) := HB.out.alloc HB.out.size _; clear hx hpre hsn hcS hpS hnmx HROW; go_wp2; obtain ⟨wo, rfl⟩ : ∃ wo : World, wo = wr := ⟨_, rfl⟩
   go_loopw [2, 18] (fun v2 v18 wr => ∃ j : Nat, j ≤ ys.length ∧ v18 = .int .i64 j ∧ EntRow w1.heap.size wr v2 (entsFrom 0 (m.take k) ++ entsO k (ys.take j)) ∧ Below w1.heap.size w1 wr) (fun _ v18 _ => ys.length - (intOf v18).toNat)
   case atStart => exact ⟨0, Nat.zero_le _, rfl, by simpa [entsO] using HOR.out, HBA.out⟩
   case round =>
    clear HOR HBA; obtain ⟨j, hj, rfl, hrow, hbel⟩ := hrel; have HROW := Lib.hid hrow; have HBJ := Lib.hid hbel; clear hbel
    by_cases hlj : j < ys.length
    ·obtain rfl := HPS.out (by omega)
     obtain ⟨vr, vn, g0, g1, g2, g3, g4, g5, g6, g7, hsin⟩ := HCS.out j hlj; replace g1 := cell_keep HBJ.out g0 g1; replace g2 := cell_keep HBJ.out g0 g2; replace g3 := cell_keep HBJ.out g0 g3; replace g4 := cell_keep HBJ.out g0 g4; replace g5 := cell_keep HBJ.out g0 g5; replace g6 := cell_keep HBJ.out g0 g6; replace g7 := cell_keep HBJ.out g0 g7; replace g0 := size_keep HBJ.out g0; obtain ⟨p1, q1, p2, q2, rfl, rfl⟩ := hsin.shape; have hpr := HPRE.out j; have hbd := hsin.2.2.1; have hes := entsO_snoc (k := k) hlj rfl; generalize hy : ys[j] = y at g1 g2 g3 g4 g5 g6 g7 hsin hbd hes; obtain ⟨xn, xb, xk, xz, xy, xr, xt⟩ := y; simp only [] at g1 g2 g3 g4 g5 g6 g7 hbd hes; clear hy hsin; have HES : Hid (entsFrom 0 (m.take k) ++ entsO k (ys.take (j + 1)) = (entsFrom 0 (m.take k) ++ entsO k (ys.take j)) ++ if xb = 0 then [] else [⟨xn, k, xb⟩]) := by rw [Hid, hes, List.append_assoc]
     clear hes; generalize entsFrom 0 (m.take k) ++ entsO k (ys.take j) = es at hrow HROW hpr HES; obtain ⟨pe, ce, rfl⟩ := own_shape hrow; have hel : es.length ≤ 1000000000 := Nat.le_trans hpr HSY.out; clear hrow hpr; have HRA : Hid ((wr.alloc (.cells #[.string xn, .int .u8 xb, .int .u8 xk, .int .u32 xz, .string xy, .slice p1 xr.length q1, .slice p2 xt.length q2] 55)).ownsRow w1.heap.size 47 3 (.slice pe es.length ce) es.length (es.flatMap entCells)) := own_congr HROW.out fun g hg => Below.heap_alloc _ _ _ (World.ownsRow.lt HROW.out g hg).2
     have HBA : Hid (Below w1.heap.size w1 (wr.alloc (.cells #[.string xn, .int .u8 xb, .int .u8 xk, .int .u32 xz, .string xy, .slice p1 xr.length q1, .slice p2 xt.length q2] 55))) := HBJ.out.alloc HBJ.out.size _; have hwz : w1.heap.size ≤ wr.heap.size := HBJ.out.size
     by_cases hb0 : xb = 0
     ·subst hb0; rw [if_pos rfl, List.append_nil] at HES; go_wp2; go_roundw
      case rel => exact ⟨j + 1, by omega, by go_num, by rw [HES.out]; exact HRA.out, HBA.out⟩
      case measure => simp [intOf]; omega
     ·have hbb : (xb != 0) = true := by simpa using hb0
      rw [if_neg hb0] at HES; clear hb0; go_wp2_with (at_builtin; refine wpList_append_own _ rfl _ _ 42 rfl w1.heap.size 47 iE _ 3 32 Tryz.underlying42 HI.out.1 HI.out.2.1 HI.out.2.2.1 HI.out.2.2.2 rfl (by decide) (.slice pe es.length ce) es.length (es.flatMap entCells) rfl (HRA.out.alloc _) _ 1 1 [.string xn, .int .i64 k, .int .u8 xb] rfl rfl (ent_news (by simp [go_sem]) (by simp [go_sem]) (by simp [go_sem])) ent_one (by unfold maxLen; omega) (by omega) (by simp; omega) ?_)
      intro v' w' hown hgrow _; have HR6 := Lib.hid (EntRow.snoc (x := ⟨xn, k, xb⟩) hown); have HB6 := Lib.hid ((HBA.out.alloc HBA.out.size (.cells #[.string xn, .int .i64 k, .int .u8 xb] 47)).grown hgrow (by simp; omega) (fun q hq => (World.ownsRow.lt HRA.out q hq).1))
      obtain ⟨p5, c5, rfl⟩ := own_shape hown; clear hown hgrow; go_wp2; go_roundw
      case rel => exact ⟨j + 1, by omega, by go_num, by rw [HES.out]; exact HR6.out, HB6.out⟩
      case measure => simp [intOf]; omega
    ·obtain rfl : j = ys.length := by omega
     rw [List.take_length, ← HSN.out] at HROW; go_wp2; go_roundw
     case rel => exact ⟨k + 1, by omega, by go_num, HROW.out, HBJ.out⟩
     case measure => simp [intOf]; omega
  ·obtain rfl : k = m.length := by omega
   rw [List.take_length] at HROW; have hel : (entsFrom 0 m).length ≤ 1000000000 := Nat.le_trans (entsFrom_len m 0) HSY.out; have HS1 := Lib.hid (sortE_any _ _ _ wr HROW.out hel); go_wp2_with fail; refine HS1.out.mono ?_; rintro e w5 ⟨rfl, l', hp', hr', hk'⟩; have HB5 : Hid (Below w.heap.size w w5) := HB1.out.trans ((HB.out.mono hz1).trans (hk'.below (Nat.le_trans hz1 HB.out.size) (fun g hg e => by have := (World.ownsRow.lt HROW.out g e).1; omega)))
   have HR' : Hid (EntRow w.heap.size w5 _ l') := owns_mono hr' hz1; have HP' := Lib.hid hp'; clear hp' hr' hk'; go_wp2_with fail; go_ret; exact ⟨_, l', rfl, HR'.out, HP'.out, HB5.out⟩
end
section
open Go.RowKit Go.Maps Go.Shelf Go.Lib
def arCells (t : GArc × Value) : List Value := [.string t.1.name, t.2]
theorem arCells_len (t : GArc × Value) : (arCells t).length = 2 := rfl
theorem arcs_pairs {w : World} {v : Value} {l : List GArc} (h : ArcsAt w v l) : ∃ (p : Option Addr) (cap b o : Nat) (ts : List (GArc × Value)), v = .slice p l.length cap ∧ ts.map (·.1) = l ∧ l.length ≤ cap ∧ l.length ≤ 140737488355328 ∧ (0 < l.length → p = some ⟨b, o, none⟩ ∧ b < w.heap.size) ∧ (∀ t ∈ ts, ArcIn w t.1 t.2) ∧
 ∀ j u, (ts.flatMap arCells)[j]? = some u → w.cell? ((⟨b, o, none⟩ : Addr).add j) = some u := by
 obtain ⟨p, cap, b, o, rfl, h1, hm, h2, h3⟩ := h
 have hg : ∃ g : Nat → Value, ∀ i (hi : i < l.length), w.cell? ⟨b, o + i * 2, none⟩ = some (.string l[i].name) ∧ w.cell? ⟨b, o + i * 2 + 1, none⟩ = some (g i) ∧ ArcIn w l[i] (g i) := by
  refine ⟨fun i => if hi : i < l.length then Classical.choose (h3 i hi) else .slice none 0 0, fun i hi => ?_⟩
  simp only [hi, dif_pos]; obtain ⟨-, k1, k2, k3⟩ := Classical.choose_spec (h3 i hi); exact ⟨k1, k2, k3⟩
 obtain ⟨g, hg⟩ := hg; have hget : ∀ i (hi : i < l.length), (l.zipIdx.map fun q => (q.1, g q.2))[i]'(by simpa using hi) = (l[i], g i) := fun i hi => by simp
 refine ⟨p, cap, b, o, l.zipIdx.map fun q => (q.1, g q.2), rfl, ?_, h1, hm, fun h0 => ⟨h2 h0, ?_⟩, ?_, ?_⟩
 ·apply List.ext_getElem
  ·simp
  ·intro i h1 h2; simp
 ·obtain ⟨vs, k, -⟩ := h3 0 h0; exact k
 ·intro t ht; obtain ⟨i, hi, rfl⟩ := List.mem_iff_getElem.1 ht; rw [hget i (by simpa using hi)]
  exact (hg i (by simpa using hi)).2.2
 ·refine row_news arCells_len (by omega) fun i hi j u hu => ?_
  have hi' : i < l.length := by simpa using hi
  rw [hget i hi'] at hu; obtain ⟨k1, k2, -⟩ := hg i hi'
  match j, hu with
  | 0, hu => simp only [arCells] at hu; cases hu; exact k1
  | 1, hu => simp only [arCells] at hu; cases hu; exact k2
theorem objs_pairs2 {w : World} {v : Value} {l : List GObj} (h : ObjsAt w v l) : ∃ (p : Option Addr) (cap b o : Nat) (ts : List (GObj × Value)), v = .slice p l.length cap ∧ ts.map (·.1) = l ∧ l.length ≤ cap ∧ l.length ≤ 140737488355328 ∧ (0 < l.length → p = some ⟨b, o, none⟩ ∧ b < w.heap.size) ∧ (∀ t ∈ ts, ObjIn w t.1 t.2) ∧
 ∀ j u, (ts.flatMap obCells)[j]? = some u → w.cell? ((⟨b, o, none⟩ : Addr).add j) = some u := by
 have h' := h; obtain ⟨p, cap, b, o, hv, h1, hm, h2, h3⟩ := h; obtain ⟨p', cap', b', o', ts, hv', k1, k2, k3, k4, k5⟩ := objs_pairs h'; rw [hv] at hv'; cases hv'; refine ⟨p, cap, b', o', ts, hv, k1, k2, hm, fun h0 => ⟨k3 h0, ?_⟩, k4, k5⟩
 have e := (h2 h0).symm.trans (k3 h0); cases e; obtain ⟨vs, k, -⟩ := h3 0 h0; exact k
set_option maxHeartbeats 400000 in
theorem indexO_nil (a : Option Addr) (c : Nat) (fv : Value) (w : World) : Calls Tryz.prog 98 #[.slice a 0 c, fv] w fun e w' => e = .returned (.int .i64 (-1)) ∧ w' = w := by
 go_enter Tryz.func98, Tryz.ntmps98; go_wp2
 go_loopw [8] (fun i wr => i = .int .i64 0 ∧ wr = w) (fun _ _ => 0)
 case atStart => exact ⟨rfl, rfl⟩
 case round =>
  obtain ⟨rfl, rfl⟩ := hrel; go_wp2; go_ret; exact ⟨rfl, rfl⟩
set_option maxHeartbeats 400000 in
theorem containsO_nil (a : Option Addr) (c : Nat) (fv : Value) (w : World) : Calls Tryz.prog 54 #[.slice a 0 c, fv] w fun e w' => e = .returned (.bool false) ∧ w' = w := by
 have HI := Lib.hid (indexO_nil a c fv w); go_enter Tryz.func54, Tryz.ntmps54; go_wp2_with (go_at_call 98; refine HI.out.mono ?_; rintro e w1 ⟨rfl, rfl⟩); go_ret; exact ⟨rfl, rfl⟩
set_option maxHeartbeats 1000000 in
theorem pullO_any (x : GObj) (vs : Value) (w : World) (h : ObjIn w x vs) : Calls Tryz.prog 55 #[.agg #[.string x.name, vs]] w fun e w' => e = .returned (.bool (!mayP x)) ∧ Below w.heap.size w w' := by
 have HCK := Lib.hid (objCheck_any x vs _ (ObjIn.keep (alloc_old w (.cells #[.string x.name, vs] 50)) h))
 obtain ⟨p, c, rfl⟩ : ∃ p c, vs = .slice p (x.syms).length c := by
  obtain ⟨⟨p, c, _, _, h1, _⟩, _⟩ := h; exact ⟨p, c, h1⟩
 clear h; generalize mayP x = ok at HCK; obtain ⟨xn, xs⟩ := x; simp only [] at HCK; cases ok
 all_goals
  simp only [errB, if_true, Bool.false_eq_true, if_false] at HCK; go_enter Tryz.func55, Tryz.ntmps55; go_wp2_with (go_at_call 30; refine HCK.out.mono ?_; rintro e w1 ⟨rfl, hB⟩); go_ret; exact ⟨rfl, (alloc_old w _).trans (hB.mono (by simp))⟩
theorem pullO_enters (args : Array Value) (w : World) : (callFunc 55 args).run Tryz.prog w = .ok (.enter 55 args) w := enters_of Tryz.func55 (by kernel_rfl) rfl args w
theorem containsO_any (v : Value) (l : List GObj) (w : World) (h : RowAt 2 ObjR w v l) :
 Calls Tryz.prog 54 #[v, .func (.func 55) #[] #[]] w fun e w' => e = .returned (.bool (l.any fun o => !mayP o)) ∧ Below w.heap.size w w' := by
 obtain ⟨p, cap, b, o, ts, rfl, hts, hcap, hmax, hp, hin, hc⟩ := objs_pairs2 h
 by_cases h0 : l.length = 0
 ·obtain rfl : l = [] := List.eq_nil_of_length_eq_zero h0; refine (containsO_nil p cap _ w).mono ?_; rintro e w' ⟨rfl, rfl⟩; exact ⟨rfl, Below.refl _ _⟩
 ·obtain ⟨rfl, hb⟩ := hp (by omega)
  have hl : ts.length = l.length := by rw [← hts, List.length_map]
  have h00 : 0 < ts.length := by omega
  letI : Inhabited {t : GObj × Value // ObjIn w t.1 t.2} := ⟨⟨ts[0], hin _ (List.getElem_mem h00)⟩⟩
  have hzl : (ts.pmap (fun t ht => (⟨t, ht⟩ : {t : GObj × Value // ObjIn w t.1 t.2})) hin).length = l.length := by rw [List.length_pmap, hl]
  have := Go.Proofs.AnyQ.slices_ContainsFunc Tryz.containsFuncObject 2 Tryz.isAgg50 Tryz.sizeOf50 (fun t : {t : GObj × Value // ObjIn w t.1 t.2} => obCells t.1) (fun _ => rfl) (fun t => !mayP t.1.1) 55 #[] pullO_enters b o l.length cap (ts.pmap (fun t ht => ⟨t, ht⟩) hin) w
   (fun W t hW => (pullO_any t.1.1 t.1.2 W (ObjIn.keep hW t.2)).mono fun e w' ⟨h1, h2⟩ => ⟨h1, hW.trans (h2.mono hW.size)⟩) (by omega) (by omega) hb (fun j hj i u hv => by
   have hj' : j < ts.length := by rw [hzl] at hj; omega
   rw [getElem!_pos _ j hj, List.getElem_pmap] at hv
   have hi : i < 2 := by
    have := (List.getElem?_eq_some_iff.1 hv).1; exact this
   have h1 := flat_get obCells_len ts j i hj' hi; have h2 := hc (j * 2 + i) u (h1.trans hv); rw [add_at, ← Nat.add_assoc] at h2; exact h2)
  rw [List.take_of_length_le (by omega)] at this
  have e : ((ts.pmap (fun t ht => (⟨t, ht⟩ : {t : GObj × Value // ObjIn w t.1 t.2})) hin).any fun t => !mayP t.1.1) = l.any fun o => !mayP o := by
   rw [← hts, List.any_map]; rw [Bool.eq_iff_iff]; simp only [List.any_eq_true, List.mem_pmap, Function.comp]; constructor
   ·rintro ⟨t, ⟨a, ha, rfl⟩, h2⟩; exact ⟨a, ha, h2⟩
   ·rintro ⟨a, ha, h2⟩; exact ⟨⟨a, hin a ha⟩, ⟨a, ha, rfl⟩, h2⟩
  rw [e] at this; exact this
set_option maxHeartbeats 400000 in
theorem indexA_nil (a : Option Addr) (c : Nat) (fv : Value) (w : World) : Calls Tryz.prog 99 #[.slice a 0 c, fv] w fun e w' => e = .returned (.int .i64 (-1)) ∧ w' = w := by
 go_enter Tryz.func99, Tryz.ntmps99; go_wp2
 go_loopw [8] (fun i wr => i = .int .i64 0 ∧ wr = w) (fun _ _ => 0)
 case atStart => exact ⟨rfl, rfl⟩
 case round =>
  obtain ⟨rfl, rfl⟩ := hrel; go_wp2; go_ret; exact ⟨rfl, rfl⟩
set_option maxHeartbeats 400000 in
theorem containsA_nil (a : Option Addr) (c : Nat) (fv : Value) (w : World) : Calls Tryz.prog 56 #[.slice a 0 c, fv] w fun e w' => e = .returned (.bool false) ∧ w' = w := by
 have HI := Lib.hid (indexA_nil a c fv w); go_enter Tryz.func56, Tryz.ntmps56; go_wp2_with (go_at_call 99; refine HI.out.mono ?_; rintro e w1 ⟨rfl, rfl⟩); go_ret; exact ⟨rfl, rfl⟩
set_option maxHeartbeats 1000000 in
theorem pullA_any (x : GArc) (vs : Value) (w : World) (h : ArcIn w x vs) : Calls Tryz.prog 57 #[.agg #[.string x.name, vs]] w fun e w' => e = .returned (.bool (!arcOk x)) ∧ Below w.heap.size w w' := by
 have HCK := Lib.hid (arcCheck_any x vs _ (ArcIn.keep (alloc_old w (.cells #[.string x.name, vs] 24)) h))
 obtain ⟨p, c, rfl⟩ : ∃ p c, vs = .slice p (x.members).length c := by
  obtain ⟨⟨p, c, _, _, h1, _⟩, _⟩ := h; exact ⟨p, c, h1⟩
 clear h; generalize arcOk x = ok at HCK; obtain ⟨xn, xs⟩ := x; simp only [] at HCK; cases ok
 all_goals
  simp only [errB, if_true, Bool.false_eq_true, if_false] at HCK; go_enter Tryz.func57, Tryz.ntmps57; go_wp2_with (go_at_call 10; refine HCK.out.mono ?_; rintro e w1 ⟨rfl, hB⟩); go_ret; exact ⟨rfl, (alloc_old w _).trans (hB.mono (by simp))⟩
theorem pullA_enters (args : Array Value) (w : World) : (callFunc 57 args).run Tryz.prog w = .ok (.enter 57 args) w := enters_of Tryz.func57 (by kernel_rfl) rfl args w
theorem containsA_any (v : Value) (l : List GArc) (w : World) (h : RowAt 2 ArcR w v l) :
 Calls Tryz.prog 56 #[v, .func (.func 57) #[] #[]] w fun e w' => e = .returned (.bool (l.any fun o => !arcOk o)) ∧ Below w.heap.size w w' := by
 obtain ⟨p, cap, b, o, ts, rfl, hts, hcap, hmax, hp, hin, hc⟩ := arcs_pairs h
 by_cases h0 : l.length = 0
 ·obtain rfl : l = [] := List.eq_nil_of_length_eq_zero h0; refine (containsA_nil p cap _ w).mono ?_; rintro e w' ⟨rfl, rfl⟩; exact ⟨rfl, Below.refl _ _⟩
 ·obtain ⟨rfl, hb⟩ := hp (by omega)
  have hl : ts.length = l.length := by rw [← hts, List.length_map]
  have h00 : 0 < ts.length := by omega
  letI : Inhabited {t : GArc × Value // ArcIn w t.1 t.2} := ⟨⟨ts[0], hin _ (List.getElem_mem h00)⟩⟩
  have hzl : (ts.pmap (fun t ht => (⟨t, ht⟩ : {t : GArc × Value // ArcIn w t.1 t.2})) hin).length = l.length := by rw [List.length_pmap, hl]
  have := Go.Proofs.AnyQ.slices_ContainsFunc Tryz.containsFuncArchive 2 Tryz.isAgg24 Tryz.sizeOf24 (fun t : {t : GArc × Value // ArcIn w t.1 t.2} => arCells t.1) (fun _ => rfl) (fun t => !arcOk t.1.1) 57 #[] pullA_enters b o l.length cap (ts.pmap (fun t ht => ⟨t, ht⟩) hin) w
   (fun W t hW => (pullA_any t.1.1 t.1.2 W (ArcIn.keep hW t.2)).mono fun e w' ⟨h1, h2⟩ => ⟨h1, hW.trans (h2.mono hW.size)⟩) (by omega) (by omega) hb (fun j hj i u hv => by
   have hj' : j < ts.length := by rw [hzl] at hj; omega
   rw [getElem!_pos _ j hj, List.getElem_pmap] at hv
   have hi : i < 2 := by
    have := (List.getElem?_eq_some_iff.1 hv).1; exact this
   have h1 := flat_get arCells_len ts j i hj' hi; have h2 := hc (j * 2 + i) u (h1.trans hv); rw [add_at, ← Nat.add_assoc] at h2; exact h2)
  rw [List.take_of_length_le (by omega)] at this
  have e : ((ts.pmap (fun t ht => (⟨t, ht⟩ : {t : GArc × Value // ArcIn w t.1 t.2})) hin).any fun t => !arcOk t.1.1) = l.any fun o => !arcOk o := by
   rw [← hts, List.any_map]; rw [Bool.eq_iff_iff]; simp only [List.any_eq_true, List.mem_pmap, Function.comp]; constructor
   ·rintro ⟨t, ⟨a, ha, rfl⟩, h2⟩; exact ⟨a, ha, h2⟩
   ·rintro ⟨a, ha, h2⟩; exact ⟨⟨a, hin a ha⟩, ⟨a, ha, rfl⟩, h2⟩
  rw [e] at this; exact this
end
section
open Go.ChangeShapes Go.WideShapes Go.ChangeAt Go.RowKit Go.Deep
section
variable {H : Type} {enc : TypeId × Value → H} {w : World} {base : Nat} {spare : Nat → Bool} {held : Bool}
theorem open_arcB (b o : Nat) (cs : List Value) (n : Nat) (d : DataW H × List MemPlace) (hb : b < w.heap.size) (hl : cs.length = 2) (hc : ∀ j, j < 2 → w.cell? ⟨b, o + j, none⟩ = cs[j]?)
 (h : DataW.trod enc Tryz.prog w base spare held n 24 cs = some d) (hs : Small Tryz.prog 24 d.1) : ∃ y, ArcR w b o y := by
 obtain ⟨m, hf⟩ := open_fields Tryz.underlying24 (by kernel_rfl) h hs hl
 obtain ⟨v0, y0, e0, t0, s0⟩ := hf 0 _ rfl; obtain ⟨v1, y1, e1, t1, s1⟩ := hf 1 _ rfl; obtain ⟨n0, c0, rfl, w0⟩ := DataW.trod_string Tryz.underlying9 t0; obtain ⟨u1, l1, c1, r1⟩ := open_row (R := fun w b o y => ObjR w b o y ∧ ObjBd y) Tryz.underlying22 (by kernel_rfl) (by omega) (of_decide_eq_true (by kernel_rfl)) open_objB t1 s1
 cases c0; cases c1; obtain ⟨r2, r3⟩ := r1.split; exact ⟨⟨n0, l1⟩, v1, hb, (hc 0 (by omega)).trans e0, (hc 1 (by omega)).trans e1, r2, small_bytes s0⟩
theorem open_arcs {v : Value} {d : DataW H} {p : List MemPlace} (h : DataW.Trod enc Tryz.prog w base spare held 26 v d p) (hsl : ∃ a n c, v = .slice a n c) (hs : Small Tryz.prog 26 d) : ∃ l, ArcsAt w v l := by
 obtain ⟨fuel, hf⟩ := h; obtain ⟨a, n, c, rfl⟩ := hsl; obtain ⟨v', l, hv, hr⟩ := open_row (x := (d, p)) (R := ArcR) Tryz.underlying26 (by kernel_rfl) (by omega) (of_decide_eq_true (by kernel_rfl)) open_arcB hf hs
 have : v' = .slice a n c := by simpa [Value.cells] using hv.symm
 subst this; exact ⟨l, hr⟩
theorem open_arcV {r : Go.Reach} {b0 : Nat} {v : Value} {d : DataW H} {p : List MemPlace} (hv : Value.okWide Tryz.prog w r b0 24 v) (h : DataW.Trod enc Tryz.prog w base spare held 24 v d p) (hs : Small Tryz.prog 24 d) :
 ∃ (o : GArc) (vs : Value), v = .agg #[.string o.name, vs] ∧ ArcIn w o vs ∧ ObjsBd o.members := by
 obtain ⟨cs, rfl, hsz⟩ := okWide_struct Tryz.underlying24 hv; obtain ⟨fuel, hf⟩ := h; have hC : Tryz.prog.cellsOf 24 = 2 := by kernel_rfl
 have hl : cs.toList.length = 2 := by rw [Array.length_toList]; exact hsz.trans hC
 have hf' : DataW.trod enc Tryz.prog w base spare held fuel 24 cs.toList = some (d, p) := by simpa [Value.cells] using hf
 obtain ⟨m, hff⟩ := open_fields Tryz.underlying24 (by kernel_rfl) hf' hs hl
 obtain ⟨v0, y0, e0, t0, s0⟩ := hff 0 _ rfl; obtain ⟨v1, y1, e1, t1, s1⟩ := hff 1 _ rfl; obtain ⟨n0, c0, rfl, w0⟩ := DataW.trod_string Tryz.underlying9 t0; obtain ⟨u1, l1, c1, r1⟩ := open_row (R := fun w b o y => ObjR w b o y ∧ ObjBd y) Tryz.underlying22 (by kernel_rfl) (by omega) (of_decide_eq_true (by kernel_rfl)) open_objB t1 s1
 cases c0; cases c1; obtain ⟨r2, r3⟩ := r1.split; refine ⟨⟨n0, l1⟩, v1, ?_, ⟨r2, small_bytes s0⟩, row_bytes Tryz.underlying22 (by kernel_rfl) t1 s1 r2, r3⟩
 have : cs.toList = [.string n0, v1] := by
  match hcs : cs.toList, hl with
  | [a, b], _ => rw [hcs] at e0 e1; cases e0; cases e1; rfl
 rw [← Array.toArray_toList (xs := cs), this]
end
end
end Go.Proofs.YtboegjdkedjhcaaGreatDoor
namespace Go.Proofs.YtboegjdkedjhcaaGreatDoor.IW
set_option maxRecDepth 100000
open Go.RowKit
theorem size_builder : (Tryz.prog.info? 83).map (·.size) = some 2 := by kernel_rfl
theorem lies_builder : liesAt Tryz.prog Tryz.prog.depth 140 (2 / Tryz.prog.cellsOf 140) 0 83 1 = true := by kernel_rfl
abbrev WrAt (B b : Nat) (p : Value) (l : BL) (w : World) : Prop := Lib.BuilderAt 140 5 B b p (Lib.byteCells l) w
def IsWr (B b : Nat) (l : BL) (w : World) : Prop := WrAt B b (.pointer none) l w ∨ WrAt B b (.pointer (some ⟨b, 0, none⟩)) l w
def NB (w : World) (g : Nat) : Prop := ∀ cur fr, w.heap[g]? ≠ some (.cells cur 5 fr)
structure KN (b : Nat) (w w' : World) : Prop where
 size : w.heap.size ≤ w'.heap.size
 block : ∀ g, g < w.heap.size → g ≠ b → NB w g → w'.heap[g]? = w.heap[g]?
theorem KN.refl (b : Nat) (w : World) : KN b w w := ⟨Nat.le_refl _, fun _ _ _ _ => rfl⟩
theorem KN.trans {b : Nat} {w w' w'' : World} (h : KN b w w') (k : KN b w' w'') : KN b w w'' :=
 ⟨Nat.le_trans h.size k.size, fun g hg hb hn => by
  have h1 := h.block g hg hb hn; rw [k.block g (Nat.lt_of_lt_of_le hg h.size) hb (fun cur fr => by rw [h1]; exact hn cur fr), h1]⟩
theorem KN.of_below {b : Nat} {w w' : World} (h : Below w.heap.size w w') : KN b w w' := ⟨h.size, fun g hg _ _ => h.block g hg⟩
def BX (b : Nat) (w : World) (g : Nat) (t : TypeId) (cs : Array Value) : Prop := g ≠ b ∧ t ≠ 5 ∧ w.heap[g]? = some (.cells cs t (0, 0))
theorem BX.lt {b : Nat} {w : World} {g : Nat} {t : TypeId} {cs : Array Value} (h : BX b w g t cs) : g < w.heap.size := by
 rcases Nat.lt_or_ge g w.heap.size with h' | h'
 ·exact h'
 ·have := h.2.2; simp [Array.getElem?_eq_none h'] at this
theorem BX.keep {b : Nat} {w w' : World} {g : Nat} {t : TypeId} {cs : Array Value} (h : BX b w g t cs) (k : KN b w w') : BX b w' g t cs := by
 refine ⟨h.1, h.2.1, ?_⟩; rw [k.block g h.lt h.1 (fun cur fr e => by have := h.2.2; rw [this] at e; injection e with e; injection e with _ e2 _; exact h.2.1 e2)]
 exact h.2.2
theorem BX.cell {b : Nat} {w : World} {g : Nat} {t : TypeId} {cs : Array Value} (h : BX b w g t cs) (j : Nat) : w.cell? ⟨g, j, none⟩ = cs[j]? := Lib.cell_of_heap h.2.2 j
theorem BX.new {b : Nat} {w : World} {t : TypeId} {cs : Array Value} (hb : b < w.heap.size) (ht : t ≠ 5) : BX b (w.alloc (.cells cs t)) w.heap.size t cs := ⟨by omega, ht, heap_alloc_new w _⟩
set_option maxHeartbeats 1000000 in
theorem copyCheck_used (b : Nat) (w : World) (h0 : w.cell? ⟨b, 0, none⟩ = some (.pointer (some ⟨b, 0, none⟩))) :
 Calls Tryz.prog 77 #[.pointer (some ⟨b, 0, none⟩)] w fun e w' => e = .returned (.tuple #[]) ∧ w' = w := by
 obtain ⟨j, hj, _⟩ := Option.map_eq_some_iff.1 size_builder; go_enter Tryz.func77, Tryz.ntmps77; go_wp2; rw [Lib.run_neq_ptr_same w _ Tryz.underlying80 hj]; go_wp2; go_end0; exact ⟨rfl, rfl⟩
set_option maxHeartbeats 1000000 in
theorem copyCheck_fresh (b : Nat) (w : World) (h0 : w.cell? ⟨b, 0, none⟩ = some (.pointer none)) (hsh : w.shape? b = some (140, 2)) (hfz : w.frozen? ⟨b, 0, none⟩ = false) :
 Calls Tryz.prog 77 #[.pointer (some ⟨b, 0, none⟩)] w fun e w' => e = .returned (.tuple #[]) ∧ w' = w.setCell ⟨b, 0, none⟩ (.pointer (some ⟨b, 0, none⟩)) := by
 obtain ⟨j, hj, hjs⟩ := Option.map_eq_some_iff.1 size_builder; go_enter Tryz.func77, Tryz.ntmps77; go_wp2; rw [Lib.run_to_unsafe w ⟨b, 0, none⟩ Tryz.underlying80 Tryz.underlying221 hj (by rw [hjs]; decide) hsh (Nat.zero_lt_succ 1)]
 simp only [Result.andThen]; rw [Oper.upon_value]; go_wp2; rw [run_callFunc_extern Tryz.func126 (by kernel_rfl) (by kernel_rfl) (by kernel_rfl) (e := Extern.AbiNoEscape.same) (by kernel_rfl)]
 rw [Lib.run_noEscape]; simp only [Result.andThen]; rw [Oper.upon_value]; go_wp2; rw [Lib.run_from_unsafe w ⟨b, 0, none⟩ Tryz.underlying221 Tryz.underlying80 hj hsh lies_builder]; simp only [Result.andThen]; rw [Oper.upon_value]; go_wp2; go_end0; exact ⟨rfl, rfl⟩
theorem copyCheck_any (B b : Nat) (l : BL) (w : World) (h : IsWr B b l w) :
 Calls Tryz.prog 77 #[.pointer (some ⟨b, 0, none⟩)] w fun e w' => e = .returned (.tuple #[]) ∧ (WrAt B b (.pointer (some ⟨b, 0, none⟩)) l w' ∧ Below B w w' ∧ KN b w w') := by
 rcases h with h | h
 ·refine (copyCheck_fresh b w h.cell0 h.shape h.frozen0).mono ?_; rintro e w' ⟨rfl, rfl⟩; exact ⟨rfl, h.used _, (Below.refl B w).setCell (p := ⟨b, 0, none⟩) h.1 _, by simp, fun g _ hb _ => Below.heap_setCell _ _ _ _ (by simpa using hb)⟩
 ·refine (copyCheck_used b w h.cell0).mono ?_; rintro e w' ⟨rfl, rfl⟩; exact ⟨rfl, h, Below.refl B _, KN.refl _ _⟩
def WPost (B b : Nat) (l : BL) (w w' : World) : Prop := IsWr B b l w' ∧ Below B w w' ∧ KN b w w'
theorem IsWr.keep {B b : Nat} {l : BL} {w w' : World} (h : IsWr B b l w) (k : Below w.heap.size w w') : IsWr B b l w' := by
 rcases h with ⟨h0, v, h1, h2, h3⟩ | ⟨h0, v, h1, h2, h3⟩
 ·have hlt : b < w.heap.size := Lib.BuilderAt.lt ⟨h0, v, h1, h2, h3⟩
  exact .inl ⟨h0, v, by rw [k.block b hlt]; exact h1, by
   refine ⟨h2.1, ?_⟩; rcases h2.2 with hn | ⟨g, cap, cur, rfl, hb, hg, rest⟩
   ·exact .inl hn
   ·exact .inr ⟨g, cap, cur, rfl, hb, by rw [k.block g (Array.getElem?_eq_some_iff.1 hg).1]; exact hg, rest⟩, h3⟩
 ·have hlt : b < w.heap.size := Lib.BuilderAt.lt ⟨h0, v, h1, h2, h3⟩
  exact .inr ⟨h0, v, by rw [k.block b hlt]; exact h1, by
   refine ⟨h2.1, ?_⟩; rcases h2.2 with hn | ⟨g, cap, cur, rfl, hb, hg, rest⟩
   ·exact .inl hn
   ·exact .inr ⟨g, cap, cur, rfl, hb, by rw [k.block g (Array.getElem?_eq_some_iff.1 hg).1]; exact hg, rest⟩, h3⟩
theorem IsWr.lt {B b : Nat} {l : BL} {w : World} (h : IsWr B b l w) : b < w.heap.size := h.elim Lib.BuilderAt.lt Lib.BuilderAt.lt
theorem WPost.trans {B b : Nat} {l l' : BL} {w w' w'' : World} (h : WPost B b l w w') (k : WPost B b l' w' w'') : WPost B b l' w w'' := ⟨k.1, h.2.1.trans k.2.1, h.2.2.trans k.2.2⟩
theorem WPost.keep {B b : Nat} {l : BL} {w w' w'' : World} (h : WPost B b l w w') (k : Below w'.heap.size w' w'') (hB : B ≤ w.heap.size) : WPost B b l w w'' := ⟨h.1.keep k, h.2.1.trans (k.mono (Nat.le_trans hB h.2.1.size)), h.2.2.trans (KN.of_below k)⟩
theorem strCells_bytes (s : ByteArray) : Lib.strCells s = Lib.byteCells s.data.toList := by
 simp [Lib.strCells, Lib.byteCells]
set_option maxHeartbeats 2000000 in
theorem writeString_any (B b : Nat) (l : BL) (s : ByteArray) (w : World) (h : IsWr B b l w) (hlen : l.length + s.size ≤ 140737488355328) (hBw : B ≤ w.heap.size) :
 Calls Tryz.prog 32 #[.pointer (some ⟨b, 0, none⟩), .string s] w fun e w' => e = .returned (.tuple #[.int .i64 s.size, .nilIface]) ∧ WPost B b (l ++ s.data.toList) w w' := by
 obtain ⟨i0, hi, hz0, hz1, hz2⟩ := info_parts info_byte; have HI := Lib.hid (And.intro hi (And.intro hz0 (And.intro hz1 hz2))); clear hi hz0 hz1 hz2; have HC := Lib.hid (copyCheck_any B b l w h); clear h; go_enter Tryz.func32, Tryz.ntmps32; go_wp2_with (go_at_call 77; refine HC.out.mono ?_); rintro e w1 ⟨rfl, h1, hb1, hkn1⟩; obtain ⟨hB, v, hbk, hown, hne⟩ := h1; have HKN1 := Lib.hid hkn1; clear hkn1; have c0 : w1.cell? ⟨b, 0, none⟩ = some (.pointer (some ⟨b, 0, none⟩)) := by rw [Lib.cell_of_heap hbk]; rfl
 have c1 : w1.cell? ⟨b, 1, none⟩ = some v := by rw [Lib.cell_of_heap hbk]; rfl
 rw [Lib.byteCells_length] at hown; have HOWN := Lib.hid hown; have HNE := Lib.hid hne; have HBK := Lib.hid hbk; have HB1 := Lib.hid hb1; clear hown hne hbk hb1; go_wp2_with (at_builtin; refine Lib.wpList_append_own_string _ rfl _ _ 81 9 rfl B 5 i0 Tryz.underlying81 Tryz.underlying9 HI.out.1 HI.out.2.1 HI.out.2.2.1 HI.out.2.2.2 _ _ _ rfl HOWN.out s rfl ?c3 ?c4 ?c5 ?_)
 case c3 => unfold maxLen; omega
 case c4 => omega
 case c5 => have := HB1.out.size; omega
 intro v' w2 hown' hgrow _
 have hlt : b < w1.heap.size := by
  rcases Nat.lt_or_ge b w1.heap.size with h' | h'
  ·exact h'
  ·have hbk := HBK.out; simp [Array.getElem?_eq_none h'] at hbk
 have hb2 : w2.heap[b]? = some (.cells #[.pointer (some ⟨b, 0, none⟩), v] 140 (0, 0)) := by
  rw [hgrow.block b hlt (fun e => HNE.out e.symm)]
  exact HBK.out
 have d0 : w2.cell? ⟨b, 0, none⟩ = some (.pointer (some ⟨b, 0, none⟩)) := by rw [Lib.cell_of_heap hb2]; rfl
 have d1 : w2.cell? ⟨b, 1, none⟩ = some v := by rw [Lib.cell_of_heap hb2]; rfl
 have f1 : w2.frozen? ⟨b, 1, none⟩ = false := Lib.frozen_of_heap hb2 1
 obtain ⟨ao, n', cap, rfl⟩ : ∃ ao n' cap, v' = .slice ao n' cap := by
  rcases hown'.2 with ⟨hv, _⟩ | ⟨g, cap, cur, hv, _⟩
  ·exact ⟨_, _, _, hv⟩
  ·exact ⟨_, _, _, hv⟩
 have HE1 := Lib.hid (Lib.BuilderAt.put (T := 140) (e := 5) hB hb2 (bs' := Lib.byteCells (l ++ s.data.toList)) (by rw [strCells_bytes] at hown'; simpa [Lib.byteCells] using hown') (by decide))
 have HE2 := Lib.hid ((HB1.out.grown hgrow (by have := HB1.out.size; omega) (fun k hk => (HOWN.out.lt k hk).1)).setCell (p := ⟨b, 1, none⟩) hB (.slice ao n' cap))
 have HKN : Hid (KN b w (w2.setCell ⟨b, 1, none⟩ (.slice ao n' cap))) := by
  refine HKN1.out.trans ⟨by simpa using hgrow.size, fun g hg hgb hn => ?_⟩
  rw [Below.heap_setCell _ _ _ _ (by simpa using hgb), hgrow.block g hg (fun e => ?_)]
  rcases HOWN.out.2 with ⟨hv, _⟩ | ⟨g', cap', cur, hv, _, hg', _⟩
  ·rw [hv] at e; cases e
  ·rw [hv] at e; cases e; exact hn _ _ hg'
 clear hown' hgrow hb2 c0 c1; go_wp2; go_ret2; exact ⟨rfl, .inr HE1.out, HE2.out, HKN.out⟩
set_option maxHeartbeats 1000000 in
theorem string_any (B b : Nat) (l : BL) (w : World) (h : IsWr B b l w) (h0 : l ≠ []) :
 Calls Tryz.prog 36 #[.pointer (some ⟨b, 0, none⟩)] w fun e w' => e = .returned (.string (bsOf l)) ∧ Below B w w' := by
 obtain ⟨p, hB, v, hbk, hown, hne⟩ : ∃ p, WrAt B b p l w := by
  rcases h with h | h
  ·exact ⟨_, h⟩
  ·exact ⟨_, h⟩
 have hl0 : l.length ≠ 0 := by simpa using h0
 rw [Lib.byteCells_length] at hown
 obtain ⟨g, cap, cur, rfl, hbg, hg, hnc, hcm, hcs, htake⟩ : ∃ g cap cur, v = .slice (some ⟨g, 0, none⟩) l.length cap ∧ B ≤ g ∧ w.heap[g]? = some (.cells cur 5 (0, 0)) ∧ l.length ≤ cap ∧ cap ≤ maxLen ∧ cur.size = cap * 1 ∧ cur.toList.take (l.length * 1) = Lib.byteCells l := by
  rcases hown.2 with ⟨_, hz⟩ | ⟨g, cap, cur, hv, r⟩
  ·exact absurd hz hl0
  ·exact ⟨g, cap, cur, hv, r⟩
 have c1 : w.drew.cell? ⟨b, 1, none⟩ = some (.slice (some ⟨g, 0, none⟩) l.length cap) := by
  have : w.drew.heap[b]? = some (.cells #[p, .slice (some ⟨g, 0, none⟩) l.length cap] 140 (0, 0)) := hbk; rw [Lib.cell_of_heap this]; rfl
 have hSD : (Builtin.unsafeSliceData_ #[81] 156 #[.slice (some ⟨g, 0, none⟩) l.length cap]).run Tryz.prog w.drew = .ok (.pointer (some ⟨g, 0, none⟩)) w.drew :=
  Lib.run_unsafeSliceData_row _ _ _ _ _ _ (by omega)
 have hUS : (Builtin.unsafeString_ #[156, 3] 9 #[.pointer (some ⟨g, 0, none⟩), .int .i64 l.length]).run Tryz.prog w.drew = .ok (.string (bsOf l)) (w.drew.freeze ⟨g, 0, none⟩ l.length) := by
  refine Lib.run_unsafeString_row w.drew 156 3 9 5 Tryz.underlying156 (by kernel_rfl) g cur.size (by have hg' : w.drew.heap[g]? = some (.cells cur 5 (0, 0)) := hg; simp [World.shape?, hg']) l h0 (by omega) (by unfold maxLen at hcm; omega) ?_
  intro j x hx; have := hown.cells (g := g) rfl j (.int .u8 x.toNat) (by simp [Lib.byteCells, hx])
  exact this
 have HH := Lib.hid hbg; clear hown hne hbk hg htake hcs hcm hl0 h0 h; go_enter Tryz.func36, Tryz.ntmps36; go_wp2
 go_region
 all_goals (go_wp2; go_ret; exact ⟨rfl, Lib.below_freeze (Below.drew (Below.refl B w)) (p := ⟨g, 0, none⟩) HH.out _⟩)
set_option maxHeartbeats 1000000 in
theorem nums_any (B b g n : Nat) (xs : List Int) (l : BL) (w : World) (h : IsWr B b l w) (hg : BX b w g 51 (xs.map (Value.int .u32)).toArray) (hn : n = 1 ∨ n = 2 ∨ n = 4) (hx : ∀ x ∈ xs, 0 ≤ x ∧ x < pow256 n) (hxl : xs.length ≤ 2) (hlen : l.length ≤ 1000000000) (hB : B ≤ w.heap.size) :
 Calls Tryz.prog 72 #[.pointer (some ⟨b, 0, none⟩), .int .i64 n, .slice (some ⟨g, 0, none⟩) xs.length xs.length] w fun e w' => e = .returned (.tuple #[]) ∧ WPost B b (l ++ xs.flatMap (leB n)) w w' := by
 have HW : Hid (WPost B b (l ++ (xs.take 0).flatMap (leB n)) w w) := ⟨by simpa using h, Below.refl _ _, KN.refl _ _⟩
 have HG := Lib.hid hg; have HX := Lib.hid hx; have HN := Lib.hid hn; have hn4 : n ≤ 4 := by omega
 clear h hg hx hn; go_enter Tryz.func72, Tryz.ntmps72; go_wp2
 go_loopw [12] (fun v12 wr => ∃ i : Nat, i ≤ xs.length ∧ v12 = .int .i64 i ∧ WPost B b (l ++ (xs.take i).flatMap (leB n)) w wr) (fun v12 _ => xs.length - (intOf v12).toNat)
 case atStart => exact ⟨0, Nat.zero_le _, rfl, HW.out⟩
 case round =>
  obtain ⟨i, hi, rfl, hw⟩ := hrel; clear HW; have HW := Lib.hid hw; clear hw; have hBr : B ≤ wr.heap.size := Nat.le_trans hB HW.out.2.1.size
  by_cases hlt : i < xs.length
  ·have c := (HG.out.keep HW.out.2.2).cell i; rw [List.getElem?_toArray, List.getElem?_map, List.getElem?_eq_getElem hlt, Option.map_some] at c; have hb := HX.out _ (List.getElem_mem hlt)
   have HL : Hid (((xs.take i).flatMap (leB n)).length ≤ 8) := by
    rw [Hid, show ((xs.take i).flatMap (leB n)).length = (xs.take i).length * n from ?_]
    ·rw [List.length_take]; have h1 : min i xs.length ≤ 2 := by omega
     have h2 : n ≤ 4 := by rcases HN.out with h | h | h <;> omega
     exact Nat.le_trans (Nat.mul_le_mul h1 h2) (by omega)
    ·induction xs.take i with
     | nil => simp
     | cons a r ih => rw [List.flatMap_cons, List.length_append, ih, leB_length, List.length_cons, Nat.succ_mul]; omega
   have HT : Hid (l ++ (xs.take (i + 1)).flatMap (leB n) = (l ++ (xs.take i).flatMap (leB n)) ++ leB n xs[i]) := by
    rw [Hid, List.take_succ_eq_append_getElem hlt, List.flatMap_append, List.flatMap_singleton, List.append_assoc]
   generalize xs[i] = x at c hb HT; have HC := Lib.hid (pnum_any n x wr HN.out hb.1 hb.2); clear hb; go_wp2_with fail; refine HC.out.mono ?_; rintro e w1 ⟨rfl, hB1⟩; have HS := Lib.hid (writeString_any B b (l ++ (xs.take i).flatMap (leB n)) (bsOf (leB n x)) w1 (HW.out.1.keep hB1) (by rw [bsOf_size, leB_length, List.length_append]; have := HL.out; omega) (Nat.le_trans hBr hB1.size))
   have HB1 := Lib.hid hB1; clear hB1 HC c; go_wp2_with fail; refine HS.out.mono ?_; rintro e w2 ⟨rfl, h2⟩; have H2 := Lib.hid h2; clear h2 HS; go_wp2; go_roundw
   case rel => exact ⟨i + 1, by omega, by go_num, by rw [HT.out]; exact (HW.out.keep HB1.out hB).trans H2.out⟩
   case measure => simp [intOf]; omega
  ·have HE : Hid (xs.take i = xs) := List.take_of_length_le (by omega)
   have hw := HW.out; rw [HE.out] at hw; have HW2 := Lib.hid hw; clear hw HE; go_wp2; go_end0; exact ⟨rfl, HW2.out⟩
theorem num_any (B b n : Nat) (x : Int) (l : BL) (w : World) (h : IsWr B b l w) (hn : n = 1 ∨ n = 2 ∨ n = 4) (hx : 0 ≤ x ∧ x < pow256 n) (hlen : l.length ≤ 1000000000) (hB : B ≤ w.heap.size) :
 Calls Tryz.prog 72 #[.pointer (some ⟨b, 0, none⟩), .int .i64 n, .slice (some ⟨w.heap.size, 0, none⟩) 1 1] (w.alloc (.cells #[.int .u32 x] 51)) fun e w' => e = .returned (.tuple #[]) ∧ WPost B b (l ++ leB n x) w w' := by
 have hB2 : B ≤ (w.alloc (.cells #[.int .u32 x] 51)).heap.size := by simp; omega
 refine (nums_any B b w.heap.size n [x] l _ (h.keep (alloc_old _ _)) ⟨by have := h.lt; omega, by decide, heap_alloc_new w _⟩ hn (fun y hy => by rw [List.mem_singleton] at hy; subst hy; exact hx) (by simp) hlen hB2).mono ?_
 rintro e w' ⟨rfl, h1⟩; rw [List.flatMap_singleton] at h1; exact ⟨rfl, h1.1, ((alloc_old w _).mono hB).trans h1.2.1, (KN.of_below (alloc_old w _)).trans h1.2.2⟩
end Go.Proofs.YtboegjdkedjhcaaGreatDoor.IW
