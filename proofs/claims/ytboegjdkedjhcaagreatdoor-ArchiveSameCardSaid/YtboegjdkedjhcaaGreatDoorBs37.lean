/- The walk of archive.Wanting. The state of the archive's puller, and the walk of puller.member. The walk of aediculelaw35.sym. -/
import Derived.Test.YtboegjdkedjhcaaGreatDoorBs33
import Derived.Test.YtboegjdkedjhcaaGreatDoorBs28
import Derived.Test.YtboegjdkedjhcaaGreatDoorBs26
import Derived.Test.YtboegjdkedjhcaaGreatDoorBs03
import Derived.Deep.QuietTactic
import Derived.WalkKit
import Derived.Lib.Hide
import Derived.Test.YtboegjdkedjhcaaGreatDoorRows
import Derived.Test.YtboegjdkedjhcaaGreatDoorBs36
namespace Go.Proofs.YtboegjdkedjhcaaGreatDoor
set_option maxRecDepth 100000
section
open Go.RowKit Go.Maps
def SmallO (o : GObj) : Prop := o.syms.length ≤ 10000 ∧ (o.syms.flatMap fun s => s.rels).length ≤ 65536
theorem symsN_le : ∀ {l : List GObj}, (∀ o ∈ l, SmallO o) → symsN l ≤ l.length * 10000
 | [], _ => by simp [symsN]
 | o :: r, h => by
   have ih := symsN_le (l := r) fun x hx => h x (List.mem_cons_of_mem _ hx)
   have h1 := (h o (List.mem_cons_self ..)).1; simp only [symsN, List.flatMap_cons, List.length_append, List.length_cons] at ih ⊢; omega
theorem relsN_le : ∀ {l : List GObj}, (∀ o ∈ l, SmallO o) → relsN l ≤ l.length * 65536
 | [], _ => by simp [relsN]
 | o :: r, h => by
   have ih := relsN_le (l := r) fun x hx => h x (List.mem_cons_of_mem _ hx)
   have h1 := (h o (List.mem_cons_self ..)).2; simp only [relsN, List.flatMap_cons, List.length_append, List.length_cons] at ih ⊢; omega
theorem flat35_le {α β : Type} (f : α → List β) (c : Nat) : ∀ (l : List α), (∀ x ∈ l, (f x).length ≤ c) → (l.flatMap f).length ≤ l.length * c
 | [], _ => by simp
 | x :: r, h => by
   have ih := flat35_le f c r fun y hy => h y (List.mem_cons_of_mem _ hy)
   have h1 := h x (List.mem_cons_self ..); rw [List.flatMap_cons, List.length_append, List.length_cons, Nat.succ_mul]; omega
theorem small_may {o : GObj} (h : mayP o = true) : SmallO o := by
 simp only [mayP, Bool.and_eq_true, decide_eq_true_eq] at h; obtain ⟨⟨h1, -⟩, h2⟩ := h
 have h3 := flat35_le (fun s : GSym => s.rels) 1024 o.syms fun s hs => by
  have h4 := symsGo_each _ _ h1 s hs; simp only [symOkP, placesOk, Bool.and_eq_true, decide_eq_true_eq] at h4; omega
 exact ⟨by omega, Nat.le_trans h3 (Nat.le_trans (Nat.mul_le_mul_right 1024 h2) (by decide))⟩
theorem symsN_app (a b : List GObj) : symsN (a ++ b) = symsN a + symsN b := by simp [symsN]
theorem defB_snoc (l : List GObj) (o : GObj) : (fun n => defB l n || defS o.syms n) = defB (l ++ [o]) := by funext n; simp [defB]
def mayL (l : List GObj) : List GObj := l.filter mayP
theorem mayL_snoc {l : List GObj} {k : Nat} {x : GObj} (h : k < l.length) (hx : l[k] = x) : mayL (l.take (k + 1)) = mayL (l.take k) ++ if mayP x = true then [x] else [] := by
 rw [List.take_succ_eq_append_getElem h, hx, mayL, List.filter_append]
 by_cases hm : mayP x = true <;> simp [mayL, hm]
def ScopeOf (w0 : World) (sb mb : Nat) (v : Value) (ts : List (GObj × Value)) (w : World) : Prop := ScopeSt w0 sb mb v ts (symsN (ts.map (·.1))) (defB (ts.map (·.1))) w
theorem ScopeOf.put {w0 : World} {sb mb : Nat} {v : Value} {ts : List (GObj × Value)} {o : GObj} {vs : Value} {w : World} (h : ScopeOf w0 sb mb v ts w) (ho : ObjIn w0 o vs) (hs : ∀ t ∈ ts, SmallO t.1) (ho2 : SmallO o) (hT : ts.length ≤ 5000) :
 Calls Tryz.prog 60 #[.pointer (some ⟨sb, 0, none⟩), .agg #[.string o.name, vs]] w fun e w' => e = .returned (.tuple #[]) ∧ ∃ v', ScopeOf w0 sb mb v' (ts ++ [(o, vs)]) w' ∧ KB (SB sb mb v) w w' ∧ (v'.ownBlock = v.ownBlock ∨ ∃ g, v'.ownBlock = some g ∧ w.heap.size ≤ g) := by
 have h1 := symsN_le (l := ts.map (·.1)) fun x hx => by obtain ⟨t, ht, rfl⟩ := List.mem_map.1 hx; exact hs t ht
 rw [List.length_map] at h1; have h2 := ho2.1; refine (sput_any w0 sb mb v ts _ _ o vs w h ho (by omega) (by omega)).mono ?_
 rintro e w' ⟨rfl, v', h3, h4, h5⟩; refine ⟨rfl, v', ?_, h4, h5⟩; unfold ScopeOf; rw [List.map_append, show List.map (·.1) [(o, vs)] = [o] from rfl, symsN_app, ← defB_snoc, show symsN [o] = o.syms.length by simp [symsN]]
 exact h3
theorem ScopeOf.wants {w0 : World} {sb mb : Nat} {v : Value} {ts : List (GObj × Value)} {w : World} (h : ScopeOf w0 sb mb v ts w) (hs : ∀ t ∈ ts, SmallO t.1) (hT : ts.length ≤ 5000) (nm : ByteArray) (hn : nm.size ≤ 140737488355328) :
 Calls Tryz.prog 59 #[.pointer (some ⟨sb, 0, none⟩), .string nm] w (WantPost w (onceT (sortT (wantsRaw (defB (ts.map (·.1))) nm.data.toList (ts.map (·.1)))))) := by
 have hs' : ∀ x ∈ ts.map (·.1), SmallO x := fun x hx => by obtain ⟨t, ht, rfl⟩ := List.mem_map.1 hx; exact hs t ht
 have h1 := relsN_le hs'; rw [List.length_map] at h1; exact wanting_l sb mb v _ _ _ nm w (Lib.cell_of_heap h.box 0) (Lib.cell_of_heap h.box 1) h.lt h.map (h.row.objs h.blw (by omega)) hn (by omega) (fun o ho => (hs' o ho).1)
theorem ScopeOf.keep {w0 : World} {sb mb : Nat} {v : Value} {ts : List (GObj × Value)} {w w' : World} (h : ScopeOf w0 sb mb v ts w) (hb : Below w.heap.size w w') : ScopeOf w0 sb mb v ts w' := ScopeSt.keep h hb
theorem defB_nil : boolF (defB []) = fun _ => none := by funext n; simp [boolF, defB]
set_option maxHeartbeats 2000000 in
theorem wanting_any (v : Value) (l : List GObj) (nm : ByteArray) (w : World) (h : ObjsAt w v l) (hs : ∀ o ∈ l, SmallO o) (hl : l.length ≤ 5000) (hn : nm.size ≤ 140737488355328) :
 Calls Tryz.prog 20 #[.string nm, v] w (WantPost w (onceT (sortT (wantsRaw (defB (mayL l)) nm.data.toList (mayL l))))) := by
 obtain ⟨p, cap, b, o, rfl, hcap, hmax, hp, hc⟩ := h; have HP := Lib.hid hp; have HC := Lib.hid hc; have HS := Lib.hid hs; have HN := Lib.hid hn; clear hp hc hs; have hmm := @run_makeMap Tryz.prog; go_enter Tryz.func20, Tryz.ntmps20; go_wp2; clear hmm
 go_loopw [13] (fun v13 wr => ∃ (k : Nat) (vo : Value) (ts : List (GObj × Value)), k ≤ l.length ∧ v13 = .int .i64 k ∧ ts.map (·.1) = mayL (l.take k) ∧ ScopeOf w (w.heap.size + 1) w.heap.size vo ts wr) (fun v13 _ => l.length - (intOf v13).toNat)
 case atStart =>
  refine ⟨0, .slice none 0 0, [], Nat.zero_le _, rfl, rfl, ?_, OwnObs.nil _ _, ?_, by omega, Nat.le_refl _, ((alloc_old w _).alloc (by simp) _)⟩
  ·have := new_block (w.alloc (.map #[] 0)) (.cells #[.slice none 0 0, .map (some w.heap.size)] 131); simpa using this
  ·have := MapFn.made Tryz.prog 9 w; rw [show (fun _ => none) = boolF (defB (([] : List (GObj × Value)).map (·.1))) from defB_nil.symm] at this
   exact this.alloc _
 case round =>
  obtain ⟨k, vo, ts, hk, rfl, hts, hst⟩ := hrel; have HTS := Lib.hid hts; have HST := Lib.hid hst; have hsl : w.heap.size + 1 < wr.heap.size := hst.lt
  have HSM : Hid (∀ t ∈ ts, SmallO t.1) := fun t ht => by
   have : t.1 ∈ mayL (l.take k) := by rw [← hts]; exact List.mem_map_of_mem ht
   exact HS.out _ (List.mem_of_mem_take (List.mem_filter.1 this).1)
  have hlt0 : ts.length ≤ 5000 := by
   have : (ts.map (·.1)).length ≤ l.length := by
    rw [hts]; exact Nat.le_trans (List.length_filter_le _ _) (by rw [List.length_take]; omega)
   rw [List.length_map] at this; omega
  have HLT := Lib.hid hlt0; clear hts hst hlt0
  by_cases hlt : k < l.length
  ·obtain rfl := HP.out (by omega)
   obtain ⟨vs, g0, g1, g2, hin⟩ := HC.out k hlt; have hmk := cell_keep HST.out.blw g0 g1; have hmk2 := cell_keep HST.out.blw g0 g2; have hg0 := size_keep HST.out.blw g0; have hsn := mayL_snoc hlt rfl; have hso := HS.out _ (List.getElem_mem hlt); generalize hx : l[k] = x at hmk hmk2 hin hsn hso; clear hx g0 g1 g2; obtain ⟨yn, ys⟩ := x; have HIN := Lib.hid hin; obtain ⟨pS, capS, rfl⟩ := hin.form; simp only [] at hmk hmk2 hsn HIN; have HSN := Lib.hid hsn; have HSO := Lib.hid hso; clear hsn hso hin; have HIW := Lib.hid (HIN.out.keep HST.out.blw); have HCK := Lib.hid (objCheck_any ⟨yn, ys⟩ _ _ (ObjIn.keep (alloc_old wr (.cells #[.string yn, .slice pS ys.length capS] 50)) HIW.out)); generalize hmy : mayP ⟨yn, ys⟩ = my at HCK HSN; clear hmy; simp only [] at HCK; cases my with
   | false =>
     simp only [errB, Bool.false_eq_true, if_false, List.append_nil] at HCK HSN; go_wp2_with (go_at_call 30; refine HCK.out.mono ?_; rintro e w1 ⟨rfl, hB⟩); have HB1 : Hid (Below wr.heap.size wr w1) := (alloc_old wr _).trans (hB.mono (by simp))
     go_roundw
     case rel => exact ⟨k + 1, vo, ts, by omega, by go_num, HTS.out.trans HSN.out.symm, HST.out.keep HB1.out⟩
     case measure => simp [intOf]; omega
   | true =>
     simp only [errB, if_true] at HCK HSN; go_wp2_with fail; refine HCK.out.mono ?_; rintro e w1 ⟨rfl, hB⟩; have d0 : w1.cell? ⟨wr.heap.size, 0, none⟩ = some (.string yn) := by rw [hB.cell (by simp)]; simp [go_sem]
     have d1 : w1.cell? ⟨wr.heap.size, 1, none⟩ = some (.slice pS ys.length capS) := by rw [hB.cell (by simp)]; simp [go_sem]
     have HB1 : Hid (Below wr.heap.size wr w1) := (alloc_old wr _).trans (hB.mono (by simp))
     have HPUT := Lib.hid ((HST.out.keep HB1.out).put HIN.out HSM.out HSO.out HLT.out); clear hB; go_wp2_with fail; refine HPUT.out.mono ?_; rintro e w2 ⟨rfl, v2, hs2, -, -⟩; have HS2 := Lib.hid hs2; clear hs2; go_wp2; go_roundw
     case rel => exact ⟨k + 1, v2, ts ++ [(⟨yn, ys⟩, .slice pS ys.length capS)], by omega, by go_num, by rw [List.map_append, HTS.out, HSN.out]; rfl, HS2.out⟩
     case measure => simp [intOf]; omega
  ·obtain rfl : k = l.length := by omega
   rw [List.take_length] at HTS; have HW := Lib.hid (HST.out.wants HSM.out HLT.out nm HN.out); rw [HTS.out] at HW; go_wp2_with fail; refine HW.out.mono ?_; rintro e w2 ⟨vo2, rfl, hr2, hB2⟩; have HR2 : Hid (ERow encStr 9 w.heap.size w2 vo2 _) := owns_mono hr2 HST.out.blw.size; have HB2 : Hid (Below w.heap.size w w2) := HST.out.blw.trans (hB2.mono HST.out.blw.size); clear hr2 hB2; go_wp2_with fail; go_ret; exact ⟨_, rfl, HR2.out, HB2.out⟩
end
section
open Go.RowKit Go.Maps Go.WideMaps
def entV (x : GEnt) : Value := .agg #[.string x.name, .int .i64 x.mem, .int .u8 x.bind]
def ent0 : GEnt := ⟨⟨#[]⟩, 0, 0⟩
def bestF (G : List UInt8 → Option GEnt) (n : List UInt8) : Option Value := (G n).map entV
def inF (I : Nat → Bool) (k : Nat) : Option Value := if I k then some (.bool true) else none
theorem intKeyed : Keyed Tryz.prog 3 := int_keyed Tryz.underlying3
noncomputable def intE : KeyEnc Tryz.prog 3 Nat where
 enc k := .int .i64 k
 lit k := .int .i64 k
 ok k := k ≤ 9223372036854775807
 key k h := keyOf_int_mk Tryz.underlying3 (WalkArith.wf_i64 (by omega))
 inj a b h := by simp at h; exact_mod_cast h
theorem zeroEnt (w : World) : (zeroValue 47).run Tryz.prog w = .ok (entV ent0) w := by kernel_rfl
theorem bestF_get (G : List UInt8 → Option GEnt) (n : List UInt8) : (bestF G n).getD (entV ent0) = entV ((G n).getD ent0) := by unfold bestF; cases G n <;> rfl
theorem bestF_some (G : List UInt8 → Option GEnt) (n : List UInt8) : (bestF G n).isSome = (G n).isSome := by unfold bestF; cases G n <;> rfl
def updG (G : List UInt8 → Option GEnt) (x : GEnt) (n : List UInt8) : Option GEnt := if n = x.name.data.toList then some x else G n
theorem bestF_upd (G : List UInt8 → Option GEnt) (x : GEnt) : (fun l => if l = x.name.data.toList then some (entV x) else bestF G l) = bestF (updG G x) := by
 funext n
 unfold bestF updG; split <;> simp_all
theorem map_ne_map {P : Program} {kt : TypeId} {w : World} {b c m : Nat} {f : List UInt8 → Option Value} {cs : Array Value} {T : TypeId} (hm : MapFn P kt w b m f) (hb : w.heap[c]? = some (.cells cs T (0, 0))) : c ≠ b := by
 rintro rfl; obtain ⟨D, ⟨es, clock, h1, h2⟩, hf⟩ := hm; rw [hb] at h1; cases h1
theorem mapK_ne {P : Program} {kt : TypeId} {α : Type} {E : KeyEnc P kt α} {w : World} {b c m : Nat} {f : α → Option Value} {cs : Array Value} {T : TypeId} (hm : MapKFn E w b m f) (hb : w.heap[c]? = some (.cells cs T (0, 0))) : c ≠ b := by
 rintro rfl; obtain ⟨D, ⟨es, clock, h1, h2⟩, hf⟩ := hm; rw [hb] at h1; cases h1
theorem own_ne_mapK {P : Program} {kt : TypeId} {α : Type} {E : KeyEnc P kt α} {w : World} {B : Nat} {e : TypeId} {k n b m : Nat} {v : Value} {xs : List Value} {f : α → Option Value} (h : w.ownsRow B e k v n xs) (hm : MapKFn E w b m f) : v.ownBlock ≠ some b := fun hg => by
 obtain ⟨D, ⟨es, clock, h1, h2⟩, hf⟩ := hm; obtain ⟨cur, h2⟩ := own_type h hg; rw [h1] at h2; cases h2
structure PullSt (w0 : World) (pb sb mb bb ib : Nat) (va v : Value) (us ts : List (GObj × Value)) (nb : Nat) (G : List UInt8 → Option GEnt) (ni : Nat) (I : Nat → Bool) (w : World) : Prop where
 box : w.heap[pb]? = some (.cells #[.pointer (some ⟨sb, 0, none⟩), va, .map (some bb), .map (some ib)] 119 (0, 0))
 scope : ScopeOf w0 sb mb v ts w
 all : OwnObs w0 w va us
 best : MapFn Tryz.prog 9 w bb nb (bestF G)
 inm : MapKFn intE w ib ni (inF I)
 pbl : w0.heap.size ≤ pb
 bbl : w0.heap.size ≤ bb
 ibl : w0.heap.size ≤ ib
 bm : bb ≠ mb
 im : ib ≠ mb
 bi : bb ≠ ib
 av : ∀ g, va.ownBlock = some g → v.ownBlock ≠ some g
section
variable {w0 : World} {pb sb mb bb ib : Nat} {va v : Value} {us ts : List (GObj × Value)} {nb : Nat} {G : List UInt8 → Option GEnt} {ni : Nat} {I : Nat → Bool} {w : World}
theorem PullSt.lt (h : PullSt w0 pb sb mb bb ib va v us ts nb G ni I w) : pb < w.heap.size := (Array.getElem?_eq_some_iff.1 h.box).1
theorem PullSt.keep {w' : World} (h : PullSt w0 pb sb mb bb ib va v us ts nb G ni I w) (hb : Below w.heap.size w w') : PullSt w0 pb sb mb bb ib va v us ts nb G ni I w' :=
 ⟨(hb.block _ h.lt).trans h.box, h.scope.keep hb, h.all.keep hb, h.best.below hb h.best.lt, h.inm.below hb h.inm.lt, h.pbl, h.bbl, h.ibl, h.bm, h.im, h.bi, h.av⟩
theorem PullSt.psb (h : PullSt w0 pb sb mb bb ib va v us ts nb G ni I w) : pb ≠ sb := fun e => by
 have h1 := h.box; rw [e, h.scope.box] at h1; injection h1 with h2; injection h2 with _ h3 _; exact absurd h3 (by decide)
theorem PullSt.scoped {w' : World} {v' : Value} {ts' : List (GObj × Value)} (h : PullSt w0 pb sb mb bb ib va v us ts nb G ni I w) (hk : KB (SB sb mb v) w w') (hs : ScopeOf w0 sb mb v' ts' w') (hv : v'.ownBlock = v.ownBlock ∨ ∃ g, v'.ownBlock = some g ∧ w.heap.size ≤ g) :
 PullSt w0 pb sb mb bb ib va v' us ts' nb G ni I w' := by
 refine ⟨(hk.block _ h.lt ?_).trans h.box, hs, h.all.congr fun g hg => hk.block g (h.all.row.lt g hg).2 ?_, h.best.kept (hk.block _ h.best.lt ?_), h.inm.kept (hk.block _ h.inm.lt ?_), h.pbl, h.bbl, h.ibl, h.bm, h.im, h.bi, fun g hg => ?_⟩
 ·rintro (e | e | e)
  ·exact h.psb e
  ·exact map_ne_map h.scope.map h.box e
  ·exact own_ne_box h.scope.row.row h.box (by decide) e
 ·rintro (e | e | e)
  ·exact own_ne_box h.all.row h.scope.box (by decide) (e ▸ hg)
  ·exact own_ne_map h.all.row h.scope.map (e ▸ hg)
  ·exact h.av g hg e
 ·rintro (e | e | e)
  ·exact map_ne_map h.best h.scope.box e.symm
  ·exact h.bm e
  ·exact own_ne_map h.scope.row.row h.best e
 ·rintro (e | e | e)
  ·exact mapK_ne h.inm h.scope.box e.symm
  ·exact h.im e
  ·exact own_ne_mapK h.scope.row.row h.inm e
 ·rcases hv with hv | ⟨g', hv, hg'⟩
  ·rw [hv]; exact h.av g hg
  ·rw [hv]; intro e; cases e; have := (h.all.row.lt g hg).2; omega
theorem ScopeOf.kbm {b : Nat} {w' : World} (h : ScopeOf w0 sb mb v ts w) (hk : KB (fun q => q = b) w w') (h1 : sb ≠ b) (h2 : mb ≠ b) (h3 : v.ownBlock ≠ some b) (hb : w0.heap.size ≤ b) : ScopeOf w0 sb mb v ts w' :=
 ⟨(hk.block _ (ScopeSt.lt h) h1).trans h.box, h.row.congr fun g hg => hk.block g (h.row.row.lt g hg).2 (fun e => h3 (e ▸ hg)), h.map.kept (hk.block _ h.map.lt h2), h.sbl, h.mbl, h.blw.trans (hk.below h.blw.size (fun q hq e => by omega))⟩
theorem PullSt.setBest {w' : World} {nb' : Nat} {G' : List UInt8 → Option GEnt} (h : PullSt w0 pb sb mb bb ib va v us ts nb G ni I w) (hk : KB (fun q => q = bb) w w') (hM : MapFn Tryz.prog 9 w' bb nb' (bestF G')) : PullSt w0 pb sb mb bb ib va v us ts nb' G' ni I w' :=
 ⟨(hk.block _ h.lt (fun e => map_ne_map h.best h.box e)).trans h.box, h.scope.kbm hk (map_ne_map h.best h.scope.box) (Ne.symm h.bm) (own_ne_map h.scope.row.row h.best) h.bbl,
  h.all.congr fun g hg => hk.block g (h.all.row.lt g hg).2 (fun e => own_ne_map h.all.row h.best (e ▸ hg)), hM, h.inm.kept (hk.block _ h.inm.lt (Ne.symm h.bi)), h.pbl, h.bbl, h.ibl, h.bm, h.im, h.bi, h.av⟩
theorem PullSt.setIn {w' : World} {ni' : Nat} {I' : Nat → Bool} (h : PullSt w0 pb sb mb bb ib va v us ts nb G ni I w) (hk : KB (fun q => q = ib) w w') (hM : MapKFn intE w' ib ni' (inF I')) : PullSt w0 pb sb mb bb ib va v us ts nb G ni' I' w' :=
 ⟨(hk.block _ h.lt (fun e => mapK_ne h.inm h.box e)).trans h.box, h.scope.kbm hk (mapK_ne h.inm h.scope.box) (Ne.symm h.im) (own_ne_mapK h.scope.row.row h.inm) h.ibl,
  h.all.congr fun g hg => hk.block g (h.all.row.lt g hg).2 (fun e => own_ne_mapK h.all.row h.inm (e ▸ hg)), h.best.kept (hk.block _ h.best.lt h.bi), hM, h.pbl, h.bbl, h.ibl, h.bm, h.im, h.bi, h.av⟩
end
def MemPost (w0 : World) (pb sb mb bb ib : Nat) (va v : Value) (us ts : List (GObj × Value)) (nb : Nat) (G : List UInt8 → Option GEnt) (ni : Nat) (I : Nat → Bool) (x : GEnt) (w : World) (e : Ending) (w' : World) : Prop :=
 e = .returned (.tuple #[]) ∧ KB (fun q => q = bb) w w' ∧ ∃ G', PullSt w0 pb sb mb bb ib va v us ts (nb + 1) G' ni I w' ∧ (G' = G ∧ (G x.name.data.toList).isSome = true ∨ G' = updG G x)
set_option maxHeartbeats 4000000 in
theorem member_any (w0 : World) (pb sb mb bb ib : Nat) (va v : Value) (us ts : List (GObj × Value)) (nb : Nat) (G : List UInt8 → Option GEnt) (ni : Nat) (I : Nat → Bool) (x : GEnt) (w : World) (h : PullSt w0 pb sb mb bb ib va v us ts nb G ni I w) (hx : x.name.size ≤ 140737488355328) (hnb : nb ≤ 1000000000) :
 Calls Tryz.prog 100 #[.pointer (some ⟨pb, 0, none⟩), entV x] w (MemPost w0 pb sb mb bb ib va v us ts nb G ni I x w) := by
 have HS := Lib.hid h; have HPL := Lib.hid h.lt; have hns : x.name.size ≤ 9223372036854775807 := by omega
 have hlk : ∀ W : World, Below w.heap.size w W → (Instr.lookup 116 (.map (some bb)) (.string x.name) true).run Tryz.prog W = .ok (.tuple #[entV ((G x.name.data.toList).getD ent0), .bool (G x.name.data.toList).isSome]) W := fun W hW => by
  have := (h.best.below hW h.best.lt).look_ok keyedS Tryz.underlying116 Tryz.underlying9 (zeroEnt W) hns; rw [bestF_get, bestF_some] at this; exact this
 have c2 : w.cell? ⟨pb, 2, none⟩ = some (.map (some bb)) := Lib.cell_of_heap h.box 2; have hzp : pb < w.heap.size := h.lt; clear h; obtain ⟨en, em, eb⟩ := x; simp only [] at hns hlk; have HIS : Hid ((G en.data.toList).isSome = (G en.data.toList).isSome) := rfl; generalize his : (G en.data.toList).isSome = is at hlk HIS; have HIS2 := Lib.hid his; clear his HIS; generalize (G en.data.toList).getD ent0 = old at hlk; obtain ⟨on, om, ob⟩ := old; unfold entV at hlk; simp only [] at hlk; have HLK := Lib.hid hlk; clear hlk; unfold entV; simp only []; have HBB : Hid (Below w.heap.size w (w.alloc (.cells #[.string en, .int .i64 em, .int .u8 eb] 47))) := alloc_old w _; have b0 : (w.alloc (.cells #[.string en, .int .i64 em, .int .u8 eb] 47)).cell? ⟨w.heap.size, 0, none⟩ = some (.string en) := by simp [go_sem]
 have b1 : (w.alloc (.cells #[.string en, .int .i64 em, .int .u8 eb] 47)).cell? ⟨w.heap.size, 1, none⟩ = some (.int .i64 em) := by simp [go_sem]
 have b2 : (w.alloc (.cells #[.string en, .int .i64 em, .int .u8 eb] 47)).cell? ⟨w.heap.size, 2, none⟩ = some (.int .u8 eb) := by simp [go_sem]
 have hz2 : w.heap.size < (w.alloc (.cells #[.string en, .int .i64 em, .int .u8 eb] 47)).heap.size := by simp
 replace c2 := cell_keep HBB.out hzp c2; go_enter Tryz.func100, Tryz.ntmps100; go_wp2; generalize (w.alloc (.cells #[.string en, .int .i64 em, .int .u8 eb] 47)) = w2 at *; have hzp2 : pb < w2.heap.size := by omega
 go_cut [4, 5] (fun v4 v5 wx => v4 = .pointer (some ⟨w2.heap.size, 0, none⟩) ∧ v5 = .bool is ∧ wx.cell? ⟨w2.heap.size, 2, none⟩ = some (.int .u8 ob) ∧ Below w2.heap.size w2 wx)
 case first =>
  go_region_held3 (fun w' => w'.cell? ⟨pb, 2, none⟩ = some (.map (some bb)) ∧ w'.cell? ⟨w.heap.size, 0, none⟩ = some (.string en) ∧ (Instr.lookup 116 (.map (some bb)) (.string en) true).run Tryz.prog w' = .ok (.tuple #[.agg #[.string on, .int .i64 om, .int .u8 ob], .bool is]) w') ((refine ⟨?_, ?_, HLK.out _ ?_⟩; go_keep; go_keep; (have k0 := HBB.out; go_grown))) (fail)
  all_goals
   go_wp2
   go_meet
   exact ⟨rfl, rfl, by simp [go_sem], by go_grown⟩
 case rest =>
  obtain ⟨rfl, rfl, e2, hbx⟩ := hcut; replace c2 := cell_keep hbx hzp2 c2; replace b0 := cell_keep hbx hz2 b0; replace b1 := cell_keep hbx hz2 b1; replace b2 := cell_keep hbx hz2 b2; have HBC : Hid (Below w.heap.size w wc) := HBB.out.trans (hbx.mono (by omega))
  have HSC := Lib.hid (HS.out.keep HBC.out); have HMC := Lib.hid HSC.out.best; clear hbx HBB HLK; cases is with
  | false =>
    go_wp2
    go_still_tail 7, (by kernel_rfl)
    refine wpList_put _ rfl _ _ _ 116 rfl 9 47 keyedS Tryz.underlying116 Tryz.underlying9 rfl HMC.out.drew (by unfold maxLen; omega) en (.agg #[.string en, .int .i64 em, .int .u8 eb]) rfl rfl hns ?_
    intro w4 hM4 hg4; have HP4 : Hid (PullSt w0 pb sb mb bb ib va v us ts (nb + 1) (updG G ⟨en, em, eb⟩) ni I w4) := (HSC.out.keep (Below.refl _ _).drew).setBest (KB.of_grown hg4 (fun k e => by cases e; exact .inl rfl)) (by have := bestF_upd G ⟨en, em, eb⟩; unfold entV at this; rw [← this]; exact hM4)
    have HK4 : Hid (KB (fun q => q = bb) w w4) := (KB.of_below HBC.out).drew.grown hg4 (fun k e => by cases e; exact .inl rfl)
    clear hM4 hg4; go_wp2; go_end0; exact ⟨rfl, HK4.out, _, HP4.out, .inr rfl⟩
  | true =>
    by_cases h1 : eb = 1
    ·have h1b : (eb == 1) = true := by simpa using h1
     by_cases h2 : ob = 1
     ·have h2b : (ob != 1) = false := by simpa using h2
      clear h1 h2; go_wp2; go_end0; exact ⟨rfl, KB.of_below HBC.out, G, ⟨HSC.out.box, HSC.out.scope, HSC.out.all, HSC.out.best.mono (Nat.le_succ _), HSC.out.inm, HSC.out.pbl, HSC.out.bbl, HSC.out.ibl, HSC.out.bm, HSC.out.im, HSC.out.bi, HSC.out.av⟩, .inl ⟨rfl, HIS2.out⟩⟩
     ·have h2b : (ob != 1) = true := by simpa using h2
      clear h1 h2; go_wp2
      go_still_tail 7, (by kernel_rfl)
      refine wpList_put _ rfl _ _ _ 116 rfl 9 47 keyedS Tryz.underlying116 Tryz.underlying9 rfl HMC.out.drew (by unfold maxLen; omega) en (.agg #[.string en, .int .i64 em, .int .u8 eb]) rfl rfl hns ?_
      intro w4 hM4 hg4; have HP4 : Hid (PullSt w0 pb sb mb bb ib va v us ts (nb + 1) (updG G ⟨en, em, eb⟩) ni I w4) := (HSC.out.keep (Below.refl _ _).drew).setBest (KB.of_grown hg4 (fun k e => by cases e; exact .inl rfl)) (by have := bestF_upd G ⟨en, em, eb⟩; unfold entV at this; rw [← this]; exact hM4)
      have HK4 : Hid (KB (fun q => q = bb) w w4) := (KB.of_below HBC.out).drew.grown hg4 (fun k e => by cases e; exact .inl rfl)
      clear hM4 hg4; go_wp2; go_end0; exact ⟨rfl, HK4.out, _, HP4.out, .inr rfl⟩
    ·have h1b : (eb == 1) = false := by simpa using h1
     clear h1; go_wp2; go_end0; exact ⟨rfl, KB.of_below HBC.out, G, ⟨HSC.out.box, HSC.out.scope, HSC.out.all, HSC.out.best.mono (Nat.le_succ _), HSC.out.inm, HSC.out.pbl, HSC.out.bbl, HSC.out.ibl, HSC.out.bm, HSC.out.im, HSC.out.bi, HSC.out.av⟩, .inl ⟨rfl, HIS2.out⟩⟩
end
section
open Go.RowKit Go.Maps
def eight35 : ByteArray := ⟨#[49, 50, 51, 52, 53, 54, 55, 56]⟩
def gsym35 (kind : Int) (nm : ByteArray) (rels : List GRel) : GSym := ⟨nm, 1, kind, 8, eight35, rels, []⟩
def SymV (w : World) (s : GSym) (v : Value) : Prop := ∃ vr vn, v = .agg #[.string s.name, .int .u8 s.bind, .int .u8 s.kind, .int .u32 s.size, .string s.bytes, vr, vn] ∧ SymIn w s vr vn
def Sym35 (s : GSym) (w : World) (e : Ending) (w' : World) : Prop := (∃ v, e = .returned v ∧ SymV w' s v) ∧ Below w.heap.size w w'
theorem Sym35.mk {s : GSym} {w w' : World} {v : Value} (h : SymV w' s v) (hB : Below w.heap.size w w') : Sym35 s w (.returned v) w' := ⟨⟨v, rfl, h⟩, hB⟩
set_option maxHeartbeats 2000000 in
theorem sym35_none (kind : Int) (nm : ByteArray) (hk : 0 ≤ kind ∧ kind ≤ 255) (hn : nm.size ≤ 140737488355328) (w : World) :
 Calls Tryz.prog 73 #[.int .u8 kind, .string nm, .string ⟨#[]⟩] w (Sym35 (gsym35 kind nm []) w) := by
 go_enter Tryz.func73, Tryz.ntmps73; go_wp2; refine bodyPost_ret (v := .agg #[.string nm, .int .u8 1, .int .u8 kind, .int .u32 8, .string eight35, .slice none 0 0, .slice none 0 0]) (by simp [results, Tryz.results73, go_sem, eight35]) rfl ?_
 exact Sym35.mk ⟨_, _, rfl, rowAt_nil, rowAt_nil, by simp [gsym35], hk, by simp [gsym35], hn, by simp [gsym35]; decide⟩ ((alloc_old w _).alloc (by simp) _)
set_option maxHeartbeats 2000000 in
theorem sym35_one (kind : Int) (nm ref : ByteArray) (hr0 : ref.toList ≠ []) (hk : 0 ≤ kind ∧ kind ≤ 255) (hn : nm.size ≤ 140737488355328) (hr : ref.size ≤ 140737488355328) (w : World) :
 Calls Tryz.prog 73 #[.int .u8 kind, .string nm, .string ref] w (Sym35 (gsym35 kind nm [⟨4, 1, ref, 0⟩]) w) := by
 have hq : (ref.toList == ([] : List UInt8)) = false := by simpa using hr0
 go_enter Tryz.func73, Tryz.ntmps73; go_wp2; refine bodyPost_ret (v := .agg #[.string nm, .int .u8 1, .int .u8 kind, .int .u32 8, .string eight35, .slice (some ⟨w.heap.size + 1 + 1, 0, none⟩) 1 1, .slice none 0 0]) (by simp [results, Tryz.results73, go_sem, eight35]) rfl ?_
 refine Sym35.mk ⟨_, _, rfl, rowAt_one ⟨by simp, by simp [go_sem], by simp [go_sem], by simp [go_sem], by simp [go_sem], by simp, by simp, by simp, hr⟩ (by omega), rowAt_nil, by simp [gsym35], hk, by simp [gsym35], hn, by simp [gsym35]; decide⟩ (((alloc_old w _).alloc (by simp) _).alloc (by simp; omega) _)
structure Far (g : Nat) (w w' : World) : Prop where
 size : w.heap.size ≤ w'.heap.size
 cell : ∀ b o, b ≠ g → b < w.heap.size → w'.cell? ⟨b, o, none⟩ = w.cell? ⟨b, o, none⟩
 noint : ∀ o K n, w.cell? ⟨g, o, none⟩ ≠ some (.int K n)
theorem Far.rel {g : Nat} {w w' : World} (h : Far g w w') {b o : Nat} {x : GRel} (hx : RelR w b o x) : RelR w' b o x := by
 obtain ⟨h0, h1, h2, h3, h4, r⟩ := hx; have hb : b ≠ g := fun e => h.noint _ _ _ (e ▸ h1)
 exact ⟨Nat.lt_of_lt_of_le h0 h.size, (h.cell _ _ hb h0).trans h1, (h.cell _ _ hb h0).trans h2, (h.cell _ _ hb h0).trans h3, (h.cell _ _ hb h0).trans h4, r⟩
theorem Far.note {g : Nat} {w w' : World} (h : Far g w w') {b o : Nat} {x : GNote} (hx : NoteR w b o x) : NoteR w' b o x := by
 obtain ⟨h0, h1, h2, h3, r⟩ := hx; have hb : b ≠ g := fun e => h.noint _ _ _ (e ▸ h1)
 exact ⟨Nat.lt_of_lt_of_le h0 h.size, (h.cell _ _ hb h0).trans h1, (h.cell _ _ hb h0).trans h2, (h.cell _ _ hb h0).trans h3, r⟩
theorem Far.row {α : Type} {k : Nat} {R : World → Nat → Nat → α → Prop} {w w' : World} {v : Value} {l : List α} (hR : ∀ b o x, R w b o x → R w' b o x) (h : RowAt k R w v l) : RowAt k R w' v l := by
 obtain ⟨p, cap, b, o, h1, h2, h3, h4, h5⟩ := h; exact ⟨p, cap, b, o, h1, h2, h3, h4, fun i hi => hR _ _ _ (h5 i hi)⟩
theorem Far.sym {g : Nat} {w w' : World} (h : Far g w w') {b o : Nat} {x : GSym} (hx : SymR w b o x) : SymR w' b o x := by
 obtain ⟨vr, vn, h0, h1, h2, h3, h4, h5, h6, h7, r1, r2, r⟩ := hx; have hb : b ≠ g := fun e => h.noint _ _ _ (e ▸ h2)
 exact ⟨vr, vn, Nat.lt_of_lt_of_le h0 h.size, (h.cell _ _ hb h0).trans h1, (h.cell _ _ hb h0).trans h2, (h.cell _ _ hb h0).trans h3, (h.cell _ _ hb h0).trans h4, (h.cell _ _ hb h0).trans h5, (h.cell _ _ hb h0).trans h6, (h.cell _ _ hb h0).trans h7,
  Far.row (fun _ _ _ => h.rel) r1, Far.row (fun _ _ _ => h.note) r2, r⟩
theorem Far.obj {g : Nat} {w w' : World} (h : Far g w w') {x : GObj} {v : Value} (hx : ObjIn w x v) : ObjIn w' x v := ⟨Far.row (fun _ _ _ => h.sym) hx.1, hx.2⟩
def lib35 : ByteArray := ⟨#[108, 105, 98]⟩
def base35 : List GObj := [⟨⟨#[111]⟩, [gsym35 1 ⟨#[109, 97, 105, 110]⟩ [⟨4, 1, ⟨#[102]⟩, 0⟩]]⟩]
def mems35 : List GObj := [⟨⟨#[97]⟩, [gsym35 1 ⟨#[102]⟩ [⟨4, 1, ⟨#[103]⟩, 0⟩]]⟩, ⟨⟨#[98]⟩, [gsym35 2 ⟨#[103]⟩ []]⟩, ⟨⟨#[99]⟩, [gsym35 2 ⟨#[104]⟩ []]⟩]
def Three35 (w : World) (e : Ending) (w' : World) : Prop := (∃ b c, e = .returned (.tuple #[.slice (some ⟨b, 0, none⟩) 1 1, .agg #[.string lib35, .slice (some ⟨c, 0, none⟩) 3 3]]) ∧ ObjsAt w' (.slice (some ⟨b, 0, none⟩) 1 1) base35 ∧ ObjsAt w' (.slice (some ⟨c, 0, none⟩) 3 3) mems35) ∧ Below w.heap.size w w'
def ObC (W : World) (b c : Nat) (n : ByteArray) (s : GSym) : Prop :=
 b < W.heap.size ∧ W.cell? ⟨b, 0, none⟩ = some (.string n) ∧ W.cell? ⟨b, 1, none⟩ = some (.slice (some ⟨c, 0, none⟩) 1 1) ∧ ObjIn W ⟨n, [s]⟩ (.slice (some ⟨c, 0, none⟩) 1 1)
theorem ObC.keep {w w' : World} {b c : Nat} {n : ByteArray} {s : GSym} (hb : Below w.heap.size w w') (h : ObC w b c n s) : ObC w' b c n s :=
 ⟨size_keep hb h.1, cell_keep hb h.1 h.2.1, cell_keep hb h.1 h.2.2.1, h.2.2.2.1.keep symR_keeps hb, h.2.2.2.2⟩
theorem obc_new {w : World} {s : GSym} {vr vn : Value} (n : ByteArray) (hn : n.size ≤ 140737488355328) (h : SymIn w s vr vn) :
 ObC ((w.alloc (.cells #[.string s.name, .int .u8 s.bind, .int .u8 s.kind, .int .u32 s.size, .string s.bytes, vr, vn] 55)).alloc (.cells #[.string n, .slice (some ⟨w.heap.size, 0, none⟩) 1 1] 50)) (w.heap.size + 1) w.heap.size n s := by
 have hB := (alloc_old w (.cells #[.string s.name, .int .u8 s.bind, .int .u8 s.kind, .int .u32 s.size, .string s.bytes, vr, vn] 55)).alloc (by simp) (.cells #[.string n, .slice (some ⟨w.heap.size, 0, none⟩) 1 1] 50)
 exact ⟨by simp, by simp [go_sem], by simp [go_sem], rowAt_one ⟨vr, vn, by simp; omega, by simp [go_sem], by simp [go_sem], by simp [go_sem], by simp [go_sem], by simp [go_sem], by simp [go_sem], by simp [go_sem],
  ⟨h.1.keep relR_keeps hB, h.2.1.keep noteR_keeps hB, h.2.2⟩⟩ (by omega), hn⟩
theorem noint_new (w : World) (o : Nat) (K : IntKind) (n : Int) : (w.alloc (.cells #[.string ⟨#[]⟩, .slice none 0 0] 24)).cell? ⟨w.heap.size, o, none⟩ ≠ some (.int K n) := by
 match o with
 | 0 => simp [go_sem]
 | 1 => simp [go_sem]
 | o + 2 => simp [go_sem]
set_option maxHeartbeats 2000000 in
theorem three35_any (w : World) : Calls Tryz.prog 27 #[] w (Three35 w) := by
 go_enter Tryz.func27, Tryz.ntmps27; go_wp2_with fail; obtain ⟨x0, hx0⟩ : ∃ x0, x0 = w.alloc (.cells #[.string ⟨#[]⟩, .slice none 0 0] 24) := ⟨_, rfl⟩; rw [← hx0]
 have hR : x0.heap.size = w.heap.size + 1 ∧ x0.cell? ⟨w.heap.size, 0, none⟩ = some (.string ⟨#[]⟩) ∧ x0.cell? ⟨w.heap.size, 1, none⟩ = some (.slice none 0 0) ∧ Below w.heap.size w x0 ∧ x0.frozen? ⟨w.heap.size, 0, none⟩ = false ∧ x0.frozen? ⟨w.heap.size, 1, none⟩ = false ∧ (∀ o K n, x0.cell? ⟨w.heap.size, o, none⟩ ≠ some (.int K n)) := by
  subst hx0; exact ⟨by simp, by simp [go_sem], by simp [go_sem], alloc_old w _, by simp [go_sem], by simp [go_sem], noint_new w⟩
 have HR := Lib.hid hR; have y0 : w.heap.size < x0.heap.size := by have := hR.1; omega
 clear hR hx0; refine (sym35_one 1 ⟨#[109, 97, 105, 110]⟩ ⟨#[102]⟩ (by decide +kernel) (by omega) (by decide) (by decide) _).mono ?_
 rintro e w1 ⟨⟨v1, rfl, vr1, vn1, rfl, hs1⟩, hB1⟩; have HN1 := Lib.hid (obc_new ⟨#[111]⟩ (by decide) hs1)
 have HB1 := Lib.hid hB1; clear hs1 hB1; go_wp2_with fail; generalize hW1 : World.alloc (World.alloc w1 _) _ = x1; have O1 : Hid (ObC x1 (w1.heap.size + 1) w1.heap.size ⟨#[111]⟩ (gsym35 1 ⟨#[109, 97, 105, 110]⟩ [⟨4, 1, ⟨#[102]⟩, 0⟩])) := by subst hW1; exact HN1.out
 have B1 : Hid (Below x0.heap.size x0 x1) := by subst hW1; exact (HB1.out.alloc HB1.out.size _).alloc (by have := HB1.out.size; simp; omega) _
 have z1 : w.heap.size < w1.heap.size := by have := HB1.out.size; omega
 have y1 : w.heap.size < x1.heap.size := by have := B1.out.size; omega
 clear hW1 HN1 HB1; refine (sym35_one 1 ⟨#[102]⟩ ⟨#[103]⟩ (by decide +kernel) (by omega) (by decide) (by decide) _).mono ?_
 rintro e w2 ⟨⟨v2, rfl, vr2, vn2, rfl, hs2⟩, hB2⟩; have HN2 := Lib.hid (obc_new ⟨#[97]⟩ (by decide) hs2)
 have HB2 := Lib.hid hB2; clear hs2 hB2; go_wp2_with fail; generalize hW2 : World.alloc (World.alloc w2 _) _ = x2; have O2 : Hid (ObC x2 (w2.heap.size + 1) w2.heap.size ⟨#[97]⟩ (gsym35 1 ⟨#[102]⟩ [⟨4, 1, ⟨#[103]⟩, 0⟩])) := by subst hW2; exact HN2.out
 have B2 : Hid (Below x1.heap.size x1 x2) := by subst hW2; exact (HB2.out.alloc HB2.out.size _).alloc (by have := HB2.out.size; simp; omega) _
 have z2 : w.heap.size < w2.heap.size := by have := HB2.out.size; omega
 have y2 : w.heap.size < x2.heap.size := by have := B2.out.size; omega
 clear hW2 HN2 HB2; refine (sym35_none 2 ⟨#[103]⟩ (by omega) (by decide) _).mono ?_
 rintro e w3 ⟨⟨v3, rfl, vr3, vn3, rfl, hs3⟩, hB3⟩; have HN3 := Lib.hid (obc_new ⟨#[98]⟩ (by decide) hs3)
 have HB3 := Lib.hid hB3; clear hs3 hB3; go_wp2_with fail; generalize hW3 : World.alloc (World.alloc w3 _) _ = x3; have O3 : Hid (ObC x3 (w3.heap.size + 1) w3.heap.size ⟨#[98]⟩ (gsym35 2 ⟨#[103]⟩ [])) := by subst hW3; exact HN3.out
 have B3 : Hid (Below x2.heap.size x2 x3) := by subst hW3; exact (HB3.out.alloc HB3.out.size _).alloc (by have := HB3.out.size; simp; omega) _
 have z3 : w.heap.size < w3.heap.size := by have := HB3.out.size; omega
 have y3 : w.heap.size < x3.heap.size := by have := B3.out.size; omega
 clear hW3 HN3 HB3; refine (sym35_none 2 ⟨#[104]⟩ (by omega) (by decide) _).mono ?_
 rintro e w4 ⟨⟨v4, rfl, vr4, vn4, rfl, hs4⟩, hB4⟩; have HN4 := Lib.hid (obc_new ⟨#[99]⟩ (by decide) hs4)
 have HB4 := Lib.hid hB4; clear hs4 hB4; go_wp2_with fail; generalize hW4 : World.alloc (World.alloc w4 _) _ = x4; have O4 : Hid (ObC x4 (w4.heap.size + 1) w4.heap.size ⟨#[99]⟩ (gsym35 2 ⟨#[104]⟩ [])) := by subst hW4; exact HN4.out
 have B4 : Hid (Below x3.heap.size x3 x4) := by subst hW4; exact (HB4.out.alloc HB4.out.size _).alloc (by have := HB4.out.size; simp; omega) _
 have z4 : w.heap.size < w4.heap.size := by have := HB4.out.size; omega
 have y4 : w.heap.size < x4.heap.size := by have := B4.out.size; omega
 clear hW4 HN4 HB4; have C4 : Hid (Below x0.heap.size x0 x4) := ((B1.out.trans (B2.out.mono B1.out.size)).trans (B3.out.mono (Nat.le_trans B1.out.size B2.out.size))).trans (B4.out.mono (Nat.le_trans B1.out.size (Nat.le_trans B2.out.size B3.out.size))); have k0 := cell_keep C4.out (by have := HR.out.1; omega) HR.out.2.1
 have k1 := cell_keep C4.out (by have := HR.out.1; omega) HR.out.2.2.1
 have P2 := Lib.hid ((O2.out.keep B3.out).keep B4.out); have P3 := Lib.hid (O3.out.keep B4.out); have P1 := Lib.hid (((O1.out.keep B2.out).keep B3.out).keep B4.out); obtain ⟨a0, a1, a2, -⟩ := P2.out; obtain ⟨b0, b1, b2, -⟩ := P3.out; obtain ⟨c0, c1, c2, -⟩ := O4.out; have f0 : x4.frozen? ⟨w.heap.size, 0, none⟩ = false := ((bcell C4.out).2 _ _ y0).trans HR.out.2.2.2.2.1; have f1 : x4.frozen? ⟨w.heap.size, 1, none⟩ = false := ((bcell C4.out).2 _ _ y0).trans HR.out.2.2.2.2.2.1; have NI : Hid (∀ o K n, x4.cell? ⟨w.heap.size, o, none⟩ ≠ some (.int K n)) := fun o K n => by rw [(bcell C4.out).1 _ _ y0]; exact HR.out.2.2.2.2.2.2 o K n
 have hne2 : w.heap.size ≠ w2.heap.size + 1 := by omega
 have hne3 : w.heap.size ≠ w3.heap.size + 1 := by omega
 have hne4 : w.heap.size ≠ w4.heap.size + 1 := by omega
 clear B1 B2 B3 B4 O1 O2 O3 y0 y1 y2 y3 z2 z3 z4
 go_region
 go_wp2; refine bodyPost_ret (v := .tuple #[.slice (some ⟨w1.heap.size + 1, 0, none⟩) 1 1, .agg #[.string lib35, .slice (some ⟨x4.heap.size, 0, none⟩) 3 3]]) (by simp [results, Tryz.results27, go_sem, lib35, k0, k1, y4]) rfl ?_
 generalize hW : World.drew _ = wF
 have hF : Far w.heap.size x4 wF := ⟨by subst hW; simp, fun b o hb hlt => by
  subst hW; show (World.alloc _ _).cell? _ = _; rw [(bcell (alloc_old _ _)).1 b o (by simpa using hlt), World.cell?_setCell_far _ _ _ _ (Ne.symm hb), World.cell?_setCell_far _ _ _ _ (Ne.symm hb)], NI.out⟩
 have hB : Below w.heap.size w wF := by
  have h0 : Below w.heap.size w x4 := HR.out.2.2.2.1.trans (C4.out.mono (by have := HR.out.1; omega))
  subst hW; exact below_drewN (((h0.setCell (by simp) _).setCell (by simp) _).alloc (by simp; omega) _) 1
 have q : ∀ j u, (#[.string ⟨#[97]⟩, .slice (some ⟨w2.heap.size, 0, none⟩) 1 1, .string ⟨#[98]⟩, .slice (some ⟨w3.heap.size, 0, none⟩) 1 1, .string ⟨#[99]⟩, .slice (some ⟨w4.heap.size, 0, none⟩) 1 1] : Array Value)[j]? = some u → wF.cell? ⟨x4.heap.size, j, none⟩ = some u := by
  subst hW; intro j u hu
  match j, hu with
  | 0, hu => cases hu; simp [go_sem]
  | 1, hu => cases hu; simp [go_sem]
  | 2, hu => cases hu; simp [go_sem]
  | 3, hu => cases hu; simp [go_sem]
  | 4, hu => cases hu; simp [go_sem]
  | 5, hu => cases hu; simp [go_sem]
 have hz : x4.heap.size < wF.heap.size := by subst hW; simp
 have hne1 : w1.heap.size + 1 ≠ w.heap.size := by omega
 clear hW; obtain ⟨p0, p1, p2, p3⟩ := P1.out; refine ⟨⟨_, _, rfl, rowAt_one ⟨_, Nat.lt_of_lt_of_le p0 hF.size, (hF.cell _ _ hne1 p0).trans p1, (hF.cell _ _ hne1 p0).trans p2, hF.obj p3⟩ (by omega), ?_⟩, hB⟩
 exact rowAt_three ⟨_, hz, q 0 _ rfl, q 1 _ rfl, hF.obj P2.out.2.2.2⟩ ⟨_, hz, q 2 _ rfl, q 3 _ rfl, hF.obj P3.out.2.2.2⟩ ⟨_, hz, q 4 _ rfl, q 5 _ rfl, hF.obj O4.out.2.2.2⟩ (by omega)
end
end Go.Proofs.YtboegjdkedjhcaaGreatDoor
