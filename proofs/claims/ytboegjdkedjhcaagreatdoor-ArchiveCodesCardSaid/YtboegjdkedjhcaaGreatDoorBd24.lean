/- The walk of archive.Wanting. The state of the archive's puller, and the walk of puller.member. The walk of the archive's begin. The walk of demand.Of. -/
import Derived.Test.YtboegjdkedjhcaaGreatDoorBd19
import Derived.Test.YtboegjdkedjhcaaGreatDoorBd21
import Derived.Test.YtboegjdkedjhcaaGreatDoorBd14
namespace Go.Proofs.YtboegjdkedjhcaaGreatDoor
open Go.RowKit Go.Maps
/-- an object is not large -/
def SmallO (o : GObj) : Prop := o.syms.length ≤ 10000 ∧ (o.syms.flatMap fun s => s.rels).length ≤ 65536
theorem symsN_le : ∀ {l : List GObj}, (∀ o ∈ l, SmallO o) → symsN l ≤ l.length * 10000
  | [], _ => by simp [symsN]
  | o :: r, h => by
    have ih := symsN_le (l := r) fun x hx => h x (List.mem_cons_of_mem _ hx)
    have h1 := (h o (List.mem_cons_self ..)).1
    simp only [symsN, List.flatMap_cons, List.length_append, List.length_cons] at ih ⊢; omega
theorem relsN_le : ∀ {l : List GObj}, (∀ o ∈ l, SmallO o) → relsN l ≤ l.length * 65536
  | [], _ => by simp [relsN]
  | o :: r, h => by
    have ih := relsN_le (l := r) fun x hx => h x (List.mem_cons_of_mem _ hx)
    have h1 := (h o (List.mem_cons_self ..)).2
    simp only [relsN, List.flatMap_cons, List.length_append, List.length_cons] at ih ⊢; omega
/-- what may be is not large -/
theorem flat35_le {α β : Type} (f : α → List β) (c : Nat) : ∀ (l : List α), (∀ x ∈ l, (f x).length ≤ c) → (l.flatMap f).length ≤ l.length * c
  | [], _ => by simp
  | x :: r, h => by
    have ih := flat35_le f c r fun y hy => h y (List.mem_cons_of_mem _ hy)
    have h1 := h x (List.mem_cons_self ..)
    rw [List.flatMap_cons, List.length_append, List.length_cons, Nat.succ_mul]; omega
theorem small_may {o : GObj} (h : mayP o = true) : SmallO o := by
  simp only [mayP, Bool.and_eq_true, decide_eq_true_eq] at h
  obtain ⟨⟨h1, -⟩, h2⟩ := h
  have h3 := flat35_le (fun s : GSym => s.rels) 1024 o.syms fun s hs => by
    have h4 := symsGo_each _ _ h1 s hs
    simp only [symOkP, placesOk, Bool.and_eq_true, decide_eq_true_eq] at h4
    omega
  exact ⟨by omega, Nat.le_trans h3 (Nat.le_trans (Nat.mul_le_mul_right 1024 h2) (by decide))⟩
theorem symsN_app (a b : List GObj) : symsN (a ++ b) = symsN a + symsN b := by simp [symsN]
theorem defB_snoc (l : List GObj) (o : GObj) : (fun n => defB l n || defS o.syms n) = defB (l ++ [o]) := by funext n; simp [defB]
def mayL (l : List GObj) : List GObj := l.filter mayP
theorem mayL_snoc {l : List GObj} {k : Nat} {x : GObj} (h : k < l.length) (hx : l[k] = x) : mayL (l.take (k + 1)) = mayL (l.take k) ++ if mayP x = true then [x] else [] := by
  rw [List.take_succ_eq_append_getElem h, hx, mayL, List.filter_append]
  by_cases hm : mayP x = true <;> simp [mayL, hm]
theorem mayL_all {l : List GObj} (h : ∀ o ∈ l, mayP o = true) : mayL l = l := List.filter_eq_self.2 h
/-- a scope of objects: what it has, and the names that these define -/
def ScopeOf (w0 : World) (sb mb : Nat) (v : Value) (ts : List (GObj × Value)) (w : World) : Prop := ScopeSt w0 sb mb v ts (symsN (ts.map (·.1))) (defB (ts.map (·.1))) w
theorem ScopeOf.put {w0 : World} {sb mb : Nat} {v : Value} {ts : List (GObj × Value)} {o : GObj} {vs : Value} {w : World} (h : ScopeOf w0 sb mb v ts w) (ho : ObjIn w0 o vs) (hs : ∀ t ∈ ts, SmallO t.1) (ho2 : SmallO o) (hT : ts.length ≤ 5000) :
    Calls Tryz.prog 60 #[.pointer (some ⟨sb, 0, none⟩), .agg #[.string o.name, vs]] w fun e w' => e = .returned (.tuple #[]) ∧ ∃ v', ScopeOf w0 sb mb v' (ts ++ [(o, vs)]) w' ∧ KB (SB sb mb v) w w' ∧ (v'.ownBlock = v.ownBlock ∨ ∃ g, v'.ownBlock = some g ∧ w.heap.size ≤ g) := by
  have h1 := symsN_le (l := ts.map (·.1)) fun x hx => by obtain ⟨t, ht, rfl⟩ := List.mem_map.1 hx; exact hs t ht
  rw [List.length_map] at h1
  have h2 := ho2.1
  refine (sput_any w0 sb mb v ts _ _ o vs w h ho (by omega) (by omega)).mono ?_
  rintro e w' ⟨rfl, v', h3, h4, h5⟩
  refine ⟨rfl, v', ?_, h4, h5⟩
  unfold ScopeOf
  rw [List.map_append, show List.map (·.1) [(o, vs)] = [o] from rfl, symsN_app, ← defB_snoc, show symsN [o] = o.syms.length by simp [symsN]]
  exact h3
theorem ScopeOf.wants {w0 : World} {sb mb : Nat} {v : Value} {ts : List (GObj × Value)} {w : World} (h : ScopeOf w0 sb mb v ts w) (hs : ∀ t ∈ ts, SmallO t.1) (hT : ts.length ≤ 5000) (nm : ByteArray) (hn : nm.size ≤ 140737488355328) :
    Calls Tryz.prog 59 #[.pointer (some ⟨sb, 0, none⟩), .string nm] w (WantPost w (onceT (sortT (wantsRaw (defB (ts.map (·.1))) nm.data.toList (ts.map (·.1)))))) := by
  have hs' : ∀ x ∈ ts.map (·.1), SmallO x := fun x hx => by obtain ⟨t, ht, rfl⟩ := List.mem_map.1 hx; exact hs t ht
  have h1 := relsN_le hs'
  rw [List.length_map] at h1
  exact wanting_l sb mb v _ _ _ nm w (Lib.cell_of_heap h.box 0) (Lib.cell_of_heap h.box 1) h.lt h.map (h.row.objs h.blw (by omega)) hn (by omega) (fun o ho => (hs' o ho).1)
theorem ScopeOf.keep {w0 : World} {sb mb : Nat} {v : Value} {ts : List (GObj × Value)} {w w' : World} (h : ScopeOf w0 sb mb v ts w) (hb : Below w.heap.size w w') : ScopeOf w0 sb mb v ts w' := ScopeSt.keep h hb
theorem defB_nil : boolF (defB []) = fun _ => none := by funext n; simp [boolF, defB]
set_option maxRecDepth 100000 in
set_option maxHeartbeats 2000000 in
theorem wanting_any (v : Value) (l : List GObj) (nm : ByteArray) (w : World) (h : ObjsAt w v l) (hs : ∀ o ∈ l, SmallO o) (hl : l.length ≤ 5000) (hn : nm.size ≤ 140737488355328) :
    Calls Tryz.prog 20 #[.string nm, v] w (WantPost w (onceT (sortT (wantsRaw (defB (mayL l)) nm.data.toList (mayL l))))) := by
  obtain ⟨p, cap, b, o, rfl, hcap, hmax, hp, hc⟩ := h
  have HP := Lib.hid hp
  have HC := Lib.hid hc
  have HS := Lib.hid hs
  have HN := Lib.hid hn
  clear hp hc hs
  have hmm := @run_makeMap Tryz.prog
  go_enter Tryz.func20, Tryz.ntmps20
  go_wp2
  clear hmm
  go_loopw [13] (fun v13 wr => ∃ (k : Nat) (vo : Value) (ts : List (GObj × Value)), k ≤ l.length ∧ v13 = .int .i64 k ∧ ts.map (·.1) = mayL (l.take k) ∧ ScopeOf w (w.heap.size + 1) w.heap.size vo ts wr) (fun v13 _ => l.length - (intOf v13).toNat)
  case atStart =>
    refine ⟨0, .slice none 0 0, [], Nat.zero_le _, rfl, rfl, ?_, OwnObs.nil _ _, ?_, by omega, Nat.le_refl _, ((alloc_old w _).alloc (by simp) _)⟩
    · have := new_block (w.alloc (.map #[] 0)) (.cells #[.slice none 0 0, .map (some w.heap.size)] 131)
      simpa using this
    · have := MapFn.made Tryz.prog 9 w
      rw [show (fun _ => none) = boolF (defB (([] : List (GObj × Value)).map (·.1))) from defB_nil.symm] at this
      exact this.alloc _
  case round =>
    obtain ⟨k, vo, ts, hk, rfl, hts, hst⟩ := hrel
    have HTS := Lib.hid hts
    have HST := Lib.hid hst
    have hsl : w.heap.size + 1 < wr.heap.size := hst.lt
    have HSM : Hid (∀ t ∈ ts, SmallO t.1) := fun t ht => by
      have : t.1 ∈ mayL (l.take k) := by rw [← hts]; exact List.mem_map_of_mem ht
      exact HS.out _ (List.mem_of_mem_take (List.mem_filter.1 this).1)
    have hlt0 : ts.length ≤ 5000 := by
      have : (ts.map (·.1)).length ≤ l.length := by
        rw [hts]
        exact Nat.le_trans (List.length_filter_le _ _) (by rw [List.length_take]; omega)
      rw [List.length_map] at this; omega
    have HLT := Lib.hid hlt0
    clear hts hst hlt0
    by_cases hlt : k < l.length
    · obtain rfl := HP.out (by omega)
      obtain ⟨vs, g0, g1, g2, hin⟩ := HC.out k hlt
      have hmk := cell_keep HST.out.blw g0 g1
      have hmk2 := cell_keep HST.out.blw g0 g2
      have hg0 := size_keep HST.out.blw g0
      have hsn := mayL_snoc hlt rfl
      have hso := HS.out _ (List.getElem_mem hlt)
      generalize hx : l[k] = x at hmk hmk2 hin hsn hso
      clear hx g0 g1 g2
      obtain ⟨yn, ys⟩ := x
      have HIN := Lib.hid hin
      obtain ⟨pS, capS, rfl⟩ := hin.form
      simp only [] at hmk hmk2 hsn HIN
      have HSN := Lib.hid hsn
      have HSO := Lib.hid hso
      clear hsn hso hin
      have HIW := Lib.hid (HIN.out.keep HST.out.blw)
      have HCK := Lib.hid (objCheck_any ⟨yn, ys⟩ _ _ (ObjIn.keep (alloc_old wr (.cells #[.string yn, .slice pS ys.length capS] 50)) HIW.out))
      generalize hmy : mayP ⟨yn, ys⟩ = my at HCK HSN
      clear hmy
      simp only [] at HCK
      cases my with
      | false =>
        simp only [errB, Bool.false_eq_true, if_false, List.append_nil] at HCK HSN
        go_wp2_with (go_at_call 30; refine HCK.out.mono ?_; rintro e w1 ⟨rfl, hB⟩)
        have HB1 : Hid (Below wr.heap.size wr w1) := (alloc_old wr _).trans (hB.mono (by simp))
        go_roundw
        case rel => exact ⟨k + 1, vo, ts, by omega, by go_num, HTS.out.trans HSN.out.symm, HST.out.keep HB1.out⟩
        case measure => simp [intOf]; omega
      | true =>
        simp only [errB, if_true] at HCK HSN
        go_wp2_with fail
        refine HCK.out.mono ?_
        rintro e w1 ⟨rfl, hB⟩
        have d0 : w1.cell? ⟨wr.heap.size, 0, none⟩ = some (.string yn) := by rw [hB.cell (by simp)]; simp [go_sem]
        have d1 : w1.cell? ⟨wr.heap.size, 1, none⟩ = some (.slice pS ys.length capS) := by rw [hB.cell (by simp)]; simp [go_sem]
        have HB1 : Hid (Below wr.heap.size wr w1) := (alloc_old wr _).trans (hB.mono (by simp))
        have HPUT := Lib.hid ((HST.out.keep HB1.out).put HIN.out HSM.out HSO.out HLT.out)
        clear hB
        go_wp2_with fail
        refine HPUT.out.mono ?_
        rintro e w2 ⟨rfl, v2, hs2, -, -⟩
        have HS2 := Lib.hid hs2
        clear hs2
        go_wp2
        go_roundw
        case rel => exact ⟨k + 1, v2, ts ++ [(⟨yn, ys⟩, .slice pS ys.length capS)], by omega, by go_num, by rw [List.map_append, HTS.out, HSN.out]; rfl, HS2.out⟩
        case measure => simp [intOf]; omega
    · obtain rfl : k = l.length := by omega
      rw [List.take_length] at HTS
      have HW := Lib.hid (HST.out.wants HSM.out HLT.out nm HN.out)
      rw [HTS.out] at HW
      go_wp2_with fail
      refine HW.out.mono ?_
      rintro e w2 ⟨vo2, rfl, hr2, hB2⟩
      have HR2 : Hid (ERow encStr 9 w.heap.size w2 vo2 _) := owns_mono hr2 HST.out.blw.size
      have HB2 : Hid (Below w.heap.size w w2) := HST.out.blw.trans (hB2.mono HST.out.blw.size)
      clear hr2 hB2
      go_wp2_with fail
      go_ret
      exact ⟨_, rfl, HR2.out, HB2.out⟩
end Go.Proofs.YtboegjdkedjhcaaGreatDoor
namespace Go.Proofs.YtboegjdkedjhcaaGreatDoor
open Go.RowKit Go.Maps Go.WideMaps
def entV (x : GEnt) : Value := .agg #[.string x.name, .int .i64 x.mem, .int .u8 x.bind]
def ent0 : GEnt := ⟨⟨#[]⟩, 0, 0⟩
def bestF (G : List UInt8 → Option GEnt) (n : List UInt8) : Option Value := (G n).map entV
def inF (I : Nat → Bool) (k : Nat) : Option Value := if I k then some (.bool true) else none
theorem intKeyed : Keyed Tryz.prog 3 := int_keyed Tryz.underlying3
noncomputable def intE : KeyEnc Tryz.prog 3 Nat where
  enc k := .int .i64 k
  lit k := .int .i64 k
  ok k := k ≤ 9223372036854775807
  key k h := keyOf_int_mk Tryz.underlying3 (WalkArith.wf_i64 (by omega))
  inj a b h := by simp at h; exact_mod_cast h
theorem zeroEnt (w : World) : (zeroValue 47).run Tryz.prog w = .ok (entV ent0) w := by kernel_rfl
theorem bestF_get (G : List UInt8 → Option GEnt) (n : List UInt8) : (bestF G n).getD (entV ent0) = entV ((G n).getD ent0) := by unfold bestF; cases G n <;> rfl
theorem bestF_some (G : List UInt8 → Option GEnt) (n : List UInt8) : (bestF G n).isSome = (G n).isSome := by unfold bestF; cases G n <;> rfl
def updG (G : List UInt8 → Option GEnt) (x : GEnt) (n : List UInt8) : Option GEnt := if n = x.name.data.toList then some x else G n
theorem bestF_upd (G : List UInt8 → Option GEnt) (x : GEnt) : (fun l => if l = x.name.data.toList then some (entV x) else bestF G l) = bestF (updG G x) := by
  funext n
  unfold bestF updG
  split <;> simp_all
theorem map_ne_map {P : Program} {kt : TypeId} {w : World} {b c m : Nat} {f : List UInt8 → Option Value} {cs : Array Value} {T : TypeId} (hm : MapFn P kt w b m f) (hb : w.heap[c]? = some (.cells cs T (0, 0))) : c ≠ b := by
  rintro rfl
  obtain ⟨D, ⟨es, clock, h1, h2⟩, hf⟩ := hm
  rw [hb] at h1
  cases h1
theorem mapK_ne {P : Program} {kt : TypeId} {α : Type} {E : KeyEnc P kt α} {w : World} {b c m : Nat} {f : α → Option Value} {cs : Array Value} {T : TypeId} (hm : MapKFn E w b m f) (hb : w.heap[c]? = some (.cells cs T (0, 0))) : c ≠ b := by
  rintro rfl
  obtain ⟨D, ⟨es, clock, h1, h2⟩, hf⟩ := hm
  rw [hb] at h1
  cases h1
theorem own_ne_mapK {P : Program} {kt : TypeId} {α : Type} {E : KeyEnc P kt α} {w : World} {B : Nat} {e : TypeId} {k n b m : Nat} {v : Value} {xs : List Value} {f : α → Option Value} (h : w.ownsRow B e k v n xs) (hm : MapKFn E w b m f) : v.ownBlock ≠ some b := fun hg => by
  obtain ⟨D, ⟨es, clock, h1, h2⟩, hf⟩ := hm
  obtain ⟨cur, h2⟩ := own_type h hg
  rw [h1] at h2
  cases h2
structure PullSt (w0 : World) (pb sb mb bb ib : Nat) (va v : Value) (us ts : List (GObj × Value)) (nb : Nat) (G : List UInt8 → Option GEnt) (ni : Nat) (I : Nat → Bool) (w : World) : Prop where
  box : w.heap[pb]? = some (.cells #[.pointer (some ⟨sb, 0, none⟩), va, .map (some bb), .map (some ib)] 119 (0, 0))
  scope : ScopeOf w0 sb mb v ts w
  all : OwnObs w0 w va us
  best : MapFn Tryz.prog 9 w bb nb (bestF G)
  inm : MapKFn intE w ib ni (inF I)
  pbl : w0.heap.size ≤ pb
  bbl : w0.heap.size ≤ bb
  ibl : w0.heap.size ≤ ib
  bm : bb ≠ mb
  im : ib ≠ mb
  bi : bb ≠ ib
  av : ∀ g, va.ownBlock = some g → v.ownBlock ≠ some g
section
variable {w0 : World} {pb sb mb bb ib : Nat} {va v : Value} {us ts : List (GObj × Value)} {nb : Nat} {G : List UInt8 → Option GEnt} {ni : Nat} {I : Nat → Bool} {w : World}
theorem PullSt.lt (h : PullSt w0 pb sb mb bb ib va v us ts nb G ni I w) : pb < w.heap.size := (Array.getElem?_eq_some_iff.1 h.box).1
theorem PullSt.keep {w' : World} (h : PullSt w0 pb sb mb bb ib va v us ts nb G ni I w) (hb : Below w.heap.size w w') : PullSt w0 pb sb mb bb ib va v us ts nb G ni I w' :=
  ⟨(hb.block _ h.lt).trans h.box, h.scope.keep hb, h.all.keep hb, h.best.below hb h.best.lt, h.inm.below hb h.inm.lt, h.pbl, h.bbl, h.ibl, h.bm, h.im, h.bi, h.av⟩
theorem PullSt.psb (h : PullSt w0 pb sb mb bb ib va v us ts nb G ni I w) : pb ≠ sb := fun e => by
  have h1 := h.box
  rw [e, h.scope.box] at h1
  injection h1 with h2; injection h2 with _ h3 _; exact absurd h3 (by decide)
/-- a world in which only the scope's blocks differ, with a scope anew -/
theorem PullSt.scoped {w' : World} {v' : Value} {ts' : List (GObj × Value)} (h : PullSt w0 pb sb mb bb ib va v us ts nb G ni I w) (hk : KB (SB sb mb v) w w') (hs : ScopeOf w0 sb mb v' ts' w') (hv : v'.ownBlock = v.ownBlock ∨ ∃ g, v'.ownBlock = some g ∧ w.heap.size ≤ g) :
    PullSt w0 pb sb mb bb ib va v' us ts' nb G ni I w' := by
  refine ⟨(hk.block _ h.lt ?_).trans h.box, hs, h.all.congr fun g hg => hk.block g (h.all.row.lt g hg).2 ?_, h.best.kept (hk.block _ h.best.lt ?_), h.inm.kept (hk.block _ h.inm.lt ?_), h.pbl, h.bbl, h.ibl, h.bm, h.im, h.bi, fun g hg => ?_⟩
  · rintro (e | e | e)
    · exact h.psb e
    · exact map_ne_map h.scope.map h.box e
    · exact own_ne_box h.scope.row.row h.box (by decide) e
  · rintro (e | e | e)
    · exact own_ne_box h.all.row h.scope.box (by decide) (e ▸ hg)
    · exact own_ne_map h.all.row h.scope.map (e ▸ hg)
    · exact h.av g hg e
  · rintro (e | e | e)
    · exact map_ne_map h.best h.scope.box e.symm
    · exact h.bm e
    · exact own_ne_map h.scope.row.row h.best e
  · rintro (e | e | e)
    · exact mapK_ne h.inm h.scope.box e.symm
    · exact h.im e
    · exact own_ne_mapK h.scope.row.row h.inm e
  · rcases hv with hv | ⟨g', hv, hg'⟩
    · rw [hv]; exact h.av g hg
    · rw [hv]; intro e; cases e
      have := (h.all.row.lt g hg).2; omega
theorem ScopeOf.kbm {b : Nat} {w' : World} (h : ScopeOf w0 sb mb v ts w) (hk : KB (fun q => q = b) w w') (h1 : sb ≠ b) (h2 : mb ≠ b) (h3 : v.ownBlock ≠ some b) (hb : w0.heap.size ≤ b) : ScopeOf w0 sb mb v ts w' :=
  ⟨(hk.block _ (ScopeSt.lt h) h1).trans h.box, h.row.congr fun g hg => hk.block g (h.row.row.lt g hg).2 (fun e => h3 (e ▸ hg)), h.map.kept (hk.block _ h.map.lt h2), h.sbl, h.mbl, h.blw.trans (hk.below h.blw.size (fun q hq e => by omega))⟩
/-- the table of the best ones is written -/
theorem PullSt.setBest {w' : World} {nb' : Nat} {G' : List UInt8 → Option GEnt} (h : PullSt w0 pb sb mb bb ib va v us ts nb G ni I w) (hk : KB (fun q => q = bb) w w') (hM : MapFn Tryz.prog 9 w' bb nb' (bestF G')) : PullSt w0 pb sb mb bb ib va v us ts nb' G' ni I w' :=
  ⟨(hk.block _ h.lt (fun e => map_ne_map h.best h.box e)).trans h.box, h.scope.kbm hk (map_ne_map h.best h.scope.box) (Ne.symm h.bm) (own_ne_map h.scope.row.row h.best) h.bbl,
   h.all.congr fun g hg => hk.block g (h.all.row.lt g hg).2 (fun e => own_ne_map h.all.row h.best (e ▸ hg)), hM, h.inm.kept (hk.block _ h.inm.lt (Ne.symm h.bi)), h.pbl, h.bbl, h.ibl, h.bm, h.im, h.bi, h.av⟩
/-- the table of those that are in is written -/
theorem PullSt.setIn {w' : World} {ni' : Nat} {I' : Nat → Bool} (h : PullSt w0 pb sb mb bb ib va v us ts nb G ni I w) (hk : KB (fun q => q = ib) w w') (hM : MapKFn intE w' ib ni' (inF I')) : PullSt w0 pb sb mb bb ib va v us ts nb G ni' I' w' :=
  ⟨(hk.block _ h.lt (fun e => mapK_ne h.inm h.box e)).trans h.box, h.scope.kbm hk (mapK_ne h.inm h.scope.box) (Ne.symm h.im) (own_ne_mapK h.scope.row.row h.inm) h.ibl,
   h.all.congr fun g hg => hk.block g (h.all.row.lt g hg).2 (fun e => own_ne_mapK h.all.row h.inm (e ▸ hg)), h.best.kept (hk.block _ h.best.lt h.bi), hM, h.pbl, h.bbl, h.ibl, h.bm, h.im, h.bi, h.av⟩
end
def MemPost (w0 : World) (pb sb mb bb ib : Nat) (va v : Value) (us ts : List (GObj × Value)) (nb : Nat) (G : List UInt8 → Option GEnt) (ni : Nat) (I : Nat → Bool) (x : GEnt) (w : World) (e : Ending) (w' : World) : Prop :=
  e = .returned (.tuple #[]) ∧ KB (fun q => q = bb) w w' ∧ ∃ G', PullSt w0 pb sb mb bb ib va v us ts (nb + 1) G' ni I w' ∧ (G' = G ∧ (G x.name.data.toList).isSome = true ∨ G' = updG G x)
set_option maxRecDepth 100000 in
set_option maxHeartbeats 4000000 in
theorem member_any (w0 : World) (pb sb mb bb ib : Nat) (va v : Value) (us ts : List (GObj × Value)) (nb : Nat) (G : List UInt8 → Option GEnt) (ni : Nat) (I : Nat → Bool) (x : GEnt) (w : World) (h : PullSt w0 pb sb mb bb ib va v us ts nb G ni I w) (hx : x.name.size ≤ 140737488355328) (hnb : nb ≤ 1000000000) :
    Calls Tryz.prog 100 #[.pointer (some ⟨pb, 0, none⟩), entV x] w (MemPost w0 pb sb mb bb ib va v us ts nb G ni I x w) := by
  have HS := Lib.hid h
  have HPL := Lib.hid h.lt
  have hns : x.name.size ≤ 9223372036854775807 := by omega
  have hlk : ∀ W : World, Below w.heap.size w W → (Instr.lookup 116 (.map (some bb)) (.string x.name) true).run Tryz.prog W = .ok (.tuple #[entV ((G x.name.data.toList).getD ent0), .bool (G x.name.data.toList).isSome]) W := fun W hW => by
    have := (h.best.below hW h.best.lt).look_ok keyedS Tryz.underlying116 Tryz.underlying9 (zeroEnt W) hns
    rw [bestF_get, bestF_some] at this; exact this
  have c2 : w.cell? ⟨pb, 2, none⟩ = some (.map (some bb)) := Lib.cell_of_heap h.box 2
  have hzp : pb < w.heap.size := h.lt
  clear h
  obtain ⟨en, em, eb⟩ := x
  simp only [] at hns hlk
  have HIS : Hid ((G en.data.toList).isSome = (G en.data.toList).isSome) := rfl
  generalize his : (G en.data.toList).isSome = is at hlk HIS
  have HIS2 := Lib.hid his
  clear his HIS
  generalize (G en.data.toList).getD ent0 = old at hlk
  obtain ⟨on, om, ob⟩ := old
  unfold entV at hlk
  simp only [] at hlk
  have HLK := Lib.hid hlk; clear hlk
  unfold entV
  simp only []
  have HBB : Hid (Below w.heap.size w (w.alloc (.cells #[.string en, .int .i64 em, .int .u8 eb] 47))) := alloc_old w _
  have b0 : (w.alloc (.cells #[.string en, .int .i64 em, .int .u8 eb] 47)).cell? ⟨w.heap.size, 0, none⟩ = some (.string en) := by simp [go_sem]
  have b1 : (w.alloc (.cells #[.string en, .int .i64 em, .int .u8 eb] 47)).cell? ⟨w.heap.size, 1, none⟩ = some (.int .i64 em) := by simp [go_sem]
  have b2 : (w.alloc (.cells #[.string en, .int .i64 em, .int .u8 eb] 47)).cell? ⟨w.heap.size, 2, none⟩ = some (.int .u8 eb) := by simp [go_sem]
  have hz2 : w.heap.size < (w.alloc (.cells #[.string en, .int .i64 em, .int .u8 eb] 47)).heap.size := by simp
  replace c2 := cell_keep HBB.out hzp c2
  go_enter Tryz.func100, Tryz.ntmps100
  go_wp2
  generalize (w.alloc (.cells #[.string en, .int .i64 em, .int .u8 eb] 47)) = w2 at *
  have hzp2 : pb < w2.heap.size := by omega
  go_cut [4, 5] (fun v4 v5 wx => v4 = .pointer (some ⟨w2.heap.size, 0, none⟩) ∧ v5 = .bool is ∧ wx.cell? ⟨w2.heap.size, 2, none⟩ = some (.int .u8 ob) ∧ Below w2.heap.size w2 wx)
  case first =>
    go_region_held3 (fun w' => w'.cell? ⟨pb, 2, none⟩ = some (.map (some bb)) ∧ w'.cell? ⟨w.heap.size, 0, none⟩ = some (.string en) ∧ (Instr.lookup 116 (.map (some bb)) (.string en) true).run Tryz.prog w' = .ok (.tuple #[.agg #[.string on, .int .i64 om, .int .u8 ob], .bool is]) w') ((refine ⟨?_, ?_, HLK.out _ ?_⟩; go_keep; go_keep; (have k0 := HBB.out; go_grown))) (fail)
    all_goals
      go_wp2
      go_meet
      exact ⟨rfl, rfl, by simp [go_sem], by go_grown⟩
  case rest =>
    obtain ⟨rfl, rfl, e2, hbx⟩ := hcut
    replace c2 := cell_keep hbx hzp2 c2
    replace b0 := cell_keep hbx hz2 b0
    replace b1 := cell_keep hbx hz2 b1
    replace b2 := cell_keep hbx hz2 b2
    have HBC : Hid (Below w.heap.size w wc) := HBB.out.trans (hbx.mono (by omega))
    have HSC := Lib.hid (HS.out.keep HBC.out)
    have HMC := Lib.hid HSC.out.best
    clear hbx HBB HLK
    cases is with
    | false =>
      go_wp2
      go_still_tail 7, (by kernel_rfl)
      refine wpList_put _ rfl _ _ _ 116 rfl 9 47 keyedS Tryz.underlying116 Tryz.underlying9 rfl HMC.out.drew (by unfold maxLen; omega) en (.agg #[.string en, .int .i64 em, .int .u8 eb]) rfl rfl hns ?_
      intro w4 hM4 hg4
      have HP4 : Hid (PullSt w0 pb sb mb bb ib va v us ts (nb + 1) (updG G ⟨en, em, eb⟩) ni I w4) := (HSC.out.keep (Below.refl _ _).drew).setBest (KB.of_grown hg4 (fun k e => by cases e; exact .inl rfl)) (by have := bestF_upd G ⟨en, em, eb⟩; unfold entV at this; rw [← this]; exact hM4)
      have HK4 : Hid (KB (fun q => q = bb) w w4) := (KB.of_below HBC.out).drew.grown hg4 (fun k e => by cases e; exact .inl rfl)
      clear hM4 hg4
      go_wp2
      go_end0
      exact ⟨rfl, HK4.out, _, HP4.out, .inr rfl⟩
    | true =>
      by_cases h1 : eb = 1
      · have h1b : (eb == 1) = true := by simpa using h1
        by_cases h2 : ob = 1
        · have h2b : (ob != 1) = false := by simpa using h2
          clear h1 h2
          go_wp2
          go_end0
          exact ⟨rfl, KB.of_below HBC.out, G, ⟨HSC.out.box, HSC.out.scope, HSC.out.all, HSC.out.best.mono (Nat.le_succ _), HSC.out.inm, HSC.out.pbl, HSC.out.bbl, HSC.out.ibl, HSC.out.bm, HSC.out.im, HSC.out.bi, HSC.out.av⟩, .inl ⟨rfl, HIS2.out⟩⟩
        · have h2b : (ob != 1) = true := by simpa using h2
          clear h1 h2
          go_wp2
          go_still_tail 7, (by kernel_rfl)
          refine wpList_put _ rfl _ _ _ 116 rfl 9 47 keyedS Tryz.underlying116 Tryz.underlying9 rfl HMC.out.drew (by unfold maxLen; omega) en (.agg #[.string en, .int .i64 em, .int .u8 eb]) rfl rfl hns ?_
          intro w4 hM4 hg4
          have HP4 : Hid (PullSt w0 pb sb mb bb ib va v us ts (nb + 1) (updG G ⟨en, em, eb⟩) ni I w4) := (HSC.out.keep (Below.refl _ _).drew).setBest (KB.of_grown hg4 (fun k e => by cases e; exact .inl rfl)) (by have := bestF_upd G ⟨en, em, eb⟩; unfold entV at this; rw [← this]; exact hM4)
          have HK4 : Hid (KB (fun q => q = bb) w w4) := (KB.of_below HBC.out).drew.grown hg4 (fun k e => by cases e; exact .inl rfl)
          clear hM4 hg4
          go_wp2
          go_end0
          exact ⟨rfl, HK4.out, _, HP4.out, .inr rfl⟩
      · have h1b : (eb == 1) = false := by simpa using h1
        clear h1
        go_wp2
        go_end0
        exact ⟨rfl, KB.of_below HBC.out, G, ⟨HSC.out.box, HSC.out.scope, HSC.out.all, HSC.out.best.mono (Nat.le_succ _), HSC.out.inm, HSC.out.pbl, HSC.out.bbl, HSC.out.ibl, HSC.out.bm, HSC.out.im, HSC.out.bi, HSC.out.av⟩, .inl ⟨rfl, HIS2.out⟩⟩
end Go.Proofs.YtboegjdkedjhcaaGreatDoor
namespace Go.Proofs.YtboegjdkedjhcaaGreatDoor
open Go.RowKit Go.Maps Go.WideMaps
def EntR (w : World) (b o : Nat) (x : GEnt) : Prop := b < w.heap.size ∧ w.cell? ⟨b, o, none⟩ = some (.string x.name) ∧ w.cell? ⟨b, o + 1, none⟩ = some (.int .i64 x.mem) ∧ w.cell? ⟨b, o + 2, none⟩ = some (.int .u8 x.bind)
theorem EntRow.rows {B : Nat} {w : World} {v : Value} {es : List GEnt} (h : EntRow B w v es) (hl : es.length ≤ 140737488355328) : RowAt 3 EntR w v es :=
  owned_row entCells_len h hl fun _ _ _ _ hg hcell => ⟨hg, hcell 0 _ (by omega) rfl, hcell 1 _ (by omega) rfl, hcell 2 _ (by omega) rfl⟩
/-- a table of entries: each is one of these, and each name has one -/
def BestOf (es : List GEnt) (G : List UInt8 → Option GEnt) : Prop := (∀ n x, G n = some x → x ∈ es ∧ x.name.data.toList = n) ∧ ∀ x ∈ es, (G x.name.data.toList).isSome = true
theorem BestOf.add {es : List GEnt} {G G' : List UInt8 → Option GEnt} {x : GEnt} (h : BestOf es G) (hG : G' = G ∧ (G x.name.data.toList).isSome = true ∨ G' = updG G x) : BestOf (es ++ [x]) G' := by
  rcases hG with ⟨rfl, hs⟩ | rfl
  · refine ⟨fun n y hy => ?_, fun y hy => ?_⟩
    · obtain ⟨h1, h2⟩ := h.1 n y hy
      exact ⟨List.mem_append_left _ h1, h2⟩
    · rcases List.mem_append.1 hy with hy | hy
      · exact h.2 y hy
      · obtain rfl : y = x := by simpa using hy
        exact hs
  · refine ⟨fun n y hy => ?_, fun y hy => ?_⟩
    · unfold updG at hy
      split at hy
      · rename_i e; cases hy; exact ⟨by simp, e.symm⟩
      · obtain ⟨h1, h2⟩ := h.1 n y hy
        exact ⟨List.mem_append_left _ h1, h2⟩
    · unfold updG
      split
      · rfl
      · rename_i hne
        rcases List.mem_append.1 hy with hy | hy
        · exact h.2 y hy
        · obtain rfl : y = x := by simpa using hy
          exact absurd rfl hne
theorem BestOf.perm {es es' : List GEnt} {G : List UInt8 → Option GEnt} (h : BestOf es G) (hp : es.Perm es') : BestOf es' G :=
  ⟨fun n x hx => ⟨hp.mem_iff.1 (h.1 n x hx).1, (h.1 n x hx).2⟩, fun x hx => h.2 x (hp.mem_iff.2 hx)⟩
theorem objIn_names {w : World} {o : GObj} {v : Value} (h : ObjIn w o v) : ∀ s ∈ o.syms, s.name.size ≤ 140737488355328 := by
  obtain ⟨⟨_, _, _, _, -, -, -, -, hc⟩, -⟩ := h
  intro s hs
  obtain ⟨i, hi, rfl⟩ := List.mem_iff_getElem.1 hs
  obtain ⟨_, _, -, -, -, -, -, -, -, -, hin⟩ := hc i hi
  exact hin.2.2.2.2.2.1
theorem scope_new (w : World) : ScopeOf w (w.heap.size + 1) w.heap.size (.slice none 0 0) [] ((w.alloc (.map #[] 0)).alloc (.cells #[.slice none 0 0, .map (some w.heap.size)] 131)) := by
  refine ⟨?_, OwnObs.nil _ _, ?_, by omega, Nat.le_refl _, ((alloc_old w _).alloc (by simp) _)⟩
  · have := new_block (w.alloc (.map #[] 0)) (.cells #[.slice none 0 0, .map (some w.heap.size)] 131)
    simpa using this
  · have := MapFn.made Tryz.prog 9 w
    rw [show (fun _ => none) = boolF (defB (([] : List (GObj × Value)).map (·.1))) from defB_nil.symm] at this
    exact this.alloc _
theorem made_int (w : World) : MapKFn intE (w.alloc (.map #[] 0)) w.heap.size 0 (inF fun _ => false) := by
  have := MapKFn.made intE w
  exact this
def BegPost (w : World) (lb ms : List GObj) (e : Ending) (w' : World) : Prop :=
  ∃ pb sb mb bb ib va v us ts nb G, e = .returned (.pointer (some ⟨pb, 0, none⟩)) ∧ PullSt w pb sb mb bb ib va v us ts nb G 0 (fun _ => false) w' ∧ ts.map (·.1) = lb ∧ us.map (·.1) = ms ∧ BestOf (entsFrom 0 ms) G
set_option maxRecDepth 100000 in
set_option maxHeartbeats 4000000 in
theorem begin35_any (vb : Value) (lb : List GObj) (v : Value) (l : List GArc) (w : World) (hb : ObjsAt w vb lb) (h : ArcsAt w v l) (hlb : lb.length ≤ 1000) (hml : (memsOf l).length ≤ 1000) (hs : ∀ o ∈ lb, SmallO o) (hs2 : ∀ o ∈ memsOf l, SmallO o) :
    Calls Tryz.prog 58 #[vb, v] w (BegPost w lb (memsOf l)) := by
  have hsy := symsN_le hs2
  have HME := Lib.hid (members_any w v l ((w.alloc (.map #[] 0)).alloc (.cells #[.slice none 0 0, .map (some w.heap.size)] 131)) h ((alloc_old w _).alloc (by simp) _) (by omega))
  have HIX : Hid (∀ W, Below w.heap.size w W → Calls Tryz.prog 19 #[v] W (IndexPost (memsOf l) W)) := fun W hW => index_any v l W (h.keep hW) (by omega) (by omega)
  have HSC := Lib.hid (scope_new w)
  have HLB := Lib.hid hlb
  have HS := Lib.hid hs
  have HML : Hid ((memsOf l).length ≤ 1000 ∧ symsN (memsOf l) ≤ 10000000) := ⟨hml, by omega⟩
  obtain ⟨p, cap, b, o, rfl, hcap, hmax, hp, hc⟩ := hb
  have HP := Lib.hid hp
  have HC := Lib.hid hc
  obtain ⟨pl, cl, _, _, rfl, -⟩ := h
  clear hp hc hs hs2 hml hsy
  generalize memsOf l = ms at *
  have hmm := @run_makeMap Tryz.prog
  go_enter Tryz.func58, Tryz.ntmps58
  go_wp2_with fail
  have HB2 : Hid (Below w.heap.size w ((w.alloc (.map #[] 0)).alloc (.cells #[.slice none 0 0, .map (some w.heap.size)] 131))) := (alloc_old w _).alloc (by simp) _
  have z2 : ((w.alloc (.map #[] 0)).alloc (.cells #[.slice none 0 0, .map (some w.heap.size)] 131)).heap.size = w.heap.size + 2 := by simp
  generalize ((w.alloc (.map #[] 0)).alloc (.cells #[.slice none 0 0, .map (some w.heap.size)] 131)) = w2 at *
  refine HME.out.mono ?_
  rintro e w3 ⟨va, us, rfl, hus, hum, hB3⟩
  have HUS := Lib.hid (hus.mono (B' := w.heap.size) (by omega))
  have HUM := Lib.hid hum
  have HSC3 := Lib.hid (HSC.out.keep hB3)
  have HB3 : Hid (Below w.heap.size w w3) := HB2.out.trans (hB3.mono (by omega))
  have hz3 : w.heap.size + 2 ≤ w3.heap.size := by have := hB3.size; omega
  obtain ⟨pa, ca, rfl⟩ := own_shape hus.row
  clear HME HSC HB2 hus hum hB3
  go_wp2_with fail
  have HPS : Hid (PullSt w (w3.heap.size + 2) (w.heap.size + 1) w.heap.size w3.heap.size (w3.heap.size + 1) (.slice pa us.length ca) (.slice none 0 0) us [] 0 (fun _ => none) 0 (fun _ => false) (((w3.alloc (.map #[] 0)).alloc (.map #[] 0)).alloc (.cells #[.pointer (some ⟨w.heap.size + 1, 0, none⟩), .slice pa us.length ca, .map (some w3.heap.size), .map (some (w3.heap.size + 1))] 119))) := by
    have hbw : Below w3.heap.size w3 (((w3.alloc (.map #[] 0)).alloc (.map #[] 0)).alloc (.cells #[.pointer (some ⟨w.heap.size + 1, 0, none⟩), .slice pa us.length ca, .map (some w3.heap.size), .map (some (w3.heap.size + 1))] 119)) := ((alloc_old w3 _).alloc (by simp) _).alloc (by simp; omega) _
    refine ⟨?_, HSC3.out.keep hbw, HUS.out.keep hbw, ?_, ?_, by omega, by omega, by omega, by omega, by omega, by omega, fun g hg e => by cases e⟩
    · have := new_block ((w3.alloc (.map #[] 0)).alloc (.map #[] 0)) (.cells #[.pointer (some ⟨w.heap.size + 1, 0, none⟩), .slice pa us.length ca, .map (some w3.heap.size), .map (some (w3.heap.size + 1))] 119)
      simpa using this
    · have := MapFn.made Tryz.prog 9 w3
      exact (this.alloc _).alloc _
    · have := made_int (w3.alloc (.map #[] 0))
      have e : (w3.alloc (.map #[] 0)).heap.size = w3.heap.size + 1 := by simp
      rw [e] at this
      exact this.alloc _
  clear hmm
  generalize (((w3.alloc (.map #[] 0)).alloc (.map #[] 0)).alloc (.cells #[.pointer (some ⟨w.heap.size + 1, 0, none⟩), .slice pa us.length ca, .map (some w3.heap.size), .map (some (w3.heap.size + 1))] 119)) = w6 at *
  generalize w3.heap.size + 2 = pb at *
  generalize w3.heap.size + 1 = ib at *
  generalize w3.heap.size = bb at *
  generalize w.heap.size + 1 = sb at *
  go_loopw [21] (fun v21 wr => ∃ (k : Nat) (vs : Value) (ts : List (GObj × Value)), k ≤ lb.length ∧ v21 = .int .i64 k ∧ ts.map (·.1) = lb.take k ∧ PullSt w pb sb w.heap.size bb ib (.slice pa us.length ca) vs us ts 0 (fun _ => none) 0 (fun _ => false) wr) (fun v21 _ => lb.length - (intOf v21).toNat)
  case atStart => exact ⟨0, _, [], Nat.zero_le _, rfl, rfl, HPS.out⟩
  case round =>
    clear HPS
    obtain ⟨k, vs, ts, hk, rfl, hts, hst⟩ := hrel
    have HTS := Lib.hid hts
    have HST := Lib.hid hst
    have hpl : pb < wr.heap.size := hst.lt
    have c0 : wr.cell? ⟨pb, 0, none⟩ = some (.pointer (some ⟨sb, 0, none⟩)) := Lib.cell_of_heap hst.box 0
    have HSM : Hid (∀ t ∈ ts, SmallO t.1) := fun t ht => by
      have : t.1 ∈ lb.take k := by rw [← hts]; exact List.mem_map_of_mem ht
      exact HS.out _ (List.mem_of_mem_take this)
    have HLT : Hid (ts.length ≤ 5000) := by
      have : (ts.map (·.1)).length ≤ lb.length := by rw [hts, List.length_take]; omega
      rw [List.length_map] at this
      rw [Hid]; have := HLB.out; omega
    have HBL : Hid (Below w.heap.size w wr) := hst.scope.blw
    clear hts hst
    by_cases hlt : k < lb.length
    · obtain rfl := HP.out (by omega)
      obtain ⟨vs2, g0, g1, g2, hin⟩ := HC.out k hlt
      replace g1 := cell_keep HBL.out g0 g1
      replace g2 := cell_keep HBL.out g0 g2
      replace g0 := size_keep HBL.out g0
      have htk : lb.take (k + 1) = lb.take k ++ [lb[k]] := List.take_succ_eq_append_getElem hlt
      have hso := HS.out _ (List.getElem_mem hlt)
      generalize hx : lb[k] = x at g1 g2 hin htk hso
      obtain ⟨yn, ys⟩ := x
      have HIN := Lib.hid hin
      obtain ⟨pS, capS, rfl⟩ := hin.form
      simp only [] at g1 g2 HIN
      have HTK := Lib.hid htk
      have HSO := Lib.hid hso
      clear hx htk hso hin
      have HSA := Lib.hid ((HST.out.keep (alloc_old wr (.cells #[.string yn, .slice pS ys.length capS] 50))).keep (Below.refl _ _).drew)
      have HPUT := Lib.hid (HSA.out.scope.put HIN.out HSM.out HSO.out HLT.out)
      have k0 := cell_keep (alloc_old wr (.cells #[.string yn, .slice pS ys.length capS] 50)) hpl c0
      have k1 : (wr.alloc (.cells #[.string yn, .slice pS ys.length capS] 50)).cell? ⟨wr.heap.size, 0, none⟩ = some (.string yn) := by simp [go_sem]
      have k2 : (wr.alloc (.cells #[.string yn, .slice pS ys.length capS] 50)).cell? ⟨wr.heap.size, 1, none⟩ = some (.slice pS ys.length capS) := by simp [go_sem]
      go_wp2
      generalize (wr.alloc (.cells #[.string yn, .slice pS ys.length capS] 50)) = wA at *
      go_still_tail 5, (by kernel_rfl)
      change wpList _ _ _ _ _ wA.drew
      go_wp2_with fail
      refine HPUT.out.mono ?_
      rintro e w7 ⟨rfl, v7, hs7, hk7, hv7⟩
      have HP7 := Lib.hid (HSA.out.scoped hk7 hs7 hv7)
      clear hs7 hk7 hv7 HPUT
      go_wp2
      go_roundw
      case rel => exact ⟨k + 1, v7, ts ++ [(⟨yn, ys⟩, .slice pS ys.length capS)], by omega, by go_num, by rw [List.map_append, HTS.out, HTK.out]; rfl, HP7.out⟩
      case measure => simp [intOf]; omega
    · obtain rfl : k = lb.length := by omega
      rw [List.take_length] at HTS
      have HIW := Lib.hid (HIX.out wr HBL.out)
      clear HIX
      go_wp2_with fail
      refine HIW.out.mono ?_
      rintro e w8 ⟨ve, es, rfl, hes, hpm, hB8⟩
      have HP8 := Lib.hid (HST.out.keep hB8)
      have HES := Lib.hid hes
      have HPM := Lib.hid hpm
      have hel : es.length ≤ 10000000 := by
        have h1 := hpm.length_eq
        have h2 := entsFrom_len ms 0
        have h3 := HML.out.2
        omega
      have HNM : Hid (∀ x ∈ es, x.name.size ≤ 140737488355328) := fun x hx => by
        obtain ⟨q, hq, s, hs, -, rfl⟩ := mem_entsFrom.1 (hpm.mem_iff.1 hx)
        have hql : q < us.length := by rw [← HUM.out, List.length_map] at hq; exact hq
        have e1 : ms[q] = us[q].1 := by simp [← HUM.out]
        rw [e1] at hs
        exact objIn_names (HUS.out.mem _ (List.getElem_mem hql)) s hs
      obtain ⟨pe, ce, rfl⟩ := own_shape hes
      clear hes hpm hB8 HIW HST c0 hpl HBL
      go_wp2_with fail
      obtain ⟨wz, rfl⟩ : ∃ wz : World, wz = wr := ⟨_, rfl⟩
      go_loopw [35] (fun v35 wq => ∃ (j : Nat) (G : List UInt8 → Option GEnt), j ≤ es.length ∧ v35 = .int .i64 j ∧ PullSt w pb sb w.heap.size bb ib (.slice pa us.length ca) vs us ts j G 0 (fun _ => false) wq ∧ BestOf (es.take j) G ∧ EntRow wz.heap.size wq (.slice pe es.length ce) es) (fun v35 _ => es.length - (intOf v35).toNat)
      case atStart => exact ⟨0, _, Nat.zero_le _, rfl, HP8.out, ⟨fun n x hx => (by cases hx), fun x hx => (by simp at hx)⟩, HES.out⟩
      case round =>
        clear HP8 HES
        obtain ⟨j, G, hj, rfl, hst, hbo, hrow⟩ := hrel
        have HSJ := Lib.hid hst
        have HBO := Lib.hid hbo
        have HRJ := Lib.hid hrow
        clear hst hbo
        by_cases hlj : j < es.length
        · obtain ⟨_, _, be, oe, he, -, -, hpe, hce⟩ := EntRow.rows hrow (by omega)
          cases he
          obtain rfl := hpe (by omega)
          obtain ⟨g0, g1, g2, g3⟩ := hce j hlj
          have hsn : es.take (j + 1) = es.take j ++ [es[j]] := List.take_succ_eq_append_getElem hlj
          have hnm := HNM.out _ (List.getElem_mem hlj)
          generalize hx : es[j] = x at g1 g2 g3 hsn hnm
          have HSN := Lib.hid hsn
          clear hx hsn hce hpe hrow
          obtain ⟨xn, xm, xb⟩ := x
          simp only [] at g1 g2 g3 hnm
          have HSA := Lib.hid (HSJ.out.keep (alloc_old wr (.cells #[.string xn, .int .i64 xm, .int .u8 xb] 47)))
          have HCL := Lib.hid (member_any w pb sb w.heap.size bb ib (.slice pa us.length ca) vs us ts j G 0 (fun _ => false) ⟨xn, xm, xb⟩ _ HSA.out hnm (by omega))
          have HRA : Hid (EntRow wz.heap.size (wr.alloc (.cells #[.string xn, .int .i64 xm, .int .u8 xb] 47)) (.slice (some ⟨be, oe, none⟩) es.length ce) es) := own_congr HRJ.out fun g hg => Below.heap_alloc _ _ _ (World.ownsRow.lt HRJ.out g hg).2
          unfold entV at HCL
          simp only [] at HCL
          go_wp2_with fail
          refine HCL.out.mono ?_
          rintro e w9 ⟨rfl, hk9, G', hs9, hG⟩
          have HS9 := Lib.hid hs9
          have HG9 : Hid (BestOf (es.take (j + 1)) G') := by rw [Hid, HSN.out]; exact HBO.out.add hG
          have HR9 : Hid (EntRow wz.heap.size w9 (.slice (some ⟨be, oe, none⟩) es.length ce) es) := own_congr HRA.out fun g hg => hk9.block g (World.ownsRow.lt HRA.out g hg).2 (fun e => own_ne_map HRA.out HSA.out.best (e ▸ hg))
          clear hk9 hs9 hG HCL
          go_wp2
          go_roundw
          case rel => exact ⟨j + 1, G', by omega, by go_num, HS9.out, HG9.out, HR9.out⟩
          case measure => simp [intOf]; omega
        · obtain rfl : j = es.length := by omega
          rw [List.take_length] at HBO
          have HBP := Lib.hid (HBO.out.perm HPM.out)
          go_wp2
          go_ret
          exact ⟨pb, sb, w.heap.size, bb, ib, .slice pa us.length ca, vs, us, ts, _, G, rfl, HSJ.out, HTS.out, HUM.out, HBP.out⟩
end Go.Proofs.YtboegjdkedjhcaaGreatDoor
namespace Go.Proofs.YtboegjdkedjhcaaGreatDoor
open Go.RowKit Go.Maps
theorem own_mono {w : World} {base b2 : Nat} {e : TypeId} {k : Nat} {v : Value} {n : Nat} {xs : List Value} (h : w.ownsRow base e k v n xs) (hb : b2 ≤ base) : w.ownsRow b2 e k v n xs := by
  refine ⟨h.1, ?_⟩
  rcases h.2 with hn | ⟨g, cap, cur, rfl, hg, rest⟩
  · exact .inl hn
  · exact .inr ⟨g, cap, cur, rfl, Nat.le_trans hb hg, rest⟩
def gatL (l : List GNote) : Gat := l.foldl gatNote gat0
theorem gatL_snoc {l : List GNote} {k : Nat} {x : GNote} (h : k < l.length) (hx : l[k] = x) : gatL (l.take (k + 1)) = gatNote (gatL (l.take k)) x := by
  rw [List.take_succ_eq_append_getElem h, hx]
  simp [gatL, List.foldl_append]
theorem gatF_ok : ∀ (l : List GNote) (g : Gat), GatOk g → l.all noteOk = true → (∀ x ∈ l, 0 ≤ x.n) → GatOk (l.foldl gatNote g) ∧ (l.foldl gatNote g).ports.length ≤ g.ports.length + l.length
  | [], g, hg, _, _ => ⟨hg, by simp⟩
  | x :: r, g, hg, h, h0 => by
    rw [List.all_cons, Bool.and_eq_true] at h
    have h1 := gatF_ok r (gatNote g x) (gatNote_ok hg h.1 (h0 x (by simp))) h.2 (fun y hy => h0 y (by simp [hy]))
    have h2 := gatNote_len g x
    refine ⟨h1.1, ?_⟩
    have := h1.2
    simp only [List.foldl_cons, List.length_cons]
    omega
theorem gatL_ok {l : List GNote} (h : l.all noteOk = true) (h0 : ∀ x ∈ l, 0 ≤ x.n) : GatOk (gatL l) ∧ (gatL l).ports.length ≤ l.length := by
  have := gatF_ok l gat0 gat0_ok h h0
  simpa [gatL, gat0] using this
theorem take_all {α : Type} {l : List α} (k : Nat) {q : α → Prop} (h : ∀ x ∈ l, q x) : ∀ x ∈ l.take k, q x := fun x hx => h x (List.mem_of_mem_take hx)
theorem demandR_no {l : List GNote} {k : Nat} {x : GNote} (h : k < l.length) (hx : l[k] = x) (hn : noteOk x = false) : demandR l = (man0, 2) := by
  have : l.all noteOk = false := by
    rw [List.all_eq_false]
    exact ⟨x, by rw [← hx]; exact List.getElem_mem h, by simp [hn]⟩
  simp [demandR, this]
theorem gat_start (w : World) (b0 : Nat) (h : b0 ≤ w.heap.size) (o : Obj) (ho : o = .cells (gatCells gat0 (.slice none 0 0) (.slice none 0 0)).toArray 266) : GatSt b0 w.heap.size gat0 (w.alloc o) := by
  subst ho
  exact ⟨⟨_, new_block w _, World.ownsRow_nil _ _ _ _⟩, h⟩
set_option maxHeartbeats 2000000 in
set_option maxRecDepth 100000 in
theorem demandOf_any (v : Value) (l : List GNote) (w : World) (h : RowAt 3 NoteR w v l) (hl : l.length ≤ 100000) (h16 : S16 (gatL l).ports) :
    Calls Tryz.prog 119 #[v] w (ManPost w.heap.size w (demandR l)) := by
  obtain ⟨p, cap, b, o, rfl, hcap, hmax, hp, hc⟩ := h
  have HC := Lib.hid hc; clear hc
  have HP := Lib.hid hp; clear hp
  generalize hW : (w.alloc (.cells #[.int .u32 0, .slice none 0 0, .slice none 0 0, .bool false] 62)) = w1
  have z1 : w1.heap.size = w.heap.size + 1 := by subst hW; simp
  have HB1 : Hid (Below w.heap.size w w1) := by subst hW; exact alloc_old w _
  have HR1 : Hid (w1.heap[w.heap.size]? = some (.cells #[.int .u32 0, .slice none 0 0, .slice none 0 0, .bool false] 62 (0, 0))) := by subst hW; exact new_block w _
  go_enter Tryz.func119, Tryz.ntmps119
  go_wp2
  try rw [hW]
  clear hW
  go_loopw [10] (fun v0 wr => ∃ k : Nat, v0 = .int .i64 k ∧ k ≤ l.length ∧ (l.take k).all noteOk = true ∧ GatSt (w.heap.size + 1) (w.heap.size + 1) (gatL (l.take k)) wr ∧ Below (w.heap.size + 1) w1 wr) (fun v0 _ => l.length - (intOf v0).toNat)
  case atStart => exact ⟨0, by go_num, Nat.zero_le _, rfl, by rw [← z1]; exact gat_start w1 _ (Nat.le_refl _) _ rfl, by rw [← z1]; exact alloc_old _ _⟩
  case round =>
    obtain ⟨k, rfl, hk, hall, hst, hB⟩ := hrel
    have HA := Lib.hid hall; clear hall
    have HST := Lib.hid hst; clear hst
    have HB := Lib.hid hB; clear hB
    have hpos : Hid (∀ x ∈ l, 0 ≤ x.n) := by
      intro x hx
      obtain ⟨i, hi, rfl⟩ := List.getElem_of_mem hx
      exact (HC.out i hi).2.2.2.2.2.1.1
    have HGO := Lib.hid (gatL_ok HA.out (take_all k hpos.out))
    have HR : Hid (wr.heap[w.heap.size]? = some (.cells #[.int .u32 0, .slice none 0 0, .slice none 0 0, .bool false] 62 (0, 0))) := (HB.out.block _ (by omega)).trans HR1.out
    have hzr : w.heap.size + 1 < wr.heap.size := HST.out.lt
    by_cases hlt : k < l.length
    · obtain rfl := HP.out (by omega)
      have HBW : Hid (Below w.heap.size w wr) := HB1.out.trans (HB.out.mono (by omega))
      obtain ⟨g0, g1, g2, g3, g4, g5, g6⟩ := noteR_keeps _ _ _ _ _ HBW.out (HC.out k hlt)
      generalize hxk : l[k] = x at g1 g2 g3 g4 g5 g6
      have HX := Lib.hid hxk; clear hxk
      have HNT := Lib.hid (note_any x (wr.alloc (.cells #[.int .u8 x.kind, .int .u32 x.n, .int .u32 x.m] 155)) g4 g5 g6)
      have hz3 : wr.heap.size < (wr.alloc (.cells #[.int .u8 x.kind, .int .u32 x.n, .int .u32 x.m] 155)).heap.size := by simp
      go_wp2_with fail
      refine HNT.out.mono ?_
      rintro e w2 ⟨rfl, hB2⟩
      cases hok : noteOk x with
      | false =>
        simp only [errB]
        have HD := Lib.hid (demandR_no hlt HX.out hok)
        have hB2w : Below wr.heap.size wr w2 := (alloc_old wr _).trans (hB2.mono (by simp))
        have hr := (hB2w.block _ (by omega)).trans HR.out
        have r0 := Lib.cell_of_heap hr 0
        have r1 := Lib.cell_of_heap hr 1
        have r2 := Lib.cell_of_heap hr 2
        have r3 := Lib.cell_of_heap hr 3
        have rz : ∀ j, w2.frozen? ⟨w.heap.size, j, none⟩ = false := fun j => Lib.frozen_of_heap hr _
        have hW := put4 (u0 := .int .u32 0) (u1 := .slice none 0 0) (u2 := .slice none 0 0) (u3 := .bool false) hr
        have x0 := Lib.cell_of_heap hW 0
        have x1 := Lib.cell_of_heap hW 1
        have x2 := Lib.cell_of_heap hW 2
        have x3 := Lib.cell_of_heap hW 3
        have HX0 := Lib.hid (And.intro x0 (And.intro x1 (And.intro x2 x3)))
        have HB2 : Hid (Below w.heap.size w w2) := HBW.out.trans (hB2w.mono HBW.out.size)
        clear hW x0 x1 x2 x3 hr hB2 hB2w g1 g2 g3
        go_wp2
        obtain ⟨x0, x1, x2, x3⟩ := HX0.out
        refine bodyPost_ret (v := .tuple #[.agg #[.int .u32 0, .slice none 0 0, .slice none 0 0, .bool false], .int .i64 2]) (by simp [results, Tryz.results119, go_sem, x0, x1, x2, x3]) rfl ?_
        rw [HD.out]
        exact ⟨_, _, rfl, World.ownsRow_nil _ _ _ _, World.ownsRow_nil _ _ _ _, put4_below HB2.out (Nat.le_refl _)⟩
      | true =>
        simp only [errB]
        have hB2w : Below wr.heap.size wr w2 := (alloc_old wr _).trans (hB2.mono (by simp))
        have HS2 := Lib.hid (HST.out.below hB2w)
        have q0 := cell_keep hB2 (by simp) (show (wr.alloc (.cells #[.int .u8 x.kind, .int .u32 x.n, .int .u32 x.m] 155)).cell? ⟨wr.heap.size, 0, none⟩ = some (.int .u8 x.kind) by simp [go_sem])
        have q1 := cell_keep hB2 (by simp) (show (wr.alloc (.cells #[.int .u8 x.kind, .int .u32 x.n, .int .u32 x.m] 155)).cell? ⟨wr.heap.size, 1, none⟩ = some (.int .u32 x.n) by simp [go_sem])
        have q2 := cell_keep hB2 (by simp) (show (wr.alloc (.cells #[.int .u8 x.kind, .int .u32 x.n, .int .u32 x.m] 155)).cell? ⟨wr.heap.size, 2, none⟩ = some (.int .u32 x.m) by simp [go_sem])
        have HN := Lib.hid (gnote_any (w.heap.size + 1) (w.heap.size + 1) (gatL (l.take k)) x w2 HS2.out HGO.out.1 hok g5.1 (by have := HGO.out.2; simp at this; omega))
        have HB2 : Hid (Below (w.heap.size + 1) w1 w2) := HB.out.trans (hB2w.mono (by omega))
        clear hB2 hB2w g1 g2 g3
        go_wp2_with fail
        refine HN.out.mono ?_
        rintro e w3 ⟨rfl, hs3, hB3⟩
        have HS3 := Lib.hid hs3
        have HB3 := Lib.hid hB3
        clear hs3 hB3
        go_wp2
        go_roundw
        case rel => exact ⟨k + 1, by go_num, by omega, take_all_snoc hlt HX.out HA.out hok, by rw [gatL_snoc hlt HX.out]; exact HS3.out, HB2.out.trans HB3.out⟩
        case measure => simp [intOf]; omega
    · have hke : l.take k = l := List.take_of_length_le (by omega)
      have HD : Hid (demandR l = gatEnd (gatL l)) := by
        have h1 := HA.out
        rw [hke] at h1
        simp [Hid, demandR, h1, gatL, gatAll]
      rw [hke] at HST HGO
      have HM := Lib.hid (manif_any (w.heap.size + 1) (w.heap.size + 1) (gatL l) wr HST.out HGO.out.1 (by have := HGO.out.2; omega) h16 (by omega))
      go_wp2_with fail
      refine HM.out.mono ?_
      rintro e w2 ⟨ve, vp, rfl, ho, hu, hB2⟩
      obtain ⟨pe, ce, rfl⟩ := own_shape ho
      obtain ⟨pu, cu, rfl⟩ := own_shape hu
      have hr := (hB2.block _ (by omega)).trans HR.out
      have r0 := Lib.cell_of_heap hr 0
      have r1 := Lib.cell_of_heap hr 1
      have r2 := Lib.cell_of_heap hr 2
      have r3 := Lib.cell_of_heap hr 3
      have rz : ∀ j, w2.frozen? ⟨w.heap.size, j, none⟩ = false := fun j => Lib.frozen_of_heap hr _
      have HO := Lib.hid ho
      have HU := Lib.hid hu
      have HB2 : Hid (Below w.heap.size w w2) := (HB1.out.trans (HB.out.mono (by omega))).trans (hB2.mono (by omega))
      clear hB2 ho hu
      generalize hge : gatEnd (gatL l) = R at *
      obtain ⟨⟨rp, re, rq, rc⟩, rn⟩ := R
      simp only [] at *
      have HD2 : Hid (demandR l = (⟨rp, re, rq, rc⟩, rn)) := HD.out
      have hW := put4 (u0 := .int .u32 rp) (u1 := .slice pe re.length ce) (u2 := .slice pu rq.length cu) (u3 := .bool rc) hr
      have x0 := Lib.cell_of_heap hW 0
      have x1 := Lib.cell_of_heap hW 1
      have x2 := Lib.cell_of_heap hW 2
      have x3 := Lib.cell_of_heap hW 3
      have HX0 := Lib.hid (And.intro x0 (And.intro x1 (And.intro x2 x3)))
      clear hW x0 x1 x2 x3 hr
      go_wp2
      obtain ⟨x0, x1, x2, x3⟩ := HX0.out
      refine bodyPost_ret (v := .tuple #[.agg #[.int .u32 rp, .slice pe re.length ce, .slice pu rq.length cu, .bool rc], .int .i64 rn]) (by simp [results, Tryz.results119, go_sem, x0, x1, x2, x3]) rfl ?_
      rw [HD2.out]
      refine ⟨_, _, rfl, own_mono (own_congr HO.out fun q hq => put4_other fun e => ?_) (Nat.le_succ _), own_mono (own_congr HU.out fun q hq => put4_other fun e => ?_) (Nat.le_succ _), put4_below HB2.out (Nat.le_refl _)⟩
      · have := (HO.out.lt q hq).1; omega
      · have := (World.ownsRow.lt HU.out q hq).1; omega
end Go.Proofs.YtboegjdkedjhcaaGreatDoor
