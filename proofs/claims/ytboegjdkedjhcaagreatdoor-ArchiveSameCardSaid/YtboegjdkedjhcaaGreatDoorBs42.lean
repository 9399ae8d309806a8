/- What an image that was linked is made of, in plain words. No program in. -/
import Derived.Test.YtboegjdkedjhcaaGreatDoorBs34
import Derived.Test.YtboegjdkedjhcaaGreatDoorBs39
import Derived.Test.YtboegjdkedjhcaaGreatDoorBs26
import Derived.Test.YtboegjdkedjhcaaGreatDoorBs29
import Derived.Test.YtboegjdkedjhcaaGreatDoorBs35
namespace Go.Proofs.YtboegjdkedjhcaaGreatDoor
section
theorem spZ {l : List GObj} {nm : ByteArray} {r : GLink × ByteArray × Int} (h : Sp18 l nm r) (h0 : r.2.2 = 0) : ∃ p K, KeptYes l nm p K ∧ r = linkR l nm p (K.map toG) := by
 rcases h with ⟨n, c, hc, -, rfl⟩ | ⟨p, K, hy, rfl⟩
 ·exact absurd h0 hc
 ·exact ⟨p, K, hy, rfl⟩
end
section
open Go.RowKit
structure Emb (A B : List GObj) (f : Nat → Nat) : Prop where
 obj : ∀ i (h : i < A.length), B[f i]? = some A[i]
 up : ∀ i j, i < j → j < A.length → f i < f j
theorem Emb.lt {A B : List GObj} {f : Nat → Nat} (h : Emb A B f) {i : Nat} (hi : i < A.length) : f i < B.length := (List.getElem?_eq_some_iff.1 (h.obj i hi)).1
theorem Emb.inj {A B : List GObj} {f : Nat → Nat} (h : Emb A B f) {i j : Nat} (hi : i < A.length) (hj : j < A.length) (e : f i = f j) : i = j := by
 rcases Nat.lt_trichotomy i j with h1 | h1 | h1
 ·have := h.up i j h1 hj; omega
 ·exact h1
 ·have := h.up j i h1 hi; omega
theorem Emb.ge {A B : List GObj} {f : Nat → Nat} (h : Emb A B f) : ∀ i, i < A.length → i ≤ f i
 | 0, _ => Nat.zero_le _
 | i + 1, hi => by
   have h1 := h.ge i (by omega)
   have h2 := h.up i (i + 1) (by omega) hi
   omega
theorem Emb.len {A B : List GObj} {f : Nat → Nat} (h : Emb A B f) : A.length ≤ B.length := by
 by_cases h0 : A.length = 0
 ·omega
 ·have h1 := h.ge (A.length - 1) (by omega)
  have h2 := h.lt (i := A.length - 1) (by omega)
  omega
theorem Emb.sub {A B : List GObj} {f : Nat → Nat} (h : Emb A B f) : ∀ o ∈ A, o ∈ B := fun o ho => by
 obtain ⟨i, hi, rfl⟩ := List.getElem_of_mem ho; exact List.mem_of_getElem? (h.obj i hi)
theorem Emb.may {A B : List GObj} {f : Nat → Nat} (h : Emb A B f) (hm : mayAll B = true) : mayAll A = true := by
 simp only [mayAll, Bool.and_eq_true, decide_eq_true_eq, List.all_eq_true] at hm ⊢; exact ⟨Nat.le_trans h.len hm.1, fun o ho => hm.2 _ (h.sub o ho)⟩
def fP (f : Nat → Nat) (p : PP) : PP := (f p.1, p.2)
theorem Emb.spot {A B : List GObj} {f : Nat → Nat} (h : Emb A B f) {x : Spot} (hx : x ∈ flat A) : (⟨f x.obj, x.sym, x.it⟩ : Spot) ∈ flat B ∧ x.obj < A.length := by
 obtain ⟨o, h1, h2⟩ := flat_mem hx; obtain ⟨hi, he⟩ := List.getElem?_eq_some_iff.1 h1; have h3 := h.obj x.obj hi; rw [he] at h3; exact ⟨mem_flat h3 h2, hi⟩
theorem one_of {α : Type} : ∀ {l : List α}, l.length ≤ 1 → ∀ {a b : α}, a ∈ l → b ∈ l → a = b
 | [], _, _, _, ha, _ => by cases ha
 | [x], _, a, b, ha, hb => by rw [List.mem_singleton] at ha hb; rw [ha, hb]
 | _ :: _ :: _, h, _, _, _, _ => by simp at h
theorem strong_first {l : List GObj} (hd : dupGo [] (flat l) = none) {x : Spot} (hx : x ∈ flat l) (hb : x.it.bind = 1) {n : List UInt8} (hn : x.it.name.data.toList = n) : firstBy (flat l) n 1 = some (x.obj, x.sym) := by
 subst hn; have hc := cnt_of_dup x.it.name.data.toList (flat l) [] hd (by simp [cntBy])
 rw [List.nil_append] at hc; have hh : hits x.it.name.data.toList 1 x = true := hits_self hb; have hmx : x ∈ (flat l).filter (hits x.it.name.data.toList 1) := List.mem_filter.2 ⟨hx, hh⟩; unfold firstBy; cases hf : (flat l).find? (hits x.it.name.data.toList 1) with
 | none => exact absurd hh (List.find?_eq_none.1 hf x hx)
 | some y =>
   have hmy : y ∈ (flat l).filter (hits x.it.name.data.toList 1) := List.mem_filter.2 ⟨List.mem_of_find?_eq_some hf, List.find?_some hf⟩; rw [one_of hc hmy hmx]; rfl
theorem dup_none : ∀ (rest pre : List Spot), (∀ x ∈ rest, x.it.bind = 1 → firstBy pre x.it.name.data.toList 1 = none) → rest.Pairwise (fun x y => ¬ (x.it.bind = 1 ∧ y.it.bind = 1 ∧ x.it.name.data.toList = y.it.name.data.toList)) → dupGo pre rest = none
 | [], _, _, _ => rfl
 | x :: r, pre, h1, h2 => by
   rw [List.pairwise_cons] at h2; rw [dupGo, if_neg]
   ·refine dup_none r _ (fun y hy hb => ?_) h2.2
    rw [firstBy_snoc, h1 y (List.mem_cons_of_mem _ hy) hb]; simp only []; rw [if_neg]; intro hh; obtain ⟨e1, e2⟩ := hits_name hh; exact h2.1 y hy ⟨e2, hb, e1⟩
   ·rintro ⟨hb, hs⟩; rw [h1 x (List.mem_cons_self ..) hb] at hs; cases hs
theorem Emb.dup {A B : List GObj} {f : Nat → Nat} (h : Emb A B f) (hd : dupGo [] (flat B) = none) : dupGo [] (flat A) = none := by
 refine dup_none _ _ (fun x _ _ => rfl) ?_
 have hs : (flat A).Pairwise before := objsFrom_sorted 0 A; refine hs.imp_of_mem ?_; intro x y hx hy hxy ⟨b1, b2, e⟩; obtain ⟨h1, l1⟩ := h.spot hx; obtain ⟨h2, l2⟩ := h.spot hy; have e1 := strong_first hd h1 b1 e; have e2 := strong_first hd h2 b2 rfl; rw [e1] at e2; have e3 := Option.some.inj e2; have e4 := h.inj l1 l2 (congrArg Prod.fst e3); have e5 : x.sym = y.sym := congrArg Prod.snd e3; rcases hxy with h3 | ⟨_, h3⟩ <;> omega
theorem Emb.begin {A B : List GObj} {f : Nat → Nat} (h : Emb A B f) (hb : (beginR B).2 = 0) : (beginR A).2 = 0 := by
 obtain ⟨hm, hd⟩ := beginR_zero hb; unfold beginR; rw [if_pos (h.may hm), h.dup hd]
def Bind01 (l : List GObj) : Prop := ∀ o ∈ l, ∀ s ∈ o.syms, s.bind = 0 ∨ s.bind = 1
theorem first_two {l : List GObj} (hw : Bind01 l) (n : List UInt8) : firstBy (flat l) n 2 = none := by
 cases h : firstBy (flat l) n 2 with
 | none => rfl
 | some p =>
   obtain ⟨o, s, h1, h2, -, h4⟩ := firstBy_mem h; have := hw o (List.mem_of_getElem? h1) s (List.mem_of_getElem? h2); omega
theorem winner_strong {l : List GObj} (hw : Bind01 l) (n : List UInt8) : winnerIn (flat l) n = firstBy (flat l) n 1 := by
 unfold winnerIn; cases h : firstBy (flat l) n 1 with
 | some p => rfl
 | none => exact first_two hw n
theorem Emb.winner {A B : List GObj} {f : Nat → Nat} (h : Emb A B f) (hd : dupGo [] (flat B) = none) (hw : Bind01 B) {n : List UInt8} {p : PP} (hp : winnerIn (flat A) n = some p) : winnerIn (flat B) n = some (fP f p) := by
 rw [winner_strong fun o ho => hw o (h.sub o ho)] at hp
 rw [winner_strong hw]; obtain ⟨x, hx, hh, rfl⟩ := firstBy_hit hp; obtain ⟨hn, hb⟩ := hits_name hh; exact strong_first hd (h.spot hx).1 hb hn
theorem defS_mem {ss : List GSym} {n : List UInt8} : defS ss n = true ↔ ∃ s ∈ ss, s.bind ≠ 0 ∧ s.name.data.toList = n := by
 simp only [defS, List.any_eq_true, Bool.and_eq_true, bne_iff_ne, ne_eq, beq_iff_eq]
theorem winner_none {l : List GObj} (hw : Bind01 l) {n : List UInt8} (h : defB l n = false) : winnerIn (flat l) n = none := by
 rw [winner_strong hw]; cases hf : firstBy (flat l) n 1 with
 | none => rfl
 | some p =>
   obtain ⟨o, s, h1, h2, h3, h4⟩ := firstBy_mem hf; have h5 : defB l n = true := defB_true.2 ⟨o, List.mem_of_getElem? h1, defS_mem.2 ⟨s, List.mem_of_getElem? h2, by omega, h3⟩⟩
   rw [h] at h5; cases h5
theorem no_winner {l : List GObj} (hw : Bind01 l) {n : List UInt8} (h : winnerIn (flat l) n = none) : defB l n = false := by
 cases hd : defB l n with
 | false => rfl
 | true =>
   obtain ⟨o, ho, h1⟩ := defB_true.1 hd; obtain ⟨s, hs, h2, h3⟩ := defS_mem.1 h1; have hb : s.bind = 1 := (hw o ho s hs).resolve_left h2; obtain ⟨i, hi, rfl⟩ := List.getElem_of_mem ho; obtain ⟨k, hk, rfl⟩ := List.getElem_of_mem hs; have hx : (⟨i, k, l[i].syms[k]⟩ : Spot) ∈ flat l := mem_flat (List.getElem?_eq_getElem hi) (List.getElem?_eq_getElem hk); rw [winner_strong hw] at h; unfold firstBy at h; rw [Option.map_eq_none_iff] at h; have h4 := List.find?_eq_none.1 h _ hx; exact absurd (by simp [hits, h3, hb]) h4
theorem Emb.localAt {A B : List GObj} {f : Nat → Nat} (h : Emb A B f) {i : Nat} (hi : i < A.length) (n : List UInt8) : localAt B (f i) n = (localAt A i n).map (fP f) := by
 unfold Go.Proofs.YtboegjdkedjhcaaGreatDoor.localAt; rw [h.obj i hi, List.getElem?_eq_getElem hi]; simp only [Option.map_map]; rfl
def Stops (nm : List UInt8) (A B : List GObj) : Prop := ∀ n ∈ wantsRaw (defB A) nm A, defB B n = false
structure EmbAll (nm : List UInt8) (A B : List GObj) (f : Nat → Nat) : Prop where
 emb : Emb A B f
 dup : dupGo [] (flat B) = none
 bind : Bind01 B
 stop : Stops nm A B
theorem EmbAll.bindA {nm : List UInt8} {A B : List GObj} {f : Nat → Nat} (h : EmbAll nm A B f) : Bind01 A := fun o ho => h.bind o (h.emb.sub o ho)
theorem EmbAll.entry {nm : List UInt8} {A B : List GObj} {f : Nat → Nat} (h : EmbAll nm A B f) : findR B (-1) nm = (findR A (-1) nm).map (fP f) := by
 unfold findR; rw [if_neg (by omega), if_neg (by omega)]
 simp only []; cases hw : winnerIn (flat A) nm with
 | some p => rw [h.emb.winner h.dup h.bind hw]; rfl
 | none =>
   rw [winner_none h.bind (h.stop nm ?_)]; rfl; rw [wantsRaw, List.mem_append]; left; unfold wantsE; rw [no_winner h.bindA hw]; simp
theorem EmbAll.find {nm : List UInt8} {A B : List GObj} {f : Nat → Nat} (h : EmbAll nm A B f) {i : Nat} (hi : i < A.length) {r : GRel} (hr : ∃ s ∈ A[i].syms, r ∈ s.rels) : findR B ((f i : Nat) : Int) r.name.data.toList = (findR A (i : Int) r.name.data.toList).map (fP f) := by
 unfold findR; rw [if_pos (Int.natCast_nonneg _), if_pos (Int.natCast_nonneg _), Int.toNat_natCast, Int.toNat_natCast, h.emb.localAt hi]; cases hl : Go.Proofs.YtboegjdkedjhcaaGreatDoor.localAt A i r.name.data.toList with
 | some p => rfl
 | none =>
   simp only [Option.map_none]; cases hw : winnerIn (flat A) r.name.data.toList with
   | some p => rw [h.emb.winner h.dup h.bind hw]; rfl
   | none =>
     have hnd := no_winner h.bindA hw; rw [winner_none h.bind (h.stop _ ?_)]; rfl; rw [wantsRaw, List.mem_append, mem_wantsO]; right; obtain ⟨s, hs, hrs⟩ := hr; refine ⟨A[i], List.getElem_mem hi, s, hs, r, hrs, ?_, rfl⟩; unfold wantR; rw [hnd]
     have hc : cntS A[i].syms r.name.data.toList = 0 := by
      unfold cntS; rw [List.countP_eq_zero]; intro t ht hn; have hn2 : t.name.data.toList = r.name.data.toList := by simpa using hn
      rcases h.bindA _ (List.getElem_mem hi) t ht with hb | hb
      ·unfold Go.Proofs.YtboegjdkedjhcaaGreatDoor.localAt at hl; rw [List.getElem?_eq_getElem hi] at hl; simp only [Option.map_eq_none_iff, List.findIdx?_eq_none_iff] at hl; have := hl t ht; simp [isLocal, hn2, hb] at this
      ·have : defB A r.name.data.toList = true := defB_true.2 ⟨_, List.getElem_mem hi, defS_mem.2 ⟨t, ht, by omega, hn2⟩⟩
       rw [hnd] at this; cases this
     rw [hc]; rfl
theorem Emb.relsAt {A B : List GObj} {f : Nat → Nat} (h : Emb A B f) {a : Nat} (ha : a < A.length) (b : Nat) : relsAt B (f a) b = relsAt A a b := by
 unfold Go.Proofs.YtboegjdkedjhcaaGreatDoor.relsAt; rw [h.obj a ha, List.getElem?_eq_getElem ha]
theorem relsAt_in {l : List GObj} {a b : Nat} {x : GRel} (h : x ∈ relsAt l a b) : ∃ (ha : a < l.length), ∃ s ∈ l[a].syms, x ∈ s.rels := by
 unfold relsAt at h; cases ho : l[a]? with
 | none => rw [ho] at h; cases h
 | some o =>
   rw [ho] at h; obtain ⟨ha, rfl⟩ := List.getElem?_eq_some_iff.1 ho; simp only [] at h; cases hs : l[a].syms[b]? with
   | none => rw [hs] at h; cases h
   | some s => rw [hs] at h; exact ⟨ha, s, List.mem_of_getElem? hs, h⟩
theorem valid_lt {l : List GObj} {p : PP} (h : validP l p) : p.1 < l.length := by
 obtain ⟨o, s, h1, -⟩ := h; exact (List.getElem?_eq_some_iff.1 h1).1
theorem EmbAll.knows {nm : List UInt8} {A B : List GObj} {f : Nat → Nat} (h : EmbAll nm A B f) {p q : PP} (hp : p.1 < A.length) : knowsP B (fP f p) q ↔ ∃ q', q = fP f q' ∧ knowsP A p q' := by
 unfold knowsP; have e : Go.Proofs.YtboegjdkedjhcaaGreatDoor.relsAt B (fP f p).1 (fP f p).2 = Go.Proofs.YtboegjdkedjhcaaGreatDoor.relsAt A p.1 p.2 := h.emb.relsAt hp p.2; rw [e]; constructor
 ·rintro ⟨x, hx, hf⟩; obtain ⟨_, hs⟩ := relsAt_in hx; have h2 := h.find hp hs; rw [show ((fP f p).1 : Nat) = f p.1 from rfl, h2] at hf
  cases hq : findR A (p.1 : Int) x.name.data.toList with
  | none => rw [hq] at hf; cases hf
  | some q' =>
    rw [hq] at hf; exact ⟨q', (Option.some.inj hf).symm, x, hx, hq⟩
 ·rintro ⟨q', rfl, x, hx, hf⟩; obtain ⟨_, hs⟩ := relsAt_in hx; have h2 := h.find hp hs; exact ⟨x, hx, by rw [show ((fP f p).1 : Nat) = f p.1 from rfl, h2, hf]; rfl⟩
theorem EmbAll.reach {nm : List UInt8} {A B : List GObj} {f : Nat → Nat} (h : EmbAll nm A B f) {p : PP} (hp : validP A p) {y : PP} : Reach B (fP f p) y ↔ ∃ y', y = fP f y' ∧ Reach A p y' := by
 constructor
 ·intro hr
  induction hr with
  | refl => exact ⟨p, rfl, .refl⟩
  | step _ k ih =>
    obtain ⟨y', rfl, hr'⟩ := ih; obtain ⟨q', rfl, hk⟩ := (h.knows (valid_lt (hr'.valid hp))).1 k; exact ⟨q', rfl, .step hr' hk⟩
 ·rintro ⟨y', rfl, hr⟩
  induction hr with
  | refl => exact .refl
  | step hr' k ih => exact .step ih ((h.knows (valid_lt (hr'.valid hp))).2 ⟨_, rfl, k⟩)
theorem EmbAll.kept {nm : List UInt8} {A B : List GObj} {f : Nat → Nat} (h : EmbAll nm A B f) {p : PP} (hp : validP A p) {K : List PP} (hk : KeptOf A p K) : KeptOf B (fP f p) (K.map (fP f)) := by
 refine ⟨?_, fun x => ?_⟩
 ·rw [List.pairwise_map]; refine hk.1.imp_of_mem ?_; intro a b ha hb hab; have va := valid_lt (((hk.2 a).1 ha).valid hp); have vb := valid_lt (((hk.2 b).1 hb).valid hp); rcases hab with h1 | ⟨h1, h2⟩
  ·exact .inl (h.emb.up _ _ h1 vb)
  ·exact .inr ⟨congrArg f h1, h2⟩
 ·rw [List.mem_map, h.reach hp]; constructor
  ·rintro ⟨a, ha, rfl⟩; exact ⟨a, rfl, (hk.2 a).1 ha⟩
  ·rintro ⟨a, rfl, ha⟩; exact ⟨a, (hk.2 a).2 ha, rfl⟩
theorem EmbAll.refsGo {nm : List UInt8} {A B : List GObj} {f : Nat → Nat} (h : EmbAll nm A B f) {a : Nat} (ha : a < A.length) : ∀ (rs : List GRel) (acc : List PP), (∀ x ∈ rs, ∃ s ∈ A[a].syms, x ∈ s.rels) →
 refsGo B ((f a : Nat) : Int) (acc.map (fP f)) rs = ((refsGo A (a : Int) acc rs).1.map (fP f), (refsGo A (a : Int) acc rs).2.1, (refsGo A (a : Int) acc rs).2.2)
 | [], acc, _ => rfl
 | x :: r, acc, hx => by
   unfold Go.Proofs.YtboegjdkedjhcaaGreatDoor.refsGo; rw [h.find ha (hx x (List.mem_cons_self ..))]; cases hf : findR A (a : Int) x.name.data.toList with
   | none => rfl
   | some q =>
     have ih := h.refsGo ha r (acc ++ [q]) fun y hy => hx y (List.mem_cons_of_mem _ hy)
     rw [List.map_append] at ih; exact ih
theorem EmbAll.refs {nm : List UInt8} {A B : List GObj} {f : Nat → Nat} (h : EmbAll nm A B f) (hb : (beginR B).2 = 0) {x : PP} (hv : validP A x) :
 refsV (beginR B) B ((fP f x).1 : Int) ((fP f x).2 : Int) = ((refsV (beginR A) A (x.1 : Int) (x.2 : Int)).1.map (fP f), (refsV (beginR A) A (x.1 : Int) (x.2 : Int)).2.1, (refsV (beginR A) A (x.1 : Int) (x.2 : Int)).2.2) := by
 have hv2 : validP B (fP f x) := by
  obtain ⟨o, s, h1, h2⟩ := hv; obtain ⟨hi, rfl⟩ := List.getElem?_eq_some_iff.1 h1; exact ⟨_, s, h.emb.obj x.1 hi, h2⟩
 have e : Go.Proofs.YtboegjdkedjhcaaGreatDoor.relsAt B (fP f x).1 (fP f x).2 = Go.Proofs.YtboegjdkedjhcaaGreatDoor.relsAt A x.1 x.2 := h.emb.relsAt (valid_lt hv) x.2; rw [refsV_of hb hv2, refsV_of (h.emb.begin hb) hv, e]; exact h.refsGo (valid_lt hv) _ [] fun y hy => (relsAt_in hy).2
theorem EmbAll.refsC {nm : List UInt8} {A B : List GObj} {f : Nat → Nat} (h : EmbAll nm A B f) (hb : (beginR B).2 = 0) {x : PP} (hv : validP A x) : refsC B (fP f x) = refsC A x := by
 unfold Go.Proofs.YtboegjdkedjhcaaGreatDoor.refsC; rw [h.refs hb hv]
theorem EmbAll.yes {nm : ByteArray} {A B : List GObj} {f : Nat → Nat} (h : EmbAll nm.data.toList A B f) {p : PP} {K : List PP} (hy : KeptYes B nm p K) {r : GLink × ByteArray × Int} (hs : Sp18 A nm r) :
 ∃ p' K', KeptYes A nm p' K' ∧ p = fP f p' ∧ K = K'.map (fP f) ∧ r = linkR A nm p' (K'.map toG) := by
 obtain ⟨hb, hf, hk, hc⟩ := hy; have hbA := h.emb.begin hb; rw [h.entry] at hf; cases hf' : findR A (-1) nm.data.toList with
 | none => rw [hf'] at hf; cases hf
 | some p' =>
   rw [hf'] at hf; obtain rfl := (Option.some.inj hf).symm; have hv := findR_valid hf'
   have main : ∀ K', KeptOf A p' K' → K = K'.map (fP f) ∧ ∀ x ∈ K', Go.Proofs.YtboegjdkedjhcaaGreatDoor.refsC A x = 0 := fun K' hk' => by
    have e := hk.eq (h.kept hv hk'); refine ⟨e, fun x hx => ?_⟩
    have hvx := ((hk'.2 x).1 hx).valid hv; rw [← h.refsC hb hvx]; exact hc _ (by rw [e]; exact List.mem_map_of_mem hx)
   rcases hs with ⟨n, c, h0, hke, rfl⟩ | ⟨q, K', hy', rfl⟩
   ·exfalso; rcases hke with ⟨h1, -⟩ | ⟨-, q, K', h2, h3, h4⟩
    ·apply h1; unfold entryR; rw [if_neg (by simpa using hbA), hf']
    ·rw [hf'] at h2; obtain rfl := Option.some.inj h2; rw [toldR_zero (main K' h3).2] at h4; exact h0 (congrArg Prod.snd h4).symm
   ·have h2 := hy'.2.1; rw [hf'] at h2; obtain rfl := Option.some.inj h2; exact ⟨p', K', hy', rfl, (main K' hy'.2.2.1).1, rfl⟩
end
section
end
section
def slice (b : BL) (a c : Nat) : BL := (b.drop a).take c
theorem slice_get (b : BL) (a c j : Nat) : (slice b a c)[j]? = if j < c then b[a + j]? else none := by
 unfold slice; rw [List.getElem?_take, List.getElem?_drop]
theorem putB_get {b s : BL} {o : Nat} (h : o + s.length ≤ b.length) (q : Nat) : (putB b s o)[q]? = if q < o then b[q]? else if q < o + s.length then s[q - o]? else b[q]? := by
 unfold putB; have h1 : (b.take o).length = o := by rw [List.length_take]; omega
 by_cases hq : q < o
 ·rw [if_pos hq, List.append_assoc, List.getElem?_append_left (by omega), List.getElem?_take, if_pos hq]
 ·rw [if_neg hq]
  by_cases hq2 : q < o + s.length
  ·rw [if_pos hq2, List.append_assoc, List.getElem?_append_right (by omega), h1, List.getElem?_append_left (by omega)]
  ·rw [if_neg hq2, List.getElem?_append_right (by rw [List.length_append]; omega), List.length_append, h1, List.getElem?_drop]
   congr 1; omega
theorem slice_other {b s : BL} {o a c : Nat} (h : o + s.length ≤ b.length) (hd : a + c ≤ o ∨ o + s.length ≤ a) : slice (putB b s o) a c = slice b a c := by
 apply List.ext_getElem?; intro j; rw [slice_get, slice_get]
 by_cases hj : j < c
 ·rw [if_pos hj, if_pos hj, putB_get h]; split
  ·rfl
  ·rw [if_neg (by omega)]
 ·rw [if_neg hj, if_neg hj]
theorem slice_self {b s : BL} {o : Nat} (h : o + s.length ≤ b.length) : slice (putB b s o) o s.length = s := by
 apply List.ext_getElem?; intro j; rw [slice_get]
 by_cases hj : j < s.length
 ·rw [if_pos hj, putB_get h, if_neg (by omega), if_pos (by omega)]
  congr 1; omega
 ·rw [if_neg hj, List.getElem?_eq_none (by omega)]
def atN (wh : List GAddr) (i : Nat) : Nat := (aAt wh i).at_.toNat
theorem fillGo_inv {l : List GObj} {ps : List GP} {wh : List GAddr} {sp : List GSpan} {f : BL} {nm : ByteArray} (hl : Laid l ps wh sp) (hm : layMay l ps = true) (hb : ∀ o ∈ l, ∀ s ∈ o.syms, s.bytes.size < 4294967296) : ∀ (m k : Nat) (b : BL), m = ps.length - k → k ≤ ps.length → b.length = 131072 → fillGo l wh (ps.drop k) (wh.drop k) b = (f, nm, 0) →
 f.length = 131072 ∧ (∀ i, k ≤ i → i < ps.length → ∃ s, symAt l (pAt ps i) = some s ∧ (filledR l wh (pAt ps i) s).2 = 0 ∧ slice f (atN wh i) s.size.toNat = (filledR l wh (pAt ps i) s).1.data.toList) ∧
  (∀ a c, (∀ i, k ≤ i → i < ps.length → a + c ≤ atN wh i ∨ atN wh i + (Zs l ps i).toNat ≤ a) → slice f a c = slice b a c)
 | 0, k, b, hmk, hk, hbl, h => by
   have : ¬ k < ps.length := by omega
   rw [fillGo_end this] at h; simp only [Prod.mk.injEq] at h; obtain ⟨rfl, -⟩ := h; exact ⟨hbl, fun i h1 h2 => by omega, fun a c _ => rfl⟩
 | m + 1, k, b, hmk, hk, hbl, h => by
   have hlt : k < ps.length := by omega
   have hlt2 : k < wh.length := by rw [hl.len]; exact hlt
   obtain ⟨s, q1, q2, q3, -, q5, q6, -⟩ := may_each hm hlt; obtain ⟨o, ho, hso⟩ := mem_sym q1; rw [fillGo_step hlt hlt2 rfl rfl q1] at h
   by_cases hc : (filledR l wh ps[k] s).2 = 0
   ·rw [if_pos hc] at h; have hsz := (fillR_size (hb o ho s hso) hc).1; have hlo := hl.lo k hlt; have hat : atN wh k = wh[k].at_.toNat := by unfold atN; rw [aAt_get hlt2]
    rw [aAt_get hlt2, q3] at hlo; have hfl : (filledR l wh ps[k] s).1.data.toList.length = s.size.toNat := by rw [len_list]; unfold filledR; omega
    have hfit : wh[k].at_.toNat + (filledR l wh ps[k] s).1.data.toList.length ≤ b.length := by rw [hfl, hbl]; omega
    obtain ⟨a1, a2, a3⟩ := fillGo_inv hl hm hb m (k + 1) _ (by omega) (by omega) (by rw [putB_length hfit]; exact hbl) h
    refine ⟨a1, fun i h1 h2 => ?_, fun a c hd => ?_⟩
    ·by_cases hik : i = k
     ·subst hik; rw [q2]; refine ⟨s, q1, hc, ?_⟩
      have hdj := a3 (atN wh i) s.size.toNat (fun j hj1 hj2 => by
       have h3 := hl.dj i j hlt hj2 (by omega)
       have h4 := hl.lo j hj2; have h5 := hl.lo i hlt; have h6 : 1 ≤ Zs l ps j := by obtain ⟨_, -, -, e, -, e2, -⟩ := may_each hm hj2; omega
       unfold atN; rw [q3] at h3; omega)
      rw [hdj, hat, ← hfl]; exact slice_self hfit
     ·exact a2 i (by omega) h2
    ·rw [a3 a c fun i h1 h2 => hd i (by omega) h2]
     have h7 := hd k (Nat.le_refl _) hlt; rw [q3, hat] at h7; exact slice_other hfit (by rw [hfl]; omega)
   ·rw [if_neg hc] at h; simp only [Prod.mk.injEq] at h; exact absurd h.2.2 hc
theorem find_in {l : List GObj} {ps : List GP} {wh : List GAddr} {sp : List GSpan} (hl : Laid l ps wh sp) {q : GP} (hq : q ∈ ps) : (layFind wh q).2 = true := by
 obtain ⟨i, hi, rfl⟩ := List.getElem_of_mem hq; have hi2 : i < wh.length := by rw [hl.len]; exact hi
 have hp := hl.pl i hi; have hpa : pAt ps i = ps[i] := by unfold pAt; rw [List.getD_eq_getElem?_getD, List.getElem?_eq_getElem hi]; rfl
 rw [aAt_get hi2, hpa] at hp; unfold layFind; cases hf : wh.find? (fun a => decide (a.obj = ps[i].1) && decide (a.sym = ps[i].2)) with
 | some a => rfl
 | none =>
   rw [List.find?_eq_none] at hf; exact absurd (by simp [hp.1, hp.2]) (hf wh[i] (List.getElem_mem hi2))
end
section
def ObjNotes (l : List GObj) : Prop := ∀ o ∈ l, ∀ s ∈ o.syms, ∀ x ∈ s.notes, NoteNum x
theorem objNotes_of {w : World} {v : Value} {l : List GObj} (h : ObjsAt w v l) : ObjNotes l := by
 obtain ⟨p, cap, b, o, -, -, -, -, hc⟩ := h; intro ob hob s hs; obtain ⟨i, hi, rfl⟩ := List.getElem_of_mem hob; obtain ⟨vs, -, -, -, ⟨_, _, b2, o2, -, -, -, -, hc2⟩, -⟩ := hc i hi; obtain ⟨k, hk, rfl⟩ := List.getElem_of_mem hs; obtain ⟨vr, vn, -, -, -, -, -, -, -, -, hin⟩ := hc2 k hk; exact row_num hin.2.1
theorem notesOf_num {l : List GObj} (h : ObjNotes l) {ps : List GP} : ∀ x ∈ notesOf l ps, NoteNum x := by
 intro x hx; unfold notesOf at hx; obtain ⟨p, -, hx⟩ := List.mem_flatMap.1 hx; cases hs : symAt l p with
 | none => rw [hs] at hx; cases hx
 | some s =>
   rw [hs] at hx; obtain ⟨o, ho, hso⟩ := mem_sym hs; exact h o ho s hso x hx
theorem linkR_zero {l : List GObj} {nm : ByteArray} {m : PP} {ps : List GP} (hz : (linkR l nm m ps).2.2 = 0) :
 ∃ wh sp f fn, layOf l ps = (wh, sp, 0) ∧ closedB l ps (toG m) = true ∧ kindAt l (toG m) = 1 ∧ fillGo l wh ps wh zeros18 = (f, fn, 0) ∧ (demandR (notesOf l ps)).2 = 0 ∧
   linkR l nm m ps = (⟨(demandR (notesOf l ps)).1, (layFind wh (toG m)).1, sp.map (segOf f), wh⟩, emptyB, 0) := by
 obtain ⟨⟨wh, sp, lc⟩, hlay⟩ : ∃ r, layOf l ps = r := ⟨_, rfl⟩; unfold linkR at hz ⊢; rw [hlay] at hz ⊢; simp only [] at hz ⊢; split at hz
 ·simp at hz
 ·rename_i h1; rw [if_neg h1]; split at hz
  ·simp at hz
  ·rename_i h2; rw [if_neg h2]; split at hz
   ·rename_i h3; exact absurd hz h3
   ·rename_i h3; rw [if_neg h3]; have hlc : lc = 0 := by simpa using h3
    subst hlc
    have hcl : closedB l ps (toG m) = true := by
     cases hcb : closedB l ps (toG m) with
     | true => rfl
     | false => exact absurd (.inr hcb) h1
    obtain ⟨⟨f, fn, fc⟩, hfg⟩ : ∃ r, fillGo l wh ps wh zeros18 = r := ⟨_, rfl⟩; rw [hfg] at hz ⊢; unfold linkEnd at hz ⊢; simp only [] at hz ⊢; split at hz
    ·rename_i h4; exact absurd hz h4
    ·rename_i h4; rw [if_neg h4]; have hfc : fc = 0 := by simpa using h4
     subst hfc; split at hz
     ·rename_i h5; exact absurd hz h5
     ·rename_i h5; rw [if_neg h5]; exact ⟨wh, sp, f, fn, rfl, hcl, by simpa using h2, hfg, by simpa using h5, rfl⟩
theorem code_size {l : List GObj} {p : GP} {s : GSym} (hm : mayAll l = true) (hb : s.bytes.size < 4294967296) (h : symAt l p = some s) (hk : s.kind = 1) : s.size % 8 = 0 := by
 have h1 := may_symOk hm h; simp only [symOkP, sizedOk, sizedB, Bool.and_eq_true, Bool.or_eq_true, decide_eq_true_eq] at h1; have h2 := h1.1.1.1.2.2; have h3 : len32 s.bytes = s.bytes.size := by unfold len32; omega
 rw [h3] at h2; omega
theorem find_place {l : List GObj} {ps : List GP} {wh : List GAddr} {sp : List GSpan} (hl : Laid l ps wh sp) {q : GP} (hq : q ∈ ps) : ∃ i, ∃ hi : i < ps.length, ps[i] = q ∧ (layFind wh q).1 = (aAt wh i).at_ := by
 have h1 := find_in hl hq; unfold layFind at h1 ⊢; cases hf : wh.find? (fun a => decide (a.obj = q.1) && decide (a.sym = q.2)) with
 | none => rw [hf] at h1; simp at h1
 | some a =>
   obtain ⟨i, hi, hia⟩ := List.getElem_of_mem (List.mem_of_find?_eq_some hf); have h2 := List.find?_some hf; simp only [Bool.and_eq_true, decide_eq_true_eq] at h2; have hip : i < ps.length := by rw [← hl.len]; exact hi
   have hp := hl.pl i hip; have hpa : pAt ps i = ps[i] := by unfold pAt; rw [List.getD_eq_getElem?_getD, List.getElem?_eq_getElem hip]; rfl
   rw [aAt_get hi, hpa, hia] at hp; exact ⟨i, hip, Prod.ext (hp.1.symm.trans h2.1) (hp.2.symm.trans h2.2), by rw [aAt_get hi, hia]⟩
theorem segEnd_of {f : BL} (hf : f.length = 131072) {x : GSpan} (hx : 0 ≤ x.at_ ∧ 1 ≤ x.size ∧ x.at_ + x.size ≤ 131072) : segEnd (segOf f x) = x.at_ + x.size ∧ (segOf f x).bytes.size = x.size.toNat := by
 have h1 : (segOf f x).bytes.size = x.size.toNat := by
  show (bsOf ((f.drop x.at_.toNat).take x.size.toNat)).size = _; rw [bsOf_size, List.length_take, List.length_drop, hf]; omega
 refine ⟨?_, h1⟩; unfold segEnd; rw [h1]; show x.at_ + (x.size.toNat : Int) = _; omega
theorem linked_fit {l : List GObj} {nm : ByteArray} {m : PP} {ps : List GP} (hb : mayAll l = true → ∀ o ∈ l, ∀ s ∈ o.syms, s.bytes.size < 4294967296) (hn : ObjNotes l) (hz : (linkR l nm m ps).2.2 = 0) : ImgFit (linkR l nm m ps).1 := by
 obtain ⟨wh, sp, f, fn, hlay, hcl, hk1, hfg, hdm, he⟩ := linkR_zero hz; rw [he]; obtain ⟨hm, -⟩ := layOf_zero hlay; have hl := laid_of hlay; have hma : mayAll l = true := by simp only [layMay, Bool.and_eq_true] at hm; exact hm.1
 obtain ⟨hup, hsl, hkd⟩ := spans_of hlay; obtain ⟨hfl, -, -⟩ := fillGo_inv hl hm (hb hma) ps.length 0 zeros18 rfl (Nat.zero_le _) List.length_replicate hfg; simp only [closedB, Bool.and_eq_true] at hcl; obtain ⟨i, hi, hpi, hat⟩ := find_place hl (inG_iff.1 hcl.1); obtain ⟨s, q1, q2, q3, q4, q5, q6, q7, q8⟩ := may_each hm hi
 have hks : s.kind = 1 := by
  rw [hpi] at q1; unfold kindAt at hk1; rw [q1] at hk1; exact hk1
 obtain ⟨o, ho, hso⟩ := mem_sym q1; have h8 := code_size hma (hb hma o ho s hso) q1 hks; have hlo := hl.lo i hi; obtain ⟨x, hx1, -, hx0, hx2, hx3, hx4⟩ := hl.sp i hi; rw [q4, hks] at hx1; rw [q3] at hx3 hlo; have hxm := List.mem_of_find?_eq_some hx1; have hxk : x.kind = 1 := by simpa using List.find?_some hx1
 have he8 : ∀ y ∈ sp, segEnd (segOf f y) = y.at_ + y.size ∧ (segOf f y).bytes.size = y.size.toNat := fun y hy => by
  have := hup.each y hy; exact segEnd_of hfl (by omega)
 refine ⟨demandR_fit (fun y hy => (notesOf_num hn y hy).2.1.1) hdm, ?_, by simpa using (show sp.length ≤ 8 by omega), ?_, fun k hk => ?_, ?_⟩
 ·have : 0 < sp.length := List.length_pos_of_mem hxm; show 1 ≤ (sp.map (segOf f)).length; rw [List.length_map]; exact this
 ·show (layFind wh (toG m)).1 % 8 = 0; rw [hat]; exact hlo.2.1
 ·have hk' : k < sp.length := by simpa using hk
  have e : (sp.map (segOf f))[k] = segOf f sp[k] := by simp
  have hy := hup.each _ (List.getElem_mem hk'); have hs := he8 _ (List.getElem_mem hk'); show ((sp.map (segOf f))[k].perm = 1 ∨ _) ∧ _; rw [e]; refine ⟨?_, hy.1, ?_, by rw [hs.2]; omega, by rw [hs.1]; omega⟩
  ·show permK sp[k].kind = 1 ∨ permK sp[k].kind = 3 ∨ permK sp[k].kind = 5; rcases hkd _ (List.getElem_mem hk') with h | h | h <;> rw [h] <;> simp [permK]
  ·show freeAt (sp.map (segOf f)) k ≤ sp[k].at_; cases k with
   | zero => exact hy.2.1
   | succ k =>
     have hk2 : k < (sp.map (segOf f)).length := by simp; omega
     rw [freeAt_succ hk2]; have hk3 : k < sp.length := by omega
     have e2 : (sp.map (segOf f))[k] = segOf f sp[k] := by simp
     rw [e2, (he8 _ (List.getElem_mem hk3)).1]; have h2 := List.pairwise_iff_getElem.1 hup.up k (k + 1) hk3 hk' (by omega)
     omega
 ·show (sp.map (segOf f)).any (begB (layFind wh (toG m)).1) = true; rw [List.any_eq_true]; refine ⟨segOf f x, List.mem_map.2 ⟨x, hxm, rfl⟩, ?_⟩; unfold begB; rw [(he8 x hxm).1, hat]; show (decide (permK x.kind = 5) && decide (x.at_ ≤ (aAt wh i).at_) && decide ((aAt wh i).at_ + 8 ≤ x.at_ + x.size)) = true; rw [hxk]; simp only [Bool.and_eq_true, decide_eq_true_eq]; refine ⟨⟨by simp [permK], hx2⟩, by omega⟩
end
section
theorem symAt_valid {l : List GObj} {x : PP} (h : validP l x) : ∃ s, symAt l (toG x) = some s := by
 obtain ⟨o, s, h1, h2⟩ := h; obtain ⟨ha, rfl⟩ := List.getElem?_eq_some_iff.1 h1; exact ⟨s, by unfold toG; rw [symAt_nat ha]; exact h2⟩
theorem ordP_plt {a b : PP} (h : plt a b) : ordP (toG a) (toG b) = true := by
 unfold plt at h; unfold ordP toG; simp only [Bool.not_eq_true', Bool.or_eq_false_iff, Bool.and_eq_false_iff, decide_eq_false_iff_not]; omega
theorem mayGo_up {l : List GObj} : ∀ (K : List PP) (pr : Option GP), (∀ x ∈ K, validP l x) → K.Pairwise plt → (∀ x ∈ K, ordO pr (toG x) = true) → mayGo l pr (K.map toG) = true
 | [], _, _, _, _ => rfl
 | x :: r, pr, hv, hp, ho => by
   obtain ⟨s, hs⟩ := symAt_valid (hv x List.mem_cons_self); rw [List.map_cons, mayGo, hs, ho x List.mem_cons_self]; have hp' := List.pairwise_cons.1 hp; exact mayGo_up r (some (toG x)) (fun y hy => hv y (List.mem_cons_of_mem _ hy)) hp'.2 (fun y hy => ordP_plt (hp'.1 y hy))
theorem kept_layMay {l : List GObj} {nm : ByteArray} {p : PP} {K : List PP} (h : KeptYes l nm p K) : layMay l (K.map toG) = true := by
 unfold layMay; rw [(beginR_zero h.1).1, mayGo_up K none (kept_valid h) h.2.2.1.1 (fun _ _ => rfl)]
 rfl
theorem toG_inj {a b : PP} (h : toG a = toG b) : a = b := by
 unfold toG at h; simp only [Prod.mk.injEq] at h; exact Prod.ext (by omega) (by omega)
theorem inG_map {K : List PP} {q : PP} : inG (K.map toG) (toG q) = true ↔ q ∈ K := by
 rw [inG_iff, List.mem_map]; constructor
 ·rintro ⟨a, ha, e⟩; rw [← toG_inj e]; exact ha
 ·intro h; exact ⟨q, h, rfl⟩
theorem kept_closedB {l : List GObj} {nm : ByteArray} {p : PP} {K : List PP} (h : KeptYes l nm p K) : closedB l (K.map toG) (toG p) = true := by
 unfold closedB; rw [inG_map.2 ((h.2.2.1.2 p).2 .refl), Bool.true_and, List.all_eq_true]; intro g hg; obtain ⟨x, hx, rfl⟩ := List.mem_map.1 hg; have hc := h.2.2.2 x hx; unfold closedP outB; have hc2 : (refsV (beginR l) l (toG x).1 (toG x).2).2.2 = 0 := hc; rw [decide_eq_true hc2, Bool.true_and]; simp only [Bool.not_eq_true', List.any_eq_false]; intro q hq; have hk := (refs_know h.1 (kept_valid h x hx) hc q).1 hq; rw [inG_map.2 ((h.2.2.1.2 q).2 (.step ((h.2.2.1.2 x).1 hx) hk))]; simp
end
end Go.Proofs.YtboegjdkedjhcaaGreatDoor
