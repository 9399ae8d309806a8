/- What is linked of objects that stand in a longer row in the same order: the same image, in plain words. No program in sight. What is linked of all members is what is linked of those that are pulled (layer 35), in plain words. No program in. -/
import Derived.Test.YtboegjdkedjhcaaGreatDoorBs42
import Derived.Test.YtboegjdkedjhcaaGreatDoorBs39
import Derived.Test.YtboegjdkedjhcaaGreatDoorBs38
import Derived.Test.YtboegjdkedjhcaaGreatDoorBs30
import Derived.Test.YtboegjdkedjhcaaGreatDoorBs27
import Derived.Test.YtboegjdkedjhcaaGreatDoorBs36
import Derived.Test.YtboegjdkedjhcaaGreatDoorBs43
namespace Go.Proofs.YtboegjdkedjhcaaGreatDoor
section
open Go.RowKit
theorem Emb.symAt {A B : List GObj} {f : Nat → Nat} (h : Emb A B f) {p : PP} (hp : p.1 < A.length) : symAt B (toG (fP f p)) = symAt A (toG p) := by
 have e : B[f p.1]'(h.lt hp) = A[p.1] := Option.some.inj ((List.getElem?_eq_getElem _).symm.trans (h.obj _ hp)); show Go.Proofs.YtboegjdkedjhcaaGreatDoor.symAt B (((f p.1 : Nat) : Int), ((p.2 : Nat) : Int)) = Go.Proofs.YtboegjdkedjhcaaGreatDoor.symAt A (((p.1 : Nat) : Int), ((p.2 : Nat) : Int)); rw [symAt_nat (h.lt hp), symAt_nat hp, e]
def atsOf (l : List GAddr) : List Int := l.map (·.at_)
theorem atsOf_set (l : List GAddr) (k : Nat) (a b c : Int) : atsOf (l.set k ⟨a, b, c⟩) = (atsOf l).set k c := by unfold atsOf; rw [List.map_set]
def SameAts : Option (List GAddr × Int) → Option (List GAddr × Int) → Prop
 | none, none => True
 | some a, some b => b.2 = a.2 ∧ atsOf b.1 = atsOf a.1
 | _, _ => False
theorem Emb.laySyms {A B : List GObj} {f : Nat → Nat} (h : Emb A B f) (kind : Int) : ∀ (K : List PP) (k : Nat) (out outB : List GAddr) (e : Int), (∀ x ∈ K, x.1 < A.length) → atsOf outB = atsOf out →
 SameAts (laySyms A kind (K.map toG) k out e) (laySyms B kind ((K.map (fP f)).map toG) k outB e)
 | [], k, out, outB, e, _, ho => ⟨rfl, ho⟩
 | x :: r, k, out, outB, e, hv, ho => by
   have hv' : ∀ y ∈ r, y.1 < A.length := fun y hy => hv y (List.mem_cons_of_mem _ hy)
   rw [List.map_cons, List.map_cons, List.map_cons]; unfold Go.Proofs.YtboegjdkedjhcaaGreatDoor.laySyms; rw [h.symAt (hv x (List.mem_cons_self ..))]; cases hs : Go.Proofs.YtboegjdkedjhcaaGreatDoor.symAt A (toG x) with
   | none => exact h.laySyms kind r (k + 1) out outB e hv' ho
   | some s =>
     simp only []
     by_cases hk : s.kind = kind
     ·rw [if_pos hk, if_pos hk]
      by_cases hb : 131072 < upTo e 8 + s.size
      ·rw [if_pos hb, if_pos hb]; trivial
      ·rw [if_neg hb, if_neg hb]; exact h.laySyms kind r (k + 1) _ _ _ hv' (by rw [atsOf_set, atsOf_set, ho])
     ·rw [if_neg hk, if_neg hk]; exact h.laySyms kind r (k + 1) out outB e hv' ho
def SameLay : Option (List GAddr × List GSpan) → Option (List GAddr × List GSpan) → Prop
 | none, none => True
 | some a, some b => b.2 = a.2 ∧ atsOf b.1 = atsOf a.1
 | _, _ => False
theorem Emb.layKinds {A B : List GObj} {f : Nat → Nat} (h : Emb A B f) (K : List PP) (hv : ∀ x ∈ K, x.1 < A.length) : ∀ (ks : List Int) (out outB : List GAddr) (spans : List GSpan) (e : Int), atsOf outB = atsOf out →
 SameLay (layKinds A (K.map toG) ks out spans e) (layKinds B ((K.map (fP f)).map toG) ks outB spans e)
 | [], out, outB, spans, e, ho => ⟨rfl, ho⟩
 | kind :: ks, out, outB, spans, e, ho => by
   unfold Go.Proofs.YtboegjdkedjhcaaGreatDoor.layKinds; have h1 := h.laySyms kind K 0 out outB (upTo e 256) hv ho; cases ha : Go.Proofs.YtboegjdkedjhcaaGreatDoor.laySyms A kind (K.map toG) 0 out (upTo e 256) with
   | none =>
     rw [ha] at h1; cases hb : Go.Proofs.YtboegjdkedjhcaaGreatDoor.laySyms B kind ((K.map (fP f)).map toG) 0 outB (upTo e 256) with
     | none => trivial
     | some b => rw [hb] at h1; exact h1.elim
   | some a =>
     obtain ⟨o1, e1⟩ := a; rw [ha] at h1; cases hb : Go.Proofs.YtboegjdkedjhcaaGreatDoor.laySyms B kind ((K.map (fP f)).map toG) 0 outB (upTo e 256) with
     | none => rw [hb] at h1; exact h1.elim
     | some b =>
       obtain ⟨o2, e2⟩ := b; rw [hb] at h1; obtain ⟨h2, h3⟩ := h1; simp only [] at h2 h3 ⊢; subst h2; exact h.layKinds K hv ks o1 o2 _ _ h3
theorem Emb.layOf {A B : List GObj} {f : Nat → Nat} (h : Emb A B f) {K : List PP} (hv : ∀ x ∈ K, x.1 < A.length) (hA : layMay A (K.map toG) = true) (hB : layMay B ((K.map (fP f)).map toG) = true) :
 (layOf B ((K.map (fP f)).map toG)).2 = (layOf A (K.map toG)).2 ∧ atsOf (layOf B ((K.map (fP f)).map toG)).1 = atsOf (layOf A (K.map toG)).1 := by
 unfold Go.Proofs.YtboegjdkedjhcaaGreatDoor.layOf; rw [if_pos hA, if_pos hB]; have h1 := h.layKinds K hv [1, 3, 2] (List.replicate (K.map toG).length addr0) (List.replicate ((K.map (fP f)).map toG).length addr0) [] 256 (by simp)
 cases ha : Go.Proofs.YtboegjdkedjhcaaGreatDoor.layKinds A (K.map toG) [1, 3, 2] (List.replicate (K.map toG).length addr0) [] 256 with
 | none =>
   rw [ha] at h1; cases hb : Go.Proofs.YtboegjdkedjhcaaGreatDoor.layKinds B ((K.map (fP f)).map toG) [1, 3, 2] (List.replicate ((K.map (fP f)).map toG).length addr0) [] 256 with
   | none => exact ⟨rfl, rfl⟩
   | some b => rw [hb] at h1; exact h1.elim
 | some a =>
   obtain ⟨o1, s1⟩ := a; rw [ha] at h1; cases hb : Go.Proofs.YtboegjdkedjhcaaGreatDoor.layKinds B ((K.map (fP f)).map toG) [1, 3, 2] (List.replicate ((K.map (fP f)).map toG).length addr0) [] 256 with
   | none => rw [hb] at h1; exact h1.elim
   | some b =>
     obtain ⟨o2, s2⟩ := b; rw [hb] at h1; obtain ⟨h2, h3⟩ := h1; simp only [] at h2 h3 ⊢; subst h2; exact ⟨rfl, h3⟩
theorem find_eq {α : Type} {p q : α → Bool} : ∀ {l : List α}, (∀ a ∈ l, p a = q a) → l.find? p = l.find? q
 | [], _ => rfl
 | x :: r, h => by
   rw [List.find?_cons, List.find?_cons, h x (List.mem_cons_self ..), find_eq fun a ha => h a (List.mem_cons_of_mem _ ha)]
def fA (f : Nat → Nat) (a : GAddr) : GAddr := ⟨((f a.obj.toNat : Nat) : Int), a.sym, a.at_⟩
theorem Emb.layFind {A B : List GObj} {f : Nat → Nat} (h : Emb A B f) {wh : List GAddr} (hw : ∀ a ∈ wh, ∃ n : Nat, n < A.length ∧ a.obj = (n : Int)) {q : PP} (hq : q.1 < A.length) : layFind (wh.map (fA f)) (toG (fP f q)) = layFind wh (toG q) := by
 unfold Go.Proofs.YtboegjdkedjhcaaGreatDoor.layFind; rw [List.find?_map, find_eq (p := (fun a : GAddr => decide (a.obj = (toG (fP f q)).1) && decide (a.sym = (toG (fP f q)).2)) ∘ fA f) (q := fun a => decide (a.obj = (toG q).1) && decide (a.sym = (toG q).2)) fun a ha => ?_]
 ·cases wh.find? (fun a => decide (a.obj = (toG q).1) && decide (a.sym = (toG q).2)) with
  | none => rfl
  | some a => rfl
 ·obtain ⟨n, hn, e⟩ := hw a ha
  have e2 : (((f n : Nat) : Int) = ((f q.1 : Nat) : Int)) ↔ ((n : Int) = (q.1 : Int)) := by
   constructor
   ·intro h1; have := h.inj hn hq (by omega)
    omega
   ·intro h1; have : n = q.1 := by omega
    rw [this]
  simp only [Function.comp, fA, toG, fP, e, Int.toNat_natCast]
  by_cases h1 : (n : Int) = (q.1 : Int)
  ·rw [decide_eq_true (e2.2 h1), decide_eq_true h1]; rfl
  ·rw [decide_eq_false (fun h2 => h1 (e2.1 h2)), decide_eq_false h1]; rfl
theorem refs_valid {l : List GObj} (hb : (beginR l).2 = 0) {x : PP} (hv : validP l x) (hc : refsC l x = 0) : ∀ q ∈ (refsV (beginR l) l (x.1 : Int) (x.2 : Int)).1, validP l q := fun q hq => by
 obtain ⟨y, -, hf⟩ := (refs_know hb hv hc q).1 hq; exact findR_valid hf
theorem fillGo_emb {nm : List UInt8} {A B : List GObj} {f : Nat → Nat} (h : EmbAll nm A B f) (hb : (beginR B).2 = 0) {wh : List GAddr} (hw : ∀ a ∈ wh, ∃ n : Nat, n < A.length ∧ a.obj = (n : Int)) :
 ∀ (K : List PP) (q qB : List GAddr) (b : BL), (∀ x ∈ K, validP A x ∧ refsC A x = 0) → atsOf qB = atsOf q → fillGo B (wh.map (fA f)) ((K.map (fP f)).map toG) qB b = fillGo A wh (K.map toG) q b
 | [], q, qB, b, _, _ => by cases q <;> cases qB <;> rfl
 | x :: r, [], [], b, _, _ => rfl
 | x :: r, [], _ :: _, b, _, ho => by simp [atsOf] at ho
 | x :: r, _ :: _, [], b, _, ho => by simp [atsOf] at ho
 | x :: r, a :: q, a' :: qB, b, hv, ho => by
   obtain ⟨hvx, hcx⟩ := hv x (List.mem_cons_self ..); have hlt := valid_lt hvx; have ho1 : a'.at_ = a.at_ := by simp only [atsOf, List.map_cons, List.cons.injEq] at ho; exact ho.1
   have ho2 : atsOf qB = atsOf q := by simp only [atsOf, List.map_cons, List.cons.injEq] at ho; exact ho.2
   rw [List.map_cons, List.map_cons, List.map_cons]; unfold fillGo; rw [h.emb.symAt hlt]; cases hs : symAt A (toG x) with
   | none => rfl
   | some s =>
     simp only []
     have hfl : filledR B (wh.map (fA f)) (toG (fP f x)) s = filledR A wh (toG x) s := by
      unfold filledR; have h1 := h.refs hb hvx; have h2 : (refsV (beginR B) B (toG (fP f x)).1 (toG (fP f x)).2).1 = (refsV (beginR A) A (toG x).1 (toG x).2).1.map (fP f) := congrArg Prod.fst h1; rw [h2]
      congr 1
      unfold addrsOf; rw [List.map_map]; refine List.map_congr_left fun y hy => ?_
      have hy2 := refs_valid (h.emb.begin hb) hvx hcx y hy; exact congrArg Prod.fst (h.emb.layFind hw (valid_lt hy2))
     rw [hfl, ho1]; split
     ·exact fillGo_emb h hb hw r q qB _ (fun y hy => hv y (List.mem_cons_of_mem _ hy)) ho2
     ·rfl
theorem notes_emb {A B : List GObj} {f : Nat → Nat} (h : Emb A B f) {K : List PP} (hv : ∀ x ∈ K, x.1 < A.length) : notesOf B ((K.map (fP f)).map toG) = notesOf A (K.map toG) := by
 unfold notesOf; rw [List.flatMap_map, List.flatMap_map, List.flatMap_map]
 induction K with
 | nil => rfl
 | cons x r ih =>
   rw [List.flatMap_cons, List.flatMap_cons, h.symAt (hv x (List.mem_cons_self ..)), ih fun y hy => hv y (List.mem_cons_of_mem _ hy)]
theorem laid_emb {A B : List GObj} {f : Nat → Nat} {K : List PP} {wh whB : List GAddr} {sp spB : List GSpan} (h1 : layOf A (K.map toG) = (wh, sp, 0)) (h2 : layOf B ((K.map (fP f)).map toG) = (whB, spB, 0)) (ho : atsOf whB = atsOf wh) :
 whB = wh.map (fA f) ∧ ∀ a ∈ wh, ∃ x ∈ K, a.obj = (x.1 : Int) := by
 have l1 := laid_of h1; have l2 := laid_of h2; have e1 : wh.length = K.length := by rw [l1.len, List.length_map]
 have e2 : whB.length = K.length := by rw [l2.len, List.length_map, List.length_map]
 have p1 : ∀ i (hi : i < K.length), (wh[i]'(by omega)).obj = (K[i].1 : Int) ∧ (wh[i]'(by omega)).sym = (K[i].2 : Int) := fun i hi => by
  have := l1.pl i (by rw [List.length_map]; exact hi)
  rw [aAt_get (by omega)] at this
  unfold pAt at this; rw [List.getD_eq_getElem?_getD, List.getElem?_eq_getElem (by rw [List.length_map]; exact hi)] at this
  simpa [toG] using this
 have p2 : ∀ i (hi : i < K.length), (whB[i]'(by omega)).obj = ((f K[i].1 : Nat) : Int) ∧ (whB[i]'(by omega)).sym = (K[i].2 : Int) := fun i hi => by
  have := l2.pl i (by rw [List.length_map, List.length_map]; exact hi)
  rw [aAt_get (by omega)] at this
  unfold pAt at this; rw [List.getD_eq_getElem?_getD, List.getElem?_eq_getElem (by rw [List.length_map, List.length_map]; exact hi)] at this
  simpa [toG, fP] using this
 have p3 : ∀ i (hi : i < K.length), (whB[i]'(by omega)).at_ = (wh[i]'(by omega)).at_ := fun i hi => by
  have h3 : (atsOf whB)[i]? = (atsOf wh)[i]? := by rw [ho]
  unfold atsOf at h3; rw [List.getElem?_map, List.getElem?_map, List.getElem?_eq_getElem (by omega), List.getElem?_eq_getElem (by omega)] at h3
  exact Option.some.inj h3
 refine ⟨List.ext_getElem (by rw [List.length_map]; omega) fun i hi hi2 => ?_, fun a ha => ?_⟩
 ·have hk : i < K.length := by omega
  rw [List.getElem_map]; obtain ⟨a1, a2⟩ := p1 i hk; obtain ⟨b1, b2⟩ := p2 i hk; have c1 := p3 i hk; generalize whB[i] = y at b1 b2 c1 ⊢; generalize wh[i]'(by omega) = x at a1 a2 c1 ⊢
  obtain ⟨x1, x2, x3⟩ := x; obtain ⟨y1, y2, y3⟩ := y; simp only [] at a1 a2 b1 b2 c1; subst a1 a2 b1 b2 c1; simp [fA]
 ·obtain ⟨i, hi, rfl⟩ := List.getElem_of_mem ha; exact ⟨K[i]'(by omega), List.getElem_mem _, (p1 i (by omega)).1⟩
def SameImg (x y : GLink × ByteArray × Int) : Prop := x.2 = y.2 ∧ x.1.man = y.1.man ∧ x.1.entry = y.1.entry ∧ x.1.segs = y.1.segs ∧ x.1.addrs.length = y.1.addrs.length
theorem EmbAll.link {nm : ByteArray} {A B : List GObj} {f : Nat → Nat} (h : EmbAll nm.data.toList A B f) {p : PP} {K : List PP} (hA : KeptYes A nm p K) (hB : KeptYes B nm (fP f p) (K.map (fP f))) :
 SameImg (linkR B nm (fP f p) ((K.map (fP f)).map toG)) (linkR A nm p (K.map toG)) := by
 have hvA := kept_valid hA; have hv : ∀ x ∈ K, x.1 < A.length := fun x hx => valid_lt (hvA x hx)
 have hp : p.1 < A.length := valid_lt (findR_valid hA.2.1); have hlay := h.emb.layOf hv (kept_layMay hA) (kept_layMay hB); have hk : kindAt B (toG (fP f p)) = kindAt A (toG p) := by unfold kindAt; rw [h.emb.symAt hp]
 unfold linkR; rw [kept_closedB hA, kept_closedB hB, hk]; obtain ⟨⟨wh, sp, c⟩, e1⟩ : ∃ r, layOf A (K.map toG) = r := ⟨_, rfl⟩; obtain ⟨⟨whB, spB, cB⟩, e2⟩ : ∃ r, layOf B ((K.map (fP f)).map toG) = r := ⟨_, rfl⟩; rw [e1, e2] at hlay; rw [e1, e2]; obtain ⟨h1, h2⟩ := hlay; simp only [Prod.mk.injEq] at h1; obtain ⟨rfl, rfl⟩ := h1; simp only [] at h2 ⊢; split
 ·exact ⟨rfl, rfl, rfl, rfl, rfl⟩
 ·split
  ·exact ⟨rfl, rfl, rfl, rfl, rfl⟩
  ·split
   ·exact ⟨rfl, rfl, rfl, rfl, rfl⟩
   ·rename_i hc; have hc0 : cB = 0 := by simpa using hc
    subst hc0; obtain ⟨rfl, hw⟩ := laid_emb e1 e2 h2
    have hw2 : ∀ a ∈ wh, ∃ n : Nat, n < A.length ∧ a.obj = (n : Int) := fun a ha => by
     obtain ⟨x, hx, e⟩ := hw a ha; exact ⟨x.1, hv x hx, e⟩
    have hfg := fillGo_emb h hB.1 hw2 K wh (wh.map (fA f)) zeros18 (fun x hx => ⟨hvA x hx, hA.2.2.2 x hx⟩) h2
    have hno := notes_emb h.emb hv; unfold linkEnd; rw [hfg, hno, h.emb.layFind hw2 hp]; split
    ·exact ⟨rfl, rfl, rfl, rfl, rfl⟩
    ·split
     ·exact ⟨rfl, rfl, rfl, rfl, rfl⟩
     ·exact ⟨rfl, rfl, rfl, rfl, by simp⟩
end
section
def fSel (I : Nat → Bool) (n : Nat) (ms : List GObj) (i : Nat) : Nat := if i < n then i else n + (((selP I 0 ms)[i - n]?).map (·.1)).getD 0
theorem fSel_at {I : Nat → Bool} {n i : Nat} {ms : List GObj} (h : n ≤ i) (h2 : i - n < (selP I 0 ms).length) : fSel I n ms i = n + ((selP I 0 ms)[i - n]).1 := by
 unfold fSel; rw [if_neg (by omega), List.getElem?_eq_getElem h2]; rfl
theorem emb_sel (lb ms : List GObj) (I : Nat → Bool) : Emb (lb ++ selGo I 0 ms) (lb ++ ms) (fSel I lb.length ms) where
 obj i hi := by
  by_cases hl : i < lb.length
  ·rw [show fSel I lb.length ms i = i from if_pos hl, List.getElem?_append_left hl, List.getElem_append_left hl, List.getElem?_eq_getElem hl]
  ·have hj : i - lb.length < (selGo I 0 ms).length := by rw [List.length_append] at hi; omega
   have hj2 : i - lb.length < (selP I 0 ms).length := by rw [selP_len]; exact hj
   rw [fSel_at (by omega) hj2, List.getElem?_append_right (by omega), List.getElem_append_right (by omega), selP_at hj]
   obtain ⟨k, hk, -, hx⟩ := mem_selP.1 (List.getElem_mem hj2); rw [hx]; simp only [Nat.zero_add, Nat.add_sub_cancel_left]; exact List.getElem?_eq_getElem hk
 up i j hij hj := by
  rw [List.length_append] at hj; have hlen := selP_len I ms 0
  by_cases hl : j < lb.length
  ·rw [show fSel I lb.length ms i = i from if_pos (by omega), show fSel I lb.length ms j = j from if_pos hl]; exact hij
  ·have hj2 : j - lb.length < (selP I 0 ms).length := by omega
   rw [fSel_at (by omega) hj2]
   by_cases hi : i < lb.length
   ·rw [show fSel I lb.length ms i = i from if_pos hi]; omega
   ·have hi2 : i - lb.length < (selP I 0 ms).length := by omega
    rw [fSel_at (by omega) hi2]
    have := List.pairwise_iff_getElem.1 (selP_up I ms 0) (i - lb.length) (j - lb.length) hi2 hj2 (by omega)
    omega
theorem stops_sel {nm : List UInt8} {lb ms : List GObj} {I : Nat → Bool} (h : PullOk nm lb ms I) : Stops nm (lb ++ selGo I 0 ms) (lb ++ ms) := fun n hn => by
 obtain ⟨h1, -⟩ := wants_of hn; cases hd : defB (lb ++ ms) n with
 | false => rfl
 | true =>
   exfalso; obtain ⟨o, ho, h2⟩ := defB_true.1 hd; rcases List.mem_append.1 ho with h3 | h3
   ·have : defB (lb ++ selGo I 0 ms) n = true := defB_true.2 ⟨o, List.mem_append_left _ h3, h2⟩; rw [h1] at this; cases this
   ·rw [h.stop n hn o h3] at h2; cases h2
theorem same35 {nm : ByteArray} {lb ms : List GObj} {I : Nat → Bool} (h : PullOk nm.data.toList lb ms I) (h01 : Bind01 (lb ++ ms)) {r rB : GLink × ByteArray × Int} (hB : Sp18 (lb ++ ms) nm rB) (h0 : rB.2.2 = 0) (hA : Sp18 (lb ++ selGo I 0 ms) nm r) : SameImg rB r := by
 obtain ⟨p, K, hy, rfl⟩ := spZ hB h0; have he : EmbAll nm.data.toList (lb ++ selGo I 0 ms) (lb ++ ms) (fSel I lb.length ms) := ⟨emb_sel lb ms I, (beginR_zero hy.1).2, h01, stops_sel h⟩; obtain ⟨p', K', hyA, rfl, rfl, rfl⟩ := he.yes hy hA; exact he.link hyA hy
end
section
open Go.RowKit
theorem mayP_len {o : GObj} (h : mayP o = true) : o.syms.length ≤ 64 := by
 simp only [mayP, Bool.and_eq_true, decide_eq_true_eq] at h; exact h.2
theorem short_bytes {o : GObj} (h : ShortO 400 o) (hl : o.syms.length ≤ 64) : ∀ s ∈ o.syms, s.bytes.size < 4294967296 := fun s hs => by
 obtain ⟨j, hj, rfl⟩ := List.getElem_of_mem hs; have := h j hj (by omega)
 omega
theorem short_small {o : GObj} (h : ShortO 400 o) (hm : mayP o = true) : ∀ s ∈ o.syms, s.bytes.size < 4294967296 := short_bytes h (mayP_len hm)
theorem arc_mem_may {a : GArc} (h : arcOk a = true) : (∀ o ∈ a.members, mayP o = true) ∧ a.members.length ≤ 32 ∧ a.name.size ≤ 32 := by
 simp only [arcOk, Bool.and_eq_true, decide_eq_true_eq] at h; exact ⟨memsGo_each _ _ h.1.1, h.2, isName_le h.1.2⟩
end
section
open Go.RowKit Go.Maps
theorem memsA_may {x : GArc} {o : GObj} (h : o ∈ memsA x) : mayP o = true := by
 unfold memsA at h; split at h
 ·rename_i hk; exact (arc_mem_may hk).1 o h
 ·cases h
theorem memsA_len (x : GArc) : (memsA x).length ≤ 32 := by
 unfold memsA; split
 ·rename_i hk; exact (arc_mem_may hk).2.1
 ·simp
theorem memsOf_may {l : List GArc} {o : GObj} (h : o ∈ memsOf l) : mayP o = true := by
 obtain ⟨x, -, hx⟩ := List.mem_flatMap.1 h; exact memsA_may hx
theorem memsOf_len (l : List GArc) : (memsOf l).length ≤ l.length * 32 := flat35_le memsA 32 l fun x _ => memsA_len x
theorem small_ok {lb : List GObj} {l : List GArc} (h : pullOkB lb l = true) : SmallA lb l := by
 obtain ⟨h1, h2, h3, h4⟩ := pullOkB_iff.1 h; have h5 := memsOf_len l; exact ⟨by omega, fun o ho => small_may (List.all_eq_true.1 h3 o ho), fun o ho => small_may (memsOf_may ho)⟩
end
end Go.Proofs.YtboegjdkedjhcaaGreatDoor
