/- Copied objects: each has blocks of its own. What the reading of an object keeps, whatever the reader. Where nothing is large, the program and the reference accept the same objects. No program in sight. What may be fits its. -/
import Derived.Test.YtboegjdkedjhcaaGreatDoorBs17
import Derived.Test.YtboegjdkedjhcaaGreatDoorBs24
import Derived.Deep.Onto
import Derived.Test.YtboegjdkedjhcaaGreatDoorBs01
import Derived.IntWalk
import Derived.Test.YtboegjdkedjhcaaGreatDoorBs04
namespace Go.Proofs.YtboegjdkedjhcaaGreatDoor
section
open Go.RowKit Go.Maps Go.WideMaps
end
section
open Go.RowKit Go.Maps
structure Rdr (rb : Nat) (RD : World → RS → Prop) : Prop where
 congr : ∀ {w w' : World} {st : RS}, RD w st → w'.heap[rb]? = w.heap[rb]? → RD w' st
 lt : ∀ {w : World} {st : RS}, RD w st → rb < w.heap.size
theorem rdr_obj (rb : Nat) (s : ByteArray) : Rdr rb (fun w st => RdS w rb s st) := ⟨fun h k => h.congr k, fun h => h.lt⟩
def ObjRow (B : Nat) (ob : Nat) (nm : ByteArray) (v : Value) (ts : List SymT) (w : World) : Prop :=
 w.heap[ob]? = some (.cells #[.string nm, v] 50 (0, 0)) ∧ w.ownsRow B 55 7 v ts.length (ts.flatMap symCells) ∧ ∀ t ∈ ts, SymOwn B w v t
theorem ObjRow.congr {B ob : Nat} {nm : ByteArray} {v : Value} {ts : List SymT} {w w' : World} (h : ObjRow B ob nm v ts w) (hob : B ≤ ob) (hk : ∀ g, g < w.heap.size → B ≤ g → w'.heap[g]? = w.heap[g]?) : ObjRow B ob nm v ts w' := by
 obtain ⟨h1, h2, h3⟩ := h; refine ⟨(hk ob (Array.getElem?_eq_some_iff.1 h1).1 hob).trans h1, own_congr h2 fun g hg => hk g (h2.lt g hg).2 (h2.lt g hg).1, fun t ht => ?_⟩
 obtain ⟨a, b, c, d⟩ := h3 t ht; exact ⟨own_congr a fun g hg => hk g (a.lt g hg).2 (a.lt g hg).1, own_congr b fun g hg => hk g (b.lt g hg).2 (b.lt g hg).1, c, d⟩
structure ObjSt (RD : World → RS → Prop) (Q : Nat → Prop) (ob rb : Nat) (st : RS) (nm : ByteArray) (ys : List GSym) (w0 w : World) : Prop where
 r : Rdr rb RD
 q : ∀ g, Q g → w.heap[g]? = some (.cells #[.pointer (some ⟨rb, 0, none⟩)] 166 (0, 0)) ∧ w0.heap.size ≤ g
 o : ∃ v ts, ObjRow w0.heap.size ob nm v ts w ∧ ts.map (·.1) = ys
 rd : RD w st
 kb : KR rb w0 w
 rlt : rb < w0.heap.size
 ole : w0.heap.size ≤ ob
theorem ObjSt.read {RD : World → RS → Prop} {Q : Nat → Prop} {ob rb : Nat} {st st' : RS} {nm : ByteArray} {ys : List GSym} {w0 w w' : World} (h : ObjSt RD Q ob rb st nm ys w0 w) (hr : RD w' st') (k : KR rb w w') : ObjSt RD Q ob rb st' nm ys w0 w' := by
 have h1 := h.rlt; have h2 := h.ole; obtain ⟨v, ts, h3, h4⟩ := h.o; refine ⟨h.r, fun g hg => ?_, ⟨v, ts, h3.congr h2 fun g hg hb => k.block g hg (by omega), h4⟩, hr, h.kb.trans k, h1, h2⟩
 obtain ⟨q1, q2⟩ := h.q g hg; exact ⟨(k.block g (Array.getElem?_eq_some_iff.1 q1).1 (by omega)).trans q1, q2⟩
theorem ObjSt.keep {RD : World → RS → Prop} {Q : Nat → Prop} {ob rb : Nat} {st : RS} {nm : ByteArray} {ys : List GSym} {w0 w w' : World} (h : ObjSt RD Q ob rb st nm ys w0 w) (k : Below w.heap.size w w') : ObjSt RD Q ob rb st nm ys w0 w' :=
 h.read (h.r.congr h.rd (k.block rb (h.r.lt h.rd))) (KB.of_below k)
theorem ObjSt.c {RD : World → RS → Prop} {Q : Nat → Prop} {ob rb : Nat} {st : RS} {nm : ByteArray} {ys : List GSym} {w0 w : World} (h : ObjSt RD Q ob rb st nm ys w0 w) {qb : Nat} (hq : Q qb) : w.cell? ⟨qb, 0, none⟩ = some (.pointer (some ⟨rb, 0, none⟩)) := Lib.cell_of_heap (h.q qb hq).1 0
theorem ObjSt.box {RD : World → RS → Prop} {Q : Nat → Prop} {ob rb : Nat} {st : RS} {nm : ByteArray} {ys : List GSym} {w0 w : World} (h : ObjSt RD Q ob rb st nm ys w0 w) :
 ObjSt RD (fun g => Q g ∨ g = w.heap.size) ob rb st nm ys w0 (w.alloc (.cells #[.pointer (some ⟨rb, 0, none⟩)] 166)) := by
 have k := h.keep (alloc_old w (.cells #[.pointer (some ⟨rb, 0, none⟩)] 166)); refine ⟨k.r, fun g hg => ?_, k.o, k.rd, k.kb, k.rlt, k.ole⟩
 rcases hg with hg | rfl
 ·exact k.q g hg
 ·exact ⟨heap_alloc_new w _, h.kb.size⟩
theorem ObjSt.sub {RD : World → RS → Prop} {Q Q' : Nat → Prop} {ob rb : Nat} {st : RS} {nm : ByteArray} {ys : List GSym} {w0 w : World} (h : ObjSt RD Q ob rb st nm ys w0 w) (hq : ∀ g, Q' g → Q g) : ObjSt RD Q' ob rb st nm ys w0 w :=
 ⟨h.r, fun g hg => h.q g (hq g hg), h.o, h.rd, h.kb, h.rlt, h.ole⟩
theorem own_none_or {v : Value} {r : Value} (h : ∀ g, v.ownBlock = some g → r.ownBlock ≠ some g) : v.ownBlock = none ∨ v.ownBlock ≠ r.ownBlock := by
 cases hv : v.ownBlock with
 | none => exact .inl rfl
 | some g => exact .inr fun e => h g hv e.symm
theorem ObjSt.add {RD : World → RS → Prop} {Q : Nat → Prop} {ob rb : Nat} {st st' : RS} {nm : ByteArray} {ys : List GSym} {w0 w1 w2 w3 w4 : World} {v v' vr vn : Value} {ts : List SymT} {y : GSym}
 (h : ObjSt RD Q ob rb st nm ys w0 w1) (ho : ObjRow w0.heap.size ob nm v ts w1) (ht : ts.map (·.1) = ys)
 (hr : RD w2 st') (k : KR rb w1 w2)
 (h2 : w2.ownsRow w1.heap.size 133 4 vr y.rels.length (y.rels.flatMap relCells)) (h3 : w2.ownsRow w1.heap.size 155 3 vn y.notes.length (y.notes.flatMap noteCells))
 (ha : Below w2.heap.size w2 w3) (hown : w4.ownsRow w0.heap.size 55 7 v' (ts.length + 1) (ts.flatMap symCells ++ symCells (y, vr, vn))) (hg : w3.grownBy w4 v.ownBlock) (hv : v'.ownBlock = v.ownBlock ∨ v'.ownBlock = some w3.heap.size) :
 ObjSt RD Q ob rb st' nm (ys ++ [y]) w0 (w4.setCell ⟨ob, 1, none⟩ v') := by
 have r1 := h.rlt; have r2 := h.ole; have z0 := h.kb.size; have z1 := k.size; have z2 := ha.size; have z3 := hg.size; have hs := h.read hr k; have ho2 : ObjRow w0.heap.size ob nm v ts w2 := ho.congr r2 fun g hg hb => k.block g hg (by omega)
 have ho3 : ObjRow w0.heap.size ob nm v ts w3 := ho2.congr r2 fun g hg hb => ha.block g hg
 obtain ⟨b1, b2, b3⟩ := ho3; have hvo : ∀ g, v.ownBlock = some g → g < w1.heap.size := fun g hg => (ho.2.1.lt g hg).2
 have hset : ∀ g, g ≠ ob → (w4.setCell ⟨ob, 1, none⟩ v').heap[g]? = w4.heap[g]? := fun g hgs => Below.heap_setCell _ _ _ _ (by simpa using hgs)
 have hob4 : w4.heap[ob]? = some (.cells #[.string nm, v] 50 (0, 0)) := (hg.block ob (Array.getElem?_eq_some_iff.1 b1).1 fun e => own_ne_box b2 b1 (by decide) e.symm).trans b1
 have hrb : rb < w3.heap.size := by omega
 have hrbv : v.ownBlock ≠ some rb := fun e => by have := (b2.lt rb e).1; omega
 have hrb4 : w4.heap[rb]? = w3.heap[rb]? := hg.block rb hrb fun e => hrbv e.symm
 have n2 := ownsRow_below ha h2; have n3 := ownsRow_below ha h3; have m2 := n2.kept hg (own_none_or fun g hg' e => by have := (h2.lt g hg').1; have := hvo g e; omega)
 have m3 := n3.kept hg (own_none_or fun g hg' e => by have := (h3.lt g hg').1; have := hvo g e; omega)
 have hso : ∀ t ∈ ts ++ [(y, vr, vn)], SymOwn w0.heap.size w4 v' t := by
  intro t ht; rcases List.mem_append.1 ht with ht | ht
  ·exact (b3 t ht).grown hg hv
  ·obtain rfl : t = (y, vr, vn) := by simpa using ht
   refine ⟨m2.mono z0, m3.mono z0, own_none_or fun g hg' e => ?_, own_none_or fun g hg' e => ?_⟩
   ·have q1 := h2.lt g hg'; rcases hv with hv | hv
    ·rw [hv] at e; have := hvo g e; omega
    ·rw [hv] at e; cases e; omega
   ·have q1 := h3.lt g hg'; rcases hv with hv | hv
    ·rw [hv] at e; have := hvo g e; omega
    ·rw [hv] at e; cases e; omega
 have hr3 : w3.heap[rb]? = w2.heap[rb]? := ha.block rb (h.r.lt hr); have hKB4 : KR rb w0 w4 := (hs.kb.trans (KB.of_below ha)).grown hg fun g e => .inr (b2.lt g e).1
 refine ⟨h.r, fun g hq => ?_, ⟨v', ts ++ [(y, vr, vn)], ⟨?_, ?_, fun t ht => ?_⟩, by simp [ht]⟩, h.r.congr hr ?_, KB.setCell hKB4 (.inr r2) _, r1, r2⟩
 ·obtain ⟨q1, q2⟩ := hs.q g hq; have q3 := (ha.block g (Array.getElem?_eq_some_iff.1 q1).1).trans q1; have hgo : g ≠ ob := fun e => by rw [e, b1] at q3; simp at q3
  exact ⟨by rw [hset g hgo, hg.block g (Array.getElem?_eq_some_iff.1 q3).1 fun e => own_ne_box b2 q3 (by decide) e.symm]; exact q3, q2⟩
 ·simp [World.setCell, Array.getElem?_modify, hob4]
 ·have e2 : (ts ++ [(y, vr, vn)]).flatMap symCells = ts.flatMap symCells ++ symCells (y, vr, vn) := by simp
  rw [List.length_append, e2]; exact own_congr hown fun g hg' => hset g fun e => own_ne_box hown (e ▸ hob4) (by decide) hg'
 ·obtain ⟨p1, p2, p3, p4⟩ := hso t ht; exact ⟨own_congr p1 fun g hg' => hset g fun e => own_ne_box p1 (e ▸ hob4) (by decide) hg', own_congr p2 fun g hg' => hset g fun e => own_ne_box p2 (e ▸ hob4) (by decide) hg', p3, p4⟩
 ·rw [hset rb (by omega), hrb4, hr3]
end
section
open Go.RowKit
theorem isName_le {s : ByteArray} (h : isName s = true) : s.size ≤ 32 := by
 simp only [isName, Bool.and_eq_true, decide_eq_true_eq] at h; exact h.2
theorem relsGo_names {n : Int} : ∀ {l : List GRel} {e : Int}, relsGo n e l = true → ∀ x ∈ l, isName x.name = true
 | [], _, _, x, hx => by cases hx
 | a :: r, e, h, x, hx => by
   simp only [relsGo, Bool.and_eq_true] at h; rcases List.mem_cons.1 hx with rfl | hx
   ·exact h.1.1.1.1.2
   ·exact relsGo_names h.2 x hx
def weakSym (s : GSym) : Prop := s.name.size ≤ 32 ∧ s.rels.length ≤ 1024 ∧ s.notes.length ≤ 8 ∧ ∀ x ∈ s.rels, x.name.size ≤ 32
theorem weak_of_P {s : GSym} (h : symOkP s = true) : weakSym s := by
 simp only [symOkP, placesOk, Bool.and_eq_true, decide_eq_true_eq] at h; exact ⟨isName_le h.1.1.1.1.1.1.1, h.1.1.2.2, h.1.2, fun x hx => isName_le (relsGo_names h.1.1.2.1 x hx)⟩
end
section
def SymNum (s : GSym) : Prop := (0 ≤ s.bind ∧ s.bind ≤ 255) ∧ (0 ≤ s.kind ∧ s.kind ≤ 255) ∧ (0 ≤ s.size ∧ s.size ≤ 4294967295) ∧
 (∀ x ∈ s.rels, (0 ≤ x.off ∧ x.off ≤ 4294967295) ∧ (0 ≤ x.kind ∧ x.kind ≤ 255) ∧ (0 ≤ x.add ∧ x.add ≤ 4294967295)) ∧
 (∀ x ∈ s.notes, (0 ≤ x.kind ∧ x.kind ≤ 255) ∧ (0 ≤ x.n ∧ x.n ≤ 4294967295) ∧ (0 ≤ x.m ∧ x.m ≤ 4294967295))
theorem symNum_of {w : World} {s : GSym} {vr vn : Value} (h : SymIn w s vr vn) : SymNum s := by
 obtain ⟨⟨_, _, _, _, _, _, _, _, h1⟩, ⟨_, _, _, _, _, _, _, _, h2⟩, h3, h4, h5, -⟩ := h; refine ⟨h3, h4, h5, fun x hx => ?_, fun x hx => ?_⟩
 ·obtain ⟨i, hi, rfl⟩ := List.mem_iff_getElem.1 hx; obtain ⟨-, -, -, -, -, a, b, c, -⟩ := h1 i hi; exact ⟨a, b, c⟩
 ·obtain ⟨i, hi, rfl⟩ := List.mem_iff_getElem.1 hx; obtain ⟨-, -, -, -, a, b, c⟩ := h2 i hi; exact ⟨a, b, c⟩
theorem objNum_of {w : World} {o : GObj} {vs : Value} (h : ObjIn w o vs) : ∀ s ∈ o.syms, SymNum s := by
 obtain ⟨⟨_, _, _, _, _, _, _, _, h1⟩, -⟩ := h; intro s hs; obtain ⟨i, hi, rfl⟩ := List.mem_iff_getElem.1 hs; obtain ⟨vr, vn, -, -, -, -, -, -, -, -, h2⟩ := h1 i hi; exact symNum_of h2
structure SymSm (s : GSym) : Prop where
 fit : SymFit s
 name : s.name.size ≤ 32
 bytes : s.bytes.size ≤ 8192
 rels : s.rels.length ≤ 1024
 rnames : ∀ x ∈ s.rels, x.name.size ≤ 32
 notes : s.notes.length ≤ 8
theorem symSm_of {s : GSym} (h : symOkP s = true) (hn : SymNum s) (hb : s.bytes.size < 4294967296) : SymSm s := by
 obtain ⟨w1, w2, w3, w4⟩ := weak_of_P h; obtain ⟨n1, n2, n3, n4, n5⟩ := hn
 have hz : s.bytes.size ≤ 8192 := by
  have hl : len32 s.bytes = (s.bytes.size : Int) := by unfold len32; omega
  simp only [symOkP, sizedOk, sizedB, hl, Bool.and_eq_true, decide_eq_true_eq] at h; have := h.1.1.1.2.1; omega
 refine ⟨⟨by omega, by omega, by omega, by omega, by omega, by omega, fun x hx => ?_, by omega, fun x hx => ?_⟩, w1, hz, w2, w4, w3⟩
 ·have := n4 x hx; have := w4 x hx; exact ⟨by omega, by omega, by omega, by omega⟩
 ·have := n5 x hx; exact ⟨by omega, by omega, by omega⟩
theorem objSm_of {o : GObj} (h : mayP o = true) (hn : ∀ s ∈ o.syms, SymNum s) (hb : ∀ s ∈ o.syms, s.bytes.size < 4294967296) : o.name.size ≤ 32 ∧ o.syms.length ≤ 64 ∧ ∀ s ∈ o.syms, SymSm s := by
 simp only [mayP, Bool.and_eq_true, decide_eq_true_eq] at h; exact ⟨isName_le h.1.2, h.2, fun s hs => symSm_of (symsGo_each _ _ h.1.1 s hs) (hn s hs) (hb s hs)⟩
theorem encText_len (s : ByteArray) : (encText s).length = 2 + s.size := by simp [encText, leB_length]
theorem flat_le {α : Type} {f : α → BL} {c : Nat} : ∀ {l : List α}, (∀ x ∈ l, (f x).length ≤ c) → (l.flatMap f).length ≤ l.length * c
 | [], _ => by simp
 | x :: r, h => by
   have := flat_le fun y hy => h y (List.mem_cons_of_mem x hy)
   have := h x (List.mem_cons_self ..); rw [List.flatMap_cons, List.length_append, List.length_cons, Nat.succ_mul]; omega
theorem encRel_len (x : GRel) : (encRel x).length = 11 + x.name.size := by simp [encRel, leB_length, encText_len]; omega
theorem encNote_len (x : GNote) : (encNote x).length = 9 := by simp [encNote, leB_length]
theorem encSym_len {s : GSym} (h : SymSm s) : (encSym s).length ≤ 60000 := by
 have h1 := flat_le (f := encRel) (c := 43) (l := s.rels) fun x hx => by rw [encRel_len]; have := h.rnames x hx; omega
 have h2 := flat_le (f := encNote) (c := 9) (l := s.notes) fun x _ => by rw [encNote_len]; exact Nat.le_refl _
 have := h.name; have := h.bytes; have := h.rels; have := h.notes; simp only [encSym, List.length_append, leB_length, encText_len]; omega
theorem take_flat {α : Type} {f : α → BL} {l : List α} {i : Nat} (h : i < l.length) : (l.take (i + 1)).flatMap f = (l.take i).flatMap f ++ f l[i] := by
 rw [List.take_succ_eq_append_getElem h, List.flatMap_append, List.flatMap_singleton]
theorem take_flat_le {α : Type} {f : α → BL} {c : Nat} {l : List α} (h : ∀ x ∈ l, (f x).length ≤ c) (i : Nat) : ((l.take i).flatMap f).length ≤ l.length * c := by
 have h1 := flat_le (f := f) (c := c) (l := l.take i) fun x hx => h x (List.mem_of_mem_take hx)
 have h2 : (l.take i).length * c ≤ l.length * c := Nat.mul_le_mul_right _ (by rw [List.length_take]; omega)
 omega
end
section
end
section
structure GArc where
 name : ByteArray
 members : List GObj
def aMagic : BL := [65, 65, 82, 49]
def hasObj (l : List GObj) (n : List UInt8) : Bool := l.any fun o => o.name.data.toList == n
def memsGo : List GObj → List GObj → Bool
 | _, [] => true
 | seen, o :: r => !hasObj seen o.name.data.toList && mayP o && memsGo (seen ++ [o]) r
def arcOk (a : GArc) : Bool := memsGo [] a.members && isName a.name && decide (a.members.length ≤ 32)
def encMem (o : GObj) : BL := leB 4 (encObj o).length ++ encObj o
def encArc (a : GArc) : BL := aMagic ++ encText a.name ++ leB 1 a.members.length ++ a.members.flatMap encMem
def rMems : Nat → RS → Option (List GObj × RS)
 | 0, st => some ([], st)
 | _ + 1, none => some ([], none)
 | n + 1, some r =>
   match getB (rTake (rNum 4 (some r)).1.toNat (rNum 4 (some r)).2).1 with
   | none => none
   | some o =>
     match rMems n (rTake (rNum 4 (some r)).1.toNat (rNum 4 (some r)).2).2 with
     | none => none
     | some (l, st) => some (o :: l, st)
def arcGet (s : BL) : Option GArc :=
 match rMems (rNum 1 (rText (rTake 4 (some s)).2).2).1.toNat (rNum 1 (rText (rTake 4 (some s)).2).2).2 with
 | none => none
 | some (l, st) => if st = some [] ∧ (rTake 4 (some s)).1 = aMagic ∧ arcOk ⟨(rText (rTake 4 (some s)).2).1, l⟩ = true then some ⟨(rText (rTake 4 (some s)).2).1, l⟩ else none
theorem memsGo_each : ∀ (l seen : List GObj), memsGo seen l = true → ∀ o ∈ l, mayP o = true
 | [], _, _, o, ho => by cases ho
 | x :: r, seen, h, o, ho => by
   simp only [memsGo, Bool.and_eq_true] at h; rcases List.mem_cons.1 ho with rfl | ho
   ·exact h.1.2
   ·exact memsGo_each r _ h.2 o ho
end
section
open Go.RowKit Go.Maps
theorem plt_tri (a b : PP) : plt a b ∨ a = b ∨ plt b a := by
 obtain ⟨a1, a2⟩ := a; obtain ⟨b1, b2⟩ := b; unfold plt; simp only [Prod.mk.injEq]; omega
theorem keptOf_sorted {l : List GObj} {p : PP} {L K : List PP} {F : PP → Option PP} (g : Goes l p L F L.length) (hp : K.Perm L) (hs : K.Pairwise (fun a b => ¬ plt b a)) : KeptOf l p K := by
 have hn : K.Nodup := hp.nodup_iff.2 g.nd; refine ⟨?_, fun x => by rw [hp.mem_iff]; exact g.done (Nat.le_refl _) x⟩
 have := hs.and hn; refine this.imp fun {a b} ⟨h1, h2⟩ => ?_
 rcases plt_tri a b with h | h | h
 ·exact h
 ·exact absurd h h2
 ·exact absurd h h1
def KeptYes (l : List GObj) (nm : ByteArray) (p : PP) (K : List PP) : Prop := (beginR l).2 = 0 ∧ findR l (-1) nm.data.toList = some p ∧ KeptOf l p K ∧ ∀ x ∈ K, refsC l x = 0
end
section
theorem findR_all {l : List GObj} {i : Int} {n : List UInt8} {q : PP} (h : findR l i n = some q) : q ∈ selPlaces (flat l) (flat l) := by
 obtain ⟨x, hx, rfl, hn, hb⟩ := findR_spot h; unfold selPlaces; refine List.mem_map.2 ⟨x, List.mem_filter.2 ⟨hx, ?_⟩, rfl⟩; unfold selB; rcases hb with ⟨h1, -⟩ | h1
 ·simp [h1]
 ·rw [hn]; simp [h1]
theorem reach_all {l : List GObj} {i : Int} {n : List UInt8} {p x : PP} (hp : findR l i n = some p) (h : Reach l p x) : x ∈ selPlaces (flat l) (flat l) := by
 cases h with
 | refl => exact findR_all hp
 | step _ k => obtain ⟨_, _, hf⟩ := k; exact findR_all hf
theorem refs_know {l : List GObj} {x : PP} (hc : (beginR l).2 = 0) (hv : validP l x) (h : refsC l x = 0) (q : PP) : q ∈ (refsV (beginR l) l x.1 x.2).1 ↔ knowsP l x q := by
 unfold refsC at h
 have hh : hasR l x.1 x.2 = true := by
  obtain ⟨o, s, h1, h2⟩ := hv; have h3 := (List.getElem?_eq_some_iff.1 h2).1; unfold hasR; simp [h1, h3]
 have e : refsV (beginR l) l x.1 x.2 = refsGo l x.1 [] (relsAt l x.1 x.2) := by
  unfold refsV; rw [if_neg (by simpa using hc), if_pos hh, Int.toNat_natCast, Int.toNat_natCast]
 rw [e] at h ⊢; obtain ⟨⟨ps, n, c⟩, hr⟩ : ∃ r, refsGo l x.1 [] (relsAt l x.1 x.2) = r := ⟨_, rfl⟩; rw [hr] at h; simp only [] at h; subst h; rw [hr]; rw [refsGo_mem hr q]; simp [knowsP]
end
section
def sizeAt (l : List GObj) (p : GP) : Int := match symAt l p with | some s => s.size | none => 0
def kindAt (l : List GObj) (p : GP) : Int := match symAt l p with | some s => s.kind | none => 0
def pAt (ps : List GP) (i : Nat) : GP := ps.getD i (0, 0)
def aAt (out : List GAddr) (i : Nat) : GAddr := out.getD i addr0
def Zs (l : List GObj) (ps : List GP) (i : Nat) : Int := sizeAt l (pAt ps i)
def Ks (l : List GObj) (ps : List GP) (i : Nat) : Int := kindAt l (pAt ps i)
def Done (l : List GObj) (ps : List GP) (ks : List Int) (kd : Int) (k i : Nat) : Prop := i < ps.length ∧ (Ks l ps i ∈ ks ∨ (Ks l ps i = kd ∧ i < k))
structure LInv (l : List GObj) (ps : List GP) (D : Nat → Prop) (out : List GAddr) (e : Int) : Prop where
 len : out.length = ps.length
 pl : ∀ i, D i → (aAt out i).obj = (pAt ps i).1 ∧ (aAt out i).sym = (pAt ps i).2
 lo : ∀ i, D i → 256 ≤ (aAt out i).at_ ∧ (aAt out i).at_ % 8 = 0 ∧ (aAt out i).at_ + Zs l ps i ≤ e
 dj : ∀ i j, D i → D j → i ≠ j → (aAt out i).at_ + Zs l ps i ≤ (aAt out j).at_ ∨ (aAt out j).at_ + Zs l ps j ≤ (aAt out i).at_
 pg : ∀ i j, D i → D j → Ks l ps i ≠ Ks l ps j → ∃ p : Int, p % 256 = 0 ∧ ((aAt out i).at_ + Zs l ps i ≤ p ∧ p ≤ (aAt out j).at_ ∨ (aAt out j).at_ + Zs l ps j ≤ p ∧ p ≤ (aAt out i).at_)
def OnPage (l : List GObj) (ps : List GP) (D : Nat → Prop) (out : List GAddr) (kd p0 : Int) : Prop :=
 p0 % 256 = 0 ∧ 256 ≤ p0 ∧ ∀ i, D i → (Ks l ps i ≠ kd → (aAt out i).at_ + Zs l ps i ≤ p0) ∧ (Ks l ps i = kd → p0 ≤ (aAt out i).at_)
theorem aAt_set_ne {out : List GAddr} {k i : Nat} {x : GAddr} (h : i ≠ k) : aAt (out.set k x) i = aAt out i := by
 unfold aAt; rw [List.getD_eq_getElem?_getD, List.getD_eq_getElem?_getD, List.getElem?_set_ne (fun e => h e.symm)]
theorem aAt_set_self {out : List GAddr} {k : Nat} {x : GAddr} (h : k < out.length) : aAt (out.set k x) k = x := by
 unfold aAt; rw [List.getD_eq_getElem?_getD, List.getElem?_set_self h]; rfl
theorem upTo8 (e : Int) : e ≤ upTo e 8 ∧ upTo e 8 % 8 = 0 := by unfold upTo; omega
theorem laySyms_inv {l : List GObj} {ps : List GP} {ks : List Int} {kd p0 : Int} (hkd : kd ∉ ks) (hz : ∀ i, i < ps.length → 1 ≤ Zs l ps i) : ∀ (r : List GP) (k : Nat) (out : List GAddr) (e : Int), ps.drop k = r → LInv l ps (Done l ps ks kd k) out e → OnPage l ps (Done l ps ks kd k) out kd p0 → p0 ≤ e →
 ∀ out' e', laySyms l kd r k out e = some (out', e') → LInv l ps (Done l ps ks kd ps.length) out' e' ∧ OnPage l ps (Done l ps ks kd ps.length) out' kd p0 ∧ e ≤ e' ∧ (e ≤ 131072 → e' ≤ 131072) ∧ (∀ i, i < ps.length → k ≤ i → Ks l ps i = kd → p0 < e') ∧ (∀ i, Ks l ps i ∈ ks → aAt out' i = aAt out i)
 | [], k, out, e, hr, hI, hP, hpe, out', e', h => by
   simp only [laySyms, Option.some.injEq, Prod.mk.injEq] at h; obtain ⟨rfl, rfl⟩ := h; have hk : ps.length ≤ k := by simpa using hr
   have hD : Done l ps ks kd ps.length = Done l ps ks kd k := by
    funext i
    apply propext; unfold Done; exact ⟨fun ⟨h1, h2⟩ => ⟨h1, h2.imp id fun h3 => ⟨h3.1, by omega⟩⟩, fun ⟨h1, h2⟩ => ⟨h1, h2.imp id fun h3 => ⟨h3.1, by omega⟩⟩⟩
   rw [hD]; exact ⟨hI, hP, Int.le_refl _, fun h => h, fun i hi hki => by omega, fun _ _ => rfl⟩
 | p :: r, k, out, e, hr, hI, hP, hpe, out', e', h => by
   have hk : k < ps.length := by
    rcases Nat.lt_or_ge k ps.length with h1 | h1
    ·exact h1
    ·rw [List.drop_of_length_le h1] at hr; cases hr
   rw [List.drop_eq_getElem_cons hk] at hr; obtain ⟨hp, hr⟩ := List.cons.inj hr; have hpA : pAt ps k = p := by unfold pAt; rw [List.getD_eq_getElem?_getD, List.getElem?_eq_getElem hk]; exact hp
   have hzk := hz k hk; rw [laySyms] at h
   have hskip : Ks l ps k ≠ kd → laySyms l kd r (k + 1) out e = some (out', e') → LInv l ps (Done l ps ks kd ps.length) out' e' ∧ OnPage l ps (Done l ps ks kd ps.length) out' kd p0 ∧ e ≤ e' ∧ (e ≤ 131072 → e' ≤ 131072) ∧ (∀ i, i < ps.length → k ≤ i → Ks l ps i = kd → p0 < e') ∧ (∀ i, Ks l ps i ∈ ks → aAt out' i = aAt out i) := fun hne h => by
    have hD : Done l ps ks kd (k + 1) = Done l ps ks kd k := by
     funext i
     apply propext; unfold Done; refine ⟨fun ⟨h1, h2⟩ => ⟨h1, h2.imp id fun h3 => ⟨h3.1, ?_⟩⟩, fun ⟨h1, h2⟩ => ⟨h1, h2.imp id fun h3 => ⟨h3.1, by omega⟩⟩⟩
     rcases Nat.lt_or_eq_of_le (Nat.le_of_lt_succ h3.2) with h4 | rfl
     ·exact h4
     ·exact absurd h3.1 hne
    obtain ⟨a1, a2, a3, a4, a5, a6⟩ := laySyms_inv hkd hz r (k + 1) out e hr (hD ▸ hI) (hD ▸ hP) hpe out' e' h; refine ⟨a1, a2, a3, a4, fun i hi hki hK => a5 i hi ?_ hK, a6⟩
    rcases Nat.lt_or_eq_of_le hki with h5 | rfl
    ·exact h5
    ·exact absurd hK hne
   cases hs : symAt l p with
   | none =>
     rw [hs] at h; have : Zs l ps k = 0 := by unfold Zs sizeAt; rw [hpA, hs]
     omega
   | some s =>
     rw [hs] at h; have hK : Ks l ps k = s.kind := by unfold Ks kindAt; rw [hpA, hs]
     have hZ : Zs l ps k = s.size := by unfold Zs sizeAt; rw [hpA, hs]
     simp only [] at h
     by_cases hsk : s.kind = kd
     ·rw [if_pos hsk] at h
      by_cases hbig : 131072 < upTo e 8 + s.size
      ·rw [if_pos hbig] at h; cases h
      ·rw [if_neg hbig] at h; have hu := upTo8 e
       have hnk : ∀ i, Done l ps ks kd k i → i ≠ k := fun i hd e => by
        subst e; rcases hd.2 with h1 | h1
        ·rw [hK, hsk] at h1; exact hkd h1
        ·omega
       have hold : ∀ i, Done l ps ks kd (k + 1) i → Done l ps ks kd k i ∨ i = k := fun i ⟨h1, h2⟩ => by
        rcases h2 with h2 | ⟨h2, h3⟩
        ·exact .inl ⟨h1, .inl h2⟩
        ·rcases Nat.lt_or_eq_of_le (Nat.le_of_lt_succ h3) with h4 | h4
         ·exact .inl ⟨h1, .inr ⟨h2, h4⟩⟩
         ·exact .inr h4
       have hkl : k < out.length := by rw [hI.len]; exact hk
       have hself := aAt_set_self (x := (⟨p.1, p.2, upTo e 8⟩ : GAddr)) hkl; have hkeep : ∀ i, Done l ps ks kd k i → aAt (out.set k ⟨p.1, p.2, upTo e 8⟩) i = aAt out i := fun i hd => aAt_set_ne (hnk i hd)
       have hI' : LInv l ps (Done l ps ks kd (k + 1)) (out.set k ⟨p.1, p.2, upTo e 8⟩) (upTo e 8 + s.size) := by
        refine ⟨by simpa using hI.len, fun i hd => ?_, fun i hd => ?_, fun i j hd hd' hne => ?_, fun i j hd hd' hne => ?_⟩
        ·rcases hold i hd with h1 | rfl
         ·rw [hkeep i h1]; exact hI.pl i h1
         ·rw [hself, hpA]; exact ⟨rfl, rfl⟩
        ·rcases hold i hd with h1 | rfl
         ·rw [hkeep i h1]; have := hI.lo i h1; omega
         ·rw [hself, hZ]; exact ⟨by have := hP.2.1; simp only []; omega, hu.2, Int.le_refl _⟩
        ·rcases hold i hd with h1 | rfl
         ·rcases hold j hd' with h2 | rfl
          ·rw [hkeep i h1, hkeep j h2]; exact hI.dj i j h1 h2 hne
          ·rw [hkeep i h1, hself]; left; have := (hI.lo i h1).2.2; simp only []; omega
         ·rcases hold j hd' with h2 | rfl
          ·rw [hkeep j h2, hself]; right; have := (hI.lo j h2).2.2; simp only []; omega
          ·exact absurd rfl hne
        ·rcases hold i hd with h1 | rfl
         ·rcases hold j hd' with h2 | rfl
          ·rw [hkeep i h1, hkeep j h2]; exact hI.pg i j h1 h2 hne
          ·rw [hkeep i h1, hself]; refine ⟨p0, hP.1, .inl ⟨(hP.2.2 i h1).1 (by rw [hK, hsk] at hne; exact hne), by simp only []; omega⟩⟩
         ·rcases hold j hd' with h2 | rfl
          ·rw [hkeep j h2, hself]; refine ⟨p0, hP.1, .inr ⟨(hP.2.2 j h2).1 (by rw [hK, hsk] at hne; exact fun e => hne e.symm), by simp only []; omega⟩⟩
          ·exact absurd rfl hne
       have hP' : OnPage l ps (Done l ps ks kd (k + 1)) (out.set k ⟨p.1, p.2, upTo e 8⟩) kd p0 := by
        refine ⟨hP.1, hP.2.1, fun i hd => ?_⟩
        rcases hold i hd with h1 | rfl
        ·rw [hkeep i h1]; exact hP.2.2 i h1
        ·rw [hself]; exact ⟨fun h => absurd (hK.trans hsk) h, fun _ => by simp only []; omega⟩
       obtain ⟨a1, a2, a3, a4, a5, a6⟩ := laySyms_inv hkd hz r (k + 1) _ _ hr hI' hP' (by omega) out' e' h
       refine ⟨a1, a2, by omega, fun _ => a4 (by omega), fun i hi hki hKi => by omega, fun i hi => ?_⟩
       rw [a6 i hi, aAt_set_ne]; rintro rfl; rw [hK, hsk] at hi; exact hkd hi
     ·rw [if_neg hsk] at h; exact hskip (by rw [hK]; exact hsk) h
def SInv (l : List GObj) (ps : List GP) (ks : List Int) (out : List GAddr) (spans : List GSpan) : Prop :=
 (∀ x ∈ spans, x.kind ∈ ks) ∧ ∀ i, i < ps.length → Ks l ps i ∈ ks → ∃ sp, spans.find? (fun x => decide (x.kind = Ks l ps i)) = some sp ∧ sp.at_ % 256 = 0 ∧ 0 ≤ sp.at_ ∧ sp.at_ ≤ (aAt out i).at_ ∧ (aAt out i).at_ + Zs l ps i ≤ sp.at_ + sp.size ∧ sp.at_ + sp.size ≤ 131072
theorem upTo256 (e : Int) (h : 256 ≤ e) : e ≤ upTo e 256 ∧ upTo e 256 % 256 = 0 ∧ (e ≤ 131072 → upTo e 256 ≤ 131072) := by unfold upTo; omega
theorem layKinds_inv {l : List GObj} {ps : List GP} (hz : ∀ i, i < ps.length → 1 ≤ Zs l ps i) : ∀ (rest ks : List Int) (out : List GAddr) (spans : List GSpan) (e : Int), (∀ k ∈ rest, k ∉ ks) → rest.Nodup → LInv l ps (fun i => i < ps.length ∧ Ks l ps i ∈ ks) out e → SInv l ps ks out spans → 256 ≤ e → e ≤ 131072 →
 ∀ out' spans', layKinds l ps rest out spans e = some (out', spans') → ∃ e', e' ≤ 131072 ∧ LInv l ps (fun i => i < ps.length ∧ Ks l ps i ∈ rest ++ ks) out' e' ∧ SInv l ps (rest ++ ks) out' spans'
 | [], ks, out, spans, e, _, _, hI, hS, he, he1, out', spans', h => by
   simp only [layKinds, Option.some.injEq, Prod.mk.injEq] at h; obtain ⟨rfl, rfl⟩ := h; exact ⟨e, he1, hI, hS⟩
 | kd :: rest, ks, out, spans, e, hnot, hnd, hI, hS, he, he1, out', spans', h => by
   have hkd : kd ∉ ks := hnot kd (by simp)
   have hu := upTo256 e he; rw [layKinds] at h; cases hL : laySyms l kd ps 0 out (upTo e 256) with
   | none => rw [hL] at h; cases h
   | some r =>
     obtain ⟨o1, e1⟩ := r; rw [hL] at h; simp only [] at h
     have hD0 : Done l ps ks kd 0 = fun i => i < ps.length ∧ Ks l ps i ∈ ks := by
      funext i; apply propext; unfold Done
      exact ⟨fun ⟨h1, h2⟩ => ⟨h1, h2.elim id fun h3 => absurd h3.2 (by omega)⟩, fun ⟨h1, h2⟩ => ⟨h1, .inl h2⟩⟩
     have hDn : Done l ps ks kd ps.length = fun i => i < ps.length ∧ Ks l ps i ∈ kd :: ks := by
      funext i; apply propext; unfold Done
      refine ⟨fun ⟨h1, h2⟩ => ⟨h1, ?_⟩, fun ⟨h1, h2⟩ => ⟨h1, ?_⟩⟩
      ·rcases h2 with h2 | ⟨h2, -⟩
       ·exact List.mem_cons_of_mem _ h2
       ·rw [h2]; exact List.mem_cons_self
      ·rcases List.mem_cons.1 h2 with h2 | h2
       ·exact .inr ⟨h2, h1⟩
       ·exact .inl h2
     have hI0 : LInv l ps (Done l ps ks kd 0) out (upTo e 256) := by
      rw [hD0]; exact ⟨hI.len, hI.pl, fun i hd => by have := hI.lo i hd; omega, hI.dj, hI.pg⟩
     have hP0 : OnPage l ps (Done l ps ks kd 0) out kd (upTo e 256) := by
      rw [hD0]; refine ⟨hu.2.1, by omega, fun i hd => ⟨fun _ => by have := (hI.lo i hd).2.2; omega, fun hk => absurd (hk ▸ hd.2) hkd⟩⟩
     obtain ⟨a1, a2, a3, a4, a5, a6⟩ := laySyms_inv hkd hz ps 0 out (upTo e 256) rfl hI0 hP0 (Int.le_refl _) o1 e1 hL; rw [hDn] at a1 a2
     have hS1 : SInv l ps (kd :: ks) o1 (if 0 < e1 - upTo e 256 then spans ++ [⟨kd, upTo e 256, e1 - upTo e 256⟩] else spans) := by
      have hnone : spans.find? (fun x => decide (x.kind = kd)) = none := by
       rw [List.find?_eq_none]; intro x hx hxk; have := hS.1 x hx; rw [of_decide_eq_true hxk] at this; exact hkd this
      refine ⟨fun x hx => ?_, fun i hi hK => ?_⟩
      ·split at hx
       ·rcases List.mem_append.1 hx with hx | hx
        ·exact List.mem_cons_of_mem _ (hS.1 x hx)
        ·obtain rfl : x = _ := by simpa using hx
         exact List.mem_cons_self
       ·exact List.mem_cons_of_mem _ (hS.1 x hx)
      ·rcases List.mem_cons.1 hK with hK | hK
       ·have hlt := a5 i hi (Nat.zero_le _) hK; rw [if_pos (by omega), hK]
        refine ⟨⟨kd, upTo e 256, e1 - upTo e 256⟩, by rw [List.find?_append, hnone]; simp, hu.2.1, by simp only []; omega, (a2.2.2 i ⟨hi, by rw [hK]; exact List.mem_cons_self⟩).2 hK, ?_, ?_⟩
        ·have := (a1.lo i ⟨hi, by rw [hK]; exact List.mem_cons_self⟩).2.2; simp only []; omega
        ·have := a4 (hu.2.2 he1); simp only []; omega
       ·obtain ⟨sp, q1, q2, q3, q4, q5, q6⟩ := hS.2 i hi hK; refine ⟨sp, ?_, q2, q3, by rw [a6 i hK]; exact q4, by rw [a6 i hK]; exact q5, q6⟩
        split
        ·rw [List.find?_append, q1]; rfl
        ·exact q1
     obtain ⟨e', b1, b2, b3⟩ := layKinds_inv hz rest (kd :: ks) o1 _ e1 (fun k hk hm => by
      rcases List.mem_cons.1 hm with rfl | hm
      ·exact (List.nodup_cons.1 hnd).1 hk
      ·exact hnot k (by simp [hk]) hm) (List.nodup_cons.1 hnd).2 a1 hS1 (by omega) (a4 (hu.2.2 he1)) out' spans' h
     refine ⟨e', b1, ?_, ?_⟩
     ·have : (fun i => i < ps.length ∧ Ks l ps i ∈ rest ++ (kd :: ks)) = fun i => i < ps.length ∧ Ks l ps i ∈ kd :: rest ++ ks := by
       funext i; simp only [List.mem_append, List.mem_cons, List.cons_append]; apply propext
       constructor <;> rintro ⟨h1, h2⟩ <;> exact ⟨h1, by rcases h2 with h2 | h2 | h2 <;> simp [h2]⟩
      rw [← this]; exact b2
     ·refine ⟨fun x hx => ?_, fun i hi hK => b3.2 i hi ?_⟩
      ·have := b3.1 x hx; simp only [List.mem_append, List.mem_cons, List.cons_append] at this ⊢; rcases this with h2 | h2 | h2 <;> simp [h2]
      ·simp only [List.mem_append, List.mem_cons, List.cons_append] at hK ⊢; rcases hK with h2 | h2 | h2 <;> simp [h2]
structure Laid (l : List GObj) (ps : List GP) (out : List GAddr) (spans : List GSpan) : Prop where
 len : out.length = ps.length
 pl : ∀ i, i < ps.length → (aAt out i).obj = (pAt ps i).1 ∧ (aAt out i).sym = (pAt ps i).2
 lo : ∀ i, i < ps.length → 256 ≤ (aAt out i).at_ ∧ (aAt out i).at_ % 8 = 0 ∧ (aAt out i).at_ + Zs l ps i ≤ 131072
 dj : ∀ i j, i < ps.length → j < ps.length → i ≠ j → (aAt out i).at_ + Zs l ps i ≤ (aAt out j).at_ ∨ (aAt out j).at_ + Zs l ps j ≤ (aAt out i).at_
 pg : ∀ i j, i < ps.length → j < ps.length → Ks l ps i ≠ Ks l ps j → ∃ p : Int, p % 256 = 0 ∧ ((aAt out i).at_ + Zs l ps i ≤ p ∧ p ≤ (aAt out j).at_ ∨ (aAt out j).at_ + Zs l ps j ≤ p ∧ p ≤ (aAt out i).at_)
 sp : ∀ i, i < ps.length → ∃ sp, spans.find? (fun x => decide (x.kind = Ks l ps i)) = some sp ∧ sp.at_ % 256 = 0 ∧ 0 ≤ sp.at_ ∧ sp.at_ ≤ (aAt out i).at_ ∧ (aAt out i).at_ + Zs l ps i ≤ sp.at_ + sp.size ∧ sp.at_ + sp.size ≤ 131072
theorem sym_facts {l : List GObj} {p : GP} {s : GSym} (hm : mayAll l = true) (h : symAt l p = some s) : 1 ≤ s.size ∧ s.size ≤ 8192 ∧ 1 ≤ s.kind ∧ s.kind ≤ 3 := by
 obtain ⟨a, b, ha, hb, -, rfl⟩ := symAt_some h; simp only [mayAll, Bool.and_eq_true, List.all_eq_true] at hm; have h1 := hm.2 _ (List.getElem_mem ha); simp only [mayP, Bool.and_eq_true] at h1; have h2 := symsGo_each _ _ h1.1.1 _ (List.getElem_mem hb); simp only [symOkP, sizedOk, sizedB, Bool.and_eq_true, decide_eq_true_eq] at h2; exact ⟨h2.1.1.1.2.1.1.1, h2.1.1.1.2.1.1.2, h2.1.1.1.1.1.2, h2.1.1.1.1.2⟩
theorem mayGo_each {l : List GObj} : ∀ {ps : List GP} {pr : Option GP}, mayGo l pr ps = true → ∀ p ∈ ps, ∃ s, symAt l p = some s
 | [], _, _, p, hp => by cases hp
 | q :: r, pr, h, p, hp => by
   simp only [mayGo, Bool.and_eq_true] at h; rcases List.mem_cons.1 hp with rfl | hp
   ·exact Option.isSome_iff_exists.1 h.1.1
   ·exact mayGo_each h.2 p hp
theorem may_each {l : List GObj} {ps : List GP} (hm : layMay l ps = true) {i : Nat} (hi : i < ps.length) : ∃ s, symAt l ps[i] = some s ∧ pAt ps i = ps[i] ∧ Zs l ps i = s.size ∧ Ks l ps i = s.kind ∧ 1 ≤ s.size ∧ s.size ≤ 8192 ∧ 1 ≤ s.kind ∧ s.kind ≤ 3 := by
 simp only [layMay, Bool.and_eq_true] at hm; obtain ⟨s, hs⟩ := mayGo_each hm.2 _ (List.getElem_mem hi); have hp : pAt ps i = ps[i] := by unfold pAt; rw [List.getD_eq_getElem?_getD, List.getElem?_eq_getElem hi]; rfl
 exact ⟨s, hs, hp, by unfold Zs sizeAt; rw [hp, hs], by unfold Ks kindAt; rw [hp, hs], sym_facts hm.1 hs⟩
theorem layOf_zero {l : List GObj} {ps : List GP} {a : List GAddr} {s : List GSpan} (h : layOf l ps = (a, s, 0)) : layMay l ps = true ∧ layKinds l ps [1, 3, 2] (List.replicate ps.length addr0) [] 256 = some (a, s) := by
 unfold layOf at h
 by_cases hm : layMay l ps = true
 ·rw [if_pos hm] at h; cases hk : layKinds l ps [1, 3, 2] (List.replicate ps.length addr0) [] 256 with
  | none => rw [hk] at h; simp at h
  | some r => rw [hk] at h; obtain ⟨x, y⟩ := r; simp at h; exact ⟨hm, by rw [h.1, h.2]⟩
 ·rw [if_neg hm] at h; simp at h
theorem laid_of {l : List GObj} {ps : List GP} {a : List GAddr} {s : List GSpan} (h : layOf l ps = (a, s, 0)) : Laid l ps a s := by
 obtain ⟨hm, hk⟩ := layOf_zero h
 have hz : ∀ i, i < ps.length → 1 ≤ Zs l ps i := fun i hi => by
  obtain ⟨s, -, -, h1, -, h2, -⟩ := may_each hm hi; rw [h1]; exact h2
 have hK : ∀ i, i < ps.length → Ks l ps i ∈ ([1, 3, 2] : List Int) ++ [] := fun i hi => by
  obtain ⟨s, -, -, -, h1, -, -, h2, h3⟩ := may_each hm hi; rw [h1]; have : s.kind = 1 ∨ s.kind = 2 ∨ s.kind = 3 := by omega
  rcases this with h4 | h4 | h4 <;> simp [h4]
 obtain ⟨e', h1, h2, h3⟩ := layKinds_inv hz [1, 3, 2] [] (List.replicate ps.length addr0) [] 256 (fun k _ h => by cases h) (by decide) ⟨by simp, fun i hd => absurd hd.2 (by simp), fun i hd => absurd hd.2 (by simp), fun i j hd => absurd hd.2 (by simp), fun i j hd => absurd hd.2 (by simp)⟩ ⟨fun x hx => (by cases hx), fun i _ hk => (by cases hk)⟩ (by omega) (by omega) a s hk
 exact ⟨h2.len, fun i hi => h2.pl i ⟨hi, hK i hi⟩, fun i hi => by have := h2.lo i ⟨hi, hK i hi⟩; omega, fun i j hi hj => h2.dj i j ⟨hi, hK i hi⟩ ⟨hj, hK j hj⟩, fun i j hi hj => h2.pg i j ⟨hi, hK i hi⟩ ⟨hj, hK j hj⟩, fun i hi => h3.2 i hi (hK i hi)⟩
end
end Go.Proofs.YtboegjdkedjhcaaGreatDoor
