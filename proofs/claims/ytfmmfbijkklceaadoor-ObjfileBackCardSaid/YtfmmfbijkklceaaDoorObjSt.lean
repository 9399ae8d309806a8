/- What the reading of an object keeps, whatever the reader. -/
import Derived.Test.YtfmmfbijkklceaaDoorWSymRd
import Derived.Test.YtfmmfbijkklceaaDoorCopySep
import Derived.Deep.Onto
namespace Go.Proofs.YtfmmfbijkklceaaDoor
open Go.RowKit Go.Maps
/-- what is asked of a reader's predicate: it speaks of the reader's block alone -/
structure Rdr (rb : Nat) (RD : World → RS → Prop) : Prop where
  congr : ∀ {w w' : World} {st : RS}, RD w st → w'.heap[rb]? = w.heap[rb]? → RD w' st
  lt : ∀ {w : World} {st : RS}, RD w st → rb < w.heap.size
theorem rdr_obj (rb : Nat) (s : ByteArray) : Rdr rb (fun w st => RdS w rb s st) := ⟨fun h k => h.congr k, fun h => h.lt⟩
/-- an object's box and its row of symbols -/
def ObjRow (B : Nat) (ob : Nat) (nm : ByteArray) (v : Value) (ts : List SymT) (w : World) : Prop :=
  w.heap[ob]? = some (.cells #[.string nm, v] 24 (0, 0)) ∧ w.ownsRow B 47 7 v ts.length (ts.flatMap symCells) ∧ ∀ t ∈ ts, SymOwn B w v t
theorem ObjRow.congr {B ob : Nat} {nm : ByteArray} {v : Value} {ts : List SymT} {w w' : World} (h : ObjRow B ob nm v ts w) (hob : B ≤ ob) (hk : ∀ g, g < w.heap.size → B ≤ g → w'.heap[g]? = w.heap[g]?) : ObjRow B ob nm v ts w' := by
  obtain ⟨h1, h2, h3⟩ := h
  refine ⟨(hk ob (Array.getElem?_eq_some_iff.1 h1).1 hob).trans h1, own_congr h2 fun g hg => hk g (h2.lt g hg).2 (h2.lt g hg).1, fun t ht => ?_⟩
  obtain ⟨a, b, c, d⟩ := h3 t ht
  exact ⟨own_congr a fun g hg => hk g (a.lt g hg).2 (a.lt g hg).1, own_congr b fun g hg => hk g (b.lt g hg).2 (b.lt g hg).1, c, d⟩
structure ObjSt (RD : World → RS → Prop) (Q : Nat → Prop) (ob rb : Nat) (st : RS) (nm : ByteArray) (ys : List GSym) (w0 w : World) : Prop where
  r : Rdr rb RD
  q : ∀ g, Q g → w.heap[g]? = some (.cells #[.pointer (some ⟨rb, 0, none⟩)] 74 (0, 0)) ∧ w0.heap.size ≤ g
  o : ∃ v ts, ObjRow w0.heap.size ob nm v ts w ∧ ts.map (·.1) = ys
  rd : RD w st
  kb : KR rb w0 w
  rlt : rb < w0.heap.size
  ole : w0.heap.size ≤ ob
theorem ObjSt.read {RD : World → RS → Prop} {Q : Nat → Prop} {ob rb : Nat} {st st' : RS} {nm : ByteArray} {ys : List GSym} {w0 w w' : World} (h : ObjSt RD Q ob rb st nm ys w0 w) (hr : RD w' st') (k : KR rb w w') : ObjSt RD Q ob rb st' nm ys w0 w' := by
  have h1 := h.rlt; have h2 := h.ole
  obtain ⟨v, ts, h3, h4⟩ := h.o
  refine ⟨h.r, fun g hg => ?_, ⟨v, ts, h3.congr h2 fun g hg hb => k.block g hg (by omega), h4⟩, hr, h.kb.trans k, h1, h2⟩
  obtain ⟨q1, q2⟩ := h.q g hg
  exact ⟨(k.block g (Array.getElem?_eq_some_iff.1 q1).1 (by omega)).trans q1, q2⟩
theorem ObjSt.keep {RD : World → RS → Prop} {Q : Nat → Prop} {ob rb : Nat} {st : RS} {nm : ByteArray} {ys : List GSym} {w0 w w' : World} (h : ObjSt RD Q ob rb st nm ys w0 w) (k : Below w.heap.size w w') : ObjSt RD Q ob rb st nm ys w0 w' :=
  h.read (h.r.congr h.rd (k.block rb (h.r.lt h.rd))) (KB.of_below k)
theorem ObjSt.c {RD : World → RS → Prop} {Q : Nat → Prop} {ob rb : Nat} {st : RS} {nm : ByteArray} {ys : List GSym} {w0 w : World} (h : ObjSt RD Q ob rb st nm ys w0 w) {qb : Nat} (hq : Q qb) : w.cell? ⟨qb, 0, none⟩ = some (.pointer (some ⟨rb, 0, none⟩)) := Lib.cell_of_heap (h.q qb hq).1 0
theorem ObjSt.box {RD : World → RS → Prop} {Q : Nat → Prop} {ob rb : Nat} {st : RS} {nm : ByteArray} {ys : List GSym} {w0 w : World} (h : ObjSt RD Q ob rb st nm ys w0 w) :
    ObjSt RD (fun g => Q g ∨ g = w.heap.size) ob rb st nm ys w0 (w.alloc (.cells #[.pointer (some ⟨rb, 0, none⟩)] 74)) := by
  have k := h.keep (alloc_old w (.cells #[.pointer (some ⟨rb, 0, none⟩)] 74))
  refine ⟨k.r, fun g hg => ?_, k.o, k.rd, k.kb, k.rlt, k.ole⟩
  rcases hg with hg | rfl
  · exact k.q g hg
  · exact ⟨heap_alloc_new w _, h.kb.size⟩
theorem ObjSt.sub {RD : World → RS → Prop} {Q Q' : Nat → Prop} {ob rb : Nat} {st : RS} {nm : ByteArray} {ys : List GSym} {w0 w : World} (h : ObjSt RD Q ob rb st nm ys w0 w) (hq : ∀ g, Q' g → Q g) : ObjSt RD Q' ob rb st nm ys w0 w :=
  ⟨h.r, fun g hg => h.q g (hq g hg), h.o, h.rd, h.kb, h.rlt, h.ole⟩
theorem own_none_or {v : Value} {r : Value} (h : ∀ g, v.ownBlock = some g → r.ownBlock ≠ some g) : v.ownBlock = none ∨ v.ownBlock ≠ r.ownBlock := by
  cases hv : v.ownBlock with
  | none => exact .inl rfl
  | some g => exact .inr fun e => h g hv e.symm
/-- behind the append of a symbol that was read -/
theorem ObjSt.add {RD : World → RS → Prop} {Q : Nat → Prop} {ob rb : Nat} {st st' : RS} {nm : ByteArray} {ys : List GSym} {w0 w1 w2 w3 w4 : World} {v v' vr vn : Value} {ts : List SymT} {y : GSym}
    (h : ObjSt RD Q ob rb st nm ys w0 w1) (ho : ObjRow w0.heap.size ob nm v ts w1) (ht : ts.map (·.1) = ys)
    (hr : RD w2 st') (k : KR rb w1 w2)
    (h2 : w2.ownsRow w1.heap.size 49 4 vr y.rels.length (y.rels.flatMap relCells)) (h3 : w2.ownsRow w1.heap.size 64 3 vn y.notes.length (y.notes.flatMap noteCells))
    (ha : Below w2.heap.size w2 w3) (hown : w4.ownsRow w0.heap.size 47 7 v' (ts.length + 1) (ts.flatMap symCells ++ symCells (y, vr, vn))) (hg : w3.grownBy w4 v.ownBlock) (hv : v'.ownBlock = v.ownBlock ∨ v'.ownBlock = some w3.heap.size) :
    ObjSt RD Q ob rb st' nm (ys ++ [y]) w0 (w4.setCell ⟨ob, 1, none⟩ v') := by
  have r1 := h.rlt; have r2 := h.ole
  have z0 := h.kb.size; have z1 := k.size; have z2 := ha.size; have z3 := hg.size
  have hs := h.read hr k
  have ho2 : ObjRow w0.heap.size ob nm v ts w2 := ho.congr r2 fun g hg hb => k.block g hg (by omega)
  have ho3 : ObjRow w0.heap.size ob nm v ts w3 := ho2.congr r2 fun g hg hb => ha.block g hg
  obtain ⟨b1, b2, b3⟩ := ho3
  have hvo : ∀ g, v.ownBlock = some g → g < w1.heap.size := fun g hg => (ho.2.1.lt g hg).2
  have hset : ∀ g, g ≠ ob → (w4.setCell ⟨ob, 1, none⟩ v').heap[g]? = w4.heap[g]? := fun g hgs => Below.heap_setCell _ _ _ _ (by simpa using hgs)
  have hob4 : w4.heap[ob]? = some (.cells #[.string nm, v] 24 (0, 0)) := (hg.block ob (Array.getElem?_eq_some_iff.1 b1).1 fun e => own_ne_box b2 b1 (by decide) e.symm).trans b1
  have hrb : rb < w3.heap.size := by omega
  have hrbv : v.ownBlock ≠ some rb := fun e => by have := (b2.lt rb e).1; omega
  have hrb4 : w4.heap[rb]? = w3.heap[rb]? := hg.block rb hrb fun e => hrbv e.symm
  have n2 := ownsRow_below ha h2
  have n3 := ownsRow_below ha h3
  have m2 := n2.kept hg (own_none_or fun g hg' e => by have := (h2.lt g hg').1; have := hvo g e; omega)
  have m3 := n3.kept hg (own_none_or fun g hg' e => by have := (h3.lt g hg').1; have := hvo g e; omega)
  have hso : ∀ t ∈ ts ++ [(y, vr, vn)], SymOwn w0.heap.size w4 v' t := by
    intro t ht
    rcases List.mem_append.1 ht with ht | ht
    · exact (b3 t ht).grown hg hv
    · obtain rfl : t = (y, vr, vn) := by simpa using ht
      refine ⟨m2.mono z0, m3.mono z0, own_none_or fun g hg' e => ?_, own_none_or fun g hg' e => ?_⟩
      · have q1 := h2.lt g hg'
        rcases hv with hv | hv
        · rw [hv] at e; have := hvo g e; omega
        · rw [hv] at e; cases e; omega
      · have q1 := h3.lt g hg'
        rcases hv with hv | hv
        · rw [hv] at e; have := hvo g e; omega
        · rw [hv] at e; cases e; omega
  have hr3 : w3.heap[rb]? = w2.heap[rb]? := ha.block rb (h.r.lt hr)
  have hKB4 : KR rb w0 w4 := (hs.kb.trans (KB.of_below ha)).grown hg fun g e => .inr (b2.lt g e).1
  refine ⟨h.r, fun g hq => ?_, ⟨v', ts ++ [(y, vr, vn)], ⟨?_, ?_, fun t ht => ?_⟩, by simp [ht]⟩, h.r.congr hr ?_, KB.setCell hKB4 (.inr r2) _, r1, r2⟩
  · obtain ⟨q1, q2⟩ := hs.q g hq
    have q3 := (ha.block g (Array.getElem?_eq_some_iff.1 q1).1).trans q1
    have hgo : g ≠ ob := fun e => by rw [e, b1] at q3; simp at q3
    exact ⟨by rw [hset g hgo, hg.block g (Array.getElem?_eq_some_iff.1 q3).1 fun e => own_ne_box b2 q3 (by decide) e.symm]; exact q3, q2⟩
  · simp [World.setCell, Array.getElem?_modify, hob4]
  · have e2 : (ts ++ [(y, vr, vn)]).flatMap symCells = ts.flatMap symCells ++ symCells (y, vr, vn) := by simp
    rw [List.length_append, e2]
    exact own_congr hown fun g hg' => hset g fun e => own_ne_box hown (e ▸ hob4) (by decide) hg'
  · obtain ⟨p1, p2, p3, p4⟩ := hso t ht
    exact ⟨own_congr p1 fun g hg' => hset g fun e => own_ne_box p1 (e ▸ hob4) (by decide) hg', own_congr p2 fun g hg' => hset g fun e => own_ne_box p2 (e ▸ hob4) (by decide) hg', p3, p4⟩
  · rw [hset rb (by omega), hrb4, hr3]
end Go.Proofs.YtfmmfbijkklceaaDoor
