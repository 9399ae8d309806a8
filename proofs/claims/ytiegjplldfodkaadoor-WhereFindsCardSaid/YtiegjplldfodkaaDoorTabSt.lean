/- What the reading of a table keeps, whatever the reader. -/
import Derived.Test.YtiegjplldfodkaaDoorTab34
import Derived.Test.YtiegjplldfodkaaDoorWRefRd
import Derived.Deep.Onto
namespace Go.Proofs.YtiegjplldfodkaaDoor
open Go.RowKit
/-- what is asked of a reader's predicate: it speaks of the reader's block alone -/
structure RdrT (rb : Nat) (RD : World → RS → Prop) : Prop where
  congr : ∀ {w w' : World} {st : RS}, RD w st → w'.heap[rb]? = w.heap[rb]? → RD w' st
  lt : ∀ {w : World} {st : RS}, RD w st → rb < w.heap.size
theorem rdrT_obj (rb : Nat) (s : ByteArray) : RdrT rb (fun w st => RdS w rb s st) := ⟨fun h k => h.congr k, fun h => h.lt⟩
theorem rdrT_ref (rb : Nat) : RdrT rb (fun w st => RrS w rb st) := ⟨fun h k => h.congr k, fun h => h.lt⟩
/-- the reading's box, the row of symbols, the reader -/
structure TabSt (RD : World → RS → Prop) (Q : Nat → Prop) (T : TypeId) (rb : Nat) (st : RS) (v : Value) (ts : List GTs) (w0 w : World) : Prop where
  r : RdrT rb RD
  q : ∀ g, Q g → w.heap[g]? = some (.cells #[.pointer (some ⟨rb, 0, none⟩)] T (0, 0)) ∧ w0.heap.size ≤ g
  o : w.ownsRow w0.heap.size 43 5 v ts.length (ts.flatMap tsCells)
  rd : RD w st
  kb : KR rb w0 w
  rlt : rb < w0.heap.size
  ne : 43 ≠ T
theorem TabSt.read {RD : World → RS → Prop} {Q : Nat → Prop} {T : TypeId} {rb : Nat} {st st' : RS} {v : Value} {ts : List GTs} {w0 w w' : World} (h : TabSt RD Q T rb st v ts w0 w) (hr : RD w' st') (k : KR rb w w') : TabSt RD Q T rb st' v ts w0 w' := by
  have h1 := h.rlt
  refine ⟨h.r, fun g hg => ?_, own_congr h.o fun g hg => k.block g (h.o.lt g hg).2 (by have := (h.o.lt g hg).1; omega), hr, h.kb.trans k, h1, h.ne⟩
  obtain ⟨q1, q2⟩ := h.q g hg
  exact ⟨(k.block g (Array.getElem?_eq_some_iff.1 q1).1 (by omega)).trans q1, q2⟩
theorem TabSt.keep {RD : World → RS → Prop} {Q : Nat → Prop} {T : TypeId} {rb : Nat} {st : RS} {v : Value} {ts : List GTs} {w0 w w' : World} (h : TabSt RD Q T rb st v ts w0 w) (k : Below w.heap.size w w') : TabSt RD Q T rb st v ts w0 w' :=
  h.read (h.r.congr h.rd (k.block rb (h.r.lt h.rd))) (KB.of_below k)
theorem TabSt.c {RD : World → RS → Prop} {Q : Nat → Prop} {T : TypeId} {rb : Nat} {st : RS} {v : Value} {ts : List GTs} {w0 w : World} (h : TabSt RD Q T rb st v ts w0 w) {qb : Nat} (hq : Q qb) : w.cell? ⟨qb, 0, none⟩ = some (.pointer (some ⟨rb, 0, none⟩)) := Lib.cell_of_heap (h.q qb hq).1 0
theorem TabSt.add {RD : World → RS → Prop} {Q : Nat → Prop} {T : TypeId} {rb : Nat} {st : RS} {v v' : Value} {ts : List GTs} {x : GTs} {w0 w w2 : World} {ob : Obj} (h : TabSt RD Q T rb st v ts w0 w)
    (ho : w2.ownsRow w0.heap.size 43 5 v' (ts.length + 1) (ts.flatMap tsCells ++ tsCells x)) (hg : (w.alloc ob).grownBy w2 v.ownBlock) : TabSt RD Q T rb st v' (ts ++ [x]) w0 w2 := by
  have hs := h.keep (alloc_old w ob)
  have h1 := h.rlt
  have hrb : v.ownBlock ≠ some rb := fun e => by have := (h.o.lt rb e).1; omega
  refine ⟨h.r, fun g hq => ?_, ?_, h.r.congr hs.rd (hg.block rb (h.r.lt hs.rd) fun e => hrb e.symm), hs.kb.grown hg fun g e => .inr (h.o.lt g e).1, h1, h.ne⟩
  · obtain ⟨q1, q2⟩ := hs.q g hq
    exact ⟨(hg.block g (Array.getElem?_eq_some_iff.1 q1).1 fun e => own_ne_box hs.o q1 h.ne e.symm).trans q1, q2⟩
  · have e1 : (ts ++ [x]).flatMap tsCells = ts.flatMap tsCells ++ tsCells x := by simp
    rw [List.length_append, e1]; exact ho
end Go.Proofs.YtiegjplldfodkaaDoor
