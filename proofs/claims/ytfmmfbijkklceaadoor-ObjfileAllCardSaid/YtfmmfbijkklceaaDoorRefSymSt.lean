/- What aediculeref09.sym keeps (printed by genrefsym.py). -/
import Derived.Test.YtfmmfbijkklceaaDoorWSymRd
import Derived.Test.YtfmmfbijkklceaaDoorWRefRd
namespace Go.Proofs.YtfmmfbijkklceaaDoor
open Go.RowKit Go.Maps
/-- what a symbol's reading keeps: the reading's boxes (Q), the symbol's box, its two rows (all in blocks below R), the reader -/
structure RSymSt (R : Nat) (Q : Nat → Prop) (sb rb : Nat) (st : RS) (y : GSym) (w0 w : World) : Prop where
  q : ∀ g, Q g → w.heap[g]? = some (.cells #[.pointer (some ⟨rb, 0, none⟩)] 74 (0, 0)) ∧ w0.heap.size ≤ g ∧ g < R
  y : ∃ vr vn, w.heap[sb]? = some (.cells #[.string y.name, .int .u8 y.bind, .int .u8 y.kind, .int .u32 y.size, .string y.bytes, vr, vn] 47 (0, 0)) ∧
    w.ownsRow w0.heap.size 49 4 vr y.rels.length (y.rels.flatMap relCells) ∧ w.ownsRow w0.heap.size 64 3 vn y.notes.length (y.notes.flatMap noteCells) ∧
    (∀ g, vr.ownBlock = some g → g < R) ∧ (∀ g, vn.ownBlock = some g → g < R)
  rd : RrS w rb st
  kb : KR rb w0 w
  rlt : rb < w0.heap.size
  sle : w0.heap.size ≤ sb
  slt : sb < R
  rle : R ≤ w.heap.size
theorem RSymSt.read {R : Nat} {Q : Nat → Prop} {sb rb : Nat} {st st' : RS} {y : GSym} {w0 w w' : World} (h : RSymSt R Q sb rb st y w0 w) (hr : RrS w' rb st') (k : KRR R rb w w') : RSymSt R Q sb rb st' y w0 w' := by
  obtain ⟨vr, vn, h1, h2, h3, h4, h5⟩ := h.y
  have r1 := h.rlt; have r3 := h.sle; have r5 := h.slt; have r6 := h.rle
  have hk : ∀ g, g < R → g ≠ rb → w'.heap[g]? = w.heap[g]? := fun g hg hn => k.block g (by omega) (by rintro (e | e); exact hn e; omega)
  refine ⟨fun g hg => by obtain ⟨q1, q2, q3⟩ := h.q g hg; exact ⟨by rw [hk g q3 (by omega)]; exact q1, q2, q3⟩, ⟨vr, vn, by rw [hk sb r5 (by omega)]; exact h1, own_congr h2 fun g hg => hk g (h4 g hg) (by have := (h2.lt g hg).1; omega), own_congr h3 fun g hg => hk g (h5 g hg) (by have := (h3.lt g hg).1; omega), h4, h5⟩, hr, ?_, r1, r3, r5, Nat.le_trans r6 k.size⟩
  exact ⟨k.os.trans h.kb.os, k.tape.trans h.kb.tape, k.output.trans h.kb.output, Nat.le_trans h.kb.size k.size, fun g hg hn => (hk g (by omega) hn).trans (h.kb.block g hg hn)⟩
/-- behind what leaves the reader alone -/
theorem RSymSt.still {R : Nat} {Q : Nat → Prop} {sb rb : Nat} {st : RS} {y : GSym} {w0 w w' : World} (h : RSymSt R Q sb rb st y w0 w) (k : KB (fun g => R ≤ g) w w') : RSymSt R Q sb rb st y w0 w' :=
  h.read (h.rd.congr (k.block rb h.rd.lt (by have := h.rlt; have := h.sle; have := h.slt; omega))) ⟨k.os, k.tape, k.output, k.size, fun g hg hs => k.block g hg fun e => hs (.inr e)⟩
theorem RSymSt.keep {R : Nat} {Q : Nat → Prop} {sb rb : Nat} {st : RS} {y : GSym} {w0 w w' : World} (h : RSymSt R Q sb rb st y w0 w) (k : Below w.heap.size w w') : RSymSt R Q sb rb st y w0 w' := h.still (KB.of_below k)
theorem RSymSt.fresh {R : Nat} {Q : Nat → Prop} {sb rb : Nat} {st : RS} {y : GSym} {w0 w : World} (h : RSymSt R Q sb rb st y w0 w) : RSymSt w.heap.size Q sb rb st y w0 w := by
  obtain ⟨vr, vn, h1, h2, h3, h4, h5⟩ := h.y
  have := h.rle
  exact ⟨fun g hg => by obtain ⟨q1, q2, q3⟩ := h.q g hg; exact ⟨q1, q2, by omega⟩, ⟨vr, vn, h1, h2, h3, fun g hg => (h2.lt g hg).2, fun g hg => (h3.lt g hg).2⟩, h.rd, h.kb, h.rlt, h.sle, by have := h.slt; omega, Nat.le_refl _⟩
/-- behind the append to the symbol's places -/
theorem RSymSt.addR {R : Nat} {Q : Nat → Prop} {sb rb : Nat} {st : RS} {y : GSym} {w0 w1 wa w2 : World} {vr vn v' : Value} {x : GRel} (h : RSymSt R Q sb rb st y w0 w1)
    (hs : w1.heap[sb]? = some (.cells #[.string y.name, .int .u8 y.bind, .int .u8 y.kind, .int .u32 y.size, .string y.bytes, vr, vn] 47 (0, 0)))
    (hr : w1.ownsRow w0.heap.size 49 4 vr y.rels.length (y.rels.flatMap relCells)) (hn : w1.ownsRow w0.heap.size 64 3 vn y.notes.length (y.notes.flatMap noteCells))
    (ha : Below w1.heap.size w1 wa) (ho : w2.ownsRow w0.heap.size 49 4 v' (y.rels.length + 1) (y.rels.flatMap relCells ++ relCells x)) (hg : wa.grownBy w2 vr.ownBlock) :
    RSymSt (w2.setCell ⟨sb, 5, none⟩ v').heap.size Q sb rb st (addRel y x) w0 (w2.setCell ⟨sb, 5, none⟩ v') := by
  have r1 := h.rlt; have r3 := h.sle; have r5 := h.slt; have r6 := h.rle
  have z1 := ha.size; have z2 := hg.size
  have hz : (w2.setCell ⟨sb, 5, none⟩ v').heap.size = w2.heap.size := by simp
  have hk : ∀ g, g < w1.heap.size → vr.ownBlock ≠ some g → w2.heap[g]? = w1.heap[g]? := fun g hg' hne => by
    rw [hg.block g (by omega) (fun e => hne e.symm), ha.block g hg']
  have hs2 := hk sb (by omega) (own_ne_box hr hs (by decide))
  have hset : ∀ g, g ≠ sb → (w2.setCell ⟨sb, 5, none⟩ v').heap[g]? = w2.heap[g]? := fun g hgs => Below.heap_setCell _ _ _ _ (by simpa using hgs)
  have hqs : ∀ g, Q g → g ≠ sb := fun g hg e => by have h2 := (h.q g hg).1; rw [e, hs] at h2; simp at h2
  have hrb : vr.ownBlock ≠ some rb := fun e => by have := (hr.lt rb e).1; omega
  have hn2 : w2.ownsRow w0.heap.size 64 3 vn y.notes.length (y.notes.flatMap noteCells) := own_congr hn fun g hg' => hk g (hn.lt g hg').2 fun e => own_ne hr hn (by decide) e hg'
  have hs2' : w2.heap[sb]? = some (.cells #[.string y.name, .int .u8 y.bind, .int .u8 y.kind, .int .u32 y.size, .string y.bytes, vr, vn] 47 (0, 0)) := hs2.trans hs
  have e1 : (addRel y x).rels.length = y.rels.length + 1 := by simp [addRel]
  have e2 : (addRel y x).rels.flatMap relCells = y.rels.flatMap relCells ++ relCells x := by simp [addRel]
  have ho3 : (w2.setCell ⟨sb, 5, none⟩ v').ownsRow w0.heap.size 49 4 v' (addRel y x).rels.length ((addRel y x).rels.flatMap relCells) := by
    rw [e1, e2]; exact own_congr ho fun g hg' => hset g fun e => own_ne_box ho (e ▸ hs2') (by decide) hg'
  have hn3 : (w2.setCell ⟨sb, 5, none⟩ v').ownsRow w0.heap.size 64 3 vn y.notes.length (y.notes.flatMap noteCells) := own_congr hn2 fun g hg' => hset g fun e => own_ne_box hn2 (e ▸ hs2') (by decide) hg'
  refine ⟨fun g hg => by obtain ⟨q1, q2, q3⟩ := h.q g hg; exact ⟨by rw [hset g (hqs g hg), hk g (by omega) (own_ne_box hr q1 (by decide))]; exact q1, q2, by rw [hz]; omega⟩, ⟨v', vn, ?_, ho3, hn3, fun g hg' => (ho3.lt g hg').2, fun g hg' => (hn3.lt g hg').2⟩, ?_, ?_, r1, r3, by rw [hz]; omega, Nat.le_refl _⟩
  · simp [World.setCell, Array.getElem?_modify, hs2', addRel]
  · exact h.rd.congr (by rw [hset rb (by omega), hk rb (by omega) hrb])
  · have hg0 := h.kb.grown (w' := w2) (r := vr.ownBlock) ⟨hg.os.trans ha.os, hg.tape.trans ha.tape, hg.output.trans ha.output, Nat.le_trans z1 z2, fun k hk' hne => hk k hk' (fun e => hne e.symm)⟩ (fun k e => .inr (hr.lt k e).1)
    exact KB.setCell hg0 (.inr r3) _
/-- behind the append to the symbol's notes -/
theorem RSymSt.addN {R : Nat} {Q : Nat → Prop} {sb rb : Nat} {st : RS} {y : GSym} {w0 w1 wa w2 : World} {vr vn v' : Value} {x : GNote} (h : RSymSt R Q sb rb st y w0 w1)
    (hs : w1.heap[sb]? = some (.cells #[.string y.name, .int .u8 y.bind, .int .u8 y.kind, .int .u32 y.size, .string y.bytes, vr, vn] 47 (0, 0)))
    (hr : w1.ownsRow w0.heap.size 49 4 vr y.rels.length (y.rels.flatMap relCells)) (hn : w1.ownsRow w0.heap.size 64 3 vn y.notes.length (y.notes.flatMap noteCells))
    (ha : Below w1.heap.size w1 wa) (ho : w2.ownsRow w0.heap.size 64 3 v' (y.notes.length + 1) (y.notes.flatMap noteCells ++ noteCells x)) (hg : wa.grownBy w2 vn.ownBlock) :
    RSymSt (w2.setCell ⟨sb, 6, none⟩ v').heap.size Q sb rb st (addNote y x) w0 (w2.setCell ⟨sb, 6, none⟩ v') := by
  have r1 := h.rlt; have r3 := h.sle; have r5 := h.slt; have r6 := h.rle
  have z1 := ha.size; have z2 := hg.size
  have hz : (w2.setCell ⟨sb, 6, none⟩ v').heap.size = w2.heap.size := by simp
  have hk : ∀ g, g < w1.heap.size → vn.ownBlock ≠ some g → w2.heap[g]? = w1.heap[g]? := fun g hg' hne => by
    rw [hg.block g (by omega) (fun e => hne e.symm), ha.block g hg']
  have hs2 := hk sb (by omega) (own_ne_box hn hs (by decide))
  have hset : ∀ g, g ≠ sb → (w2.setCell ⟨sb, 6, none⟩ v').heap[g]? = w2.heap[g]? := fun g hgs => Below.heap_setCell _ _ _ _ (by simpa using hgs)
  have hqs : ∀ g, Q g → g ≠ sb := fun g hg e => by have h2 := (h.q g hg).1; rw [e, hs] at h2; simp at h2
  have hrb : vn.ownBlock ≠ some rb := fun e => by have := (hn.lt rb e).1; omega
  have hn2 : w2.ownsRow w0.heap.size 49 4 vr y.rels.length (y.rels.flatMap relCells) := own_congr hr fun g hg' => hk g (hr.lt g hg').2 fun e => own_ne hr hn (by decide) hg' e
  have hs2' : w2.heap[sb]? = some (.cells #[.string y.name, .int .u8 y.bind, .int .u8 y.kind, .int .u32 y.size, .string y.bytes, vr, vn] 47 (0, 0)) := hs2.trans hs
  have e1 : (addNote y x).notes.length = y.notes.length + 1 := by simp [addNote]
  have e2 : (addNote y x).notes.flatMap noteCells = y.notes.flatMap noteCells ++ noteCells x := by simp [addNote]
  have ho3 : (w2.setCell ⟨sb, 6, none⟩ v').ownsRow w0.heap.size 64 3 v' (addNote y x).notes.length ((addNote y x).notes.flatMap noteCells) := by
    rw [e1, e2]; exact own_congr ho fun g hg' => hset g fun e => own_ne_box ho (e ▸ hs2') (by decide) hg'
  have hn3 : (w2.setCell ⟨sb, 6, none⟩ v').ownsRow w0.heap.size 49 4 vr y.rels.length (y.rels.flatMap relCells) := own_congr hn2 fun g hg' => hset g fun e => own_ne_box hn2 (e ▸ hs2') (by decide) hg'
  refine ⟨fun g hg => by obtain ⟨q1, q2, q3⟩ := h.q g hg; exact ⟨by rw [hset g (hqs g hg), hk g (by omega) (own_ne_box hn q1 (by decide))]; exact q1, q2, by rw [hz]; omega⟩, ⟨vr, v', ?_, hn3, ho3, fun g hg' => (hn3.lt g hg').2, fun g hg' => (ho3.lt g hg').2⟩, ?_, ?_, r1, r3, by rw [hz]; omega, Nat.le_refl _⟩
  · simp [World.setCell, Array.getElem?_modify, hs2', addNote]
  · exact h.rd.congr (by rw [hset rb (by omega), hk rb (by omega) hrb])
  · have hg0 := h.kb.grown (w' := w2) (r := vn.ownBlock) ⟨hg.os.trans ha.os, hg.tape.trans ha.tape, hg.output.trans ha.output, Nat.le_trans z1 z2, fun k hk' hne => hk k hk' (fun e => hne e.symm)⟩ (fun k e => .inr (hn.lt k e).1)
    exact KB.setCell hg0 (.inr r3) _
theorem RSymSt.put {R : Nat} {Q : Nat → Prop} {sb rb : Nat} {st : RS} {y : GSym} {w0 w : World} (h : RSymSt R Q sb rb st y w0 w) (y' : GSym) (j : Nat) (v : Value) (hr : y'.rels = y.rels) (hn : y'.notes = y.notes)
    (hs : ∀ vr vn, (#[.string y.name, .int .u8 y.bind, .int .u8 y.kind, .int .u32 y.size, .string y.bytes, vr, vn] : Array Value).setIfInBounds j v = #[.string y'.name, .int .u8 y'.bind, .int .u8 y'.kind, .int .u32 y'.size, .string y'.bytes, vr, vn]) :
    RSymSt R Q sb rb st y' w0 (w.setCell ⟨sb, j, none⟩ v) := by
  obtain ⟨vr, vn, h1, h2, h3, h4, h5⟩ := h.y
  have r1 := h.rlt; have r3 := h.sle; have r5 := h.slt; have r6 := h.rle
  have hset : ∀ g, g ≠ sb → (w.setCell ⟨sb, j, none⟩ v).heap[g]? = w.heap[g]? := fun g hgs => Below.heap_setCell _ _ _ _ (by simpa using hgs)
  have hqs : ∀ g, Q g → g ≠ sb := fun g hg e => by have h2 := (h.q g hg).1; rw [e, h1] at h2; simp at h2
  refine ⟨fun g hg => by rw [hset g (hqs g hg)]; exact h.q g hg, ⟨vr, vn, ?_, ?_, ?_, h4, h5⟩, h.rd.congr (hset rb (by omega)), KB.setCell h.kb (.inr r3) _, r1, r3, r5, by simpa using r6⟩
  · rw [← hs]; simp [World.setCell, Array.getElem?_modify, h1]
  · rw [hr]; exact own_congr h2 fun g hg => hset g fun e => own_ne_box h2 (e ▸ h1) (by decide) hg
  · rw [hn]; exact own_congr h3 fun g hg => hset g fun e => own_ne_box h3 (e ▸ h1) (by decide) hg
/-- the symbol's first five cells -/
theorem RSymSt.five {R : Nat} {Q : Nat → Prop} {sb rb : Nat} {st : RS} {y : GSym} {w0 w : World} (h : RSymSt R Q sb rb st y w0 w) :
    (w.cell? ⟨sb, 0, none⟩ = some (.string y.name) ∧ w.cell? ⟨sb, 1, none⟩ = some (.int .u8 y.bind) ∧ w.cell? ⟨sb, 2, none⟩ = some (.int .u8 y.kind) ∧ w.cell? ⟨sb, 3, none⟩ = some (.int .u32 y.size) ∧ w.cell? ⟨sb, 4, none⟩ = some (.string y.bytes)) ∧ ∀ j, w.frozen? ⟨sb, j, none⟩ = false := by
  obtain ⟨vr, vn, h1, -⟩ := h.y
  exact ⟨⟨Lib.cell_of_heap h1 0, Lib.cell_of_heap h1 1, Lib.cell_of_heap h1 2, Lib.cell_of_heap h1 3, Lib.cell_of_heap h1 4⟩, fun j => Lib.frozen_of_heap h1 j⟩
end Go.Proofs.YtfmmfbijkklceaaDoor
