/- Rows of addresses and spans that a call makes; what lay.Of keeps. -/
import Derived.Test.YteekdjlpfgkgjaaDoorLayData
import Derived.Test.YteekdjlpfgkgjaaDoorKeep
import Derived.Test.YteekdjlpfgkgjaaDoorWLayer
import Derived.Test.YteekdjlpfgkgjaaDoorPlain
namespace Go.Proofs.YteekdjlpfgkgjaaDoor
open Go.RowKit
def addrCells (a : GAddr) : List Value := [.int .i64 a.obj, .int .i64 a.sym, .int .u32 a.at_]
def spanCells (a : GSpan) : List Value := [.int .u8 a.kind, .int .u32 a.at_, .int .u32 a.size]
theorem addrCells_len (a : GAddr) : (addrCells a).length = 3 := rfl
theorem spanCells_len (a : GSpan) : (spanCells a).length = 3 := rfl
def AddrOk (a : GAddr) : Prop := 0 ≤ a.at_ ∧ a.at_ ≤ 4294967295
def SpanOk (a : GSpan) : Prop := (0 ≤ a.kind ∧ a.kind ≤ 255) ∧ (0 ≤ a.at_ ∧ a.at_ ≤ 4294967295) ∧ (0 ≤ a.size ∧ a.size ≤ 4294967295)
theorem addr_row {w : World} {v : Value} {base : Nat} {e : TypeId} {l : List GAddr} (h : w.ownsRow base e 3 v l.length (l.flatMap addrCells)) (hl : l.length ≤ 140737488355328) (hok : ∀ a ∈ l, AddrOk a) : RowAt 3 AddrR w v l :=
  owned_row addrCells_len h hl fun g o' i hi hg hcell => ⟨hg, hcell 0 _ (by omega) rfl, hcell 1 _ (by omega) rfl, hcell 2 _ (by omega) rfl, hok _ (List.getElem_mem hi)⟩
theorem span_row {w : World} {v : Value} {base : Nat} {e : TypeId} {l : List GSpan} (h : w.ownsRow base e 3 v l.length (l.flatMap spanCells)) (hl : l.length ≤ 140737488355328) (hok : ∀ a ∈ l, SpanOk a) : RowAt 3 SpanR w v l :=
  owned_row spanCells_len h hl fun g o' i hi hg hcell => ⟨hg, hcell 0 _ (by omega) rfl, hcell 1 _ (by omega) rfl, hcell 2 _ (by omega) rfl, hok _ (List.getElem_mem hi)⟩
theorem made_addrs (n : Nat) : (madeCells #[.int .i64 0, .int .i64 0, .int .u32 0] (n * 3)).toList = (List.replicate n addr0).flatMap addrCells := by
  show (madeCells (Value.agg #[.int .i64 0, .int .i64 0, .int .u32 0]).cells (n * 3)).toList = _
  rw [zero_cells3 _ (.int .i64 0) (.int .i64 0) (.int .u32 0) rfl]
  induction n with
  | zero => rfl
  | succ n ih => rw [List.replicate_succ, List.replicate_succ, List.flatMap_cons, List.flatMap_cons, ih]; rfl
/-- a symbol that may be laid has a size -/
theorem may_size {l : List GObj} {p : GP} {s : GSym} (hm : mayAll l = true) (h : symAt l p = some s) : 1 ≤ s.size ∧ s.size ≤ 8192 := by
  obtain ⟨a, b, ha, hb, -, rfl⟩ := symAt_some h
  simp only [mayAll, Bool.and_eq_true, List.all_eq_true] at hm
  have h1 := hm.2 _ (List.getElem_mem ha)
  simp only [mayP, Bool.and_eq_true] at h1
  have h2 := symsGo_each _ _ h1.1.1 _ (List.getElem_mem hb)
  simp only [symOkP, sizedOk, sizedB, Bool.and_eq_true, decide_eq_true_eq] at h2
  exact ⟨h2.1.1.1.2.1.1.1, h2.1.1.1.2.1.1.2⟩
theorem mayGo_some {l : List GObj} : ∀ {ps : List GP} {pr : Option GP}, mayGo l pr ps = true → ∀ p ∈ ps, ∃ s, symAt l p = some s
  | [], _, _, p, hp => by cases hp
  | q :: r, pr, h, p, hp => by
    simp only [mayGo, Bool.and_eq_true] at h
    rcases List.mem_cons.1 hp with rfl | hp
    · exact Option.isSome_iff_exists.1 h.1.1
    · exact mayGo_some h.2 p hp
/-- what lay.Of keeps in its loops -/
structure OInv (w0 : World) (ob xb n : Nat) (v8 : Value) (out : List GAddr) (spans : List GSpan) (k a s e : Int) (wr : World) : Prop where
  row : wr.ownsRow ob 56 3 (.slice (some ⟨ob, 0, none⟩) n n) n (out.flatMap addrCells)
  olen : out.length = n
  ook : ∀ x ∈ out, AddrOk x
  srow : wr.ownsRow w0.heap.size 62 3 v8 spans.length (spans.flatMap spanCells)
  slen : spans.length ≤ 3
  sok : ∀ x ∈ spans, SpanOk x
  lay : LayerAt wr xb k a s e
  kb : KB (fun g => g = ob ∨ g = xb) w0 wr
theorem OInv.keep {w0 : World} {ob xb n : Nat} {v8 : Value} {out : List GAddr} {spans : List GSpan} {k a s e : Int} {wr w' : World} (h : OInv w0 ob xb n v8 out spans k a s e wr) (hb : Below wr.heap.size wr w') : OInv w0 ob xb n v8 out spans k a s e w' :=
  ⟨own_congr h.row fun g hg => hb.block g (h.row.lt g hg).2, h.olen, h.ook, own_congr h.srow fun g hg => hb.block g (h.srow.lt g hg).2, h.slen, h.sok, h.lay.kept (hb.block _ h.lay.lt) hb.size, h.kb.trans (KB.of_below hb)⟩
/-- behind a call of the layer's -/
theorem OInv.layer {w0 : World} {ob xb n : Nat} {v8 : Value} {out : List GAddr} {spans : List GSpan} {k a s e k' a' s' e' : Int} {wr w' : World} (h : OInv w0 ob xb n v8 out spans k a s e wr) (hx : xb < w0.heap.size) (hne : ob ≠ xb) (hg : wr.grownBy w' (some xb)) (hl : LayerAt w' xb k' a' s' e') : OInv w0 ob xb n v8 out spans k' a' s' e' w' :=
  ⟨own_congr h.row fun g hg' => hg.block g (h.row.lt g hg').2 (fun e => by cases e; cases hg'; exact hne rfl), h.olen, h.ook, own_congr h.srow fun g hg' => hg.block g (h.srow.lt g hg').2 (fun e => by cases e; have := (h.srow.lt xb hg').1; omega), h.slen, h.sok, hl, h.kb.grown hg (fun g hg' => by cases hg'; exact .inl (.inr rfl))⟩
/-- behind a store into the row of addresses -/
theorem OInv.set {w0 : World} {ob xb n : Nat} {v8 : Value} {out : List GAddr} {spans : List GSpan} {k a s e : Int} {wr : World} (h : OInv w0 ob xb n v8 out spans k a s e wr) (ho : ob < w0.heap.size) (hne : ob ≠ xb) {i : Nat} (hi : i < n) (x : GAddr) (hx : AddrOk x) :
    OInv w0 ob xb n v8 (out.set i x) spans k a s e (((wr.setCell ⟨ob, i * 3, none⟩ (.int .i64 x.obj)).setCell ⟨ob, i * 3 + 1, none⟩ (.int .i64 x.sym)).setCell ⟨ob, i * 3 + 2, none⟩ (.int .u32 x.at_)) := by
  have hset : ∀ g, g ≠ ob → (((wr.setCell ⟨ob, i * 3, none⟩ (.int .i64 x.obj)).setCell ⟨ob, i * 3 + 1, none⟩ (.int .i64 x.sym)).setCell ⟨ob, i * 3 + 2, none⟩ (.int .u32 x.at_)).heap[g]? = wr.heap[g]? := fun g hg => by
    rw [Below.heap_setCell _ _ _ _ (by simpa using hg), Below.heap_setCell _ _ _ _ (by simpa using hg), Below.heap_setCell _ _ _ _ (by simpa using hg)]
  refine ⟨?_, by simpa using h.olen, ?_, own_congr h.srow fun g hg => hset g fun e => by have := (h.srow.lt g hg).1; omega, h.slen, h.sok, h.lay.kept (hset _ fun e => hne e.symm) (by simp), ((h.kb.setCell (.inl (.inl rfl)) _).setCell (.inl (.inl rfl)) _).setCell (.inl (.inl rfl)) _⟩
  · rw [← flat_set3 addrCells_len (x := x) rfl out i (by rw [h.olen]; exact hi)]
    exact (((h.row.stored _ _).1.stored _ _).1.stored _ _).1
  · intro y hy
    rcases List.mem_or_eq_of_mem_set hy with hy | rfl
    · exact h.ook y hy
    · exact hx
end Go.Proofs.YteekdjlpfgkgjaaDoor
