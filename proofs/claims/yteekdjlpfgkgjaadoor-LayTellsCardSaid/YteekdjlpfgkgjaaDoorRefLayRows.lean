/- What aediculeref14.Of keeps in its loops. -/
import Derived.Test.YteekdjlpfgkgjaaDoorWRef14b
namespace Go.Proofs.YteekdjlpfgkgjaaDoor
open Go.RowKit Go.Maps Go.WideMaps
/-- the row of addresses (block ob) and the row of spans (made later) -/
structure RInv (w0 : World) (ob n : Nat) (v8 : Value) (out : List GAddr) (spans : List GSpan) (wr : World) : Prop where
  row : wr.ownsRow ob 56 3 (.slice (some ⟨ob, 0, none⟩) n n) n (out.flatMap addrCells)
  olen : out.length = n
  ook : ∀ x ∈ out, AddrOk x
  srow : wr.ownsRow w0.heap.size 62 3 v8 spans.length (spans.flatMap spanCells)
  sok : ∀ x ∈ spans, SpanOk x
  kb : KB (fun g => g = ob) w0 wr
theorem RInv.keep {w0 : World} {ob n : Nat} {v8 : Value} {out : List GAddr} {spans : List GSpan} {wr w' : World} (h : RInv w0 ob n v8 out spans wr) (hb : Below wr.heap.size wr w') : RInv w0 ob n v8 out spans w' :=
  ⟨own_congr h.row fun g hg => hb.block g (h.row.lt g hg).2, h.olen, h.ook, own_congr h.srow fun g hg => hb.block g (h.srow.lt g hg).2, h.sok, h.kb.trans (KB.of_below hb)⟩
theorem RInv.set {w0 : World} {ob n : Nat} {v8 : Value} {out : List GAddr} {spans : List GSpan} {wr : World} (h : RInv w0 ob n v8 out spans wr) (ho : ob < w0.heap.size) {i : Nat} (hi : i < n) (x : GAddr) (hx : AddrOk x) :
    RInv w0 ob n v8 (out.set i x) spans (((wr.setCell ⟨ob, i * 3, none⟩ (.int .i64 x.obj)).setCell ⟨ob, i * 3 + 1, none⟩ (.int .i64 x.sym)).setCell ⟨ob, i * 3 + 2, none⟩ (.int .u32 x.at_)) := by
  have hset : ∀ g, g ≠ ob → (((wr.setCell ⟨ob, i * 3, none⟩ (.int .i64 x.obj)).setCell ⟨ob, i * 3 + 1, none⟩ (.int .i64 x.sym)).setCell ⟨ob, i * 3 + 2, none⟩ (.int .u32 x.at_)).heap[g]? = wr.heap[g]? := fun g hg => by
    rw [Below.heap_setCell _ _ _ _ (by simpa using hg), Below.heap_setCell _ _ _ _ (by simpa using hg), Below.heap_setCell _ _ _ _ (by simpa using hg)]
  refine ⟨?_, by simpa using h.olen, ?_, own_congr h.srow fun g hg => hset g fun e => by have := (h.srow.lt g hg).1; omega, h.sok, ((h.kb.setCell (.inl rfl) _).setCell (.inl rfl) _).setCell (.inl rfl) _⟩
  · rw [← flat_set3 addrCells_len (x := x) rfl out i (by rw [h.olen]; exact hi)]
    exact (((h.row.stored _ _).1.stored _ _).1.stored _ _).1
  · intro y hy
    rcases List.mem_or_eq_of_mem_set hy with hy | rfl
    · exact h.ook y hy
    · exact hx
/-- the last span is written anew -/
theorem RInv.last {w0 : World} {ob n g m cap : Nat} {out : List GAddr} {ss : List GSpan} {y : GSpan} {wr : World} (h : RInv w0 ob n (.slice (some ⟨g, 0, none⟩) (m + 1) cap) out (ss ++ [y]) wr) (ho : ob < w0.heap.size) (hm : ss.length = m) (x : GSpan) (hx : SpanOk x) :
    RInv w0 ob n (.slice (some ⟨g, 0, none⟩) (m + 1) cap) out (ss ++ [x]) (((wr.setCell ⟨g, m * 3, none⟩ (.int .u8 x.kind)).setCell ⟨g, m * 3 + 1, none⟩ (.int .u32 x.at_)).setCell ⟨g, m * 3 + 2, none⟩ (.int .u32 x.size)) := by
  have hg0 := (h.srow.lt g rfl).1
  have hset : ∀ b, b ≠ g → (((wr.setCell ⟨g, m * 3, none⟩ (.int .u8 x.kind)).setCell ⟨g, m * 3 + 1, none⟩ (.int .u32 x.at_)).setCell ⟨g, m * 3 + 2, none⟩ (.int .u32 x.size)).heap[b]? = wr.heap[b]? := fun b hb => by
    rw [Below.heap_setCell _ _ _ _ (by simpa using hb), Below.heap_setCell _ _ _ _ (by simpa using hb), Below.heap_setCell _ _ _ _ (by simpa using hb)]
  refine ⟨own_congr h.row fun b hb => hset b fun e => by cases hb; simp only [] at e; omega, h.olen, h.ook, ?_, ?_, ((h.kb.setCell (.inr hg0) _).setCell (.inr hg0) _).setCell (.inr hg0) _⟩
  · have e1 : ss ++ [x] = (ss ++ [y]).set m x := by subst hm; simp
    have hl : (ss ++ [x]).length = m + 1 := by simp [hm]
    have hs := h.srow
    rw [show (ss ++ [y]).length = m + 1 by simp [hm]] at hs
    rw [hl, e1, ← flat_set3 spanCells_len (x := x) rfl (ss ++ [y]) m (by subst hm; simp)]
    exact (((hs.stored _ _).1.stored _ _).1.stored _ _).1
  · intro z hz
    rcases List.mem_append.1 hz with hz | hz
    · exact h.sok z (List.mem_append_left _ hz)
    · obtain rfl : z = x := by simpa using hz
      exact hx
/-- where the reference stands within a kind -/
def InSp (kd pg : Int) (spans0 : List GSpan) (nn : Nat) (a e : Int) (sp : List GSpan) : Prop :=
  (nn = 0 ∧ sp = spans0 ∧ upTo a 256 = pg ∧ e = pg) ∨ (0 < nn ∧ sp = spans0 ++ [⟨kd, pg, a - pg⟩] ∧ e = a ∧ pg < a)
theorem upTo_idem (e : Int) : upTo (upTo e 256) 256 = upTo e 256 := by unfold upTo; omega
/-- the kinds, as a slice whose element j is kd -/
def KindsPost (j : Nat) (kd : Int) (w : World) (e : Ending) (w' : World) : Prop := ∃ g, e = .returned (.slice (some ⟨g, 0, none⟩) 3 3) ∧ w'.cell? ⟨g, j, none⟩ = some (.int .u8 kd) ∧ w.heap.size ≤ g ∧ g < w'.heap.size ∧ Below w.heap.size w w'
theorem kinds_at (j : Nat) (kd : Int) (w : World) (hj : j < 3) (h : ([1, 3, 2] : List Int).drop j = kd :: ([1, 3, 2] : List Int).drop (j + 1)) : Calls Tryd.prog 27 #[] w (KindsPost j kd w) :=
  (kinds_any w).mono fun e w' ⟨he, hw⟩ => by
    subst hw
    refine ⟨_, he, ?_, Nat.le_refl _, by simp, alloc_old w _⟩
    have h3 : j = 0 ∨ j = 1 ∨ j = 2 := by omega
    rcases h3 with rfl | rfl | rfl <;> (simp at h; subst h; simp [go_sem])
theorem RInv.shape {w0 : World} {ob n : Nat} {v8 : Value} {out : List GAddr} {ss : List GSpan} {y : GSpan} {wr : World} (h : RInv w0 ob n v8 out (ss ++ [y]) wr) : ∃ g cap, v8 = .slice (some ⟨g, 0, none⟩) (ss.length + 1) cap ∧ w0.heap.size ≤ g ∧ g < wr.heap.size ∧ ss.length + 1 ≤ cap := by
  have hl : (ss ++ [y]).length = ss.length + 1 := by simp
  have hs := h.srow
  rw [hl] at hs
  rcases hs.2 with ⟨-, h0⟩ | ⟨g, cap, cur, rfl, hb, -, hnc, -⟩
  · omega
  · exact ⟨g, cap, rfl, hb, (h.srow.lt g rfl).2, hnc⟩
/-- the last span's cells -/
theorem RInv.lastCells {w0 : World} {ob n g m cap : Nat} {out : List GAddr} {ss : List GSpan} {y : GSpan} {wr : World} (h : RInv w0 ob n (.slice (some ⟨g, 0, none⟩) (m + 1) cap) out (ss ++ [y]) wr) (hm : ss.length = m) :
    wr.cell? ⟨g, m * 3, none⟩ = some (.int .u8 y.kind) ∧ wr.cell? ⟨g, m * 3 + 1, none⟩ = some (.int .u32 y.at_) ∧ wr.cell? ⟨g, m * 3 + 2, none⟩ = some (.int .u32 y.size) ∧ wr.frozen? ⟨g, m * 3, none⟩ = false ∧ wr.frozen? ⟨g, m * 3 + 1, none⟩ = false ∧ wr.frozen? ⟨g, m * 3 + 2, none⟩ = false := by
  have hs := h.srow
  have hl : (ss ++ [y]).length = m + 1 := by simp [hm]
  rw [hl] at hs
  have hget : ∀ j, j < 3 → wr.cell? ⟨g, m * 3 + j, none⟩ = (spanCells y)[j]? := fun j hj => by
    rw [hs.cellAt _ (by omega), flat_get spanCells_len _ m j (by omega) hj]
    simp [← hm]
  exact ⟨hget 0 (by omega), hget 1 (by omega), hget 2 (by omega), hs.frozenAt _, hs.frozenAt _, hs.frozenAt _⟩
theorem RInv.outCells {w0 : World} {ob n : Nat} {v8 : Value} {out : List GAddr} {spans : List GSpan} {wr : World} (h : RInv w0 ob n v8 out spans wr) {k : Nat} (hk : k < n) :
    ∃ c0 c1 c2, wr.cell? ⟨ob, k * 3, none⟩ = some c0 ∧ wr.cell? ⟨ob, k * 3 + 1, none⟩ = some c1 ∧ wr.cell? ⟨ob, k * 3 + 2, none⟩ = some c2 ∧ wr.frozen? ⟨ob, k * 3, none⟩ = false ∧ wr.frozen? ⟨ob, k * 3 + 1, none⟩ = false ∧ wr.frozen? ⟨ob, k * 3 + 2, none⟩ = false := by
  have hl : (out.flatMap addrCells).length = n * 3 := by rw [flat_len addrCells_len, h.olen]
  exact ⟨_, _, _, (h.row.cellAt _ (by omega)).trans (List.getElem?_eq_getElem (by omega)), (h.row.cellAt _ (by omega)).trans (List.getElem?_eq_getElem (by omega)), (h.row.cellAt _ (by omega)).trans (List.getElem?_eq_getElem (by omega)), h.row.frozenAt _, h.row.frozenAt _, h.row.frozenAt _⟩
theorem cell_set3 {w : World} {ob o1 o2 o3 b o : Nat} {x y z u : Value} (hb : b ≠ ob) (h : w.cell? ⟨b, o, none⟩ = some u) : (((w.setCell ⟨ob, o1, none⟩ x).setCell ⟨ob, o2, none⟩ y).setCell ⟨ob, o3, none⟩ z).cell? ⟨b, o, none⟩ = some u := by
  rw [World.cell?_of_block (w := w) (by rw [Below.heap_setCell _ _ _ _ (by simpa using hb), Below.heap_setCell _ _ _ _ (by simpa using hb), Below.heap_setCell _ _ _ _ (by simpa using hb)])]
  exact h
/-- a span is appended -/
theorem RInv.grow {w0 : World} {ob n : Nat} {v8 v' : Value} {out : List GAddr} {ss : List GSpan} {y : GSpan} {wr w1 w' : World} (h : RInv w0 ob n v8 out ss wr) (ho : ob < w0.heap.size) (hb1 : Below wr.heap.size wr w1) (hown : w'.ownsRow w0.heap.size 62 3 v' (ss.length + 1) (ss.flatMap spanCells ++ spanCells y)) (hg : w1.grownBy w' v8.ownBlock) (hy : SpanOk y) :
    RInv w0 ob n v' out (ss ++ [y]) w' := by
  have hb : ∀ g, g < w0.heap.size → w'.heap[g]? = wr.heap[g]? := fun g hg' => by
    have hz := h.kb.size
    have hz1 := hb1.size
    rw [hg.block g (by omega) (fun e => by have := (h.srow.lt g e.symm).1; omega), hb1.block g (by omega)]
  refine ⟨own_congr h.row fun g hg' => hb g (by cases hg'; exact ho), h.olen, h.ook, ?_, fun x hx => ?_, (h.kb.trans (KB.of_below hb1)).grown hg fun g hg' => .inr (h.srow.lt g hg').1⟩
  · have e1 : (ss ++ [y]).length = ss.length + 1 := by simp
    rw [e1]; simpa using hown
  · rcases List.mem_append.1 hx with hx | hx
    · exact h.sok x hx
    · obtain rfl : x = y := by simpa using hx
      exact hy
end Go.Proofs.YteekdjlpfgkgjaaDoor
