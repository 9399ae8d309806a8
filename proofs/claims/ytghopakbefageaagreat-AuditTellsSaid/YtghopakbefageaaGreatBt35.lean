/- What audit's flow keeps: a row of addresses, and a map of those that are in. -/
import Derived.Test.YtghopakbefageaaGreatBt33
import Derived.Test.YtghopakbefageaaGreatBt24
import Derived.ScopeJumps
import Derived.WalkMore
import Derived.Deep.Onto
namespace Go.Proofs.YtghopakbefageaaGreat
open Go.RowKit Go.Maps Go.WideMaps
theorem wpList_insertK {P : Program} {α : Type} [DecidableEq α] {k : TypeId} {E : KeyEnc P k α} (w : World) {ops : Array Oper} {rest : List Oper} {o : Oper} {a : Act} {Q : Exit → Act → World → Prop} {b n : Nat} {f : α → Option Value}
    (hg : o.guard = none) (m x v : Operand) (t : TypeId) (hop : o.op = Op.insert t m x v)
    (e : TypeId) (K : Keyed P k) (ht : P.underlying t = some (.map k e))
    (hm : a.eval m = .map (some b)) (hown : MapKFn E w b n f) (hn : n < maxLen) (s : α) (val : Value) (hx : a.eval x = E.enc s) (hv : a.eval v = val) (hs : E.ok s)
    (hK : ∀ w', MapKFn E w' b (n + 1) (fun l => if l = s then some val else f l) → w.grownBy w' (some b) → wpList P ops Q rest (a.put o.dst undef) w') :
    wpList P ops Q (o :: rest) a w := by
  refine wpList_plain hg fun K' hK' => ?_
  obtain ⟨w', hrun, r1, r2⟩ := hown.put K ht hn hs val
  unfold Oper.wp
  simp [execOp, hop, hm, hx, hv, hrun, Result.andThen]
  exact hK' _ _ (hK w' r1 r2)
/-- those that are in -/
def inQ (q : List Int) (a : Int) : Option Value := if a ∈ q then some (.int .i64 1) else none
theorem inQ_put (q : List Int) (b : Int) : (fun a => if a = b then some (.int .i64 1) else inQ q a) = inQ (q ++ [b]) := by
  funext a
  unfold inQ
  by_cases h : a = b
  · subst h; simp
  · simp [h]
theorem inQ_zero : (fun _ : Int => (none : Option Value)) = inQ [] := by funext a; simp [inQ]
structure FlowSt (base mb : Nat) (v : Value) (q : List Int) (w : World) : Prop where
  row : w.ownsRow base 22 1 v q.length (q.map (Value.int .u32))
  map : MapKFn u32E w mb q.length (inQ q)
  mbl : base ≤ mb
theorem FlowSt.keep {base mb : Nat} {v : Value} {q : List Int} {w w' : World} (h : FlowSt base mb v q w) (hb : Below w.heap.size w w') : FlowSt base mb v q w' :=
  ⟨ownsRow_below hb h.row, h.map.below hb h.map.lt, h.mbl⟩
theorem FlowSt.nem {base mb : Nat} {v : Value} {q : List Int} {w : World} (h : FlowSt base mb v q w) : v.ownBlock ≠ some mb := fun e => by
  obtain ⟨D, ⟨es, clock, h1, _⟩, _⟩ := h.map
  obtain ⟨cur, h2⟩ := own_type h.row e
  rw [h1] at h2
  cases h2
theorem zeroI (w : World) : (zeroValue 3).run Tryz.prog w = .ok (.int .i64 0) w := by kernel_rfl
theorem FlowSt.add {base mb : Nat} {v v' : Value} {q : List Int} {w w4 w5 : World} {b : Int} {X : Obj} (h : FlowSt base mb v q w) (hbz : base ≤ w.heap.size)
    (hM : MapKFn u32E w4 mb (q.length + 1) (fun a => if a = b then some (.int .i64 1) else inQ q a)) (hg : w.grownBy w4 (some mb))
    (hown : w5.ownsRow base 22 1 v' (q.length + 1) (q.map (Value.int .u32) ++ [.int .u32 b])) (hg5 : (w4.alloc X).grownBy w5 v.ownBlock) : FlowSt base mb v' (q ++ [b]) w5 ∧ Below base w w5 := by
  rw [inQ_put] at hM
  have hml := hM.lt
  have hz4 := hg.size
  refine ⟨⟨by rw [List.length_append, List.map_append]; exact hown, ?_, h.mbl⟩, ?_⟩
  · rw [List.length_append]
    exact (hM.alloc X).kept (hg5.block mb (by simp; omega) (fun e => h.nem e.symm))
  · have k2 : Below base w w4 := (Below.refl _ _).grown hg hbz (fun k hk => by cases hk; exact h.mbl)
    exact (k2.alloc (by omega) X).grown hg5 (by simp; omega) (fun k hk => (h.row.lt k hk).1)
theorem FlowSt.row4 {base mb : Nat} {v : Value} {q : List Int} {w w4 : World} (h : FlowSt base mb v q w) (hg : w.grownBy w4 (some mb)) : w4.ownsRow base 22 1 v q.length (q.map (Value.int .u32)) :=
  own_congr h.row fun g hgv => hg.block g (h.row.lt g hgv).2 (fun e => by cases e; exact h.nem hgv)
/-- what a round over the addresses behind a line keeps -/
structure Rnd36 (L : List GLn) (e : Int) (w0 : World) (mq n : Nat) (a0 : Int) (vb : Value) (k : Nat) (v : Value) (q : List Int) (w : World) : Prop where
  st : FlowSt w0.heap.size mq v q w
  bf : Bfs L e q n
  pos : n < q.length
  item : q[n]? = some a0
  ins : ∀ i (h : i < (behindL (lineOf L a0)).length), i < k → hasA L (behindL (lineOf L a0))[i] = true → (behindL (lineOf L a0))[i] ∈ q
  row : w.ownsRow w0.heap.size 22 1 vb (behindL (lineOf L a0)).length ((behindL (lineOf L a0)).map (Value.int .u32))
  ne : ∀ g, vb.ownBlock = some g → v.ownBlock ≠ some g
  bl : Below w0.heap.size w0 w
theorem own_ne_mapK' {P : Program} {kt : TypeId} {α : Type} {E : KeyEnc P kt α} {w : World} {B : Nat} {e : TypeId} {k n b m : Nat} {v : Value} {xs : List Value} {f : α → Option Value} (h : w.ownsRow B e k v n xs) (hm : MapKFn E w b m f) : v.ownBlock ≠ some b := fun hg => by
  obtain ⟨D, ⟨es, clock, h1, h2⟩, hf⟩ := hm
  obtain ⟨cur, h2⟩ := own_type h hg
  rw [h1] at h2
  cases h2
section
variable {L : List GLn} {e : Int} {w0 : World} {mq n : Nat} {a0 : Int} {vb v : Value} {k : Nat} {q : List Int} {w : World}
theorem Rnd36.keep (h : Rnd36 L e w0 mq n a0 vb k v q w) {w' : World} (hb : Below w.heap.size w w') : Rnd36 L e w0 mq n a0 vb k v q w' :=
  ⟨h.st.keep hb, h.bf, h.pos, h.item, h.ins, ownsRow_below hb h.row, h.ne, h.bl.trans (hb.mono h.bl.size)⟩
theorem Rnd36.skip (h : Rnd36 L e w0 mq n a0 vb k v q w) (hk : k < (behindL (lineOf L a0)).length) (hi : hasA L (behindL (lineOf L a0))[k] = true → (behindL (lineOf L a0))[k] ∈ q) : Rnd36 L e w0 mq n a0 vb (k + 1) v q w :=
  ⟨h.st, h.bf, h.pos, h.item, fun i hil hik ha => by
    by_cases e' : i = k
    · subst e'; exact hi ha
    · exact h.ins i hil (by omega) ha, h.row, h.ne, h.bl⟩
theorem Rnd36.add (h : Rnd36 L e w0 mq n a0 vb k v q w) {w4 w5 : World} {v' : Value} {b : Int} {X : Obj} (hk : k < (behindL (lineOf L a0)).length) (hb : (behindL (lineOf L a0))[k] = b) (hh : hasA L b = true) (hq : b ∉ q)
    (hM : MapKFn u32E w4 mq (q.length + 1) (fun a => if a = b then some (.int .i64 1) else inQ q a)) (hg : w.grownBy w4 (some mq))
    (hown : w5.ownsRow w0.heap.size 22 1 v' (q.length + 1) (q.map (Value.int .u32) ++ [.int .u32 b])) (hg5 : (w4.alloc X).grownBy w5 v.ownBlock) (hv : v'.ownBlock = v.ownBlock ∨ v'.ownBlock = some (w4.alloc X).heap.size) : Rnd36 L e w0 mq n a0 vb (k + 1) v' (q ++ [b]) w5 := by
  have hbz := h.bl.size
  obtain ⟨h1, h2⟩ := h.st.add hbz hM hg hown hg5
  have hz4 := hg.size
  obtain ⟨hqn, hqe⟩ := List.getElem?_eq_some_iff.1 h.item
  refine ⟨h1, h.bf.add h.pos (b := b) ?_ hh hq, ?_, ?_, ?_, ?_, ?_, h.bl.trans h2⟩
  · rw [hqe, ← hb]; exact List.getElem_mem hk
  · have := h.pos; simp; omega
  · rw [List.getElem?_append_left h.pos]; exact h.item
  · intro i hil hik ha
    by_cases e' : i = k
    · subst e'; rw [hb]; simp
    · exact List.mem_append_left _ (h.ins i hil (by omega) ha)
  · refine own_congr h.row fun g hgv => ?_
    have hl := (h.row.lt g hgv).2
    have hne : g ≠ mq := fun e' => own_ne_mapK' h.row h.st.map (e' ▸ hgv)
    have k1 : w4.heap[g]? = w.heap[g]? := hg.block g hl (by simpa using hne)
    have k2 : w5.heap[g]? = (w4.alloc X).heap[g]? := hg5.block g (by simp; omega) (fun e => h.ne g hgv e.symm)
    have k3 : (w4.alloc X).heap[g]? = w4.heap[g]? := (alloc_old w4 X).block g (by omega)
    rw [k2, k3, k1]
  · intro g hgv
    have hl := (h.row.lt g hgv).2
    rcases hv with hv | hv
    · rw [hv]; exact h.ne g hgv
    · rw [hv]; intro e'; cases e'; simp at hl; omega
theorem Rnd36.done (h : Rnd36 L e w0 mq n a0 vb (behindL (lineOf L a0)).length v q w) : Bfs L e q (n + 1) := by
  obtain ⟨hqn, hqe⟩ := List.getElem?_eq_some_iff.1 h.item
  refine h.bf.next h.pos fun b hb hh => ?_
  rw [hqe] at hb
  obtain ⟨i, hi, rfl⟩ := List.mem_iff_getElem.1 hb
  exact h.ins i hi hi hh
end
end Go.Proofs.YtghopakbefageaaGreat
