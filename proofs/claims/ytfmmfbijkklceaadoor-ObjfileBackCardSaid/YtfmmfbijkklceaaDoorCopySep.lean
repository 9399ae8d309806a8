/- Copied objects: each has blocks of its own. -/
import Derived.Test.YtfmmfbijkklceaaDoorWCopy
namespace Go.Proofs.YtfmmfbijkklceaaDoor
open Go.RowKit Go.Maps Go.WideMaps
theorem owns_congr {w w' : World} {base : Nat} {e : TypeId} {k : Nat} {v : Value} {n : Nat} {xs : List Value} (h : w.ownsRow base e k v n xs) (hg : ∀ g, v.ownBlock = some g → w'.heap[g]? = w.heap[g]?) : w'.ownsRow base e k v n xs := by
  refine ⟨h.1, ?_⟩
  rcases h.2 with hn | ⟨g, cap, cur, rfl, hb, h1, rest⟩
  · exact .inl hn
  · exact .inr ⟨g, cap, cur, rfl, hb, by rw [hg g rfl]; exact h1, rest⟩
/-- a copied object, its row of symbols, and the range of its blocks -/
structure CT where
  o : GObj
  vs : Value
  lo : Nat
  hi : Nat
def InR (lo hi : Nat) (v : Value) : Prop := ∀ g, v.ownBlock = some g → lo ≤ g ∧ g < hi
def ObjSep (w : World) (c : CT) : Prop := ∃ ts : List SymT, ts.map (·.1) = c.o.syms ∧ w.ownsRow c.lo 47 7 c.vs ts.length (ts.flatMap symCells) ∧ (∀ t ∈ ts, SymOwn c.lo w c.vs t ∧ InR c.lo c.hi t.2.1 ∧ InR c.lo c.hi t.2.2) ∧ InR c.lo c.hi c.vs
theorem ObjSep.congr {w w' : World} {c : CT} (h : ObjSep w c) (hk : ∀ g, c.lo ≤ g → g < c.hi → w'.heap[g]? = w.heap[g]?) : ObjSep w' c := by
  obtain ⟨ts, h1, h2, h3, h4⟩ := h
  refine ⟨ts, h1, owns_congr h2 fun g hg => hk g (h4 g hg).1 (h4 g hg).2, fun t ht => ?_, h4⟩
  obtain ⟨⟨s1, s2, s3, s4⟩, i1, i2⟩ := h3 t ht
  exact ⟨⟨owns_congr s1 fun g hg => hk g (i1 g hg).1 (i1 g hg).2, owns_congr s2 fun g hg => hk g (i2 g hg).1 (i2 g hg).2, s3, s4⟩, i1, i2⟩
theorem CopyPost.sep {w w' : World} {x : GObj} {e : Ending} (h : CopyPost w x e w') : ∃ vs, e = .returned (.agg #[.string x.name, vs]) ∧ ObjSep w' ⟨x, vs, w.heap.size, w'.heap.size⟩ ∧ (∃ p c, vs = .slice p x.syms.length c) ∧ Below w.heap.size w w' := by
  obtain ⟨vs, ts, he, h1, h2, h3, h4⟩ := h
  refine ⟨vs, he, ⟨ts, h1, h2, fun t ht => ?_, h2.lt⟩, ?_, h4⟩
  · have := h3 t ht
    exact ⟨this, this.1.lt, this.2.1.lt⟩
  · have := own_shape h2
    rw [← h1, List.length_map]; exact this
theorem ObjSep.objIn {w0 w : World} {c : CT} {v0 : Value} (h0 : ObjIn w0 c.o v0) (h : ObjSep w c) : ObjIn w c.o c.vs := by
  obtain ⟨ts, h1, h2, h3, h4⟩ := h
  obtain ⟨⟨p, cap, b, o, -, -, hm, -, hc⟩, hn⟩ := h0
  refine ⟨?_, hn⟩
  have hl : ts.length = c.o.syms.length := by rw [← h1, List.length_map]
  rw [← h1]
  refine sym_back h2 (by omega) fun t ht => ?_
  obtain ⟨i, hi, rfl⟩ := List.mem_iff_getElem.1 ht
  have hi' : i < c.o.syms.length := by omega
  obtain ⟨vr, vn, -, -, -, -, -, -, -, -, hin⟩ := hc i hi'
  have he : ts[i].1 = c.o.syms[i] := by
    have : (ts.map (·.1))[i]? = c.o.syms[i]? := by rw [h1]
    rw [List.getElem?_map, List.getElem?_eq_getElem hi, List.getElem?_eq_getElem hi'] at this
    exact Option.some.inj this
  obtain ⟨⟨s1, s2, s3, s4⟩, -, -⟩ := h3 _ ht
  rw [← he] at hin
  exact ⟨rel_back hin.1 s1, note_back hin.2.1 s2, hin.2.2⟩
def objCells (c : CT) : List Value := [.string c.o.name, c.vs]
theorem objCells_len (c : CT) : (objCells c).length = 2 := rfl
/-- what CopyAll leaves: a row of its own, each object with blocks of its own, apart from the row and from each other -/
def AllSep (B : Nat) (w : World) (v : Value) (us : List CT) : Prop :=
  w.ownsRow B 24 2 v us.length (us.flatMap objCells) ∧ (∀ u ∈ us, ObjSep w u ∧ B ≤ u.lo ∧ u.lo ≤ u.hi ∧ u.hi ≤ w.heap.size ∧ ∀ g, v.ownBlock = some g → g < u.lo ∨ u.hi ≤ g) ∧ us.Pairwise (fun a b => a.hi ≤ b.lo)
theorem AllSep.objs {B : Nat} {w0 w : World} {v0 v : Value} {l : List GObj} {us : List CT} (h0 : ObjsAt w0 v0 l) (hl : us.map (·.o) = l) (h : AllSep B w v us) : ObjsAt w v l := by
  obtain ⟨h1, h2, -⟩ := h
  obtain ⟨p, cap, b, o, -, -, hm, -, hc⟩ := h0
  have hlen : us.length = l.length := by rw [← hl, List.length_map]
  have h5 : RowAt 2 (fun w b o (u : CT) => ObjR w b o u.o) w v us := owned_row objCells_len h1 (by omega) fun g o' i hi hg hcell => by
    have hi' : i < l.length := by omega
    obtain ⟨vs, -, -, -, hin⟩ := hc i hi'
    have he : us[i].o = l[i] := by
      have : (us.map (·.o))[i]? = l[i]? := by rw [hl]
      rw [List.getElem?_map, List.getElem?_eq_getElem hi, List.getElem?_eq_getElem hi'] at this
      exact Option.some.inj this
    rw [← he] at hin
    exact ⟨us[i].vs, hg, hcell 0 _ (by omega) rfl, hcell 1 _ (by omega) rfl, ObjSep.objIn hin (h2 _ (List.getElem_mem hi)).1⟩
  obtain ⟨p, cap, b, o, rfl, q2, q3, q4, q5⟩ := h5
  subst hl
  exact ⟨p, cap, b, o, by simp, by simpa using q2, by simpa using q3, by simpa using q4, fun i hi => by simpa using q5 i (by simpa using hi)⟩
/-- one object more -/
theorem AllSep.snoc {B : Nat} {w0 w1 w2 : World} {v v' : Value} {us : List CT} {x : GObj} {vs : Value} (h : AllSep B w0 v us) (hb : Below w0.heap.size w0 w1) (hx : ObjSep w1 ⟨x, vs, w0.heap.size, w1.heap.size⟩) (hB : B ≤ w0.heap.size) {ob : Obj}
    (hown : w2.ownsRow B 24 2 v' (us.length + 1) (us.flatMap objCells ++ [.string x.name, vs])) (hg : (w1.alloc ob).grownBy w2 v.ownBlock) (hv : v'.ownBlock = v.ownBlock ∨ v'.ownBlock = some (w1.alloc ob).heap.size) :
    AllSep B w2 v' (us ++ [⟨x, vs, w0.heap.size, w1.heap.size⟩]) := by
  obtain ⟨h1, h2, h3⟩ := h
  have hs1 := hb.size
  have hs2 : w1.heap.size + 1 ≤ w2.heap.size := by have := hg.size; simpa using this
  have hlt := h1.lt
  have hkeep : ∀ g, g < w1.heap.size → v.ownBlock ≠ some g → w2.heap[g]? = w1.heap[g]? := fun g hgl hne => by
    rw [hg.block g (by simp; omega) (fun e => hne e.symm), Below.heap_alloc _ _ _ hgl]
  refine ⟨?_, ?_, ?_⟩
  · simpa [objCells] using hown
  · intro u hu
    rcases List.mem_append.1 hu with hu | hu
    · obtain ⟨q1, q2, q3, q4, q5⟩ := h2 u hu
      refine ⟨(q1.congr (w' := w1) fun g hg1 hg2 => hb.block g (by omega)).congr fun g hg1 hg2 => hkeep g (by omega) fun e => ?_, q2, q3, by omega, fun g hg' => ?_⟩
      · have := q5 g e; omega
      · rcases hv with hv | hv
        · exact q5 g (hv ▸ hg')
        · rw [hv] at hg'; cases hg'; simp; omega
    · obtain rfl : u = _ := by simpa using hu
      refine ⟨hx.congr fun g hg1 hg2 => hkeep g hg2 fun e => ?_, hB, hs1, by simp; omega, fun g hg' => ?_⟩
      · have := hlt g e; simp at hg1; omega
      · rcases hv with hv | hv
        · rw [hv] at hg'; have := hlt g hg'; simp; omega
        · rw [hv] at hg'; cases hg'; simp
  · rw [List.pairwise_append]
    refine ⟨h3, List.pairwise_singleton _ _, fun a ha b hb' => ?_⟩
    obtain rfl : b = _ := by simpa using hb'
    exact (h2 a ha).2.2.2.1
end Go.Proofs.YtfmmfbijkklceaaDoor
