/- Arguments opened: a reading of objects is a list of objects that the world holds. Arguments opened, with how many bytes each row has. -/
import Derived.Test.YtnhmbflinbfeoaaDoorRows
import Derived.Test.YtnhmbflinbfeoaaDoorOpenG
namespace Go.Proofs.YtnhmbflinbfeoaaDoor
open Go.ChangeShapes Go.WideShapes Go.ChangeAt Go.RowKit Go.Deep
section
variable {H : Type} {enc : TypeId × Value → H} {w : World} {base : Nat} {spare : Nat → Bool} {held : Bool}
theorem open_note (b o : Nat) (cs : List Value) (n : Nat) (d : DataW H × List MemPlace) (hb : b < w.heap.size) (hl : cs.length = 3) (hc : ∀ j, j < 3 → w.cell? ⟨b, o + j, none⟩ = cs[j]?)
    (h : DataW.trod enc Tryd.prog w base spare held n 126 cs = some d) (hs : Small Tryd.prog 126 d.1) : ∃ y, NoteR w b o y := by
  obtain ⟨m, hf⟩ := open_fields Tryd.underlying126 (by kernel_rfl) h hs hl
  obtain ⟨v0, y0, e0, t0, _⟩ := hf 0 _ rfl
  obtain ⟨v1, y1, e1, t1, _⟩ := hf 1 _ rfl
  obtain ⟨v2, y2, e2, t2, _⟩ := hf 2 _ rfl
  obtain ⟨n0, c0, -, w0⟩ := DataW.trod_int Tryd.underlying5 t0
  obtain ⟨n1, c1, -, w1⟩ := DataW.trod_int Tryd.underlying42 t1
  obtain ⟨n2, c2, -, w2⟩ := DataW.trod_int Tryd.underlying42 t2
  cases c0; cases c1; cases c2
  exact ⟨⟨n0, n1, n2⟩, hb, (hc 0 (by omega)).trans e0, (hc 1 (by omega)).trans e1, (hc 2 (by omega)).trans e2, bounds_u8 w0, bounds_u32 w1, bounds_u32 w2⟩
theorem open_rel (b o : Nat) (cs : List Value) (n : Nat) (d : DataW H × List MemPlace) (hb : b < w.heap.size) (hl : cs.length = 4) (hc : ∀ j, j < 4 → w.cell? ⟨b, o + j, none⟩ = cs[j]?)
    (h : DataW.trod enc Tryd.prog w base spare held n 74 cs = some d) (hs : Small Tryd.prog 74 d.1) : ∃ y, RelR w b o y := by
  obtain ⟨m, hf⟩ := open_fields Tryd.underlying74 (by kernel_rfl) h hs hl
  obtain ⟨v0, y0, e0, t0, _⟩ := hf 0 _ rfl
  obtain ⟨v1, y1, e1, t1, _⟩ := hf 1 _ rfl
  obtain ⟨v2, y2, e2, t2, s2⟩ := hf 2 _ rfl
  obtain ⟨v3, y3, e3, t3, _⟩ := hf 3 _ rfl
  obtain ⟨n0, c0, -, w0⟩ := DataW.trod_int Tryd.underlying42 t0
  obtain ⟨n1, c1, -, w1⟩ := DataW.trod_int Tryd.underlying5 t1
  obtain ⟨n2, c2, rfl, w2⟩ := DataW.trod_string Tryd.underlying9 t2
  obtain ⟨n3, c3, -, w3⟩ := DataW.trod_int Tryd.underlying42 t3
  cases c0; cases c1; cases c2; cases c3
  exact ⟨⟨n0, n1, n2, n3⟩, hb, (hc 0 (by omega)).trans e0, (hc 1 (by omega)).trans e1, (hc 2 (by omega)).trans e2, (hc 3 (by omega)).trans e3, bounds_u32 w0, bounds_u8 w1, bounds_u32 w3, small_bytes s2⟩
theorem open_rels {fuel : Nat} {cs : List Value} {x : DataW H × List MemPlace} (h : DataW.trod enc Tryd.prog w base spare held fuel 43 cs = some x) (hs : Small Tryd.prog 43 x.1) : ∃ v l, cs = [v] ∧ RowAt 4 RelR w v l :=
  open_row Tryd.underlying43 (by kernel_rfl) (by omega) (of_decide_eq_true (by kernel_rfl)) open_rel h hs
theorem open_notes {fuel : Nat} {cs : List Value} {x : DataW H × List MemPlace} (h : DataW.trod enc Tryd.prog w base spare held fuel 44 cs = some x) (hs : Small Tryd.prog 44 x.1) : ∃ v l, cs = [v] ∧ RowAt 3 NoteR w v l :=
  open_row Tryd.underlying44 (by kernel_rfl) (by omega) (of_decide_eq_true (by kernel_rfl)) open_note h hs
/-- a symbol's cells -/
theorem open_symCells (cs : List Value) (n : Nat) (d : DataW H × List MemPlace) (hl : cs.length = 7)
    (h : DataW.trod enc Tryd.prog w base spare held n 46 cs = some d) (hs : Small Tryd.prog 46 d.1) :
    ∃ (s : GSym) (vr vn : Value), cs = [.string s.name, .int .u8 s.bind, .int .u8 s.kind, .int .u32 s.size, .string s.bytes, vr, vn] ∧ SymIn w s vr vn := by
  obtain ⟨m, hf⟩ := open_fields Tryd.underlying46 (by kernel_rfl) h hs hl
  obtain ⟨v0, y0, e0, t0, s0⟩ := hf 0 _ rfl
  obtain ⟨v1, y1, e1, t1, _⟩ := hf 1 _ rfl
  obtain ⟨v2, y2, e2, t2, _⟩ := hf 2 _ rfl
  obtain ⟨v3, y3, e3, t3, _⟩ := hf 3 _ rfl
  obtain ⟨v4, y4, e4, t4, s4⟩ := hf 4 _ rfl
  obtain ⟨v5, y5, e5, t5, s5⟩ := hf 5 _ rfl
  obtain ⟨v6, y6, e6, t6, s6⟩ := hf 6 _ rfl
  obtain ⟨n0, c0, rfl, w0⟩ := DataW.trod_string Tryd.underlying9 t0
  obtain ⟨n1, c1, -, w1⟩ := DataW.trod_int Tryd.underlying5 t1
  obtain ⟨n2, c2, -, w2⟩ := DataW.trod_int Tryd.underlying5 t2
  obtain ⟨n3, c3, -, w3⟩ := DataW.trod_int Tryd.underlying42 t3
  obtain ⟨n4, c4, rfl, w4⟩ := DataW.trod_string Tryd.underlying9 t4
  obtain ⟨u5, l5, c5, r5⟩ := open_rels t5 s5
  obtain ⟨u6, l6, c6, r6⟩ := open_notes t6 s6
  cases c0; cases c1; cases c2; cases c3; cases c4; cases c5; cases c6
  refine ⟨⟨n0, n1, n2, n3, n4, l5, l6⟩, v5, v6, ?_, r5, r6, bounds_u8 w1, bounds_u8 w2, bounds_u32 w3, small_bytes s0, small_bytes s4⟩
  match cs, hl, e0, e1, e2, e3, e4, e5, e6 with
  | [a0, a1, a2, a3, a4, a5, a6], _, e0, e1, e2, e3, e4, e5, e6 => simp at e0 e1 e2 e3 e4 e5 e6; simp [e0, e1, e2, e3, e4, e5, e6]
theorem open_sym (b o : Nat) (cs : List Value) (n : Nat) (d : DataW H × List MemPlace) (hb : b < w.heap.size) (hl : cs.length = 7) (hc : ∀ j, j < 7 → w.cell? ⟨b, o + j, none⟩ = cs[j]?)
    (h : DataW.trod enc Tryd.prog w base spare held n 46 cs = some d) (hs : Small Tryd.prog 46 d.1) : ∃ y, SymR w b o y := by
  obtain ⟨s, vr, vn, rfl, hin⟩ := open_symCells cs n d hl h hs
  exact ⟨s, vr, vn, hb, hc 0 (by omega), hc 1 (by omega), hc 2 (by omega), hc 3 (by omega), hc 4 (by omega), hc 5 (by omega), hc 6 (by omega), hin⟩
theorem open_syms {fuel : Nat} {cs : List Value} {x : DataW H × List MemPlace} (h : DataW.trod enc Tryd.prog w base spare held fuel 39 cs = some x) (hs : Small Tryd.prog 39 x.1) : ∃ v l, cs = [v] ∧ RowAt 7 SymR w v l :=
  open_row Tryd.underlying39 (by kernel_rfl) (by omega) (of_decide_eq_true (by kernel_rfl)) open_sym h hs
theorem open_obj (b o : Nat) (cs : List Value) (n : Nat) (d : DataW H × List MemPlace) (hb : b < w.heap.size) (hl : cs.length = 2) (hc : ∀ j, j < 2 → w.cell? ⟨b, o + j, none⟩ = cs[j]?)
    (h : DataW.trod enc Tryd.prog w base spare held n 41 cs = some d) (hs : Small Tryd.prog 41 d.1) : ∃ y, ObjR w b o y := by
  obtain ⟨m, hf⟩ := open_fields Tryd.underlying41 (by kernel_rfl) h hs hl
  obtain ⟨v0, y0, e0, t0, s0⟩ := hf 0 _ rfl
  obtain ⟨v1, y1, e1, t1, s1⟩ := hf 1 _ rfl
  obtain ⟨n0, c0, rfl, w0⟩ := DataW.trod_string Tryd.underlying9 t0
  obtain ⟨u1, l1, c1, r1⟩ := open_syms t1 s1
  cases c0; cases c1
  exact ⟨⟨n0, l1⟩, v1, hb, (hc 0 (by omega)).trans e0, (hc 1 (by omega)).trans e1, r1, small_bytes s0⟩
theorem open_objs {v : Value} {d : DataW H} {p : List MemPlace} (h : DataW.Trod enc Tryd.prog w base spare held 22 v d p) (hsl : ∃ a n c, v = .slice a n c) (hs : Small Tryd.prog 22 d) : ∃ l, ObjsAt w v l := by
  obtain ⟨fuel, hf⟩ := h
  obtain ⟨a, n, c, rfl⟩ := hsl
  obtain ⟨v', l, hv, hr⟩ := open_row (x := (d, p)) Tryd.underlying22 (by kernel_rfl) (by omega) (of_decide_eq_true (by kernel_rfl)) open_obj hf hs
  have : v' = .slice a n c := by simpa [Value.cells] using hv.symm
  subst this
  exact ⟨l, hr⟩
end
end Go.Proofs.YtnhmbflinbfeoaaDoor
namespace Go.Proofs.YtnhmbflinbfeoaaDoor
open Go.ChangeShapes Go.WideShapes Go.ChangeAt Go.RowKit Go.Deep
def SymBd (s : GSym) : Prop := s.rels.length * 32 ≤ 140737488351232 ∧ s.notes.length * 12 ≤ 140737488351232
def ObjBd (o : GObj) : Prop := o.syms.length * 88 ≤ 140737488351232 ∧ ∀ s ∈ o.syms, SymBd s
def ObjsBd (l : List GObj) : Prop := l.length * 40 ≤ 140737488351232 ∧ ∀ o ∈ l, ObjBd o
section
variable {H : Type} {enc : TypeId × Value → H} {w : World} {base : Nat} {spare : Nat → Bool} {held : Bool}
theorem open_symB (b o : Nat) (cs : List Value) (n : Nat) (d : DataW H × List MemPlace) (hb : b < w.heap.size) (hl : cs.length = 7) (hc : ∀ j, j < 7 → w.cell? ⟨b, o + j, none⟩ = cs[j]?)
    (h : DataW.trod enc Tryd.prog w base spare held n 46 cs = some d) (hs : Small Tryd.prog 46 d.1) : ∃ y, SymR w b o y ∧ SymBd y := by
  obtain ⟨s, vr, vn, rfl, hin⟩ := open_symCells cs n d hl h hs
  obtain ⟨m, hf⟩ := open_fields Tryd.underlying46 (by kernel_rfl) h hs hl
  obtain ⟨v5, y5, e5, t5, s5⟩ := hf 5 _ rfl
  obtain ⟨v6, y6, e6, t6, s6⟩ := hf 6 _ rfl
  cases e5; cases e6
  exact ⟨s, ⟨vr, vn, hb, hc 0 (by omega), hc 1 (by omega), hc 2 (by omega), hc 3 (by omega), hc 4 (by omega), hc 5 (by omega), hc 6 (by omega), hin⟩,
    row_bytes Tryd.underlying43 (by kernel_rfl) t5 s5 hin.1, row_bytes Tryd.underlying44 (by kernel_rfl) t6 s6 hin.2.1⟩
theorem open_objB (b o : Nat) (cs : List Value) (n : Nat) (d : DataW H × List MemPlace) (hb : b < w.heap.size) (hl : cs.length = 2) (hc : ∀ j, j < 2 → w.cell? ⟨b, o + j, none⟩ = cs[j]?)
    (h : DataW.trod enc Tryd.prog w base spare held n 41 cs = some d) (hs : Small Tryd.prog 41 d.1) : ∃ y, ObjR w b o y ∧ ObjBd y := by
  obtain ⟨m, hf⟩ := open_fields Tryd.underlying41 (by kernel_rfl) h hs hl
  obtain ⟨v0, y0, e0, t0, s0⟩ := hf 0 _ rfl
  obtain ⟨v1, y1, e1, t1, s1⟩ := hf 1 _ rfl
  obtain ⟨n0, c0, rfl, w0⟩ := DataW.trod_string Tryd.underlying9 t0
  obtain ⟨u1, l1, c1, r1⟩ := open_row (R := fun w b o y => SymR w b o y ∧ SymBd y) Tryd.underlying39 (by kernel_rfl) (by omega) (of_decide_eq_true (by kernel_rfl)) open_symB t1 s1
  cases c0; cases c1
  obtain ⟨r2, r3⟩ := r1.split
  exact ⟨⟨n0, l1⟩, ⟨v1, hb, (hc 0 (by omega)).trans e0, (hc 1 (by omega)).trans e1, r2, small_bytes s0⟩, row_bytes Tryd.underlying39 (by kernel_rfl) t1 s1 r2, r3⟩
theorem open_objsB {v : Value} {d : DataW H} {p : List MemPlace} (h : DataW.Trod enc Tryd.prog w base spare held 22 v d p) (hsl : ∃ a n c, v = .slice a n c) (hs : Small Tryd.prog 22 d) : ∃ l, ObjsAt w v l ∧ ObjsBd l := by
  obtain ⟨fuel, hf⟩ := h
  obtain ⟨a, n, c, rfl⟩ := hsl
  obtain ⟨v', l, hv, hr⟩ := open_row (x := (d, p)) (R := fun w b o y => ObjR w b o y ∧ ObjBd y) Tryd.underlying22 (by kernel_rfl) (by omega) (of_decide_eq_true (by kernel_rfl)) open_objB hf hs
  have : v' = .slice a n c := by simpa [Value.cells] using hv.symm
  subst this
  obtain ⟨r2, r3⟩ := hr.split
  exact ⟨l, r2, row_bytes (x := (d, p)) Tryd.underlying22 (by kernel_rfl) (by simpa [Value.cells] using hf) hs r2, r3⟩
end
end Go.Proofs.YtnhmbflinbfeoaaDoor
