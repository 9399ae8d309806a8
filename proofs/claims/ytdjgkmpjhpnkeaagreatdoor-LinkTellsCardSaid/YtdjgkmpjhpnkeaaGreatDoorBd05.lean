/- Arguments opened: a reading of objects is a list of objects that the world holds. Arguments opened, with how many bytes each row has. Rows of few elements, and what a world keeps. No program in sight. Rows of places, addresses and spans as a world holds them. resolve.begin, whatever the objects, and the walk of resolve.Check. The walk of lay.may. append onto nothing: a copy. No program in sight. Rows of cells: a row of one's own is a row of elements, and a row of elements has its cells. No program in sight. The rows of places, notes and symbols as rows of cells. No program in sight. Worlds that are kept but for some blocks; rows whose elements are set. No program in sight. The walk of lay.up. -/
import Derived.Test.YtdjgkmpjhpnkeaaGreatDoorRows
import Derived.Test.YtdjgkmpjhpnkeaaGreatDoorBd01
import Derived.Deep.AppendLies
import Derived.Test.YtdjgkmpjhpnkeaaGreatDoorBd02
import Derived.Test.YtdjgkmpjhpnkeaaGreatDoorBd04
import Derived.Laws.AppendOwnNone
import Derived.OwnWalk
import Derived.Deep.QuietTactic
import Derived.Lib.Hide
import Derived.Laws.BitsAllLaws
namespace Go.Proofs.YtdjgkmpjhpnkeaaGreatDoor
open Go.ChangeShapes Go.WideShapes Go.ChangeAt Go.RowKit Go.Deep
section
variable {H : Type} {enc : TypeId × Value → H} {w : World} {base : Nat} {spare : Nat → Bool} {held : Bool}
theorem open_note (b o : Nat) (cs : List Value) (n : Nat) (d : DataW H × List MemPlace) (hb : b < w.heap.size) (hl : cs.length = 3) (hc : ∀ j, j < 3 → w.cell? ⟨b, o + j, none⟩ = cs[j]?)
    (h : DataW.trod enc Tryz.prog w base spare held n 219 cs = some d) (hs : Small Tryz.prog 219 d.1) : ∃ y, NoteR w b o y := by
  obtain ⟨m, hf⟩ := open_fields Tryz.underlying219 (by kernel_rfl) h hs hl
  obtain ⟨v0, y0, e0, t0, _⟩ := hf 0 _ rfl
  obtain ⟨v1, y1, e1, t1, _⟩ := hf 1 _ rfl
  obtain ⟨v2, y2, e2, t2, _⟩ := hf 2 _ rfl
  obtain ⟨n0, c0, -, w0⟩ := DataW.trod_int Tryz.underlying5 t0
  obtain ⟨n1, c1, -, w1⟩ := DataW.trod_int Tryz.underlying27 t1
  obtain ⟨n2, c2, -, w2⟩ := DataW.trod_int Tryz.underlying27 t2
  cases c0; cases c1; cases c2
  exact ⟨⟨n0, n1, n2⟩, hb, (hc 0 (by omega)).trans e0, (hc 1 (by omega)).trans e1, (hc 2 (by omega)).trans e2, bounds_u8 w0, bounds_u32 w1, bounds_u32 w2⟩
theorem open_rel (b o : Nat) (cs : List Value) (n : Nat) (d : DataW H × List MemPlace) (hb : b < w.heap.size) (hl : cs.length = 4) (hc : ∀ j, j < 4 → w.cell? ⟨b, o + j, none⟩ = cs[j]?)
    (h : DataW.trod enc Tryz.prog w base spare held n 211 cs = some d) (hs : Small Tryz.prog 211 d.1) : ∃ y, RelR w b o y := by
  obtain ⟨m, hf⟩ := open_fields Tryz.underlying211 (by kernel_rfl) h hs hl
  obtain ⟨v0, y0, e0, t0, _⟩ := hf 0 _ rfl
  obtain ⟨v1, y1, e1, t1, _⟩ := hf 1 _ rfl
  obtain ⟨v2, y2, e2, t2, s2⟩ := hf 2 _ rfl
  obtain ⟨v3, y3, e3, t3, _⟩ := hf 3 _ rfl
  obtain ⟨n0, c0, -, w0⟩ := DataW.trod_int Tryz.underlying27 t0
  obtain ⟨n1, c1, -, w1⟩ := DataW.trod_int Tryz.underlying5 t1
  obtain ⟨n2, c2, rfl, w2⟩ := DataW.trod_string Tryz.underlying9 t2
  obtain ⟨n3, c3, -, w3⟩ := DataW.trod_int Tryz.underlying27 t3
  cases c0; cases c1; cases c2; cases c3
  exact ⟨⟨n0, n1, n2, n3⟩, hb, (hc 0 (by omega)).trans e0, (hc 1 (by omega)).trans e1, (hc 2 (by omega)).trans e2, (hc 3 (by omega)).trans e3, bounds_u32 w0, bounds_u8 w1, bounds_u32 w3, small_bytes s2⟩
theorem open_rels {fuel : Nat} {cs : List Value} {x : DataW H × List MemPlace} (h : DataW.trod enc Tryz.prog w base spare held fuel 69 cs = some x) (hs : Small Tryz.prog 69 x.1) : ∃ v l, cs = [v] ∧ RowAt 4 RelR w v l :=
  open_row Tryz.underlying69 (by kernel_rfl) (by omega) (of_decide_eq_true (by kernel_rfl)) open_rel h hs
theorem open_notes {fuel : Nat} {cs : List Value} {x : DataW H × List MemPlace} (h : DataW.trod enc Tryz.prog w base spare held fuel 70 cs = some x) (hs : Small Tryz.prog 70 x.1) : ∃ v l, cs = [v] ∧ RowAt 3 NoteR w v l :=
  open_row Tryz.underlying70 (by kernel_rfl) (by omega) (of_decide_eq_true (by kernel_rfl)) open_note h hs
/-- a symbol's cells -/
theorem open_symCells (cs : List Value) (n : Nat) (d : DataW H × List MemPlace) (hl : cs.length = 7)
    (h : DataW.trod enc Tryz.prog w base spare held n 72 cs = some d) (hs : Small Tryz.prog 72 d.1) :
    ∃ (s : GSym) (vr vn : Value), cs = [.string s.name, .int .u8 s.bind, .int .u8 s.kind, .int .u32 s.size, .string s.bytes, vr, vn] ∧ SymIn w s vr vn := by
  obtain ⟨m, hf⟩ := open_fields Tryz.underlying72 (by kernel_rfl) h hs hl
  obtain ⟨v0, y0, e0, t0, s0⟩ := hf 0 _ rfl
  obtain ⟨v1, y1, e1, t1, _⟩ := hf 1 _ rfl
  obtain ⟨v2, y2, e2, t2, _⟩ := hf 2 _ rfl
  obtain ⟨v3, y3, e3, t3, _⟩ := hf 3 _ rfl
  obtain ⟨v4, y4, e4, t4, s4⟩ := hf 4 _ rfl
  obtain ⟨v5, y5, e5, t5, s5⟩ := hf 5 _ rfl
  obtain ⟨v6, y6, e6, t6, s6⟩ := hf 6 _ rfl
  obtain ⟨n0, c0, rfl, w0⟩ := DataW.trod_string Tryz.underlying9 t0
  obtain ⟨n1, c1, -, w1⟩ := DataW.trod_int Tryz.underlying5 t1
  obtain ⟨n2, c2, -, w2⟩ := DataW.trod_int Tryz.underlying5 t2
  obtain ⟨n3, c3, -, w3⟩ := DataW.trod_int Tryz.underlying27 t3
  obtain ⟨n4, c4, rfl, w4⟩ := DataW.trod_string Tryz.underlying9 t4
  obtain ⟨u5, l5, c5, r5⟩ := open_rels t5 s5
  obtain ⟨u6, l6, c6, r6⟩ := open_notes t6 s6
  cases c0; cases c1; cases c2; cases c3; cases c4; cases c5; cases c6
  refine ⟨⟨n0, n1, n2, n3, n4, l5, l6⟩, v5, v6, ?_, r5, r6, bounds_u8 w1, bounds_u8 w2, bounds_u32 w3, small_bytes s0, small_bytes s4⟩
  match cs, hl, e0, e1, e2, e3, e4, e5, e6 with
  | [a0, a1, a2, a3, a4, a5, a6], _, e0, e1, e2, e3, e4, e5, e6 => simp at e0 e1 e2 e3 e4 e5 e6; simp [e0, e1, e2, e3, e4, e5, e6]
theorem open_sym (b o : Nat) (cs : List Value) (n : Nat) (d : DataW H × List MemPlace) (hb : b < w.heap.size) (hl : cs.length = 7) (hc : ∀ j, j < 7 → w.cell? ⟨b, o + j, none⟩ = cs[j]?)
    (h : DataW.trod enc Tryz.prog w base spare held n 72 cs = some d) (hs : Small Tryz.prog 72 d.1) : ∃ y, SymR w b o y := by
  obtain ⟨s, vr, vn, rfl, hin⟩ := open_symCells cs n d hl h hs
  exact ⟨s, vr, vn, hb, hc 0 (by omega), hc 1 (by omega), hc 2 (by omega), hc 3 (by omega), hc 4 (by omega), hc 5 (by omega), hc 6 (by omega), hin⟩
theorem open_syms {fuel : Nat} {cs : List Value} {x : DataW H × List MemPlace} (h : DataW.trod enc Tryz.prog w base spare held fuel 45 cs = some x) (hs : Small Tryz.prog 45 x.1) : ∃ v l, cs = [v] ∧ RowAt 7 SymR w v l :=
  open_row Tryz.underlying45 (by kernel_rfl) (by omega) (of_decide_eq_true (by kernel_rfl)) open_sym h hs
theorem open_obj (b o : Nat) (cs : List Value) (n : Nat) (d : DataW H × List MemPlace) (hb : b < w.heap.size) (hl : cs.length = 2) (hc : ∀ j, j < 2 → w.cell? ⟨b, o + j, none⟩ = cs[j]?)
    (h : DataW.trod enc Tryz.prog w base spare held n 47 cs = some d) (hs : Small Tryz.prog 47 d.1) : ∃ y, ObjR w b o y := by
  obtain ⟨m, hf⟩ := open_fields Tryz.underlying47 (by kernel_rfl) h hs hl
  obtain ⟨v0, y0, e0, t0, s0⟩ := hf 0 _ rfl
  obtain ⟨v1, y1, e1, t1, s1⟩ := hf 1 _ rfl
  obtain ⟨n0, c0, rfl, w0⟩ := DataW.trod_string Tryz.underlying9 t0
  obtain ⟨u1, l1, c1, r1⟩ := open_syms t1 s1
  cases c0; cases c1
  exact ⟨⟨n0, l1⟩, v1, hb, (hc 0 (by omega)).trans e0, (hc 1 (by omega)).trans e1, r1, small_bytes s0⟩
theorem open_objs {v : Value} {d : DataW H} {p : List MemPlace} (h : DataW.Trod enc Tryz.prog w base spare held 23 v d p) (hsl : ∃ a n c, v = .slice a n c) (hs : Small Tryz.prog 23 d) : ∃ l, ObjsAt w v l := by
  obtain ⟨fuel, hf⟩ := h
  obtain ⟨a, n, c, rfl⟩ := hsl
  obtain ⟨v', l, hv, hr⟩ := open_row (x := (d, p)) Tryz.underlying23 (by kernel_rfl) (by omega) (of_decide_eq_true (by kernel_rfl)) open_obj hf hs
  have : v' = .slice a n c := by simpa [Value.cells] using hv.symm
  subst this
  exact ⟨l, hr⟩
end
end Go.Proofs.YtdjgkmpjhpnkeaaGreatDoor
namespace Go.Proofs.YtdjgkmpjhpnkeaaGreatDoor
open Go.ChangeShapes Go.WideShapes Go.ChangeAt Go.RowKit Go.Deep
def SymBd (s : GSym) : Prop := s.rels.length * 32 ≤ 140737488351232 ∧ s.notes.length * 12 ≤ 140737488351232
def ObjBd (o : GObj) : Prop := o.syms.length * 88 ≤ 140737488351232 ∧ ∀ s ∈ o.syms, SymBd s
def ObjsBd (l : List GObj) : Prop := l.length * 40 ≤ 140737488351232 ∧ ∀ o ∈ l, ObjBd o
section
variable {H : Type} {enc : TypeId × Value → H} {w : World} {base : Nat} {spare : Nat → Bool} {held : Bool}
theorem open_symB (b o : Nat) (cs : List Value) (n : Nat) (d : DataW H × List MemPlace) (hb : b < w.heap.size) (hl : cs.length = 7) (hc : ∀ j, j < 7 → w.cell? ⟨b, o + j, none⟩ = cs[j]?)
    (h : DataW.trod enc Tryz.prog w base spare held n 72 cs = some d) (hs : Small Tryz.prog 72 d.1) : ∃ y, SymR w b o y ∧ SymBd y := by
  obtain ⟨s, vr, vn, rfl, hin⟩ := open_symCells cs n d hl h hs
  obtain ⟨m, hf⟩ := open_fields Tryz.underlying72 (by kernel_rfl) h hs hl
  obtain ⟨v5, y5, e5, t5, s5⟩ := hf 5 _ rfl
  obtain ⟨v6, y6, e6, t6, s6⟩ := hf 6 _ rfl
  cases e5; cases e6
  exact ⟨s, ⟨vr, vn, hb, hc 0 (by omega), hc 1 (by omega), hc 2 (by omega), hc 3 (by omega), hc 4 (by omega), hc 5 (by omega), hc 6 (by omega), hin⟩,
    row_bytes Tryz.underlying69 (by kernel_rfl) t5 s5 hin.1, row_bytes Tryz.underlying70 (by kernel_rfl) t6 s6 hin.2.1⟩
theorem open_objB (b o : Nat) (cs : List Value) (n : Nat) (d : DataW H × List MemPlace) (hb : b < w.heap.size) (hl : cs.length = 2) (hc : ∀ j, j < 2 → w.cell? ⟨b, o + j, none⟩ = cs[j]?)
    (h : DataW.trod enc Tryz.prog w base spare held n 47 cs = some d) (hs : Small Tryz.prog 47 d.1) : ∃ y, ObjR w b o y ∧ ObjBd y := by
  obtain ⟨m, hf⟩ := open_fields Tryz.underlying47 (by kernel_rfl) h hs hl
  obtain ⟨v0, y0, e0, t0, s0⟩ := hf 0 _ rfl
  obtain ⟨v1, y1, e1, t1, s1⟩ := hf 1 _ rfl
  obtain ⟨n0, c0, rfl, w0⟩ := DataW.trod_string Tryz.underlying9 t0
  obtain ⟨u1, l1, c1, r1⟩ := open_row (R := fun w b o y => SymR w b o y ∧ SymBd y) Tryz.underlying45 (by kernel_rfl) (by omega) (of_decide_eq_true (by kernel_rfl)) open_symB t1 s1
  cases c0; cases c1
  obtain ⟨r2, r3⟩ := r1.split
  exact ⟨⟨n0, l1⟩, ⟨v1, hb, (hc 0 (by omega)).trans e0, (hc 1 (by omega)).trans e1, r2, small_bytes s0⟩, row_bytes Tryz.underlying45 (by kernel_rfl) t1 s1 r2, r3⟩
theorem open_objsB {v : Value} {d : DataW H} {p : List MemPlace} (h : DataW.Trod enc Tryz.prog w base spare held 23 v d p) (hsl : ∃ a n c, v = .slice a n c) (hs : Small Tryz.prog 23 d) : ∃ l, ObjsAt w v l ∧ ObjsBd l := by
  obtain ⟨fuel, hf⟩ := h
  obtain ⟨a, n, c, rfl⟩ := hsl
  obtain ⟨v', l, hv, hr⟩ := open_row (x := (d, p)) (R := fun w b o y => ObjR w b o y ∧ ObjBd y) Tryz.underlying23 (by kernel_rfl) (by omega) (of_decide_eq_true (by kernel_rfl)) open_objB hf hs
  have : v' = .slice a n c := by simpa [Value.cells] using hv.symm
  subst this
  obtain ⟨r2, r3⟩ := hr.split
  exact ⟨l, r2, row_bytes (x := (d, p)) Tryz.underlying23 (by kernel_rfl) (by simpa [Value.cells] using hf) hs r2, r3⟩
end
end Go.Proofs.YtdjgkmpjhpnkeaaGreatDoor
namespace Go.Proofs.YtdjgkmpjhpnkeaaGreatDoor
open Go.RowKit Go.Maps Go.WideMaps
section
variable {α : Type} {k : Nat} {R : World → Nat → Nat → α → Prop} {w : World} {b o cap : Nat}
theorem rowAt_nil : RowAt k R w (.slice none 0 0) [] := ⟨none, 0, 0, 0, rfl, Nat.le_refl _, by simp, fun h => by simp at h, fun i h => by simp at h⟩
theorem rowAt_one {a : α} (h0 : R w b o a) (hcap : 1 ≤ cap) : RowAt k R w (.slice (some ⟨b, o, none⟩) 1 cap) [a] :=
  ⟨_, cap, b, o, rfl, hcap, by simp, fun _ => rfl, fun i h => by
    have : i = 0 := by simp at h; omega
    subst this; simpa using h0⟩
theorem rowAt_two {a c : α} (h0 : R w b o a) (h1 : R w b (o + k) c) (hcap : 2 ≤ cap) : RowAt k R w (.slice (some ⟨b, o, none⟩) 2 cap) [a, c] :=
  ⟨_, cap, b, o, rfl, hcap, by simp, fun _ => rfl, fun i h => by
    have : i = 0 ∨ i = 1 := by simp at h; omega
    rcases this with rfl | rfl
    · simpa using h0
    · simpa using h1⟩
theorem rowAt_three {a c d : α} (h0 : R w b o a) (h1 : R w b (o + k) c) (h2 : R w b (o + 2 * k) d) (hcap : 3 ≤ cap) : RowAt k R w (.slice (some ⟨b, o, none⟩) 3 cap) [a, c, d] :=
  ⟨_, cap, b, o, rfl, hcap, by simp, fun _ => rfl, fun i h => by
    have : i = 0 ∨ i = 1 ∨ i = 2 := by simp at h; omega
    rcases this with rfl | rfl | rfl
    · simpa using h0
    · simpa using h1
    · simpa using h2⟩
end
/-- a place in a block of its own -/
def PlaceAt (w : World) (g : Nat) (a b : Int) : Prop := g < w.heap.size ∧ w.cell? ⟨g, 0, none⟩ = some (.int .i64 a) ∧ w.cell? ⟨g, 1, none⟩ = some (.int .i64 b)
theorem placeAt_keep {w w' : World} {g : Nat} {a b : Int} (hb : Below w.heap.size w w') (h : PlaceAt w g a b) : PlaceAt w' g a b := ⟨size_keep hb h.1, cell_keep hb h.1 h.2.1, cell_keep hb h.1 h.2.2⟩
theorem ownsRow_below {w w' : World} {base : Nat} {e : TypeId} {size : Nat} {v : Value} {n : Nat} {xs : List Value} (hb : Below w.heap.size w w') (h : w.ownsRow base e size v n xs) : w'.ownsRow base e size v n xs :=
  h.kept (row := none) ⟨hb.os, hb.tape, hb.output, hb.size, fun k hk _ => hb.block k hk⟩ (by cases h' : v.ownBlock <;> simp)
end Go.Proofs.YtdjgkmpjhpnkeaaGreatDoor
namespace Go.Proofs.YtdjgkmpjhpnkeaaGreatDoor
open Go.ChangeShapes Go.WideShapes Go.ChangeAt Go.RowKit Go.Deep
def PlcR (w : World) (b o : Nat) (p : GP) : Prop := b < w.heap.size ∧ w.cell? ⟨b, o, none⟩ = some (.int .i64 p.1) ∧ w.cell? ⟨b, o + 1, none⟩ = some (.int .i64 p.2)
def AddrR (w : World) (b o : Nat) (a : GAddr) : Prop :=
  b < w.heap.size ∧ w.cell? ⟨b, o, none⟩ = some (.int .i64 a.obj) ∧ w.cell? ⟨b, o + 1, none⟩ = some (.int .i64 a.sym) ∧ w.cell? ⟨b, o + 2, none⟩ = some (.int .u32 a.at_) ∧ (0 ≤ a.at_ ∧ a.at_ ≤ 4294967295)
def SpanR (w : World) (b o : Nat) (a : GSpan) : Prop :=
  b < w.heap.size ∧ w.cell? ⟨b, o, none⟩ = some (.int .u8 a.kind) ∧ w.cell? ⟨b, o + 1, none⟩ = some (.int .u32 a.at_) ∧ w.cell? ⟨b, o + 2, none⟩ = some (.int .u32 a.size) ∧ (0 ≤ a.kind ∧ a.kind ≤ 255) ∧ (0 ≤ a.at_ ∧ a.at_ ≤ 4294967295) ∧ (0 ≤ a.size ∧ a.size ≤ 4294967295)
theorem plcR_keeps : Keeps PlcR := fun _ _ _ _ _ hb ⟨h0, h1, h2⟩ => ⟨size_keep hb h0, cell_keep hb h0 h1, cell_keep hb h0 h2⟩
theorem addrR_keeps : Keeps AddrR := fun _ _ _ _ _ hb ⟨h0, h1, h2, h3, r⟩ => ⟨size_keep hb h0, cell_keep hb h0 h1, cell_keep hb h0 h2, cell_keep hb h0 h3, r⟩
theorem spanR_keeps : Keeps SpanR := fun _ _ _ _ _ hb ⟨h0, h1, h2, h3, r⟩ => ⟨size_keep hb h0, cell_keep hb h0 h1, cell_keep hb h0 h2, cell_keep hb h0 h3, r⟩
section
variable {H : Type} {enc : TypeId × Value → H} {w : World} {base : Nat} {spare : Nat → Bool} {held : Bool}
theorem open_plc (b o : Nat) (cs : List Value) (n : Nat) (d : DataW H × List MemPlace) (hb : b < w.heap.size) (hl : cs.length = 2) (hc : ∀ j, j < 2 → w.cell? ⟨b, o + j, none⟩ = cs[j]?)
    (h : DataW.trod enc Tryz.prog w base spare held n 63 cs = some d) (hs : Small Tryz.prog 63 d.1) : ∃ y, PlcR w b o y := by
  obtain ⟨m, hf⟩ := open_fields Tryz.underlying63 (by kernel_rfl) h hs hl
  obtain ⟨v0, y0, e0, t0, _⟩ := hf 0 _ rfl
  obtain ⟨v1, y1, e1, t1, _⟩ := hf 1 _ rfl
  obtain ⟨n0, c0, -, w0⟩ := DataW.trod_int Tryz.underlying3 t0
  obtain ⟨n1, c1, -, w1⟩ := DataW.trod_int Tryz.underlying3 t1
  cases c0; cases c1
  exact ⟨(n0, n1), hb, (hc 0 (by omega)).trans e0, (hc 1 (by omega)).trans e1⟩
theorem open_plcs {v : Value} {d : DataW H} {p : List MemPlace} (h : DataW.Trod enc Tryz.prog w base spare held 22 v d p) (hsl : ∃ a n c, v = .slice a n c) (hs : Small Tryz.prog 22 d) : ∃ l, RowAt 2 PlcR w v l := by
  obtain ⟨fuel, hf⟩ := h
  obtain ⟨a, n, c, rfl⟩ := hsl
  obtain ⟨v', l, hv, hr⟩ := open_row (x := (d, p)) Tryz.underlying22 (by kernel_rfl) (by omega) (of_decide_eq_true (by kernel_rfl)) open_plc hf hs
  have : v' = .slice a n c := by simpa [Value.cells] using hv.symm
  subst this
  exact ⟨l, hr⟩
end
end Go.Proofs.YtdjgkmpjhpnkeaaGreatDoor
namespace Go.Proofs.YtdjgkmpjhpnkeaaGreatDoor
open Go.RowKit Go.Maps Go.WideMaps
/-- begin, whatever the objects: by what it answers -/
def BeginPost (v : Value) (l : List GObj) (w : World) (e : Ending) (w' : World) : Prop :=
  ((∃ c : Int, (beginR l).2 = c ∧ c ≠ 0 ∧ e = .returned (.tuple #[.pointer none, .string (beginR l).1, .int .i64 c])) ∨ ((beginR l).2 = 0 ∧ (beginR l).1 = emptyB ∧ ∃ rb, e = .returned (.tuple #[.pointer (some ⟨rb, 0, none⟩), .string emptyB, .int .i64 0]) ∧ Resolver w' rb v l)) ∧ Below w.heap.size w w'
theorem begin_any (v : Value) (l : List GObj) (w : World) (h : ObjsAt w v l) : Calls Tryz.prog 143 #[v] w (BeginPost v l w) := by
  by_cases hm : mayAll l = true
  · refine (begin_ok v l w h hm).mono fun e w' ⟨h1, h2⟩ => ⟨?_, h2⟩
    rcases h1 with ⟨n, hd, rfl⟩ | ⟨hd, rb, rfl, hr⟩
    · exact .inl ⟨120, by simp [beginR, hm, hd], by decide, by simp [beginR, hm, hd]⟩
    · exact .inr ⟨by simp [beginR, hm, hd], by simp [beginR, hm, hd], rb, rfl, hr⟩
  · have hm' : mayAll l = false := by simpa using hm
    refine (begin_bad v l w h hm').mono fun e w' ⟨h1, h2⟩ => ⟨?_, h2⟩
    subst h1
    exact .inl ⟨2, by simp [beginR, hm'], by decide, by simp [beginR, hm']⟩
set_option maxHeartbeats 1000000 in
theorem resCheck_any (v : Value) (l : List GObj) (w : World) (h : ObjsAt w v l) :
    Calls Tryz.prog 215 #[v] w fun e w' => e = .returned (.tuple #[.string (beginR l).1, .int .i64 (beginR l).2]) ∧ Below w.heap.size w w' := by
  have HBG := Lib.hid (begin_any v l w h); clear h
  go_enter Tryz.func215, Tryz.ntmps215
  go_wp2_with fail
  refine HBG.out.mono ?_
  rintro e w1 ⟨hcase, hB⟩
  rcases hcase with ⟨c, hb2, hc0, rfl⟩ | ⟨hb2, hb1, rb, rfl, hres⟩
  · have HB2 := Lib.hid hb2; clear hb2 hc0
    generalize hbn : (beginR l).1 = bn
    have HBN := Lib.hid hbn; clear hbn
    go_wp2_with fail
    go_ret2
    exact ⟨by rw [HB2.out, HBN.out]; rfl, hB⟩
  · have HB2 := Lib.hid hb2; clear hb2
    have HB1 := Lib.hid hb1; clear hb1 hres
    go_wp2_with fail
    go_ret2
    exact ⟨by rw [HB2.out, HB1.out]; rfl, hB⟩
end Go.Proofs.YtdjgkmpjhpnkeaaGreatDoor
namespace Go.Proofs.YtdjgkmpjhpnkeaaGreatDoor
open Go.RowKit Go.Maps Go.WideMaps
def prevP (ps : List GP) (k : Nat) : Option GP := if k = 0 then none else ps[k - 1]?
theorem mayGo_yes {l : List GObj} {ps : List GP} {k : Nat} {p : GP} {b : Bool} (hk : k < ps.length) (hp : ps[k] = p) (h : mayGo l (prevP ps k) (ps.drop k) = b) (h1 : (symAt l p).isSome = true) (h2 : ∀ q, prevP ps k = some q → ordP q p = true) : mayGo l (prevP ps (k + 1)) (ps.drop (k + 1)) = b := by
  rw [List.drop_eq_getElem_cons hk, hp, mayGo, h1] at h
  have h3 : ordO (prevP ps k) p = true := by
    cases hq : prevP ps k with
    | none => rfl
    | some q => exact h2 q hq
  rw [h3] at h
  simpa [prevP, List.getElem?_eq_getElem hk, hp] using h
theorem mayGo_no {l : List GObj} {ps : List GP} {k : Nat} {p : GP} {b : Bool} (hk : k < ps.length) (hp : ps[k] = p) (h : mayGo l (prevP ps k) (ps.drop k) = b) (h1 : (symAt l p).isSome = false ∨ ∃ q, prevP ps k = some q ∧ ordP q p = false) : false = b := by
  rw [List.drop_eq_getElem_cons hk, hp, mayGo] at h
  rcases h1 with h1 | ⟨q, h1, h2⟩
  · simpa [h1] using h
  · simpa [h1, h2, ordO] using h
set_option maxRecDepth 100000 in
set_option maxHeartbeats 4000000 in
theorem layMay_any (v v2 : Value) (l : List GObj) (ps : List GP) (w : World) (h : ObjsAt w v l) (h2 : RowAt 2 PlcR w v2 ps) :
    Calls Tryz.prog 145 #[v, v2] w fun e w' => e = .returned (.bool (layMay l ps)) ∧ Below w.heap.size w w' := by
  have HO := Lib.hid h
  have HCK := Lib.hid (resCheck_any v l w h)
  obtain ⟨p, cap, b, o, rfl, hcap, hmax, -, -⟩ := h
  obtain ⟨p2, cap2, b2, o2, rfl, hcap2, hmax2, hp2, hc2⟩ := h2
  have HP := Lib.hid hp2; clear hp2
  have HC := Lib.hid hc2; clear hc2
  by_cases hm : mayAll l = true
  case neg =>
    have hm' : mayAll l = false := by simpa using hm
    have hb : beginR l = (emptyB, 2) := by simp [beginR, hm']
    rw [hb] at HCK
    have HF : Hid (layMay l ps = false) := by simp [Hid, layMay, hm']
    clear hm hm' hb
    go_enter Tryz.func145, Tryz.ntmps145
    go_wp2_with (go_at_call 215; refine HCK.out.mono ?_; rintro e w1 ⟨rfl, hB1⟩)
    go_ret
    exact ⟨ret_bool HF.out.symm, hB1⟩
  have hbn : ((beginR l).2 == 2) = false := by
    unfold beginR
    rw [if_pos hm]
    split <;> simp
  have HLM : Hid (layMay l ps = mayGo l none ps) := by simp [Hid, layMay, hm]
  generalize beginR l = br at HCK hbn
  obtain ⟨bn, bc⟩ := br
  simp only [] at HCK hbn
  clear hm
  go_enter Tryz.func145, Tryz.ntmps145
  go_wp2_with (go_at_call 215; refine HCK.out.mono ?_; rintro e w1 ⟨rfl, hB1⟩)
  have HB1 := Lib.hid hB1; clear hB1 HCK
  go_loopw [20] (fun v20 wr => ∃ k : Nat, k ≤ ps.length ∧ v20 = .int .i64 k ∧ mayGo l (prevP ps k) (ps.drop k) = layMay l ps ∧ Below w.heap.size w wr) (fun v20 _ => ps.length - (intOf v20).toNat)
  case atStart => exact ⟨0, Nat.zero_le _, rfl, HLM.out.symm, HB1.out⟩
  case round =>
    obtain ⟨k, hk, rfl, hgo, hbel⟩ := hrel
    have HGO := Lib.hid hgo; clear hgo
    have HB := Lib.hid hbel; clear hbel
    by_cases hlt : k < ps.length
    · obtain rfl := HP.out (by omega)
      obtain ⟨g0, g1, g2⟩ := plcR_keeps _ _ _ _ _ HB.out (HC.out k hlt)
      generalize hx : ps[k] = x at g1 g2
      have HX := Lib.hid hx; clear hx
      have HPR : Hid (∀ (hk1 : 0 < k), ∃ q : GP, prevP ps k = some q ∧ wr.cell? ⟨b2, o2 + (k - 1) * 2, none⟩ = some (.int .i64 q.1) ∧ wr.cell? ⟨b2, o2 + (k - 1) * 2 + 1, none⟩ = some (.int .i64 q.2)) := fun hk1 => by
        obtain ⟨-, e1, e2⟩ := plcR_keeps _ _ _ _ _ HB.out (HC.out (k - 1) (by omega))
        exact ⟨_, by simp [prevP, show ¬ k = 0 by omega, List.getElem?_eq_getElem (show k - 1 < ps.length by omega)], e1, e2⟩
      have HCON := Lib.hid (laySym_any _ l x (wr.alloc (.cells #[.int .i64 x.1, .int .i64 x.2] 63)) (ObjsAt.keep (HB.out.alloc HB.out.size _) HO.out))
      obtain ⟨x1, x2⟩ := x
      simp only [] at g1 g2 HCON
      go_wp2_with fail
      refine HCON.out.mono ?_
      clear HCON
      rintro e w2 ⟨hsp, hB2⟩
      have HB12 : Hid (Below wr.heap.size wr w2) := (alloc_old wr _).trans (hB2.mono (by simp))
      have HB2 : Hid (Below w.heap.size w w2) := (HB.out.alloc HB.out.size _).trans (hB2.mono (by have := HB.out.size; simp; omega))
      have k0 : w2.cell? ⟨wr.heap.size, 0, none⟩ = some (.int .i64 x1) := by rw [hB2.cell (by simp)]; simp [go_sem]
      have k1 : w2.cell? ⟨wr.heap.size, 1, none⟩ = some (.int .i64 x2) := by rw [hB2.cell (by simp)]; simp [go_sem]
      have z2 : wr.heap.size < w2.heap.size := by have := hB2.size; simp at this; omega
      cases hs : symAt l (x1, x2) with
      | none =>
        rw [hs] at hsp
        simp only [] at hsp
        subst hsp
        have HF := Lib.hid (mayGo_no hlt HX.out HGO.out (.inl (by rw [hs]; rfl)))
        clear hB2 hs
        go_wp2
        go_ret
        exact ⟨ret_bool HF.out, HB2.out.alloc HB2.out.size _⟩
      | some s =>
        rw [hs] at hsp
        obtain ⟨vr, vn, rfl, hin⟩ := hsp
        obtain ⟨p1, q1, p3, q3, rfl, rfl⟩ := hin.shape
        have HS1 : Hid ((symAt l (x1, x2)).isSome = true) := by rw [hs]; rfl
        clear hB2 hs hin
        obtain ⟨yn, yb, yk, ys, yy, yr, yt⟩ := s
        simp only [symV]
        go_wp2
        generalize hw3 : w2.alloc (.cells #[.string yn, .int .u8 yb, .int .u8 yk, .int .u32 ys, .string yy, .slice p1 yr.length q1, .slice p3 yt.length q3] 72) = w3
        have HB3 : Hid (Below w2.heap.size w2 w3) := by subst hw3; exact alloc_old _ _
        clear hw3
        replace k0 := cell_keep HB3.out z2 k0
        replace k1 := cell_keep HB3.out z2 k1
        have HBW : Hid (Below w.heap.size w w3) := HB2.out.trans (HB3.out.mono HB2.out.size)
        by_cases hk0 : k = 0
        · subst hk0
          have HST := Lib.hid (mayGo_yes hlt HX.out HGO.out HS1.out (fun q hq => (by simp [prevP] at hq)))
          go_quiet (fail)
          go_wp2
          go_roundw
          case rel => exact ⟨1, by omega, by go_num, HST.out, below_drewN HBW.out _⟩
          case measure => simp [intOf]; omega
        · obtain ⟨q, hq, e1, e2⟩ := HPR.out (by omega)
          have HQ := Lib.hid hq; clear hq
          have HB13 : Hid (Below wr.heap.size wr w3) := HB12.out.trans (HB3.out.mono HB12.out.size)
          replace e1 := cell_keep HB13.out g0 e1
          replace e2 := cell_keep HB13.out g0 e2
          clear HPR HB12 HB13 HB3
          obtain ⟨qa, qb⟩ := q
          simp only [] at e1 e2
          have dk : decide ((0 : Int) < (k : Int)) = true := by simp; omega
          have dk' : decide (0 < k) = true := by simp; omega
          have j1 : IntKind.i64.wrap ((k : Int) - 1) = (k : Int) - 1 := IntWalk.i64_in _ (by omega)
          have j2 : (0 : Int) ≤ (k : Int) - 1 := by omega
          have j3 : ((k : Int) - 1).toNat = k - 1 := by omega
          have j4 : (k : Int) - 1 < (ps.length : Int) := by omega
          by_cases c1 : x1 < qa
          · have d1 : decide (x1 < qa) = true := by simpa using c1
            have HF := Lib.hid (mayGo_no hlt HX.out HGO.out (.inr ⟨_, HQ.out, by simp [ordP, c1]⟩))
            go_quiet (fail)
            clear j1 j2 j3
            go_wp2
            go_ret
            exact ⟨ret_bool HF.out, below_drewN HBW.out _⟩
          · have d1 : decide (x1 < qa) = false := by simpa using c1
            by_cases c2 : x1 = qa
            · subst c2
              by_cases c3 : x2 ≤ qb
              · have d3 : decide (x2 ≤ qb) = true := by simpa using c3
                have HF := Lib.hid (mayGo_no hlt HX.out HGO.out (.inr ⟨_, HQ.out, by simp [ordP, c3]⟩))
                go_quiet (fail)
                clear j1 j2 j3
                go_wp2
                go_ret
                exact ⟨ret_bool HF.out, below_drewN HBW.out _⟩
              · have d3 : decide (x2 ≤ qb) = false := by simpa using c3
                have HST := Lib.hid (mayGo_yes hlt HX.out HGO.out HS1.out (fun q hq => (by rw [HQ.out] at hq; cases hq; simp [ordP]; omega)))
                go_quiet (fail)
                clear j1 j2 j3
                go_wp2
                go_roundw
                case rel => exact ⟨k + 1, by omega, by go_num, HST.out, below_drewN HBW.out _⟩
                case measure => simp [intOf]; omega
            · have d2 : (x1 == qa) = false := by simpa using c2
              have HST := Lib.hid (mayGo_yes hlt HX.out HGO.out HS1.out (fun q hq => (by rw [HQ.out] at hq; cases hq; simp [ordP, c2]; omega)))
              go_quiet (fail)
              clear j1 j2 j3
              go_wp2
              go_roundw
              case rel => exact ⟨k + 1, by omega, by go_num, HST.out, below_drewN HBW.out _⟩
              case measure => simp [intOf]; omega
    · have HF := HGO.out
      rw [List.drop_of_length_le (by omega), mayGo] at HF
      have HF2 := Lib.hid HF; clear HF
      go_wp2
      go_ret
      exact ⟨ret_bool HF2.out, HB.out⟩
end Go.Proofs.YtdjgkmpjhpnkeaaGreatDoor
namespace Go.Proofs.YtdjgkmpjhpnkeaaGreatDoor
open Go.RowKit
theorem run_copy_none {P : Program} {w : World} (t ty e : TypeId) (i : TypeInfo) (ht : P.underlying t = some (.slice e)) (hi : P.info? e = some i) (p : Option Addr) (c : Nat) :
    (Builtin.append_ #[t, t] ty #[.slice none 0 0, .slice p 0 c]).run P w = .ok (.slice none 0 0) w := by
  cases p <;> simp [Builtin.append_, run_underlying ht, sizeOf, typeInfo, hi, Builtin.lenOf, Builtin.firstCells, loadCells, loadCellsFrom]
/-- append(nil, x...) where x is a row: a row of one's own with x's cells -/
theorem wpList_copy {P : Program} {w : World} {ops : Array Oper} {rest : List Oper} {o : Oper} {a : Act} {Q : Exit → Act → World → Prop} (hgd : o.guard = none) (s x : Operand) (t : TypeId)
    (ho : o.op = .call { callee := .builtin .append, args := #[s, x], argTypes := #[t, t] })
    (e : TypeId) (i : TypeInfo) (z : Value) (size bytes : Nat) (ht : P.underlying t = some (.slice e)) (hi : P.info? e = some i) (hz : i.zero = some z)
    (hsize : i.size = size) (hby : i.bytes = bytes) (hzs : z.cells.size = size) (hsz : 0 < size) (hs : a.eval s = .slice none 0 0)
    (p : Option Addr) (m c b off : Nat) (news : List Value) (hx : a.eval x = .slice p m c) (hp : 0 < m → p = some ⟨b, off, none⟩) (hl : news.length = m * size) (hnews : 0 < m → ∀ j u, news[j]? = some u → w.cell? ((⟨b, off, none⟩ : Addr).add j) = some u) (h1 : ∀ u ∈ news, u.oneCell' = true)
    (hm : m ≤ 140737488355328) (hbytes : m * bytes ≤ 140737488355328)
    (h : ∀ v' w', w'.ownsRow w.heap.size e size v' m news → w.grownBy w' none → wpList P ops Q rest (a.put o.dst v') w') : wpList P ops Q (o :: rest) a w := by
  by_cases h0 : m = 0
  · subst h0
    refine wpList_plain hgd fun K hK => ?_
    have hrun := run_copy_none (P := P) (w := w) t o.type e i ht hi p c
    have hn : news = [] := List.eq_nil_of_length_eq_zero (by rw [hl, Nat.zero_mul])
    subst hn
    unfold Oper.wp
    simp [execOp, ho, resolve, invoke, builtin, hs, hx, hrun, Result.andThen]
    exact hK _ _ (h _ _ (World.ownsRow_nil w _ _ _) (World.grownBy.refl w none))
  · obtain rfl := hp (by omega)
    refine wpList_append_own w hgd s x t ho w.heap.size e i z size bytes ht hi hz hsize hby hzs hsz (.slice none 0 0) 0 [] hs (World.ownsRow_nil w _ _ _) _ m c news hx hl (hnews (by omega)) h1 (by unfold maxLen; omega) (by simpa using hbytes) (Nat.le_refl _) ?_
    intro v' w' h2 h3 _
    exact h v' w' (by simpa using h2) h3
end Go.Proofs.YtdjgkmpjhpnkeaaGreatDoor
namespace Go.Proofs.YtdjgkmpjhpnkeaaGreatDoor
open Go.RowKit
theorem add_at (b o i : Nat) : (⟨b, o, none⟩ : Addr).add i = ⟨b, o + i, none⟩ := by
  unfold Addr.add
  by_cases h : i = 0 <;> simp [h]
theorem flat_len {α : Type} {k : Nat} {f : α → List Value} (hk : ∀ x, (f x).length = k) : ∀ l : List α, (l.flatMap f).length = l.length * k
  | [] => by simp
  | x :: r => by
    rw [List.flatMap_cons, List.length_append, flat_len hk r, hk, List.length_cons, Nat.succ_mul]; omega
theorem flat_get {α : Type} {k : Nat} {f : α → List Value} (hk : ∀ x, (f x).length = k) : ∀ (l : List α) (i j : Nat) (hi : i < l.length), j < k → (l.flatMap f)[i * k + j]? = (f l[i])[j]?
  | x :: r, 0, j, _, hj => by
    rw [List.flatMap_cons, Nat.zero_mul, Nat.zero_add, List.getElem?_append_left (by rw [hk]; exact hj)]; rfl
  | x :: r, i + 1, j, hi, hj => by
    have h1 : (i + 1) * k + j = k + (i * k + j) := by rw [Nat.succ_mul]; omega
    rw [List.flatMap_cons, h1, List.getElem?_append_right (by rw [hk]; omega), hk, Nat.add_sub_cancel_left, flat_get hk r i j (by simpa using hi) hj]; rfl
theorem flat_inv {α : Type} {k : Nat} {f : α → List Value} (hk : ∀ x, (f x).length = k) (hk0 : 0 < k) {l : List α} {q : Nat} {u : Value} (h : (l.flatMap f)[q]? = some u) : ∃ (i j : Nat) (hi : i < l.length), j < k ∧ q = i * k + j ∧ (f l[i])[j]? = some u := by
  have hq : q < l.length * k := by
    rw [← flat_len hk l]
    exact (List.getElem?_eq_some_iff.1 h).1
  have hi : q / k < l.length := Nat.div_lt_of_lt_mul (by rw [Nat.mul_comm]; exact hq)
  have hj := Nat.mod_lt q hk0
  have he : q = q / k * k + q % k := by rw [Nat.mul_comm]; exact (Nat.div_add_mod q k).symm
  refine ⟨q / k, q % k, hi, hj, he, ?_⟩
  rw [← flat_get hk l _ _ hi hj, ← he]
  exact h
/-- the cells that a row of elements has -/
theorem row_news {α : Type} {k : Nat} {f : α → List Value} (hk : ∀ x, (f x).length = k) (hk0 : 0 < k) {w : World} {b o : Nat} {l : List α} (h : ∀ i (hi : i < l.length) j u, (f l[i])[j]? = some u → w.cell? ⟨b, o + i * k + j, none⟩ = some u) :
    ∀ j u, (l.flatMap f)[j]? = some u → w.cell? ((⟨b, o, none⟩ : Addr).add j) = some u := by
  intro q u hq
  obtain ⟨i, j, hi, hj, rfl, hu⟩ := flat_inv hk hk0 hq
  rw [add_at, ← Nat.add_assoc]
  exact h i hi j u hu
/-- a row of one's own, as a row of elements -/
theorem owned_row {α : Type} {k base : Nat} {e : TypeId} {f : α → List Value} (hk : ∀ x, (f x).length = k) {w : World} {v : Value} {l : List α} (h : w.ownsRow base e k v l.length (l.flatMap f)) (hl : l.length ≤ 140737488355328)
    {R : World → Nat → Nat → α → Prop} (hR : ∀ g o i (hi : i < l.length), g < w.heap.size → (∀ j u, j < k → (f l[i])[j]? = some u → w.cell? ⟨g, o + j, none⟩ = some u) → R w g o l[i]) : RowAt k R w v l := by
  rcases h.2 with ⟨rfl, h0⟩ | ⟨g, cap, cur, rfl, hb, hg, hnc, hcm, hcs, htk⟩
  · refine ⟨none, 0, 0, 0, by rw [h0], by omega, hl, fun h => by omega, fun i h => by omega⟩
  · have hglt : g < w.heap.size := (Array.getElem?_eq_some_iff.1 hg).1
    refine ⟨_, cap, g, 0, rfl, hnc, hl, fun _ => rfl, fun i hi => hR g _ i hi hglt fun j u hj hu => ?_⟩
    rw [← flat_get hk l i j hi hj] at hu
    have h1 := h.cells (g := g) rfl _ _ hu
    rw [add_at] at h1
    rw [Nat.add_assoc]
    exact h1
end Go.Proofs.YtdjgkmpjhpnkeaaGreatDoor
namespace Go.Proofs.YtdjgkmpjhpnkeaaGreatDoor
open Go.RowKit
def relCells (x : GRel) : List Value := [.int .u32 x.off, .int .u8 x.kind, .string x.name, .int .u32 x.add]
def noteCells (x : GNote) : List Value := [.int .u8 x.kind, .int .u32 x.n, .int .u32 x.m]
theorem relCells_len (x : GRel) : (relCells x).length = 4 := rfl
theorem noteCells_len (x : GNote) : (noteCells x).length = 3 := rfl
theorem relCells_one {l : List GRel} : ∀ u ∈ l.flatMap relCells, u.oneCell' = true := by
  intro u hu
  obtain ⟨x, _, hx⟩ := List.mem_flatMap.1 hu
  simp only [relCells, List.mem_cons, List.not_mem_nil, or_false] at hx
  rcases hx with rfl | rfl | rfl | rfl <;> rfl
theorem noteCells_one {l : List GNote} : ∀ u ∈ l.flatMap noteCells, u.oneCell' = true := by
  intro u hu
  obtain ⟨x, _, hx⟩ := List.mem_flatMap.1 hu
  simp only [noteCells, List.mem_cons, List.not_mem_nil, or_false] at hx
  rcases hx with rfl | rfl | rfl <;> rfl
theorem rel_news {w : World} {b o : Nat} {l : List GRel} (h : ∀ i (hi : i < l.length), RelR w b (o + i * 4) l[i]) : ∀ j u, (l.flatMap relCells)[j]? = some u → w.cell? ((⟨b, o, none⟩ : Addr).add j) = some u := by
  refine row_news relCells_len (by omega) fun i hi j u hu => ?_
  obtain ⟨-, h1, h2, h3, h4, -⟩ := h i hi
  match j, hu with
  | 0, hu => cases hu; exact h1
  | 1, hu => cases hu; exact h2
  | 2, hu => cases hu; exact h3
  | 3, hu => cases hu; exact h4
theorem note_news {w : World} {b o : Nat} {l : List GNote} (h : ∀ i (hi : i < l.length), NoteR w b (o + i * 3) l[i]) : ∀ j u, (l.flatMap noteCells)[j]? = some u → w.cell? ((⟨b, o, none⟩ : Addr).add j) = some u := by
  refine row_news noteCells_len (by omega) fun i hi j u hu => ?_
  obtain ⟨-, h1, h2, h3, -⟩ := h i hi
  match j, hu with
  | 0, hu => cases hu; exact h1
  | 1, hu => cases hu; exact h2
  | 2, hu => cases hu; exact h3
theorem rel_back {w0 w : World} {v0 v : Value} {base : Nat} {e : TypeId} {l : List GRel} (h0 : RowAt 4 RelR w0 v0 l) (h : w.ownsRow base e 4 v l.length (l.flatMap relCells)) : RowAt 4 RelR w v l := by
  obtain ⟨_, _, b, o, -, -, hm, -, hc⟩ := h0
  refine owned_row relCells_len h hm fun g o' i hi hg hcell => ?_
  obtain ⟨-, -, -, -, -, hbd⟩ := hc i hi
  exact ⟨hg, hcell 0 _ (by omega) rfl, hcell 1 _ (by omega) rfl, hcell 2 _ (by omega) rfl, hcell 3 _ (by omega) rfl, hbd⟩
theorem note_back {w0 w : World} {v0 v : Value} {base : Nat} {e : TypeId} {l : List GNote} (h0 : RowAt 3 NoteR w0 v0 l) (h : w.ownsRow base e 3 v l.length (l.flatMap noteCells)) : RowAt 3 NoteR w v l := by
  obtain ⟨_, _, b, o, -, -, hm, -, hc⟩ := h0
  refine owned_row noteCells_len h hm fun g o' i hi hg hcell => ?_
  obtain ⟨-, -, -, -, hbd⟩ := hc i hi
  exact ⟨hg, hcell 0 _ (by omega) rfl, hcell 1 _ (by omega) rfl, hcell 2 _ (by omega) rfl, hbd⟩
/-- a symbol with its two rows -/
abbrev SymT := GSym × Value × Value
def symCells (t : SymT) : List Value := [.string t.1.name, .int .u8 t.1.bind, .int .u8 t.1.kind, .int .u32 t.1.size, .string t.1.bytes, t.2.1, t.2.2]
theorem symCells_len (x : SymT) : (symCells x).length = 7 := rfl
theorem sym_back {w : World} {v : Value} {base : Nat} {e : TypeId} {ts : List SymT} (h : w.ownsRow base e 7 v ts.length (ts.flatMap symCells)) (hl : ts.length ≤ 140737488355328) (hin : ∀ t ∈ ts, SymIn w t.1 t.2.1 t.2.2) : RowAt 7 SymR w v (ts.map (·.1)) := by
  have h1 : RowAt 7 (fun w b o (t : SymT) => SymR w b o t.1) w v ts := owned_row symCells_len h hl fun g o' i hi hg hcell =>
    ⟨ts[i].2.1, ts[i].2.2, hg, hcell 0 _ (by omega) rfl, hcell 1 _ (by omega) rfl, hcell 2 _ (by omega) rfl, hcell 3 _ (by omega) rfl, hcell 4 _ (by omega) rfl, hcell 5 _ (by omega) rfl, hcell 6 _ (by omega) rfl, hin _ (List.getElem_mem hi)⟩
  obtain ⟨p, cap, b, o, rfl, h2, h3, h4, h5⟩ := h1
  exact ⟨p, cap, b, o, by simp, by simpa using h2, by simpa using h3, by simpa using h4, fun i hi => by simpa using h5 i (by simpa using hi)⟩
end Go.Proofs.YtdjgkmpjhpnkeaaGreatDoor
namespace Go.Proofs.YtdjgkmpjhpnkeaaGreatDoor
open Go.RowKit
/-- w' is w but for the blocks of S, and new ones -/
structure KB (S : Nat → Prop) (w w' : World) : Prop where
  os : w'.os = w.os
  tape : w'.tape = w.tape
  output : w'.output = w.output
  size : w.heap.size ≤ w'.heap.size
  block : ∀ k, k < w.heap.size → ¬ S k → w'.heap[k]? = w.heap[k]?
theorem KB.refl (S : Nat → Prop) (w : World) : KB S w w := ⟨rfl, rfl, rfl, Nat.le_refl _, fun _ _ _ => rfl⟩
theorem KB.trans {S : Nat → Prop} {a b c : World} (h : KB S a b) (k : KB S b c) : KB S a c :=
  ⟨k.os.trans h.os, k.tape.trans h.tape, k.output.trans h.output, Nat.le_trans h.size k.size, fun i hi hs => (k.block i (Nat.lt_of_lt_of_le hi h.size) hs).trans (h.block i hi hs)⟩
theorem KB.of_below {S : Nat → Prop} {w w' : World} (h : Below w.heap.size w w') : KB S w w' := ⟨h.os, h.tape, h.output, h.size, fun k hk _ => h.block k hk⟩
theorem KB.of_grown {S : Nat → Prop} {w w' : World} {r : Option Nat} (h : w.grownBy w' r) (hr : ∀ k, r = some k → S k ∨ w.heap.size ≤ k) : KB S w w' :=
  ⟨h.os, h.tape, h.output, h.size, fun k hk hs => h.block k hk fun e => by rcases hr k e.symm with h1 | h1; exact hs h1; omega⟩
/-- a row that was made later may be written -/
theorem KB.grown {S : Nat → Prop} {a w w' : World} {r : Option Nat} (h : KB S a w) (hg : w.grownBy w' r) (hr : ∀ k, r = some k → S k ∨ a.heap.size ≤ k) : KB S a w' :=
  ⟨hg.os.trans h.os, hg.tape.trans h.tape, hg.output.trans h.output, Nat.le_trans h.size hg.size, fun k hk hs => (hg.block k (Nat.lt_of_lt_of_le hk h.size) fun e => by rcases hr k e.symm with h1 | h1; exact hs h1; omega).trans (h.block k hk hs)⟩
theorem KB.setCell {S : Nat → Prop} {a w : World} (h : KB S a w) {p : Addr} (hp : S p.block ∨ a.heap.size ≤ p.block) (u : Value) : KB S a (w.setCell p u) :=
  ⟨h.os, h.tape, h.output, by simpa using h.size, fun k hk hs => (Below.heap_setCell _ _ _ _ (fun e => by rcases hp with h1 | h1; exact hs (e ▸ h1); omega)).trans (h.block k hk hs)⟩
theorem KB.alloc {S : Nat → Prop} {a w : World} (h : KB S a w) (o : Obj) : KB S a (w.alloc o) :=
  ⟨h.os, h.tape, h.output, by have := h.size; simp; omega, fun k hk hs => (Below.heap_alloc _ _ _ (Nat.lt_of_lt_of_le hk h.size)).trans (h.block k hk hs)⟩
theorem KB.drew {S : Nat → Prop} {a w : World} (h : KB S a w) : KB S a w.drew := ⟨h.os, h.tape, h.output, h.size, h.block⟩
theorem KB.drewN {S : Nat → Prop} {a w : World} (h : KB S a w) (n : Nat) : KB S a (w.drewN n) := ⟨h.os, h.tape, h.output, h.size, h.block⟩
theorem KB.below {S : Nat → Prop} {w w' : World} (h : KB S w w') {B : Nat} (hB : B ≤ w.heap.size) (hs : ∀ k, k < B → ¬ S k) : Below B w w' :=
  ⟨h.os, h.tape, h.output, h.size, fun k hk => h.block k (by omega) (hs k hk)⟩
theorem KB.cell {S : Nat → Prop} {w w' : World} (h : KB S w w') {b o : Nat} {v : Value} (hb : b < w.heap.size) (hs : ¬ S b) (hc : w.cell? ⟨b, o, none⟩ = some v) : w'.cell? ⟨b, o, none⟩ = some v := by
  rw [World.cell?_of_block (w := w) (h.block b hb hs)]; exact hc
theorem KB.frozen {S : Nat → Prop} {w w' : World} (h : KB S w w') {b o : Nat} {v : Bool} (hb : b < w.heap.size) (hs : ¬ S b) (hc : w.frozen? ⟨b, o, none⟩ = v) : w'.frozen? ⟨b, o, none⟩ = v := by
  rw [World.frozen?_of_block (w := w) (h.block b hb hs)]; exact hc
theorem own_congr {w w' : World} {base : Nat} {e : TypeId} {k : Nat} {v : Value} {n : Nat} {xs : List Value} (h : w.ownsRow base e k v n xs) (hg : ∀ g, v.ownBlock = some g → w'.heap[g]? = w.heap[g]?) : w'.ownsRow base e k v n xs := by
  refine ⟨h.1, ?_⟩
  rcases h.2 with hn | ⟨g, cap, cur, rfl, hb, h1, rest⟩
  · exact .inl hn
  · exact .inr ⟨g, cap, cur, rfl, hb, by rw [hg g rfl]; exact h1, rest⟩
theorem KB.owns {S : Nat → Prop} {w w' : World} (h : KB S w w') {base : Nat} {e : TypeId} {k : Nat} {v : Value} {n : Nat} {xs : List Value} (ho : w.ownsRow base e k v n xs) (hs : ∀ g, v.ownBlock = some g → ¬ S g) : w'.ownsRow base e k v n xs :=
  own_congr ho fun g hg => h.block g (ho.lt g hg).2 (hs g hg)
/-- one element of three cells is set -/
theorem flat_set3 {α : Type} {f : α → List Value} (hk : ∀ x, (f x).length = 3) {x : α} {a b c : Value} (hx : f x = [a, b, c]) : ∀ (l : List α) (i : Nat), i < l.length → ((((l.flatMap f).set (i * 3) a).set (i * 3 + 1) b).set (i * 3 + 2) c) = (l.set i x).flatMap f
  | y :: r, 0, _ => by
    have h3 := hk y
    match hy : f y, h3 with
    | [y0, y1, y2], _ => simp [hy, hx]
  | y :: r, i + 1, h => by
    have h3 := hk y
    have ih := flat_set3 hk hx r i (by simpa using h)
    match hy : f y, h3 with
    | [y0, y1, y2], _ =>
      rw [List.set_cons_succ, List.flatMap_cons, List.flatMap_cons, hy, ← ih, show (i + 1) * 3 = i * 3 + 1 + 1 + 1 by omega, show i * 3 + 1 + 1 + 1 + 1 = i * 3 + 1 + 1 + 1 + 1 from rfl]
      simp
theorem zero_cells3 (z : Value) (a b c : Value) (hz : z.cells = #[a, b, c]) : ∀ n, (madeCells z.cells (n * 3)).toList = (List.replicate n ()).flatMap fun _ => [a, b, c] := by
  intro n
  apply List.ext_getElem?
  intro q
  rw [hz]
  by_cases hq : q < n * 3
  · have h1 : q / 3 < (List.replicate n ()).length := by simp; omega
    have h2 := flat_get (f := fun _ : Unit => [a, b, c]) (k := 3) (fun _ => rfl) (List.replicate n ()) (q / 3) (q % 3) h1 (by omega)
    rw [show q / 3 * 3 + q % 3 = q by omega] at h2
    rw [h2]
    have h3 : q % 3 = 0 ∨ q % 3 = 1 ∨ q % 3 = 2 := by omega
    rcases h3 with h3 | h3 | h3 <;> simp [madeCells, hq, h3]
  · rw [List.getElem?_eq_none (by simp [size_madeCells]; omega), List.getElem?_eq_none (by rw [flat_len (k := 3) (fun _ => rfl)]; simp; omega)]
end Go.Proofs.YtdjgkmpjhpnkeaaGreatDoor
namespace Go.Proofs.YtdjgkmpjhpnkeaaGreatDoor
open Go.RowKit Go.Maps Go.WideMaps
theorem andNot255 (n : Int) (h0 : 0 ≤ n) (h1 : n ≤ 200000) : bits .andNot .u32 (n + 256 - 1) 255 = upTo n 256 := by
  rw [u32_andNot _ _ (by omega) (by omega) (by omega) (by omega), show (4294967295 - (255 : Int).toNat) = 4294967040 from rfl, mask256 _ (by omega)]
  unfold upTo; omega
theorem andNot7 (n : Int) (h0 : 0 ≤ n) (h1 : n ≤ 200000) : bits .andNot .u32 (n + 8 - 1) 7 = upTo n 8 := by
  rw [u32_andNot _ _ (by omega) (by omega) (by omega) (by omega), show (4294967295 - (7 : Int).toNat) = 4294967288 from rfl, mask8 _ (by omega)]
  unfold upTo; omega
set_option maxHeartbeats 400000 in
theorem up_256 (n : Int) (w : World) (h0 : 0 ≤ n) (h1 : n ≤ 200000) : Calls Tryz.prog 226 #[.int .u32 n, .int .u32 256] w fun e w' => e = .returned (.int .u32 (upTo n 256)) ∧ w = w' := by
  go_enter Tryz.func226, Tryz.ntmps226
  go_wp2
  go_ret
  exact ⟨ret_int (andNot255 n h0 h1), rfl⟩
set_option maxHeartbeats 400000 in
theorem up_8 (n : Int) (w : World) (h0 : 0 ≤ n) (h1 : n ≤ 200000) : Calls Tryz.prog 226 #[.int .u32 n, .int .u32 8] w fun e w' => e = .returned (.int .u32 (upTo n 8)) ∧ w = w' := by
  go_enter Tryz.func226, Tryz.ntmps226
  go_wp2
  go_ret
  exact ⟨ret_int (andNot7 n h0 h1), rfl⟩
end Go.Proofs.YtdjgkmpjhpnkeaaGreatDoor
