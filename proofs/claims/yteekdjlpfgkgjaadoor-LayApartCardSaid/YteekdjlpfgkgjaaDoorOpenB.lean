/- Arguments opened, with how many bytes each row has. -/
import Derived.Test.YteekdjlpfgkgjaaDoorOpen
namespace Go.Proofs.YteekdjlpfgkgjaaDoor
open Go.ChangeShapes Go.WideShapes Go.ChangeAt Go.RowKit Go.Deep
def SymBd (s : GSym) : Prop := s.rels.length * 32 ≤ 140737488351232 ∧ s.notes.length * 12 ≤ 140737488351232
def ObjBd (o : GObj) : Prop := o.syms.length * 88 ≤ 140737488351232 ∧ ∀ s ∈ o.syms, SymBd s
def ObjsBd (l : List GObj) : Prop := l.length * 40 ≤ 140737488351232 ∧ ∀ o ∈ l, ObjBd o
theorem RowAt.split {α : Type} {k : Nat} {R : World → Nat → Nat → α → Prop} {B : α → Prop} {w : World} {v : Value} {l : List α} (h : RowAt k (fun w b o y => R w b o y ∧ B y) w v l) : RowAt k R w v l ∧ ∀ y ∈ l, B y := by
  obtain ⟨p, cap, b, o, h1, h2, h3, h4, h5⟩ := h
  refine ⟨⟨p, cap, b, o, h1, h2, h3, h4, fun i hi => (h5 i hi).1⟩, fun y hy => ?_⟩
  obtain ⟨i, hi, rfl⟩ := List.mem_iff_getElem.1 hy
  exact (h5 i hi).2
section
variable {H : Type} {enc : TypeId × Value → H} {w : World} {base : Nat} {spare : Nat → Bool} {held : Bool}
theorem slice_bytes {P : Program} {t e : TypeId} (ht : P.underlying t = some (.slice e)) {p : Option Addr} {n cap fuel : Nat} {x : DataW H × List MemPlace} (h : DataW.trod enc P w base spare held fuel t [.slice p n cap] = some x) (hs : Small P t x.1) : n * P.bytesOf e ≤ 140737488351232 := by
  rcases open_slice ht h with ⟨hcs, rfl⟩ | ⟨a, len, cap', m, n', D, Pl, hcs, hb, hl, hm, hmm, rfl, hi⟩
  · cases hcs; simp
  · cases hcs
    unfold Small at hs
    simp only [DataW.weights, ht, List.all_cons, List.all_append, Bool.and_eq_true, decide_eq_true_eq, List.length_map, List.length_range] at hs
    have h1 : n * P.bytesOf e ≤ (n + (m - n)) * P.bytesOf e := Nat.mul_le_mul_right _ (by omega)
    have h9 : reachBytes = 140737488351232 := rfl
    omega
theorem row_bytes {α : Type} {P : Program} {t e : TypeId} {k by' : Nat} {R : World → Nat → Nat → α → Prop} (ht : P.underlying t = some (.slice e)) (hby : P.bytesOf e = by') {v : Value} {l : List α} {fuel : Nat} {x : DataW H × List MemPlace}
    (h : DataW.trod enc P w base spare held fuel t [v] = some x) (hs : Small P t x.1) (hr : RowAt k R w v l) : l.length * by' ≤ 140737488351232 := by
  obtain ⟨p, cap, b, o, rfl, -⟩ := hr
  rw [← hby]
  exact slice_bytes ht h hs
theorem open_symB (b o : Nat) (cs : List Value) (n : Nat) (d : DataW H × List MemPlace) (hb : b < w.heap.size) (hl : cs.length = 7) (hc : ∀ j, j < 7 → w.cell? ⟨b, o + j, none⟩ = cs[j]?)
    (h : DataW.trod enc Tryd.prog w base spare held n 54 cs = some d) (hs : Small Tryd.prog 54 d.1) : ∃ y, SymR w b o y ∧ SymBd y := by
  obtain ⟨s, vr, vn, rfl, hin⟩ := open_symCells cs n d hl h hs
  obtain ⟨m, hf⟩ := open_fields Tryd.underlying54 (by kernel_rfl) h hs hl
  obtain ⟨v5, y5, e5, t5, s5⟩ := hf 5 _ rfl
  obtain ⟨v6, y6, e6, t6, s6⟩ := hf 6 _ rfl
  cases e5; cases e6
  exact ⟨s, ⟨vr, vn, hb, hc 0 (by omega), hc 1 (by omega), hc 2 (by omega), hc 3 (by omega), hc 4 (by omega), hc 5 (by omega), hc 6 (by omega), hin⟩,
    row_bytes Tryd.underlying51 (by kernel_rfl) t5 s5 hin.1, row_bytes Tryd.underlying52 (by kernel_rfl) t6 s6 hin.2.1⟩
theorem open_objB (b o : Nat) (cs : List Value) (n : Nat) (d : DataW H × List MemPlace) (hb : b < w.heap.size) (hl : cs.length = 2) (hc : ∀ j, j < 2 → w.cell? ⟨b, o + j, none⟩ = cs[j]?)
    (h : DataW.trod enc Tryd.prog w base spare held n 43 cs = some d) (hs : Small Tryd.prog 43 d.1) : ∃ y, ObjR w b o y ∧ ObjBd y := by
  obtain ⟨m, hf⟩ := open_fields Tryd.underlying43 (by kernel_rfl) h hs hl
  obtain ⟨v0, y0, e0, t0, s0⟩ := hf 0 _ rfl
  obtain ⟨v1, y1, e1, t1, s1⟩ := hf 1 _ rfl
  obtain ⟨n0, c0, rfl, w0⟩ := DataW.trod_string Tryd.underlying9 t0
  obtain ⟨u1, l1, c1, r1⟩ := open_row (R := fun w b o y => SymR w b o y ∧ SymBd y) Tryd.underlying41 (by kernel_rfl) (by omega) (of_decide_eq_true (by kernel_rfl)) open_symB t1 s1
  cases c0; cases c1
  obtain ⟨r2, r3⟩ := r1.split
  exact ⟨⟨n0, l1⟩, ⟨v1, hb, (hc 0 (by omega)).trans e0, (hc 1 (by omega)).trans e1, r2, small_bytes s0⟩, row_bytes Tryd.underlying41 (by kernel_rfl) t1 s1 r2, r3⟩
theorem open_objsB {v : Value} {d : DataW H} {p : List MemPlace} (h : DataW.Trod enc Tryd.prog w base spare held 22 v d p) (hsl : ∃ a n c, v = .slice a n c) (hs : Small Tryd.prog 22 d) : ∃ l, ObjsAt w v l ∧ ObjsBd l := by
  obtain ⟨fuel, hf⟩ := h
  obtain ⟨a, n, c, rfl⟩ := hsl
  obtain ⟨v', l, hv, hr⟩ := open_row (x := (d, p)) (R := fun w b o y => ObjR w b o y ∧ ObjBd y) Tryd.underlying22 (by kernel_rfl) (by omega) (of_decide_eq_true (by kernel_rfl)) open_objB hf hs
  have : v' = .slice a n c := by simpa [Value.cells] using hv.symm
  subst this
  obtain ⟨r2, r3⟩ := hr.split
  exact ⟨l, r2, row_bytes (x := (d, p)) Tryd.underlying22 (by kernel_rfl) (by simpa [Value.cells] using hf) hs r2, r3⟩
end
end Go.Proofs.YteekdjlpfgkgjaaDoor
