/- An object among a law's arguments; one object as a row. -/
import Derived.Test.YtfmmfbijkklceaaDoorLaw
import Derived.Test.YtfmmfbijkklceaaDoorRow0
namespace Go.Proofs.YtfmmfbijkklceaaDoor
open Go.ChangeShapes Go.WideShapes Go.ChangeAt Go.RowKit Go.Deep
section
variable {H : Type} {enc : TypeId × Value → H} {w : World} {base : Nat} {spare : Nat → Bool} {held : Bool}
set_option maxRecDepth 100000 in
theorem open_objV {r : Reach} {b0 : Nat} {v : Value} {d : DataW H} {p : List MemPlace} (hv : Value.okWide Tryd.prog w r b0 24 v) (h : DataW.Trod enc Tryd.prog w base spare held 24 v d p) (hs : Small Tryd.prog 24 d) :
    ∃ (o : GObj) (vs : Value), v = .agg #[.string o.name, vs] ∧ ObjIn w o vs ∧ ObjBd o := by
  obtain ⟨cs, rfl, hsz⟩ := okWide_struct Tryd.underlying24 hv
  obtain ⟨fuel, hf⟩ := h
  have hC : Tryd.prog.cellsOf 24 = 2 := by kernel_rfl
  have hl : cs.toList.length = 2 := by rw [Array.length_toList]; exact hsz.trans hC
  have hf' : DataW.trod enc Tryd.prog w base spare held fuel 24 cs.toList = some (d, p) := by simpa [Value.cells] using hf
  obtain ⟨m, hff⟩ := open_fields Tryd.underlying24 (by kernel_rfl) hf' hs hl
  obtain ⟨v0, y0, e0, t0, s0⟩ := hff 0 _ rfl
  obtain ⟨v1, y1, e1, t1, s1⟩ := hff 1 _ rfl
  obtain ⟨n0, c0, rfl, w0⟩ := DataW.trod_string Tryd.underlying9 t0
  obtain ⟨u1, l1, c1, r1⟩ := open_row (R := fun w b o y => SymR w b o y ∧ SymBd y) Tryd.underlying22 (by kernel_rfl) (by omega) (of_decide_eq_true (by kernel_rfl)) open_symB t1 s1
  cases c0; cases c1
  obtain ⟨r2, r3⟩ := r1.split
  refine ⟨⟨n0, l1⟩, v1, ?_, ⟨r2, small_bytes s0⟩, row_bytes Tryd.underlying22 (by kernel_rfl) t1 s1 r2, r3⟩
  have : cs.toList = [.string n0, v1] := by
    match hcs : cs.toList, hl with
    | [a, b], _ => rw [hcs] at e0 e1; cases e0; cases e1; rfl
  rw [← Array.toArray_toList (xs := cs), this]
end
theorem obj_row {w : World} {o : GObj} {vs : Value} (h : ObjIn w o vs) : ObjsAt (w.alloc (.cells #[.string o.name, vs] 24)) (.slice (some ⟨w.heap.size, 0, none⟩) 1 1) [o] :=
  rowAt_one ⟨vs, by simp, by simp [go_sem], by simp [go_sem], ObjIn.keep (alloc_old w _) h⟩ (Nat.le_refl _)
theorem obj_row2 {w : World} {o : GObj} {vs : Value} (h : ObjIn w o vs) : ObjsAt ((w.alloc (.cells #[.string o.name, vs] 24)).alloc (.cells #[.string o.name, vs] 24)) (.slice (some ⟨w.heap.size + 1, 0, none⟩) 1 1) [o] :=
  rowAt_one ⟨vs, by simp, by simp [go_sem], by simp [go_sem], ObjIn.keep ((alloc_old w _).alloc (by simp) _) h⟩ (Nat.le_refl _)
end Go.Proofs.YtfmmfbijkklceaaDoor
