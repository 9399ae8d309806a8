/- A symbol among a law's arguments. -/
import Derived.Test.YtnhmbflinbfeoaaDoorLawPost
import Derived.Test.YtnhmbflinbfeoaaDoorOpen
namespace Go.Proofs.YtnhmbflinbfeoaaDoor
open Go.ChangeShapes Go.WideShapes Go.ChangeAt Go.RowKit
open Go.ChangeMaps (open_string)
section
variable {H : Type} {enc : TypeId × Value → H} {w : World} {base : Nat} {spare : Nat → Bool} {held : Bool}
set_option maxRecDepth 100000 in
theorem open_symV {r : Reach} {b0 : Nat} {v : Value} {d : DataW H} {p : List MemPlace} (hv : Value.okWide Tryd.prog w r b0 46 v) (h : DataW.Trod enc Tryd.prog w base spare held 46 v d p) (hs : Small Tryd.prog 46 d) :
    ∃ (s : GSym) (vr vn : Value), v = .agg #[.string s.name, .int .u8 s.bind, .int .u8 s.kind, .int .u32 s.size, .string s.bytes, vr, vn] ∧ SymIn w s vr vn ∧ SymBd s := by
  obtain ⟨cs, rfl, hsz⟩ := okWide_struct Tryd.underlying46 hv
  obtain ⟨fuel, hf⟩ := h
  have hC : Tryd.prog.cellsOf 46 = 7 := by kernel_rfl
  have hl : cs.toList.length = 7 := by rw [Array.length_toList]; exact hsz.trans hC
  have hf' : DataW.trod enc Tryd.prog w base spare held fuel 46 cs.toList = some (d, p) := by simpa [Value.cells] using hf
  obtain ⟨s, vr, vn, hcs, hin⟩ := open_symCells cs.toList fuel (d, p) hl hf' hs
  obtain ⟨m, hff⟩ := open_fields Tryd.underlying46 (by kernel_rfl) hf' hs hl
  obtain ⟨v5, y5, e5, t5, s5⟩ := hff 5 _ rfl
  obtain ⟨v6, y6, e6, t6, s6⟩ := hff 6 _ rfl
  rw [hcs] at e5 e6
  cases e5; cases e6
  refine ⟨s, vr, vn, ?_, hin, row_bytes Tryd.underlying43 (by kernel_rfl) t5 s5 hin.1, row_bytes Tryd.underlying44 (by kernel_rfl) t6 s6 hin.2.1⟩
  rw [← Array.toArray_toList (xs := cs), hcs]
end
end Go.Proofs.YtnhmbflinbfeoaaDoor
