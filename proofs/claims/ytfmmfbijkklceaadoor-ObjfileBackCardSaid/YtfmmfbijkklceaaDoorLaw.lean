/- What joins a law's contract to its card, for every law. -/
import Derived.Test.YtfmmfbijkklceaaDoorOpen
import Derived.Deep.DeepHandedRow
import Derived.Lay
import Derived.LaidMore
import Derived.Stop.Joined
import Derived.Carry
import Derived.Lib.SmallJoins
namespace Go.Proofs.YtfmmfbijkklceaaDoor
open Go.ChangeShapes Go.WideShapes Go.ChangeAt Go.RowKit
open Go.ChangeMaps (open_string)
theorem own : ownKnob Tryd.prog.godebug = none := by kernel_rfl
theorem laidOut : laidOutB Tryd.prog = true := by kernel_rfl
/-- a law's post: it answers true and keeps all that there was -/
theorem law_post {H : Type} {enc : TypeId × Value → H} {f : Func} {s : ChangeSpec} {W W' : World} {args : Array Value} {ds : List (DataW H)} {before : List MemPlace}
    (hres : f.resultTypes.toList = [4]) (hvars : s.vars = []) (hr : (f.params.toList.all fun t => Tryd.prog.readableRec t && decide (t < Tryd.prog.types.size)) = true)
    (hW : DataW.Whole enc Tryd.prog f.params.toList s.vars false W args.toList ds [] before) (hs : s.fn H (ds ++ []) = { results := [.lit (.bool true)], args := ds }) (hb : Below W.heap.size W W') :
    s.post enc Tryd.prog f false true false false W args (.bool true) W' := by
  have hlt : ∀ x ∈ before, x.block < W.heap.size := fun x hx => hW.lt x hx
  have hW0 := hW
  obtain ⟨p, q, hA, hV, rfl, -, -⟩ := hW0
  refine ⟨ds, [], p ++ q, [], p, q, hW, ?_, ?_, ?_, hb.frame _, fun h => by cases h⟩
  · rw [hs, hres]
    have : f.resultTypes.size = 1 := by rw [← Array.length_toList, hres]; rfl
    rw [this]
    exact ⟨[], [], shut_bool Tryd.underlying4 true, rfl, rfl⟩
  · rw [hs]
    exact trodAll_below laidOut hb hr hA (fun x hx => hlt x (List.mem_append.2 (.inl hx)))
  · rw [hs, hvars]
    rw [hvars] at hV
    exact hV
section
variable {H : Type} {enc : TypeId × Value → H} {w : World} {base : Nat} {spare : Nat → Bool} {held : Bool}
set_option maxRecDepth 100000 in
theorem open_symV {r : Reach} {b0 : Nat} {v : Value} {d : DataW H} {p : List MemPlace} (hv : Value.okWide Tryd.prog w r b0 47 v) (h : DataW.Trod enc Tryd.prog w base spare held 47 v d p) (hs : Small Tryd.prog 47 d) :
    ∃ (s : GSym) (vr vn : Value), v = .agg #[.string s.name, .int .u8 s.bind, .int .u8 s.kind, .int .u32 s.size, .string s.bytes, vr, vn] ∧ SymIn w s vr vn ∧ SymBd s := by
  obtain ⟨cs, rfl, hsz⟩ := okWide_struct Tryd.underlying47 hv
  obtain ⟨fuel, hf⟩ := h
  have hC : Tryd.prog.cellsOf 47 = 7 := by kernel_rfl
  have hl : cs.toList.length = 7 := by rw [Array.length_toList]; exact hsz.trans hC
  have hf' : DataW.trod enc Tryd.prog w base spare held fuel 47 cs.toList = some (d, p) := by simpa [Value.cells] using hf
  obtain ⟨s, vr, vn, hcs, hin⟩ := open_symCells cs.toList fuel (d, p) hl hf' hs
  obtain ⟨m, hff⟩ := open_fields Tryd.underlying47 (by kernel_rfl) hf' hs hl
  obtain ⟨v5, y5, e5, t5, s5⟩ := hff 5 _ rfl
  obtain ⟨v6, y6, e6, t6, s6⟩ := hff 6 _ rfl
  rw [hcs] at e5 e6
  cases e5; cases e6
  refine ⟨s, vr, vn, ?_, hin, row_bytes Tryd.underlying44 (by kernel_rfl) t5 s5 hin.1, row_bytes Tryd.underlying45 (by kernel_rfl) t6 s6 hin.2.1⟩
  rw [← Array.toArray_toList (xs := cs), hcs]
end
end Go.Proofs.YtfmmfbijkklceaaDoor
