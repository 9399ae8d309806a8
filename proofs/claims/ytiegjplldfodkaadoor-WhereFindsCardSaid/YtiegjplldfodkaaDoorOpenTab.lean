/- Arguments opened: a reading of a table is a list of symbols that the world holds. -/
import Derived.Test.YtiegjplldfodkaaDoorRows
import Derived.Test.YtiegjplldfodkaaDoorOpenG
import Derived.Test.YtiegjplldfodkaaDoorTab34
namespace Go.Proofs.YtiegjplldfodkaaDoor
open Go.ChangeShapes Go.WideShapes Go.ChangeAt Go.RowKit Go.Deep
section
variable {H : Type} {enc : TypeId × Value → H} {w : World} {base : Nat} {spare : Nat → Bool} {held : Bool}
theorem open_ts (b o : Nat) (cs : List Value) (n : Nat) (d : DataW H × List MemPlace) (hb : b < w.heap.size) (hl : cs.length = 5) (hc : ∀ j, j < 5 → w.cell? ⟨b, o + j, none⟩ = cs[j]?)
    (h : DataW.trod enc Tryd.prog w base spare held n 43 cs = some d) (hs : Small Tryd.prog 43 d.1) : ∃ y, TsR w b o y := by
  obtain ⟨m, hf⟩ := open_fields Tryd.underlying43 (by kernel_rfl) h hs hl
  obtain ⟨v0, y0, e0, t0, s0⟩ := hf 0 _ rfl
  obtain ⟨v1, y1, e1, t1, s1⟩ := hf 1 _ rfl
  obtain ⟨v2, y2, e2, t2, _⟩ := hf 2 _ rfl
  obtain ⟨v3, y3, e3, t3, _⟩ := hf 3 _ rfl
  obtain ⟨v4, y4, e4, t4, _⟩ := hf 4 _ rfl
  obtain ⟨n0, c0, rfl, w0⟩ := DataW.trod_string Tryd.underlying9 t0
  obtain ⟨n1, c1, rfl, w1⟩ := DataW.trod_string Tryd.underlying9 t1
  obtain ⟨n2, c2, -, w2⟩ := DataW.trod_int Tryd.underlying33 t2
  obtain ⟨n3, c3, -, w3⟩ := DataW.trod_int Tryd.underlying33 t3
  obtain ⟨n4, c4, -, w4⟩ := DataW.trod_int Tryd.underlying5 t4
  cases c0; cases c1; cases c2; cases c3; cases c4
  exact ⟨⟨n0, n1, n2, n3, n4⟩, hb, (hc 0 (by omega)).trans e0, (hc 1 (by omega)).trans e1, (hc 2 (by omega)).trans e2, (hc 3 (by omega)).trans e3, (hc 4 (by omega)).trans e4, bounds_u32 w2, bounds_u32 w3, bounds_u8 w4, small_bytes s0, small_bytes s1⟩
theorem open_tab {v : Value} {d : DataW H} {p : List MemPlace} (h : DataW.Trod enc Tryd.prog w base spare held 22 v d p) (hsl : ∃ a n c, v = .slice a n c) (hs : Small Tryd.prog 22 d) : ∃ l, TabAt w v l := by
  obtain ⟨fuel, hf⟩ := h
  obtain ⟨a, n, c, rfl⟩ := hsl
  obtain ⟨v', l, hv, hr⟩ := open_row (x := (d, p)) Tryd.underlying22 (by kernel_rfl) (by omega) (of_decide_eq_true (by kernel_rfl)) open_ts hf hs
  have : v' = .slice a n c := by simpa [Value.cells] using hv.symm
  subst this
  exact ⟨l, hr⟩
end
end Go.Proofs.YtiegjplldfodkaaDoor
