/- Rows of places, addresses and spans as a world holds them. -/
import Derived.Test.YteekdjlpfgkgjaaDoorOpen
import Derived.Test.YteekdjlpfgkgjaaDoorPlain
import Derived.Test.YteekdjlpfgkgjaaDoorRow0
namespace Go.Proofs.YteekdjlpfgkgjaaDoor
open Go.ChangeShapes Go.WideShapes Go.ChangeAt Go.RowKit Go.Deep
def PlcR (w : World) (b o : Nat) (p : GP) : Prop := b < w.heap.size ∧ w.cell? ⟨b, o, none⟩ = some (.int .i64 p.1) ∧ w.cell? ⟨b, o + 1, none⟩ = some (.int .i64 p.2)
def AddrR (w : World) (b o : Nat) (a : GAddr) : Prop :=
  b < w.heap.size ∧ w.cell? ⟨b, o, none⟩ = some (.int .i64 a.obj) ∧ w.cell? ⟨b, o + 1, none⟩ = some (.int .i64 a.sym) ∧ w.cell? ⟨b, o + 2, none⟩ = some (.int .u32 a.at_) ∧ (0 ≤ a.at_ ∧ a.at_ ≤ 4294967295)
def SpanR (w : World) (b o : Nat) (a : GSpan) : Prop :=
  b < w.heap.size ∧ w.cell? ⟨b, o, none⟩ = some (.int .u8 a.kind) ∧ w.cell? ⟨b, o + 1, none⟩ = some (.int .u32 a.at_) ∧ w.cell? ⟨b, o + 2, none⟩ = some (.int .u32 a.size) ∧ (0 ≤ a.kind ∧ a.kind ≤ 255) ∧ (0 ≤ a.at_ ∧ a.at_ ≤ 4294967295) ∧ (0 ≤ a.size ∧ a.size ≤ 4294967295)
theorem plcR_keeps : Keeps PlcR := fun _ _ _ _ _ hb ⟨h0, h1, h2⟩ => ⟨size_keep hb h0, cell_keep hb h0 h1, cell_keep hb h0 h2⟩
theorem addrR_keeps : Keeps AddrR := fun _ _ _ _ _ hb ⟨h0, h1, h2, h3, r⟩ => ⟨size_keep hb h0, cell_keep hb h0 h1, cell_keep hb h0 h2, cell_keep hb h0 h3, r⟩
theorem spanR_keeps : Keeps SpanR := fun _ _ _ _ _ hb ⟨h0, h1, h2, h3, r⟩ => ⟨size_keep hb h0, cell_keep hb h0 h1, cell_keep hb h0 h2, cell_keep hb h0 h3, r⟩
section
variable {H : Type} {enc : TypeId × Value → H} {w : World} {base : Nat} {spare : Nat → Bool} {held : Bool}
theorem open_plc (b o : Nat) (cs : List Value) (n : Nat) (d : DataW H × List MemPlace) (hb : b < w.heap.size) (hl : cs.length = 2) (hc : ∀ j, j < 2 → w.cell? ⟨b, o + j, none⟩ = cs[j]?)
    (h : DataW.trod enc Tryd.prog w base spare held n 26 cs = some d) (hs : Small Tryd.prog 26 d.1) : ∃ y, PlcR w b o y := by
  obtain ⟨m, hf⟩ := open_fields Tryd.underlying26 (by kernel_rfl) h hs hl
  obtain ⟨v0, y0, e0, t0, _⟩ := hf 0 _ rfl
  obtain ⟨v1, y1, e1, t1, _⟩ := hf 1 _ rfl
  obtain ⟨n0, c0, -, w0⟩ := DataW.trod_int Tryd.underlying3 t0
  obtain ⟨n1, c1, -, w1⟩ := DataW.trod_int Tryd.underlying3 t1
  cases c0; cases c1
  exact ⟨(n0, n1), hb, (hc 0 (by omega)).trans e0, (hc 1 (by omega)).trans e1⟩
theorem open_plcs {v : Value} {d : DataW H} {p : List MemPlace} (h : DataW.Trod enc Tryd.prog w base spare held 23 v d p) (hsl : ∃ a n c, v = .slice a n c) (hs : Small Tryd.prog 23 d) : ∃ l, RowAt 2 PlcR w v l := by
  obtain ⟨fuel, hf⟩ := h
  obtain ⟨a, n, c, rfl⟩ := hsl
  obtain ⟨v', l, hv, hr⟩ := open_row (x := (d, p)) Tryd.underlying23 (by kernel_rfl) (by omega) (of_decide_eq_true (by kernel_rfl)) open_plc hf hs
  have : v' = .slice a n c := by simpa [Value.cells] using hv.symm
  subst this
  exact ⟨l, hr⟩
end
end Go.Proofs.YteekdjlpfgkgjaaDoor
