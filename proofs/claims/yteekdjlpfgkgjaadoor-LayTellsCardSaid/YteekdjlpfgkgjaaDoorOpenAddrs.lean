/- A row of addresses among the arguments; five parameters. -/
import Derived.Test.YteekdjlpfgkgjaaDoorLayData
import Derived.Carry
namespace Go.Proofs.YteekdjlpfgkgjaaDoor
open Go.ChangeShapes Go.WideShapes Go.ChangeAt Go.RowKit Go.Deep
section
variable {H : Type} {enc : TypeId × Value → H} {w : World} {base : Nat} {spare : Nat → Bool} {held : Bool}
theorem len2 {α : Type} {l : List α} (h : l.length = 2) : ∃ a b, l = [a, b] := by
  match l, h with | [a, b], _ => exact ⟨a, b, rfl⟩
theorem len3 {α : Type} {l : List α} (h : l.length = 3) : ∃ a b c, l = [a, b, c] := by
  match l, h with | [a, b, c], _ => exact ⟨a, b, c, rfl⟩
set_option maxRecDepth 100000 in
theorem open_addr (b o : Nat) (cs : List Value) (n : Nat) (d : DataW H × List MemPlace) (hb : b < w.heap.size) (hl : cs.length = 3) (hc : ∀ j, j < 3 → w.cell? ⟨b, o + j, none⟩ = cs[j]?)
    (h : DataW.trod enc Tryd.prog w base spare held n 56 cs = some d) (_ : Small Tryd.prog 56 d.1) : ∃ y, AddrR w b o y := by
  obtain ⟨c0, c1, c2, rfl⟩ := len3 hl
  obtain ⟨xs, m, _, _, _, hxl, hf⟩ := DataW.trod_struct Tryd.underlying56 h
  obtain ⟨x0, x1, rfl⟩ := len2 (show xs.length = 2 from hxl)
  have f0 := hf 0 _ rfl
  have f1 := hf 1 _ rfl
  simp only [List.getElem?_cons_zero, List.getElem?_cons_succ] at f0 f1
  obtain ⟨ys, m', _, _, _, hyl, hg⟩ := DataW.trod_struct Tryd.underlying26 f0
  obtain ⟨y0, y1, rfl⟩ := len2 (show ys.length = 2 from hyl)
  have g0 := hg 0 _ rfl
  have g1 := hg 1 _ rfl
  simp only [List.getElem?_cons_zero, List.getElem?_cons_succ] at g0 g1
  obtain ⟨n0, e0, -, w0⟩ := DataW.trod_int Tryd.underlying3 g0
  obtain ⟨n1, e1, -, w1⟩ := DataW.trod_int Tryd.underlying3 g1
  obtain ⟨n2, e2, -, w2⟩ := DataW.trod_int Tryd.underlying27 f1
  cases e0; cases e1; cases e2
  exact ⟨⟨n0, n1, n2⟩, hb, hc 0 (by omega), hc 1 (by omega), hc 2 (by omega), bounds_u32 w2⟩
theorem open_addrs {v : Value} {d : DataW H} {p : List MemPlace} (h : DataW.Trod enc Tryd.prog w base spare held 24 v d p) (hsl : ∃ a n c, v = .slice a n c) (hs : Small Tryd.prog 24 d) : ∃ l, RowAt 3 AddrR w v l := by
  obtain ⟨fuel, hf⟩ := h
  obtain ⟨a, n, c, rfl⟩ := hsl
  obtain ⟨v', l, hv, hr⟩ := open_row (x := (d, p)) Tryd.underlying24 (by kernel_rfl) (by omega) (of_decide_eq_true (by kernel_rfl)) open_addr hf hs
  have : v' = .slice a n c := by simpa [Value.cells] using hv.symm
  subst this
  exact ⟨l, hr⟩
variable {P : Program}
theorem trodAll_5 {t t' t'' t3 t4 : TypeId} {args : Array Value} {ds : List (DataW H)} {ps : List MemPlace} (h : DataW.TrodAll enc P w base spare held [t, t', t'', t3, t4] args.toList ds ps) :
    ∃ v v' v'' v3 v4 d d' d'' d3 d4 p p' p'' p3 p4, args = #[v, v', v'', v3, v4] ∧ ds = [d, d', d'', d3, d4] ∧ ps = p ++ p' ++ p'' ++ p3 ++ p4 ∧ DataW.Trod enc P w base spare held t v d p ∧ DataW.Trod enc P w base spare held t' v' d' p' ∧ DataW.Trod enc P w base spare held t'' v'' d'' p'' ∧ DataW.Trod enc P w base spare held t3 v3 d3 p3 ∧ DataW.Trod enc P w base spare held t4 v4 d4 p4 := by
  obtain ⟨v, vs, d, ds', p, q, hargs, rfl, rfl, hd, hrest⟩ := trodAll_cons h
  obtain ⟨v', vs', d', ds'', p', q', rfl, rfl, rfl, hd', hrest'⟩ := trodAll_cons hrest
  obtain ⟨v'', vs'', d'', ds''', p'', q'', rfl, rfl, rfl, hd'', hrest''⟩ := trodAll_cons hrest'
  obtain ⟨v3, vs3, d3, ds3, p3, q3, rfl, rfl, rfl, hd3, hrest3⟩ := trodAll_cons hrest''
  obtain ⟨v4, vs4, d4, ds4, p4, q4, rfl, rfl, rfl, hd4, hrest4⟩ := trodAll_cons hrest3
  obtain ⟨rfl, rfl, rfl⟩ := trodAll_nil hrest4
  exact ⟨v, v', v'', v3, v4, d, d', d'', d3, d4, p, p', p'', p3, p4, by cases args; simp_all, rfl, by simp, hd, hd', hd'', hd3, hd4⟩
end
end Go.Proofs.YteekdjlpfgkgjaaDoor
