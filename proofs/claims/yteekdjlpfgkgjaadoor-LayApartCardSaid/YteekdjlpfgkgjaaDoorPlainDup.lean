/- The order of all symbols: no two have one place. No program in sight. -/
import Derived.Test.YteekdjlpfgkgjaaDoorPlainOne
import Derived.Test.YteekdjlpfgkgjaaDoorPlainMay
namespace Go.Proofs.YteekdjlpfgkgjaaDoor
def before (x y : Spot) : Prop := x.obj < y.obj ∨ (x.obj = y.obj ∧ x.sym < y.sym)
theorem symsFrom_sorted (i : Nat) : ∀ (k : Nat) (l : List GSym), (symsFrom i k l).Pairwise before
  | _, [] => List.Pairwise.nil
  | k, s :: r => by
    simp only [symsFrom]
    refine List.Pairwise.cons (fun y hy => ?_) (symsFrom_sorted i (k + 1) r)
    obtain ⟨h1, h2, _⟩ := symsFrom_mem i (k + 1) r y hy
    exact .inr ⟨h1.symm, by simp only; omega⟩
theorem objsFrom_sorted : ∀ (i : Nat) (l : List GObj), (objsFrom i l).Pairwise before
  | _, [] => List.Pairwise.nil
  | i, o :: r => by
    simp only [objsFrom]
    refine List.pairwise_append.2 ⟨symsFrom_sorted i 0 o.syms, objsFrom_sorted (i + 1) r, fun x hx y hy => ?_⟩
    obtain ⟨h1, _⟩ := symsFrom_mem i 0 o.syms x hx
    obtain ⟨h2, _⟩ := objsFrom_mem (i + 1) r y hy
    exact .inl (by omega)
theorem flat_split {l : List GObj} {pre rest : List Spot} {x : Spot} (h : pre ++ (x :: rest) = flat l) {y : Spot} (hy : y ∈ pre) : ¬ (y.obj = x.obj ∧ y.sym = x.sym) := by
  have hs := objsFrom_sorted 0 l
  rw [show objsFrom 0 l = flat l from rfl, ← h] at hs
  have := (List.pairwise_append.1 hs).2.2 y hy x (by simp)
  rintro ⟨h1, h2⟩
  rcases this with h3 | ⟨_, h3⟩ <;> omega
/-- the reference's first of a strong symbol's name: it is that symbol just if there was none ahead of it -/
theorem first_self {l : List GObj} {pre rest : List Spot} {x : Spot} (h : pre ++ (x :: rest) = flat l) (hb : x.it.bind = 1) :
    (firstBy pre x.it.name.data.toList 1 = none ∧ firstBy (flat l) x.it.name.data.toList 1 = some (x.obj, x.sym)) ∨
    (∃ q, firstBy pre x.it.name.data.toList 1 = some q ∧ firstBy (flat l) x.it.name.data.toList 1 = some q ∧ ¬ (q.1 = x.obj ∧ q.2 = x.sym)) := by
  unfold firstBy
  rw [← h, List.find?_append]
  cases hp : pre.find? (hits x.it.name.data.toList 1) with
  | none => exact .inl ⟨rfl, by simp [hits_self hb]⟩
  | some y =>
    refine .inr ⟨_, rfl, rfl, ?_⟩
    exact flat_split h (List.mem_of_find?_eq_some hp)
def mayAllR (l : List GObj) : Bool := l.all mayOk && decide (l.length ≤ 16)
/-- the reference's Check -/
def beginRR (l : List GObj) : ByteArray × Int := if mayAllR l then (match dupGo [] (flat l) with | some n => (n, 120) | none => (emptyB, 0)) else (emptyB, 2)
def findAllR (l : List GObj) (i : Int) (n : List UInt8) : (Nat × Nat) × Int :=
  if (beginRR l).2 ≠ 0 then ((0, 0), (beginRR l).2) else if i < -1 ∨ (l.length : Int) ≤ i then ((0, 0), 2) else match findR l i n with | some p => (p, 0) | none => ((0, 0), 121)
end Go.Proofs.YteekdjlpfgkgjaaDoor
