/- What law08.Large reckons, in plain words. No program in sight. -/
import Derived.Test.YteekdjlpfgkgjaaDoorData
namespace Go.Proofs.YteekdjlpfgkgjaaDoor
open Go.RowKit
def sumI {α : Type} (f : α → Int) : List α → Int
  | [] => 0
  | a :: l => f a + sumI f l
theorem sumI_append {α : Type} (f : α → Int) : ∀ a b : List α, sumI f (a ++ b) = sumI f a + sumI f b
  | [], b => by simp [sumI]
  | x :: a, b => by simp [sumI, sumI_append f a b]; omega
theorem sumI_take_succ {α : Type} (f : α → Int) {l : List α} {k : Nat} {x : α} (h : k < l.length) (hx : l[k] = x) : sumI f (l.take (k + 1)) = sumI f (l.take k) + f x := by
  rw [List.take_succ_eq_append_getElem h, sumI_append, hx]; simp [sumI]
def relS (x : GRel) : Int := (x.name.size : Int) / 64
def symS (s : GSym) : Int := (s.rels.length : Int) / 4 + (s.notes.length : Int) / 4 + (s.bytes.size : Int) / 64 + (s.name.size : Int) / 16 + sumI relS (s.rels.take 1100)
def objS (o : GObj) : Int := (o.syms.length : Int) + sumI symS (o.syms.take 200)
def largeSum (l : List GObj) : Int := sumI objS (l.take 40)
def largeB (l : List GObj) : Bool := decide ((20 : Int) < (l.length : Int)) || decide ((2000 : Int) < wrap64 (largeSum l))
theorem take_end {α : Type} {l : List α} {k c : Nat} (hk : k ≤ l.length) (hc : k ≤ c) (h : ¬ (k < l.length ∧ k < c)) : l.take k = l.take c := by
  by_cases h2 : k = c
  · rw [h2]
  · have : k = l.length := by omega
    subst this
    rw [List.take_of_length_le (Nat.le_refl _), List.take_of_length_le (by omega)]
theorem wrap64_add_left (a b : Int) : wrap64 (wrap64 a + b) = wrap64 (a + b) := by
  unfold wrap64; omega
theorem wrap5 (s a b c d : Int) : wrap64 (wrap64 (wrap64 (wrap64 (wrap64 s + a) + b) + c) + d) = wrap64 (s + a + b + c + d) := by
  unfold wrap64; omega
end Go.Proofs.YteekdjlpfgkgjaaDoor
