/- Rows of few elements, and what a world keeps. No program in sight. -/
import Derived.Test.YtoonkfhphbojcaaGreatDoorBv03
import Derived.Deep.AppendLies
namespace Go.Proofs.YtoonkfhphbojcaaGreatDoor
open Go.RowKit Go.Maps Go.WideMaps
section
variable {α : Type} {k : Nat} {R : World → Nat → Nat → α → Prop} {w : World} {b o cap : Nat}
theorem rowAt_nil : RowAt k R w (.slice none 0 0) [] := ⟨none, 0, 0, 0, rfl, Nat.le_refl _, by simp, fun h => by simp at h, fun i h => by simp at h⟩
theorem rowAt_one {a : α} (h0 : R w b o a) (hcap : 1 ≤ cap) : RowAt k R w (.slice (some ⟨b, o, none⟩) 1 cap) [a] :=
  ⟨_, cap, b, o, rfl, hcap, by simp, fun _ => rfl, fun i h => by
    have : i = 0 := by simp at h; omega
    subst this; simpa using h0⟩
theorem rowAt_two {a c : α} (h0 : R w b o a) (h1 : R w b (o + k) c) (hcap : 2 ≤ cap) : RowAt k R w (.slice (some ⟨b, o, none⟩) 2 cap) [a, c] :=
  ⟨_, cap, b, o, rfl, hcap, by simp, fun _ => rfl, fun i h => by
    have : i = 0 ∨ i = 1 := by simp at h; omega
    rcases this with rfl | rfl
    · simpa using h0
    · simpa using h1⟩
theorem rowAt_three {a c d : α} (h0 : R w b o a) (h1 : R w b (o + k) c) (h2 : R w b (o + 2 * k) d) (hcap : 3 ≤ cap) : RowAt k R w (.slice (some ⟨b, o, none⟩) 3 cap) [a, c, d] :=
  ⟨_, cap, b, o, rfl, hcap, by simp, fun _ => rfl, fun i h => by
    have : i = 0 ∨ i = 1 ∨ i = 2 := by simp at h; omega
    rcases this with rfl | rfl | rfl
    · simpa using h0
    · simpa using h1
    · simpa using h2⟩
end
/-- a place in a block of its own -/
def PlaceAt (w : World) (g : Nat) (a b : Int) : Prop := g < w.heap.size ∧ w.cell? ⟨g, 0, none⟩ = some (.int .i64 a) ∧ w.cell? ⟨g, 1, none⟩ = some (.int .i64 b)
theorem placeAt_keep {w w' : World} {g : Nat} {a b : Int} (hb : Below w.heap.size w w') (h : PlaceAt w g a b) : PlaceAt w' g a b := ⟨size_keep hb h.1, cell_keep hb h.1 h.2.1, cell_keep hb h.1 h.2.2⟩
theorem ownsRow_below {w w' : World} {base : Nat} {e : TypeId} {size : Nat} {v : Value} {n : Nat} {xs : List Value} (hb : Below w.heap.size w w') (h : w.ownsRow base e size v n xs) : w'.ownsRow base e size v n xs :=
  h.kept (row := none) ⟨hb.os, hb.tape, hb.output, hb.size, fun k hk _ => hb.block k hk⟩ (by cases h' : v.ownBlock <;> simp)
end Go.Proofs.YtoonkfhphbojcaaGreatDoor
