/- Rows of cells: a row of one's own is a row of elements, and a row of elements has its cells. No program in sight. -/
import Derived.Test.YteekdjlpfgkgjaaDoorCopyLaw
namespace Go.Proofs.YteekdjlpfgkgjaaDoor
open Go.RowKit
theorem add_at (b o i : Nat) : (⟨b, o, none⟩ : Addr).add i = ⟨b, o + i, none⟩ := by
  unfold Addr.add
  by_cases h : i = 0 <;> simp [h]
theorem flat_len {α : Type} {k : Nat} {f : α → List Value} (hk : ∀ x, (f x).length = k) : ∀ l : List α, (l.flatMap f).length = l.length * k
  | [] => by simp
  | x :: r => by
    rw [List.flatMap_cons, List.length_append, flat_len hk r, hk, List.length_cons, Nat.succ_mul]; omega
theorem flat_get {α : Type} {k : Nat} {f : α → List Value} (hk : ∀ x, (f x).length = k) : ∀ (l : List α) (i j : Nat) (hi : i < l.length), j < k → (l.flatMap f)[i * k + j]? = (f l[i])[j]?
  | x :: r, 0, j, _, hj => by
    rw [List.flatMap_cons, Nat.zero_mul, Nat.zero_add, List.getElem?_append_left (by rw [hk]; exact hj)]; rfl
  | x :: r, i + 1, j, hi, hj => by
    have h1 : (i + 1) * k + j = k + (i * k + j) := by rw [Nat.succ_mul]; omega
    rw [List.flatMap_cons, h1, List.getElem?_append_right (by rw [hk]; omega), hk, Nat.add_sub_cancel_left, flat_get hk r i j (by simpa using hi) hj]; rfl
theorem flat_inv {α : Type} {k : Nat} {f : α → List Value} (hk : ∀ x, (f x).length = k) (hk0 : 0 < k) {l : List α} {q : Nat} {u : Value} (h : (l.flatMap f)[q]? = some u) : ∃ (i j : Nat) (hi : i < l.length), j < k ∧ q = i * k + j ∧ (f l[i])[j]? = some u := by
  have hq : q < l.length * k := by
    rw [← flat_len hk l]
    exact (List.getElem?_eq_some_iff.1 h).1
  have hi : q / k < l.length := Nat.div_lt_of_lt_mul (by rw [Nat.mul_comm]; exact hq)
  have hj := Nat.mod_lt q hk0
  have he : q = q / k * k + q % k := by rw [Nat.mul_comm]; exact (Nat.div_add_mod q k).symm
  refine ⟨q / k, q % k, hi, hj, he, ?_⟩
  rw [← flat_get hk l _ _ hi hj, ← he]
  exact h
/-- the cells that a row of elements has -/
theorem row_news {α : Type} {k : Nat} {f : α → List Value} (hk : ∀ x, (f x).length = k) (hk0 : 0 < k) {w : World} {b o : Nat} {l : List α} (h : ∀ i (hi : i < l.length) j u, (f l[i])[j]? = some u → w.cell? ⟨b, o + i * k + j, none⟩ = some u) :
    ∀ j u, (l.flatMap f)[j]? = some u → w.cell? ((⟨b, o, none⟩ : Addr).add j) = some u := by
  intro q u hq
  obtain ⟨i, j, hi, hj, rfl, hu⟩ := flat_inv hk hk0 hq
  rw [add_at, ← Nat.add_assoc]
  exact h i hi j u hu
/-- a row of one's own, as a row of elements -/
theorem owned_row {α : Type} {k base : Nat} {e : TypeId} {f : α → List Value} (hk : ∀ x, (f x).length = k) {w : World} {v : Value} {l : List α} (h : w.ownsRow base e k v l.length (l.flatMap f)) (hl : l.length ≤ 140737488355328)
    {R : World → Nat → Nat → α → Prop} (hR : ∀ g o i (hi : i < l.length), g < w.heap.size → (∀ j u, j < k → (f l[i])[j]? = some u → w.cell? ⟨g, o + j, none⟩ = some u) → R w g o l[i]) : RowAt k R w v l := by
  rcases h.2 with ⟨rfl, h0⟩ | ⟨g, cap, cur, rfl, hb, hg, hnc, hcm, hcs, htk⟩
  · refine ⟨none, 0, 0, 0, by rw [h0], by omega, hl, fun h => by omega, fun i h => by omega⟩
  · have hglt : g < w.heap.size := (Array.getElem?_eq_some_iff.1 hg).1
    refine ⟨_, cap, g, 0, rfl, hnc, hl, fun _ => rfl, fun i hi => hR g _ i hi hglt fun j u hj hu => ?_⟩
    rw [← flat_get hk l i j hi hj] at hu
    have h1 := h.cells (g := g) rfl _ _ hu
    rw [add_at] at h1
    rw [Nat.add_assoc]
    exact h1
end Go.Proofs.YteekdjlpfgkgjaaDoor
