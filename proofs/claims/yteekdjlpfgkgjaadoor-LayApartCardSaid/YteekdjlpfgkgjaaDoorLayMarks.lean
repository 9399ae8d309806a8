/- Marks on bytes and pages (LayApart), in plain words, and their rows. -/
import Derived.Test.YteekdjlpfgkgjaaDoorPlainLaid
import Derived.Test.YteekdjlpfgkgjaaDoorKeep
namespace Go.Proofs.YteekdjlpfgkgjaaDoor
open Go.RowKit
def OWI (l : List GObj) (ps : List GP) (a : List GAddr) (i : Nat) (c : Int) (ow : List Int) : Prop :=
  ∀ x : Nat, ow.getD x 0 ≠ 0 → (∃ j, j < i ∧ (aAt a j).at_ ≤ x ∧ (x : Int) < (aAt a j).at_ + Zs l ps j) ∨ ((aAt a i).at_ ≤ x ∧ (x : Int) < c)
def KNI (l : List GObj) (ps : List GP) (a : List GAddr) (i : Nat) (c : Int) (kn : List Int) : Prop :=
  ∀ q : Nat, kn.getD q 0 ≠ 0 → ∃ (j x : Nat), (j < i ∨ (j = i ∧ (x : Int) < c)) ∧ (aAt a j).at_ ≤ x ∧ (x : Int) < (aAt a j).at_ + Zs l ps j ∧ x / 256 = q ∧ kn.getD q 0 = Ks l ps j
theorem ow_free {l : List GObj} {ps : List GP} {a : List GAddr} {s : List GSpan} (h : Laid l ps a s) {i : Nat} (hi : i < ps.length) {c : Nat} {ow : List Int} (ho : OWI l ps a i c ow) (h1 : (aAt a i).at_ ≤ c) (h2 : (c : Int) < (aAt a i).at_ + Zs l ps i) : ow.getD c 0 = 0 := by
  apply Classical.byContradiction
  intro hne
  rcases ho c hne with ⟨j, hj, q1, q2⟩ | ⟨-, q2⟩
  · have := h.dj i j hi (by omega) (by omega); omega
  · omega
theorem kn_free {l : List GObj} {ps : List GP} {a : List GAddr} {s : List GSpan} (h : Laid l ps a s) {i : Nat} (hi : i < ps.length) {c : Nat} {kn : List Int} (hk : KNI l ps a i c kn) (h1 : (aAt a i).at_ ≤ c) (h2 : (c : Int) < (aAt a i).at_ + Zs l ps i) : kn.getD (c / 256) 0 = 0 ∨ kn.getD (c / 256) 0 = Ks l ps i := by
  by_cases hz : kn.getD (c / 256) 0 = 0
  · exact .inl hz
  · right
    obtain ⟨j, x, hj, q1, q2, q3, q4⟩ := hk _ hz
    rw [q4]
    apply Classical.byContradiction
    intro hne
    obtain ⟨p, p1, p2⟩ := h.pg j i (by omega) hi hne
    omega
theorem ow_mark {l : List GObj} {ps : List GP} {a : List GAddr} {i c : Nat} {ow : List Int} {v : Int} (ho : OWI l ps a i c ow) (h1 : (aAt a i).at_ ≤ c) : OWI l ps a i ((c : Int) + 1) (ow.set c v) := by
  intro x hx
  by_cases hxc : x = c
  · subst hxc; exact .inr ⟨h1, by omega⟩
  · rw [List.getD_eq_getElem?_getD, List.getElem?_set_ne (fun e => hxc e.symm), ← List.getD_eq_getElem?_getD] at hx
    rcases ho x hx with h | ⟨q1, q2⟩
    · exact .inl h
    · exact .inr ⟨q1, by omega⟩
theorem kn_mark {l : List GObj} {ps : List GP} {a : List GAddr} {i c : Nat} {kn : List Int} (hk : KNI l ps a i c kn) (h1 : (aAt a i).at_ ≤ c) (h2 : (c : Int) < (aAt a i).at_ + Zs l ps i) (hl : c / 256 < kn.length) : KNI l ps a i ((c : Int) + 1) (kn.set (c / 256) (Ks l ps i)) := by
  intro q hq
  by_cases hqc : q = c / 256
  · subst hqc
    exact ⟨i, c, .inr ⟨rfl, by omega⟩, h1, h2, rfl, by rw [List.getD_eq_getElem?_getD, List.getElem?_set_self hl]; rfl⟩
  · have he : (kn.set (c / 256) (Ks l ps i)).getD q 0 = kn.getD q 0 := by rw [List.getD_eq_getElem?_getD, List.getElem?_set_ne (fun e => hqc e.symm), ← List.getD_eq_getElem?_getD]
    rw [he] at hq ⊢
    obtain ⟨j, x, hj, q1, q2, q3, q4⟩ := hk q hq
    exact ⟨j, x, by omega, q1, q2, q3, q4⟩
theorem ow_start {l : List GObj} {ps : List GP} {a : List GAddr} {i : Nat} {ow : List Int} (ho : OWI l ps a i 0 ow) : OWI l ps a i (aAt a i).at_ ow := fun x hx => by
  rcases ho x hx with h | ⟨q1, q2⟩
  · exact .inl h
  · omega
theorem kn_start {l : List GObj} {ps : List GP} {a : List GAddr} {i : Nat} {kn : List Int} (hk : KNI l ps a i 0 kn) : KNI l ps a i (aAt a i).at_ kn := fun q hq => by
  obtain ⟨j, x, hj, q1, q2, q3, q4⟩ := hk q hq
  exact ⟨j, x, by omega, q1, q2, q3, q4⟩
theorem ow_end {l : List GObj} {ps : List GP} {a : List GAddr} {i : Nat} {c : Int} {ow : List Int} (ho : OWI l ps a i c ow) (hc : c ≤ (aAt a i).at_ + Zs l ps i) : OWI l ps a (i + 1) 0 ow := fun x hx => by
  rcases ho x hx with ⟨j, hj, q1, q2⟩ | ⟨q1, q2⟩
  · exact .inl ⟨j, by omega, q1, q2⟩
  · exact .inl ⟨i, by omega, q1, by omega⟩
theorem kn_end {l : List GObj} {ps : List GP} {a : List GAddr} {i : Nat} {c : Int} {kn : List Int} (hk : KNI l ps a i c kn) : KNI l ps a (i + 1) 0 kn := fun q hq => by
  obtain ⟨j, x, hj, q1, q2, q3, q4⟩ := hk q hq
  exact ⟨j, x, by omega, q1, q2, q3, q4⟩
theorem ow_zero {l : List GObj} {ps : List GP} {a : List GAddr} (n : Nat) : OWI l ps a 0 0 (List.replicate n 0) := fun x hx => by
  exfalso; apply hx; rw [List.getD_eq_getElem?_getD, List.getElem?_replicate]; split <;> rfl
theorem kn_zero {l : List GObj} {ps : List GP} {a : List GAddr} (n : Nat) : KNI l ps a 0 0 (List.replicate n 0) := fun x hx => by
  exfalso; apply hx; rw [List.getD_eq_getElem?_getD, List.getElem?_replicate]; split <;> rfl
/-- a row of numbers of one's own -/
def IRow (w : World) (e : TypeId) (k : IntKind) (b n : Nat) (xs : List Int) : Prop := w.ownsRow b e 1 (.slice (some ⟨b, 0, none⟩) n n) n (xs.map (Value.int k)) ∧ xs.length = n
theorem IRow.cell {w : World} {e : TypeId} {k : IntKind} {b n : Nat} {xs : List Int} (h : IRow w e k b n xs) {i : Nat} (hi : i < n) : w.cell? ⟨b, i, none⟩ = some (.int k (xs.getD i 0)) := by
  rw [h.1.cellAt i (by omega), List.getElem?_map, List.getD_eq_getElem?_getD, List.getElem?_eq_getElem (by rw [h.2]; exact hi)]; rfl
theorem IRow.frozen {w : World} {e : TypeId} {k : IntKind} {b n : Nat} {xs : List Int} (h : IRow w e k b n xs) (i : Nat) : w.frozen? ⟨b, i, none⟩ = false := h.1.frozenAt i
theorem IRow.set {w : World} {e : TypeId} {k : IntKind} {b n : Nat} {xs : List Int} (h : IRow w e k b n xs) (i : Nat) (v : Int) : IRow (w.setCell ⟨b, i, none⟩ (.int k v)) e k b n (xs.set i v) := by
  refine ⟨?_, by simpa using h.2⟩
  rw [List.map_set]
  exact (h.1.stored i _).1
theorem IRow.congr {w w' : World} {e : TypeId} {k : IntKind} {b n : Nat} {xs : List Int} (h : IRow w e k b n xs) (hb : w'.heap[b]? = w.heap[b]?) : IRow w' e k b n xs := ⟨own_congr h.1 fun g hg => by cases hg; exact hb, h.2⟩
end Go.Proofs.YteekdjlpfgkgjaaDoor
