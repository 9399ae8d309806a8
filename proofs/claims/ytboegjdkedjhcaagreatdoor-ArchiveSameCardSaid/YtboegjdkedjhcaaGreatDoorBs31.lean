/- Manifests of notes: what may be, and which covers which (layer 11), in plain words. No program in sight. The walk of aediculeref08.Name: it returns isName. The walk of aediculeref08.rels. The walks of aediculeref08's Note and Sym. -/
import Derived.Test.YtboegjdkedjhcaaGreatDoorBs29
import Derived.Test.YtboegjdkedjhcaaGreatDoorRows
import Derived.Test.YtboegjdkedjhcaaGreatDoorBs01
import Derived.WalkKit
import Derived.WalkSpells
import Derived.WalkLawsBesides
import Derived.Lib.Hide
import Derived.Deep.Light
import Derived.Test.YtboegjdkedjhcaaGreatDoorBs21
import Derived.Handy
namespace Go.Proofs.YtboegjdkedjhcaaGreatDoor
section
open Go.Lib
theorem exts_mem : ∀ (k : Nat) (l : List Int) (y : Int × Int), y ∈ extsFrom k l ↔ ∃ i, l[i]? = some y.2 ∧ y.1 = ((k + i : Nat) : Int) ∧ 0 < y.2
 | k, [], y => by simp [extsFrom]
 | k, n :: r, y => by
   have ih := exts_mem (k + 1) r y
   have hr : y ∈ extsFrom (k + 1) r ↔ ∃ i, (n :: r)[i + 1]? = some y.2 ∧ y.1 = ((k + (i + 1) : Nat) : Int) ∧ 0 < y.2 := by
    rw [ih]; constructor
    ·rintro ⟨i, h1, h2, h3⟩; exact ⟨i, by simpa using h1, by omega, h3⟩
    ·rintro ⟨i, h1, h2, h3⟩; exact ⟨i, by simpa using h1, by omega, h3⟩
   rw [extsFrom]
   by_cases hn : 0 < n
   ·rw [if_pos hn, List.mem_cons, hr]; constructor
    ·rintro (rfl | ⟨i, h⟩)
     ·exact ⟨0, rfl, by simp, hn⟩
     ·exact ⟨i + 1, h⟩
    ·rintro ⟨i, h1, h2, h3⟩
     match i, h1, h2 with
     | 0, h1, h2 =>
       left; have e : n = y.2 := by simpa using h1
       exact Prod.ext (by simpa using h2) e.symm
     | i + 1, h1, h2 => exact .inr ⟨i, h1, h2, h3⟩
   ·rw [if_neg hn, hr]; constructor
    ·rintro ⟨i, h⟩; exact ⟨i + 1, h⟩
    ·rintro ⟨i, h1, h2, h3⟩
     match i, h1, h2 with
     | 0, h1, h2 =>
       have e : n = y.2 := by simpa using h1
       omega
     | i + 1, h1, h2 => exact ⟨i, h1, h2, h3⟩
theorem exts_up : ∀ (k : Nat) (l : List Int), (extsFrom k l).Pairwise fun x y => x.1 < y.1
 | k, [] => List.Pairwise.nil
 | k, n :: r => by
   rw [extsFrom]; split
   ·refine List.pairwise_cons.2 ⟨fun y hy => ?_, exts_up (k + 1) r⟩
    obtain ⟨i, -, h2, -⟩ := (exts_mem _ _ _).1 hy; simp only []; omega
   ·exact exts_up (k + 1) r
theorem once_up {l : List Int} (h : l.Pairwise (· ≤ ·)) : (onceI l).Pairwise (· < ·) := by
 unfold onceI compact compactUpTo; rw [List.pairwise_map, List.pairwise_filter]; have hr := List.pairwise_lt_range (n := l.length); rw [List.pairwise_iff_getElem] at hr ⊢; intro i j hi hj hij _ hk; have h1 := hr i j hi hj hij; simp only [List.getElem_range] at h1 hk ⊢; have hjl : j < l.length := by simpa using hj
 have e : ∀ a (ha : a < l.length), l.toArray[a]! = l[a] := fun a ha => by simp [ha]
 rw [e i (by omega), e j hjl]
 unfold keeps at hk; rw [e j hjl, e (j - 1) (by omega)] at hk
 simp only [decide_eq_true_eq] at hk; have hp := List.pairwise_iff_getElem.1 h
 have hne : l[j] ≠ l[j - 1] := by
  rcases hk with hk | hk
  ·omega
  ·exact hk
 have h2 := hp (j - 1) j (by omega) hjl (by omega)
 have h3 : l[i] ≤ l[j - 1] := by
  rcases Nat.lt_or_eq_of_le (show i ≤ j - 1 by omega) with h4 | h4
  ·exact hp i (j - 1) (by omega) (by omega) h4
  ·exact Int.le_of_eq (by congr 1)
 omega
theorem sortI_up (l : List Int) : (sortI l).Pairwise (· ≤ ·) := by
 unfold sortI; have := List.pairwise_mergeSort (le := fun x y : Int => decide (x ≤ y)) (by intro a b c; simp only [decide_eq_true_eq]; omega) (by intro a b; simp only [Bool.or_eq_true, decide_eq_true_eq]; omega) l
 simpa using this
structure ManFit (m : GMan) : Prop where
 ok : ManOk m
 eu : ∀ k (h : k + 1 < m.exts.length), m.exts[k].1 < m.exts[k + 1].1
 pu : ∀ k (h : k + 1 < m.ports.length), m.ports[k] < m.ports[k + 1]
theorem gatMan_fit {g : Gat} (hg : GatOk g) (hn : ¬ 16 < (gatMan g).ports.length) : ManFit (gatMan g) := by
 have h0 := gatEnd_ok hg; unfold gatEnd at h0; rw [if_neg hn] at h0; refine ⟨h0, fun k h => ?_, fun k h => ?_⟩
 ·exact List.pairwise_iff_getElem.1 (exts_up 0 g.blocks) k (k + 1) (by show k < (extsFrom 0 g.blocks).length; have : k + 1 < (extsFrom 0 g.blocks).length := h; omega) h (by omega)
 ·exact List.pairwise_iff_getElem.1 (once_up (sortI_up g.ports)) k (k + 1) (by show k < (onceI (sortI g.ports)).length; have : k + 1 < (onceI (sortI g.ports)).length := h; omega) h (by omega)
theorem demandR_zero {l : List GNote} (h : (demandR l).2 = 0) : l.all noteOk = true ∧ ¬ 16 < (gatMan (gatL l)).ports.length ∧ (demandR l).1 = gatMan (gatL l) := by
 unfold demandR at h ⊢
 by_cases hk : l.all noteOk = true
 ·rw [if_pos hk] at h ⊢; unfold gatEnd at h ⊢
  by_cases h16 : 16 < (gatMan (gatAll l)).ports.length
  ·rw [if_pos h16] at h; simp at h
  ·rw [if_neg h16]; exact ⟨hk, h16, rfl⟩
 ·rw [if_neg hk] at h; simp at h
theorem demandR_fit {l : List GNote} (h0 : ∀ x ∈ l, 0 ≤ x.n) (h : (demandR l).2 = 0) : ManFit (demandR l).1 := by
 obtain ⟨h1, h2, h3⟩ := demandR_zero h; rw [h3]; exact gatMan_fit (gatL_ok h1 h0).1 h2
end
section
open Go.RowKit

end
section
open Go.RowKit
end
section
open Go.RowKit
end
end Go.Proofs.YtboegjdkedjhcaaGreatDoor
