/- slices.SortFunc at a row of places, by the order of reach. -/
import Derived.Test.YtnhmbflinbfeoaaDoorSortLay
import Derived.Test.YtnhmbflinbfeoaaDoorWOrder
import Derived.Test.YtnhmbflinbfeoaaDoorPlaces
import Derived.Test.YtnhmbflinbfeoaaDoorKeep
import Derived.Test.YtnhmbflinbfeoaaDoorPlain13
import Derived.Test.YtnhmbflinbfeoaaDoorSrch
import Derived.Test.YtnhmbflinbfeoaaDoorOwn
import Derived.Lib.Builder
namespace Go.Proofs.YtnhmbflinbfeoaaDoor
open Go.RowKit Go.Maps Go.Shelf Go.Sort Go.Lib
def toI (p : PP) : Int × Int := ((p.1 : Nat), (p.2 : Nat))
def backI (x : Int × Int) : PP := (x.1.toNat, x.2.toNat)
theorem backI_toI (p : PP) : backI (toI p) = p := by simp [backI, toI]
def encI (x : Int × Int) : List Value := [.int .i64 x.1, .int .i64 x.2]
def plti (x y : Int × Int) : Prop := x.1 < y.1 ∨ (x.1 = y.1 ∧ x.2 < y.2)
instance (x y : Int × Int) : Decidable (plti x y) := by unfold plti; exact inferInstance
theorem cmpP_lt (x y : Int × Int) : cmpP x y < 0 ↔ plti x y := by
  unfold cmpP orI cmpI plti
  by_cases h1 : x.1 < y.1
  · simp [h1]
  · by_cases h2 : y.1 < x.1
    · simp [h1, h2]; omega
    · have e : x.1 = y.1 := by omega
      by_cases h3 : x.2 < y.2
      · simp [e, h3]
      · by_cases h4 : y.2 < x.2 <;> simp [e, h3, h4]
theorem lt_cmpP (x y : Int × Int) : Go.Proofs.ltOf cmpP x y = decide (plti x y) := by
  unfold Go.Proofs.ltOf
  simp only [cmpP_lt]
theorem swoP : SWO (Go.Proofs.ltOf cmpP) where
  irrefl x := by rw [lt_cmpP]; simp [plti]
  trans x y z h1 h2 := by rw [lt_cmpP, decide_eq_true_eq] at *; unfold plti at *; omega
  ntrans x y z h1 h2 := by rw [lt_cmpP, decide_eq_false_iff_not] at *; unfold plti at *; omega
theorem orderLays (blk off size : Nat) (w : World) : Go.Proofs.CmpLays Tryd.prog 21 #[] encI 2 cmpP blk off size w := fun _ _ _ _ x y => order_any x y _
theorem placeCells_enc (ps : List PP) : placeCells ps = (ps.map toI).flatMap encI := by
  induction ps with
  | nil => rfl
  | cons p r ih => simp only [placeCells, List.flatMap_cons, List.map_cons] at *; rw [ih]; rfl
theorem flat2_get : ∀ (l : List (Int × Int)) (t : Nat), t < l.length * 2 → (l.flatMap encI)[t]? = some ((encI (l.toArray[t / 2]!))[t % 2]!)
  | x :: r, 0, _ => by simp [encI]
  | x :: r, 1, _ => by simp [encI]
  | x :: r, t + 2, h => by
    have ih := flat2_get r t (by simp at h; omega)
    have e1 : (t + 2) / 2 = t / 2 + 1 := by omega
    have e2 : (t + 2) % 2 = t % 2 := by omega
    rw [e1, e2, List.flatMap_cons, show encI x = [.int .i64 x.1, .int .i64 x.2] from rfl]
    simp only [List.cons_append, List.nil_append, List.getElem?_cons_succ]
    rw [ih]
    congr 3
    simp [Array.getElem!_eq_getD, Array.getD]
  | [], t, h => by simp at h
theorem flatK_get (l : List (Int × Int)) (t : Nat) (h : t < l.length * 2) : (l.flatMap encI)[t]? = some ((flatK encI 2 l.toArray)[t]!) := by
  rw [flat2_get l t h, get_flatK encI 2 l.toArray t (by simpa using h)]
theorem holds_of_row {base : Nat} {w : World} {ps : List PP} {g cap : Nat} (h : PRow base w (.slice (some ⟨g, 0, none⟩) ps.length cap) ps) : HoldsK encI 2 w g 0 (ps.map toI).toArray := by
  intro j hj
  rw [size_flatK] at hj
  have hj' : j < (ps.map toI).length * 2 := by simpa using hj
  have h1 := flatK_get _ j hj'
  rw [← placeCells_enc] at h1
  have h2 := h.cells (g := g) rfl j _ h1
  rw [add_zero_eq] at h2
  refine ⟨by rw [Nat.zero_add]; exact h2, ?_⟩
  rcases h.2 with ⟨h3, -⟩ | ⟨g', cap', cur, h3, -, h4, -⟩
  · cases h3
  · cases h3; exact Lib.frozen_of_heap h4 _
theorem cells_len (ps : List PP) : (placeCells ps).length = ps.length * 2 := by
  induction ps with
  | nil => rfl
  | cons p r ih => simp only [placeCells, List.flatMap_cons, List.length_append, List.length_cons, List.length_nil] at *; omega
theorem sorted_block {w : World} {g n : Nat} {D : Array (Int × Int)} {os : Array Obj} {cur : Array Value} {e : TypeId} (h : w.heap[g]? = some (.cells cur e (0, 0))) :
    (sortWorldK encI 2 w g 0 n D os).heap[g]? = some (.cells (putCells id 0 (flatK encI 2 D) cur) e (0, 0)) := by
  have hlt := (Array.getElem?_eq_some_iff.1 h).1
  unfold sortWorldK putRowK putRow grow mapBlock Sort.ahead
  rw [Array.getElem?_append_left (by simpa using hlt), Array.getElem?_modify]
  simp only [if_true]
  rw [h]
  rfl
theorem sorted_other {w : World} {g n : Nat} {D : Array (Int × Int)} {os : Array Obj} {k : Nat} (hk : k < w.heap.size) (hne : k ≠ g) : (sortWorldK encI 2 w g 0 n D os).heap[k]? = w.heap[k]? := by
  unfold sortWorldK putRowK putRow grow mapBlock Sort.ahead
  rw [Array.getElem?_append_left (by simpa using hk), Array.getElem?_modify, if_neg (fun e => hne e.symm)]
theorem sorted_size {w : World} {g n : Nat} {D : Array (Int × Int)} {os : Array Obj} : w.heap.size ≤ (sortWorldK encI 2 w g 0 n D os).heap.size := by
  unfold sortWorldK putRowK putRow grow mapBlock Sort.ahead
  simp
theorem row_put {base : Nat} {w : World} {ps ps' : List PP} {g cap n : Nat} {os : Array Obj} (h : PRow base w (.slice (some ⟨g, 0, none⟩) ps.length cap) ps) (hl : ps'.length = ps.length) :
    PRow base (sortWorldK encI 2 w g 0 n (ps'.map toI).toArray os) (.slice (some ⟨g, 0, none⟩) ps.length cap) ps' := by
  refine ⟨cells_len ps', ?_⟩
  rcases h.2 with ⟨h3, -⟩ | ⟨g', cap', cur, h3, hb, h4, h5, h6, h7, h8⟩
  · cases h3
  · cases h3
    refine .inr ⟨g, cap, putCells id 0 (flatK encI 2 (ps'.map toI).toArray) cur, by rw [hl], hb, sorted_block h4, by omega, h6, by simp [putCells, h7], ?_⟩
    apply List.ext_getElem?
    intro t
    by_cases ht : t < ps'.length * 2
    · have h9 := flatK_get (ps'.map toI) t (by simpa using ht)
      rw [← placeCells_enc] at h9
      rw [h9, List.getElem?_take, if_pos ht]
      have hc : t < cur.size := by omega
      simp [putCells, hc]
      omega
    · rw [List.getElem?_eq_none (by simp; omega), List.getElem?_eq_none (by rw [cells_len]; omega)]
theorem perm_back {D' : Array (Int × Int)} {ps : List PP} (h : D'.toList.Perm (ps.map toI)) : ∃ ps' : List PP, ps'.Perm ps ∧ D' = (ps'.map toI).toArray := by
  refine ⟨D'.toList.map backI, ?_, ?_⟩
  · have := h.map backI
    rw [List.map_map] at this
    have e : (backI ∘ toI) = id := by funext p; exact backI_toI p
    rwa [e, List.map_id] at this
  · apply Array.ext'
    rw [List.map_map]
    have : ∀ x ∈ D'.toList, (toI ∘ backI) x = x := fun x hx => by
      obtain ⟨p, -, rfl⟩ := List.mem_map.1 (h.mem_iff.1 hx)
      simp [backI_toI]
    rw [List.map_congr_left this, List.map_id']
theorem sorted_pw {ps' : List PP} {n : Nat} (hn : n = ps'.length) (h : SortedIn (Go.Proofs.ltOf cmpP) 0 n (ps'.map toI).toArray) : ps'.Pairwise (fun a b => ¬ plt b a) := by
  rw [List.pairwise_iff_getElem]
  intro i j hi hj hij hp
  have := h i j (by omega) hij (by omega)
  rw [lt_cmpP, decide_eq_false_iff_not] at this
  apply this
  have e1 : (ps'.map toI).toArray[i]! = toI ps'[i] := by rw [getElem!_pos _ i (by simpa using hi)]; simp
  have e2 : (ps'.map toI).toArray[j]! = toI ps'[j] := by rw [getElem!_pos _ j (by simpa using hj)]; simp
  rw [e1, e2]
  unfold plt at hp
  unfold plti toI
  simp only []
  omega
theorem order_enters (args : Array Value) (w : World) : (callFunc 21 args).run Tryd.prog w = .ok (.enter 21 args) w := enters_of Tryd.func21 (by kernel_rfl) rfl args w
set_option maxRecDepth 100000 in
theorem sort_ok : SortOk := by
  intro base v ps w h hl
  by_cases h0 : ps.length = 0
  · obtain ⟨p, c, rfl⟩ := own_shape h
    obtain rfl : ps = [] := List.eq_nil_of_length_eq_zero h0
    have hcon := Go.Proofs.AnyF.slices_SortFunc_none Tryd.sortPlaces p c (.func (.func 21) #[] #[]) w
    change Calls Tryd.prog 20 _ _ _ at hcon
    refine hcon.mono ?_
    rintro e w' ⟨rfl, rfl⟩
    exact ⟨rfl, [], .refl _, List.Pairwise.nil, h, KB.refl _ _⟩
  · obtain ⟨g, cap, rfl, hbg, hgl⟩ := World.ownsRow.form h (by omega)
    have hsz : ((ps.map toI).toArray).size = ps.length := by simp
    have hcon := Go.Proofs.AnyQ.slices_SortFunc Tryd.sortPlaces 2 Tryd.isAgg30 Tryd.sizeOf30 encI (fun _ => rfl) (fun x v hv => by simp [encI] at hv; rcases hv with rfl | rfl <;> rfl) cmpP swoP 21 #[] g 0 cap (ps.map toI).toArray w order_enters (orderLays g 0 _ w) (holds_of_row h) hgl (by rw [hsz]; omega)
    change Calls Tryd.prog 20 _ _ _ at hcon
    rw [hsz] at hcon
    refine hcon.mono ?_
    rintro e w' ⟨rfl, d', n, os, hp, hs, rfl⟩
    have hpp : d'.toList.Perm (ps.map toI) := by
      have h3 := hp.2.2
      have hz := hp.1
      rw [hsz] at hz
      rw [Array.extract_eq_self_of_le (by omega), Array.extract_eq_self_of_le (by rw [hsz]; omega)] at h3
      exact h3
    obtain ⟨ps', hp1, rfl⟩ := perm_back hpp
    refine ⟨rfl, ps', hp1, sorted_pw hp1.length_eq.symm hs, row_put h hp1.length_eq, ⟨rfl, rfl, rfl, sorted_size, fun k hk hne => sorted_other hk fun e => hne (by rw [e]; rfl)⟩⟩
set_option maxRecDepth 100000 in
theorem rev_ok : RevOk := by
  intro base v ps w h hl h0
  obtain ⟨g, cap, rfl, hbg, hgl⟩ := World.ownsRow.form h (by omega)
  have hsz : ((ps.map toI).toArray).size = ps.length := by simp
  have hcon := Go.Proofs.AnyQ.slices_Reverse Tryd.revPlaces 2 Tryd.isAgg30 Tryd.sizeOf30 encI (fun _ => rfl) (fun x v hv => by simp [encI] at hv; rcases hv with rfl | rfl <;> rfl) g 0 cap (ps.map toI).toArray w (holds_of_row h) (by rw [hsz]; omega)
  change Calls Tryd.prog 28 _ _ _ at hcon
  rw [hsz] at hcon
  refine hcon.mono ?_
  rintro e w' ⟨rfl, n, rfl⟩
  have e1 : putRowK encI 2 (Sort.ahead w n) g 0 (ps.map toI).toArray.reverse = sortWorldK encI 2 w g 0 n (ps.reverse.map toI).toArray #[] := by
    unfold sortWorldK
    rw [grow_empty, List.map_reverse, List.reverse_toArray]
  rw [e1]
  exact ⟨rfl, row_put h (by simp), ⟨rfl, rfl, rfl, sorted_size, fun k hk hne => sorted_other hk fun e => hne (by rw [e]; rfl)⟩⟩
end Go.Proofs.YtnhmbflinbfeoaaDoor
