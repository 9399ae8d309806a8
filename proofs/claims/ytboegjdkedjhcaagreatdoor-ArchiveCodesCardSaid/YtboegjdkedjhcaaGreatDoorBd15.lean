/- The walks of cmp.Compare at int, of cmp.Or, and of reach's order. slices.SortFunc at a row of entries, by the archive's order (names, then members). The walks of aediculeref07's Num and Text. The walks of aediculeref09's num and text. -/
import Derived.Test.YtboegjdkedjhcaaGreatDoorBd03
import Derived.Test.YtboegjdkedjhcaaGreatDoorProg
import Derived.Deep.RegionHeld3
import Derived.Sort.Grow
import Derived.Lib.Hide
import Derived.Deep.QuietTactic
import Derived.BigQuiet
import Derived.Outline
import Derived.StillTailTactics
import Derived.Test.YtboegjdkedjhcaaGreatDoorSortLay
import Derived.Test.YtboegjdkedjhcaaGreatDoorBd04
import Derived.Lib.Builder
import Derived.Test.YtboegjdkedjhcaaGreatDoorBd10
import Derived.Lib.AppendStr
import Derived.Lib.UnsafeStr
namespace Go.Proofs.YtboegjdkedjhcaaGreatDoor
open Go.RowKit Go.Maps Go.WideMaps Go.Sort
theorem grow_three (w : World) (a b c : Obj) : ((w.alloc a).alloc b).drew.alloc c = grow (w.drewN 1) #[a, b, c] := by
  have h : ((grow w #[a]).alloc b).drew.alloc c = grow (grow (grow w.drew #[a]) #[b]) #[c] := by rw [alloc_eq_grow, alloc_eq_grow]; rfl
  rw [alloc_eq_grow w a, h, grow_grow, grow_grow]; rfl
def cmpI (a b : Int) : Int := if a < b then -1 else if b < a then 1 else 0
set_option maxHeartbeats 400000 in
theorem isNaN_any (a : Int) (w : World) : Calls Tryz.prog 107 #[.int .i64 a] w fun e w' => e = .returned (.bool false) ∧ w = w' := by
  go_enter Tryz.func107, Tryz.ntmps107
  go_wp2
  go_ret
  exact ⟨rfl, rfl⟩
set_option maxHeartbeats 400000 in
theorem compare_any (a b : Int) (w : World) : Calls Tryz.prog 68 #[.int .i64 a, .int .i64 b] w fun e w' => e = .returned (.int .i64 (cmpI a b)) ∧ w = w' := by
  have HN := Lib.hid isNaN_any
  unfold cmpI
  by_cases h1 : a < b
  · rw [if_pos h1]
    go_enter Tryz.func68, Tryz.ntmps68
    go_wp2_with (go_at_call 107; refine (HN.out _ _).mono ?_; rintro e w' ⟨rfl, rfl⟩)
    go_ret
    exact ⟨rfl, rfl⟩
  · rw [if_neg h1]
    by_cases h2 : b < a
    · rw [if_pos h2]
      go_enter Tryz.func68, Tryz.ntmps68
      go_wp2_with (go_at_call 107; refine (HN.out _ _).mono ?_; rintro e w' ⟨rfl, rfl⟩)
      go_ret
      exact ⟨rfl, rfl⟩
    · rw [if_neg h2]
      go_enter Tryz.func68, Tryz.ntmps68
      go_wp2_with (go_at_call 107; refine (HN.out _ _).mono ?_; rintro e w' ⟨rfl, rfl⟩)
      go_ret
      exact ⟨rfl, rfl⟩
def orI (a b : Int) : Int := if a = 0 then b else a
set_option maxHeartbeats 400000 in
theorem or_any (a b : Int) (g : Nat) (w : World) (h0 : w.cell? ⟨g, 0, none⟩ = some (.int .i64 a)) (h1 : w.cell? ⟨g, 1, none⟩ = some (.int .i64 b)) :
    Calls Tryz.prog 66 #[.slice (some ⟨g, 0, none⟩) 2 2] w fun e w' => e = .returned (.int .i64 (orI a b)) ∧ w = w' := by
  by_cases ha : a = 0
  · subst ha
    by_cases hb : b = 0
    · subst hb
      go_enter Tryz.func66, Tryz.ntmps66
      go_wp2
      refine wp_loop_rounds 3 ?_
      rw [rounds_succ]
      go_wp2
      rw [rounds_succ]
      go_wp2
      rw [rounds_succ]
      go_wp2
      go_ret
      exact ⟨rfl, rfl⟩
    · have b1 : (b != 0) = true := by simpa using hb
      go_enter Tryz.func66, Tryz.ntmps66
      go_wp2
      refine wp_loop_rounds 3 ?_
      rw [rounds_succ]
      go_wp2
      rw [rounds_succ]
      go_wp2
      go_ret
      exact ⟨rfl, rfl⟩
  · have b1 : (a != 0) = true := by simpa using ha
    have HO : Hid (orI a b = a) := by unfold orI; rw [if_neg ha]; rfl
    clear ha
    go_enter Tryz.func66, Tryz.ntmps66
    go_wp2
    refine wp_loop_rounds 3 ?_
    rw [rounds_succ]
    go_wp2
    go_ret
    exact ⟨ret_int HO.out.symm, rfl⟩
/-- which of two places stands ahead -/
def cmpP (x y : Int × Int) : Int := orI (cmpI x.1 y.1) (cmpI x.2 y.2)
set_option maxHeartbeats 1000000 in
theorem order_any (x y : Int × Int) (w : World) : Calls Tryz.prog 112 #[.agg #[.int .i64 x.1, .int .i64 x.2], .agg #[.int .i64 y.1, .int .i64 y.2]] w fun e w' => e = .returned (.int .i64 (cmpP x y)) ∧ ∃ q os', w' = grow (w.drewN q) os' := by
  obtain ⟨x1, x2⟩ := x
  obtain ⟨y1, y2⟩ := y
  have HC := Lib.hid compare_any
  have HO := Lib.hid or_any
  unfold cmpP
  simp only []
  go_enter Tryz.func112, Tryz.ntmps112
  go_wp2
  go_region_held3 (fun w' => w'.cell? ⟨w.heap.size, 0, none⟩ = some (.int .i64 x1) ∧ w'.cell? ⟨w.heap.size, 1, none⟩ = some (.int .i64 x2) ∧ w'.cell? ⟨w.heap.size + 1, 0, none⟩ = some (.int .i64 y1) ∧ w'.cell? ⟨w.heap.size + 1, 1, none⟩ = some (.int .i64 y2)) (go_keep) (first | (go_at_call 68; refine (HC.out _ _ _).mono ?_; rintro e w' ⟨rfl, rfl⟩) | (go_at_call 66; refine (HO.out (cmpI x1 y1) (cmpI x2 y2) _ _ ?_ ?_).mono ?_; (simp [go_sem]); (simp [go_sem]); rintro e w' ⟨rfl, rfl⟩))
  go_wp2
  go_ret
  exact ⟨rfl, 1, _, grow_three w _ _ _⟩
end Go.Proofs.YtboegjdkedjhcaaGreatDoor
namespace Go.Proofs.YtboegjdkedjhcaaGreatDoor
open Go.RowKit Go.Maps Go.Shelf Go.Sort Go.Lib
/-- an entry of an index: a name, whose it is, how it binds -/
structure GEnt where
  name : ByteArray
  mem : Nat
  bind : Int
instance : Inhabited GEnt := ⟨⟨⟨#[]⟩, 0, 0⟩⟩
def entCells (x : GEnt) : List Value := [.string x.name, .int .i64 x.mem, .int .u8 x.bind]
theorem entCells_len (x : GEnt) : (entCells x).length = 3 := rfl
theorem entCells_one {l : List GEnt} : ∀ u ∈ l.flatMap entCells, u.oneCell' = true := by
  intro u hu
  obtain ⟨x, _, hx⟩ := List.mem_flatMap.1 hu
  simp only [entCells, List.mem_cons, List.not_mem_nil, or_false] at hx
  rcases hx with rfl | rfl | rfl <;> rfl
def cmpT (a b : ByteArray) : Int := if Op.bytesLess a.toList b.toList = true then -1 else if Op.bytesLess b.toList a.toList = true then 1 else 0
set_option maxHeartbeats 400000 in
theorem isNaNT_any (a : ByteArray) (w : World) : Calls Tryz.prog 106 #[.string a] w fun e w' => e = .returned (.bool false) ∧ w = w' := by
  go_enter Tryz.func106, Tryz.ntmps106
  go_wp2
  go_ret
  exact ⟨rfl, rfl⟩
theorem gtr_eq (a b : List UInt8) : (!(Op.bytesLess a b || a == b)) = Op.bytesLess b a := by
  rw [Go.Proofs.bytesLess_eq, Go.Proofs.bytesLess_eq, Bool.eq_iff_iff]
  simp only [Bool.not_eq_true', Bool.or_eq_false_iff, decide_eq_false_iff_not, beq_eq_false_iff_ne, decide_eq_true_eq]
  constructor
  · rintro ⟨h1, h2⟩
    by_cases h3 : b < a
    · exact h3
    · exact absurd (List.le_antisymm (List.not_lt.1 h3) (List.not_lt.1 h1)) h2
  · intro h1
    refine ⟨fun h2 => List.lt_irrefl _ (List.lt_trans h1 h2), fun e => ?_⟩
    rw [e] at h1; exact List.lt_irrefl _ h1
theorem binGtr (t : TypeId) (a b : ByteArray) (w : World) : (binOp .gtr t (.string a) (.string b)).run Tryz.prog w = .ok (.bool (Op.bytesLess b.toList a.toList)) w := by rw [← gtr_eq]; simp [binOp, Op.stringOp]
set_option maxHeartbeats 400000 in
theorem compareT_any (a b : ByteArray) (w : World) : Calls Tryz.prog 67 #[.string a, .string b] w fun e w' => e = .returned (.int .i64 (cmpT a b)) ∧ w = w' := by
  have HN := Lib.hid isNaNT_any
  have hgt := @binGtr
  unfold cmpT
  by_cases h1 : Op.bytesLess a.toList b.toList = true
  · rw [if_pos h1]
    go_enter Tryz.func67, Tryz.ntmps67
    go_wp2_with (go_at_call 106; refine (HN.out _ _).mono ?_; rintro e w' ⟨rfl, rfl⟩)
    go_ret
    exact ⟨rfl, rfl⟩
  · rw [if_neg h1]
    have h1' : Op.bytesLess a.toList b.toList = false := by simpa using h1
    clear h1
    have he : (!(a.toList == b.toList)) = Op.bytesLess b.toList a.toList := by have := gtr_eq a.toList b.toList; rw [h1'] at this; simpa using this
    by_cases h2 : Op.bytesLess b.toList a.toList = true
    · rw [if_pos h2]
      have e3 : (a.toList == b.toList) = false := by rw [h2] at he; simpa using he
      clear he
      go_enter Tryz.func67, Tryz.ntmps67
      go_wp2_with (go_at_call 106; refine (HN.out _ _).mono ?_; rintro e w' ⟨rfl, rfl⟩)
      go_ret
      exact ⟨rfl, rfl⟩
    · rw [if_neg h2]
      have h2' : Op.bytesLess b.toList a.toList = false := by simpa using h2
      clear h2
      have e3 : (a.toList == b.toList) = true := by rw [h2'] at he; simpa using he
      clear he
      go_enter Tryz.func67, Tryz.ntmps67
      go_wp2_with (go_at_call 106; refine (HN.out _ _).mono ?_; rintro e w' ⟨rfl, rfl⟩)
      go_ret
      exact ⟨rfl, rfl⟩
def cmpE (x y : GEnt) : Int := orI (cmpT x.name y.name) (cmpI x.mem y.mem)
def entLt (x y : GEnt) : Prop := x.name.toList < y.name.toList ∨ (x.name.toList = y.name.toList ∧ x.mem < y.mem)
theorem bytesLess_iff (a b : List UInt8) : Op.bytesLess a b = true ↔ a < b := by rw [Go.Proofs.bytesLess_eq]; simp
theorem cmpE_lt (x y : GEnt) : cmpE x y < 0 ↔ entLt x y := by
  unfold cmpE orI cmpI cmpT entLt
  by_cases h1 : x.name.toList < y.name.toList
  · rw [if_pos ((bytesLess_iff _ _).2 h1)]; simp [h1]
  · rw [if_neg (fun h => h1 ((bytesLess_iff _ _).1 h))]
    by_cases h2 : y.name.toList < x.name.toList
    · rw [if_pos ((bytesLess_iff _ _).2 h2)]
      have h3 : x.name.toList ≠ y.name.toList := fun e => by rw [e] at h2; exact List.lt_irrefl _ h2
      simp [h1, h3]
    · rw [if_neg (fun h => h2 ((bytesLess_iff _ _).1 h))]
      have h3 : x.name.toList = y.name.toList := List.le_antisymm (List.not_lt.1 h2) (List.not_lt.1 h1)
      by_cases h4 : x.mem < y.mem
      · simp [h3, h4]
      · by_cases h5 : y.mem < x.mem <;> simp [h3, h4, h5]
theorem lt_cmpE (x y : GEnt) : Go.Proofs.ltOf cmpE x y = true ↔ entLt x y := by
  unfold Go.Proofs.ltOf
  simp only [cmpE_lt, decide_eq_true_eq]
theorem lt_cmpE_no (x y : GEnt) : Go.Proofs.ltOf cmpE x y = false ↔ ¬ entLt x y := by
  rw [← lt_cmpE]; simp
theorem entLt_total (x y : GEnt) (h1 : ¬ entLt x y) (h2 : ¬ entLt y x) : x.name.toList = y.name.toList ∧ x.mem = y.mem := by
  unfold entLt at h1 h2
  simp only [not_or, not_and] at h1 h2
  have h3 : x.name.toList = y.name.toList := List.le_antisymm (List.not_lt.1 h2.1) (List.not_lt.1 h1.1)
  exact ⟨h3, by have := h1.2 h3; have := h2.2 h3.symm; omega⟩
theorem entLt_trans {x y z : GEnt} (h1 : entLt x y) (h2 : entLt y z) : entLt x z := by
  unfold entLt at *
  rcases h1 with h1 | ⟨h1, h1'⟩
  · rcases h2 with h2 | ⟨h2, -⟩
    · exact .inl (List.lt_trans h1 h2)
    · exact .inl (h2 ▸ h1)
  · rcases h2 with h2 | ⟨h2, h2'⟩
    · exact .inl (h1 ▸ h2)
    · exact .inr ⟨h1.trans h2, by omega⟩
theorem entLt_irrefl (x : GEnt) : ¬ entLt x x := by
  unfold entLt
  rintro (h | ⟨-, h⟩)
  · exact List.lt_irrefl _ h
  · omega
theorem swoE : SWO (Go.Proofs.ltOf cmpE) where
  irrefl x := by rw [lt_cmpE_no]; exact entLt_irrefl x
  trans x y z h1 h2 := by rw [lt_cmpE] at *; exact entLt_trans h1 h2
  ntrans x y z h1 h2 := by
    rw [lt_cmpE_no] at *
    intro h3
    by_cases h4 : entLt y x
    · exact h2 (entLt_trans h4 h3)
    · obtain ⟨e1, e2⟩ := entLt_total x y h1 h4
      exact h2 (by unfold entLt at h3 ⊢; rw [← e1, ← e2]; exact h3)
set_option maxHeartbeats 1000000 in
theorem orderE_any (x y : GEnt) (w : World) : Calls Tryz.prog 65 #[.agg (entCells x).toArray, .agg (entCells y).toArray] w fun e w' => e = .returned (.int .i64 (cmpE x y)) ∧ ∃ q os', w' = grow (w.drewN q) os' := by
  obtain ⟨x1, x2, x3⟩ := x
  obtain ⟨y1, y2, y3⟩ := y
  have HC := Lib.hid compareT_any
  have HD := Lib.hid compare_any
  have HO := Lib.hid or_any
  unfold cmpE entCells
  simp only []
  go_enter Tryz.func65, Tryz.ntmps65
  go_wp2
  go_region_held3 (fun w' => w'.cell? ⟨w.heap.size, 0, none⟩ = some (.string x1) ∧ w'.cell? ⟨w.heap.size, 1, none⟩ = some (.int .i64 x2) ∧ w'.cell? ⟨w.heap.size + 1, 0, none⟩ = some (.string y1) ∧ w'.cell? ⟨w.heap.size + 1, 1, none⟩ = some (.int .i64 y2)) (go_keep) (first | (go_at_call 67; refine (HC.out _ _ _).mono ?_; rintro e w' ⟨rfl, rfl⟩) | (go_at_call 68; refine (HD.out _ _ _).mono ?_; rintro e w' ⟨rfl, rfl⟩) | (go_at_call 66; refine (HO.out (cmpT x1 y1) (cmpI x2 y2) _ _ ?_ ?_).mono ?_; (simp [go_sem]); (simp [go_sem]); rintro e w' ⟨rfl, rfl⟩))
  go_wp2
  go_ret
  exact ⟨rfl, 1, _, grow_three w _ _ _⟩
theorem orderE_lays (blk off size : Nat) (w : World) : Go.Proofs.CmpLays Tryz.prog 65 #[] entCells 3 cmpE blk off size w := fun _ _ _ _ x y => orderE_any x y _
theorem flat3_get : ∀ (l : List GEnt) (t : Nat), t < l.length * 3 → (l.flatMap entCells)[t]? = some ((entCells (l.toArray[t / 3]!))[t % 3]!)
  | x :: r, 0, _ => by simp [entCells]
  | x :: r, 1, _ => by simp [entCells]
  | x :: r, 2, _ => by simp [entCells]
  | x :: r, t + 3, h => by
    have ih := flat3_get r t (by simp at h; omega)
    have e1 : (t + 3) / 3 = t / 3 + 1 := by omega
    have e2 : (t + 3) % 3 = t % 3 := by omega
    rw [e1, e2, List.flatMap_cons, show entCells x = [.string x.name, .int .i64 x.mem, .int .u8 x.bind] from rfl]
    simp only [List.cons_append, List.nil_append, List.getElem?_cons_succ]
    rw [ih]
    congr 3
    simp [Array.getElem!_eq_getD, Array.getD]
  | [], t, h => by simp at h
theorem flatE_get (l : List GEnt) (t : Nat) (h : t < l.length * 3) : (l.flatMap entCells)[t]? = some ((flatK entCells 3 l.toArray)[t]!) := by
  rw [flat3_get l t h, get_flatK entCells 3 l.toArray t (by simpa using h)]
/-- a row of entries of one's own -/
def EntRow (base : Nat) (w : World) (v : Value) (l : List GEnt) : Prop := w.ownsRow base 47 3 v l.length (l.flatMap entCells)
theorem cellsEnt_len (l : List GEnt) : (l.flatMap entCells).length = l.length * 3 := by
  induction l with
  | nil => rfl
  | cons p r ih => simp only [List.flatMap_cons, List.length_append, List.length_cons, entCells_len] at *; omega
theorem holdsE_of_row {base : Nat} {w : World} {l : List GEnt} {g cap : Nat} (h : EntRow base w (.slice (some ⟨g, 0, none⟩) l.length cap) l) : HoldsK entCells 3 w g 0 l.toArray := by
  intro j hj
  rw [size_flatK] at hj
  have hj' : j < l.length * 3 := by simpa using hj
  have h1 := flatE_get _ j hj'
  have h2 := World.ownsRow.cells h (g := g) rfl j _ h1
  rw [add_at, Nat.zero_add] at h2
  refine ⟨by rw [Nat.zero_add]; exact h2, ?_⟩
  rcases h.2 with ⟨h3, -⟩ | ⟨g', cap', cur, h3, -, h4, -⟩
  · cases h3
  · cases h3; exact Lib.frozen_of_heap h4 _
theorem sortedE_block {w : World} {g n : Nat} {D : Array GEnt} {os : Array Obj} {cur : Array Value} {e : TypeId} (h : w.heap[g]? = some (.cells cur e (0, 0))) :
    (sortWorldK entCells 3 w g 0 n D os).heap[g]? = some (.cells (putCells id 0 (flatK entCells 3 D) cur) e (0, 0)) := by
  have hlt := (Array.getElem?_eq_some_iff.1 h).1
  unfold sortWorldK putRowK putRow grow mapBlock Sort.ahead
  rw [Array.getElem?_append_left (by simpa using hlt), Array.getElem?_modify]
  simp only [if_true]
  rw [h]
  rfl
theorem sortedE_other {w : World} {g n : Nat} {D : Array GEnt} {os : Array Obj} {k : Nat} (hk : k < w.heap.size) (hne : k ≠ g) : (sortWorldK entCells 3 w g 0 n D os).heap[k]? = w.heap[k]? := by
  unfold sortWorldK putRowK putRow grow mapBlock Sort.ahead
  rw [Array.getElem?_append_left (by simpa using hk), Array.getElem?_modify, if_neg (fun e => hne e.symm)]
theorem sortedE_size {w : World} {g n : Nat} {D : Array GEnt} {os : Array Obj} : w.heap.size ≤ (sortWorldK entCells 3 w g 0 n D os).heap.size := by
  unfold sortWorldK putRowK putRow grow mapBlock Sort.ahead
  simp
theorem rowE_put {base : Nat} {w : World} {l l' : List GEnt} {g cap n : Nat} {os : Array Obj} (h : EntRow base w (.slice (some ⟨g, 0, none⟩) l.length cap) l) (hl : l'.length = l.length) :
    EntRow base (sortWorldK entCells 3 w g 0 n l'.toArray os) (.slice (some ⟨g, 0, none⟩) l.length cap) l' := by
  refine ⟨cellsEnt_len l', ?_⟩
  rcases h.2 with ⟨h3, -⟩ | ⟨g', cap', cur, h3, hb, h4, h5, h6, h7, h8⟩
  · cases h3
  · cases h3
    refine .inr ⟨g, cap, putCells id 0 (flatK entCells 3 l'.toArray) cur, by rw [hl], hb, sortedE_block h4, by omega, h6, by simp [putCells, h7], ?_⟩
    apply List.ext_getElem?
    intro t
    by_cases ht : t < l'.length * 3
    · have h9 := flatE_get l' t ht
      rw [h9, List.getElem?_take, if_pos ht]
      have hc : t < cur.size := by omega
      simp [putCells, hc]
      omega
    · rw [List.getElem?_eq_none (by simp; omega), List.getElem?_eq_none (by rw [cellsEnt_len]; omega)]
theorem orderE_enters (args : Array Value) (w : World) : (callFunc 65 args).run Tryz.prog w = .ok (.enter 65 args) w := enters_of Tryz.func65 (by kernel_rfl) rfl args w
set_option maxRecDepth 100000 in
theorem sortE_any (base : Nat) (v : Value) (l : List GEnt) (w : World) (h : EntRow base w v l) (hl : l.length ≤ 1000000000) :
    Calls Tryz.prog 64 #[v, .func (.func 65) #[] #[]] w fun e w' => e = .returned (.tuple #[]) ∧ ∃ l', l'.Perm l ∧ EntRow base w' v l' ∧ KB (fun k => v.ownBlock = some k) w w' := by
  by_cases h0 : l.length = 0
  · obtain ⟨p, c, rfl⟩ := own_shape h
    obtain rfl : l = [] := List.eq_nil_of_length_eq_zero h0
    have hcon := Go.Proofs.AnyF.slices_SortFunc_none Tryz.sortEntries p c (.func (.func 65) #[] #[]) w
    change Calls Tryz.prog 64 _ _ _ at hcon
    refine hcon.mono ?_
    rintro e w' ⟨rfl, rfl⟩
    exact ⟨rfl, [], .refl _, h, KB.refl _ _⟩
  · obtain ⟨g, cap, rfl, hbg, hgl⟩ := World.ownsRow.form h (by omega)
    have hsz : l.toArray.size = l.length := by simp
    have hcon := Go.Proofs.AnyQ.slices_SortFunc Tryz.sortEntries 3 Tryz.isAgg47 Tryz.sizeOf47 entCells (fun _ => rfl) (fun x v hv => entCells_one (l := [x]) v (by simpa using hv)) cmpE swoE 65 #[] g 0 cap l.toArray w orderE_enters (orderE_lays g 0 _ w) (holdsE_of_row h) hgl (by rw [hsz]; omega)
    change Calls Tryz.prog 64 _ _ _ at hcon
    rw [hsz] at hcon
    refine hcon.mono ?_
    rintro e w' ⟨rfl, d', n, os, hp, hs, rfl⟩
    have hpp : d'.toList.Perm l := by
      have h3 := hp.2.2
      have hz := hp.1
      rw [hsz] at hz
      rw [Array.extract_eq_self_of_le (by omega), Array.extract_eq_self_of_le (by rw [hsz]; omega)] at h3
      exact h3
    obtain ⟨dl, rfl⟩ : ∃ dl : List GEnt, d' = dl.toArray := ⟨d'.toList, by simp⟩
    simp only [] at hpp
    refine ⟨rfl, dl, hpp, rowE_put h hpp.length_eq, ⟨rfl, rfl, rfl, sortedE_size, fun k hk hne => sortedE_other hk fun e => hne (by rw [e]; rfl)⟩⟩
end Go.Proofs.YtboegjdkedjhcaaGreatDoor
namespace Go.Proofs.YtboegjdkedjhcaaGreatDoor
open Go.RowKit
/-- divided by 256 so often -/
def dv : Nat → Int → Int
  | 0, v => v
  | i + 1, v => dv i (v / 256)
theorem dv_succ : ∀ (i : Nat) (v : Int), dv (i + 1) v = dv i v / 256
  | 0, _ => rfl
  | i + 1, v => by rw [dv, dv_succ i, dv]
theorem dv_zero : ∀ (n : Nat) (v : Int), 0 ≤ v → v < pow256 n → dv n v = 0
  | 0, v, h0, h1 => by simp only [pow256] at h1; simp only [dv]; omega
  | n + 1, v, h0, h1 => by simp only [pow256] at h1; simp only [dv]; exact dv_zero n _ (by omega) (by omega)
theorem dv_bd : ∀ (i : Nat) (v : Int), 0 ≤ v → 0 ≤ dv i v ∧ dv i v ≤ v
  | 0, v, h => ⟨h, Int.le_refl _⟩
  | i + 1, v, h => by have := dv_bd i (v / 256) (by omega); simp only [dv]; omega
theorem leB_snoc : ∀ (i : Nat) (v : Int), leB (i + 1) v = leB i v ++ [UInt8.ofNat (dv i v % 256).toNat]
  | 0, _ => rfl
  | i + 1, v => by
    rw [leB, leB_snoc i (v / 256)]; rfl
set_option maxHeartbeats 1000000 in
set_option maxRecDepth 100000 in
theorem rnum07 (n : Nat) (v : Int) (w : World) (hn : 1 ≤ n) (hn4 : n ≤ 4) (h0 : 0 ≤ v) (h1 : v < pow256 n) (h2 : v ≤ 4294967295) : Calls Tryz.prog 82 #[.int .u32 v, .int .i64 n] w fun e w' => e = .returned (.tuple #[.string (bsOf (leB n v)), .int .i64 0]) ∧ Below w.heap.size w w' := by
  obtain ⟨i0, hi, hz0, hz1, hz2⟩ := info_parts info_byte
  have HI := Lib.hid (And.intro hi (And.intro hz0 (And.intro hz1 hz2)))
  clear hi hz0 hz1 hz2
  have HZ := Lib.hid (dv_zero n v h0 h1)
  clear h1
  have d1 : decide ((n : Int) < 1) = false := by simp; omega
  have d4 : decide ((4 : Int) < (n : Int)) = false := by simp; omega
  have d4' : decide (4 < n) = false := by simp; omega
  go_enter Tryz.func82, Tryz.ntmps82
  go_wp2
  go_loopw [0, 6, 7] (fun v0 v6 v7 wr => ∃ i : Nat, i ≤ n ∧ v7 = .int .i64 i ∧ v0 = .int .u32 (dv i v) ∧ wr.ownsRow w.heap.size 5 1 v6 i (Lib.byteCells (leB i v)) ∧ Below w.heap.size w wr) (fun _ _ v7 _ => n - (intOf v7).toNat)
  case atStart => exact ⟨0, Nat.zero_le _, rfl, rfl, World.ownsRow_nil _ _ _ _, Below.refl _ _⟩
  case round =>
    obtain ⟨i, hi, rfl, rfl, hown, hbel⟩ := hrel
    have HOWN := Lib.hid hown; clear hown
    have HB := Lib.hid hbel; clear hbel
    have hsz := HB.out.size
    have hdv := dv_bd i v h0
    by_cases hlt : i < n
    · have HS := Lib.hid (leB_snoc i v)
      have HD := Lib.hid (dv_succ i v)
      generalize dv i v = d at hdv HS HD
      go_wp2_with (at_builtin; refine wpList_append_own _ rfl _ _ 81 rfl w.heap.size 5 i0 (.int .u8 0) 1 1 Tryz.underlying81 HI.out.1 HI.out.2.1 HI.out.2.2.1 HI.out.2.2.2 rfl (by decide) _ _ _ rfl (HOWN.out.alloc _) ⟨wr.heap.size, 0, none⟩ 1 1 [.int .u8 (d % 256)] rfl rfl ?c1 ?c2 ?c3 ?c4 ?c5 ?_)
      case c1 =>
        intro j u hj
        match j, hj with
        | 0, hj => simp at hj; subst hj; simp [Addr.add]
      case c2 => intro u hu; simp at hu; subst hu; rfl
      case c3 => unfold maxLen; omega
      case c4 => omega
      case c5 => simp; omega
      intro v' w2 hown' hgrow _
      have HO2 : Hid (w2.ownsRow w.heap.size 5 1 v' (i + 1) (Lib.byteCells (leB (i + 1) v))) := by
        have e : ((UInt8.ofNat (d % 256).toNat).toNat : Int) = d % 256 := by rw [u8_ofNat _ (by omega)]; omega
        rw [Hid, HS.out, show Lib.byteCells (leB i v ++ [UInt8.ofNat (d % 256).toNat]) = Lib.byteCells (leB i v) ++ [.int .u8 (d % 256)] by simp only [Lib.byteCells, List.map_append, List.map_cons, List.map_nil, e]]
        exact hown'
      have HB2 := Lib.hid ((HB.out.alloc hsz _).grown hgrow (by simp; omega) (fun k hk => (HOWN.out.lt k hk).1))
      clear hown' hgrow HOWN HB HS
      go_wp2
      go_roundw
      case rel => exact ⟨i + 1, by omega, by go_num, by rw [HD.out], HO2.out, HB2.out⟩
      case measure => simp [intOf]; omega
    · obtain rfl : i = n := by omega
      rw [HZ.out]
      obtain ⟨g, cap, hu6⟩ : ∃ g cap, u6 = .slice (some ⟨g, 0, none⟩) i cap := by
        rcases HOWN.out.2 with ⟨-, h⟩ | ⟨g, cap, cur, h, -⟩
        · omega
        · exact ⟨g, cap, h⟩
      subst hu6
      have hk := run_convert_bytes_back (P := Tryz.prog) wr 81 9 5 ⟨g, 0, none⟩ cap (leB i v) Tryz.underlying81 Tryz.underlying5 Tryz.underlying9 (fun j hj => HOWN.out.cells (g := g) rfl j _ (by simp [Lib.byteCells, List.getElem?_eq_getElem hj]))
      rw [leB_length] at hk
      go_wp2
      go_ret2
      exact ⟨rfl, HB.out⟩
set_option maxHeartbeats 400000 in
set_option maxRecDepth 100000 in
theorem rtext07 (s : ByteArray) (w : World) (hs : s.size < 65536) : Calls Tryz.prog 39 #[.string s] w fun e w' => e = .returned (.tuple #[.string (bsOf (encText s)), .int .i64 0]) ∧ Below w.heap.size w w' := by
  have d1 : decide ((65535 : Int) < (s.size : Int)) = false := by simp; omega
  have HQ : Hid (∀ W : World, W.cell? ⟨w.heap.size, 0, none⟩ = some (.int .u8 ((s.size : Int) % 256)) → W.cell? ⟨w.heap.size, 1, none⟩ = some (.int .u8 ((s.size : Int) / 256)) → (convert 81 9 (.slice (some ⟨w.heap.size, 0, none⟩) 2 2)).run Tryz.prog W = .ok (.string (bsOf (leB 2 s.size))) W) := fun W q0 q1 => by
    refine run_convert_bytes_back (P := Tryz.prog) W 81 9 5 ⟨w.heap.size, 0, none⟩ 2 (leB 2 s.size) Tryz.underlying81 Tryz.underlying5 Tryz.underlying9 (fun j hj => ?_)
    rw [leB_get (by omega) hj, add_at]
    rw [leB_length] at hj
    have h2 : j = 0 ∨ j = 1 := by omega
    rcases h2 with rfl | rfl
    · simp only [Nat.add_zero, List.getD_cons_zero]; exact q0
    · simp only [Nat.zero_add, List.getD_cons_succ, List.getD_cons_zero]; rw [q1]; congr 2; omega
  have hk := HQ.out (w.alloc (.cells #[.int .u8 ((s.size : Int) % 256), .int .u8 ((s.size : Int) / 256)] 5)) (by simp [go_sem]) (by simp [go_sem])
  have hcat : ¬ 9223372036854775807 < (bsOf (leB 2 s.size)).size + s.size := by rw [bsOf_size, leB_length]; omega
  clear HQ
  go_enter Tryz.func39, Tryz.ntmps39
  go_wp2
  go_ret2
  exact ⟨by rw [bsOf_app]; rfl, alloc_old w _⟩
end Go.Proofs.YtboegjdkedjhcaaGreatDoor
namespace Go.Proofs.YtboegjdkedjhcaaGreatDoor
open Go.RowKit
set_option maxHeartbeats 400000 in
set_option maxRecDepth 100000 in
theorem rnum09 (n : Nat) (v : Int) (w : World) (hn : 1 ≤ n) (hn4 : n ≤ 4) (h0 : 0 ≤ v) (h1 : v < pow256 n) (h2 : v ≤ 4294967295) : Calls Tryz.prog 84 #[.int .u32 v, .int .i64 n] w fun e w' => e = .returned (.string (bsOf (leB n v))) ∧ Below w.heap.size w w' := by
  have HC := Lib.hid (rnum07 n v w hn hn4 h0 h1 h2)
  clear h1
  go_enter Tryz.func84, Tryz.ntmps84
  go_wp2_with fail
  refine HC.out.mono ?_
  rintro e w1 ⟨rfl, hB⟩
  go_wp2
  go_ret
  exact ⟨rfl, hB⟩
set_option maxHeartbeats 400000 in
theorem rtext09 (s : ByteArray) (w : World) (hs : s.size < 65536) : Calls Tryz.prog 83 #[.string s] w fun e w' => e = .returned (.string (bsOf (encText s))) ∧ Below w.heap.size w w' := by
  have HC := Lib.hid (rtext07 s w hs)
  go_enter Tryz.func83, Tryz.ntmps83
  go_wp2_with fail
  refine HC.out.mono ?_
  rintro e w1 ⟨rfl, hB⟩
  go_wp2
  go_ret
  exact ⟨rfl, hB⟩
end Go.Proofs.YtboegjdkedjhcaaGreatDoor
