/- A row of one-cell elements of one's own, read by an encoding, under slices.Sort and slices.Compact. No program in sight. The manifest of notes (layer 11), in plain words: gathered, sorted, each port once. No program in sight. A row of integers of one's own under slices.Sort and slices.Compact. No program in sight but its types. slices.Compact at a row of uint16 of one's own, and what is asked of slices.Sort. slices.Sort at an empty row of uint16. -/
import Derived.Test.YtboegjdkedjhcaaGreatDoorBd03
import Derived.Test.YtboegjdkedjhcaaGreatDoorBd04
import Derived.Lib.Builder
import Derived.Lib.SlicesCompact
import Derived.Sort.Row
import Derived.Sort.Walk13
import Derived.Test.YtboegjdkedjhcaaGreatDoorBd02
import Derived.Test.YtboegjdkedjhcaaGreatDoorEqLay
import Derived.Lib.Hide
import Derived.Test.YtboegjdkedjhcaaGreatDoorRows
namespace Go.Proofs.YtboegjdkedjhcaaGreatDoor
open Go.RowKit Go.Sort Go.Lib
variable {α : Type} {enc : α → Value} {e : TypeId}
def cellsE {α : Type} (enc : α → Value) (l : List α) : List Value := l.map enc
def ERow {α : Type} (enc : α → Value) (e : TypeId) (base : Nat) (w : World) (v : Value) (l : List α) : Prop := w.ownsRow base e 1 v l.length (cellsE enc l)
theorem cellsE_length (l : List α) : (cellsE enc l).length = l.length := by simp [cellsE]
theorem ERow.holds [Inhabited α] {base : Nat} {w : World} {l : List α} {g cap : Nat} (h : ERow enc e base w (.slice (some ⟨g, 0, none⟩) l.length cap) l) : Holds enc w g 0 l.toArray := by
  intro j hj
  have hj' : j < l.length := by simpa using hj
  have h1 : (cellsE enc l)[j]? = some (enc l[j]) := by simp [cellsE, hj']
  have h2 := World.ownsRow.cells h (g := g) rfl j _ h1
  rw [show ((⟨g, 0, none⟩ : Addr).add j) = ⟨g, j, none⟩ by unfold Addr.add; by_cases hz : j = 0 <;> simp [hz]] at h2
  refine ⟨by rw [Nat.zero_add]; simpa [hj'] using h2, ?_⟩
  rcases h.2 with ⟨h3, -⟩ | ⟨g', cap', cur, h3, -, h4, -⟩
  · cases h3
  · cases h3; exact Lib.frozen_of_heap h4 _
theorem putRowE_block [Inhabited α] {w : World} {g n : Nat} {D : Array α} {os : Array Obj} {cur : Array Value} (h : w.heap[g]? = some (.cells cur e (0, 0))) :
    (grow (putRow enc (Sort.ahead w n) g 0 D) os).heap[g]? = some (.cells (putCells enc 0 D cur) e (0, 0)) := by
  have hlt := (Array.getElem?_eq_some_iff.1 h).1
  unfold putRow grow mapBlock Sort.ahead
  rw [Array.getElem?_append_left (by simpa using hlt), Array.getElem?_modify]
  simp only [if_true]
  rw [h]
  rfl
theorem putRowE_far [Inhabited α] {w : World} {g n : Nat} {D : Array α} {os : Array Obj} {k : Nat} (hk : k < w.heap.size) (hne : k ≠ g) : (grow (putRow enc (Sort.ahead w n) g 0 D) os).heap[k]? = w.heap[k]? := by
  unfold putRow grow mapBlock Sort.ahead
  rw [Array.getElem?_append_left (by simpa using hk), Array.getElem?_modify, if_neg (fun e => hne e.symm)]
theorem putRowE_size [Inhabited α] {w : World} {g n : Nat} {D : Array α} {os : Array Obj} : w.heap.size ≤ (grow (putRow enc (Sort.ahead w n) g 0 D) os).heap.size := by
  unfold putRow grow mapBlock Sort.ahead
  simp
/-- the row behind the writing: its first part -/
theorem ERow.put [Inhabited α] {base : Nat} {w : World} {l D l' : List α} {g cap n : Nat} {os : Array Obj} (h : ERow enc e base w (.slice (some ⟨g, 0, none⟩) l.length cap) l) (hD : D.length = l.length) (hl : l' = D.take l'.length) :
    ERow enc e base (grow (putRow enc (Sort.ahead w n) g 0 D.toArray) os) (.slice (some ⟨g, 0, none⟩) l'.length cap) l' := by
  have hle : l'.length ≤ D.length := by
    have := congrArg List.length hl
    rw [List.length_take] at this; omega
  refine ⟨by rw [cellsE_length]; omega, ?_⟩
  rcases h.2 with ⟨h3, -⟩ | ⟨g', cap', cur, h3, hb, h4, h5, h6, h7, h8⟩
  · cases h3
  · cases h3
    refine .inr ⟨g, cap, putCells enc 0 D.toArray cur, rfl, hb, putRowE_block h4, by omega, h6, by simp [putCells, h7], ?_⟩
    apply List.ext_getElem?
    intro t
    by_cases ht : t < l'.length
    · have hc : t < cur.size := by omega
      have ht2 : t < D.length := by omega
      have e1 : l'[t]? = some D[t] := by rw [hl, List.getElem?_take, if_pos (by omega)]; simp [ht2]
      rw [List.getElem?_take, if_pos (by omega)]
      simp [putCells, hc, cellsE, e1, ht2]
    · rw [List.getElem?_eq_none (by simp; omega), List.getElem?_eq_none (by rw [cellsE_length]; omega)]
theorem putRowE_kb [Inhabited α] {w : World} {g n : Nat} {D : Array α} {os : Array Obj} {cap m : Nat} : KB (fun k => (Value.slice (some ⟨g, 0, none⟩) m cap).ownBlock = some k) w (grow (putRow enc (Sort.ahead w n) g 0 D) os) :=
  ⟨rfl, rfl, rfl, putRowE_size, fun k hk hne => putRowE_far hk fun e => hne (by rw [e]; rfl)⟩
end Go.Proofs.YtboegjdkedjhcaaGreatDoor
namespace Go.Proofs.YtboegjdkedjhcaaGreatDoor
structure GMan where
  pages : Int
  exts : List (Int × Int)
  ports : List Int
  cons : Bool
def man0 : GMan := ⟨0, [], [], false⟩
/-- what a gatherer has -/
structure Gat where
  pages : Int
  ports : List Int
  cons : Bool
  blocks : List Int
def gat0 : Gat := ⟨0, [], false, List.replicate 16 0⟩
def gatNote (g : Gat) (x : GNote) : Gat :=
  if x.kind = 1 then { g with pages := max g.pages x.n }
  else if x.kind = 2 then { g with blocks := g.blocks.set x.n.toNat (max (g.blocks[x.n.toNat]?.getD 0) x.m) }
  else if x.kind = 3 then { g with ports := g.ports ++ [x.n] }
  else { g with cons := true }
def gatAll (l : List GNote) : Gat := l.foldl gatNote gat0
def sortI (l : List Int) : List Int := l.mergeSort fun x y => decide (x ≤ y)
def onceI (l : List Int) : List Int := Lib.compact l
/-- the extents of a gatherer, from place k on -/
def extsFrom : Nat → List Int → List (Int × Int)
  | _, [] => []
  | k, n :: r => if 0 < n then ((k : Int), n) :: extsFrom (k + 1) r else extsFrom (k + 1) r
def gatMan (g : Gat) : GMan := ⟨g.pages, extsFrom 0 g.blocks, onceI (sortI g.ports), g.cons⟩
def gatEnd (g : Gat) : GMan × Int := if 16 < (gatMan g).ports.length then (man0, 4) else (gatMan g, 0)
def demandR (l : List GNote) : GMan × Int := if l.all noteOk = true then gatEnd (gatAll l) else (man0, 2)
theorem noteOk_kinds {x : GNote} (h : noteOk x = true) : (x.kind = 1 ∧ x.n ≤ 1024 ∧ x.m = 0) ∨ (x.kind = 2 ∧ x.n < 16 ∧ 1 ≤ x.m ∧ x.m ≤ 1024) ∨ (x.kind = 3 ∧ 1 ≤ x.n ∧ x.n ≤ 65535 ∧ x.m = 0) ∨ (x.kind = 4 ∧ x.n = 0 ∧ x.m = 0) := by
  unfold noteOk at h
  split at h
  · left; simp at h; omega
  · split at h
    · right; left; simp at h; omega
    · split at h
      · right; right; left; simp at h; omega
      · split at h
        · right; right; right; simp at h; omega
        · cases h
/-- what a gatherer may have -/
structure GatOk (g : Gat) : Prop where
  p0 : 0 ≤ g.pages
  p1 : g.pages ≤ 1024
  n : g.blocks.length = 16
  b : ∀ x ∈ g.blocks, 0 ≤ x ∧ x ≤ 1024
  q : ∀ x ∈ g.ports, 1 ≤ x ∧ x ≤ 65535
theorem gat0_ok : GatOk gat0 := ⟨by simp [gat0], by simp [gat0], by simp [gat0], fun x hx => by simp [gat0] at hx; omega, fun x hx => by simp [gat0] at hx⟩
theorem gatNote_ok {g : Gat} {x : GNote} (h : GatOk g) (hx : noteOk x = true) (h0 : 0 ≤ x.n) : GatOk (gatNote g x) := by
  rcases noteOk_kinds hx with ⟨e, h1, h2⟩ | ⟨e, h1, h2, h3⟩ | ⟨e, h1, h2, h3⟩ | ⟨e, h1, h2⟩
  · unfold gatNote
    rw [if_pos e]
    have := h.p0; have := h.p1
    exact ⟨by simp only []; omega, by simp only []; omega, h.n, h.b, h.q⟩
  · unfold gatNote
    rw [if_neg (by omega), if_pos e]
    refine ⟨h.p0, h.p1, by simp [h.n], ?_, h.q⟩
    intro y hy
    rcases List.mem_or_eq_of_mem_set hy with hy | rfl
    · exact h.b y hy
    · have : (g.blocks[x.n.toNat]?.getD 0) ≤ 1024 := by
        cases hg : g.blocks[x.n.toNat]? with
        | none => simp
        | some v => exact (h.b v (List.mem_of_getElem? hg)).2
      omega
  · unfold gatNote
    rw [if_neg (by omega), if_neg (by omega), if_pos e]
    refine ⟨h.p0, h.p1, h.n, h.b, ?_⟩
    intro y hy
    rcases List.mem_append.1 hy with hy | hy
    · exact h.q y hy
    · simp at hy; omega
  · unfold gatNote
    rw [if_neg (by omega), if_neg (by omega), if_neg (by omega)]
    exact ⟨h.p0, h.p1, h.n, h.b, h.q⟩
theorem gatNote_len (g : Gat) (x : GNote) : (gatNote g x).ports.length ≤ g.ports.length + 1 := by
  unfold gatNote
  split
  · simp
  · split
    · simp
    · split <;> simp
end Go.Proofs.YtboegjdkedjhcaaGreatDoor
namespace Go.Proofs.YtboegjdkedjhcaaGreatDoor
open Go.RowKit Go.Sort Go.Lib
variable {K : IntKind} {e : TypeId}
def cellsU (K : IntKind) (l : List Int) : List Value := l.map (.int K)
def URow (K : IntKind) (e : TypeId) (base : Nat) (w : World) (v : Value) (l : List Int) : Prop := w.ownsRow base e 1 v l.length (cellsU K l)
theorem cellsU_length (l : List Int) : (cellsU K l).length = l.length := by simp [cellsU]
theorem URow.holds {base : Nat} {w : World} {l : List Int} {g cap : Nat} (h : URow K e base w (.slice (some ⟨g, 0, none⟩) l.length cap) l) : Holds (Value.int K) w g 0 l.toArray := by
  intro j hj
  have hj' : j < l.length := by simpa using hj
  have h1 : (cellsU K l)[j]? = some (.int K l[j]) := by simp [cellsU, hj']
  have h2 := World.ownsRow.cells h (g := g) rfl j _ h1
  rw [show ((⟨g, 0, none⟩ : Addr).add j) = ⟨g, j, none⟩ by unfold Addr.add; by_cases hz : j = 0 <;> simp [hz]] at h2
  refine ⟨by rw [Nat.zero_add]; simpa [hj'] using h2, ?_⟩
  rcases h.2 with ⟨h3, -⟩ | ⟨g', cap', cur, h3, -, h4, -⟩
  · cases h3
  · cases h3; exact Lib.frozen_of_heap h4 _
theorem putRow_block {w : World} {g n : Nat} {D : Array Int} {os : Array Obj} {cur : Array Value} (h : w.heap[g]? = some (.cells cur e (0, 0))) :
    (grow (putRow (Value.int K) (Sort.ahead w n) g 0 D) os).heap[g]? = some (.cells (putCells (Value.int K) 0 D cur) e (0, 0)) := by
  have hlt := (Array.getElem?_eq_some_iff.1 h).1
  unfold putRow grow mapBlock Sort.ahead
  rw [Array.getElem?_append_left (by simpa using hlt), Array.getElem?_modify]
  simp only [if_true]
  rw [h]
  rfl
theorem putRow_far {w : World} {g n : Nat} {D : Array Int} {os : Array Obj} {k : Nat} (hk : k < w.heap.size) (hne : k ≠ g) : (grow (putRow (Value.int K) (Sort.ahead w n) g 0 D) os).heap[k]? = w.heap[k]? := by
  unfold putRow grow mapBlock Sort.ahead
  rw [Array.getElem?_append_left (by simpa using hk), Array.getElem?_modify, if_neg (fun e => hne e.symm)]
theorem putRow_size {w : World} {g n : Nat} {D : Array Int} {os : Array Obj} : w.heap.size ≤ (grow (putRow (Value.int K) (Sort.ahead w n) g 0 D) os).heap.size := by
  unfold putRow grow mapBlock Sort.ahead
  simp
/-- the row behind the writing: its first part -/
theorem URow.put {base : Nat} {w : World} {l D l' : List Int} {g cap n : Nat} {os : Array Obj} (h : URow K e base w (.slice (some ⟨g, 0, none⟩) l.length cap) l) (hD : D.length = l.length) (hl : l' = D.take l'.length) :
    URow K e base (grow (putRow (Value.int K) (Sort.ahead w n) g 0 D.toArray) os) (.slice (some ⟨g, 0, none⟩) l'.length cap) l' := by
  have hle : l'.length ≤ D.length := by
    have := congrArg List.length hl
    rw [List.length_take] at this; omega
  refine ⟨by rw [cellsU_length]; omega, ?_⟩
  rcases h.2 with ⟨h3, -⟩ | ⟨g', cap', cur, h3, hb, h4, h5, h6, h7, h8⟩
  · cases h3
  · cases h3
    refine .inr ⟨g, cap, putCells (Value.int K) 0 D.toArray cur, rfl, hb, putRow_block h4, by omega, h6, by simp [putCells, h7], ?_⟩
    apply List.ext_getElem?
    intro t
    by_cases ht : t < l'.length
    · have hc : t < cur.size := by omega
      have ht2 : t < D.length := by omega
      have e1 : l'[t]? = some D[t] := by rw [hl, List.getElem?_take, if_pos (by omega)]; simp [ht2]
      rw [List.getElem?_take, if_pos (by omega)]
      simp [putCells, hc, cellsU, e1, ht2]
    · rw [List.getElem?_eq_none (by simp; omega), List.getElem?_eq_none (by rw [cellsU_length]; omega)]
theorem putRow_kb {w : World} {g n : Nat} {D : Array Int} {os : Array Obj} {cap m : Nat} : KB (fun k => (Value.slice (some ⟨g, 0, none⟩) m cap).ownBlock = some k) w (grow (putRow (Value.int K) (Sort.ahead w n) g 0 D) os) :=
  ⟨rfl, rfl, rfl, putRow_size, fun k hk hne => putRow_far hk fun e => hne (by rw [e]; rfl)⟩
end Go.Proofs.YtboegjdkedjhcaaGreatDoor
namespace Go.Proofs.YtboegjdkedjhcaaGreatDoor
open Go.RowKit Go.Sort Go.Lib
theorem sortI_length (l : List Int) : (sortI l).length = l.length := by simp [sortI]
/-- what slices.Sort does to a row of uint16 of one's own -/
def S16 (l : List Int) : Prop := ∀ (base : Nat) (v : Value) (w : World), URow .u16 144 base w v l → l.length ≤ 100000 →
    Calls Tryz.prog 208 #[v] w fun e w' => e = .returned (.tuple #[]) ∧ URow .u16 144 base w' v (sortI l) ∧ KB (fun k => v.ownBlock = some k) w w'
theorem compactUpTo_le (d : Array Int) : (compactUpTo d d.size).length ≤ d.size := by
  unfold compactUpTo
  rw [List.length_map]
  exact Nat.le_trans (List.length_filter_le _ _) (by simp)
set_option maxRecDepth 100000 in
theorem compact16_row (base : Nat) (v : Value) (l : List Int) (w : World) (h : URow .u16 144 base w v l) (hl : l.length ≤ 100000) :
    Calls Tryz.prog 209 #[v] w fun e w' => ∃ v', e = .returned v' ∧ URow .u16 144 base w' v' (onceI l) ∧ v'.ownBlock = v.ownBlock ∧ KB (fun k => v.ownBlock = some k) w w' := by
  by_cases h0 : l.length = 0
  · obtain ⟨p, c, rfl⟩ := own_shape h
    obtain rfl : l = [] := List.eq_nil_of_length_eq_zero h0
    have HH := Lib.hid h; clear h
    go_enter Tryz.func209, Tryz.ntmps209
    go_wp2
    go_ret
    exact ⟨_, rfl, HH.out, rfl, KB.refl _ _⟩
  · obtain ⟨g, cap, rfl, hbg, hgl⟩ := World.ownsRow.form h (by omega)
    have hsz : l.toArray.size = l.length := by simp
    have hcap : l.length ≤ cap := by
      rcases h.2 with ⟨h3, -⟩ | ⟨g', cap', cur, h3, -, -, h5, -⟩
      · cases h3
      · cases h3; exact h5
    have hcon := Go.Proofs.AnyE.slices_Compact Tryz.compact16 (Value.int .u16) (fun _ => rfl) (EqlAt.intD _ _ .u16) (NeqAt.intD _ _ .u16) 0 Tryz.zeroValue144 g 0 cap l.toArray w h.holds (by rw [hsz]; omega) (by rw [hsz]; exact hcap)
    change Calls Tryz.prog 209 _ _ _ at hcon
    have hle := compactUpTo_le l.toArray
    have he : compactUpTo l.toArray l.toArray.size = onceI l := by rw [hsz]; rfl
    rw [he, hsz] at hcon
    rw [he, hsz] at hle
    refine hcon.mono ?_
    rintro e w' ⟨rfl, n, rfl⟩
    have hp := URow.put (n := n) (os := #[]) (D := onceI l ++ List.replicate (l.length - (onceI l).length) 0) (l' := onceI l) h (by simp; omega) (by rw [List.take_append_of_le_length (Nat.le_refl _), List.take_length])
    have hk := putRow_kb (K := .u16) (w := w) (g := g) (n := n) (D := (onceI l ++ List.replicate (l.length - (onceI l).length) 0).toArray) (os := #[]) (cap := cap) (m := l.length)
    rw [grow_empty] at hp hk
    exact ⟨_, rfl, hp, rfl, hk⟩
end Go.Proofs.YtboegjdkedjhcaaGreatDoor
namespace Go.Proofs.YtboegjdkedjhcaaGreatDoor
open Go.RowKit Go.Lib
set_option maxRecDepth 100000 in
theorem len64_zero (w : World) : Calls Tryz.prog 142 #[.int .u64 0] w fun e w' => e = .returned (.int .i64 0) ∧ w = w' := by
  go_enter Tryz.func142, Tryz.ntmps142
  go_wp2
  go_ret
  refine ⟨?_, rfl⟩
  show Ending.returned (.int .i64 (wrap64 (wrap64 (len8 0)))) = _
  rw [show wrap64 (wrap64 (len8 0)) = 0 by decide +kernel]
theorem len_zero (w : World) : Calls Tryz.prog 105 #[.int .u64 0] w fun e w' => e = .returned (.int .i64 0) ∧ w = w' := by
  go_enter Tryz.func105, Tryz.ntmps105
  go_wp2_with (go_at_call 142; refine (len64_zero _).mono ?_; rintro e w' ⟨rfl, rfl⟩)
  go_ret
  exact ⟨rfl, rfl⟩
theorem ins_nil (p : Option Addr) (c : Nat) (w : World) : Calls Tryz.prog 239 #[.slice p 0 c, .int .i64 0, .int .i64 0] w fun e w' => e = .returned (.tuple #[]) ∧ w = w' := by
  go_enter Tryz.func239, Tryz.ntmps239
  go_wp2
  go_loop [6] (fun v => v = .int .i64 1) (fun _ => 0)
  case atStart => rfl
  case round =>
    subst hrel
    go_wp2
    go_end0
    exact ⟨rfl, rfl⟩
theorem pdq_nil (p : Option Addr) (c : Nat) (w : World) : Calls Tryz.prog 230 #[.slice p 0 c, .int .i64 0, .int .i64 0, .int .i64 0] w fun e w' => e = .returned (.tuple #[]) ∧ w = w' := by
  go_enter Tryz.func230, Tryz.ntmps230
  go_wp2
  go_loop [1, 2] (fun a b => a = .int .i64 0 ∧ b = .int .i64 0) (fun _ _ => 0)
  case atStart => exact ⟨rfl, rfl⟩
  case round =>
    obtain ⟨rfl, rfl⟩ := hrel
    go_wp2_with (go_at_call 239; refine (ins_nil _ _ _).mono ?_; rintro e w' ⟨rfl, rfl⟩)
    exact bodyPost_ret (v := .tuple #[]) (by simp [results, Tryz.results230, go_sem]) rfl ⟨rfl, rfl⟩
theorem s16_nil : S16 [] := fun base v w h _ => by
  obtain ⟨p, c, rfl⟩ := own_shape h
  have H := Lib.hid h; clear h
  go_enter Tryz.func208, Tryz.ntmps208
  go_wp2_with (first | (go_at_call 105; refine (len_zero _).mono ?_; rintro e w' ⟨rfl, rfl⟩) | (go_at_call 230; refine (pdq_nil _ _ _).mono ?_; rintro e w' ⟨rfl, rfl⟩))
  go_end0
  exact ⟨rfl, by simpa [sortI] using H.out, KB.refl _ _⟩
end Go.Proofs.YtboegjdkedjhcaaGreatDoor
