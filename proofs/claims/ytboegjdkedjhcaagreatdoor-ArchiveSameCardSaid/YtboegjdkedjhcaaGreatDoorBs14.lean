/- What a search of reach keeps. What slices.SortFunc does with a row of places. A row of one-cell elements of one's own, read by an encoding, under slices.Sort and slices.Compact. No program in. -/
import Derived.Test.YtboegjdkedjhcaaGreatDoorBs03
import Derived.Test.YtboegjdkedjhcaaGreatDoorBs07
import Derived.Test.YtboegjdkedjhcaaGreatDoorBs04
import Derived.Lib.Hide
import Derived.Test.YtboegjdkedjhcaaGreatDoorProg
import Derived.Lib.Builder
import Derived.Lib.SlicesCompact
import Derived.Sort.Row
import Derived.Sort.Walk13
import Derived.Sort.EveryDepth
import Derived.Shelf.SortM.AssemblysIn
import Derived.Shelf.SortM.SortNone
import Derived.Test.YtboegjdkedjhcaaGreatDoorEqLay
import Derived.Test.YtboegjdkedjhcaaGreatDoorSortLay
import Derived.Test.YtboegjdkedjhcaaGreatDoorBs11
import Derived.Sort.Grow
import Derived.KernelRfl
namespace Go.Proofs.YtboegjdkedjhcaaGreatDoor
set_option maxRecDepth 100000
section
open Go.RowKit Go.Maps
structure SrchSt (base sb mb : Nat) (ov v : Value) (L : List PP) (F : PP → Option PP) (w : World) : Prop where
 box : w.heap[sb]? = some (.cells #[v, .map (some mb), ov] 196 (0, 0))
 row : PRow base w v L
 map : MapKFn placeE w mb L.length (fun x => (F x).map placeV)
 sbl : base ≤ sb
 mbl : base ≤ mb
variable {base sb mb : Nat} {ov v : Value} {L : List PP} {F : PP → Option PP} {w w' : World}
theorem SrchSt.lt (h : SrchSt base sb mb ov v L F w) : sb < w.heap.size := (Array.getElem?_eq_some_iff.1 h.box).1
theorem SrchSt.keep (h : SrchSt base sb mb ov v L F w) (hb : Below w.heap.size w w') : SrchSt base sb mb ov v L F w' :=
 ⟨(hb.block _ h.lt).trans h.box, PRow.keep hb h.row, h.map.below hb h.map.lt, h.sbl, h.mbl⟩
theorem SrchSt.ne (h : SrchSt base sb mb ov v L F w) : sb ≠ mb := by
 obtain ⟨D, ⟨es, clock, h1, _⟩, _⟩ := h.map; have h2 := h.box; intro e; rw [e, h1] at h2; cases h2
theorem SrchSt.nev (h : SrchSt base sb mb ov v L F w) : v.ownBlock ≠ some sb := own_ne_box h.row h.box (by decide)
theorem SrchSt.nem (h : SrchSt base sb mb ov v L F w) : v.ownBlock ≠ some mb := fun e => by
 obtain ⟨D, ⟨es, clock, h1, _⟩, _⟩ := h.map; obtain ⟨cur, h2⟩ := own_type h.row e; rw [h1] at h2; cases h2
def SB (sb mb : Nat) (v : Value) (g : Nat) : Prop := g = sb ∨ g = mb ∨ v.ownBlock = some g
def newL (L : List PP) (F : PP → Option PP) (p : PP) : List PP := if (F p).isSome then L else L ++ [p]
def newF (F : PP → Option PP) (p q : PP) : PP → Option PP := if (F p).isSome then F else updF F p q
def PutPost (base sb mb : Nat) (ov v : Value) (L : List PP) (F : PP → Option PP) (p q : PP) (w : World) (e : Ending) (w' : World) : Prop :=
 e = .returned (.tuple #[]) ∧ ∃ v', SrchSt base sb mb ov v' (newL L F p) (newF F p q) w' ∧ KB (SB sb mb v) w w' ∧ (v'.ownBlock = v.ownBlock ∨ ∃ g, v'.ownBlock = some g ∧ w.heap.size ≤ g)
theorem updF_map (F : PP → Option PP) (p q : PP) : (fun x => if x = p then some (placeV q) else (F x).map placeV) = fun x => (updF F p q x).map placeV := by
 funext x
 unfold updF
 by_cases h : x = p <;> simp [h]
theorem SrchSt.box4 {wc w4 : World} (h : SrchSt base sb mb ov v L F w) (hb : Below w.heap.size w wc) (hg : wc.drew.grownBy w4 (some mb)) : w4.heap[sb]? = some (.cells #[v, .map (some mb), ov] 196 (0, 0)) :=
 (hg.block sb (by have := hb.size; have := h.lt; simp; omega) (fun e => by cases e; exact h.ne rfl)).trans ((hb.block _ h.lt).trans h.box)
theorem SrchSt.row4 {wc w4 : World} (h : SrchSt base sb mb ov v L F w) (hb : Below w.heap.size w wc) (hg : wc.drew.grownBy w4 (some mb)) : PRow base w4 v L :=
 own_congr h.row fun g hgv => (hg.block g (by have := hb.size; have := (h.row.lt g hgv).2; simp; omega) (fun e => by cases e; exact h.nem hgv)).trans (hb.block _ (h.row.lt g hgv).2)
theorem SrchSt.add {wc w4 w5 : World} {p q : PP} {v' : Value} {X : Obj} (h : SrchSt base sb mb ov v L F w) (hF : (F p).isSome = false) (hb : Below w.heap.size w wc)
 (hM : MapKFn placeE w4 mb (L.length + 1) (fun x => (updF F p q x).map placeV)) (hg : wc.drew.grownBy w4 (some mb))
 (hown : w5.ownsRow base 185 2 v' (L.length + 1) (placeCells L ++ [.int .i64 p.1, .int .i64 p.2])) (hg5 : (w4.alloc X).drew.grownBy w5 v.ownBlock) (hv : v'.ownBlock = v.ownBlock ∨ v'.ownBlock = some (w4.alloc X).drew.heap.size) :
 PutPost base sb mb ov v L F p q w (.returned (.tuple #[])) (w5.setCell ⟨sb, 0, none⟩ v') := by
 have hz4 : w.heap.size ≤ w4.heap.size := by have := hb.size; have := hg.size; simp at this; omega
 have hb4 := h.box4 hb hg; have hr4 := h.row4 hb hg; have hsl := h.lt; have hml := h.map.lt
 have hb5 : w5.heap[sb]? = some (.cells #[v, .map (some mb), ov] 196 (0, 0)) :=
  (hg5.block sb (by simp; omega) (fun e => own_ne_box hr4 hb4 (by decide) e.symm)).trans ((Below.heap_alloc w4 X sb (by omega)).trans hb4)
 have hset : ∀ g, g ≠ sb → (w5.setCell ⟨sb, 0, none⟩ v').heap[g]? = w5.heap[g]? := fun g hgs => Below.heap_setCell _ _ _ _ (by simpa using hgs)
 have e1 : newL L F p = L ++ [p] := by unfold newL; rw [hF]; rfl
 have e2 : newF F p q = updF F p q := by unfold newF; rw [hF]; rfl
 refine ⟨rfl, v', ?_, ?_, ?_⟩
 ·rw [e1, e2]; refine ⟨?_, own_congr (PRow.snoc (a := p.1) (b := p.2) hown) fun g hg' => hset g fun e => own_ne_box hown (e ▸ hb5) (by decide) hg', ?_, h.sbl, h.mbl⟩
  ·simp [World.setCell, Array.getElem?_modify, hb5]
  ·rw [List.length_append]; exact ((hM.alloc X).drew.kept (hg5.block mb (by simp; omega) (fun e => h.nem e.symm))).setCell (fun e => h.ne e.symm) _
 ·refine KB.setCell ((((KB.of_below hb).drew.grown hg fun k e => ?_).alloc X).drew.grown hg5 fun k e => .inl (.inr (.inr e))) (.inl (.inl rfl)) _
  cases e; exact .inl (.inr (.inl rfl))
 ·rcases hv with hv | hv
  ·exact .inl hv
  ·exact .inr ⟨_, hv, by simp; omega⟩
end
section
open Go.RowKit Go.Maps
def SortPost (base : Nat) (v : Value) (ps : List PP) (w : World) (e : Ending) (w' : World) : Prop :=
 e = .returned (.tuple #[]) ∧ ∃ ps' : List PP, ps'.Perm ps ∧ ps'.Pairwise (fun a b => ¬ plt b a) ∧ PRow base w' v ps' ∧ KB (fun g => v.ownBlock = some g) w w'
def SortOk : Prop := ∀ (base : Nat) (v : Value) (ps : List PP) (w : World), PRow base w v ps → ps.length ≤ 100000 →
 Calls Tryz.prog 111 #[v, .func (.func 112) #[] #[]] w (SortPost base v ps w)
end
section
open Go.RowKit Go.Sort Go.Lib
variable {α : Type} {enc : α → Value} {e : TypeId}
def cellsE {α : Type} (enc : α → Value) (l : List α) : List Value := l.map enc
def ERow {α : Type} (enc : α → Value) (e : TypeId) (base : Nat) (w : World) (v : Value) (l : List α) : Prop := w.ownsRow base e 1 v l.length (cellsE enc l)
theorem cellsE_length (l : List α) : (cellsE enc l).length = l.length := by simp [cellsE]
theorem ERow.holds [Inhabited α] {base : Nat} {w : World} {l : List α} {g cap : Nat} (h : ERow enc e base w (.slice (some ⟨g, 0, none⟩) l.length cap) l) : Holds enc w g 0 l.toArray := by
 intro j hj; have hj' : j < l.length := by simpa using hj
 have h1 : (cellsE enc l)[j]? = some (enc l[j]) := by simp [cellsE, hj']
 have h2 := World.ownsRow.cells h (g := g) rfl j _ h1; rw [show ((⟨g, 0, none⟩ : Addr).add j) = ⟨g, j, none⟩ by unfold Addr.add; by_cases hz : j = 0 <;> simp [hz]] at h2
 refine ⟨by rw [Nat.zero_add]; simpa [hj'] using h2, ?_⟩
 rcases h.2 with ⟨h3, -⟩ | ⟨g', cap', cur, h3, -, h4, -⟩
 ·cases h3
 ·cases h3; exact Lib.frozen_of_heap h4 _
theorem putRowE_block [Inhabited α] {w : World} {g n : Nat} {D : Array α} {os : Array Obj} {cur : Array Value} (h : w.heap[g]? = some (.cells cur e (0, 0))) :
 (grow (putRow enc (Sort.ahead w n) g 0 D) os).heap[g]? = some (.cells (putCells enc 0 D cur) e (0, 0)) := by
 have hlt := (Array.getElem?_eq_some_iff.1 h).1; unfold putRow grow mapBlock Sort.ahead; rw [Array.getElem?_append_left (by simpa using hlt), Array.getElem?_modify]
 simp only [if_true]; rw [h]; rfl
theorem putRowE_far [Inhabited α] {w : World} {g n : Nat} {D : Array α} {os : Array Obj} {k : Nat} (hk : k < w.heap.size) (hne : k ≠ g) : (grow (putRow enc (Sort.ahead w n) g 0 D) os).heap[k]? = w.heap[k]? := by
 unfold putRow grow mapBlock Sort.ahead; rw [Array.getElem?_append_left (by simpa using hk), Array.getElem?_modify, if_neg (fun e => hne e.symm)]
theorem putRowE_size [Inhabited α] {w : World} {g n : Nat} {D : Array α} {os : Array Obj} : w.heap.size ≤ (grow (putRow enc (Sort.ahead w n) g 0 D) os).heap.size := by
 unfold putRow grow mapBlock Sort.ahead; simp
theorem ERow.put [Inhabited α] {base : Nat} {w : World} {l D l' : List α} {g cap n : Nat} {os : Array Obj} (h : ERow enc e base w (.slice (some ⟨g, 0, none⟩) l.length cap) l) (hD : D.length = l.length) (hl : l' = D.take l'.length) :
 ERow enc e base (grow (putRow enc (Sort.ahead w n) g 0 D.toArray) os) (.slice (some ⟨g, 0, none⟩) l'.length cap) l' := by
 have hle : l'.length ≤ D.length := by
  have := congrArg List.length hl; rw [List.length_take] at this; omega
 refine ⟨by rw [cellsE_length]; omega, ?_⟩
 rcases h.2 with ⟨h3, -⟩ | ⟨g', cap', cur, h3, hb, h4, h5, h6, h7, h8⟩
 ·cases h3
 ·cases h3; refine .inr ⟨g, cap, putCells enc 0 D.toArray cur, rfl, hb, putRowE_block h4, by omega, h6, by simp [putCells, h7], ?_⟩
  apply List.ext_getElem?; intro t
  by_cases ht : t < l'.length
  ·have hc : t < cur.size := by omega
   have ht2 : t < D.length := by omega
   have e1 : l'[t]? = some D[t] := by rw [hl, List.getElem?_take, if_pos (by omega)]; simp [ht2]
   rw [List.getElem?_take, if_pos (by omega)]
   simp [putCells, hc, cellsE, e1, ht2]
  ·rw [List.getElem?_eq_none (by simp; omega), List.getElem?_eq_none (by rw [cellsE_length]; omega)]
theorem putRowE_kb [Inhabited α] {w : World} {g n : Nat} {D : Array α} {os : Array Obj} {cap m : Nat} : KB (fun k => (Value.slice (some ⟨g, 0, none⟩) m cap).ownBlock = some k) w (grow (putRow enc (Sort.ahead w n) g 0 D) os) :=
 ⟨rfl, rfl, rfl, putRowE_size, fun k hk hne => putRowE_far hk fun e => hne (by rw [e]; rfl)⟩
end
section
open Go.Shelf Go.Sort Go.RowKit
def sort_str_ren : Go.Shelf.Ren := ⟨fun | 6 => 101 | 8 => 105 | 9 => 132 | 19 => 141 | 20 => 142 | 21 => 178 | 22 => 179 | 23 => 180 | 24 => 181 | 25 => 182 | 26 => 183 | 27 => 184 | 28 => 185 | 29 => 186 | 31 => 188 | 32 => 189 | 36 => 221 | 37 => 222 | 38 => 223 | 39 => 106 | 41 => 235 | n => n, fun | 0 => 0 | 3 => 3 | 4 => 4 | 5 => 5 | 9 => 9 | 26 => 44 | 27 => 44 | 29 => 9 | 32 => 182 | 35 => 229 | 36 => 230 | 41 => 234 | 44 => 51 | 46 => 214 | 53 => 289 | 57 => 293 | 63 => 328 | 64 => 329 | n => n, fun | n => n⟩
theorem sort_str_lays : SlLaysM.n6 Tryz.prog sort_str_ren := {
 mixed := by kernel_rfl
 f6 := ⟨Tryz.f101.name, by decide, Tryz.func101.trans (congrArg some (by kernel_rfl))⟩
 f8 := Tryz.func105.trans (congrArg some (by kernel_rfl))
 f9 := ⟨Tryz.f132.name, by decide, Tryz.func132.trans (congrArg some (by kernel_rfl))⟩
 f19 := Tryz.func141.trans (congrArg some (by kernel_rfl))
 f20 := Tryz.func142.trans (congrArg some (by kernel_rfl))
 f21 := ⟨Tryz.f178.name, by decide, Tryz.func178.trans (congrArg some (by kernel_rfl))⟩
 f22 := ⟨Tryz.f179.name, by decide, Tryz.func179.trans (congrArg some (by kernel_rfl))⟩
 f23 := ⟨Tryz.f180.name, by decide, Tryz.func180.trans (congrArg some (by kernel_rfl))⟩
 f24 := ⟨Tryz.f181.name, by decide, Tryz.func181.trans (congrArg some (by kernel_rfl))⟩
 f25 := ⟨Tryz.f182.name, by decide, Tryz.func182.trans (congrArg some (by kernel_rfl))⟩
 f26 := ⟨Tryz.f183.name, by decide, Tryz.func183.trans (congrArg some (by kernel_rfl))⟩
 f27 := ⟨Tryz.f184.name, by decide, Tryz.func184.trans (congrArg some (by kernel_rfl))⟩
 f28 := ⟨Tryz.f185.name, by decide, Tryz.func185.trans (congrArg some (by kernel_rfl))⟩
 f29 := ⟨Tryz.f186.name, by decide, Tryz.func186.trans (congrArg some (by kernel_rfl))⟩
 f31 := Tryz.func188.trans (congrArg some (by kernel_rfl))
 f32 := Tryz.func189.trans (congrArg some (by kernel_rfl))
 f36 := ⟨Tryz.f221.name, by decide, Tryz.func221.trans (congrArg some (by kernel_rfl))⟩
 f37 := ⟨Tryz.f222.name, by decide, Tryz.func222.trans (congrArg some (by kernel_rfl))⟩
 f38 := ⟨Tryz.f223.name, by decide, Tryz.func223.trans (congrArg some (by kernel_rfl))⟩
 f39 := ⟨Tryz.f106.name, by decide, Tryz.func106.trans (congrArg some (by kernel_rfl))⟩
 f41 := ⟨Tryz.f235.name, by decide, Tryz.func235.trans (congrArg some (by kernel_rfl))⟩
 t0 := Tryz.underlying0
 a0 := Tryz.isAgg0
 z0 := Tryz.sizeOf0
 v0 := Tryz.zeroValue0
 t3 := Tryz.underlying3
 a3 := Tryz.isAgg3
 z3 := Tryz.sizeOf3
 v3 := Tryz.zeroValue3
 t4 := Tryz.underlying4
 a4 := Tryz.isAgg4
 z4 := Tryz.sizeOf4
 v4 := Tryz.zeroValue4
 t5 := Tryz.underlying5
 a5 := Tryz.isAgg5
 z5 := Tryz.sizeOf5
 v5 := Tryz.zeroValue5
 t9 := Tryz.underlying9
 a9 := Tryz.isAgg9
 z9 := Tryz.sizeOf9
 v9 := Tryz.zeroValue9
 t26 := Tryz.underlying44
 a26 := Tryz.isAgg44
 z26 := Tryz.sizeOf44
 v26 := Tryz.zeroValue44
 t27 := Tryz.underlying44
 a27 := Tryz.isAgg44
 z27 := Tryz.sizeOf44
 v27 := Tryz.zeroValue44
 t29 := Tryz.underlying9
 a29 := Tryz.isAgg9
 z29 := Tryz.sizeOf9
 v29 := Tryz.zeroValue9
 t32 := Tryz.underlying182
 a32 := Tryz.isAgg182
 z32 := Tryz.sizeOf182
 v32 := Tryz.zeroValue182
 t35 := Tryz.underlying229
 a35 := Tryz.isAgg229
 z35 := Tryz.sizeOf229
 v35 := Tryz.zeroValue229
 t36 := Tryz.underlying230
 a36 := Tryz.isAgg230
 z36 := Tryz.sizeOf230
 v36 := Tryz.zeroValue230
 t41 := Tryz.underlying234
 a41 := Tryz.isAgg234
 z41 := Tryz.sizeOf234
 v41 := Tryz.zeroValue234
 t44 := Tryz.underlying51
 a44 := Tryz.isAgg51
 z44 := Tryz.sizeOf51
 v44 := Tryz.zeroValue51
 t46 := Tryz.underlying214
 a46 := Tryz.isAgg214
 z46 := Tryz.sizeOf214
 v46 := Tryz.zeroValue214
 t53 := Tryz.underlying289
 a53 := Tryz.isAgg289
 z53 := Tryz.sizeOf289
 v53 := Tryz.zeroValue289
 t57 := Tryz.underlying293
 a57 := Tryz.isAgg293
 z57 := Tryz.sizeOf293
 v57 := Tryz.zeroValue293
 t63 := Tryz.underlying328
 a63 := Tryz.isAgg328
 z63 := Tryz.sizeOf328
 v63 := Tryz.zeroValue328
 t64 := Tryz.underlying329
 a64 := Tryz.isAgg329
 z64 := Tryz.sizeOf329
 v64 := Tryz.zeroValue329
}
theorem sort_str_any (blk off cap : Nat) (ss : List (List UInt8)) (w : World) (hH : Holds encStr w blk off ss.toArray) (hblk : blk < w.heap.size) (hsz : ss.length < 4611686018427387904) :
 Calls Tryz.prog 101 #[.slice (some ⟨blk, off, none⟩) ss.length cap] w fun e w' =>
  e = .returned (.tuple #[]) ∧ ∃ n os, w' = grow (putRow encStr (Sort.ahead w n) blk off (ss.mergeSort fun x y => decide (x ≤ y)).toArray) os :=
 calls_of_every_depth fun D => AnySM.slices_Sort_string_in sort_str_lays D blk off cap ss w hH hblk hsz
theorem sort_str_none (p : Option Addr) (cap : Nat) (w : World) : Calls Tryz.prog 101 #[.slice p 0 cap] w fun e w' => e = .returned (.tuple #[]) ∧ w' = w :=
 calls_of_every_depth fun D => AnySM.slices_Sort_string_none_in sort_str_lays D p cap w
end
section
open Go.RowKit Go.Sort Go.Lib Go.Shelf
def sortT (l : List (List UInt8)) : List (List UInt8) := l.mergeSort fun x y => decide (x ≤ y)
def onceT (l : List (List UInt8)) : List (List UInt8) := Lib.compact l
theorem sortT_length (l : List (List UInt8)) : (sortT l).length = l.length := by simp [sortT]
theorem eqlT (P : Program) (T : TypeId) : EqlAt P T encStr (fun x y => decide (x = y)) :=
 ⟨fun x y w => by rw [show encStr x = Value.string ⟨x.toArray⟩ from rfl, show encStr y = Value.string ⟨y.toArray⟩ from rfl, (EqlAt.string P T).1]; simp only [ByteArray.toList_eq]; by_cases h : x = y <;> simp [h],
  fun op a b x y => (EqlAt.string P T).2 op a b ⟨x.toArray⟩ ⟨y.toArray⟩⟩
theorem neqT (P : Program) (T : TypeId) : NeqAt P T encStr (fun x y => decide (x = y)) :=
 ⟨fun x y w => by rw [show encStr x = Value.string ⟨x.toArray⟩ from rfl, show encStr y = Value.string ⟨y.toArray⟩ from rfl, (NeqAt.string P T).1]; simp only [ByteArray.toList_eq]; by_cases h : x = y <;> simp [h],
  fun op a b x y => (NeqAt.string P T).2 op a b ⟨x.toArray⟩ ⟨y.toArray⟩⟩
theorem sortStr_row (base : Nat) (v : Value) (l : List (List UInt8)) (w : World) (h : ERow encStr 9 base w v l) (hl : l.length ≤ 1000000000) :
 Calls Tryz.prog 101 #[v] w fun e w' => e = .returned (.tuple #[]) ∧ ERow encStr 9 base w' v (sortT l) ∧ KB (fun k => v.ownBlock = some k) w w' := by
 by_cases h0 : l.length = 0
 ·obtain ⟨p, c, rfl⟩ := own_shape h; obtain rfl : l = [] := List.eq_nil_of_length_eq_zero h0; refine (sort_str_none p c w).mono ?_; rintro e w' ⟨rfl, rfl⟩; exact ⟨rfl, by simpa [sortT] using h, KB.refl _ _⟩
 ·obtain ⟨g, cap, rfl, hbg, hgl⟩ := World.ownsRow.form h (by omega)
  refine (sort_str_any g 0 cap l w h.holds hgl (by omega)).mono ?_
  rintro e w' ⟨rfl, n, os, rfl⟩; have hp := ERow.put (n := n) (os := os) h (sortT_length l) (l' := sortT l) (by rw [List.take_length])
  rw [sortT_length] at hp; exact ⟨rfl, hp, putRowE_kb⟩
theorem compactUpToT_le (d : Array (List UInt8)) : (compactUpTo d d.size).length ≤ d.size := by
 unfold compactUpTo; rw [List.length_map]; exact Nat.le_trans (List.length_filter_le _ _) (by simp)
theorem compactStr_row (base : Nat) (v : Value) (l : List (List UInt8)) (w : World) (h : ERow encStr 9 base w v l) (hl : l.length ≤ 1000000000) :
 Calls Tryz.prog 102 #[v] w fun e w' => ∃ v', e = .returned v' ∧ ERow encStr 9 base w' v' (onceT l) ∧ v'.ownBlock = v.ownBlock ∧ KB (fun k => v.ownBlock = some k) w w' := by
 by_cases h0 : l.length = 0
 ·obtain ⟨p, c, rfl⟩ := own_shape h; obtain rfl : l = [] := List.eq_nil_of_length_eq_zero h0; have HH := Lib.hid h; clear h; go_enter Tryz.func102, Tryz.ntmps102; go_wp2; go_ret; exact ⟨_, rfl, HH.out, rfl, KB.refl _ _⟩
 ·obtain ⟨g, cap, rfl, hbg, hgl⟩ := World.ownsRow.form h (by omega)
  have hsz : l.toArray.size = l.length := by simp
  have hcap : l.length ≤ cap := by
   rcases h.2 with ⟨h3, -⟩ | ⟨g', cap', cur, h3, -, -, h5, -⟩
   ·cases h3
   ·cases h3; exact h5
  have hcon := Go.Proofs.AnyE.slices_Compact Tryz.compactStr encStr (fun _ => rfl) (eqlT _ _) (neqT _ _) [] Tryz.zeroValue9 g 0 cap l.toArray w h.holds (by rw [hsz]; omega) (by rw [hsz]; exact hcap)
  change Calls Tryz.prog 102 _ _ _ at hcon; have hle := compactUpToT_le l.toArray; have he : compactUpTo l.toArray l.toArray.size = onceT l := by rw [hsz]; rfl
  rw [he, hsz] at hcon; rw [he, hsz] at hle; refine hcon.mono ?_; rintro e w' ⟨rfl, n, rfl⟩; have hp := ERow.put (n := n) (os := #[]) (D := onceT l ++ List.replicate (l.length - (onceT l).length) []) (l' := onceT l) h (by simp; omega) (by rw [List.take_append_of_le_length (Nat.le_refl _), List.take_length])
  have hk := putRowE_kb (enc := encStr) (w := w) (g := g) (n := n) (D := (onceT l ++ List.replicate (l.length - (onceT l).length) []).toArray) (os := #[]) (cap := cap) (m := l.length); rw [grow_empty] at hp hk; exact ⟨_, rfl, hp, rfl, hk⟩
end
section
open Go.RowKit Go.Maps Go.Shelf Go.Sort Go.Lib
structure GEnt where
 name : ByteArray
 mem : Nat
 bind : Int
instance : Inhabited GEnt := ⟨⟨⟨#[]⟩, 0, 0⟩⟩
def entCells (x : GEnt) : List Value := [.string x.name, .int .i64 x.mem, .int .u8 x.bind]
theorem entCells_len (x : GEnt) : (entCells x).length = 3 := rfl
theorem entCells_one {l : List GEnt} : ∀ u ∈ l.flatMap entCells, u.oneCell' = true := by
 intro u hu; obtain ⟨x, _, hx⟩ := List.mem_flatMap.1 hu; simp only [entCells, List.mem_cons, List.not_mem_nil, or_false] at hx; rcases hx with rfl | rfl | rfl <;> rfl
def cmpT (a b : ByteArray) : Int := if Op.bytesLess a.toList b.toList = true then -1 else if Op.bytesLess b.toList a.toList = true then 1 else 0
set_option maxHeartbeats 400000 in
theorem isNaNT_any (a : ByteArray) (w : World) : Calls Tryz.prog 106 #[.string a] w fun e w' => e = .returned (.bool false) ∧ w = w' := by
 go_enter Tryz.func106, Tryz.ntmps106; go_wp2; go_ret; exact ⟨rfl, rfl⟩
theorem gtr_eq (a b : List UInt8) : (!(Op.bytesLess a b || a == b)) = Op.bytesLess b a := by
 rw [Go.Proofs.bytesLess_eq, Go.Proofs.bytesLess_eq, Bool.eq_iff_iff]; simp only [Bool.not_eq_true', Bool.or_eq_false_iff, decide_eq_false_iff_not, beq_eq_false_iff_ne, decide_eq_true_eq]; constructor
 ·rintro ⟨h1, h2⟩
  by_cases h3 : b < a
  ·exact h3
  ·exact absurd (List.le_antisymm (List.not_lt.1 h3) (List.not_lt.1 h1)) h2
 ·intro h1; refine ⟨fun h2 => List.lt_irrefl _ (List.lt_trans h1 h2), fun e => ?_⟩
  rw [e] at h1; exact List.lt_irrefl _ h1
theorem binGtr (t : TypeId) (a b : ByteArray) (w : World) : (binOp .gtr t (.string a) (.string b)).run Tryz.prog w = .ok (.bool (Op.bytesLess b.toList a.toList)) w := by rw [← gtr_eq]; simp [binOp, Op.stringOp]
set_option maxHeartbeats 400000 in
theorem compareT_any (a b : ByteArray) (w : World) : Calls Tryz.prog 67 #[.string a, .string b] w fun e w' => e = .returned (.int .i64 (cmpT a b)) ∧ w = w' := by
 have HN := Lib.hid isNaNT_any; have hgt := @binGtr; unfold cmpT
 by_cases h1 : Op.bytesLess a.toList b.toList = true
 ·rw [if_pos h1]; go_enter Tryz.func67, Tryz.ntmps67; go_wp2_with (go_at_call 106; refine (HN.out _ _).mono ?_; rintro e w' ⟨rfl, rfl⟩); go_ret; exact ⟨rfl, rfl⟩
 ·rw [if_neg h1]; have h1' : Op.bytesLess a.toList b.toList = false := by simpa using h1
  clear h1; have he : (!(a.toList == b.toList)) = Op.bytesLess b.toList a.toList := by have := gtr_eq a.toList b.toList; rw [h1'] at this; simpa using this
  by_cases h2 : Op.bytesLess b.toList a.toList = true
  ·rw [if_pos h2]; have e3 : (a.toList == b.toList) = false := by rw [h2] at he; simpa using he
   clear he; go_enter Tryz.func67, Tryz.ntmps67; go_wp2_with (go_at_call 106; refine (HN.out _ _).mono ?_; rintro e w' ⟨rfl, rfl⟩); go_ret; exact ⟨rfl, rfl⟩
  ·rw [if_neg h2]; have h2' : Op.bytesLess b.toList a.toList = false := by simpa using h2
   clear h2; have e3 : (a.toList == b.toList) = true := by rw [h2'] at he; simpa using he
   clear he; go_enter Tryz.func67, Tryz.ntmps67; go_wp2_with (go_at_call 106; refine (HN.out _ _).mono ?_; rintro e w' ⟨rfl, rfl⟩); go_ret; exact ⟨rfl, rfl⟩
def cmpE (x y : GEnt) : Int := orI (cmpT x.name y.name) (cmpI x.mem y.mem)
def entLt (x y : GEnt) : Prop := x.name.toList < y.name.toList ∨ (x.name.toList = y.name.toList ∧ x.mem < y.mem)
theorem bytesLess_iff (a b : List UInt8) : Op.bytesLess a b = true ↔ a < b := by rw [Go.Proofs.bytesLess_eq]; simp
theorem cmpE_lt (x y : GEnt) : cmpE x y < 0 ↔ entLt x y := by
 unfold cmpE orI cmpI cmpT entLt
 by_cases h1 : x.name.toList < y.name.toList
 ·rw [if_pos ((bytesLess_iff _ _).2 h1)]; simp [h1]
 ·rw [if_neg (fun h => h1 ((bytesLess_iff _ _).1 h))]
  by_cases h2 : y.name.toList < x.name.toList
  ·rw [if_pos ((bytesLess_iff _ _).2 h2)]; have h3 : x.name.toList ≠ y.name.toList := fun e => by rw [e] at h2; exact List.lt_irrefl _ h2
   simp [h1, h3]
  ·rw [if_neg (fun h => h2 ((bytesLess_iff _ _).1 h))]
   have h3 : x.name.toList = y.name.toList := List.le_antisymm (List.not_lt.1 h2) (List.not_lt.1 h1)
   by_cases h4 : x.mem < y.mem
   ·simp [h3, h4]
   ·by_cases h5 : y.mem < x.mem <;> simp [h3, h4, h5]
theorem lt_cmpE (x y : GEnt) : Go.Proofs.ltOf cmpE x y = true ↔ entLt x y := by
 unfold Go.Proofs.ltOf; simp only [cmpE_lt, decide_eq_true_eq]
theorem lt_cmpE_no (x y : GEnt) : Go.Proofs.ltOf cmpE x y = false ↔ ¬ entLt x y := by
 rw [← lt_cmpE]; simp
theorem entLt_total (x y : GEnt) (h1 : ¬ entLt x y) (h2 : ¬ entLt y x) : x.name.toList = y.name.toList ∧ x.mem = y.mem := by
 unfold entLt at h1 h2; simp only [not_or, not_and] at h1 h2; have h3 : x.name.toList = y.name.toList := List.le_antisymm (List.not_lt.1 h2.1) (List.not_lt.1 h1.1); exact ⟨h3, by have := h1.2 h3; have := h2.2 h3.symm; omega⟩
theorem entLt_trans {x y z : GEnt} (h1 : entLt x y) (h2 : entLt y z) : entLt x z := by
 unfold entLt at *; rcases h1 with h1 | ⟨h1, h1'⟩
 ·rcases h2 with h2 | ⟨h2, -⟩
  ·exact .inl (List.lt_trans h1 h2)
  ·exact .inl (h2 ▸ h1)
 ·rcases h2 with h2 | ⟨h2, h2'⟩
  ·exact .inl (h1 ▸ h2)
  ·exact .inr ⟨h1.trans h2, by omega⟩
theorem entLt_irrefl (x : GEnt) : ¬ entLt x x := by
 unfold entLt; rintro (h | ⟨-, h⟩)
 ·exact List.lt_irrefl _ h
 ·omega
theorem swoE : SWO (Go.Proofs.ltOf cmpE) where
 irrefl x := by rw [lt_cmpE_no]; exact entLt_irrefl x
 trans x y z h1 h2 := by rw [lt_cmpE] at *; exact entLt_trans h1 h2
 ntrans x y z h1 h2 := by
  rw [lt_cmpE_no] at *; intro h3
  by_cases h4 : entLt y x
  ·exact h2 (entLt_trans h4 h3)
  ·obtain ⟨e1, e2⟩ := entLt_total x y h1 h4; exact h2 (by unfold entLt at h3 ⊢; rw [← e1, ← e2]; exact h3)
set_option maxHeartbeats 1000000 in
theorem orderE_any (x y : GEnt) (w : World) : Calls Tryz.prog 65 #[.agg (entCells x).toArray, .agg (entCells y).toArray] w fun e w' => e = .returned (.int .i64 (cmpE x y)) ∧ ∃ q os', w' = grow (w.drewN q) os' := by
 obtain ⟨x1, x2, x3⟩ := x; obtain ⟨y1, y2, y3⟩ := y; have HC := Lib.hid compareT_any; have HD := Lib.hid compare_any; have HO := Lib.hid or_any; unfold cmpE entCells; simp only []; go_enter Tryz.func65, Tryz.ntmps65; go_wp2
 go_region_held3 (fun w' => w'.cell? ⟨w.heap.size, 0, none⟩ = some (.string x1) ∧ w'.cell? ⟨w.heap.size, 1, none⟩ = some (.int .i64 x2) ∧ w'.cell? ⟨w.heap.size + 1, 0, none⟩ = some (.string y1) ∧ w'.cell? ⟨w.heap.size + 1, 1, none⟩ = some (.int .i64 y2)) (go_keep) (first | (go_at_call 67; refine (HC.out _ _ _).mono ?_; rintro e w' ⟨rfl, rfl⟩) | (go_at_call 68; refine (HD.out _ _ _).mono ?_; rintro e w' ⟨rfl, rfl⟩) | (go_at_call 66; refine (HO.out (cmpT x1 y1) (cmpI x2 y2) _ _ ?_ ?_).mono ?_; (simp [go_sem]); (simp [go_sem]); rintro e w' ⟨rfl, rfl⟩))
 go_wp2; go_ret; exact ⟨rfl, 1, _, grow_three w _ _ _⟩
theorem orderE_lays (blk off size : Nat) (w : World) : Go.Proofs.CmpLays Tryz.prog 65 #[] entCells 3 cmpE blk off size w := fun _ _ _ _ x y => orderE_any x y _
theorem flat3_get : ∀ (l : List GEnt) (t : Nat), t < l.length * 3 → (l.flatMap entCells)[t]? = some ((entCells (l.toArray[t / 3]!))[t % 3]!)
 | x :: r, 0, _ => by simp [entCells]
 | x :: r, 1, _ => by simp [entCells]
 | x :: r, 2, _ => by simp [entCells]
 | x :: r, t + 3, h => by
   have ih := flat3_get r t (by simp at h; omega)
   have e1 : (t + 3) / 3 = t / 3 + 1 := by omega
   have e2 : (t + 3) % 3 = t % 3 := by omega
   rw [e1, e2, List.flatMap_cons, show entCells x = [.string x.name, .int .i64 x.mem, .int .u8 x.bind] from rfl]
   simp only [List.cons_append, List.nil_append, List.getElem?_cons_succ]; rw [ih]
   congr 3
   simp [Array.getElem!_eq_getD, Array.getD]
 | [], t, h => by simp at h
theorem flatE_get (l : List GEnt) (t : Nat) (h : t < l.length * 3) : (l.flatMap entCells)[t]? = some ((flatK entCells 3 l.toArray)[t]!) := by
 rw [flat3_get l t h, get_flatK entCells 3 l.toArray t (by simpa using h)]
def EntRow (base : Nat) (w : World) (v : Value) (l : List GEnt) : Prop := w.ownsRow base 47 3 v l.length (l.flatMap entCells)
theorem cellsEnt_len (l : List GEnt) : (l.flatMap entCells).length = l.length * 3 := by
 induction l with
 | nil => rfl
 | cons p r ih => simp only [List.flatMap_cons, List.length_append, List.length_cons, entCells_len] at *; omega
theorem holdsE_of_row {base : Nat} {w : World} {l : List GEnt} {g cap : Nat} (h : EntRow base w (.slice (some ⟨g, 0, none⟩) l.length cap) l) : HoldsK entCells 3 w g 0 l.toArray := by
 intro j hj; rw [size_flatK] at hj; have hj' : j < l.length * 3 := by simpa using hj
 have h1 := flatE_get _ j hj'; have h2 := World.ownsRow.cells h (g := g) rfl j _ h1; rw [add_at, Nat.zero_add] at h2; refine ⟨by rw [Nat.zero_add]; exact h2, ?_⟩
 rcases h.2 with ⟨h3, -⟩ | ⟨g', cap', cur, h3, -, h4, -⟩
 ·cases h3
 ·cases h3; exact Lib.frozen_of_heap h4 _
theorem sortedE_block {w : World} {g n : Nat} {D : Array GEnt} {os : Array Obj} {cur : Array Value} {e : TypeId} (h : w.heap[g]? = some (.cells cur e (0, 0))) :
 (sortWorldK entCells 3 w g 0 n D os).heap[g]? = some (.cells (putCells id 0 (flatK entCells 3 D) cur) e (0, 0)) := by
 have hlt := (Array.getElem?_eq_some_iff.1 h).1; unfold sortWorldK putRowK putRow grow mapBlock Sort.ahead; rw [Array.getElem?_append_left (by simpa using hlt), Array.getElem?_modify]
 simp only [if_true]; rw [h]; rfl
theorem sortedE_other {w : World} {g n : Nat} {D : Array GEnt} {os : Array Obj} {k : Nat} (hk : k < w.heap.size) (hne : k ≠ g) : (sortWorldK entCells 3 w g 0 n D os).heap[k]? = w.heap[k]? := by
 unfold sortWorldK putRowK putRow grow mapBlock Sort.ahead; rw [Array.getElem?_append_left (by simpa using hk), Array.getElem?_modify, if_neg (fun e => hne e.symm)]
theorem sortedE_size {w : World} {g n : Nat} {D : Array GEnt} {os : Array Obj} : w.heap.size ≤ (sortWorldK entCells 3 w g 0 n D os).heap.size := by
 unfold sortWorldK putRowK putRow grow mapBlock Sort.ahead; simp
theorem rowE_put {base : Nat} {w : World} {l l' : List GEnt} {g cap n : Nat} {os : Array Obj} (h : EntRow base w (.slice (some ⟨g, 0, none⟩) l.length cap) l) (hl : l'.length = l.length) :
 EntRow base (sortWorldK entCells 3 w g 0 n l'.toArray os) (.slice (some ⟨g, 0, none⟩) l.length cap) l' := by
 refine ⟨cellsEnt_len l', ?_⟩; rcases h.2 with ⟨h3, -⟩ | ⟨g', cap', cur, h3, hb, h4, h5, h6, h7, h8⟩
 ·cases h3
 ·cases h3; refine .inr ⟨g, cap, putCells id 0 (flatK entCells 3 l'.toArray) cur, by rw [hl], hb, sortedE_block h4, by omega, h6, by simp [putCells, h7], ?_⟩
  apply List.ext_getElem?; intro t
  by_cases ht : t < l'.length * 3
  ·have h9 := flatE_get l' t ht; rw [h9, List.getElem?_take, if_pos ht]; have hc : t < cur.size := by omega
   simp [putCells, hc]; omega
  ·rw [List.getElem?_eq_none (by simp; omega), List.getElem?_eq_none (by rw [cellsEnt_len]; omega)]
theorem orderE_enters (args : Array Value) (w : World) : (callFunc 65 args).run Tryz.prog w = .ok (.enter 65 args) w := enters_of Tryz.func65 (by kernel_rfl) rfl args w
theorem sortE_any (base : Nat) (v : Value) (l : List GEnt) (w : World) (h : EntRow base w v l) (hl : l.length ≤ 1000000000) :
 Calls Tryz.prog 64 #[v, .func (.func 65) #[] #[]] w fun e w' => e = .returned (.tuple #[]) ∧ ∃ l', l'.Perm l ∧ EntRow base w' v l' ∧ KB (fun k => v.ownBlock = some k) w w' := by
 by_cases h0 : l.length = 0
 ·obtain ⟨p, c, rfl⟩ := own_shape h; obtain rfl : l = [] := List.eq_nil_of_length_eq_zero h0; have hcon := Go.Proofs.AnyF.slices_SortFunc_none Tryz.sortEntries p c (.func (.func 65) #[] #[]) w; change Calls Tryz.prog 64 _ _ _ at hcon; refine hcon.mono ?_; rintro e w' ⟨rfl, rfl⟩; exact ⟨rfl, [], .refl _, h, KB.refl _ _⟩
 ·obtain ⟨g, cap, rfl, hbg, hgl⟩ := World.ownsRow.form h (by omega)
  have hsz : l.toArray.size = l.length := by simp
  have hcon := Go.Proofs.AnyQ.slices_SortFunc Tryz.sortEntries 3 Tryz.isAgg47 Tryz.sizeOf47 entCells (fun _ => rfl) (fun x v hv => entCells_one (l := [x]) v (by simpa using hv)) cmpE swoE 65 #[] g 0 cap l.toArray w orderE_enters (orderE_lays g 0 _ w) (holdsE_of_row h) hgl (by rw [hsz]; omega)
  change Calls Tryz.prog 64 _ _ _ at hcon; rw [hsz] at hcon; refine hcon.mono ?_; rintro e w' ⟨rfl, d', n, os, hp, hs, rfl⟩
  have hpp : d'.toList.Perm l := by
   have h3 := hp.2.2; have hz := hp.1; rw [hsz] at hz; rw [Array.extract_eq_self_of_le (by omega), Array.extract_eq_self_of_le (by rw [hsz]; omega)] at h3
   exact h3
  obtain ⟨dl, rfl⟩ : ∃ dl : List GEnt, d' = dl.toArray := ⟨d'.toList, by simp⟩
  simp only [] at hpp; refine ⟨rfl, dl, hpp, rowE_put h hpp.length_eq, ⟨rfl, rfl, rfl, sortedE_size, fun k hk hne => sortedE_other hk fun e => hne (by rw [e]; rfl)⟩⟩
end
section
open Go.RowKit Go.Maps
theorem nodup_sub {α : Type} [DecidableEq α] : ∀ (l m : List α), l.Nodup → (∀ x ∈ l, x ∈ m) → l.length ≤ m.length
 | [], _, _, _ => Nat.zero_le _
 | a :: r, m, hn, h => by
   obtain ⟨h1, h2⟩ := List.nodup_cons.1 hn; have ih := nodup_sub r (m.erase a) h2 fun x hx => (List.mem_erase_of_ne (fun e => h1 (by rw [← e]; exact hx))).2 (h x (List.mem_cons_of_mem _ hx))
   rw [List.length_erase_of_mem (h a List.mem_cons_self)] at ih; have : 0 < m.length := List.length_pos_of_mem (h a List.mem_cons_self); simp only [List.length_cons]; omega
theorem valid_mem {l : List GObj} {x : PP} (h : validP l x) : x ∈ (flat l).map (fun y => (y.obj, y.sym)) := by
 obtain ⟨o, s, h1, h2⟩ := h; exact List.mem_map.2 ⟨⟨x.1, x.2, s⟩, mem_flat h1 h2, rfl⟩
theorem valid_len {l : List GObj} {L : List PP} (hm : mayAll l = true) (hn : L.Nodup) (hv : ∀ x ∈ L, validP l x) : L.length ≤ 1024 := by
 have h1 := nodup_sub L ((flat l).map (fun y => (y.obj, y.sym))) hn fun x hx => valid_mem (hv x hx)
 have h2 := flat_length_le hm; rw [List.length_map] at h1; omega
theorem Goes.valid {l : List GObj} {p : PP} {L : List PP} {F : PP → Option PP} {n : Nat} (g : Goes l p L F n) (hp : validP l p) : ∀ x ∈ L, validP l x := fun x hx => by
 obtain ⟨i, hi, rfl⟩ := List.mem_iff_getElem.1 hx; exact (g.reach i hi).valid hp
theorem Goes.len {l : List GObj} {p : PP} {L : List PP} {F : PP → Option PP} {n : Nat} (g : Goes l p L F n) (hp : validP l p) (hc : (beginR l).2 = 0) : L.length ≤ 1024 := valid_len (beginR_zero hc).1 g.nd (g.valid hp)
theorem Goes.next {l : List GObj} {p : PP} {L : List PP} {F : PP → Option PP} {n : Nat} (g : Goes l p L F n) (x : PP) (hx : L[n]? = some x) (h : ∀ q, knowsP l x q → q ∈ L) : Goes l p L F (n + 1) :=
 ⟨g.head, g.nd, g.dom, g.par, fun i hi hin q hq => by
  by_cases h1 : i < n
  ·exact g.closed i hi h1 q hq
  ·obtain rfl : i = n := by omega
   rw [List.getElem?_eq_getElem hi] at hx; rw [Option.some.inj hx] at hq; exact h q hq⟩
theorem newL_get {L : List PP} {F : PP → Option PP} {q x : PP} {n : Nat} (h : L[n]? = some x) : (newL L F q)[n]? = some x := by
 unfold newL; split
 ·exact h
 ·rw [List.getElem?_append_left (List.getElem?_eq_some_iff.1 h).1]; exact h
theorem newL_mem {L : List PP} {F : PP → Option PP} {q x : PP} (h : x ∈ L) : x ∈ newL L F q := by
 unfold newL; split
 ·exact h
 ·exact List.mem_append.2 (.inl h)
theorem Goes.new {l : List GObj} {p q x : PP} {L : List PP} {F : PP → Option PP} {n : Nat} (g : Goes l p L F n) (hx : L[n]? = some x) (hk : knowsP l x q) : Goes l p (newL L F q) (newF F q x) n ∧ q ∈ newL L F q := by
 have hlt := (List.getElem?_eq_some_iff.1 hx).1; have hxe : L[n] = x := (List.getElem?_eq_some_iff.1 hx).2; unfold newL newF; cases hF : (F q).isSome with
 | true => exact ⟨g, (g.dom q).1 hF⟩
 | false =>
   have := g.put (i := n) (by omega) hlt (by rw [hxe]; exact hk) (q := q) (by simpa using hF)
   rw [hxe] at this; exact ⟨this, by simp⟩
theorem Goes.full {l : List GObj} {p : PP} {L : List PP} {F : PP → Option PP} {n : Nat} (g : Goes l p L F n) (h : L.length ≤ n) : Goes l p L F L.length := ⟨g.head, g.nd, g.dom, g.par, fun i hi _ q hq => g.closed i hi (by omega) q hq⟩
structure Inn (w0 wk : World) (sb mb : Nat) (ov : Value) (l : List GObj) (p x : PP) (n : Nat) (ks : List PP) (bk k : Nat) (v : Value) (L : List PP) (F : PP → Option PP) (wi : World) : Prop where
 st : SrchSt w0.heap.size sb mb ov v L F wi
 g : Goes l p L F n
 x : L[n]? = some x
 m : ∀ i (h : i < ks.length), i < k → ks[i] ∈ L
 hb : 0 < ks.length → wi.heap[bk]? = wk.heap[bk]? ∧ v.ownBlock ≠ some bk ∧ bk < wi.heap.size ∧ sb ≠ bk ∧ mb ≠ bk
 b : Below w0.heap.size w0 wi
theorem Inn.step {w0 wk wi w5 w6 : World} {sb mb : Nat} {ov : Value} {l : List GObj} {p x : PP} {n : Nat} {ks : List PP} {bk k : Nat} {v : Value} {L : List PP} {F : PP → Option PP} {e : Ending} (h : Inn w0 wk sb mb ov l p x n ks bk k v L F wi) (hk : k < ks.length) (hkn : ∀ q ∈ ks, knowsP l x q)
 (hb : Below wi.heap.size wi w5) (hp : PutPost w0.heap.size sb mb ov v L F ks[k] x w5 e w6) : ∃ v' L' F', Inn w0 wk sb mb ov l p x n ks bk (k + 1) v' L' F' w6 := by
 obtain ⟨-, v', h1, h2, h3⟩ := hp; obtain ⟨b1, b2, b3, b4, b5⟩ := h.hb (by omega)
 obtain ⟨g1, g2⟩ := h.g.new h.x (hkn _ (List.getElem_mem hk)); have hz := hb.size; refine ⟨v', _, _, h1, g1, newL_get h.x, fun i hi hik => ?_, fun _ => ⟨?_, ?_, ?_, b4, b5⟩, ?_⟩
 ·by_cases hik' : i < k
  ·exact newL_mem (h.m i hi hik')
  ·obtain rfl : i = k := by omega
   exact g2
 ·rw [h2.block bk (by omega) (by rintro (r | r | r); exact b4 r.symm; exact b5 r.symm; exact b2 r), hb.block bk b3]; exact b1
 ·rcases h3 with h3 | ⟨g, h3, h4⟩
  ·rw [h3]; exact b2
  ·rw [h3]; intro r; cases r; omega
 ·have := h2.size; omega
 ·exact (h.b.trans (hb.mono h.b.size)).trans (h2.below (by have := h.b.size; omega) (fun k' hk' r => by
   rcases r with r | r | r
   ·have := h.st.sbl; omega
   ·have := h.st.mbl; omega
   ·have := (h.st.row.lt k' r).1; omega))
end
section
end
section
def f13 : ByteArray := ⟨#[102]⟩
end
section
open Go.RowKit
theorem pnum_any (n : Nat) (v : Int) (w : World) (hn : n = 1 ∨ n = 2 ∨ n = 4) (h0 : 0 ≤ v) (h1 : v < pow256 n) : Calls Tryz.prog 34 #[.int .u32 v, .int .i64 n] w fun e w' => e = .returned (.tuple #[.string (bsOf (leB n v)), .int .i64 0]) ∧ Below w.heap.size w w' := by
 rcases hn with rfl | rfl | rfl
 ·exact pnum1 v w h0 (by rw [p1] at h1; exact h1)
 ·exact pnum2 v w h0 (by rw [p2] at h1; exact h1)
 ·exact pnum4 v w h0 (by rw [p4] at h1; exact h1)
set_option maxHeartbeats 400000 in
theorem wrText_any (B b : Nat) (l : BL) (s : ByteArray) (w : World) (h : IsWr B b l w) (hs : s.size < 65536) (hlen : l.length ≤ 1000000000) (hB : B ≤ w.heap.size) :
 Calls Tryz.prog 79 #[.pointer (some ⟨b, 0, none⟩), .string s] w fun e w' => e = .returned (.tuple #[]) ∧ WPost B b (l ++ encText s) w w' := by
 have HC := Lib.hid (ptext_any s w hs); have HW := Lib.hid h; clear h; have HZ : Hid ((bsOf (encText s)).size ≤ 65537) := by rw [Hid, bsOf_size, encText, List.length_append, leB_length, len_list]; omega
 go_enter Tryz.func79, Tryz.ntmps79; go_wp2_with fail; refine HC.out.mono ?_; rintro e w1 ⟨rfl, hB1⟩; have HS := Lib.hid (writeString_any B b l (bsOf (encText s)) w1 (HW.out.keep hB1) (by have := HZ.out; omega) (Nat.le_trans hB hB1.size))
 have HB1 := Lib.hid hB1; clear hB1 HC; go_wp2_with fail; refine HS.out.mono ?_; rintro e w2 ⟨rfl, h2⟩; have H2 := Lib.hid h2; clear h2 HS; go_wp2; go_end0; exact ⟨rfl, H2.out.1, (HB1.out.mono hB).trans H2.out.2.1, (KN.of_below HB1.out).trans H2.out.2.2⟩
set_option maxHeartbeats 1000000 in
theorem nums_any (B b g n : Nat) (xs : List Int) (l : BL) (w : World) (h : IsWr B b l w) (hg : BX b w g 51 (xs.map (Value.int .u32)).toArray) (hn : n = 1 ∨ n = 2 ∨ n = 4) (hx : ∀ x ∈ xs, 0 ≤ x ∧ x < pow256 n) (hxl : xs.length ≤ 2) (hlen : l.length ≤ 1000000000) (hB : B ≤ w.heap.size) :
 Calls Tryz.prog 80 #[.pointer (some ⟨b, 0, none⟩), .int .i64 n, .slice (some ⟨g, 0, none⟩) xs.length xs.length] w fun e w' => e = .returned (.tuple #[]) ∧ WPost B b (l ++ xs.flatMap (leB n)) w w' := by
 have HW : Hid (WPost B b (l ++ (xs.take 0).flatMap (leB n)) w w) := ⟨by simpa using h, Below.refl _ _, KN.refl _ _⟩
 have HG := Lib.hid hg; have HX := Lib.hid hx; have HN := Lib.hid hn; have hn4 : n ≤ 4 := by omega
 clear h hg hx hn; go_enter Tryz.func80, Tryz.ntmps80; go_wp2
 go_loopw [12] (fun v12 wr => ∃ i : Nat, i ≤ xs.length ∧ v12 = .int .i64 i ∧ WPost B b (l ++ (xs.take i).flatMap (leB n)) w wr) (fun v12 _ => xs.length - (intOf v12).toNat)
 case atStart => exact ⟨0, Nat.zero_le _, rfl, HW.out⟩
 case round =>
  obtain ⟨i, hi, rfl, hw⟩ := hrel; clear HW; have HW := Lib.hid hw; clear hw; have hBr : B ≤ wr.heap.size := Nat.le_trans hB HW.out.2.1.size
  by_cases hlt : i < xs.length
  ·have c := (HG.out.keep HW.out.2.2).cell i; rw [List.getElem?_toArray, List.getElem?_map, List.getElem?_eq_getElem hlt, Option.map_some] at c; have hb := HX.out _ (List.getElem_mem hlt)
   have HL : Hid (((xs.take i).flatMap (leB n)).length ≤ 8) := by
    rw [Hid, show ((xs.take i).flatMap (leB n)).length = (xs.take i).length * n from ?_]
    ·rw [List.length_take]; have h1 : min i xs.length ≤ 2 := by omega
     have h2 : n ≤ 4 := by rcases HN.out with h | h | h <;> omega
     exact Nat.le_trans (Nat.mul_le_mul h1 h2) (by omega)
    ·induction xs.take i with
     | nil => simp
     | cons a r ih => rw [List.flatMap_cons, List.length_append, ih, leB_length, List.length_cons, Nat.succ_mul]; omega
   have HT : Hid (l ++ (xs.take (i + 1)).flatMap (leB n) = (l ++ (xs.take i).flatMap (leB n)) ++ leB n xs[i]) := by
    rw [Hid, List.take_succ_eq_append_getElem hlt, List.flatMap_append, List.flatMap_singleton, List.append_assoc]
   generalize xs[i] = x at c hb HT; have HC := Lib.hid (pnum_any n x wr HN.out hb.1 hb.2); clear hb; go_wp2_with fail; refine HC.out.mono ?_; rintro e w1 ⟨rfl, hB1⟩; have HS := Lib.hid (writeString_any B b (l ++ (xs.take i).flatMap (leB n)) (bsOf (leB n x)) w1 (HW.out.1.keep hB1) (by rw [bsOf_size, leB_length, List.length_append]; have := HL.out; omega) (Nat.le_trans hBr hB1.size))
   have HB1 := Lib.hid hB1; clear hB1 HC c; go_wp2_with fail; refine HS.out.mono ?_; rintro e w2 ⟨rfl, h2⟩; have H2 := Lib.hid h2; clear h2 HS; go_wp2; go_roundw
   case rel => exact ⟨i + 1, by omega, by go_num, by rw [HT.out]; exact (HW.out.keep HB1.out hB).trans H2.out⟩
   case measure => simp [intOf]; omega
  ·have HE : Hid (xs.take i = xs) := List.take_of_length_le (by omega)
   have hw := HW.out; rw [HE.out] at hw; have HW2 := Lib.hid hw; clear hw HE; go_wp2; go_end0; exact ⟨rfl, HW2.out⟩
end
section
open Go.RowKit Go.Maps Go.Shelf Go.Sort Go.Lib
def toI (p : PP) : Int × Int := ((p.1 : Nat), (p.2 : Nat))
def backI (x : Int × Int) : PP := (x.1.toNat, x.2.toNat)
theorem backI_toI (p : PP) : backI (toI p) = p := by simp [backI, toI]
def encI (x : Int × Int) : List Value := [.int .i64 x.1, .int .i64 x.2]
def plti (x y : Int × Int) : Prop := x.1 < y.1 ∨ (x.1 = y.1 ∧ x.2 < y.2)
instance (x y : Int × Int) : Decidable (plti x y) := by unfold plti; exact inferInstance
theorem cmpP_lt (x y : Int × Int) : cmpP x y < 0 ↔ plti x y := by
 unfold cmpP orI cmpI plti
 by_cases h1 : x.1 < y.1
 ·simp [h1]
 ·by_cases h2 : y.1 < x.1
  ·simp [h1, h2]; omega
  ·have e : x.1 = y.1 := by omega
   by_cases h3 : x.2 < y.2
   ·simp [e, h3]
   ·by_cases h4 : y.2 < x.2 <;> simp [e, h3, h4]
theorem lt_cmpP (x y : Int × Int) : Go.Proofs.ltOf cmpP x y = decide (plti x y) := by
 unfold Go.Proofs.ltOf; simp only [cmpP_lt]
theorem swoP : SWO (Go.Proofs.ltOf cmpP) where
 irrefl x := by rw [lt_cmpP]; simp [plti]
 trans x y z h1 h2 := by rw [lt_cmpP, decide_eq_true_eq] at *; unfold plti at *; omega
 ntrans x y z h1 h2 := by rw [lt_cmpP, decide_eq_false_iff_not] at *; unfold plti at *; omega
theorem orderLays (blk off size : Nat) (w : World) : Go.Proofs.CmpLays Tryz.prog 112 #[] encI 2 cmpP blk off size w := fun _ _ _ _ x y => order_any x y _
theorem placeCells_enc (ps : List PP) : placeCells ps = (ps.map toI).flatMap encI := by
 induction ps with
 | nil => rfl
 | cons p r ih => simp only [placeCells, List.flatMap_cons, List.map_cons] at *; rw [ih]; rfl
theorem flat2_get : ∀ (l : List (Int × Int)) (t : Nat), t < l.length * 2 → (l.flatMap encI)[t]? = some ((encI (l.toArray[t / 2]!))[t % 2]!)
 | x :: r, 0, _ => by simp [encI]
 | x :: r, 1, _ => by simp [encI]
 | x :: r, t + 2, h => by
   have ih := flat2_get r t (by simp at h; omega)
   have e1 : (t + 2) / 2 = t / 2 + 1 := by omega
   have e2 : (t + 2) % 2 = t % 2 := by omega
   rw [e1, e2, List.flatMap_cons, show encI x = [.int .i64 x.1, .int .i64 x.2] from rfl]
   simp only [List.cons_append, List.nil_append, List.getElem?_cons_succ]; rw [ih]
   congr 3
   simp [Array.getElem!_eq_getD, Array.getD]
 | [], t, h => by simp at h
theorem flatK_get (l : List (Int × Int)) (t : Nat) (h : t < l.length * 2) : (l.flatMap encI)[t]? = some ((flatK encI 2 l.toArray)[t]!) := by
 rw [flat2_get l t h, get_flatK encI 2 l.toArray t (by simpa using h)]
theorem holds_of_row {base : Nat} {w : World} {ps : List PP} {g cap : Nat} (h : PRow base w (.slice (some ⟨g, 0, none⟩) ps.length cap) ps) : HoldsK encI 2 w g 0 (ps.map toI).toArray := by
 intro j hj; rw [size_flatK] at hj; have hj' : j < (ps.map toI).length * 2 := by simpa using hj
 have h1 := flatK_get _ j hj'; rw [← placeCells_enc] at h1; have h2 := h.cells (g := g) rfl j _ h1; rw [add_zero_eq] at h2; refine ⟨by rw [Nat.zero_add]; exact h2, ?_⟩
 rcases h.2 with ⟨h3, -⟩ | ⟨g', cap', cur, h3, -, h4, -⟩
 ·cases h3
 ·cases h3; exact Lib.frozen_of_heap h4 _
theorem cells_len (ps : List PP) : (placeCells ps).length = ps.length * 2 := by
 induction ps with
 | nil => rfl
 | cons p r ih => simp only [placeCells, List.flatMap_cons, List.length_append, List.length_cons, List.length_nil] at *; omega
theorem sorted_block {w : World} {g n : Nat} {D : Array (Int × Int)} {os : Array Obj} {cur : Array Value} {e : TypeId} (h : w.heap[g]? = some (.cells cur e (0, 0))) :
 (sortWorldK encI 2 w g 0 n D os).heap[g]? = some (.cells (putCells id 0 (flatK encI 2 D) cur) e (0, 0)) := by
 have hlt := (Array.getElem?_eq_some_iff.1 h).1; unfold sortWorldK putRowK putRow grow mapBlock Sort.ahead; rw [Array.getElem?_append_left (by simpa using hlt), Array.getElem?_modify]
 simp only [if_true]; rw [h]; rfl
theorem sorted_other {w : World} {g n : Nat} {D : Array (Int × Int)} {os : Array Obj} {k : Nat} (hk : k < w.heap.size) (hne : k ≠ g) : (sortWorldK encI 2 w g 0 n D os).heap[k]? = w.heap[k]? := by
 unfold sortWorldK putRowK putRow grow mapBlock Sort.ahead; rw [Array.getElem?_append_left (by simpa using hk), Array.getElem?_modify, if_neg (fun e => hne e.symm)]
theorem sorted_size {w : World} {g n : Nat} {D : Array (Int × Int)} {os : Array Obj} : w.heap.size ≤ (sortWorldK encI 2 w g 0 n D os).heap.size := by
 unfold sortWorldK putRowK putRow grow mapBlock Sort.ahead; simp
theorem row_put {base : Nat} {w : World} {ps ps' : List PP} {g cap n : Nat} {os : Array Obj} (h : PRow base w (.slice (some ⟨g, 0, none⟩) ps.length cap) ps) (hl : ps'.length = ps.length) :
 PRow base (sortWorldK encI 2 w g 0 n (ps'.map toI).toArray os) (.slice (some ⟨g, 0, none⟩) ps.length cap) ps' := by
 refine ⟨cells_len ps', ?_⟩; rcases h.2 with ⟨h3, -⟩ | ⟨g', cap', cur, h3, hb, h4, h5, h6, h7, h8⟩
 ·cases h3
 ·cases h3; refine .inr ⟨g, cap, putCells id 0 (flatK encI 2 (ps'.map toI).toArray) cur, by rw [hl], hb, sorted_block h4, by omega, h6, by simp [putCells, h7], ?_⟩
  apply List.ext_getElem?; intro t
  by_cases ht : t < ps'.length * 2
  ·have h9 := flatK_get (ps'.map toI) t (by simpa using ht)
   rw [← placeCells_enc] at h9; rw [h9, List.getElem?_take, if_pos ht]; have hc : t < cur.size := by omega
   simp [putCells, hc]; omega
  ·rw [List.getElem?_eq_none (by simp; omega), List.getElem?_eq_none (by rw [cells_len]; omega)]
theorem perm_back {D' : Array (Int × Int)} {ps : List PP} (h : D'.toList.Perm (ps.map toI)) : ∃ ps' : List PP, ps'.Perm ps ∧ D' = (ps'.map toI).toArray := by
 refine ⟨D'.toList.map backI, ?_, ?_⟩
 ·have := h.map backI; rw [List.map_map] at this; have e : (backI ∘ toI) = id := by funext p; exact backI_toI p
  rwa [e, List.map_id] at this
 ·apply Array.ext'; rw [List.map_map]
  have : ∀ x ∈ D'.toList, (toI ∘ backI) x = x := fun x hx => by
   obtain ⟨p, -, rfl⟩ := List.mem_map.1 (h.mem_iff.1 hx); simp [backI_toI]
  rw [List.map_congr_left this, List.map_id']
theorem sorted_pw {ps' : List PP} {n : Nat} (hn : n = ps'.length) (h : SortedIn (Go.Proofs.ltOf cmpP) 0 n (ps'.map toI).toArray) : ps'.Pairwise (fun a b => ¬ plt b a) := by
 rw [List.pairwise_iff_getElem]; intro i j hi hj hij hp; have := h i j (by omega) hij (by omega)
 rw [lt_cmpP, decide_eq_false_iff_not] at this; apply this; have e1 : (ps'.map toI).toArray[i]! = toI ps'[i] := by rw [getElem!_pos _ i (by simpa using hi)]; simp
 have e2 : (ps'.map toI).toArray[j]! = toI ps'[j] := by rw [getElem!_pos _ j (by simpa using hj)]; simp
 rw [e1, e2]; unfold plt at hp; unfold plti toI; simp only []; omega
theorem order_enters (args : Array Value) (w : World) : (callFunc 112 args).run Tryz.prog w = .ok (.enter 112 args) w := enters_of Tryz.func112 (by kernel_rfl) rfl args w
theorem sort_ok : SortOk := by
 intro base v ps w h hl
 by_cases h0 : ps.length = 0
 ·obtain ⟨p, c, rfl⟩ := own_shape h; obtain rfl : ps = [] := List.eq_nil_of_length_eq_zero h0; have hcon := Go.Proofs.AnyF.slices_SortFunc_none Tryz.sortPlaces p c (.func (.func 112) #[] #[]) w; change Calls Tryz.prog 111 _ _ _ at hcon; refine hcon.mono ?_; rintro e w' ⟨rfl, rfl⟩; exact ⟨rfl, [], .refl _, List.Pairwise.nil, h, KB.refl _ _⟩
 ·obtain ⟨g, cap, rfl, hbg, hgl⟩ := World.ownsRow.form h (by omega)
  have hsz : ((ps.map toI).toArray).size = ps.length := by simp
  have hcon := Go.Proofs.AnyQ.slices_SortFunc Tryz.sortPlaces 2 Tryz.isAgg185 Tryz.sizeOf185 encI (fun _ => rfl) (fun x v hv => by simp [encI] at hv; rcases hv with rfl | rfl <;> rfl) cmpP swoP 112 #[] g 0 cap (ps.map toI).toArray w order_enters (orderLays g 0 _ w) (holds_of_row h) hgl (by rw [hsz]; omega)
  change Calls Tryz.prog 111 _ _ _ at hcon; rw [hsz] at hcon; refine hcon.mono ?_; rintro e w' ⟨rfl, d', n, os, hp, hs, rfl⟩
  have hpp : d'.toList.Perm (ps.map toI) := by
   have h3 := hp.2.2; have hz := hp.1; rw [hsz] at hz; rw [Array.extract_eq_self_of_le (by omega), Array.extract_eq_self_of_le (by rw [hsz]; omega)] at h3
   exact h3
  obtain ⟨ps', hp1, rfl⟩ := perm_back hpp; refine ⟨rfl, ps', hp1, sorted_pw hp1.length_eq.symm hs, row_put h hp1.length_eq, ⟨rfl, rfl, rfl, sorted_size, fun k hk hne => sorted_other hk fun e => hne (by rw [e]; rfl)⟩⟩
end
end Go.Proofs.YtboegjdkedjhcaaGreatDoor
