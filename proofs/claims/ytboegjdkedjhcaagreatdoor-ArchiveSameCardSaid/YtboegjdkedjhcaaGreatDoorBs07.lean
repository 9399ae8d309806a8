/- A symbol among a law's arguments. Rows of few elements, and what a world keeps. No program in sight. Worlds that are kept but for some blocks; rows whose elements are set. No program in. -/
import Derived.Test.YtboegjdkedjhcaaGreatDoorBs04
import Derived.Test.YtboegjdkedjhcaaGreatDoorBs01
import Derived.Deep.AppendLies
import Derived.Deep.QuietTactic
import Derived.Test.YtboegjdkedjhcaaGreatDoorRows
import Derived.Maps.AppendAt
import Derived.Lib.SlicesCompact
import Derived.Test.YtboegjdkedjhcaaGreatDoorBs06
import Derived.Lib.Hide
import Derived.Laws.BitsAllLaws
import Derived.RegionTactic
import Derived.ChangeAlike
import Derived.BigRegion
import Derived.WalkSmall
namespace Go.Proofs.YtboegjdkedjhcaaGreatDoor
section
open Go.ChangeShapes Go.WideShapes Go.ChangeAt Go.RowKit
open Go.ChangeMaps (open_string)
section
variable {H : Type} {enc : TypeId × Value → H} {w : World} {base : Nat} {spare : Nat → Bool} {held : Bool}
end
end
section
open Go.RowKit Go.Maps Go.WideMaps
section
variable {α : Type} {k : Nat} {R : World → Nat → Nat → α → Prop} {w : World} {b o cap : Nat}
theorem rowAt_nil : RowAt k R w (.slice none 0 0) [] := ⟨none, 0, 0, 0, rfl, Nat.le_refl _, by simp, fun h => by simp at h, fun i h => by simp at h⟩
theorem rowAt_one {a : α} (h0 : R w b o a) (hcap : 1 ≤ cap) : RowAt k R w (.slice (some ⟨b, o, none⟩) 1 cap) [a] :=
 ⟨_, cap, b, o, rfl, hcap, by simp, fun _ => rfl, fun i h => by
  have : i = 0 := by simp at h; omega
  subst this; simpa using h0⟩
theorem rowAt_three {a c d : α} (h0 : R w b o a) (h1 : R w b (o + k) c) (h2 : R w b (o + 2 * k) d) (hcap : 3 ≤ cap) : RowAt k R w (.slice (some ⟨b, o, none⟩) 3 cap) [a, c, d] :=
 ⟨_, cap, b, o, rfl, hcap, by simp, fun _ => rfl, fun i h => by
  have : i = 0 ∨ i = 1 ∨ i = 2 := by simp at h; omega
  rcases this with rfl | rfl | rfl
  ·simpa using h0
  ·simpa using h1
  ·simpa using h2⟩
end
def PlaceAt (w : World) (g : Nat) (a b : Int) : Prop := g < w.heap.size ∧ w.cell? ⟨g, 0, none⟩ = some (.int .i64 a) ∧ w.cell? ⟨g, 1, none⟩ = some (.int .i64 b)
theorem ownsRow_below {w w' : World} {base : Nat} {e : TypeId} {size : Nat} {v : Value} {n : Nat} {xs : List Value} (hb : Below w.heap.size w w') (h : w.ownsRow base e size v n xs) : w'.ownsRow base e size v n xs :=
 h.kept (row := none) ⟨hb.os, hb.tape, hb.output, hb.size, fun k hk _ => hb.block k hk⟩ (by cases h' : v.ownBlock <;> simp)
end
section
open Go.RowKit
structure KB (S : Nat → Prop) (w w' : World) : Prop where
 os : w'.os = w.os
 tape : w'.tape = w.tape
 output : w'.output = w.output
 size : w.heap.size ≤ w'.heap.size
 block : ∀ k, k < w.heap.size → ¬ S k → w'.heap[k]? = w.heap[k]?
theorem KB.refl (S : Nat → Prop) (w : World) : KB S w w := ⟨rfl, rfl, rfl, Nat.le_refl _, fun _ _ _ => rfl⟩
theorem KB.trans {S : Nat → Prop} {a b c : World} (h : KB S a b) (k : KB S b c) : KB S a c :=
 ⟨k.os.trans h.os, k.tape.trans h.tape, k.output.trans h.output, Nat.le_trans h.size k.size, fun i hi hs => (k.block i (Nat.lt_of_lt_of_le hi h.size) hs).trans (h.block i hi hs)⟩
theorem KB.of_below {S : Nat → Prop} {w w' : World} (h : Below w.heap.size w w') : KB S w w' := ⟨h.os, h.tape, h.output, h.size, fun k hk _ => h.block k hk⟩
theorem KB.of_grown {S : Nat → Prop} {w w' : World} {r : Option Nat} (h : w.grownBy w' r) (hr : ∀ k, r = some k → S k ∨ w.heap.size ≤ k) : KB S w w' :=
 ⟨h.os, h.tape, h.output, h.size, fun k hk hs => h.block k hk fun e => by rcases hr k e.symm with h1 | h1; exact hs h1; omega⟩
theorem KB.grown {S : Nat → Prop} {a w w' : World} {r : Option Nat} (h : KB S a w) (hg : w.grownBy w' r) (hr : ∀ k, r = some k → S k ∨ a.heap.size ≤ k) : KB S a w' :=
 ⟨hg.os.trans h.os, hg.tape.trans h.tape, hg.output.trans h.output, Nat.le_trans h.size hg.size, fun k hk hs => (hg.block k (Nat.lt_of_lt_of_le hk h.size) fun e => by rcases hr k e.symm with h1 | h1; exact hs h1; omega).trans (h.block k hk hs)⟩
theorem KB.setCell {S : Nat → Prop} {a w : World} (h : KB S a w) {p : Addr} (hp : S p.block ∨ a.heap.size ≤ p.block) (u : Value) : KB S a (w.setCell p u) :=
 ⟨h.os, h.tape, h.output, by simpa using h.size, fun k hk hs => (Below.heap_setCell _ _ _ _ (fun e => by rcases hp with h1 | h1; exact hs (e ▸ h1); omega)).trans (h.block k hk hs)⟩
theorem KB.alloc {S : Nat → Prop} {a w : World} (h : KB S a w) (o : Obj) : KB S a (w.alloc o) :=
 ⟨h.os, h.tape, h.output, by have := h.size; simp; omega, fun k hk hs => (Below.heap_alloc _ _ _ (Nat.lt_of_lt_of_le hk h.size)).trans (h.block k hk hs)⟩
theorem KB.drew {S : Nat → Prop} {a w : World} (h : KB S a w) : KB S a w.drew := ⟨h.os, h.tape, h.output, h.size, h.block⟩
theorem KB.drewN {S : Nat → Prop} {a w : World} (h : KB S a w) (n : Nat) : KB S a (w.drewN n) := ⟨h.os, h.tape, h.output, h.size, h.block⟩
theorem KB.below {S : Nat → Prop} {w w' : World} (h : KB S w w') {B : Nat} (hB : B ≤ w.heap.size) (hs : ∀ k, k < B → ¬ S k) : Below B w w' :=
 ⟨h.os, h.tape, h.output, h.size, fun k hk => h.block k (by omega) (hs k hk)⟩
theorem KB.cell {S : Nat → Prop} {w w' : World} (h : KB S w w') {b o : Nat} {v : Value} (hb : b < w.heap.size) (hs : ¬ S b) (hc : w.cell? ⟨b, o, none⟩ = some v) : w'.cell? ⟨b, o, none⟩ = some v := by
 rw [World.cell?_of_block (w := w) (h.block b hb hs)]; exact hc
theorem own_congr {w w' : World} {base : Nat} {e : TypeId} {k : Nat} {v : Value} {n : Nat} {xs : List Value} (h : w.ownsRow base e k v n xs) (hg : ∀ g, v.ownBlock = some g → w'.heap[g]? = w.heap[g]?) : w'.ownsRow base e k v n xs := by
 refine ⟨h.1, ?_⟩; rcases h.2 with hn | ⟨g, cap, cur, rfl, hb, h1, rest⟩
 ·exact .inl hn
 ·exact .inr ⟨g, cap, cur, rfl, hb, by rw [hg g rfl]; exact h1, rest⟩
theorem KB.owns {S : Nat → Prop} {w w' : World} (h : KB S w w') {base : Nat} {e : TypeId} {k : Nat} {v : Value} {n : Nat} {xs : List Value} (ho : w.ownsRow base e k v n xs) (hs : ∀ g, v.ownBlock = some g → ¬ S g) : w'.ownsRow base e k v n xs :=
 own_congr ho fun g hg => h.block g (ho.lt g hg).2 (hs g hg)
theorem flat_set3 {α : Type} {f : α → List Value} (hk : ∀ x, (f x).length = 3) {x : α} {a b c : Value} (hx : f x = [a, b, c]) : ∀ (l : List α) (i : Nat), i < l.length → ((((l.flatMap f).set (i * 3) a).set (i * 3 + 1) b).set (i * 3 + 2) c) = (l.set i x).flatMap f
 | y :: r, 0, _ => by
   have h3 := hk y
   match hy : f y, h3 with
   | [y0, y1, y2], _ => simp [hy, hx]
 | y :: r, i + 1, h => by
   have h3 := hk y; have ih := flat_set3 hk hx r i (by simpa using h)
   match hy : f y, h3 with
   | [y0, y1, y2], _ =>
     rw [List.set_cons_succ, List.flatMap_cons, List.flatMap_cons, hy, ← ih, show (i + 1) * 3 = i * 3 + 1 + 1 + 1 by omega, show i * 3 + 1 + 1 + 1 + 1 = i * 3 + 1 + 1 + 1 + 1 from rfl]
     simp
theorem zero_cells3 (z : Value) (a b c : Value) (hz : z.cells = #[a, b, c]) : ∀ n, (madeCells z.cells (n * 3)).toList = (List.replicate n ()).flatMap fun _ => [a, b, c] := by
 intro n; apply List.ext_getElem?; intro q; rw [hz]
 by_cases hq : q < n * 3
 ·have h1 : q / 3 < (List.replicate n ()).length := by simp; omega
  have h2 := flat_get (f := fun _ : Unit => [a, b, c]) (k := 3) (fun _ => rfl) (List.replicate n ()) (q / 3) (q % 3) h1 (by omega)
  rw [show q / 3 * 3 + q % 3 = q by omega] at h2
  rw [h2]; have h3 : q % 3 = 0 ∨ q % 3 = 1 ∨ q % 3 = 2 := by omega
  rcases h3 with h3 | h3 | h3 <;> simp [madeCells, hq, h3]
 ·rw [List.getElem?_eq_none (by simp [size_madeCells]; omega), List.getElem?_eq_none (by rw [flat_len (k := 3) (fun _ => rfl)]; simp; omega)]
end
section
open Go.RowKit Go.Maps Go.WideMaps
def placeCells (ps : List (Nat × Nat)) : List Value := ps.flatMap fun p => [.int .i64 p.1, .int .i64 p.2]
def PRow (base : Nat) (w : World) (v : Value) (ps : List (Nat × Nat)) : Prop := w.ownsRow base 185 2 v ps.length (placeCells ps)
theorem PRow.keep {base : Nat} {w w' : World} {v : Value} {ps : List (Nat × Nat)} (hb : Below w.heap.size w w') (h : PRow base w v ps) : PRow base w' v ps := ownsRow_below hb h
theorem PRow.nil (base : Nat) (w : World) : PRow base w (.slice none 0 0) [] := World.ownsRow_nil w _ _ _
theorem placeCells_snoc (ps : List (Nat × Nat)) (a b : Nat) : placeCells (ps ++ [(a, b)]) = placeCells ps ++ [.int .i64 a, .int .i64 b] := by simp [placeCells]
theorem PRow.snoc {base : Nat} {w : World} {v : Value} {ps : List (Nat × Nat)} {a b : Nat} (h : w.ownsRow base 185 2 v (ps.length + 1) (placeCells ps ++ [.int .i64 a, .int .i64 b])) : PRow base w v (ps ++ [(a, b)]) := by
 unfold PRow; rw [placeCells_snoc, List.length_append]; exact h
def PlaceR (w : World) (b o : Nat) (p : Nat × Nat) : Prop := b < w.heap.size ∧ w.cell? ⟨b, o, none⟩ = some (.int .i64 p.1) ∧ w.cell? ⟨b, o + 1, none⟩ = some (.int .i64 p.2)
theorem placeR_keeps : Keeps PlaceR := fun _ _ _ _ _ hb ⟨h0, h1, h2⟩ => ⟨size_keep hb h0, cell_keep hb h0 h1, cell_keep hb h0 h2⟩
theorem add_zero_eq (g j : Nat) : (⟨g, 0, none⟩ : Addr).add j = ⟨g, j, none⟩ := by
 unfold Addr.add
 by_cases h : j = 0 <;> simp [h]
theorem placeCells_get : ∀ (ps : List (Nat × Nat)) (i : Nat) (h : i < ps.length), (placeCells ps)[i * 2]? = some (.int .i64 (ps[i].1 : Nat)) ∧ (placeCells ps)[i * 2 + 1]? = some (.int .i64 (ps[i].2 : Nat))
 | p :: r, 0, _ => by simp [placeCells]
 | p :: r, i + 1, h => by
   have := placeCells_get r i (by simpa using h)
   have e : placeCells (p :: r) = .int .i64 p.1 :: .int .i64 p.2 :: placeCells r := by simp [placeCells]
   rw [e, show (i + 1) * 2 = i * 2 + 1 + 1 by omega, show i * 2 + 1 + 1 + 1 = (i * 2 + 1) + 1 + 1 by omega]
   simp only [List.getElem?_cons_succ, List.getElem_cons_succ]; exact this
 | [], i, h => by simp at h
theorem placeRow_at {base : Nat} {w : World} {g cap : Nat} {ps : List (Nat × Nat)} (h : PRow base w (.slice (some ⟨g, 0, none⟩) ps.length cap) ps) (i : Nat) (hi : i < ps.length) : PlaceR w g (i * 2) ps[i] := by
 have hcl := fun j u => h.cells (g := g) rfl j u
 simp only [add_zero_eq] at hcl; obtain ⟨e1, e2⟩ := placeCells_get ps i hi; exact ⟨(h.lt g rfl).2, hcl _ _ e1, hcl _ _ e2⟩
theorem PRow.row {base : Nat} {w : World} {v : Value} {ps : List (Nat × Nat)} (h : PRow base w v ps) (hl : ps.length ≤ 140737488355328) : RowAt 2 PlaceR w v ps := by
 by_cases h0 : ps.length = 0
 ·obtain rfl : ps = [] := List.eq_nil_of_length_eq_zero h0; rcases h.2 with ⟨rfl, -⟩ | ⟨g, cap, cur, rfl, -, -, hc, -⟩
  ·exact rowAt_nil
  ·exact ⟨_, cap, 0, 0, rfl, hc, by simp, fun h => by simp at h, fun i h => by simp at h⟩
 ·obtain ⟨g, cap, rfl, -, hg⟩ := World.ownsRow.form h (by omega)
  have hcap : ps.length ≤ cap := by
   rcases h.2 with ⟨h', -⟩ | ⟨g', cap', cur, h', -, -, h2, -⟩
   ·cases h'
   ·cases h'; exact h2
  have hcl := fun j u => h.cells (g := g) rfl j u
  simp only [add_zero_eq] at hcl; refine ⟨_, cap, g, 0, rfl, hcap, hl, fun _ => rfl, fun i hi => ?_⟩
  obtain ⟨e1, e2⟩ := placeCells_get ps i hi; exact ⟨hg, by simpa using hcl _ _ e1, by rw [Nat.zero_add]; exact hcl _ _ e2⟩
theorem info_place : (Tryz.prog.info? 185).map (fun i => (i.zero, i.size, i.bytes)) = some (some (.agg #[.int .i64 0, .int .i64 0]), 2, 16) := by kernel_rfl
theorem two_news {w : World} {g : Nat} {a b : Value} (h0 : w.cell? ⟨g, 0, none⟩ = some a) (h1 : w.cell? ⟨g, 1, none⟩ = some b) : ∀ j u, [a, b][j]? = some u → w.cell? ((⟨g, 0, none⟩ : Addr).add j) = some u := by
 intro j u hu
 match j, hu with
 | 0, hu => simp at hu; subst hu; simpa [Addr.add] using h0
 | 1, hu => simp at hu; subst hu; simpa [Addr.add] using h1
 | n + 2, hu => simp at hu
theorem two_one {a b : Nat} : ∀ u ∈ [Value.int .i64 (a : Int), Value.int .i64 (b : Int)], u.oneCell' = true := by
 intro u hu; simp at hu; rcases hu with rfl | rfl <;> rfl
def RefsPost (w : World) (ps : List (Nat × Nat)) (n : ByteArray) (c : Int) (e : Ending) (w' : World) : Prop := ∃ vo, e = .returned (.tuple #[vo, .string n, .int .i64 c]) ∧ RowAt 2 PlaceR w' vo ps ∧ Below w.heap.size w w'
def selB (fl : List Spot) (x : Spot) : Bool := decide (x.it.bind = 0) || decide (winnerIn fl x.it.name.data.toList = some (x.obj, x.sym))
def selPlaces (fl pre : List Spot) : List (Nat × Nat) := (pre.filter (selB fl)).map fun x => (x.obj, x.sym)
theorem selPlaces_le (fl pre : List Spot) : (selPlaces fl pre).length ≤ pre.length := by
 unfold selPlaces; rw [List.length_map]; exact List.length_filter_le _ _
end
section
abbrev PP := Nat × Nat
def plt (a b : PP) : Prop := a.1 < b.1 ∨ (a.1 = b.1 ∧ a.2 < b.2)
def knowsP (l : List GObj) (p q : PP) : Prop := ∃ x ∈ relsAt l p.1 p.2, findR l p.1 x.name.data.toList = some q
inductive Reach (l : List GObj) (p : PP) : PP → Prop
 | refl : Reach l p p
 | step {x y : PP} : Reach l p x → knowsP l x y → Reach l p y
def KeptOf (l : List GObj) (p : PP) (K : List PP) : Prop := K.Pairwise plt ∧ ∀ x, x ∈ K ↔ Reach l p x
structure Goes (l : List GObj) (p : PP) (L : List PP) (F : PP → Option PP) (n : Nat) : Prop where
 head : L[0]? = some p
 nd : L.Nodup
 dom : ∀ x, (F x).isSome = true ↔ x ∈ L
 par : ∀ i (h : i < L.length), (i = 0 ∧ F L[i] = some p) ∨ ∃ j, ∃ hj : j < i, F L[i] = some L[j] ∧ knowsP l L[j] L[i]
 closed : ∀ i (h : i < L.length), i < n → ∀ q, knowsP l L[i] q → q ∈ L
def updF (F : PP → Option PP) (q y : PP) : PP → Option PP := fun x => if x = q then some y else F x
theorem Goes.start (l : List GObj) (p : PP) : Goes l p [p] (updF (fun _ => none) p p) 0 where
 head := rfl
 nd := List.nodup_cons.2 ⟨by simp, List.nodup_nil⟩
 dom x := by unfold updF; by_cases h : x = p <;> simp [h]
 par i h := by
  obtain rfl : i = 0 := by simp at h; omega
  exact .inl ⟨rfl, by simp [updF]⟩
 closed i h hn := by omega
theorem Goes.put {l : List GObj} {p q : PP} {L : List PP} {F : PP → Option PP} {n i : Nat} (g : Goes l p L F n) (hn0 : n ≤ L.length) (hi : i < L.length) (hk : knowsP l L[i] q) (hq : F q = none) : Goes l p (L ++ [q]) (updF F q L[i]) n where
 head := by
  have h := g.head; have h0 : 0 < L.length := by omega
  rw [List.getElem?_append_left h0]; exact h
 nd := by
  rw [List.nodup_append]; refine ⟨g.nd, List.nodup_cons.2 ⟨by simp, List.nodup_nil⟩, fun a ha b hb => ?_⟩
  simp only [List.mem_singleton] at hb; subst hb; rintro rfl; have := (g.dom a).2 ha; rw [hq] at this; cases this
 dom x := by
  unfold updF
  by_cases h : x = q
  ·subst h; simp
  ·have := g.dom x; simp [h, this]
 par k h := by
  have hqn : q ∉ L := fun hm => by have := (g.dom q).2 hm; rw [hq] at this; cases this
  by_cases hkl : k < L.length
  ·have hne : L[k] ≠ q := fun e => hqn (e ▸ List.getElem_mem hkl)
   have e1 : (L ++ [q])[k] = L[k] := List.getElem_append_left hkl; rw [e1]; rcases g.par k hkl with ⟨h1, h2⟩ | ⟨j, hj, h1, h2⟩
   ·exact .inl ⟨h1, by simp only [updF, if_neg hne]; exact h2⟩
   ·refine .inr ⟨j, hj, ?_⟩; have e2 : (L ++ [q])[j] = L[j] := List.getElem_append_left (by omega)
    rw [e2]; exact ⟨by simp only [updF, if_neg hne]; exact h1, h2⟩
  ·have e0 : k = L.length := by simp at h; omega
   subst e0; have e1 : (L ++ [q])[L.length] = q := by simp
   rw [e1]; refine .inr ⟨i, hi, ?_⟩; have e2 : (L ++ [q])[i] = L[i] := List.getElem_append_left hi; rw [e2]; exact ⟨by simp [updF], hk⟩
 closed k h hn y hy := by
  by_cases hkl : k < L.length
  ·rw [List.getElem_append_left hkl] at hy; exact List.mem_append.2 (.inl (g.closed k hkl hn y hy))
  ·simp at h; omega
theorem Goes.reach {l : List GObj} {p : PP} {L : List PP} {F : PP → Option PP} {n : Nat} (g : Goes l p L F n) : ∀ i (h : i < L.length), Reach l p L[i] := by
 intro i
 induction i using Nat.strongRecOn with
 | ind i ih =>
   intro h; rcases g.par i h with ⟨h1, h2⟩ | ⟨j, hj, h1, h2⟩
   ·subst h1; have := g.head; rw [List.getElem?_eq_getElem h] at this; rw [Option.some.inj this]; exact .refl
   ·exact .step (ih j hj (by omega)) h2
theorem Goes.done {l : List GObj} {p : PP} {L : List PP} {F : PP → Option PP} {n : Nat} (g : Goes l p L F n) (hn : L.length ≤ n) (x : PP) : x ∈ L ↔ Reach l p x := by
 constructor
 ·intro h; obtain ⟨i, hi, rfl⟩ := List.mem_iff_getElem.1 h; exact g.reach i hi
 ·intro h
  induction h with
  | refl =>
    have := g.head; exact List.mem_of_getElem? this
  | step _ k ih =>
    obtain ⟨i, hi, rfl⟩ := List.mem_iff_getElem.1 ih; exact g.closed i hi (by omega) _ k
theorem refsGo_mem {l : List GObj} {a : Int} : ∀ {rs : List GRel} {acc ps : List PP} {n : ByteArray}, refsGo l a acc rs = (ps, n, 0) → ∀ q, q ∈ ps ↔ q ∈ acc ∨ ∃ x ∈ rs, findR l a x.name.data.toList = some q
 | [], acc, ps, n, h, q => by
   simp only [refsGo, Prod.mk.injEq] at h; simp [h.1]
 | x :: r, acc, ps, n, h, q => by
   simp only [refsGo] at h; cases hf : findR l a x.name.data.toList with
   | none => rw [hf] at h; simp at h
   | some p =>
     rw [hf] at h; rw [refsGo_mem h q]; rw [List.mem_append]; constructor
     ·rintro ((h1 | h1) | ⟨y, h1, h2⟩)
      ·exact .inl h1
      ·exact .inr ⟨x, List.mem_cons_self, by rw [hf, List.mem_singleton.1 h1]⟩
      ·exact .inr ⟨y, List.mem_cons_of_mem _ h1, h2⟩
     ·rintro (h1 | ⟨y, h1, h2⟩)
      ·exact .inl (.inl h1)
      ·rcases List.mem_cons.1 h1 with rfl | h1
       ·rw [hf] at h2; exact .inl (.inr (List.mem_singleton.2 (Option.some.inj h2).symm))
       ·exact .inr ⟨y, h1, h2⟩
theorem firstBy_hit {fl : List Spot} {n : List UInt8} {b : Int} {q : PP} (h : firstBy fl n b = some q) : ∃ x ∈ fl, hits n b x = true ∧ q = (x.obj, x.sym) := by
 unfold firstBy at h; obtain ⟨x, hx, rfl⟩ := Option.map_eq_some_iff.1 h; exact ⟨x, List.mem_of_find?_eq_some hx, List.find?_some hx, rfl⟩
theorem hits_name {n : List UInt8} {b : Int} {x : Spot} (h : hits n b x = true) : x.it.name.data.toList = n ∧ x.it.bind = b := by
 simp only [hits, Bool.and_eq_true, beq_iff_eq, decide_eq_true_eq] at h; exact h
theorem findR_spot {l : List GObj} {i : Int} {n : List UInt8} {q : PP} (h : findR l i n = some q) : ∃ x ∈ flat l, q = (x.obj, x.sym) ∧ x.it.name.data.toList = n ∧ ((x.it.bind = 0 ∧ 0 ≤ i ∧ x.obj = i.toNat) ∨ winnerIn (flat l) n = some q) := by
 unfold findR at h
 by_cases hi : 0 ≤ i
 ·rw [if_pos hi] at h; cases hl : localAt l i.toNat n with
  | some p =>
    rw [hl] at h; obtain rfl := Option.some.inj h; unfold localAt at hl; cases ho : l[i.toNat]? with
    | none => rw [ho] at hl; cases hl
    | some o =>
      rw [ho] at hl; obtain ⟨k, hk, rfl⟩ := Option.map_eq_some_iff.1 hl; obtain ⟨hkl, h1, -⟩ := List.findIdx?_eq_some_iff_getElem.1 hk; simp only [isLocal, Bool.and_eq_true, beq_iff_eq, decide_eq_true_eq] at h1; exact ⟨⟨i.toNat, k, o.syms[k]⟩, mem_flat ho (List.getElem?_eq_getElem hkl), rfl, h1.1, .inl ⟨h1.2, hi, rfl⟩⟩
  | none =>
    rw [hl] at h; have hw := h; unfold winnerIn at h; cases h1 : firstBy (flat l) n 1 with
    | some p =>
      simp only [h1] at h; obtain ⟨x, hx, hh, e⟩ := firstBy_hit (h1.trans h); exact ⟨x, hx, e, (hits_name hh).1, .inr hw⟩
    | none =>
      simp only [h1] at h; obtain ⟨x, hx, hh, e⟩ := firstBy_hit h; exact ⟨x, hx, e, (hits_name hh).1, .inr hw⟩
 ·rw [if_neg hi] at h; have hw := h; simp only [] at h hw; unfold winnerIn at h; cases h1 : firstBy (flat l) n 1 with
  | some p =>
    simp only [h1] at h; obtain ⟨x, hx, hh, e⟩ := firstBy_hit (h1.trans h); exact ⟨x, hx, e, (hits_name hh).1, .inr hw⟩
  | none =>
    simp only [h1] at h; obtain ⟨x, hx, hh, e⟩ := firstBy_hit h; exact ⟨x, hx, e, (hits_name hh).1, .inr hw⟩
end
section
end
section
end
section
theorem plt_irrefl (a : PP) : ¬ plt a a := by unfold plt; omega
theorem plt_asymm {a b : PP} (h : plt a b) : ¬ plt b a := by unfold plt at *; omega
theorem pw_eq : ∀ (K K' : List PP), K.Pairwise plt → K'.Pairwise plt → (∀ x, x ∈ K ↔ x ∈ K') → K = K'
 | [], [], _, _, _ => rfl
 | [], b :: K', _, _, h => by have := (h b).2 List.mem_cons_self; cases this
 | a :: K, [], _, _, h => by have := (h a).1 List.mem_cons_self; cases this
 | a :: K, b :: K', h1, h2, h => by
   obtain ⟨a1, a2⟩ := List.pairwise_cons.1 h1; obtain ⟨b1, b2⟩ := List.pairwise_cons.1 h2
   have hab : a = b := by
    rcases List.mem_cons.1 ((h a).1 List.mem_cons_self) with e | e
    ·exact e
    ·rcases List.mem_cons.1 ((h b).2 List.mem_cons_self) with e' | e'
     ·exact e'.symm
     ·exact absurd (a1 b e') (plt_asymm (b1 a e))
   subst hab; rw [pw_eq K K' a2 b2 fun x => ⟨fun hx => ?_, fun hx => ?_⟩]
   ·rcases List.mem_cons.1 ((h x).1 (List.mem_cons_of_mem _ hx)) with e | e
    ·exact absurd (e ▸ a1 x hx) (plt_irrefl _)
    ·exact e
   ·rcases List.mem_cons.1 ((h x).2 (List.mem_cons_of_mem _ hx)) with e | e
    ·exact absurd (e ▸ b1 x hx) (plt_irrefl _)
    ·exact e
theorem KeptOf.eq {l : List GObj} {p : PP} {K K' : List PP} (h : KeptOf l p K) (h' : KeptOf l p K') : K = K' := pw_eq K K' h.1 h'.1 fun x => (h.2 x).trans (h'.2 x).symm
def validP (l : List GObj) (p : PP) : Prop := ∃ o s, l[p.1]? = some o ∧ o.syms[p.2]? = some s
theorem findR_valid {l : List GObj} {i : Int} {n : List UInt8} {q : PP} (h : findR l i n = some q) : validP l q := by
 obtain ⟨x, hx, rfl, -⟩ := findR_spot h; obtain ⟨o, h1, h2⟩ := flat_mem hx; exact ⟨o, _, h1, h2⟩
theorem Reach.valid {l : List GObj} {p x : PP} (hp : validP l p) (h : Reach l p x) : validP l x := by
 cases h with
 | refl => exact hp
 | step _ k => obtain ⟨_, _, hf⟩ := k; exact findR_valid hf
end
section
end
section
structure GMan where
 pages : Int
 exts : List (Int × Int)
 ports : List Int
 cons : Bool
def man0 : GMan := ⟨0, [], [], false⟩
structure Gat where
 pages : Int
 ports : List Int
 cons : Bool
 blocks : List Int
def gat0 : Gat := ⟨0, [], false, List.replicate 16 0⟩
def gatNote (g : Gat) (x : GNote) : Gat :=
 if x.kind = 1 then { g with pages := max g.pages x.n }
 else if x.kind = 2 then { g with blocks := g.blocks.set x.n.toNat (max (g.blocks[x.n.toNat]?.getD 0) x.m) }
 else if x.kind = 3 then { g with ports := g.ports ++ [x.n] }
 else { g with cons := true }
def gatAll (l : List GNote) : Gat := l.foldl gatNote gat0
def sortI (l : List Int) : List Int := l.mergeSort fun x y => decide (x ≤ y)
def onceI (l : List Int) : List Int := Lib.compact l
def extsFrom : Nat → List Int → List (Int × Int)
 | _, [] => []
 | k, n :: r => if 0 < n then ((k : Int), n) :: extsFrom (k + 1) r else extsFrom (k + 1) r
def gatMan (g : Gat) : GMan := ⟨g.pages, extsFrom 0 g.blocks, onceI (sortI g.ports), g.cons⟩
def gatEnd (g : Gat) : GMan × Int := if 16 < (gatMan g).ports.length then (man0, 4) else (gatMan g, 0)
def demandR (l : List GNote) : GMan × Int := if l.all noteOk = true then gatEnd (gatAll l) else (man0, 2)
theorem noteOk_kinds {x : GNote} (h : noteOk x = true) : (x.kind = 1 ∧ x.n ≤ 1024 ∧ x.m = 0) ∨ (x.kind = 2 ∧ x.n < 16 ∧ 1 ≤ x.m ∧ x.m ≤ 1024) ∨ (x.kind = 3 ∧ 1 ≤ x.n ∧ x.n ≤ 65535 ∧ x.m = 0) ∨ (x.kind = 4 ∧ x.n = 0 ∧ x.m = 0) := by
 unfold noteOk at h; split at h
 ·left; simp at h; omega
 ·split at h
  ·right; left; simp at h; omega
  ·split at h
   ·right; right; left; simp at h; omega
   ·split at h
    ·right; right; right; simp at h; omega
    ·cases h
structure GatOk (g : Gat) : Prop where
 p0 : 0 ≤ g.pages
 p1 : g.pages ≤ 1024
 n : g.blocks.length = 16
 b : ∀ x ∈ g.blocks, 0 ≤ x ∧ x ≤ 1024
 q : ∀ x ∈ g.ports, 1 ≤ x ∧ x ≤ 65535
theorem gat0_ok : GatOk gat0 := ⟨by simp [gat0], by simp [gat0], by simp [gat0], fun x hx => by simp [gat0] at hx; omega, fun x hx => by simp [gat0] at hx⟩
theorem gatNote_ok {g : Gat} {x : GNote} (h : GatOk g) (hx : noteOk x = true) (h0 : 0 ≤ x.n) : GatOk (gatNote g x) := by
 rcases noteOk_kinds hx with ⟨e, h1, h2⟩ | ⟨e, h1, h2, h3⟩ | ⟨e, h1, h2, h3⟩ | ⟨e, h1, h2⟩
 ·unfold gatNote; rw [if_pos e]; have := h.p0; have := h.p1; exact ⟨by simp only []; omega, by simp only []; omega, h.n, h.b, h.q⟩
 ·unfold gatNote; rw [if_neg (by omega), if_pos e]
  refine ⟨h.p0, h.p1, by simp [h.n], ?_, h.q⟩
  intro y hy; rcases List.mem_or_eq_of_mem_set hy with hy | rfl
  ·exact h.b y hy
  ·have : (g.blocks[x.n.toNat]?.getD 0) ≤ 1024 := by
    cases hg : g.blocks[x.n.toNat]? with
    | none => simp
    | some v => exact (h.b v (List.mem_of_getElem? hg)).2
   omega
 ·unfold gatNote; rw [if_neg (by omega), if_neg (by omega), if_pos e]
  refine ⟨h.p0, h.p1, h.n, h.b, ?_⟩; intro y hy; rcases List.mem_append.1 hy with hy | hy
  ·exact h.q y hy
  ·simp at hy; omega
 ·unfold gatNote; rw [if_neg (by omega), if_neg (by omega), if_neg (by omega)]
  exact ⟨h.p0, h.p1, h.n, h.b, h.q⟩
theorem gatNote_len (g : Gat) (x : GNote) : (gatNote g x).ports.length ≤ g.ports.length + 1 := by
 unfold gatNote; split
 ·simp
 ·split
  ·simp
  ·split <;> simp
end
section
open Go.RowKit Go.Maps Go.WideMaps
def BeginPost (v : Value) (l : List GObj) (w : World) (e : Ending) (w' : World) : Prop :=
 ((∃ c : Int, (beginR l).2 = c ∧ c ≠ 0 ∧ e = .returned (.tuple #[.pointer none, .string (beginR l).1, .int .i64 c])) ∨ ((beginR l).2 = 0 ∧ (beginR l).1 = emptyB ∧ ∃ rb, e = .returned (.tuple #[.pointer (some ⟨rb, 0, none⟩), .string emptyB, .int .i64 0]) ∧ Resolver w' rb v l)) ∧ Below w.heap.size w w'
theorem begin_any (v : Value) (l : List GObj) (w : World) (h : ObjsAt w v l) : Calls Tryz.prog 148 #[v] w (BeginPost v l w) := by
 by_cases hm : mayAll l = true
 ·refine (begin_ok v l w h hm).mono fun e w' ⟨h1, h2⟩ => ⟨?_, h2⟩
  rcases h1 with ⟨n, hd, rfl⟩ | ⟨hd, rb, rfl, hr⟩
  ·exact .inl ⟨120, by simp [beginR, hm, hd], by decide, by simp [beginR, hm, hd]⟩
  ·exact .inr ⟨by simp [beginR, hm, hd], by simp [beginR, hm, hd], rb, rfl, hr⟩
 ·have hm' : mayAll l = false := by simpa using hm
  refine (begin_bad v l w h hm').mono fun e w' ⟨h1, h2⟩ => ⟨?_, h2⟩
  subst h1; exact .inl ⟨2, by simp [beginR, hm'], by decide, by simp [beginR, hm']⟩
set_option maxHeartbeats 1000000 in
theorem resCheck_any (v : Value) (l : List GObj) (w : World) (h : ObjsAt w v l) :
 Calls Tryz.prog 143 #[v] w fun e w' => e = .returned (.tuple #[.string (beginR l).1, .int .i64 (beginR l).2]) ∧ Below w.heap.size w w' := by
 have HBG := Lib.hid (begin_any v l w h); clear h; go_enter Tryz.func143, Tryz.ntmps143; go_wp2_with fail; refine HBG.out.mono ?_; rintro e w1 ⟨hcase, hB⟩; rcases hcase with ⟨c, hb2, hc0, rfl⟩ | ⟨hb2, hb1, rb, rfl, hres⟩
 ·have HB2 := Lib.hid hb2; clear hb2 hc0; generalize hbn : (beginR l).1 = bn; have HBN := Lib.hid hbn; clear hbn; go_wp2_with fail; go_ret2; exact ⟨by rw [HB2.out, HBN.out]; rfl, hB⟩
 ·have HB2 := Lib.hid hb2; clear hb2; have HB1 := Lib.hid hb1; clear hb1 hres; go_wp2_with fail; go_ret2; exact ⟨by rw [HB2.out, HB1.out]; rfl, hB⟩
end
section
open Go.ChangeShapes Go.WideShapes Go.ChangeAt Go.RowKit Go.Deep
def PlcR (w : World) (b o : Nat) (p : GP) : Prop := b < w.heap.size ∧ w.cell? ⟨b, o, none⟩ = some (.int .i64 p.1) ∧ w.cell? ⟨b, o + 1, none⟩ = some (.int .i64 p.2)
def AddrR (w : World) (b o : Nat) (a : GAddr) : Prop :=
 b < w.heap.size ∧ w.cell? ⟨b, o, none⟩ = some (.int .i64 a.obj) ∧ w.cell? ⟨b, o + 1, none⟩ = some (.int .i64 a.sym) ∧ w.cell? ⟨b, o + 2, none⟩ = some (.int .u32 a.at_) ∧ (0 ≤ a.at_ ∧ a.at_ ≤ 4294967295)
def SpanR (w : World) (b o : Nat) (a : GSpan) : Prop :=
 b < w.heap.size ∧ w.cell? ⟨b, o, none⟩ = some (.int .u8 a.kind) ∧ w.cell? ⟨b, o + 1, none⟩ = some (.int .u32 a.at_) ∧ w.cell? ⟨b, o + 2, none⟩ = some (.int .u32 a.size) ∧ (0 ≤ a.kind ∧ a.kind ≤ 255) ∧ (0 ≤ a.at_ ∧ a.at_ ≤ 4294967295) ∧ (0 ≤ a.size ∧ a.size ≤ 4294967295)
theorem plcR_keeps : Keeps PlcR := fun _ _ _ _ _ hb ⟨h0, h1, h2⟩ => ⟨size_keep hb h0, cell_keep hb h0 h1, cell_keep hb h0 h2⟩
theorem addrR_keeps : Keeps AddrR := fun _ _ _ _ _ hb ⟨h0, h1, h2, h3, r⟩ => ⟨size_keep hb h0, cell_keep hb h0 h1, cell_keep hb h0 h2, cell_keep hb h0 h3, r⟩
section
variable {H : Type} {enc : TypeId × Value → H} {w : World} {base : Nat} {spare : Nat → Bool} {held : Bool}
end
end
section
open Go.RowKit Go.Maps Go.WideMaps
theorem andNot255 (n : Int) (h0 : 0 ≤ n) (h1 : n ≤ 200000) : bits .andNot .u32 (n + 256 - 1) 255 = upTo n 256 := by
 rw [u32_andNot _ _ (by omega) (by omega) (by omega) (by omega), show (4294967295 - (255 : Int).toNat) = 4294967040 from rfl, mask256 _ (by omega)]
 unfold upTo; omega
theorem andNot7 (n : Int) (h0 : 0 ≤ n) (h1 : n ≤ 200000) : bits .andNot .u32 (n + 8 - 1) 7 = upTo n 8 := by
 rw [u32_andNot _ _ (by omega) (by omega) (by omega) (by omega), show (4294967295 - (7 : Int).toNat) = 4294967288 from rfl, mask8 _ (by omega)]
 unfold upTo; omega
set_option maxHeartbeats 400000 in
theorem up_256 (n : Int) (w : World) (h0 : 0 ≤ n) (h1 : n ≤ 200000) : Calls Tryz.prog 204 #[.int .u32 n, .int .u32 256] w fun e w' => e = .returned (.int .u32 (upTo n 256)) ∧ w = w' := by
 go_enter Tryz.func204, Tryz.ntmps204; go_wp2; go_ret; exact ⟨ret_int (andNot255 n h0 h1), rfl⟩
set_option maxHeartbeats 400000 in
theorem up_8 (n : Int) (w : World) (h0 : 0 ≤ n) (h1 : n ≤ 200000) : Calls Tryz.prog 204 #[.int .u32 n, .int .u32 8] w fun e w' => e = .returned (.int .u32 (upTo n 8)) ∧ w = w' := by
 go_enter Tryz.func204, Tryz.ntmps204; go_wp2; go_ret; exact ⟨ret_int (andNot7 n h0 h1), rfl⟩
end
section
open Go.RowKit Go.Maps Go.WideMaps
structure LayerAt (w : World) (b : Nat) (k a s e : Int) : Prop where
 lt : b < w.heap.size
 c0 : w.cell? ⟨b, 0, none⟩ = some (.int .u8 k)
 c1 : w.cell? ⟨b, 1, none⟩ = some (.int .u32 a)
 c2 : w.cell? ⟨b, 2, none⟩ = some (.int .u32 s)
 c3 : w.cell? ⟨b, 3, none⟩ = some (.int .u32 e)
 f0 : w.frozen? ⟨b, 0, none⟩ = false
 f1 : w.frozen? ⟨b, 1, none⟩ = false
 f2 : w.frozen? ⟨b, 2, none⟩ = false
 f3 : w.frozen? ⟨b, 3, none⟩ = false
theorem LayerAt.kept {w w' : World} {b : Nat} {k a s e : Int} (h : LayerAt w b k a s e) (hb : w'.heap[b]? = w.heap[b]?) (hs : w.heap.size ≤ w'.heap.size) : LayerAt w' b k a s e := by
 obtain ⟨h0, h1, h2, h3, h4, h5, h6, h7, h8⟩ := h; refine ⟨Nat.lt_of_lt_of_le h0 hs, ?_, ?_, ?_, ?_, ?_, ?_, ?_, ?_⟩
 all_goals first | (rw [World.cell?_of_block (w := w) hb]; assumption) | (rw [World.frozen?_of_block (w := w) hb]; assumption)
theorem grown_setCell (w : World) (b o : Nat) (v : Value) : w.grownBy (w.setCell ⟨b, o, none⟩ v) (some b) :=
 ⟨rfl, rfl, rfl, by simp, fun k _ hk => Below.heap_setCell _ _ _ _ (fun e => hk (by rw [e]))⟩
theorem grown_trans {w w1 w2 : World} {r : Option Nat} (h : w.grownBy w1 r) (h' : w1.grownBy w2 r) : w.grownBy w2 r :=
 ⟨h'.os.trans h.os, h'.tape.trans h.tape, h'.output.trans h.output, Nat.le_trans h.size h'.size, fun k hk hne => (h'.block k (Nat.lt_of_lt_of_le hk h.size) hne).trans (h.block k hk hne)⟩
theorem grown_drew {w w1 : World} {r : Option Nat} (h : w.grownBy w1 r) : w.grownBy w1.drew r := ⟨h.os, h.tape, h.output, h.size, h.block⟩
set_option maxHeartbeats 1000000 in
theorem begin14_any (b : Nat) (kd k a s e : Int) (w : World) (h : LayerAt w b k a s e) (h0 : 0 ≤ e) (h1 : e ≤ 200000) :
 Calls Tryz.prog 151 #[.pointer (some ⟨b, 0, none⟩), .int .u8 kd] w fun en w' => en = .returned (.tuple #[]) ∧ LayerAt w' b kd (upTo e 256) 0 (upTo e 256) ∧ w.grownBy w' (some b) := by
 obtain ⟨hb, c0, c1, c2, c3, f0, f1, f2, f3⟩ := h; go_enter Tryz.func151, Tryz.ntmps151; go_wp2_with (go_at_call 204; refine (up_256 _ _ h0 h1).mono ?_; rintro en w' ⟨rfl, rfl⟩); go_end0; refine ⟨rfl, ?_, ?_⟩
 ·refine ⟨by simpa using hb, ?_, ?_, ?_, ?_, ?_, ?_, ?_, ?_⟩ <;> simp [go_sem, *]
 ·exact grown_trans (grown_trans (grown_trans (grown_setCell _ _ _ _) (grown_setCell _ _ _ _)) (grown_setCell _ _ _ _)) (grown_setCell _ _ _ _)
set_option maxHeartbeats 1000000 in
theorem lay14_any (b : Nat) (k a s e z : Int) (w : World) (h : LayerAt w b k a s e) (h0 : 0 ≤ e) (h1 : e ≤ 200000) (ha : 0 ≤ a) (hae : a ≤ e) (hz : 0 ≤ z) (hz1 : z ≤ 100000) :
 Calls Tryz.prog 153 #[.pointer (some ⟨b, 0, none⟩), .int .u32 z] w fun en w' => en = .returned (.int .u32 (upTo e 8)) ∧ LayerAt w' b k a (upTo e 8 + z - a) (upTo e 8 + z) ∧ w.grownBy w' (some b) := by
 obtain ⟨hb, c0, c1, c2, c3, f0, f1, f2, f3⟩ := h; have hu : e ≤ upTo e 8 ∧ upTo e 8 ≤ e + 7 := by unfold upTo; omega
 go_enter Tryz.func153, Tryz.ntmps153; go_wp2_with (go_at_call 204; refine (up_8 _ _ h0 h1).mono ?_; rintro en w' ⟨rfl, rfl⟩); generalize hu0 : upTo e 8 = u at *; have HU := Lib.hid hu0; clear hu0; generalize hw1 : w.setCell ⟨b, 3, none⟩ (.int .u32 (u + z)) = w1; have g0 : w1.cell? ⟨b, 0, none⟩ = some (.int .u8 k) := by subst hw1; simp [go_sem, *]
 have g1 : w1.cell? ⟨b, 1, none⟩ = some (.int .u32 a) := by subst hw1; simp [go_sem, *]
 have g2 : w1.cell? ⟨b, 2, none⟩ = some (.int .u32 s) := by subst hw1; simp [go_sem, *]
 have g3 : w1.cell? ⟨b, 3, none⟩ = some (.int .u32 (u + z)) := by subst hw1; simp [go_sem, *]
 have e0 : w1.frozen? ⟨b, 0, none⟩ = false := by subst hw1; simp [go_sem, *]
 have e1 : w1.frozen? ⟨b, 1, none⟩ = false := by subst hw1; simp [go_sem, *]
 have e2 : w1.frozen? ⟨b, 2, none⟩ = false := by subst hw1; simp [go_sem, *]
 have e3 : w1.frozen? ⟨b, 3, none⟩ = false := by subst hw1; simp [go_sem, *]
 have hb1 : b < w1.heap.size := by subst hw1; simpa using hb
 have HG : Hid (w.grownBy w1 (some b)) := by subst hw1; exact grown_setCell _ _ _ _
 clear hw1 c0 c1 c2 c3 f0 f1 f2 f3
 go_region
 all_goals
  go_wp2; go_ret; obtain rfl := HU.out; refine ⟨rfl, ?_, ?_⟩
  ·refine ⟨by simpa using hb1, ?_, ?_, ?_, ?_, ?_, ?_, ?_, ?_⟩ <;> simp [go_sem, *]
  ·exact grown_drew (grown_trans HG.out (grown_setCell _ _ _ _))
end
section
open Go.RowKit
def addrCells (a : GAddr) : List Value := [.int .i64 a.obj, .int .i64 a.sym, .int .u32 a.at_]
def spanCells (a : GSpan) : List Value := [.int .u8 a.kind, .int .u32 a.at_, .int .u32 a.size]
theorem addrCells_len (a : GAddr) : (addrCells a).length = 3 := rfl
theorem spanCells_len (a : GSpan) : (spanCells a).length = 3 := rfl
def AddrOk (a : GAddr) : Prop := 0 ≤ a.at_ ∧ a.at_ ≤ 4294967295
def SpanOk (a : GSpan) : Prop := (0 ≤ a.kind ∧ a.kind ≤ 255) ∧ (0 ≤ a.at_ ∧ a.at_ ≤ 4294967295) ∧ (0 ≤ a.size ∧ a.size ≤ 4294967295)
theorem addr_row {w : World} {v : Value} {base : Nat} {e : TypeId} {l : List GAddr} (h : w.ownsRow base e 3 v l.length (l.flatMap addrCells)) (hl : l.length ≤ 140737488355328) (hok : ∀ a ∈ l, AddrOk a) : RowAt 3 AddrR w v l :=
 owned_row addrCells_len h hl fun g o' i hi hg hcell => ⟨hg, hcell 0 _ (by omega) rfl, hcell 1 _ (by omega) rfl, hcell 2 _ (by omega) rfl, hok _ (List.getElem_mem hi)⟩
theorem span_row {w : World} {v : Value} {base : Nat} {e : TypeId} {l : List GSpan} (h : w.ownsRow base e 3 v l.length (l.flatMap spanCells)) (hl : l.length ≤ 140737488355328) (hok : ∀ a ∈ l, SpanOk a) : RowAt 3 SpanR w v l :=
 owned_row spanCells_len h hl fun g o' i hi hg hcell => ⟨hg, hcell 0 _ (by omega) rfl, hcell 1 _ (by omega) rfl, hcell 2 _ (by omega) rfl, hok _ (List.getElem_mem hi)⟩
theorem made_addrs (n : Nat) : (madeCells #[.int .i64 0, .int .i64 0, .int .u32 0] (n * 3)).toList = (List.replicate n addr0).flatMap addrCells := by
 show (madeCells (Value.agg #[.int .i64 0, .int .i64 0, .int .u32 0]).cells (n * 3)).toList = _; rw [zero_cells3 _ (.int .i64 0) (.int .i64 0) (.int .u32 0) rfl]
 induction n with
 | zero => rfl
 | succ n ih => rw [List.replicate_succ, List.replicate_succ, List.flatMap_cons, List.flatMap_cons, ih]; rfl
theorem may_size {l : List GObj} {p : GP} {s : GSym} (hm : mayAll l = true) (h : symAt l p = some s) : 1 ≤ s.size ∧ s.size ≤ 8192 := by
 obtain ⟨a, b, ha, hb, -, rfl⟩ := symAt_some h; simp only [mayAll, Bool.and_eq_true, List.all_eq_true] at hm; have h1 := hm.2 _ (List.getElem_mem ha); simp only [mayP, Bool.and_eq_true] at h1; have h2 := symsGo_each _ _ h1.1.1 _ (List.getElem_mem hb); simp only [symOkP, sizedOk, sizedB, Bool.and_eq_true, decide_eq_true_eq] at h2; exact ⟨h2.1.1.1.2.1.1.1, h2.1.1.1.2.1.1.2⟩
theorem mayGo_some {l : List GObj} : ∀ {ps : List GP} {pr : Option GP}, mayGo l pr ps = true → ∀ p ∈ ps, ∃ s, symAt l p = some s
 | [], _, _, p, hp => by cases hp
 | q :: r, pr, h, p, hp => by
   simp only [mayGo, Bool.and_eq_true] at h; rcases List.mem_cons.1 hp with rfl | hp
   ·exact Option.isSome_iff_exists.1 h.1.1
   ·exact mayGo_some h.2 p hp
structure OInv (w0 : World) (ob xb n : Nat) (v8 : Value) (out : List GAddr) (spans : List GSpan) (k a s e : Int) (wr : World) : Prop where
 row : wr.ownsRow ob 259 3 (.slice (some ⟨ob, 0, none⟩) n n) n (out.flatMap addrCells)
 olen : out.length = n
 ook : ∀ x ∈ out, AddrOk x
 srow : wr.ownsRow w0.heap.size 251 3 v8 spans.length (spans.flatMap spanCells)
 slen : spans.length ≤ 3
 sok : ∀ x ∈ spans, SpanOk x
 lay : LayerAt wr xb k a s e
 kb : KB (fun g => g = ob ∨ g = xb) w0 wr
theorem OInv.keep {w0 : World} {ob xb n : Nat} {v8 : Value} {out : List GAddr} {spans : List GSpan} {k a s e : Int} {wr w' : World} (h : OInv w0 ob xb n v8 out spans k a s e wr) (hb : Below wr.heap.size wr w') : OInv w0 ob xb n v8 out spans k a s e w' :=
 ⟨own_congr h.row fun g hg => hb.block g (h.row.lt g hg).2, h.olen, h.ook, own_congr h.srow fun g hg => hb.block g (h.srow.lt g hg).2, h.slen, h.sok, h.lay.kept (hb.block _ h.lay.lt) hb.size, h.kb.trans (KB.of_below hb)⟩
theorem OInv.layer {w0 : World} {ob xb n : Nat} {v8 : Value} {out : List GAddr} {spans : List GSpan} {k a s e k' a' s' e' : Int} {wr w' : World} (h : OInv w0 ob xb n v8 out spans k a s e wr) (hx : xb < w0.heap.size) (hne : ob ≠ xb) (hg : wr.grownBy w' (some xb)) (hl : LayerAt w' xb k' a' s' e') : OInv w0 ob xb n v8 out spans k' a' s' e' w' :=
 ⟨own_congr h.row fun g hg' => hg.block g (h.row.lt g hg').2 (fun e => by cases e; cases hg'; exact hne rfl), h.olen, h.ook, own_congr h.srow fun g hg' => hg.block g (h.srow.lt g hg').2 (fun e => by cases e; have := (h.srow.lt xb hg').1; omega), h.slen, h.sok, hl, h.kb.grown hg (fun g hg' => by cases hg'; exact .inl (.inr rfl))⟩
theorem OInv.set {w0 : World} {ob xb n : Nat} {v8 : Value} {out : List GAddr} {spans : List GSpan} {k a s e : Int} {wr : World} (h : OInv w0 ob xb n v8 out spans k a s e wr) (ho : ob < w0.heap.size) (hne : ob ≠ xb) {i : Nat} (hi : i < n) (x : GAddr) (hx : AddrOk x) :
 OInv w0 ob xb n v8 (out.set i x) spans k a s e (((wr.setCell ⟨ob, i * 3, none⟩ (.int .i64 x.obj)).setCell ⟨ob, i * 3 + 1, none⟩ (.int .i64 x.sym)).setCell ⟨ob, i * 3 + 2, none⟩ (.int .u32 x.at_)) := by
 have hset : ∀ g, g ≠ ob → (((wr.setCell ⟨ob, i * 3, none⟩ (.int .i64 x.obj)).setCell ⟨ob, i * 3 + 1, none⟩ (.int .i64 x.sym)).setCell ⟨ob, i * 3 + 2, none⟩ (.int .u32 x.at_)).heap[g]? = wr.heap[g]? := fun g hg => by
  rw [Below.heap_setCell _ _ _ _ (by simpa using hg), Below.heap_setCell _ _ _ _ (by simpa using hg), Below.heap_setCell _ _ _ _ (by simpa using hg)]
 refine ⟨?_, by simpa using h.olen, ?_, own_congr h.srow fun g hg => hset g fun e => by have := (h.srow.lt g hg).1; omega, h.slen, h.sok, h.lay.kept (hset _ fun e => hne e.symm) (by simp), ((h.kb.setCell (.inl (.inl rfl)) _).setCell (.inl (.inl rfl)) _).setCell (.inl (.inl rfl)) _⟩
 ·rw [← flat_set3 addrCells_len (x := x) rfl out i (by rw [h.olen]; exact hi)]
  exact (((h.row.stored _ _).1.stored _ _).1.stored _ _).1
 ·intro y hy; rcases List.mem_or_eq_of_mem_set hy with hy | rfl
  ·exact h.ook y hy
  ·exact hx
end
section
open Go.RowKit
set_option maxHeartbeats 400000 in
theorem objSym_any (s : GSym) (vr vn : Value) (w : World) (h : SymIn w s vr vn) :
 Calls Tryz.prog 237 #[.agg #[.string s.name, .int .u8 s.bind, .int .u8 s.kind, .int .u32 s.size, .string s.bytes, vr, vn]] w fun e w' => e = .returned (.int .i64 (errB (symOkP s))) ∧ Below w.heap.size w w' := by
 have HM := Lib.hid (symMay_any s vr vn _ (SymIn.keep (alloc_old w (.cells #[.string s.name, .int .u8 s.bind, .int .u8 s.kind, .int .u32 s.size, .string s.bytes, vr, vn] 55)) h)); obtain ⟨p1, q1, p2, q2, rfl, rfl⟩ := h.shape; clear h; obtain ⟨sn, sb, sk, ss, sy, sr, st⟩ := s; simp only [] at HM ⊢; go_enter Tryz.func237, Tryz.ntmps237; go_wp2_with fail; refine HM.out.mono ?_; rintro e w1 ⟨rfl, hB⟩; have HB : Hid (Below w.heap.size w w1) := (alloc_old w _).trans (hB.mono (by simp))
 clear hB HM; go_wp2_with (go_at_call 75; refine (told_any _ _).mono ?_; rintro e w1 ⟨rfl, rfl⟩); go_ret; exact ⟨rfl, HB.out⟩
end
section
open Go.ChangeShapes Go.WideShapes Go.ChangeAt Go.RowKit Go.Deep
section
variable {H : Type} {enc : TypeId × Value → H} {w : World} {base : Nat} {spare : Nat → Bool} {held : Bool}
end
end
end Go.Proofs.YtboegjdkedjhcaaGreatDoor
