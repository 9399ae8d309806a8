/- A map from places to places as a function. A map with keys of any kind as a function, over the kit's word ownsMap. No program in sight. slices.Sort at a row of integers of any kind: SortUD (the worked proofs at int64, turned to a kind. -/
import Derived.Test.YtboegjdkedjhcaaGreatDoorBs01
import Derived.Test.YtboegjdkedjhcaaGreatDoorProg
import Derived.DeepKeys4
import Derived.Test.YtboegjdkedjhcaaGreatDoorBs02
import Derived.Shelf.SlLaysM
import Derived.Shelf.SortM.PlainT
import Derived.Sort.WalkD1
import Derived.OwnWalkIn
import Derived.TacticsInMore
import Derived.RegionIn
import Derived.LoopNIn
import Derived.LoopIn
import Derived.Sort.CutIn
import Derived.Sort.QuietIn
import Derived.Sort.AtCallIn
import Derived.Shelf.RegionOpen
import Derived.Shelf.AbstractIn
import Derived.Sort.WalkD2
import Derived.Sort.Walk11
import Derived.Sort.WalkC4
import Derived.Sort.BigQuietIn
namespace Go.Proofs.YtboegjdkedjhcaaGreatDoor
set_option maxRecDepth 100000
section
open Go.RowKit Go.Maps Go.WideMaps
structure KeyEnc (P : Program) (k : TypeId) (α : Type) where
 enc : α → Value
 lit : α → Lit
 ok : α → Prop
 key : ∀ a, ok a → keyOf P k (enc a) = some (lit a)
 inj : ∀ a b, enc a = enc b → a = b
def MapKFn {P : Program} {k : TypeId} {α : Type} (E : KeyEnc P k α) (w : World) (b n : Nat) (f : α → Option Value) : Prop :=
 ∃ D : DataW Value, w.ownsMap P k mapR b n D ∧ ∀ a, E.ok a → (∀ v, f a = some v → ∀ z, D.atKey (E.lit a) z = .held v) ∧ (f a = none → ∀ z, D.atKey (E.lit a) z = z)
section
variable {P : Program} {k : TypeId} {α : Type} {E : KeyEnc P k α} {w : World} {b n : Nat} {f : α → Option Value}
theorem MapKFn.made (E : KeyEnc P k α) (w : World) : MapKFn E (w.alloc (.map #[] 0)) w.heap.size 0 (fun _ => none) :=
 ⟨_, World.ownsMap_made w P k mapR, fun _ _ => ⟨fun _ h => (by cases h), fun _ _ => rfl⟩⟩
theorem MapKFn.lt (h : MapKFn E w b n f) : b < w.heap.size := by obtain ⟨D, hD, _⟩ := h; exact hD.lt
theorem MapKFn.kept {w' : World} (h : MapKFn E w b n f) (hb : w'.heap[b]? = w.heap[b]?) : MapKFn E w' b n f := by
 obtain ⟨D, ⟨es, clock, h1, h2⟩, hf⟩ := h; exact ⟨D, ⟨es, clock, hb.trans h1, h2⟩, hf⟩
theorem MapKFn.below {w' : World} {B : Nat} (h : MapKFn E w b n f) (hb : Below B w w') (hB : b < B) : MapKFn E w' b n f := h.kept (hb.block b hB)
theorem MapKFn.alloc (h : MapKFn E w b n f) (o : Obj) : MapKFn E (w.alloc o) b n f := h.kept (Below.heap_alloc w o b h.lt)
theorem MapKFn.drew (h : MapKFn E w b n f) : MapKFn E w.drew b n f := h.kept rfl
theorem MapKFn.setCell (h : MapKFn E w b n f) {a : Addr} (ha : b ≠ a.block) (u : Value) : MapKFn E (w.setCell a u) b n f := h.kept (Below.heap_setCell w a u b ha)
theorem MapKFn.look {t e : TypeId} (h : MapKFn E w b n f) (K : Keyed P k) (ht : P.underlying t = some (.map k e)) {z : Value} (hz : (zeroValue e).run P w = .ok z w) {a : α} (ha : E.ok a) :
 (Instr.lookup t (.map (some b)) (E.enc a) false).run P w = .ok ((f a).getD z) w := by
 obtain ⟨D, hD, hf⟩ := h; obtain ⟨v, ps, hrun, hR⟩ := hD.lookup K ht hz (zd := .held z) (zp := []) rfl (E.key a ha); rw [hrun]; obtain ⟨h1, h2⟩ := hf a ha; cases hfs : f a with
 | none =>
   rw [h2 hfs] at hR; simp [mapR] at hR; rw [hR.1]; rfl
 | some u =>
   rw [h1 u hfs] at hR; simp [mapR] at hR; rw [hR.1]; rfl
theorem MapKFn.look_ok {t e : TypeId} (h : MapKFn E w b n f) (K : Keyed P k) (ht : P.underlying t = some (.map k e)) {z : Value} (hz : (zeroValue e).run P w = .ok z w) {a : α} (ha : E.ok a) :
 (Instr.lookup t (.map (some b)) (E.enc a) true).run P w = .ok (.tuple #[(f a).getD z, .bool (f a).isSome]) w := by
 obtain ⟨D, hD, hf⟩ := h; obtain ⟨v, ps, hrun, hR⟩ := hD.look_ok K ht hz (zd := .held z) (zp := []) rfl (E.key a ha); rw [hrun]; obtain ⟨h1, h2⟩ := hf a ha; cases hfs : f a with
 | none =>
   rw [Maps.has_false_of_atKey (h2 hfs)]; rw [h2 hfs] at hR; simp [mapR] at hR; rw [hR.1]; rfl
 | some u =>
   rw [Maps.has_true_of_atKey (h1 u hfs)]; rw [h1 u hfs] at hR; simp [mapR] at hR; rw [hR.1]; rfl
theorem MapKFn.put [DecidableEq α] {t e : TypeId} (h : MapKFn E w b n f) (K : Keyed P k) (ht : P.underlying t = some (.map k e)) (hn : n < maxLen) {a : α} (ha : E.ok a) (v : Value) :
 ∃ w', (Instr.mapUpdate t (.map (some b)) (E.enc a) v).run P w = .ok () w' ∧ MapKFn E w' b (n + 1) (fun x => if x = a then some v else f x) ∧ w.grownBy w' (some b) := by
 obtain ⟨D, hD, hf⟩ := h; obtain ⟨w', hrun, hD', hg⟩ := hD.update K ht hn (E.key a ha) (val := v) (d := .held v) (ps := []) rfl; refine ⟨w', hrun, ⟨_, hD', fun l hl0 => ?_⟩, hg⟩
 obtain ⟨h1, h2⟩ := hf l hl0
 by_cases hl : l = a
 ·subst hl; refine ⟨fun u hu z => ?_, fun hu => by simp at hu⟩
  simp at hu; subst hu; exact Maps.atKey_put_same hD.isMap (K.key (E.key l ha)) _ _
 ·have hne : E.lit l ≠ E.lit a := fun e => hl (E.inj _ _ (K.inj (E.key l hl0) (e ▸ E.key a ha)))
  refine ⟨fun u hu z => ?_, fun hu z => ?_⟩
  ·rw [Maps.atKey_put_other hne]; simp [hl] at hu; exact h1 u hu z
  ·rw [Maps.atKey_put_other hne]; simp [hl] at hu; exact h2 hu z
end
theorem wpList_lookK {P : Program} {α : Type} {k : TypeId} {E : KeyEnc P k α} (w : World) {ops : Array Oper} {rest : List Oper} {o : Oper} {a : Act} {Q : Exit → Act → World → Prop} {b n : Nat} {f : α → Option Value}
 (hg : o.guard = none) (m x : Operand) (t : TypeId) (hop : o.op = Op.lookup t m x false)
 (e : TypeId) (K : Keyed P k) (ht : P.underlying t = some (.map k e)) {z : Value} (hz : (zeroValue e).run P w = .ok z w)
 (hm : a.eval m = .map (some b)) (hown : MapKFn E w b n f) (s : α) (hx : a.eval x = E.enc s) (hs : E.ok s) {v : Value} (hv : (f s).getD z = v)
 (hK : wpList P ops Q rest (a.put o.dst v) w) :
 wpList P ops Q (o :: rest) a w := by
 refine wpList_plain hg fun K' hK' => ?_
 have hrun := hown.look K ht hz hs; rw [hv] at hrun; unfold Oper.wp; simp [execOp, hop, hm, hx, hrun, Result.andThen]; exact hK' _ _ hK
theorem wpList_putK {P : Program} {α : Type} [DecidableEq α] {k : TypeId} {E : KeyEnc P k α} (w : World) {ops : Array Oper} {rest : List Oper} {o : Oper} {a : Act} {Q : Exit → Act → World → Prop} {b n : Nat} {f : α → Option Value}
 (hg : o.guard = none) (m x v : Operand) (t : TypeId) (hop : o.op = Op.mapUpdate t m x v)
 (e : TypeId) (K : Keyed P k) (ht : P.underlying t = some (.map k e))
 (hm : a.eval m = .map (some b)) (hown : MapKFn E w b n f) (hn : n < maxLen) (s : α) (val : Value) (hx : a.eval x = E.enc s) (hv : a.eval v = val) (hs : E.ok s)
 (hK : ∀ w', MapKFn E w' b (n + 1) (fun l => if l = s then some val else f l) → w.grownBy w' (some b) → wpList P ops Q rest (a.put o.dst undef) w') :
 wpList P ops Q (o :: rest) a w := by
 refine wpList_plain hg fun K' hK' => ?_
 obtain ⟨w', hrun, r1, r2⟩ := hown.put K ht hn hs val; unfold Oper.wp; simp [execOp, hop, hm, hx, hv, hrun, Result.andThen]; exact hK' _ _ (hK w' r1 r2)
end
section
open Go.RowKit Go.Maps Go.WideMaps
theorem placeOut : laidOutB Tryz.prog = true := by kernel_rfl
theorem placeRow : (185 : TypeId) < Tryz.prog.types.size := of_decide_eq_true (by kernel_rfl)
theorem placeWide : (match Tryz.prog.underlying 185 with | some (.array _ _) | some (.struct _) => true | _ => false) = true := by kernel_rfl
theorem placeKeyed : Keyed Tryz.prog 185 := Keyed.of_law (deep_law_laid placeOut (m := 2) (by omega) placeRow (by kernel_rfl) placeWide)
theorem placeKT : Tryz.prog.keyType 185 = true := by kernel_rfl
theorem placeCellsOf : Tryz.prog.cellsOf 185 = 2 := by kernel_rfl
theorem intCellsOf : Tryz.prog.cellsOf 3 = 1 := by kernel_rfl
def placeOkK (p : Nat × Nat) : Prop := p.1 ≤ 9223372036854775807 ∧ p.2 ≤ 9223372036854775807
theorem place_lits (n : Nat) (hn : 0 < n) (a b : Int) (h1 : (Lit.int .i64 a).wf = true) (h2 : (Lit.int .i64 b).wf = true) : Tryz.prog.keyLits (n + 1) 185 [.int .i64 a, .int .i64 b] = some [.int .i64 a, .int .i64 b] := by
 obtain ⟨n, rfl⟩ : ∃ m, n = m + 1 := ⟨n - 1, by omega⟩
 simp [Program.keyLits, Tryz.underlying185, Tryz.underlying3, placeCellsOf, intCellsOf, h1, h2]
theorem place_some (p : Nat × Nat) (h : placeOkK p) : (keyOf Tryz.prog 185 (placeV p)).isSome = true := by
 obtain ⟨a, b⟩ := p; have h1 : (Lit.int .i64 (a : Int)).wf = true := WalkArith.wf_i64 (by unfold placeOkK at h; simp only [] at h; omega)
 have h2 : (Lit.int .i64 (b : Int)).wf = true := WalkArith.wf_i64 (by unfold placeOkK at h; simp only [] at h; omega)
 have hl := place_lits _ (Nat.lt_of_le_of_lt (Nat.zero_le _) placeRow) a b h1 h2; have hf : (placeV (a, b)).formed Tryz.prog 185 = true := by simp [placeV, Value.formed, Tryz.underlying185, placeCellsOf]
 unfold keyOf; rw [Tryz.underlying185]; simp only []; rw [placeKT, hf, show (placeV (a, b)).cells.toList = [.int .i64 (a : Int), .int .i64 (b : Int)] from rfl, hl]
 rfl
noncomputable def placeE : KeyEnc Tryz.prog 185 (Nat × Nat) where
 enc := placeV
 lit p := (keyOf Tryz.prog 185 (placeV p)).getD (.bool false)
 ok := placeOkK
 key p h := by
  have := place_some p h; cases hk : keyOf Tryz.prog 185 (placeV p) with
  | none => rw [hk] at this; cases this
  | some l => rfl
 inj a b h := by
  obtain ⟨a1, a2⟩ := a; obtain ⟨b1, b2⟩ := b; simp [placeV] at h; obtain ⟨h1, h2⟩ := h; rw [Int.ofNat_inj.1 h1, Int.ofNat_inj.1 h2]
theorem zeroPl (w : World) : (zeroValue 185).run Tryz.prog w = .ok (placeV (0, 0)) w := by kernel_rfl
end
section
open Go.Shelf Go.Sort Go.RowKit
variable {P : Program} {ρ : Ren} {K : IntKind}
theorem holds_asideU {w : World} {blk off sb so n t : Nat} {d : Array Int} (h : Holds (Value.int K) w blk off d) (hne : sb ≠ blk) : Holds (Value.int K) (putRow (Value.int .i64) (Sort.ahead w n) sb so (one t)) blk off d := fun j hj =>
 ⟨by rw [cell?_putRow_other _ _ _ _ _ _ (Or.inl (Ne.symm hne))]; exact (h j hj).1, by rw [frozen?_putRow]; exact (h j hj).2⟩
open Go.Sort Go.RowKit

set_option maxHeartbeats 1000000 in
theorem AnyU.order2_intIn (Ly : LaysU K P ρ) (D : Nat) (d : Array Int) (len : Nat) (hlen : d.size = len) (blk off cap a b sb so s : Nat) (w : World) (hH : Holds (Value.int K) w blk off d) (ha : a < d.size) (hb : b < d.size)
 (hS : Holds (Value.int .i64) w sb so (one s)) (hs : s < 2 ^ 62) :
 CallsIn (Fence.list [ρ.f 5, ρ.f 7, ρ.f 8, ρ.f 10, ρ.f 11, ρ.f 12, ρ.f 13, ρ.f 14, ρ.f 15, ρ.f 16, ρ.f 17, ρ.f 18, ρ.f 20, ρ.f 30, ρ.f 31, ρ.f 32, ρ.f 33, ρ.f 34, ρ.f 35, ρ.f 40] (some D)) 2 P (ρ.f 40) #[.slice (some ⟨blk, off, none⟩) len cap, .int .i64 a, .int .i64 b, .pointer (some ⟨sb, so, none⟩)] w fun e w' =>
  e = .returned (.tuple #[.int .i64 (order2 ltInt d a b s).1, .int .i64 (order2 ltInt d a b s).2.1]) ∧ ∃ n, w' = putRow (Value.int .i64) (Sort.ahead w n) sb so (one (order2 ltInt d a b s).2.2) := by
 subst hlen; replace hs : s < 4611686018427387904 := by omega
 have ca := (hH a ha).1; have cb := (hH b hb).1; obtain ⟨cs, fs⟩ := one_cell hS; have ea : d[a]! = d[a] := getElem!_pos d a ha; have eb : d[b]! = d[b] := getElem!_pos d b hb; have mixed := Ly.mixed; have t0 := Ly.t0; have a0 := Ly.a0; have z0 := Ly.z0; have v0 := Ly.v0; have t3 := Ly.t3; have a3 := Ly.a3; have z3 := Ly.z3; have v3 := Ly.v3; have t4 := Ly.t4; have a4 := Ly.a4; have z4 := Ly.z4; have v4 := Ly.v4; have t22 := Ly.t22; have a22 := Ly.a22; have z22 := Ly.z22; have v22 := Ly.v22; have t25 := Ly.t25; have a25 := Ly.a25; have z25 := Ly.z25; have v25 := Ly.v25; have t57 := Ly.t57; have a57 := Ly.a57; have z57 := Ly.z57; have v57 := Ly.v57; have e216 : ∀ args w, (callFunc (ρ.f 16) args).run P w = .ok (.enter (ρ.f 16) args) w := Ly.f16.enters rfl; obtain ⟨_, _, FG⟩ := Ly.f40
 gi_enter FG, SlBodyM.n40_ntmps ρ
 gi_wp2
 gi_big_quiet_th_o (first | (gi_at_fn (ρ.f 16); refine CallsIn.quiet_of_same (AnyU.cmp_Less_intIn { Ly with } D _ _ _)))
 all_goals (try gi_wp2)
 all_goals first
  | (have hlt : ltInt d[b] d[a] = true := by assumption
     have e2 : order2 ltInt d a b s = (b, a, s + 1) := by simp [order2, ea, eb, hlt]
     go_ret2; rw [e2]; refine ⟨rfl, nq, ?_⟩; rw [putRow_ahead, ← one_set hS (s + 1)]
     first | rfl | simp [drew_eq_ahead] | simp [World.drewN, Sort.ahead, World.setCell])
  | (have hlt : ltInt d[b] d[a] = false := by assumption
     have e2 : order2 ltInt d a b s = (a, b, s) := by simp [order2, ea, eb, hlt]
     go_ret2; rw [e2]; refine ⟨rfl, nq, ?_⟩; rw [putRow_ahead, putRow_self _ _ _ _ _ hS]; rfl)

set_option maxHeartbeats 1000000 in
theorem AnyU.median_intIn (Ly : LaysU K P ρ) (D : Nat) (d : Array Int) (len : Nat) (hlen : d.size = len) (blk off cap a b c sb so s : Nat) (w : World) (hH : Holds (Value.int K) w blk off d) (ha : a < d.size) (hb : b < d.size) (hc : c < d.size) (hne : sb ≠ blk)
 (hS : Holds (Value.int .i64) w sb so (one s)) (hs : s + 3 < 2 ^ 62) :
 CallsIn (Fence.list [ρ.f 5, ρ.f 7, ρ.f 8, ρ.f 10, ρ.f 11, ρ.f 12, ρ.f 13, ρ.f 14, ρ.f 15, ρ.f 16, ρ.f 17, ρ.f 18, ρ.f 20, ρ.f 30, ρ.f 31, ρ.f 32, ρ.f 33, ρ.f 34, ρ.f 35, ρ.f 40] (some D)) 3 P (ρ.f 34) #[.slice (some ⟨blk, off, none⟩) len cap, .int .i64 a, .int .i64 b, .int .i64 c, .pointer (some ⟨sb, so, none⟩)] w fun e w' =>
  e = .returned (.int .i64 (median ltInt d a b c s).1) ∧ ∃ n, w' = putRow (Value.int .i64) (Sort.ahead w n) sb so (one (median ltInt d a b c s).2) := by
 subst hlen; have l1 := order2_lt d s ha hb; have s1 := order2_swaps d a b s; have l2 := order2_lt d (order2 ltInt d a b s).2.2 l1.2 hc; have s2 := order2_swaps d (order2 ltInt d a b s).2.1 c (order2 ltInt d a b s).2.2; have mixed := Ly.mixed; have t0 := Ly.t0; have a0 := Ly.a0; have z0 := Ly.z0; have v0 := Ly.v0; have t3 := Ly.t3; have a3 := Ly.a3; have z3 := Ly.z3; have v3 := Ly.v3; have t4 := Ly.t4; have a4 := Ly.a4; have z4 := Ly.z4; have v4 := Ly.v4; have t22 := Ly.t22; have a22 := Ly.a22; have z22 := Ly.z22; have v22 := Ly.v22; have t25 := Ly.t25; have a25 := Ly.a25; have z25 := Ly.z25; have v25 := Ly.v25; have t57 := Ly.t57; have a57 := Ly.a57; have z57 := Ly.z57; have v57 := Ly.v57; have t64 := Ly.t64; have a64 := Ly.a64; have z64 := Ly.z64; have v64 := Ly.v64; have e343 : ∀ args w, (callFunc (ρ.f 40) args).run P w = .ok (.enter (ρ.f 40) args) w := Ly.f40.enters rfl; obtain ⟨_, _, FG⟩ := Ly.f34
 gi_enter FG, SlBodyM.n34_ntmps ρ
 gi_wp2_with (gi_at_fn_has (ρ.f 40) (Value.int .i64 (b : Int)); refine (AnyU.order2_intIn { Ly with } D d _ rfl blk off cap a b sb so s w hH ha hb hS (by omega)).mono ?_; rintro e w' ⟨rfl, n1, rfl⟩)
 gi_wp2_with (gi_at_fn_has (ρ.f 40) (Value.int .i64 (c : Int)); refine (AnyU.order2_intIn { Ly with } D d _ rfl blk off cap (order2 ltInt d a b s).2.1 c sb so (order2 ltInt d a b s).2.2 _ (holds_asideU hH hne) l1.2 hc (holds_one hS) (by omega)).mono ?_; rintro e w' ⟨rfl, n2, rfl⟩)
 gi_wp2_with (gi_at_fn_has (ρ.f 40) (Value.int .i64 ((order2 ltInt d a b s).1 : Int)); refine (AnyU.order2_intIn { Ly with } D d _ rfl blk off cap (order2 ltInt d a b s).1 (order2 ltInt d (order2 ltInt d a b s).2.1 c (order2 ltInt d a b s).2.2).1 sb so (order2 ltInt d (order2 ltInt d a b s).2.1 c (order2 ltInt d a b s).2.2).2.2 _
  (holds_asideU (holds_asideU hH hne) hne) l1.1 l2.1 (holds_one (holds_one hS)) (by omega)).mono ?_; rintro e w' ⟨rfl, n3, rfl⟩)
 go_ret; refine ⟨rfl, n1 + (n2 + n3), ?_⟩; rw [one_one, one_one]; rfl
open Go.Sort Go.RowKit
set_option maxHeartbeats 1000000 in
theorem AnyU.medianAdjacent_intIn (Ly : LaysU K P ρ) (D : Nat) (d : Array Int) (len : Nat) (hlen : d.size = len) (blk off cap a sb so s : Nat) (w : World) (hH : Holds (Value.int K) w blk off d) (ha0 : 1 ≤ a) (ha : a + 1 < d.size) (hsz : d.size < 2 ^ 62) (hne : sb ≠ blk)
 (hS : Holds (Value.int .i64) w sb so (one s)) (hs : s + 3 < 2 ^ 62) :
 CallsIn (Fence.list [ρ.f 5, ρ.f 7, ρ.f 8, ρ.f 10, ρ.f 11, ρ.f 12, ρ.f 13, ρ.f 14, ρ.f 15, ρ.f 16, ρ.f 17, ρ.f 18, ρ.f 20, ρ.f 30, ρ.f 31, ρ.f 32, ρ.f 33, ρ.f 34, ρ.f 35, ρ.f 40] (some D)) 4 P (ρ.f 33) #[.slice (some ⟨blk, off, none⟩) len cap, .int .i64 a, .pointer (some ⟨sb, so, none⟩)] w fun e w' =>
  e = .returned (.int .i64 (medianAdjacent ltInt d a s).1) ∧ ∃ n, w' = putRow (Value.int .i64) (Sort.ahead w n) sb so (one (medianAdjacent ltInt d a s).2) := by
 subst hlen; replace hsz : d.size < 4611686018427387904 := by omega
 have mixed := Ly.mixed; have t0 := Ly.t0; have a0 := Ly.a0; have z0 := Ly.z0; have v0 := Ly.v0; have t3 := Ly.t3; have a3 := Ly.a3; have z3 := Ly.z3; have v3 := Ly.v3; have t4 := Ly.t4; have a4 := Ly.a4; have z4 := Ly.z4; have v4 := Ly.v4; have t22 := Ly.t22; have a22 := Ly.a22; have z22 := Ly.z22; have v22 := Ly.v22; have t25 := Ly.t25; have a25 := Ly.a25; have z25 := Ly.z25; have v25 := Ly.v25; have t57 := Ly.t57; have a57 := Ly.a57; have z57 := Ly.z57; have v57 := Ly.v57; have t64 := Ly.t64; have a64 := Ly.a64; have z64 := Ly.z64; have v64 := Ly.v64; have e332 : ∀ args w, (callFunc (ρ.f 34) args).run P w = .ok (.enter (ρ.f 34) args) w := Ly.f34.enters rfl; obtain ⟨_, _, FG⟩ := Ly.f33
 gi_enter FG, SlBodyM.n33_ntmps ρ
 gi_wp2_with (gi_at_fn (ρ.f 34); rw [show ((a : Int) - 1) = ((a - 1 : Nat) : Int) by omega, show ((a : Int) + 1) = ((a + 1 : Nat) : Int) by omega]; refine (AnyU.median_intIn { Ly with } D d _ rfl blk off cap (a - 1) a (a + 1) sb so s w hH (by omega) (by omega) ha hne hS hs).mono ?_; rintro e w' ⟨rfl, n1, rfl⟩)
 go_ret; exact ⟨rfl, n1, rfl⟩
open Go.Sort Go.RowKit

set_option maxHeartbeats 32000000 in
set_option maxRecDepth 1000000 in
theorem pivot_world_intInM (Ly : LaysU K P ρ) (D : Nat) (blk off cap : Nat) (d : Array Int) (w : World) (hH : Holds (Value.int K) w blk off d) (hblk : blk < w.heap.size) (hsz : d.size < 4611686018427387904) :
 ∃ Wc : Nat → Nat → World,
   w.alloc (.cells #[.int .i64 0] (ρ.t 3)) = Wc 0 0 ∧
   (∀ N S : Nat, (Wc N S).cell? ⟨w.heap.size, 0, none⟩ = some (.int .i64 (S : Int))) ∧
   (∀ N S : Nat, ∃ os, Wc N S = grow (Sort.ahead w N) os) ∧
   (∀ x s N : Nat, 1 ≤ x → x + 1 < d.size → s + 3 < 4611686018427387904 → CallsIn (Fence.list [ρ.f 5, ρ.f 7, ρ.f 8, ρ.f 10, ρ.f 11, ρ.f 12, ρ.f 13, ρ.f 14, ρ.f 15, ρ.f 16, ρ.f 17, ρ.f 18, ρ.f 20, ρ.f 30, ρ.f 31, ρ.f 32, ρ.f 33, ρ.f 34, ρ.f 35, ρ.f 40] (some D)) 4 P (ρ.f 33) #[.slice (some ⟨blk, off, none⟩) d.size cap, .int .i64 (x : Int), .pointer (some ⟨w.heap.size, 0, none⟩)] (Wc N s) fun e w' =>
     e = .returned (.int .i64 ((medianAdjacent ltInt d x s).1 : Int)) ∧ ∃ N', w' = Wc N' (medianAdjacent ltInt d x s).2) ∧
   (∀ x y z s N : Nat, x < d.size → y < d.size → z < d.size → s + 3 < 4611686018427387904 → CallsIn (Fence.list [ρ.f 5, ρ.f 7, ρ.f 8, ρ.f 10, ρ.f 11, ρ.f 12, ρ.f 13, ρ.f 14, ρ.f 15, ρ.f 16, ρ.f 17, ρ.f 18, ρ.f 20, ρ.f 30, ρ.f 31, ρ.f 32, ρ.f 33, ρ.f 34, ρ.f 35, ρ.f 40] (some D)) 3 P (ρ.f 34) #[.slice (some ⟨blk, off, none⟩) d.size cap, .int .i64 (x : Int), .int .i64 (y : Int), .int .i64 (z : Int), .pointer (some ⟨w.heap.size, 0, none⟩)] (Wc N s) fun e w' =>
     e = .returned (.int .i64 ((median ltInt d x y z s).1 : Int)) ∧ ∃ N', w' = Wc N' (median ltInt d x y z s).2) := by
 have hne : w.heap.size ≠ blk := by omega
 have hH0 : Holds (Value.int K) (w.alloc (.cells #[.int .i64 0] (ρ.t 3))) blk off d := by rw [alloc_eq_grow]; exact holds_grow _ _ _ _ _ _ hblk hH
 have hS0 : Holds (Value.int .i64) (w.alloc (.cells #[.int .i64 0] (ρ.t 3))) w.heap.size 0 (one 0) := fun j hj => by
  obtain rfl : j = 0 := by simpa using hj
  simp
 refine ⟨fun N S => putRow (Value.int .i64) (Sort.ahead (w.alloc (.cells #[.int .i64 0] (ρ.t 3))) N) w.heap.size 0 (one S), (putRow_self _ _ _ _ _ hS0).symm, fun N S => (one_cell (holds_one (n := N) (t := S) hS0)).1, fun N S => counter_growTM (ρ.t 3) w N S, ?_, ?_⟩
 ·intro x s N h1 h2 hs; refine (AnyU.medianAdjacent_intIn { Ly with } D d _ rfl blk off cap x w.heap.size 0 s _ (holds_asideU hH0 hne) h1 h2 (by omega) hne (holds_one hS0) (by omega)).mono ?_
  rintro e w' ⟨he, n, hw⟩; exact ⟨he, N + n, by rw [hw, one_one]⟩
 ·intro x y z s N h1 h2 h3 hs; refine (AnyU.median_intIn { Ly with } D d _ rfl blk off cap x y z w.heap.size 0 s _ (holds_asideU hH0 hne) h1 h2 h3 hne (holds_one hS0) (by omega)).mono ?_
  rintro e w' ⟨he, n, hw⟩; exact ⟨he, N + n, by rw [hw, one_one]⟩

set_option maxHeartbeats 32000000 in
set_option maxRecDepth 1000000 in
theorem AnyU.choosePivot_intIn (Ly : LaysU K P ρ) (D : Nat) (blk off cap a b : Nat) (d : Array Int) (w : World) (hH : Holds (Value.int K) w blk off d) (hblk : blk < w.heap.size) (hab : a < b) (hb : b ≤ d.size) (hsz : d.size < 4611686018427387904) :
 CallsIn (Fence.list [ρ.f 5, ρ.f 7, ρ.f 8, ρ.f 10, ρ.f 11, ρ.f 12, ρ.f 13, ρ.f 14, ρ.f 15, ρ.f 16, ρ.f 17, ρ.f 18, ρ.f 20, ρ.f 30, ρ.f 31, ρ.f 32, ρ.f 33, ρ.f 34, ρ.f 35, ρ.f 40] (some D)) 5 P (ρ.f 13) #[.slice (some ⟨blk, off, none⟩) d.size cap, .int .i64 a, .int .i64 b] w fun e w' =>
  e = .returned (.tuple #[.int .i64 (choosePivot ltInt d a b).1, .int .i64 (hintCode (choosePivot ltInt d a b).2)]) ∧ ∃ n os, w' = grow (Sort.ahead w n) os := by
 obtain ⟨Wc, hW0, cS, hG, MA, MD⟩ := pivot_world_intInM { Ly with } D blk off cap d w hH hblk hsz
 clear hH; rw [choosePivot_eq]; obtain ⟨I, hI⟩ : ∃ I : Nat, I = a + (b - a) / 4 * 1 := ⟨_, rfl⟩; obtain ⟨J, hJ⟩ : ∃ J : Nat, J = a + (b - a) / 4 * 2 := ⟨_, rfl⟩; obtain ⟨K, hK⟩ : ∃ K : Nat, K = a + (b - a) / 4 * 3 := ⟨_, rfl⟩; have eI : ((a : Int) + ((b : Int) - (a : Int)) / 4) = (I : Int) := by omega
 have eJ : ((a : Int) + ((b : Int) - (a : Int)) / 4 * 2) = (J : Int) := by omega
 have eK : ((a : Int) + ((b : Int) - (a : Int)) / 4 * 3) = (K : Int) := by omega
 by_cases h8 : b - a ≥ 8
 ·by_cases h50 : b - a ≥ 50
  ·-- THE NINTHER
   obtain ⟨i1, s1, h1⟩ : ∃ i1 s1, medianAdjacent ltInt d I 0 = (i1, s1) := ⟨_, _, rfl⟩; obtain ⟨j1, s2, h2⟩ : ∃ j1 s2, medianAdjacent ltInt d J s1 = (j1, s2) := ⟨_, _, rfl⟩; obtain ⟨k1, s3, h3⟩ : ∃ k1 s3, medianAdjacent ltInt d K s2 = (k1, s3) := ⟨_, _, rfl⟩; obtain ⟨p, s, h4⟩ : ∃ p s, median ltInt d i1 j1 k1 s3 = (p, s) := ⟨_, _, rfl⟩; have hraw : rawPivot ltInt d a b = (p, s) := by simp only [rawPivot, if_pos h8, if_pos h50, ← hI, ← hJ, ← hK, h1, h2, h3, h4]
   have m1 := medianAdjacent_mem ltInt d I 0; rw [h1] at m1; have m2 := medianAdjacent_mem ltInt d J s1; rw [h2] at m2; have m3 := medianAdjacent_mem ltInt d K s2; rw [h3] at m3; have n1 := medianAdjacent_count ltInt d I 0; rw [h1] at n1; have n2 := medianAdjacent_count ltInt d J s1; rw [h2] at n2; have n3 := medianAdjacent_count ltInt d K s2; rw [h3] at n3; simp only [] at m1 m2 m3 n1 n2 n3
   have c1 : CallsIn (Fence.list [ρ.f 5, ρ.f 7, ρ.f 8, ρ.f 10, ρ.f 11, ρ.f 12, ρ.f 13, ρ.f 14, ρ.f 15, ρ.f 16, ρ.f 17, ρ.f 18, ρ.f 20, ρ.f 30, ρ.f 31, ρ.f 32, ρ.f 33, ρ.f 34, ρ.f 35, ρ.f 40] (some D)) 4 P (ρ.f 33) #[.slice (some ⟨blk, off, none⟩) d.size cap, .int .i64 (I : Int), .pointer (some ⟨w.heap.size, 0, none⟩)] (Wc 0 0) fun e w' => e = .returned (.int .i64 (i1 : Int)) ∧ ∃ N', w' = Wc N' s1 := by
    have h := MA I 0 0 (by omega) (by omega) (by omega); rw [h1] at h; exact h
   have c2 : ∀ N, CallsIn (Fence.list [ρ.f 5, ρ.f 7, ρ.f 8, ρ.f 10, ρ.f 11, ρ.f 12, ρ.f 13, ρ.f 14, ρ.f 15, ρ.f 16, ρ.f 17, ρ.f 18, ρ.f 20, ρ.f 30, ρ.f 31, ρ.f 32, ρ.f 33, ρ.f 34, ρ.f 35, ρ.f 40] (some D)) 4 P (ρ.f 33) #[.slice (some ⟨blk, off, none⟩) d.size cap, .int .i64 (J : Int), .pointer (some ⟨w.heap.size, 0, none⟩)] (Wc N s1) fun e w' => e = .returned (.int .i64 (j1 : Int)) ∧ ∃ N', w' = Wc N' s2 := fun N => by
    have h := MA J s1 N (by omega) (by omega) (by omega); rw [h2] at h; exact h
   have c3 : ∀ N, CallsIn (Fence.list [ρ.f 5, ρ.f 7, ρ.f 8, ρ.f 10, ρ.f 11, ρ.f 12, ρ.f 13, ρ.f 14, ρ.f 15, ρ.f 16, ρ.f 17, ρ.f 18, ρ.f 20, ρ.f 30, ρ.f 31, ρ.f 32, ρ.f 33, ρ.f 34, ρ.f 35, ρ.f 40] (some D)) 4 P (ρ.f 33) #[.slice (some ⟨blk, off, none⟩) d.size cap, .int .i64 (K : Int), .pointer (some ⟨w.heap.size, 0, none⟩)] (Wc N s2) fun e w' => e = .returned (.int .i64 (k1 : Int)) ∧ ∃ N', w' = Wc N' s3 := fun N => by
    have h := MA K s2 N (by omega) (by omega) (by omega); rw [h3] at h; exact h
   have c4 : ∀ N, CallsIn (Fence.list [ρ.f 5, ρ.f 7, ρ.f 8, ρ.f 10, ρ.f 11, ρ.f 12, ρ.f 13, ρ.f 14, ρ.f 15, ρ.f 16, ρ.f 17, ρ.f 18, ρ.f 20, ρ.f 30, ρ.f 31, ρ.f 32, ρ.f 33, ρ.f 34, ρ.f 35, ρ.f 40] (some D)) 3 P (ρ.f 34) #[.slice (some ⟨blk, off, none⟩) d.size cap, .int .i64 (i1 : Int), .int .i64 (j1 : Int), .int .i64 (k1 : Int), .pointer (some ⟨w.heap.size, 0, none⟩)] (Wc N s3) fun e w' => e = .returned (.int .i64 (p : Int)) ∧ ∃ N', w' = Wc N' s := fun N => by
    have h := MD i1 j1 k1 s3 N (by omega) (by omega) (by omega) (by omega); rw [h4] at h; exact h
   rw [hraw]; obtain ⟨Hc, hHc⟩ : ∃ Hc : Int, Hc = hintCode (hintOf s) := ⟨_, rfl⟩; have hh0 : s = 0 → Hc = 1 := fun h => by rw [hHc, h]; rfl
   have hh12 : s = 12 → Hc = 2 := fun h => by rw [hHc, h]; rfl
   have hhx : s ≠ 0 → s ≠ 12 → Hc = 0 := fun h1 h2 => by rw [hHc]; unfold hintOf; rw [if_neg h1, if_neg h2]; rfl
   show CallsIn (Fence.list [ρ.f 5, ρ.f 7, ρ.f 8, ρ.f 10, ρ.f 11, ρ.f 12, ρ.f 13, ρ.f 14, ρ.f 15, ρ.f 16, ρ.f 17, ρ.f 18, ρ.f 20, ρ.f 30, ρ.f 31, ρ.f 32, ρ.f 33, ρ.f 34, ρ.f 35, ρ.f 40] (some D)) 5 P (ρ.f 13) _ w fun e w' => e = .returned (.tuple #[.int .i64 (p : Int), .int .i64 (hintCode (hintOf s))]) ∧ ∃ n os, w' = grow (Sort.ahead w n) os
   rw [← hHc]; clear hHc hraw; clear h1 h2 h3 h4 MA MD hI hJ hK m1 m2 m3; have mixed := Ly.mixed; have t0 := Ly.t0; have a0 := Ly.a0; have z0 := Ly.z0; have v0 := Ly.v0; have t3 := Ly.t3; have a3 := Ly.a3; have z3 := Ly.z3; have v3 := Ly.v3; have t4 := Ly.t4; have a4 := Ly.a4; have z4 := Ly.z4; have v4 := Ly.v4; have t22 := Ly.t22; have a22 := Ly.a22; have z22 := Ly.z22; have v22 := Ly.v22; have t25 := Ly.t25; have a25 := Ly.a25; have z25 := Ly.z25; have v25 := Ly.v25; have t35 := Ly.t35; have a35 := Ly.a35; have z35 := Ly.z35; have v35 := Ly.v35; have t57 := Ly.t57; have a57 := Ly.a57; have z57 := Ly.z57; have v57 := Ly.v57; have t64 := Ly.t64; have a64 := Ly.a64; have z64 := Ly.z64; have v64 := Ly.v64; have e331 : ∀ args w, (callFunc (ρ.f 33) args).run P w = .ok (.enter (ρ.f 33) args) w := Ly.f33.enters rfl; have e332 : ∀ args w, (callFunc (ρ.f 34) args).run P w = .ok (.enter (ρ.f 34) args) w := Ly.f34.enters rfl; obtain ⟨_, _, FG⟩ := Ly.f13
   gi_enter FG, SlBodyM.n13_ntmps ρ
   gi_wp2_with (first
    | (gi_at_fn_has (ρ.f 33) (Value.int .i64 (I : Int)); refine (c1.more (by omega)).mono ?_; rintro e w' ⟨rfl, N1, rfl⟩)
    | (gi_at_fn_has (ρ.f 33) (Value.int .i64 (J : Int)); refine ((c2 _).more (by omega)).mono ?_; rintro e w' ⟨rfl, N2, rfl⟩)
    | (gi_at_fn_has (ρ.f 33) (Value.int .i64 (K : Int)); refine ((c3 _).more (by omega)).mono ?_; rintro e w' ⟨rfl, N3, rfl⟩)
    | (gi_at_fn (ρ.f 34); refine ((c4 _).more (by omega)).mono ?_; rintro e w' ⟨rfl, N4, rfl⟩))
   all_goals
    go_ret2; refine ⟨?_, _, hG _ _⟩
    first
     | (have e0 : (s : Int) = 0 := of_beq_int (by assumption)
        rw [hh0 (by omega)]; rfl)
     | (have e1 : (s : Int) = 12 := of_beq_int (by assumption)
        rw [hh12 (by omega)]; rfl)
     | (have e0 : (s : Int) ≠ 0 := of_bne_int (by assumption)
        have e1 : (s : Int) ≠ 12 := of_bne_int (by assumption)
        rw [hhx (by omega) (by omega)]; rfl)
     | (rw [hh0 (by omega)]; rfl)
  ·-- THE MEDIAN OF THREE
   obtain ⟨p, s, h4⟩ : ∃ p s, median ltInt d I J K 0 = (p, s) := ⟨_, _, rfl⟩; have hraw : rawPivot ltInt d a b = (p, s) := by simp only [rawPivot, if_pos h8, if_neg h50, ← hI, ← hJ, ← hK, h4]
   have c4 : CallsIn (Fence.list [ρ.f 5, ρ.f 7, ρ.f 8, ρ.f 10, ρ.f 11, ρ.f 12, ρ.f 13, ρ.f 14, ρ.f 15, ρ.f 16, ρ.f 17, ρ.f 18, ρ.f 20, ρ.f 30, ρ.f 31, ρ.f 32, ρ.f 33, ρ.f 34, ρ.f 35, ρ.f 40] (some D)) 3 P (ρ.f 34) #[.slice (some ⟨blk, off, none⟩) d.size cap, .int .i64 (I : Int), .int .i64 (J : Int), .int .i64 (K : Int), .pointer (some ⟨w.heap.size, 0, none⟩)] (Wc 0 0) fun e w' => e = .returned (.int .i64 (p : Int)) ∧ ∃ N', w' = Wc N' s := by
    have h := MD I J K 0 0 (by omega) (by omega) (by omega) (by omega); rw [h4] at h; exact h
   rw [hraw]; obtain ⟨Hc, hHc⟩ : ∃ Hc : Int, Hc = hintCode (hintOf s) := ⟨_, rfl⟩; have hh0 : s = 0 → Hc = 1 := fun h => by rw [hHc, h]; rfl
   have hh12 : s = 12 → Hc = 2 := fun h => by rw [hHc, h]; rfl
   have hhx : s ≠ 0 → s ≠ 12 → Hc = 0 := fun h1 h2 => by rw [hHc]; unfold hintOf; rw [if_neg h1, if_neg h2]; rfl
   show CallsIn (Fence.list [ρ.f 5, ρ.f 7, ρ.f 8, ρ.f 10, ρ.f 11, ρ.f 12, ρ.f 13, ρ.f 14, ρ.f 15, ρ.f 16, ρ.f 17, ρ.f 18, ρ.f 20, ρ.f 30, ρ.f 31, ρ.f 32, ρ.f 33, ρ.f 34, ρ.f 35, ρ.f 40] (some D)) 5 P (ρ.f 13) _ w fun e w' => e = .returned (.tuple #[.int .i64 (p : Int), .int .i64 (hintCode (hintOf s))]) ∧ ∃ n os, w' = grow (Sort.ahead w n) os
   rw [← hHc]; clear hHc hraw; clear h4 MA MD hI hJ hK; have mixed := Ly.mixed; have t0 := Ly.t0; have a0 := Ly.a0; have z0 := Ly.z0; have v0 := Ly.v0; have t3 := Ly.t3; have a3 := Ly.a3; have z3 := Ly.z3; have v3 := Ly.v3; have t4 := Ly.t4; have a4 := Ly.a4; have z4 := Ly.z4; have v4 := Ly.v4; have t22 := Ly.t22; have a22 := Ly.a22; have z22 := Ly.z22; have v22 := Ly.v22; have t25 := Ly.t25; have a25 := Ly.a25; have z25 := Ly.z25; have v25 := Ly.v25; have t35 := Ly.t35; have a35 := Ly.a35; have z35 := Ly.z35; have v35 := Ly.v35; have t57 := Ly.t57; have a57 := Ly.a57; have z57 := Ly.z57; have v57 := Ly.v57; have t64 := Ly.t64; have a64 := Ly.a64; have z64 := Ly.z64; have v64 := Ly.v64; have e331 : ∀ args w, (callFunc (ρ.f 33) args).run P w = .ok (.enter (ρ.f 33) args) w := Ly.f33.enters rfl; have e332 : ∀ args w, (callFunc (ρ.f 34) args).run P w = .ok (.enter (ρ.f 34) args) w := Ly.f34.enters rfl; obtain ⟨_, _, FG⟩ := Ly.f13
   gi_enter FG, SlBodyM.n13_ntmps ρ
   gi_wp2_with (first | (gi_at_fn (ρ.f 34); refine (c4.more (by omega)).mono ?_; rintro e w' ⟨rfl, N4, rfl⟩))
   all_goals
    go_ret2; refine ⟨?_, _, hG _ _⟩
    first
     | (have e0 : (s : Int) = 0 := of_beq_int (by assumption)
        rw [hh0 (by omega)]; rfl)
     | (have e1 : (s : Int) = 12 := of_beq_int (by assumption)
        rw [hh12 (by omega)]; rfl)
     | (have e0 : (s : Int) ≠ 0 := of_bne_int (by assumption)
        have e1 : (s : Int) ≠ 12 := of_bne_int (by assumption)
        rw [hhx (by omega) (by omega)]; rfl)
     | (rw [hh0 (by omega)]; rfl)
 ·-- FEWER THAN EIGHT: the middle; nothing is counted
  obtain ⟨p, hp⟩ : ∃ p : Nat, p = J := ⟨_, rfl⟩; obtain ⟨s, hs⟩ : ∃ s : Nat, s = 0 := ⟨_, rfl⟩; have hraw : rawPivot ltInt d a b = (p, s) := by simp only [rawPivot, if_neg h8, ← hJ, hp, hs]
  rw [hraw]; obtain ⟨Hc, hHc⟩ : ∃ Hc : Int, Hc = hintCode (hintOf s) := ⟨_, rfl⟩; have hh0 : s = 0 → Hc = 1 := fun h => by rw [hHc, h]; rfl
  have hh12 : s = 12 → Hc = 2 := fun h => by rw [hHc, h]; rfl
  have hhx : s ≠ 0 → s ≠ 12 → Hc = 0 := fun h1 h2 => by rw [hHc]; unfold hintOf; rw [if_neg h1, if_neg h2]; rfl
  show CallsIn (Fence.list [ρ.f 5, ρ.f 7, ρ.f 8, ρ.f 10, ρ.f 11, ρ.f 12, ρ.f 13, ρ.f 14, ρ.f 15, ρ.f 16, ρ.f 17, ρ.f 18, ρ.f 20, ρ.f 30, ρ.f 31, ρ.f 32, ρ.f 33, ρ.f 34, ρ.f 35, ρ.f 40] (some D)) 5 P (ρ.f 13) _ w fun e w' => e = .returned (.tuple #[.int .i64 (p : Int), .int .i64 (hintCode (hintOf s))]) ∧ ∃ n os, w' = grow (Sort.ahead w n) os
  rw [← hHc]; clear hHc hraw; subst hp; clear MA MD hI hJ hK; have hW0' : w.alloc (.cells #[.int .i64 0] (ρ.t 3)) = Wc 0 s := by rw [hs]; exact hW0
  clear hW0; have mixed := Ly.mixed; have t0 := Ly.t0; have a0 := Ly.a0; have z0 := Ly.z0; have v0 := Ly.v0; have t3 := Ly.t3; have a3 := Ly.a3; have z3 := Ly.z3; have v3 := Ly.v3; have t4 := Ly.t4; have a4 := Ly.a4; have z4 := Ly.z4; have v4 := Ly.v4; have t22 := Ly.t22; have a22 := Ly.a22; have z22 := Ly.z22; have v22 := Ly.v22; have t25 := Ly.t25; have a25 := Ly.a25; have z25 := Ly.z25; have v25 := Ly.v25; have t35 := Ly.t35; have a35 := Ly.a35; have z35 := Ly.z35; have v35 := Ly.v35; have t57 := Ly.t57; have a57 := Ly.a57; have z57 := Ly.z57; have v57 := Ly.v57; have t64 := Ly.t64; have a64 := Ly.a64; have z64 := Ly.z64; have v64 := Ly.v64; have e331 : ∀ args w, (callFunc (ρ.f 33) args).run P w = .ok (.enter (ρ.f 33) args) w := Ly.f33.enters rfl; have e332 : ∀ args w, (callFunc (ρ.f 34) args).run P w = .ok (.enter (ρ.f 34) args) w := Ly.f34.enters rfl; obtain ⟨_, _, FG⟩ := Ly.f13
  gi_enter FG, SlBodyM.n13_ntmps ρ
  gi_wp2
  all_goals
   go_ret2; refine ⟨?_, _, hG _ _⟩
   first
    | (have e0 : (s : Int) = 0 := of_beq_int (by assumption)
       rw [hh0 (by omega)]; rfl)
    | (have e1 : (s : Int) = 12 := of_beq_int (by assumption)
       rw [hh12 (by omega)]; rfl)
    | (have e0 : (s : Int) ≠ 0 := of_bne_int (by assumption)
       have e1 : (s : Int) ≠ 12 := of_bne_int (by assumption)
       rw [hhx (by omega) (by omega)]; rfl)
    | (rw [hh0 (by omega)]; rfl)
end
section
open Go.Shelf Go.Sort Go.RowKit
variable {P : Program} {ρ : Ren} {K : IntKind}
open Go.RowKit Go.Sort

section
variable {α : Type} [Inhabited α] (lt : α → α → Bool)
end

set_option maxHeartbeats 12800000 in
theorem AnyU.partition_intIn (Ly : LaysU K P ρ) (D : Nat) (blk off cap a b pivot : Nat) (d : Array Int) (w : World) (hH : Holds (Value.int K) w blk off d) (hap : a ≤ pivot) (hpb : pivot < b) (hb : b ≤ d.size) (hsz : d.size < 4611686018427387904) :
 CallsIn (Fence.list [ρ.f 5, ρ.f 7, ρ.f 8, ρ.f 10, ρ.f 11, ρ.f 12, ρ.f 13, ρ.f 14, ρ.f 15, ρ.f 16, ρ.f 17, ρ.f 18, ρ.f 20, ρ.f 30, ρ.f 31, ρ.f 32, ρ.f 33, ρ.f 34, ρ.f 35, ρ.f 40] (some D)) 2 P (ρ.f 18) #[.slice (some ⟨blk, off, none⟩) d.size cap, .int .i64 a, .int .i64 b, .int .i64 pivot] w fun e w' =>
  e = .returned (.tuple #[.int .i64 (Sort.partition Sort.ltInt d a b pivot).1, .bool (Sort.partition Sort.ltInt d a b pivot).2.1]) ∧ ∃ n, w' = (putRow (Value.int K) w blk off (Sort.partition Sort.ltInt d a b pivot).2.2).drewN n := by
 have hla : a < d.size := by omega
 have hlp : pivot < d.size := by omega
 obtain ⟨G, hG⟩ : ∃ G : Nat → Int, ∀ j, G j = d[j]! := ⟨fun j => d[j]!, fun _ => rfl⟩
 have ca : w.cell? ⟨blk, off + a, none⟩ = some (.int K (G a)) := by rw [hG]; exact (hH a hla).1
 have fa := (hH a hla).2; have cp : w.cell? ⟨blk, off + pivot, none⟩ = some (.int K (G pivot)) := by rw [hG]; exact (hH pivot hlp).1
 have fp := (hH pivot hlp).2; obtain ⟨v', hy'⟩ := cell?_setCell_some (w := w) (p := ⟨blk, off + a, none⟩) (x := .int K (G pivot)) (q := ⟨blk, off + pivot, none⟩) cp
 have hw : ((w.setCell ⟨blk, off + a, none⟩ (.int K (G pivot))).setCell ⟨blk, off + pivot, none⟩ (.int K (G a))).drew = (putRow (Value.int K) w blk off (Sort.swp d a pivot)).drewN 1 := by
  have e := swap_worldC (Value.int K) w blk off d 0 a pivot hla hlp; rw [putRow_self _ w blk off d hH] at e; rw [hG a, hG pivot]; exact e
 have AH : Hid (Holds (Value.int K) w blk off d) := hH; have HW0 := Hid.mk' hw; clear hG hH hw; have mixed := Ly.mixed; have t0 := Ly.t0; have a0 := Ly.a0; have z0 := Ly.z0; have v0 := Ly.v0; have t3 := Ly.t3; have a3 := Ly.a3; have z3 := Ly.z3; have v3 := Ly.v3; have t4 := Ly.t4; have a4 := Ly.a4; have z4 := Ly.z4; have v4 := Ly.v4; have t22 := Ly.t22; have a22 := Ly.a22; have z22 := Ly.z22; have v22 := Ly.v22; have t25 := Ly.t25; have a25 := Ly.a25; have z25 := Ly.z25; have v25 := Ly.v25; have e216 : ∀ args w, (callFunc (ρ.f 16) args).run P w = .ok (.enter (ρ.f 16) args) w := Ly.f16.enters rfl; obtain ⟨_, _, FG⟩ := Ly.f18
 gi_enter FG, SlBodyM.n18_ntmps ρ
 gi_wp2
 gi_region_o
 gi_wp2
 clear ca fa cp fp hy' v'; have hw := HW0.out; clear HW0; generalize ((w.setCell ⟨blk, off + a, none⟩ (.int K (G pivot))).setCell ⟨blk, off + pivot, none⟩ (.int K (G a))).drew = W1 at hw ⊢; obtain ⟨dk, hdk⟩ : ∃ dk, dk = Sort.swp d a pivot := ⟨_, rfl⟩; obtain ⟨n, hn⟩ : ∃ n : Nat, n = 1 := ⟨_, rfl⟩; rw [← hdk, ← hn] at hw; clear hn; have hs : dk.size = d.size := by rw [hdk, size_swp]
 have e1 : ((a : Int) + 1) = ((a + 1 : Nat) : Int) := by omega
 have e2 : ((b : Int) - 1) = ((b - 1 : Nat) : Int) := by omega
 rw [e1, e2]; clear e1 e2; obtain ⟨i, hi⟩ : ∃ i, i = a + 1 := ⟨_, rfl⟩; obtain ⟨j, hj⟩ : ∃ j, j = b - 1 := ⟨_, rfl⟩; rw [← hi, ← hj]; have hai : a < i := by omega
 have hij : i ≤ j + 1 := by omega
 have hjb : j < b := by omega
 have HI := Hid.mk' hi; have HJ := Hid.mk' hj; have HDK := Hid.mk' hdk; clear hi hj hdk
 have hHk : Holds (Value.int K) W1 blk off dk := by
  rw [hw]; exact holds_putRow (Value.int K) w blk off d dk AH.out hs
 obtain ⟨Gk, hG⟩ : ∃ Gk : Nat → Int, ∀ t, Gk t = dk[t]! := ⟨fun t => dk[t]!, fun _ => rfl⟩
 have hc : ∀ t, t < d.size → W1.cell? ⟨blk, off + t, none⟩ = some (.int K (Gk t)) := fun t ht => by rw [hG]; exact (hHk t (by omega)).1
 have hf : ∀ t, t < d.size → W1.frozen? ⟨blk, off + t, none⟩ = false := fun t ht => (hHk t (by omega)).2
 have AG : Hid (∀ t, Gk t = dk[t]!) := hG; have AW : Hid (W1 = (putRow (Value.int K) w blk off dk).drewN n) := hw; clear hG hw hHk
 gi_loopw [10] (fun vi w1 => ∃ (i' n1 : Nat), vi = .int .i64 i' ∧ i ≤ i' ∧ i' ≤ j + 1 ∧ w1 = W1.drewN n1 ∧
  Hid (Sort.scanUp (fun x => Sort.ltInt x dk[a]!) dk j i' = Sort.scanUp (fun x => Sort.ltInt x dk[a]!) dk j i))
  (fun vi _ => j + 1 - (intOf vi).toNat)
 case atStart => exact ⟨i, 0, rfl, Nat.le_refl _, hij, rfl, rfl⟩
 case round =>
  obtain ⟨i', n1, rfl, hii, hij', hw1, hsc⟩ := hrel; have hcw : ∀ t, t < d.size → wr.cell? ⟨blk, off + t, none⟩ = some (.int K (Gk t)) := fun t ht => by rw [hw1]; exact hc t ht
  have HW1 : Hid (wr = W1.drewN n1) := hw1; clear hw1
  by_cases hle : i' ≤ j
  ·gi_wp2_with fail
   gi_big_quiet_th_o (first | (gi_at_fn (ρ.f 16); refine CallsIn.quiet_of_same (AnyU.cmp_Less_intIn { Ly with } D _ _ _)))
   gi_wp2
   ·-- it goes on: i++
    have ht : Sort.ltInt (Gk i') (Gk a) = true := by assumption
    go_roundw
    case rel => exact ⟨i' + 1, n1 + nq, by go_num, by omega, by omega, by rw [HW1.out, World.drewN_drewN], (scanUp_go (fun x => Sort.ltInt x dk[a]!) dk j i' hle (by rw [← AG.out a, ← AG.out i']; exact ht)).symm.trans hsc.out⟩
    case measure => simp [intOf]; omega
   ·-- it stops: the test has failed
    have ht : Sort.ltInt (Gk i') (Gk a) = false := by assumption
    have hi2 : Hid (i' = Sort.scanUp (fun x => Sort.ltInt x dk[a]!) dk j i) := (scanUp_end (fun x => Sort.ltInt x dk[a]!) dk j i' (Or.inr (by rw [← AG.out a, ← AG.out i']; exact ht))).symm.trans hsc.out
    clear ht; have hw2 : wr.drewN nq = W1.drewN (n1 + nq) := by rw [HW1.out, World.drewN_drewN]
    clear hcw HW1 hsc
    gi_loopw [11] (fun vj w2 => ∃ (j' n2 : Nat), vj = .int .i64 j' ∧ j' ≤ j ∧ i' ≤ j' + 1 ∧ w2 = W1.drewN n2 ∧
     Hid (Sort.scanDown (fun x => !Sort.ltInt x dk[a]!) dk i' j' = Sort.scanDown (fun x => !Sort.ltInt x dk[a]!) dk i' j))
     (fun vj _ => (intOf vj).toNat)
    case atStart => exact ⟨j, n1 + nq, rfl, Nat.le_refl _, hij', hw2, rfl⟩
    case round =>
     clear hw2; obtain ⟨j', n2, rfl, hjj, hij2, hw2, hsd⟩ := hrel; have hcw : ∀ t, t < d.size → wr.cell? ⟨blk, off + t, none⟩ = some (.int K (Gk t)) := fun t ht => by rw [hw2]; exact hc t ht
     have HW2 : Hid (wr = W1.drewN n2) := hw2; clear hw2
     by_cases hle2 : i' ≤ j'
     ·gi_wp2_with fail
      gi_big_quiet_th_o (first | (gi_at_fn (ρ.f 16); refine CallsIn.quiet_of_same (AnyU.cmp_Less_intIn { Ly with } D _ _ _)))
      gi_wp2
      ·-- it goes on: j--
       have ht : (!Sort.ltInt (Gk j') (Gk a)) = true := by assumption
       go_roundw
       case rel => exact ⟨j' - 1, n2 + nq, by go_num, by omega, by omega, by rw [HW2.out, World.drewN_drewN], (scanDown_go (fun x => !Sort.ltInt x dk[a]!) dk i' j' hle2 (by omega) (by rw [← AG.out a, ← AG.out j']; exact ht)).symm.trans hsd.out⟩
       case measure => simp [intOf]; omega
      ·-- it stops: the test has failed
       have ht : (!Sort.ltInt (Gk j') (Gk a)) = false := by assumption
       have hj2 : Hid (j' = Sort.scanDown (fun x => !Sort.ltInt x dk[a]!) dk i' j) := (scanDown_end (fun x => !Sort.ltInt x dk[a]!) dk i' j' (Or.inr (by rw [← AG.out a, ← AG.out j']; exact ht))).symm.trans hsd.out
       clear hcw hsd ht; have hw3 : wr.drewN nq = W1.drewN (n2 + nq) := by rw [HW2.out, World.drewN_drewN]
       generalize wr.drewN nq = W3 at hw3 ⊢; have hc3 : ∀ t, t < d.size → W3.cell? ⟨blk, off + t, none⟩ = some (.int K (Gk t)) := fun t ht => by rw [hw3]; exact hc t ht
       have hf3 : ∀ t, t < d.size → W3.frozen? ⟨blk, off + t, none⟩ = false := fun t ht => by rw [hw3]; exact hf t ht
       have HW3 : Hid (W3 = W1.drewN (n2 + nq)) := hw3; clear hw3; obtain ⟨v3, hy3⟩ := cell?_setCell_some (w := W3) (p := ⟨blk, off + i', none⟩) (x := .int K (Gk j')) (q := ⟨blk, off + j', none⟩) (hc3 j' (by omega))
       have hlt3 := part_scans_lt Sort.ltInt a i j dk (by omega) hi2.out hj2.out hle2
       gi_wp2
       gi_region_o
       all_goals gi_wp2
       obtain ⟨R, hR⟩ : ∃ R, R = Sort.partLoop Sort.ltInt a (i' + 1) (j' - 1) (Sort.swp dk i' j') := ⟨_, rfl⟩; have HP : Hid (Sort.partition Sort.ltInt d a b pivot = (R.1, false, Sort.swp R.2 R.1 a)) := by rw [hR]; exact part_first_go Sort.ltInt d a b pivot HI.out HJ.out HDK.out hi2.out hj2.out (by omega)
       have hw0 : ((W3.setCell ⟨blk, off + i', none⟩ (.int K (Gk j'))).setCell ⟨blk, off + j', none⟩ (.int K (Gk i'))).drew = (putRow (Value.int K) w blk off (Sort.swp dk i' j')).drewN (n + (n2 + nq) + 1) := by
        rw [HW3.out, AW.out, World.drewN_drewN, AG.out i', AG.out j']; exact swap_worldC (Value.int K) w blk off dk _ i' j' (by omega) (by omega)
       have HR : Hid (R = Sort.partLoop Sort.ltInt a (i' + 1) (j' - 1) (Sort.swp dk i' j')) := hR; clear hR hc hf hc3 hf3 hy3 HW3 AW AG hi2 hj2
       gi_loopw [10, 11] (fun vi vj wr => ∃ (i j n : Nat) (dk : Array Int), vi = .int .i64 i ∧ vj = .int .i64 j ∧ a < i ∧ i ≤ j + 1 ∧ j < b ∧ dk.size = d.size ∧ wr = (putRow (Value.int K) w blk off dk).drewN n ∧
        Sort.partLoop Sort.ltInt a i j dk = R)
        (fun vi vj _ => (intOf vj).toNat + 1 - (intOf vi).toNat)
       case atStart => exact ⟨i' + 1, j' - 1, _, Sort.swp dk i' j', by go_num, by go_num, by omega, by omega, by omega, by rw [size_swp]; exact hs, hw0, HR.out.symm⟩
       case round =>
        clear hw0 HR; obtain ⟨i, j, n, dk, rfl, rfl, hai, hij, hjb, hs, hw, heq⟩ := hrel
        rename World => W1
        have AE : Hid (Sort.partLoop Sort.ltInt a i j dk = R) := heq; clear heq
        have hHk : Holds (Value.int K) W1 blk off dk := by
         rw [hw]; exact holds_putRow (Value.int K) w blk off d dk AH.out hs
        obtain ⟨Gk, hG⟩ : ∃ Gk : Nat → Int, ∀ t, Gk t = dk[t]! := ⟨fun t => dk[t]!, fun _ => rfl⟩
        have hc : ∀ t, t < d.size → W1.cell? ⟨blk, off + t, none⟩ = some (.int K (Gk t)) := fun t ht => by rw [hG]; exact (hHk t (by omega)).1
        have hf : ∀ t, t < d.size → W1.frozen? ⟨blk, off + t, none⟩ = false := fun t ht => (hHk t (by omega)).2
        have AG : Hid (∀ t, Gk t = dk[t]!) := hG; have AW : Hid (W1 = (putRow (Value.int K) w blk off dk).drewN n) := hw; clear hG hw hHk
        gi_wp2
        gi_loopw [10] (fun vi w1 => ∃ (i' n1 : Nat), vi = .int .i64 i' ∧ i ≤ i' ∧ i' ≤ j + 1 ∧ w1 = W1.drewN n1 ∧
         Hid (Sort.scanUp (fun x => Sort.ltInt x dk[a]!) dk j i' = Sort.scanUp (fun x => Sort.ltInt x dk[a]!) dk j i))
         (fun vi _ => j + 1 - (intOf vi).toNat)
        case atStart => exact ⟨i, 0, rfl, Nat.le_refl _, hij, rfl, rfl⟩
        case round =>
         obtain ⟨i', n1, rfl, hii, hij', hw1, hsc⟩ := hrel; have hcw : ∀ t, t < d.size → wr.cell? ⟨blk, off + t, none⟩ = some (.int K (Gk t)) := fun t ht => by rw [hw1]; exact hc t ht
         have HW1 : Hid (wr = W1.drewN n1) := hw1; clear hw1
         by_cases hle : i' ≤ j
         ·gi_wp2_with fail
          gi_big_quiet_th_o (first | (gi_at_fn (ρ.f 16); refine CallsIn.quiet_of_same (AnyU.cmp_Less_intIn { Ly with } D _ _ _)))
          gi_wp2
          ·-- it goes on: i++
           have ht : Sort.ltInt (Gk i') (Gk a) = true := by assumption
           go_roundw
           case rel => exact ⟨i' + 1, n1 + nq, by go_num, by omega, by omega, by rw [HW1.out, World.drewN_drewN], (scanUp_go (fun x => Sort.ltInt x dk[a]!) dk j i' hle (by rw [← AG.out a, ← AG.out i']; exact ht)).symm.trans hsc.out⟩
           case measure => simp [intOf]; omega
          ·-- it stops: the test has failed
           have ht : Sort.ltInt (Gk i') (Gk a) = false := by assumption
           have hi2 : Hid (i' = Sort.scanUp (fun x => Sort.ltInt x dk[a]!) dk j i) := (scanUp_end (fun x => Sort.ltInt x dk[a]!) dk j i' (Or.inr (by rw [← AG.out a, ← AG.out i']; exact ht))).symm.trans hsc.out
           clear ht; have hw2 : wr.drewN nq = W1.drewN (n1 + nq) := by rw [HW1.out, World.drewN_drewN]
           clear hcw HW1 hsc
           gi_loopw [11] (fun vj w2 => ∃ (j' n2 : Nat), vj = .int .i64 j' ∧ j' ≤ j ∧ i' ≤ j' + 1 ∧ w2 = W1.drewN n2 ∧
            Hid (Sort.scanDown (fun x => !Sort.ltInt x dk[a]!) dk i' j' = Sort.scanDown (fun x => !Sort.ltInt x dk[a]!) dk i' j))
            (fun vj _ => (intOf vj).toNat)
           case atStart => exact ⟨j, n1 + nq, rfl, Nat.le_refl _, hij', hw2, rfl⟩
           case round =>
            clear hw2; obtain ⟨j', n2, rfl, hjj, hij2, hw2, hsd⟩ := hrel; have hcw : ∀ t, t < d.size → wr.cell? ⟨blk, off + t, none⟩ = some (.int K (Gk t)) := fun t ht => by rw [hw2]; exact hc t ht
            have HW2 : Hid (wr = W1.drewN n2) := hw2; clear hw2
            by_cases hle2 : i' ≤ j'
            ·gi_wp2_with fail
             gi_big_quiet_th_o (first | (gi_at_fn (ρ.f 16); refine CallsIn.quiet_of_same (AnyU.cmp_Less_intIn { Ly with } D _ _ _)))
             gi_wp2
             ·-- it goes on: j--
              have ht : (!Sort.ltInt (Gk j') (Gk a)) = true := by assumption
              go_roundw
              case rel => exact ⟨j' - 1, n2 + nq, by go_num, by omega, by omega, by rw [HW2.out, World.drewN_drewN], (scanDown_go (fun x => !Sort.ltInt x dk[a]!) dk i' j' hle2 (by omega) (by rw [← AG.out a, ← AG.out j']; exact ht)).symm.trans hsd.out⟩
              case measure => simp [intOf]; omega
             ·-- it stops: the test has failed
              have ht : (!Sort.ltInt (Gk j') (Gk a)) = false := by assumption
              have hj2 : Hid (j' = Sort.scanDown (fun x => !Sort.ltInt x dk[a]!) dk i' j) := (scanDown_end (fun x => !Sort.ltInt x dk[a]!) dk i' j' (Or.inr (by rw [← AG.out a, ← AG.out j']; exact ht))).symm.trans hsd.out
              clear hcw hsd ht; have hw3 : wr.drewN nq = W1.drewN (n2 + nq) := by rw [HW2.out, World.drewN_drewN]
              generalize wr.drewN nq = W3 at hw3 ⊢; have hc3 : ∀ t, t < d.size → W3.cell? ⟨blk, off + t, none⟩ = some (.int K (Gk t)) := fun t ht => by rw [hw3]; exact hc t ht
              have hf3 : ∀ t, t < d.size → W3.frozen? ⟨blk, off + t, none⟩ = false := fun t ht => by rw [hw3]; exact hf t ht
              have HW3 : Hid (W3 = W1.drewN (n2 + nq)) := hw3; clear hw3; obtain ⟨v3, hy3⟩ := cell?_setCell_some (w := W3) (p := ⟨blk, off + i', none⟩) (x := .int K (Gk j')) (q := ⟨blk, off + j', none⟩) (hc3 j' (by omega))
              have hlt3 := part_scans_lt Sort.ltInt a i j dk (by omega) hi2.out hj2.out hle2
              gi_wp2
              gi_region_o
              all_goals gi_wp2
              all_goals go_roundw
              case rel =>
               refine ⟨i' + 1, j' - 1, n + (n2 + nq) + 1, Sort.swp dk i' j', by go_num, by go_num, by omega, by omega, by omega, by rw [size_swp]; exact hs, ?_, ?_⟩
               ·rw [HW3.out, AW.out, World.drewN_drewN, AG.out i', AG.out j']; exact swap_worldC (Value.int K) w blk off dk _ i' j' (by omega) (by omega)
               ·exact (part_go Sort.ltInt a i j dk hi2.out hj2.out (by omega)).symm.trans AE.out
              case measure => simp [intOf]; omega
            ·gi_wp2_with fail
             gi_big_quiet_th_o (first | (gi_at_fn (ρ.f 16); refine CallsIn.quiet_of_same (AnyU.cmp_Less_intIn { Ly with } D _ _ _)))
             have hj2 : Hid (j' = Sort.scanDown (fun x => !Sort.ltInt x dk[a]!) dk i' j) := (scanDown_end (fun x => !Sort.ltInt x dk[a]!) dk i' j' (Or.inl hle2)).symm.trans hsd.out
             clear hcw hsd; have hw3 : wr.drewN nq = W1.drewN (n2 + nq) := by rw [HW2.out, World.drewN_drewN]
             generalize wr.drewN nq = W3 at hw3 ⊢; have hc3 : ∀ t, t < d.size → W3.cell? ⟨blk, off + t, none⟩ = some (.int K (Gk t)) := fun t ht => by rw [hw3]; exact hc t ht
             have hf3 : ∀ t, t < d.size → W3.frozen? ⟨blk, off + t, none⟩ = false := fun t ht => by rw [hw3]; exact hf t ht
             have HW3 : Hid (W3 = W1.drewN (n2 + nq)) := hw3; clear hw3; obtain ⟨v3, hy3⟩ := cell?_setCell_some (w := W3) (p := ⟨blk, off + j', none⟩) (x := .int K (Gk a)) (q := ⟨blk, off + a, none⟩) (hc3 a (by omega))
             have hlj : j' < d.size := by omega
             gi_wp2
             gi_region_o
             all_goals gi_wp2
             all_goals go_ret2
             have e : Sort.partition Sort.ltInt d a b pivot = (j', false, Sort.swp dk j' a) := by
              have e0 := (part_break Sort.ltInt a i j dk hi2.out hj2.out (by omega)).symm.trans AE.out
              rw [HP.out, ← e0]
             refine ⟨?_, n + (n2 + nq) + 1, ?_⟩
             ·rw [e]; rfl
             ·rw [e, HW3.out, AW.out, World.drewN_drewN, AG.out a, AG.out j']; exact swap_worldC (Value.int K) w blk off dk _ j' a (by omega) (by omega)
         ·gi_wp2_with fail
          gi_big_quiet_th_o (first | (gi_at_fn (ρ.f 16); refine CallsIn.quiet_of_same (AnyU.cmp_Less_intIn { Ly with } D _ _ _)))
          gi_wp2
          have hi2 : Hid (i' = Sort.scanUp (fun x => Sort.ltInt x dk[a]!) dk j i) := (scanUp_end (fun x => Sort.ltInt x dk[a]!) dk j i' (Or.inl hle)).symm.trans hsc.out
          have hw2 : wr.drewN nq = W1.drewN (n1 + nq) := by rw [HW1.out, World.drewN_drewN]
          clear hcw HW1 hsc
          gi_loopw [11] (fun vj w2 => ∃ (j' n2 : Nat), vj = .int .i64 j' ∧ j' ≤ j ∧ i' ≤ j' + 1 ∧ w2 = W1.drewN n2 ∧
           Hid (Sort.scanDown (fun x => !Sort.ltInt x dk[a]!) dk i' j' = Sort.scanDown (fun x => !Sort.ltInt x dk[a]!) dk i' j))
           (fun vj _ => (intOf vj).toNat)
          case atStart => exact ⟨j, n1 + nq, rfl, Nat.le_refl _, hij', hw2, rfl⟩
          case round =>
           clear hw2; obtain ⟨j', n2, rfl, hjj, hij2, hw2, hsd⟩ := hrel; have hcw : ∀ t, t < d.size → wr.cell? ⟨blk, off + t, none⟩ = some (.int K (Gk t)) := fun t ht => by rw [hw2]; exact hc t ht
           have HW2 : Hid (wr = W1.drewN n2) := hw2; clear hw2
           by_cases hle2 : i' ≤ j'
           ·exfalso; omega      -- the upward scan has run past j, and j' ≤ j
           ·gi_wp2_with fail
            gi_big_quiet_th_o (first | (gi_at_fn (ρ.f 16); refine CallsIn.quiet_of_same (AnyU.cmp_Less_intIn { Ly with } D _ _ _)))
            have hj2 : Hid (j' = Sort.scanDown (fun x => !Sort.ltInt x dk[a]!) dk i' j) := (scanDown_end (fun x => !Sort.ltInt x dk[a]!) dk i' j' (Or.inl hle2)).symm.trans hsd.out
            clear hcw hsd; have hw3 : wr.drewN nq = W1.drewN (n2 + nq) := by rw [HW2.out, World.drewN_drewN]
            generalize wr.drewN nq = W3 at hw3 ⊢; have hc3 : ∀ t, t < d.size → W3.cell? ⟨blk, off + t, none⟩ = some (.int K (Gk t)) := fun t ht => by rw [hw3]; exact hc t ht
            have hf3 : ∀ t, t < d.size → W3.frozen? ⟨blk, off + t, none⟩ = false := fun t ht => by rw [hw3]; exact hf t ht
            have HW3 : Hid (W3 = W1.drewN (n2 + nq)) := hw3; clear hw3; obtain ⟨v3, hy3⟩ := cell?_setCell_some (w := W3) (p := ⟨blk, off + j', none⟩) (x := .int K (Gk a)) (q := ⟨blk, off + a, none⟩) (hc3 a (by omega))
            have hlj : j' < d.size := by omega
            gi_wp2
            gi_region_o
            all_goals gi_wp2
            all_goals go_ret2
            have e : Sort.partition Sort.ltInt d a b pivot = (j', false, Sort.swp dk j' a) := by
             have e0 := (part_break Sort.ltInt a i j dk hi2.out hj2.out (by omega)).symm.trans AE.out
             rw [HP.out, ← e0]
            refine ⟨?_, n + (n2 + nq) + 1, ?_⟩
            ·rw [e]; rfl
            ·rw [e, HW3.out, AW.out, World.drewN_drewN, AG.out a, AG.out j']; exact swap_worldC (Value.int K) w blk off dk _ j' a (by omega) (by omega)
     ·gi_wp2_with fail
      gi_big_quiet_th_o (first | (gi_at_fn (ρ.f 16); refine CallsIn.quiet_of_same (AnyU.cmp_Less_intIn { Ly with } D _ _ _)))
      have hj2 : Hid (j' = Sort.scanDown (fun x => !Sort.ltInt x dk[a]!) dk i' j) := (scanDown_end (fun x => !Sort.ltInt x dk[a]!) dk i' j' (Or.inl hle2)).symm.trans hsd.out
      clear hcw hsd; have hw3 : wr.drewN nq = W1.drewN (n2 + nq) := by rw [HW2.out, World.drewN_drewN]
      generalize wr.drewN nq = W3 at hw3 ⊢; have hc3 : ∀ t, t < d.size → W3.cell? ⟨blk, off + t, none⟩ = some (.int K (Gk t)) := fun t ht => by rw [hw3]; exact hc t ht
      have hf3 : ∀ t, t < d.size → W3.frozen? ⟨blk, off + t, none⟩ = false := fun t ht => by rw [hw3]; exact hf t ht
      have HW3 : Hid (W3 = W1.drewN (n2 + nq)) := hw3; clear hw3; obtain ⟨v3, hy3⟩ := cell?_setCell_some (w := W3) (p := ⟨blk, off + j', none⟩) (x := .int K (Gk a)) (q := ⟨blk, off + a, none⟩) (hc3 a (by omega))
      have hlj : j' < d.size := by omega
      gi_wp2
      gi_region_o
      all_goals gi_wp2
      all_goals go_ret2
      have e : Sort.partition Sort.ltInt d a b pivot = (j', true, Sort.swp dk j' a) := part_first_break Sort.ltInt d a b pivot HI.out HJ.out HDK.out hi2.out hj2.out (by omega)
      refine ⟨?_, n + (n2 + nq) + 1, ?_⟩
      ·rw [e]; rfl
      ·rw [e, HW3.out, AW.out, World.drewN_drewN, AG.out a, AG.out j']; exact swap_worldC (Value.int K) w blk off dk _ j' a (by omega) (by omega)
  ·gi_wp2_with fail
   gi_big_quiet_th_o (first | (gi_at_fn (ρ.f 16); refine CallsIn.quiet_of_same (AnyU.cmp_Less_intIn { Ly with } D _ _ _)))
   gi_wp2
   have hi2 : Hid (i' = Sort.scanUp (fun x => Sort.ltInt x dk[a]!) dk j i) := (scanUp_end (fun x => Sort.ltInt x dk[a]!) dk j i' (Or.inl hle)).symm.trans hsc.out
   have hw2 : wr.drewN nq = W1.drewN (n1 + nq) := by rw [HW1.out, World.drewN_drewN]
   clear hcw HW1 hsc
   gi_loopw [11] (fun vj w2 => ∃ (j' n2 : Nat), vj = .int .i64 j' ∧ j' ≤ j ∧ i' ≤ j' + 1 ∧ w2 = W1.drewN n2 ∧
    Hid (Sort.scanDown (fun x => !Sort.ltInt x dk[a]!) dk i' j' = Sort.scanDown (fun x => !Sort.ltInt x dk[a]!) dk i' j))
    (fun vj _ => (intOf vj).toNat)
   case atStart => exact ⟨j, n1 + nq, rfl, Nat.le_refl _, hij', hw2, rfl⟩
   case round =>
    clear hw2; obtain ⟨j', n2, rfl, hjj, hij2, hw2, hsd⟩ := hrel; have hcw : ∀ t, t < d.size → wr.cell? ⟨blk, off + t, none⟩ = some (.int K (Gk t)) := fun t ht => by rw [hw2]; exact hc t ht
    have HW2 : Hid (wr = W1.drewN n2) := hw2; clear hw2
    by_cases hle2 : i' ≤ j'
    ·exfalso; omega      -- the upward scan has run past j, and j' ≤ j
    ·gi_wp2_with fail
     gi_big_quiet_th_o (first | (gi_at_fn (ρ.f 16); refine CallsIn.quiet_of_same (AnyU.cmp_Less_intIn { Ly with } D _ _ _)))
     have hj2 : Hid (j' = Sort.scanDown (fun x => !Sort.ltInt x dk[a]!) dk i' j) := (scanDown_end (fun x => !Sort.ltInt x dk[a]!) dk i' j' (Or.inl hle2)).symm.trans hsd.out
     clear hcw hsd; have hw3 : wr.drewN nq = W1.drewN (n2 + nq) := by rw [HW2.out, World.drewN_drewN]
     generalize wr.drewN nq = W3 at hw3 ⊢; have hc3 : ∀ t, t < d.size → W3.cell? ⟨blk, off + t, none⟩ = some (.int K (Gk t)) := fun t ht => by rw [hw3]; exact hc t ht
     have hf3 : ∀ t, t < d.size → W3.frozen? ⟨blk, off + t, none⟩ = false := fun t ht => by rw [hw3]; exact hf t ht
     have HW3 : Hid (W3 = W1.drewN (n2 + nq)) := hw3; clear hw3; obtain ⟨v3, hy3⟩ := cell?_setCell_some (w := W3) (p := ⟨blk, off + j', none⟩) (x := .int K (Gk a)) (q := ⟨blk, off + a, none⟩) (hc3 a (by omega))
     have hlj : j' < d.size := by omega
     gi_wp2
     gi_region_o
     all_goals gi_wp2
     all_goals go_ret2
     have e : Sort.partition Sort.ltInt d a b pivot = (j', true, Sort.swp dk j' a) := part_first_break Sort.ltInt d a b pivot HI.out HJ.out HDK.out hi2.out hj2.out (by omega)
     refine ⟨?_, n + (n2 + nq) + 1, ?_⟩
     ·rw [e]; rfl
     ·rw [e, HW3.out, AW.out, World.drewN_drewN, AG.out a, AG.out j']; exact swap_worldC (Value.int K) w blk off dk _ j' a (by omega) (by omega)

theorem AnyU.partitionOrdered_intIn (Ly : LaysU K P ρ) (D : Nat) (blk off cap a b pivot : Nat) (d : Array Int) (w : World) (hH : Holds (Value.int K) w blk off d) (hap : a ≤ pivot) (hpb : pivot < b) (hb : b ≤ d.size) (hsz : d.size < 4611686018427387904) :
 CallsIn (Fence.list [ρ.f 5, ρ.f 7, ρ.f 8, ρ.f 10, ρ.f 11, ρ.f 12, ρ.f 13, ρ.f 14, ρ.f 15, ρ.f 16, ρ.f 17, ρ.f 18, ρ.f 20, ρ.f 30, ρ.f 31, ρ.f 32, ρ.f 33, ρ.f 34, ρ.f 35, ρ.f 40] (some D)) 2 P (ρ.f 18) #[.slice (some ⟨blk, off, none⟩) d.size cap, .int .i64 a, .int .i64 b, .int .i64 pivot] w fun e w' =>
  e = .returned (.tuple #[.int .i64 (Sort.partition Sort.ltInt d a b pivot).1, .bool (Sort.partition Sort.ltInt d a b pivot).2.1]) ∧ ∃ n, w' = putRow (Value.int K) (Sort.ahead w n) blk off (Sort.partition Sort.ltInt d a b pivot).2.2 :=
 (AnyU.partition_intIn { Ly with } D blk off cap a b pivot d w hH hap hpb hb hsz).mono fun _ _ ⟨he, n, hw⟩ => ⟨he, n, hw⟩
end
end Go.Proofs.YtboegjdkedjhcaaGreatDoor
