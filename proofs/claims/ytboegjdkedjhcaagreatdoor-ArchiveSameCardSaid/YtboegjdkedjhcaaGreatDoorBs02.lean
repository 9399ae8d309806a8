/- A map with string keys as a function from texts to values, over the kit's word ownsMap. No program in sight. slices.Sort at a row of integers of any kind: SortU (the worked proofs at int64, turned to a kind. -/
import Derived.WalkKit
import Derived.WalkSpells
import Derived.Maps.OwnSet
import Derived.Maps.Views
import Derived.StringKeys
import Derived.Shelf.SlLaysM
import Derived.Sort.Walk0
import Derived.OwnWalkIn
import Derived.TacticsInMore
import Derived.RegionIn
import Derived.LoopNIn
import Derived.LoopIn
import Derived.Sort.CutIn
import Derived.Sort.QuietIn
import Derived.Sort.AtCallIn
import Derived.Shelf.RegionOpen
import Derived.Shelf.AbstractIn
import Derived.Sort.WalkA
import Derived.Sort.BigQuietIn
namespace Go.Proofs.YtboegjdkedjhcaaGreatDoor
section
open Go.RowKit Go.Maps Go.WideMaps
def mapR (v : Value) : Option (DataW Value × List MemPlace) := some (.held v, [])
def MapFn (P : Program) (k : TypeId) (w : World) (b n : Nat) (f : List UInt8 → Option Value) : Prop :=
 ∃ D : DataW Value, w.ownsMap P k mapR b n D ∧ ∀ l, (∀ v, f l = some v → ∀ z, D.atKey (.string l) z = .held v) ∧ (f l = none → ∀ z, D.atKey (.string l) z = z)
section
variable {P : Program} {k : TypeId} {w : World} {b n : Nat} {f : List UInt8 → Option Value}
theorem MapFn.made (P : Program) (k : TypeId) (w : World) : MapFn P k (w.alloc (.map #[] 0)) w.heap.size 0 (fun _ => none) :=
 ⟨_, World.ownsMap_made w P k mapR, fun _ => ⟨fun _ h => (by cases h), fun _ _ => rfl⟩⟩
theorem MapFn.lt (h : MapFn P k w b n f) : b < w.heap.size := by obtain ⟨D, hD, _⟩ := h; exact hD.lt
theorem MapFn.kept {w' : World} (h : MapFn P k w b n f) (hb : w'.heap[b]? = w.heap[b]?) : MapFn P k w' b n f := by
 obtain ⟨D, ⟨es, clock, h1, h2⟩, hf⟩ := h; exact ⟨D, ⟨es, clock, hb.trans h1, h2⟩, hf⟩
theorem MapFn.below {w' : World} {B : Nat} (h : MapFn P k w b n f) (hb : Below B w w') (hB : b < B) : MapFn P k w' b n f := h.kept (hb.block b hB)
theorem MapFn.alloc (h : MapFn P k w b n f) (o : Obj) : MapFn P k (w.alloc o) b n f := h.kept (Below.heap_alloc w o b h.lt)
theorem MapFn.drew (h : MapFn P k w b n f) : MapFn P k w.drew b n f := h.kept rfl
theorem MapFn.mono (h : MapFn P k w b n f) {n' : Nat} (hn : n ≤ n') : MapFn P k w b n' f := by
 obtain ⟨D, hD, hf⟩ := h; exact ⟨D, hD.mono hn, hf⟩
theorem MapFn.setCell (h : MapFn P k w b n f) {a : Addr} (ha : b ≠ a.block) (u : Value) : MapFn P k (w.setCell a u) b n f := h.kept (Below.heap_setCell w a u b ha)
theorem MapFn.grown {w' : World} {r : Nat} (h : MapFn P k w b n f) (hg : w.grownBy w' (some r)) (hne : b ≠ r) : MapFn P k w' b n f := h.kept (hg.block b h.lt (by simpa using hne))
theorem MapFn.look {t e : TypeId} (h : MapFn P k w b n f) (K : Keyed P k) (ht : P.underlying t = some (.map k e)) (hk : P.underlying k = some .string) {z : Value} (hz : (zeroValue e).run P w = .ok z w) {s : ByteArray} (hs : s.size ≤ maxLen) :
 (Instr.lookup t (.map (some b)) (.string s) false).run P w = .ok ((f s.data.toList).getD z) w := by
 obtain ⟨D, hD, hf⟩ := h; obtain ⟨v, ps, hrun, hR⟩ := hD.lookup K ht hz (zd := .held z) (zp := []) rfl (keyOf_string_mk hk hs); rw [hrun]; obtain ⟨h1, h2⟩ := hf s.data.toList; cases hfs : f s.data.toList with
 | none =>
   rw [h2 hfs] at hR; simp [mapR] at hR; rw [hR.1]; rfl
 | some u =>
   rw [h1 u hfs] at hR; simp [mapR] at hR; rw [hR.1]; rfl
theorem MapFn.look_ok {t e : TypeId} (h : MapFn P k w b n f) (K : Keyed P k) (ht : P.underlying t = some (.map k e)) (hk : P.underlying k = some .string) {z : Value} (hz : (zeroValue e).run P w = .ok z w) {s : ByteArray} (hs : s.size ≤ maxLen) :
 (Instr.lookup t (.map (some b)) (.string s) true).run P w = .ok (.tuple #[(f s.data.toList).getD z, .bool (f s.data.toList).isSome]) w := by
 obtain ⟨D, hD, hf⟩ := h; obtain ⟨v, ps, hrun, hR⟩ := hD.look_ok K ht hz (zd := .held z) (zp := []) rfl (keyOf_string_mk hk hs); rw [hrun]; obtain ⟨h1, h2⟩ := hf s.data.toList; cases hfs : f s.data.toList with
 | none =>
   rw [Maps.has_false_of_atKey (h2 hfs)]; rw [h2 hfs] at hR; simp [mapR] at hR; rw [hR.1]; rfl
 | some u =>
   rw [Maps.has_true_of_atKey (h1 u hfs)]; rw [h1 u hfs] at hR; simp [mapR] at hR; rw [hR.1]; rfl
theorem MapFn.put {t e : TypeId} (h : MapFn P k w b n f) (K : Keyed P k) (ht : P.underlying t = some (.map k e)) (hk : P.underlying k = some .string) (hn : n < maxLen) {s : ByteArray} (hs : s.size ≤ maxLen) (v : Value) :
 ∃ w', (Instr.mapUpdate t (.map (some b)) (.string s) v).run P w = .ok () w' ∧ MapFn P k w' b (n + 1) (fun l => if l = s.data.toList then some v else f l) ∧ w.grownBy w' (some b) := by
 obtain ⟨D, hD, hf⟩ := h; obtain ⟨w', hrun, hD', hg⟩ := hD.update K ht hn (keyOf_string_mk hk hs) (val := v) (d := .held v) (ps := []) rfl; refine ⟨w', hrun, ⟨_, hD', fun l => ?_⟩, hg⟩
 obtain ⟨h1, h2⟩ := hf l
 by_cases hl : l = s.data.toList
 ·subst hl; refine ⟨fun u hu z => ?_, fun hu => by simp at hu⟩
  simp at hu; subst hu; exact Maps.atKey_put_same hD.isMap (by simp [WideAt.IsKeyLit]) _ _
 ·have hne : (Lit.string l) ≠ .string s.data.toList := fun e => hl (by cases e; rfl)
  refine ⟨fun u hu z => ?_, fun hu z => ?_⟩
  ·rw [Maps.atKey_put_other hne]; simp [hl] at hu; exact h1 u hu z
  ·rw [Maps.atKey_put_other hne]; simp [hl] at hu; exact h2 hu z
end
theorem cell_grown {w w' : World} {b o r : Nat} {v : Value} (hg : w.grownBy w' (some r)) (hlt : b < w.heap.size) (hne : b ≠ r) (h : w.cell? ⟨b, o, none⟩ = some v) : w'.cell? ⟨b, o, none⟩ = some v := by
 rw [World.cell?_of_block (w := w) (a := ⟨b, o, none⟩) (hg.block b hlt (by simpa using hne))]; exact h
theorem wpList_look {P : Program} (w : World) {ops : Array Oper} {rest : List Oper} {o : Oper} {a : Act} {Q : Exit → Act → World → Prop} {b n : Nat} {f : List UInt8 → Option Value}
 (hg : o.guard = none) (m x : Operand) (t : TypeId) (hop : o.op = Op.lookup t m x false)
 (k e : TypeId) (K : Keyed P k) (ht : P.underlying t = some (.map k e)) (hk : P.underlying k = some .string) {z : Value} (hz : (zeroValue e).run P w = .ok z w)
 (hm : a.eval m = .map (some b)) (hown : MapFn P k w b n f) (s : ByteArray) (hx : a.eval x = .string s) (hs : s.size ≤ maxLen) {v : Value} (hv : (f s.data.toList).getD z = v)
 (hK : wpList P ops Q rest (a.put o.dst v) w) :
 wpList P ops Q (o :: rest) a w := by
 refine wpList_plain hg fun K' hK' => ?_
 have hrun := hown.look K ht hk hz hs; rw [hv] at hrun; unfold Oper.wp; simp [execOp, hop, hm, hx, hrun, Result.andThen]; exact hK' _ _ hK
theorem wpList_look_ok {P : Program} (w : World) {ops : Array Oper} {rest : List Oper} {o : Oper} {a : Act} {Q : Exit → Act → World → Prop} {b n : Nat} {f : List UInt8 → Option Value}
 (hg : o.guard = none) (m x : Operand) (t : TypeId) (hop : o.op = Op.lookup t m x true)
 (k e : TypeId) (K : Keyed P k) (ht : P.underlying t = some (.map k e)) (hk : P.underlying k = some .string) {z : Value} (hz : (zeroValue e).run P w = .ok z w)
 (hm : a.eval m = .map (some b)) (hown : MapFn P k w b n f) (s : ByteArray) (hx : a.eval x = .string s) (hs : s.size ≤ maxLen) {v : Value} (hv : (f s.data.toList).getD z = v) {is : Bool} (hi : (f s.data.toList).isSome = is)
 (hK : wpList P ops Q rest (a.put o.dst (.tuple #[v, .bool is])) w) :
 wpList P ops Q (o :: rest) a w := by
 refine wpList_plain hg fun K' hK' => ?_
 have hrun := hown.look_ok K ht hk hz hs; rw [hv, hi] at hrun; unfold Oper.wp; simp [execOp, hop, hm, hx, hrun, Result.andThen]; exact hK' _ _ hK
theorem wpList_put {P : Program} (w : World) {ops : Array Oper} {rest : List Oper} {o : Oper} {a : Act} {Q : Exit → Act → World → Prop} {b n : Nat} {f : List UInt8 → Option Value}
 (hg : o.guard = none) (m x v : Operand) (t : TypeId) (hop : o.op = Op.mapUpdate t m x v)
 (k e : TypeId) (K : Keyed P k) (ht : P.underlying t = some (.map k e)) (hk : P.underlying k = some .string)
 (hm : a.eval m = .map (some b)) (hown : MapFn P k w b n f) (hn : n < maxLen) (s : ByteArray) (val : Value) (hx : a.eval x = .string s) (hv : a.eval v = val) (hs : s.size ≤ maxLen)
 (hK : ∀ w', MapFn P k w' b (n + 1) (fun l => if l = s.data.toList then some val else f l) → w.grownBy w' (some b) → wpList P ops Q rest (a.put o.dst undef) w') :
 wpList P ops Q (o :: rest) a w := by
 refine wpList_plain hg fun K' hK' => ?_
 obtain ⟨w', hrun, r1, r2⟩ := hown.put K ht hk hn hs val; unfold Oper.wp; simp [execOp, hop, hm, hx, hv, hrun, Result.andThen]; exact hK' _ _ (hK w' r1 r2)
end
section
open Go.Shelf Go.Sort Go.RowKit
variable {P : Program} {ρ : Ren} {K : IntKind}
structure LaysU (K : IntKind) (P : Program) (ρ : Ren) : Prop where
 mixed : P.follows .mixedOrders = true
 f5 : Bears P (ρ.f 5) (SlBodyM.n5 ρ)
 f7 : Bears P (ρ.f 7) (SlBodyM.n7 ρ)
 f8 : P.funcs[ρ.f 8]? = some (SlBodyM.n8 ρ)
 f10 : Bears P (ρ.f 10) (SlBodyM.n10 ρ)
 f11 : Bears P (ρ.f 11) (SlBodyM.n11 ρ)
 f12 : Bears P (ρ.f 12) (SlBodyM.n12 ρ)
 f13 : Bears P (ρ.f 13) (SlBodyM.n13 ρ)
 f14 : Bears P (ρ.f 14) (SlBodyM.n14 ρ)
 f15 : Bears P (ρ.f 15) (SlBodyM.n15 ρ)
 f16 : Bears P (ρ.f 16) (SlBodyM.n16 ρ)
 f17 : Bears P (ρ.f 17) (SlBodyM.n17 ρ)
 f18 : Bears P (ρ.f 18) (SlBodyM.n18 ρ)
 f19 : P.funcs[ρ.f 19]? = some (SlBodyM.n19 ρ)
 f20 : P.funcs[ρ.f 20]? = some (SlBodyM.n20 ρ)
 f30 : Bears P (ρ.f 30) (SlBodyM.n30 ρ)
 f31 : P.funcs[ρ.f 31]? = some (SlBodyM.n31 ρ)
 f32 : P.funcs[ρ.f 32]? = some (SlBodyM.n32 ρ)
 f33 : Bears P (ρ.f 33) (SlBodyM.n33 ρ)
 f34 : Bears P (ρ.f 34) (SlBodyM.n34 ρ)
 f35 : Bears P (ρ.f 35) (SlBodyM.n35 ρ)
 f40 : Bears P (ρ.f 40) (SlBodyM.n40 ρ)
 t0 : P.underlying (ρ.t 0) = some (TypeDesc.tuple #[])
 a0 : ∀ w, (isAgg (ρ.t 0)).run P w = .ok false w
 z0 : ∀ w, (Go.sizeOf (ρ.t 0)).run P w = .ok 1 w
 v0 : ∀ w, (zeroValue (ρ.t 0)).run P w = .ok (Value.tuple #[]) w
 t3 : P.underlying (ρ.t 3) = some (TypeDesc.int IntKind.i64)
 a3 : ∀ w, (isAgg (ρ.t 3)).run P w = .ok false w
 z3 : ∀ w, (Go.sizeOf (ρ.t 3)).run P w = .ok 1 w
 v3 : ∀ w, (zeroValue (ρ.t 3)).run P w = .ok (Value.int IntKind.i64 0) w
 t4 : P.underlying (ρ.t 4) = some (TypeDesc.bool)
 a4 : ∀ w, (isAgg (ρ.t 4)).run P w = .ok false w
 z4 : ∀ w, (Go.sizeOf (ρ.t 4)).run P w = .ok 1 w
 v4 : ∀ w, (zeroValue (ρ.t 4)).run P w = .ok (Value.bool false) w
 t5 : P.underlying (ρ.t 5) = some (TypeDesc.int IntKind.u8)
 a5 : ∀ w, (isAgg (ρ.t 5)).run P w = .ok false w
 z5 : ∀ w, (Go.sizeOf (ρ.t 5)).run P w = .ok 1 w
 v5 : ∀ w, (zeroValue (ρ.t 5)).run P w = .ok (Value.int IntKind.u8 0) w
 t9 : P.underlying (ρ.t 9) = some (TypeDesc.string)
 a9 : ∀ w, (isAgg (ρ.t 9)).run P w = .ok false w
 z9 : ∀ w, (Go.sizeOf (ρ.t 9)).run P w = .ok 1 w
 v9 : ∀ w, (zeroValue (ρ.t 9)).run P w = .ok (Value.string { data := #[] }) w
 t22 : P.underlying (ρ.t 22) = some (TypeDesc.slice (ρ.t 25))
 a22 : ∀ w, (isAgg (ρ.t 22)).run P w = .ok false w
 z22 : ∀ w, (Go.sizeOf (ρ.t 22)).run P w = .ok 1 w
 v22 : ∀ w, (zeroValue (ρ.t 22)).run P w = .ok (Value.slice none 0 0) w
 t23 : P.underlying (ρ.t 23) = some (TypeDesc.slice (ρ.t 25))
 a23 : ∀ w, (isAgg (ρ.t 23)).run P w = .ok false w
 z23 : ∀ w, (Go.sizeOf (ρ.t 23)).run P w = .ok 1 w
 v23 : ∀ w, (zeroValue (ρ.t 23)).run P w = .ok (Value.slice none 0 0) w
 t25 : P.underlying (ρ.t 25) = some (TypeDesc.int K)
 a25 : ∀ w, (isAgg (ρ.t 25)).run P w = .ok false w
 z25 : ∀ w, (Go.sizeOf (ρ.t 25)).run P w = .ok 1 w
 v25 : ∀ w, (zeroValue (ρ.t 25)).run P w = .ok (Value.int K 0) w
 t32 : P.underlying (ρ.t 32) = some (TypeDesc.int IntKind.u64)
 a32 : ∀ w, (isAgg (ρ.t 32)).run P w = .ok false w
 z32 : ∀ w, (Go.sizeOf (ρ.t 32)).run P w = .ok 1 w
 v32 : ∀ w, (zeroValue (ρ.t 32)).run P w = .ok (Value.int IntKind.u64 0) w
 t35 : P.underlying (ρ.t 35) = some (TypeDesc.int IntKind.i64)
 a35 : ∀ w, (isAgg (ρ.t 35)).run P w = .ok false w
 z35 : ∀ w, (Go.sizeOf (ρ.t 35)).run P w = .ok 1 w
 v35 : ∀ w, (zeroValue (ρ.t 35)).run P w = .ok (Value.int IntKind.i64 0) w
 t36 : P.underlying (ρ.t 36) = some (TypeDesc.tuple #[ρ.t 3, ρ.t 35])
 a36 : ∀ w, (isAgg (ρ.t 36)).run P w = .ok false w
 z36 : ∀ w, (Go.sizeOf (ρ.t 36)).run P w = .ok 1 w
 v36 : ∀ w, (zeroValue (ρ.t 36)).run P w = .ok (Value.tuple #[Value.int IntKind.i64 0, Value.int IntKind.i64 0]) w
 t41 : P.underlying (ρ.t 41) = some (TypeDesc.tuple #[ρ.t 3, ρ.t 4])
 a41 : ∀ w, (isAgg (ρ.t 41)).run P w = .ok false w
 z41 : ∀ w, (Go.sizeOf (ρ.t 41)).run P w = .ok 1 w
 v41 : ∀ w, (zeroValue (ρ.t 41)).run P w = .ok (Value.tuple #[Value.int IntKind.i64 0, Value.bool false]) w
 t44 : P.underlying (ρ.t 44) = some (TypeDesc.int IntKind.u32)
 a44 : ∀ w, (isAgg (ρ.t 44)).run P w = .ok false w
 z44 : ∀ w, (Go.sizeOf (ρ.t 44)).run P w = .ok 1 w
 v44 : ∀ w, (zeroValue (ρ.t 44)).run P w = .ok (Value.int IntKind.u32 0) w
 t46 : P.underlying (ρ.t 46) = some (TypeDesc.int IntKind.u64)
 a46 : ∀ w, (isAgg (ρ.t 46)).run P w = .ok false w
 z46 : ∀ w, (Go.sizeOf (ρ.t 46)).run P w = .ok 1 w
 v46 : ∀ w, (zeroValue (ρ.t 46)).run P w = .ok (Value.int IntKind.u64 0) w
 t53 : P.underlying (ρ.t 53) = some (TypeDesc.int IntKind.u64)
 a53 : ∀ w, (isAgg (ρ.t 53)).run P w = .ok false w
 z53 : ∀ w, (Go.sizeOf (ρ.t 53)).run P w = .ok 1 w
 v53 : ∀ w, (zeroValue (ρ.t 53)).run P w = .ok (Value.int IntKind.u64 0) w
 t57 : P.underlying (ρ.t 57) = some (TypeDesc.pointer (ρ.t 3))
 a57 : ∀ w, (isAgg (ρ.t 57)).run P w = .ok false w
 z57 : ∀ w, (Go.sizeOf (ρ.t 57)).run P w = .ok 1 w
 v57 : ∀ w, (zeroValue (ρ.t 57)).run P w = .ok (Value.pointer none) w
 t63 : P.underlying (ρ.t 63) = some (TypeDesc.pointer (ρ.t 53))
 a63 : ∀ w, (isAgg (ρ.t 63)).run P w = .ok false w
 z63 : ∀ w, (Go.sizeOf (ρ.t 63)).run P w = .ok 1 w
 v63 : ∀ w, (zeroValue (ρ.t 63)).run P w = .ok (Value.pointer none) w
 t64 : P.underlying (ρ.t 64) = some (TypeDesc.tuple #[ρ.t 3, ρ.t 3])
 a64 : ∀ w, (isAgg (ρ.t 64)).run P w = .ok false w
 z64 : ∀ w, (Go.sizeOf (ρ.t 64)).run P w = .ok 1 w
 v64 : ∀ w, (zeroValue (ρ.t 64)).run P w = .ok (Value.tuple #[Value.int IntKind.i64 0, Value.int IntKind.i64 0]) w
set_option maxHeartbeats 1000000 in
theorem AnyU.cmp_isNaN_intIn (Ly : LaysU K P ρ) (D : Nat) (x : Int) (w : World) : CallsIn (Fence.list [ρ.f 5, ρ.f 7, ρ.f 8, ρ.f 10, ρ.f 11, ρ.f 12, ρ.f 13, ρ.f 14, ρ.f 15, ρ.f 16, ρ.f 17, ρ.f 18, ρ.f 20, ρ.f 30, ρ.f 31, ρ.f 32, ρ.f 33, ρ.f 34, ρ.f 35, ρ.f 40] (some D)) 0 P (ρ.f 35) #[.int K x] w fun e w' => e = .returned (.bool false) ∧ w' = w := by
 have mixed := Ly.mixed; have t4 := Ly.t4; have a4 := Ly.a4; have z4 := Ly.z4; have v4 := Ly.v4; have t25 := Ly.t25; have a25 := Ly.a25; have z25 := Ly.z25; have v25 := Ly.v25; obtain ⟨_, _, FG⟩ := Ly.f35
 gi_enter FG, SlBodyM.n35_ntmps ρ
 gi_wp2
 go_ret; exact ⟨by simp, rfl⟩

set_option maxHeartbeats 1000000 in
theorem AnyU.cmp_Less_intIn (Ly : LaysU K P ρ) (D : Nat) (x y : Int) (w : World) : CallsIn (Fence.list [ρ.f 5, ρ.f 7, ρ.f 8, ρ.f 10, ρ.f 11, ρ.f 12, ρ.f 13, ρ.f 14, ρ.f 15, ρ.f 16, ρ.f 17, ρ.f 18, ρ.f 20, ρ.f 30, ρ.f 31, ρ.f 32, ρ.f 33, ρ.f 34, ρ.f 35, ρ.f 40] (some D)) 1 P (ρ.f 16) #[.int K x, .int K y] w fun e w' => e = .returned (.bool (Sort.ltInt x y)) ∧ w' = w := by
 have mixed := Ly.mixed; have t4 := Ly.t4; have a4 := Ly.a4; have z4 := Ly.z4; have v4 := Ly.v4; have t25 := Ly.t25; have a25 := Ly.a25; have z25 := Ly.z25; have v25 := Ly.v25; have e215 : ∀ args w, (callFunc (ρ.f 35) args).run P w = .ok (.enter (ρ.f 35) args) w := Ly.f35.enters rfl; obtain ⟨_, _, FG⟩ := Ly.f16
 gi_enter FG, SlBodyM.n16_ntmps ρ
 gi_wp2_with (gi_at_fn (ρ.f 35); refine (AnyU.cmp_isNaN_intIn { Ly with } D _ _).mono ?_; rintro e w' ⟨rfl, rfl⟩)
 go_ret; exact ⟨rfl, rfl⟩
end
section
open Go.Shelf Go.Sort Go.RowKit
variable {P : Program} {ρ : Ren} {K : IntKind}
open Go.RowKit Go.Sort
section
variable {α : Type} [Inhabited α] (lt : α → α → Bool)
end

section
variable {α : Type} [Inhabited α] (enc : α → Value)
end

set_option maxHeartbeats 32000000 in
set_option maxRecDepth 1000000 in
theorem AnyU.insertionSort_intIn (Ly : LaysU K P ρ) (D : Nat) (blk off cap a b : Nat) (d : Array Int) (w : World) (hH : Holds (Value.int K) w blk off d) (hab : a ≤ b) (hb : b ≤ d.size) (hsz : d.size < 4611686018427387904) :
 CallsIn (Fence.list [ρ.f 5, ρ.f 7, ρ.f 8, ρ.f 10, ρ.f 11, ρ.f 12, ρ.f 13, ρ.f 14, ρ.f 15, ρ.f 16, ρ.f 17, ρ.f 18, ρ.f 20, ρ.f 30, ρ.f 31, ρ.f 32, ρ.f 33, ρ.f 34, ρ.f 35, ρ.f 40] (some D)) 2 P (ρ.f 10) #[.slice (some ⟨blk, off, none⟩) d.size cap, .int .i64 a, .int .i64 b] w fun e w' =>
  e = .returned (.tuple #[]) ∧ ∃ n, w' = putRow (Value.int K) (Sort.ahead w n) blk off (Sort.insertionSort ltInt d a b) := by
 have mixed := Ly.mixed; have t0 := Ly.t0; have a0 := Ly.a0; have z0 := Ly.z0; have v0 := Ly.v0; have t3 := Ly.t3; have a3 := Ly.a3; have z3 := Ly.z3; have v3 := Ly.v3; have t4 := Ly.t4; have a4 := Ly.a4; have z4 := Ly.z4; have v4 := Ly.v4; have t22 := Ly.t22; have a22 := Ly.a22; have z22 := Ly.z22; have v22 := Ly.v22; have t25 := Ly.t25; have a25 := Ly.a25; have z25 := Ly.z25; have v25 := Ly.v25; have e216 : ∀ args w, (callFunc (ρ.f 16) args).run P w = .ok (.enter (ρ.f 16) args) w := Ly.f16.enters rfl; obtain ⟨_, _, FG⟩ := Ly.f10
 gi_enter FG, SlBodyM.n10_ntmps ρ
 gi_wp2
 gi_loopw [6] (fun vi wr => ∃ (i n : Nat) (dk : Array Int), vi = .int .i64 i ∧ a < i ∧ i ≤ b + 1 ∧ dk.size = d.size ∧ wr = putRow (Value.int K) (Sort.ahead w n) blk off dk ∧
  insOuter ltInt a b i dk = insOuter ltInt a b (a + 1) d) (fun vi _ => b + 1 - (intOf vi).toNat)
 case atStart => exact ⟨a + 1, 0, d, by go_num, by omega, by omega, rfl, (putRow_self _ _ _ _ _ hH).symm, rfl⟩
 case round =>
  obtain ⟨i, n, dk, rfl, hai, hib, hsk, hwr, hO⟩ := hrel; have HO : Hid (insOuter ltInt a b i dk = insOuter ltInt a b (a + 1) d) := hO; clear hO
  gi_wp2
  ·-- i < b: the inner loop
   gi_loopw [7] (fun vj wr2 => ∃ (j m : Nat) (dj : Array Int), vj = .int .i64 j ∧ a ≤ j ∧ j ≤ i ∧ dj.size = d.size ∧ wr2 = putRow (Value.int K) (Sort.ahead w m) blk off dj ∧
    insInner ltInt a j dj = insInner ltInt a i dk) (fun vj _ => (intOf vj).toNat)
   case atStart => exact ⟨i, n, dk, rfl, by omega, Nat.le_refl _, hsk, rfl, rfl⟩
   case round =>
    obtain ⟨j, m, dj, rfl, haj, hji, hsj, hw2, hI⟩ := hrel; have hlt : i < b := by assumption
    obtain ⟨G, hG⟩ : ∃ G : Nat → Int, ∀ t, G t = dj[t]! := ⟨fun t => dj[t]!, fun _ => rfl⟩
    have hcw : ∀ t, t < d.size → wr.cell? ⟨blk, off + t, none⟩ = some (.int K (G t)) := fun t ht => by
     rw [hw2, hG]; exact cell?_putRow _ _ _ _ d dj (holds_ahead _ _ _ _ _ _ hH) hsj t (by omega)
    have hfw : ∀ t, t < d.size → wr.frozen? ⟨blk, off + t, none⟩ = false := fun t ht => by
     rw [hw2, frozen?_putRow]; exact ((holds_ahead _ _ m _ _ _ hH) t ht).2
    have HW : Hid (wr = putRow (Value.int K) (Sort.ahead w m) blk off dj) := hw2; have HG : Hid (∀ t, G t = dj[t]!) := hG; have HI : Hid (insInner ltInt a j dj = insInner ltInt a i dk) := hI; clear hw2 hG hI hH
    have out : (j ≤ a ∨ ltInt dj[j]! dj[j - 1]! = false) → ∀ q, ∃ i' n' dk', Value.int .i64 ((i : Int) + 1) = .int .i64 (i' : Nat) ∧ a < i' ∧ i' ≤ b + 1 ∧ dk'.size = d.size ∧
     wr.drewN q = putRow (Value.int K) (Sort.ahead w n') blk off dk' ∧ insOuter ltInt a b i' dk' = insOuter ltInt a b (a + 1) d := fun hs q =>
     ⟨i + 1, m + q, dj, by go_num, by omega, by omega, hsj, by rw [HW.out]; exact putRow_drewN _ _ _ _ _ _ _,
      by rw [← HO.out, insOuter_go _ _ _ _ _ hlt, ← HI.out, insInner_stop _ _ _ _ hs]⟩
    have OUT : Hid _ := out; clear out
    gi_wp2
    by_cases hja : a < j
    ·gi_big_quiet_th_o (first | (gi_at_fn (ρ.f 16); refine CallsIn.quiet_of_same (AnyU.cmp_Less_intIn { Ly with } D _ _ _)))
     gi_wp2
     ·-- Less: the swap, j--
      have hl : ltInt (G j) (G (j - 1)) = true := by assumption
      gi_region_o
      all_goals gi_wp2
      go_roundw
      case rel =>
       refine ⟨j - 1, m + (nq + 1), swp dj j (j - 1), by congr 1; omega, by omega, by omega, by rw [size_swp]; exact hsj, ?_, ?_⟩
       ·rw [HW.out, HG.out, HG.out]; exact swap_worldA _ w m (nq + 1) blk off dj j (j - 1) (by omega) (by omega)
       ·rw [← HI.out, insInner_go ltInt a j dj hja (by rw [← HG.out, ← HG.out]; exact hl)]
      case measure => simp [intOf]; omega
     ·-- not Less
      have hl : ltInt (G j) (G (j - 1)) = false := by assumption
      go_roundw
      case rel => exact OUT.out (Or.inr (by rw [← HG.out, ← HG.out]; exact hl)) nq
      case measure => simp [intOf]; omega
    ·gi_big_quiet_th_o (first | (gi_at_fn (ρ.f 16); refine CallsIn.quiet_of_same (AnyU.cmp_Less_intIn { Ly with } D _ _ _)))
     gi_wp2
     go_roundw
     case rel => exact OUT.out (Or.inl (by omega)) nq
     case measure => simp [intOf]; omega
  ·-- the outer loop is at its end
   have hge : ¬ i < b := by assumption
   go_end0; exact ⟨rfl, n, by unfold Sort.insertionSort; rw [← HO.out, insOuter_stop _ _ _ _ _ hge]⟩
end
end Go.Proofs.YtboegjdkedjhcaaGreatDoor
