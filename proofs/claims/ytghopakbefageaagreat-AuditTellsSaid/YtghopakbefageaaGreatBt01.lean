/- A region that only reads, and whose callees make memory but change nothing that was there: one walk in the order of the text. No program in sight. append onto a row of one's own, as one step of a region that draws its order. No program in sight. slices.Sort at a row of integers of any kind: SortU (the worked proofs at int64, turned to a kind K). -/
import Derived.Deep.QuietTactic
import Derived.BigQuiet
import Derived.WalkKit
import Derived.OwnWalk
import Derived.Maps.AppendAt
import Derived.Deep.RegionLawGrows
import Derived.Shelf.SlLaysM
import Derived.Sort.Walk0
import Derived.OwnWalkIn
import Derived.TacticsInMore
import Derived.RegionIn
import Derived.LoopNIn
import Derived.LoopIn
import Derived.Sort.CutIn
import Derived.Sort.QuietIn
import Derived.Sort.AtCallIn
import Derived.Shelf.RegionOpen
import Derived.Shelf.AbstractIn
namespace Go.Proofs.YtghopakbefageaaGreat
open Go.RowKit
/-- a world that keeps all that w has -/
structure BW (w : World) where
  u : World
  b : Below w.heap.size w u
instance (w : World) : Nonempty (BW w) := ⟨⟨w, Below.refl _ _⟩⟩
instance (w : World) : Inhabited (BW w) := ⟨⟨w, Below.refl _ _⟩⟩
theorem wp_region_below {P : Program} {id : Nat} {Q : Exit → Act → World → Prop} {a : Act} {w : World} {l : List Oper} (hm : P.follows .mixedOrders = true) (hB : Region.lexB .any l.toArray = true)
    (h : wpQuiet P l.toArray (fun w' => ∃ x : BW w, w' = x.u) (fun a' => ∀ w', (∃ x : BW w, w' = x.u) → Q .normal a' w') l a) : (Code.region id l.toArray true).wp P Q a w :=
  wp_region_quiet (C := fun w' => ∃ x : BW w, w' = x.u) hm hB ⟨⟨_, (Below.refl _ _).drew⟩, rfl⟩ (by simpa using h)
/-- a callee that makes memory, in a world of the class -/
theorem calls_below {P : Program} {f : FuncId} {args : Array Value} {w : World} {v : Value} {x : BW w}
    (h : Calls P f args x.u fun e w' => e = .returned v ∧ Below x.u.heap.size x.u w') : Calls P f args x.u fun e w'' => e = .returned v ∧ ∃ y : BW w, w'' = y.u :=
  h.mono fun _ w' ⟨he, hb⟩ => ⟨he, ⟨w', x.b.trans (hb.mono x.b.size)⟩, rfl⟩
theorem bw_of {w w' : World} (h : ∃ x : BW w, w' = x.u) : Below w.heap.size w w' := by obtain ⟨x, rfl⟩ := h; exact x.b
theorem bw_cell {w : World} {b o : Nat} {v : Value} (h0 : b < w.heap.size) (h : w.cell? ⟨b, o, none⟩ = some v) : ∀ x : BW w, x.u.cell? ⟨b, o, none⟩ = some v := fun x => by
  rw [x.b.cell (p := ⟨b, o, none⟩) h0]; exact h
theorem below_drewN {B : Nat} {a w : World} (h : Below B a w) (n : Nat) : Below B a (w.drewN n) := ⟨h.os, h.tape, h.output, h.size, h.block⟩
end Go.Proofs.YtghopakbefageaaGreat
namespace Go.Proofs.YtghopakbefageaaGreat
open Go.RowKit
/-- append onto a row of one's own, as one step of a region that draws -/
theorem step_append_own_at {P : Program} {ops : Array Oper} {o : Oper} {a : Act} {w : World} {K : Act → World → Prop} {Q : Exit → Act → World → Prop} {E : Prop}
    (hg : o.guard = none) (s x : Operand) (t : TypeId) (hop : o.op = Op.call { callee := Callee.builtin Builtin.append, args := #[s, x], argTypes := #[t, t] })
    (base : Nat) (e : TypeId) (i : TypeInfo) (z : Value) (size bytes : Nat) (h1 : P.underlying t = some (.slice e)) (h2 : P.info? e = some i) (h3 : i.zero = some z) (h4 : i.size = size) (h5 : i.bytes = bytes) (h6 : z.cells.size = size) (h7 : 0 < size)
    (v : Value) (n : Nat) (xs : List Value) (hs : a.eval s = v) (hown : w.ownsRow base e size v n xs)
    (ad : Addr) (m c : Nat) (news : List Value) (hx : a.eval x = .slice (some ad) m c) (hn : news.length = m * size) (hc : ∀ j u, news[j]? = some u → w.cell? (ad.add j) = some u) (h1c : ∀ u ∈ news, u.oneCell' = true)
    (b1 : n + m ≤ maxLen) (b2 : (n + m) * bytes ≤ 140737488355328) (hbase : base ≤ w.heap.size)
    (hK : ∀ v' w', w'.ownsRow base e size v' (n + m) (xs ++ news) → w.grownBy w' v.ownBlock → (v'.ownBlock = v.ownBlock ∨ v'.ownBlock = some w.heap.size) → K (a.put o.dst v') w') :
    if Region.wanted o (yielded ops a.tmps) = true then Oper.wp P o a w K Q else E := by
  have hw : Region.wanted o (yielded ops a.tmps) = true := by simp [Region.wanted, hg]
  rw [if_pos hw]
  obtain ⟨v', w', hrun, r1, r2, r3, r4⟩ := run_append_own_at (P := P) w base t o.type e i z size bytes h1 h2 h3 h4 h5 h6 h7 v n xs hown ad m c news hn hc h1c b1 b2 hbase
  unfold Oper.wp
  simp [execOp, hop, resolve, invoke, builtin, hs, hx, hrun, Result.andThen]
  exact hK v' w' r1 r2 r4
theorem run_call_go {P : Program} {w : World} {f : FuncId} {fn : Func} (hf : P.funcs[f]? = some fn) (hn : (fn.name == "runtime.NumGoroutine") = false) (hb : fn.body.isNone = false) (args : Array Value) :
    (callFunc f args).run P w = .ok (.enter f args) w := by
  have hn' : ¬ fn.name = "runtime.NumGoroutine" := by simpa using hn
  cases hbb : fn.body with
  | none => rw [hbb] at hb; cases hb
  | some c => simp [callFunc, go_sem, hf, hn', hbb]
/-- a call of a Go function, as one step of a region that draws -/
theorem step_call {P : Program} {ops : Array Oper} {o : Oper} {a : Act} {w : World} {K : Act → World → Prop} {Q : Exit → Act → World → Prop} {E : Prop}
    (hg : o.guard = none) (f : FuncId) (xs : Array Operand) (ats : Array TypeId) (hop : o.op = Op.call { callee := Callee.value (Operand.func f), args := xs, argTypes := ats })
    {fn : Func} (hf : P.funcs[f]? = some fn) (hn : (fn.name == "runtime.NumGoroutine") = false) (hb : fn.body.isNone = false)
    (vs : Array Value) (hv : xs.map a.eval = vs) {Post : Ending → World → Prop} (hC : Calls P f vs w Post) (hK : ∀ e w', Post e w' → ∃ v, e = .returned v ∧ K (a.put o.dst v) w') :
    if Region.wanted o (yielded ops a.tmps) = true then Oper.wp P o a w K Q else E := by
  have hw : Region.wanted o (yielded ops a.tmps) = true := by simp [Region.wanted, hg]
  rw [if_pos hw]
  obtain ⟨dst, op, ty, pos, after, guard⟩ := o
  simp only at hg hop
  subst hg; subst hop; subst hv
  unfold Oper.wp
  rw [execOp_call_go]
  have e : (#[] ++ xs.map a.eval ++ #[] : Array Value) = xs.map a.eval := by simp
  rw [e, run_call_go hf hn hb, Oper.upon_enter]
  refine Calls.mono hC fun e w' hp => ?_
  obtain ⟨v, rfl, hk⟩ := hK e w' hp
  exact hk
end Go.Proofs.YtghopakbefageaaGreat
namespace Go.Proofs.YtghopakbefageaaGreat
open Go.Shelf Go.Sort Go.RowKit
variable {P : Program} {ρ : Ren} {K : IntKind}
structure LaysU (K : IntKind) (P : Program) (ρ : Ren) : Prop where
  mixed : P.follows .mixedOrders = true
  f5 : Bears P (ρ.f 5) (SlBodyM.n5 ρ)
  f7 : Bears P (ρ.f 7) (SlBodyM.n7 ρ)
  f8 : P.funcs[ρ.f 8]? = some (SlBodyM.n8 ρ)
  f10 : Bears P (ρ.f 10) (SlBodyM.n10 ρ)
  f11 : Bears P (ρ.f 11) (SlBodyM.n11 ρ)
  f12 : Bears P (ρ.f 12) (SlBodyM.n12 ρ)
  f13 : Bears P (ρ.f 13) (SlBodyM.n13 ρ)
  f14 : Bears P (ρ.f 14) (SlBodyM.n14 ρ)
  f15 : Bears P (ρ.f 15) (SlBodyM.n15 ρ)
  f16 : Bears P (ρ.f 16) (SlBodyM.n16 ρ)
  f17 : Bears P (ρ.f 17) (SlBodyM.n17 ρ)
  f18 : Bears P (ρ.f 18) (SlBodyM.n18 ρ)
  f19 : P.funcs[ρ.f 19]? = some (SlBodyM.n19 ρ)
  f20 : P.funcs[ρ.f 20]? = some (SlBodyM.n20 ρ)
  f30 : Bears P (ρ.f 30) (SlBodyM.n30 ρ)
  f31 : P.funcs[ρ.f 31]? = some (SlBodyM.n31 ρ)
  f32 : P.funcs[ρ.f 32]? = some (SlBodyM.n32 ρ)
  f33 : Bears P (ρ.f 33) (SlBodyM.n33 ρ)
  f34 : Bears P (ρ.f 34) (SlBodyM.n34 ρ)
  f35 : Bears P (ρ.f 35) (SlBodyM.n35 ρ)
  f40 : Bears P (ρ.f 40) (SlBodyM.n40 ρ)
  t0 : P.underlying (ρ.t 0) = some (TypeDesc.tuple #[])
  a0 : ∀ w, (isAgg (ρ.t 0)).run P w = .ok false w
  z0 : ∀ w, (Go.sizeOf (ρ.t 0)).run P w = .ok 1 w
  v0 : ∀ w, (zeroValue (ρ.t 0)).run P w = .ok (Value.tuple #[]) w
  t3 : P.underlying (ρ.t 3) = some (TypeDesc.int IntKind.i64)
  a3 : ∀ w, (isAgg (ρ.t 3)).run P w = .ok false w
  z3 : ∀ w, (Go.sizeOf (ρ.t 3)).run P w = .ok 1 w
  v3 : ∀ w, (zeroValue (ρ.t 3)).run P w = .ok (Value.int IntKind.i64 0) w
  t4 : P.underlying (ρ.t 4) = some (TypeDesc.bool)
  a4 : ∀ w, (isAgg (ρ.t 4)).run P w = .ok false w
  z4 : ∀ w, (Go.sizeOf (ρ.t 4)).run P w = .ok 1 w
  v4 : ∀ w, (zeroValue (ρ.t 4)).run P w = .ok (Value.bool false) w
  t5 : P.underlying (ρ.t 5) = some (TypeDesc.int IntKind.u8)
  a5 : ∀ w, (isAgg (ρ.t 5)).run P w = .ok false w
  z5 : ∀ w, (Go.sizeOf (ρ.t 5)).run P w = .ok 1 w
  v5 : ∀ w, (zeroValue (ρ.t 5)).run P w = .ok (Value.int IntKind.u8 0) w
  t9 : P.underlying (ρ.t 9) = some (TypeDesc.string)
  a9 : ∀ w, (isAgg (ρ.t 9)).run P w = .ok false w
  z9 : ∀ w, (Go.sizeOf (ρ.t 9)).run P w = .ok 1 w
  v9 : ∀ w, (zeroValue (ρ.t 9)).run P w = .ok (Value.string { data := #[] }) w
  t22 : P.underlying (ρ.t 22) = some (TypeDesc.slice (ρ.t 25))
  a22 : ∀ w, (isAgg (ρ.t 22)).run P w = .ok false w
  z22 : ∀ w, (Go.sizeOf (ρ.t 22)).run P w = .ok 1 w
  v22 : ∀ w, (zeroValue (ρ.t 22)).run P w = .ok (Value.slice none 0 0) w
  t23 : P.underlying (ρ.t 23) = some (TypeDesc.slice (ρ.t 25))
  a23 : ∀ w, (isAgg (ρ.t 23)).run P w = .ok false w
  z23 : ∀ w, (Go.sizeOf (ρ.t 23)).run P w = .ok 1 w
  v23 : ∀ w, (zeroValue (ρ.t 23)).run P w = .ok (Value.slice none 0 0) w
  t25 : P.underlying (ρ.t 25) = some (TypeDesc.int K)
  a25 : ∀ w, (isAgg (ρ.t 25)).run P w = .ok false w
  z25 : ∀ w, (Go.sizeOf (ρ.t 25)).run P w = .ok 1 w
  v25 : ∀ w, (zeroValue (ρ.t 25)).run P w = .ok (Value.int K 0) w
  t32 : P.underlying (ρ.t 32) = some (TypeDesc.int IntKind.u64)
  a32 : ∀ w, (isAgg (ρ.t 32)).run P w = .ok false w
  z32 : ∀ w, (Go.sizeOf (ρ.t 32)).run P w = .ok 1 w
  v32 : ∀ w, (zeroValue (ρ.t 32)).run P w = .ok (Value.int IntKind.u64 0) w
  t35 : P.underlying (ρ.t 35) = some (TypeDesc.int IntKind.i64)
  a35 : ∀ w, (isAgg (ρ.t 35)).run P w = .ok false w
  z35 : ∀ w, (Go.sizeOf (ρ.t 35)).run P w = .ok 1 w
  v35 : ∀ w, (zeroValue (ρ.t 35)).run P w = .ok (Value.int IntKind.i64 0) w
  t36 : P.underlying (ρ.t 36) = some (TypeDesc.tuple #[ρ.t 3, ρ.t 35])
  a36 : ∀ w, (isAgg (ρ.t 36)).run P w = .ok false w
  z36 : ∀ w, (Go.sizeOf (ρ.t 36)).run P w = .ok 1 w
  v36 : ∀ w, (zeroValue (ρ.t 36)).run P w = .ok (Value.tuple #[Value.int IntKind.i64 0, Value.int IntKind.i64 0]) w
  t41 : P.underlying (ρ.t 41) = some (TypeDesc.tuple #[ρ.t 3, ρ.t 4])
  a41 : ∀ w, (isAgg (ρ.t 41)).run P w = .ok false w
  z41 : ∀ w, (Go.sizeOf (ρ.t 41)).run P w = .ok 1 w
  v41 : ∀ w, (zeroValue (ρ.t 41)).run P w = .ok (Value.tuple #[Value.int IntKind.i64 0, Value.bool false]) w
  t44 : P.underlying (ρ.t 44) = some (TypeDesc.int IntKind.u32)
  a44 : ∀ w, (isAgg (ρ.t 44)).run P w = .ok false w
  z44 : ∀ w, (Go.sizeOf (ρ.t 44)).run P w = .ok 1 w
  v44 : ∀ w, (zeroValue (ρ.t 44)).run P w = .ok (Value.int IntKind.u32 0) w
  t46 : P.underlying (ρ.t 46) = some (TypeDesc.int IntKind.u64)
  a46 : ∀ w, (isAgg (ρ.t 46)).run P w = .ok false w
  z46 : ∀ w, (Go.sizeOf (ρ.t 46)).run P w = .ok 1 w
  v46 : ∀ w, (zeroValue (ρ.t 46)).run P w = .ok (Value.int IntKind.u64 0) w
  t53 : P.underlying (ρ.t 53) = some (TypeDesc.int IntKind.u64)
  a53 : ∀ w, (isAgg (ρ.t 53)).run P w = .ok false w
  z53 : ∀ w, (Go.sizeOf (ρ.t 53)).run P w = .ok 1 w
  v53 : ∀ w, (zeroValue (ρ.t 53)).run P w = .ok (Value.int IntKind.u64 0) w
  t57 : P.underlying (ρ.t 57) = some (TypeDesc.pointer (ρ.t 3))
  a57 : ∀ w, (isAgg (ρ.t 57)).run P w = .ok false w
  z57 : ∀ w, (Go.sizeOf (ρ.t 57)).run P w = .ok 1 w
  v57 : ∀ w, (zeroValue (ρ.t 57)).run P w = .ok (Value.pointer none) w
  t63 : P.underlying (ρ.t 63) = some (TypeDesc.pointer (ρ.t 53))
  a63 : ∀ w, (isAgg (ρ.t 63)).run P w = .ok false w
  z63 : ∀ w, (Go.sizeOf (ρ.t 63)).run P w = .ok 1 w
  v63 : ∀ w, (zeroValue (ρ.t 63)).run P w = .ok (Value.pointer none) w
  t64 : P.underlying (ρ.t 64) = some (TypeDesc.tuple #[ρ.t 3, ρ.t 3])
  a64 : ∀ w, (isAgg (ρ.t 64)).run P w = .ok false w
  z64 : ∀ w, (Go.sizeOf (ρ.t 64)).run P w = .ok 1 w
  v64 : ∀ w, (zeroValue (ρ.t 64)).run P w = .ok (Value.tuple #[Value.int IntKind.i64 0, Value.int IntKind.i64 0]) w
set_option maxHeartbeats 1000000 in
theorem AnyU.cmp_isNaN_intIn (Ly : LaysU K P ρ) (D : Nat) (x : Int) (w : World) : CallsIn (Fence.list [ρ.f 5, ρ.f 7, ρ.f 8, ρ.f 10, ρ.f 11, ρ.f 12, ρ.f 13, ρ.f 14, ρ.f 15, ρ.f 16, ρ.f 17, ρ.f 18, ρ.f 20, ρ.f 30, ρ.f 31, ρ.f 32, ρ.f 33, ρ.f 34, ρ.f 35, ρ.f 40] (some D)) 0 P (ρ.f 35) #[.int K x] w fun e w' => e = .returned (.bool false) ∧ w' = w := by
  have mixed := Ly.mixed
  have t4 := Ly.t4; have a4 := Ly.a4; have z4 := Ly.z4; have v4 := Ly.v4; have t25 := Ly.t25; have a25 := Ly.a25; have z25 := Ly.z25; have v25 := Ly.v25
  obtain ⟨_, _, FG⟩ := Ly.f35
  gi_enter FG, SlBodyM.n35_ntmps ρ
  gi_wp2
  go_ret
  exact ⟨by simp, rfl⟩

set_option maxHeartbeats 1000000 in
theorem AnyU.cmp_Less_intIn (Ly : LaysU K P ρ) (D : Nat) (x y : Int) (w : World) : CallsIn (Fence.list [ρ.f 5, ρ.f 7, ρ.f 8, ρ.f 10, ρ.f 11, ρ.f 12, ρ.f 13, ρ.f 14, ρ.f 15, ρ.f 16, ρ.f 17, ρ.f 18, ρ.f 20, ρ.f 30, ρ.f 31, ρ.f 32, ρ.f 33, ρ.f 34, ρ.f 35, ρ.f 40] (some D)) 1 P (ρ.f 16) #[.int K x, .int K y] w fun e w' => e = .returned (.bool (Sort.ltInt x y)) ∧ w' = w := by
  have mixed := Ly.mixed
  have t4 := Ly.t4; have a4 := Ly.a4; have z4 := Ly.z4; have v4 := Ly.v4; have t25 := Ly.t25; have a25 := Ly.a25; have z25 := Ly.z25; have v25 := Ly.v25
  have e215 : ∀ args w, (callFunc (ρ.f 35) args).run P w = .ok (.enter (ρ.f 35) args) w := Ly.f35.enters rfl
  obtain ⟨_, _, FG⟩ := Ly.f16
  gi_enter FG, SlBodyM.n16_ntmps ρ
  gi_wp2_with (gi_at_fn (ρ.f 35); refine (AnyU.cmp_isNaN_intIn { Ly with } D _ _).mono ?_; rintro e w' ⟨rfl, rfl⟩)
  go_ret
  exact ⟨rfl, rfl⟩
end Go.Proofs.YtghopakbefageaaGreat
