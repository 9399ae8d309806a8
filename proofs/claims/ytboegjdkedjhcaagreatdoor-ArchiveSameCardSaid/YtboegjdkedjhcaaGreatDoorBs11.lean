/- append onto a row of one's own, as one step of a region that draws its order. No program in sight. The walks of cmp.Compare at int, of cmp.Or, and of reach's order. A row of integers of one's own under slices.Sort and. -/
import Derived.WalkKit
import Derived.OwnWalk
import Derived.Maps.AppendAt
import Derived.Deep.RegionLawGrows
import Derived.Test.YtboegjdkedjhcaaGreatDoorBs07
import Derived.Test.YtboegjdkedjhcaaGreatDoorProg
import Derived.Deep.RegionHeld3
import Derived.Sort.Grow
import Derived.Lib.Hide
import Derived.Deep.QuietTactic
import Derived.BigQuiet
import Derived.Outline
import Derived.StillTailTactics
import Derived.Test.YtboegjdkedjhcaaGreatDoorBs04
import Derived.Lib.Builder
import Derived.Lib.SlicesCompact
import Derived.Sort.Row
import Derived.Sort.Walk13
import Derived.Lib.BufferWrite
import Derived.Test.YtboegjdkedjhcaaGreatDoorBs01
import Derived.Test.YtboegjdkedjhcaaGreatDoorRows
import Derived.Laws.IdiomStrings
import Derived.Deep.OwnRows
import Derived.Test.YtboegjdkedjhcaaGreatDoorBs03
import Derived.Maps.Keyed
import Derived.Lib.AppendStr
import Derived.Lib.UnsafeStr
import Derived.Laws.Externs
import Derived.RegionTactic
namespace Go.Proofs.YtboegjdkedjhcaaGreatDoor
set_option maxRecDepth 100000
section
open Go.RowKit
theorem step_append_own_at {P : Program} {ops : Array Oper} {o : Oper} {a : Act} {w : World} {K : Act → World → Prop} {Q : Exit → Act → World → Prop} {E : Prop}
 (hg : o.guard = none) (s x : Operand) (t : TypeId) (hop : o.op = Op.call { callee := Callee.builtin Builtin.append, args := #[s, x], argTypes := #[t, t] })
 (base : Nat) (e : TypeId) (i : TypeInfo) (z : Value) (size bytes : Nat) (h1 : P.underlying t = some (.slice e)) (h2 : P.info? e = some i) (h3 : i.zero = some z) (h4 : i.size = size) (h5 : i.bytes = bytes) (h6 : z.cells.size = size) (h7 : 0 < size)
 (v : Value) (n : Nat) (xs : List Value) (hs : a.eval s = v) (hown : w.ownsRow base e size v n xs)
 (ad : Addr) (m c : Nat) (news : List Value) (hx : a.eval x = .slice (some ad) m c) (hn : news.length = m * size) (hc : ∀ j u, news[j]? = some u → w.cell? (ad.add j) = some u) (h1c : ∀ u ∈ news, u.oneCell' = true)
 (b1 : n + m ≤ maxLen) (b2 : (n + m) * bytes ≤ 140737488355328) (hbase : base ≤ w.heap.size)
 (hK : ∀ v' w', w'.ownsRow base e size v' (n + m) (xs ++ news) → w.grownBy w' v.ownBlock → (v'.ownBlock = v.ownBlock ∨ v'.ownBlock = some w.heap.size) → K (a.put o.dst v') w') :
 if Region.wanted o (yielded ops a.tmps) = true then Oper.wp P o a w K Q else E := by
 have hw : Region.wanted o (yielded ops a.tmps) = true := by simp [Region.wanted, hg]
 rw [if_pos hw]; obtain ⟨v', w', hrun, r1, r2, r3, r4⟩ := run_append_own_at (P := P) w base t o.type e i z size bytes h1 h2 h3 h4 h5 h6 h7 v n xs hown ad m c news hn hc h1c b1 b2 hbase; unfold Oper.wp; simp [execOp, hop, resolve, invoke, builtin, hs, hx, hrun, Result.andThen]; exact hK v' w' r1 r2 r4
theorem run_call_go {P : Program} {w : World} {f : FuncId} {fn : Func} (hf : P.funcs[f]? = some fn) (hn : (fn.name == "runtime.NumGoroutine") = false) (hb : fn.body.isNone = false) (args : Array Value) :
 (callFunc f args).run P w = .ok (.enter f args) w := by
 have hn' : ¬ fn.name = "runtime.NumGoroutine" := by simpa using hn
 cases hbb : fn.body with
 | none => rw [hbb] at hb; cases hb
 | some c => simp [callFunc, go_sem, hf, hn', hbb]
theorem step_call {P : Program} {ops : Array Oper} {o : Oper} {a : Act} {w : World} {K : Act → World → Prop} {Q : Exit → Act → World → Prop} {E : Prop}
 (hg : o.guard = none) (f : FuncId) (xs : Array Operand) (ats : Array TypeId) (hop : o.op = Op.call { callee := Callee.value (Operand.func f), args := xs, argTypes := ats })
 {fn : Func} (hf : P.funcs[f]? = some fn) (hn : (fn.name == "runtime.NumGoroutine") = false) (hb : fn.body.isNone = false)
 (vs : Array Value) (hv : xs.map a.eval = vs) {Post : Ending → World → Prop} (hC : Calls P f vs w Post) (hK : ∀ e w', Post e w' → ∃ v, e = .returned v ∧ K (a.put o.dst v) w') :
 if Region.wanted o (yielded ops a.tmps) = true then Oper.wp P o a w K Q else E := by
 have hw : Region.wanted o (yielded ops a.tmps) = true := by simp [Region.wanted, hg]
 rw [if_pos hw]; obtain ⟨dst, op, ty, pos, after, guard⟩ := o; simp only at hg hop; subst hg; subst hop; subst hv; unfold Oper.wp; rw [execOp_call_go]; have e : (#[] ++ xs.map a.eval ++ #[] : Array Value) = xs.map a.eval := by simp
 rw [e, run_call_go hf hn hb, Oper.upon_enter]; refine Calls.mono hC fun e w' hp => ?_
 obtain ⟨v, rfl, hk⟩ := hK e w' hp; exact hk
end
section
open Go.RowKit Go.Maps Go.WideMaps Go.Sort
theorem grow_three (w : World) (a b c : Obj) : ((w.alloc a).alloc b).drew.alloc c = grow (w.drewN 1) #[a, b, c] := by
 have h : ((grow w #[a]).alloc b).drew.alloc c = grow (grow (grow w.drew #[a]) #[b]) #[c] := by rw [alloc_eq_grow, alloc_eq_grow]; rfl
 rw [alloc_eq_grow w a, h, grow_grow, grow_grow]; rfl
def cmpI (a b : Int) : Int := if a < b then -1 else if b < a then 1 else 0
set_option maxHeartbeats 400000 in
theorem isNaN_any (a : Int) (w : World) : Calls Tryz.prog 107 #[.int .i64 a] w fun e w' => e = .returned (.bool false) ∧ w = w' := by
 go_enter Tryz.func107, Tryz.ntmps107; go_wp2; go_ret; exact ⟨rfl, rfl⟩
set_option maxHeartbeats 400000 in
theorem compare_any (a b : Int) (w : World) : Calls Tryz.prog 68 #[.int .i64 a, .int .i64 b] w fun e w' => e = .returned (.int .i64 (cmpI a b)) ∧ w = w' := by
 have HN := Lib.hid isNaN_any; unfold cmpI
 by_cases h1 : a < b
 ·rw [if_pos h1]; go_enter Tryz.func68, Tryz.ntmps68; go_wp2_with (go_at_call 107; refine (HN.out _ _).mono ?_; rintro e w' ⟨rfl, rfl⟩); go_ret; exact ⟨rfl, rfl⟩
 ·rw [if_neg h1]
  by_cases h2 : b < a
  ·rw [if_pos h2]; go_enter Tryz.func68, Tryz.ntmps68; go_wp2_with (go_at_call 107; refine (HN.out _ _).mono ?_; rintro e w' ⟨rfl, rfl⟩); go_ret; exact ⟨rfl, rfl⟩
  ·rw [if_neg h2]; go_enter Tryz.func68, Tryz.ntmps68; go_wp2_with (go_at_call 107; refine (HN.out _ _).mono ?_; rintro e w' ⟨rfl, rfl⟩); go_ret; exact ⟨rfl, rfl⟩
def orI (a b : Int) : Int := if a = 0 then b else a
set_option maxHeartbeats 400000 in
theorem or_any (a b : Int) (g : Nat) (w : World) (h0 : w.cell? ⟨g, 0, none⟩ = some (.int .i64 a)) (h1 : w.cell? ⟨g, 1, none⟩ = some (.int .i64 b)) :
 Calls Tryz.prog 66 #[.slice (some ⟨g, 0, none⟩) 2 2] w fun e w' => e = .returned (.int .i64 (orI a b)) ∧ w = w' := by
 by_cases ha : a = 0
 ·subst ha
  by_cases hb : b = 0
  ·subst hb; go_enter Tryz.func66, Tryz.ntmps66; go_wp2; refine wp_loop_rounds 3 ?_; rw [rounds_succ]; go_wp2; rw [rounds_succ]; go_wp2; rw [rounds_succ]; go_wp2; go_ret; exact ⟨rfl, rfl⟩
  ·have b1 : (b != 0) = true := by simpa using hb
   go_enter Tryz.func66, Tryz.ntmps66; go_wp2; refine wp_loop_rounds 3 ?_; rw [rounds_succ]; go_wp2; rw [rounds_succ]; go_wp2; go_ret; exact ⟨rfl, rfl⟩
 ·have b1 : (a != 0) = true := by simpa using ha
  have HO : Hid (orI a b = a) := by unfold orI; rw [if_neg ha]; rfl
  clear ha; go_enter Tryz.func66, Tryz.ntmps66; go_wp2; refine wp_loop_rounds 3 ?_; rw [rounds_succ]; go_wp2; go_ret; exact ⟨ret_int HO.out.symm, rfl⟩
def cmpP (x y : Int × Int) : Int := orI (cmpI x.1 y.1) (cmpI x.2 y.2)
set_option maxHeartbeats 1000000 in
theorem order_any (x y : Int × Int) (w : World) : Calls Tryz.prog 112 #[.agg #[.int .i64 x.1, .int .i64 x.2], .agg #[.int .i64 y.1, .int .i64 y.2]] w fun e w' => e = .returned (.int .i64 (cmpP x y)) ∧ ∃ q os', w' = grow (w.drewN q) os' := by
 obtain ⟨x1, x2⟩ := x; obtain ⟨y1, y2⟩ := y; have HC := Lib.hid compare_any; have HO := Lib.hid or_any; unfold cmpP; simp only []; go_enter Tryz.func112, Tryz.ntmps112; go_wp2
 go_region_held3 (fun w' => w'.cell? ⟨w.heap.size, 0, none⟩ = some (.int .i64 x1) ∧ w'.cell? ⟨w.heap.size, 1, none⟩ = some (.int .i64 x2) ∧ w'.cell? ⟨w.heap.size + 1, 0, none⟩ = some (.int .i64 y1) ∧ w'.cell? ⟨w.heap.size + 1, 1, none⟩ = some (.int .i64 y2)) (go_keep) (first | (go_at_call 68; refine (HC.out _ _ _).mono ?_; rintro e w' ⟨rfl, rfl⟩) | (go_at_call 66; refine (HO.out (cmpI x1 y1) (cmpI x2 y2) _ _ ?_ ?_).mono ?_; (simp [go_sem]); (simp [go_sem]); rintro e w' ⟨rfl, rfl⟩))
 go_wp2; go_ret; exact ⟨rfl, 1, _, grow_three w _ _ _⟩
end
section
open Go.RowKit Go.Sort Go.Lib
variable {K : IntKind} {e : TypeId}
def cellsU (K : IntKind) (l : List Int) : List Value := l.map (.int K)
def URow (K : IntKind) (e : TypeId) (base : Nat) (w : World) (v : Value) (l : List Int) : Prop := w.ownsRow base e 1 v l.length (cellsU K l)
theorem cellsU_length (l : List Int) : (cellsU K l).length = l.length := by simp [cellsU]
theorem URow.holds {base : Nat} {w : World} {l : List Int} {g cap : Nat} (h : URow K e base w (.slice (some ⟨g, 0, none⟩) l.length cap) l) : Holds (Value.int K) w g 0 l.toArray := by
 intro j hj; have hj' : j < l.length := by simpa using hj
 have h1 : (cellsU K l)[j]? = some (.int K l[j]) := by simp [cellsU, hj']
 have h2 := World.ownsRow.cells h (g := g) rfl j _ h1; rw [show ((⟨g, 0, none⟩ : Addr).add j) = ⟨g, j, none⟩ by unfold Addr.add; by_cases hz : j = 0 <;> simp [hz]] at h2
 refine ⟨by rw [Nat.zero_add]; simpa [hj'] using h2, ?_⟩
 rcases h.2 with ⟨h3, -⟩ | ⟨g', cap', cur, h3, -, h4, -⟩
 ·cases h3
 ·cases h3; exact Lib.frozen_of_heap h4 _
theorem putRow_block {w : World} {g n : Nat} {D : Array Int} {os : Array Obj} {cur : Array Value} (h : w.heap[g]? = some (.cells cur e (0, 0))) :
 (grow (putRow (Value.int K) (Sort.ahead w n) g 0 D) os).heap[g]? = some (.cells (putCells (Value.int K) 0 D cur) e (0, 0)) := by
 have hlt := (Array.getElem?_eq_some_iff.1 h).1; unfold putRow grow mapBlock Sort.ahead; rw [Array.getElem?_append_left (by simpa using hlt), Array.getElem?_modify]
 simp only [if_true]; rw [h]; rfl
theorem putRow_far {w : World} {g n : Nat} {D : Array Int} {os : Array Obj} {k : Nat} (hk : k < w.heap.size) (hne : k ≠ g) : (grow (putRow (Value.int K) (Sort.ahead w n) g 0 D) os).heap[k]? = w.heap[k]? := by
 unfold putRow grow mapBlock Sort.ahead; rw [Array.getElem?_append_left (by simpa using hk), Array.getElem?_modify, if_neg (fun e => hne e.symm)]
theorem putRow_size {w : World} {g n : Nat} {D : Array Int} {os : Array Obj} : w.heap.size ≤ (grow (putRow (Value.int K) (Sort.ahead w n) g 0 D) os).heap.size := by
 unfold putRow grow mapBlock Sort.ahead; simp
theorem URow.put {base : Nat} {w : World} {l D l' : List Int} {g cap n : Nat} {os : Array Obj} (h : URow K e base w (.slice (some ⟨g, 0, none⟩) l.length cap) l) (hD : D.length = l.length) (hl : l' = D.take l'.length) :
 URow K e base (grow (putRow (Value.int K) (Sort.ahead w n) g 0 D.toArray) os) (.slice (some ⟨g, 0, none⟩) l'.length cap) l' := by
 have hle : l'.length ≤ D.length := by
  have := congrArg List.length hl; rw [List.length_take] at this; omega
 refine ⟨by rw [cellsU_length]; omega, ?_⟩
 rcases h.2 with ⟨h3, -⟩ | ⟨g', cap', cur, h3, hb, h4, h5, h6, h7, h8⟩
 ·cases h3
 ·cases h3; refine .inr ⟨g, cap, putCells (Value.int K) 0 D.toArray cur, rfl, hb, putRow_block h4, by omega, h6, by simp [putCells, h7], ?_⟩
  apply List.ext_getElem?; intro t
  by_cases ht : t < l'.length
  ·have hc : t < cur.size := by omega
   have ht2 : t < D.length := by omega
   have e1 : l'[t]? = some D[t] := by rw [hl, List.getElem?_take, if_pos (by omega)]; simp [ht2]
   rw [List.getElem?_take, if_pos (by omega)]
   simp [putCells, hc, cellsU, e1, ht2]
  ·rw [List.getElem?_eq_none (by simp; omega), List.getElem?_eq_none (by rw [cellsU_length]; omega)]
theorem putRow_kb {w : World} {g n : Nat} {D : Array Int} {os : Array Obj} {cap m : Nat} : KB (fun k => (Value.slice (some ⟨g, 0, none⟩) m cap).ownBlock = some k) w (grow (putRow (Value.int K) (Sort.ahead w n) g 0 D) os) :=
 ⟨rfl, rfl, rfl, putRow_size, fun k hk hne => putRow_far hk fun e => hne (by rw [e]; rfl)⟩
end
section
open Go.RowKit
variable {P : Program}
def ByteRow (w : World) (g : Nat) (l : BL) : Prop := ∃ T, w.heap[g]? = some (.cells (Lib.byteCells l).toArray T (0, 0))
def putB (b s : BL) (o : Nat) : BL := b.take o ++ s ++ b.drop (o + s.length)
theorem putB_length {b s : BL} {o : Nat} (h : o + s.length ≤ b.length) : (putB b s o).length = b.length := by
 simp only [putB, List.length_append, List.length_take, List.length_drop]; omega
theorem byteCells_take (l : BL) (n : Nat) : (Lib.byteCells l).take n = Lib.byteCells (l.take n) := by simp [Lib.byteCells]
theorem byteCells_drop (l : BL) (n : Nat) : (Lib.byteCells l).drop n = Lib.byteCells (l.drop n) := by simp [Lib.byteCells]
theorem byteCells_append (a b : BL) : Lib.byteCells a ++ Lib.byteCells b = Lib.byteCells (a ++ b) := by simp [Lib.byteCells]
theorem ByteRow.lt {w : World} {g : Nat} {l : BL} (h : ByteRow w g l) : g < w.heap.size := by
 obtain ⟨T, h⟩ := h; exact (Array.getElem?_eq_some_iff.1 h).1
theorem ByteRow.cell {w : World} {g : Nat} {l : BL} (h : ByteRow w g l) (j : Nat) (hj : j < l.length) : w.cell? ⟨g, j, none⟩ = some (.int .u8 (l[j].toNat : Int)) := by
 obtain ⟨T, h⟩ := h; rw [cell_of_row _ _ _ _ _ _ h]; simp [Lib.byteCells, hj]
theorem ByteRow.congr {w w' : World} {g : Nat} {l : BL} (h : ByteRow w g l) (he : w'.heap[g]? = w.heap[g]?) : ByteRow w' g l := by
 obtain ⟨T, h⟩ := h; exact ⟨T, he.trans h⟩
theorem ByteRow.below {w w' : World} {g : Nat} {l : BL} (h : ByteRow w g l) (hk : Below w.heap.size w w') : ByteRow w' g l := h.congr (hk.block g h.lt)
theorem ByteRow.copy {w : World} {g : Nat} {l : BL} (h : ByteRow w g l) (dT sT ty elem : TypeId) (o dLen dCap : Nat) (s : ByteArray)
 (hu : P.underlying dT = some (.slice elem)) (hs : (P.info? elem).map (·.size) = some 1) (hle : s.size ≤ dLen) (hfit : o + s.size ≤ l.length) :
 ∃ w', (Builtin.copy_ #[dT, sT] ty #[.slice (some ⟨g, o, none⟩) dLen dCap, .string s]).run P w = .ok (goInt s.size) w' ∧ ByteRow w' g (putB l s.data.toList o) ∧ KB (fun k => k = g) w w' := by
 obtain ⟨T, h⟩ := h; have hsz : s.size = s.data.toList.length := by simp
 refine ⟨_, Lib.run_copy_row_string w dT sT ty elem g o dLen dCap s _ T hu hs h hle (by simpa [Lib.byteCells] using hfit), ⟨T, ?_⟩, ⟨rfl, rfl, rfl, by simp, fun k _ hk => setRow_other _ _ _ _ hk⟩⟩
 rw [setRow_heap _ _ _ _ _ _ h]; rw [List.toList_toArray, byteCells_take, byteCells_drop, byteCells_append, byteCells_append, hsz]; rfl
theorem run_bytes_of_row {w : World} {g : Nat} {l : BL} (h : ByteRow w g l) (src dst e : TypeId) (o n cap : Nat) (hs : P.underlying src = some (.slice e)) (he : P.underlying e = some (.int .u8)) (hd : P.underlying dst = some .string) (hn : o + n ≤ l.length) :
 (convert src dst (.slice (some ⟨g, o, none⟩) n cap)).run P w = .ok (.string (bsOf ((l.drop o).take n))) w := by
 have hl : ((l.drop o).take n).length = n := by rw [List.length_take, List.length_drop]; omega
 have hk := run_convert_bytes_back (P := P) w src dst e ⟨g, o, none⟩ cap ((l.drop o).take n) hs he hd (fun j hj => by
  rw [add_at, h.cell (o + j) (by omega)]
  simp)
 rw [hl] at hk; exact hk
end
section
def fillV (x : GRel) (a : Int) : Int := (a + x.add) % 4294967296
def fillL : BL → List GRel → List Int → Option BL
 | b, x :: r, a :: q => if x.kind = 2 ∧ 65536 ≤ fillV x a then none else fillL (putB b (leB (widthOf x.kind).toNat (fillV x a)) x.off.toNat) r q
 | b, _, _ => some b
def bytes0 (s : GSym) : BL := s.bytes.data.toList ++ List.replicate (s.size.toNat - s.bytes.size) 0
def fillR (s : GSym) (addrs : List Int) : ByteArray × Int :=
 if symOkP s = true then if addrs.length = s.rels.length then match fillL (bytes0 s) s.rels addrs with | none => (emptyB, 150) | some b => (bsOf b, 0) else (emptyB, 2) else (emptyB, 2)
theorem fillR_bad {s : GSym} {addrs : List Int} (h : symOkP s = false) : fillR s addrs = (emptyB, 2) := by simp [fillR, h]
theorem fillR_len {s : GSym} {addrs : List Int} (h : ¬ addrs.length = s.rels.length) : fillR s addrs = (emptyB, 2) := by
 unfold fillR; split <;> rfl
theorem fillR_yes {s : GSym} {addrs : List Int} (h : symOkP s = true) (h2 : addrs.length = s.rels.length) : fillR s addrs = match fillL (bytes0 s) s.rels addrs with | none => (emptyB, 150) | some b => (bsOf b, 0) := by
 simp [fillR, h, h2]
theorem bytes0_length {s : GSym} (h : (s.bytes.size : Int) ≤ s.size) : (bytes0 s).length = s.size.toNat := by
 have : s.bytes.data.toList.length = s.bytes.size := len_list _; rw [bytes0, List.length_append, List.length_replicate, this]; omega
theorem fillL_step {s : GSym} {addrs : List Int} {k : Nat} {b : BL} {x : GRel} {a : Int} (hk : k < s.rels.length) (ha : k < addrs.length) (hx : s.rels[k] = x) (hy : addrs[k] = a) :
 fillL b (s.rels.drop k) (addrs.drop k) = if x.kind = 2 ∧ 65536 ≤ fillV x a then none else fillL (putB b (leB (widthOf x.kind).toNat (fillV x a)) x.off.toNat) (s.rels.drop (k + 1)) (addrs.drop (k + 1)) := by
 rw [List.drop_eq_getElem_cons hk, List.drop_eq_getElem_cons ha, hx, hy, fillL]
theorem fillL_end {s : GSym} {addrs : List Int} {k : Nat} {b : BL} (hk : ¬ k < s.rels.length) : fillL b (s.rels.drop k) (addrs.drop k) = some b := by
 rw [List.drop_of_length_le (by omega)]
 cases addrs.drop k <;> rfl
theorem relsGo_each {n : Int} : ∀ {e : Int} {l : List GRel}, relsGo n e l = true → ∀ x ∈ l, (x.kind = 1 ∨ x.kind = 2) ∧ x.off ≤ 8192 ∧ x.off + widthOf x.kind ≤ n
 | _, [], _, x, hx => by cases hx
 | e, y :: r, h, x, hx => by
   simp only [relsGo, Bool.and_eq_true, decide_eq_true_eq] at h; obtain ⟨⟨⟨⟨⟨h1, h2⟩, h3⟩, h4⟩, h5⟩, h6⟩ := h; rcases List.mem_cons.1 hx with rfl | hx
   ·refine ⟨?_, h3, h5⟩; unfold widthOf at h1; split at h1
    ·exact .inl ‹_›
    ·split at h1
     ·exact .inr ‹_›
     ·simp at h1
   ·exact relsGo_each h6 x hx
theorem symOk_fits {s : GSym} (h : symOkP s = true) (hb : s.bytes.size < 4294967296) : (s.bytes.size : Int) ≤ s.size ∧ s.size ≤ 8192 ∧ 1 ≤ s.size ∧ s.rels.length ≤ 1024 ∧ ∀ x ∈ s.rels, (x.kind = 1 ∨ x.kind = 2) ∧ x.off ≤ 8192 ∧ x.off + widthOf x.kind ≤ s.bytes.size := by
 simp only [symOkP, Bool.and_eq_true, decide_eq_true_eq, sizedOk, sizedB, placesOk] at h; obtain ⟨⟨⟨⟨⟨⟨⟨h1, h2⟩, h3⟩, h4⟩, h5⟩, h6⟩, h7⟩, h8⟩ := h; have e : len32 s.bytes = s.bytes.size := by unfold len32; omega
 rw [e] at h5 h6; exact ⟨h5.1.2, h5.1.1.2, h5.1.1.1, h6.2, fun x hx => relsGo_each h6.1 x hx⟩
end
section
open Go.RowKit
theorem info_byte : (Tryz.prog.info? 5).map (fun i => (i.zero, i.size, i.bytes)) = some (some (.int .u8 0), 1, 1) := by kernel_rfl
set_option maxHeartbeats 400000 in
theorem wtext_any (b o : Nat) (l : BL) (cap : Nat) (w : World) (hc : ∀ j (hj : j < l.length), w.cell? ⟨b, o + j, none⟩ = some (.int .u8 (l[j].toNat : Int))) :
 Calls Tryz.prog 127 #[.slice (some ⟨b, o, none⟩) l.length cap] w fun e w' => e = .returned (.string (bsOf l)) ∧ w = w' := by
 have hk := run_convert_bytes_back (P := Tryz.prog) w 81 9 5 ⟨b, o, none⟩ cap l Tryz.underlying81 Tryz.underlying5 Tryz.underlying9 (fun j hj => by rw [add_at]; exact hc j hj)
 clear hc; go_enter Tryz.func127, Tryz.ntmps127; go_wp2; go_ret; exact ⟨rfl, rfl⟩
theorem leB_get {n : Nat} {v : Int} {j : Nat} (hn : n ≤ 4) (hj : j < (leB n v).length) : ((leB n v)[j].toNat : Int) = ([v % 256, v / 256 % 256, v / 65536 % 256, v / 16777216 % 256] : List Int).getD j 0 := by
 have hj' : j < n := by rw [leB_length] at hj; exact hj
 have b1 : (v / 256 % 256).toNat < 256 := by omega
 have b0 : (v % 256).toNat < 256 := by omega
 have b2 : (v / 256 / 256 % 256).toNat < 256 := by omega
 have b3 : (v / 256 / 256 / 256 % 256).toNat < 256 := by omega
 match n, hn, j, hj' with
 | 1, _, 0, _ => simp only [leB, List.getElem_cons_zero, u8_ofNat _ b0, List.getD_cons_zero]; omega
 | 2, _, 0, _ => simp only [leB, List.getElem_cons_zero, u8_ofNat _ b0, List.getD_cons_zero]; omega
 | 3, _, 0, _ => simp only [leB, List.getElem_cons_zero, u8_ofNat _ b0, List.getD_cons_zero]; omega
 | 4, _, 0, _ => simp only [leB, List.getElem_cons_zero, u8_ofNat _ b0, List.getD_cons_zero]; omega
 | 2, _, 1, _ => simp only [leB, List.getElem_cons_zero, List.getElem_cons_succ, u8_ofNat _ b1, List.getD_cons_zero, List.getD_cons_succ]; omega
 | 3, _, 1, _ => simp only [leB, List.getElem_cons_zero, List.getElem_cons_succ, u8_ofNat _ b1, List.getD_cons_zero, List.getD_cons_succ]; omega
 | 4, _, 1, _ => simp only [leB, List.getElem_cons_zero, List.getElem_cons_succ, u8_ofNat _ b1, List.getD_cons_zero, List.getD_cons_succ]; omega
 | 3, _, 2, _ => simp only [leB, List.getElem_cons_zero, List.getElem_cons_succ, u8_ofNat _ b2, List.getD_cons_zero, List.getD_cons_succ]; omega
 | 4, _, 2, _ => simp only [leB, List.getElem_cons_zero, List.getElem_cons_succ, u8_ofNat _ b2, List.getD_cons_zero, List.getD_cons_succ]; omega
 | 4, _, 3, _ => simp only [leB, List.getElem_cons_zero, List.getElem_cons_succ, u8_ofNat _ b3, List.getD_cons_zero, List.getD_cons_succ]; omega
theorem put_cells {w : World} {n : Nat} {v x0 x1 x2 x3 : Int} (hn : n ≤ 4) (h : ∀ j, j < n → ([x0, x1, x2, x3] : List Int).getD j 0 = ([v % 256, v / 256 % 256, v / 65536 % 256, v / 16777216 % 256] : List Int).getD j 0) (t : TypeId) :
 ∀ j (hj : j < (leB n v).length), (w.alloc (.cells #[.int .u8 x0, .int .u8 x1, .int .u8 x2, .int .u8 x3] t)).cell? ⟨w.heap.size, 0 + j, none⟩ = some (.int .u8 ((leB n v)[j].toNat : Int)) := by
 intro j hj; rw [leB_get hn hj]; rw [leB_length] at hj; rw [← h j hj]; have h4 : j = 0 ∨ j = 1 ∨ j = 2 ∨ j = 3 := by omega
 rcases h4 with rfl | rfl | rfl | rfl <;> simp [go_sem]
set_option maxHeartbeats 400000 in
theorem wput1 (v : Int) (w : World) (h0 : 0 ≤ v) (h1 : v < 256) : Calls Tryz.prog 78 #[.int .u32 v, .int .i64 1] w fun e w' => e = .returned (.tuple #[.string (bsOf (leB 1 v)), .int .i64 0]) ∧ Below w.heap.size w w' := by
 have hz : (v / 256 != 0) = false := by simp; omega
 go_enter Tryz.func78, Tryz.ntmps78; go_wp2_with fail; refine (wtext_any w.heap.size 0 (leB 1 v) 4 _ (put_cells (by omega) ?_ _)).mono ?_
 ·intro j hj; have h4 : j = 0 := by omega
  rcases h4 with rfl <;> (simp only [List.getD_cons_zero]; try omega)
 rintro e w' ⟨rfl, rfl⟩; go_wp2; go_ret2; exact ⟨rfl, alloc_old w _⟩
set_option maxHeartbeats 400000 in
theorem wput2 (v : Int) (w : World) (h0 : 0 ≤ v) (h1 : v < 65536) : Calls Tryz.prog 78 #[.int .u32 v, .int .i64 2] w fun e w' => e = .returned (.tuple #[.string (bsOf (leB 2 v)), .int .i64 0]) ∧ Below w.heap.size w w' := by
 have hz : (v / 65536 != 0) = false := by simp; omega
 go_enter Tryz.func78, Tryz.ntmps78; go_wp2_with fail; refine (wtext_any w.heap.size 0 (leB 2 v) 4 _ (put_cells (by omega) ?_ _)).mono ?_
 ·intro j hj; have h4 : j = 0 ∨ j = 1 := by omega
  rcases h4 with rfl | rfl <;> (simp only [List.getD_cons_zero, List.getD_cons_succ]; try omega)
 rintro e w' ⟨rfl, rfl⟩; go_wp2; go_ret2; exact ⟨rfl, alloc_old w _⟩
set_option maxHeartbeats 400000 in
theorem wput4 (v : Int) (w : World) (h0 : 0 ≤ v) (h1 : v < 4294967296) : Calls Tryz.prog 78 #[.int .u32 v, .int .i64 4] w fun e w' => e = .returned (.tuple #[.string (bsOf (leB 4 v)), .int .i64 0]) ∧ Below w.heap.size w w' := by
 go_enter Tryz.func78, Tryz.ntmps78; go_wp2_with fail; refine (wtext_any w.heap.size 0 (leB 4 v) 4 _ (put_cells (by omega) ?_ _)).mono ?_
 ·intro j hj; have h4 : j = 0 ∨ j = 1 ∨ j = 2 ∨ j = 3 := by omega
  rcases h4 with rfl | rfl | rfl | rfl <;> (simp only [List.getD_cons_zero, List.getD_cons_succ]; try omega)
 rintro e w' ⟨rfl, rfl⟩; go_wp2; go_ret2; exact ⟨rfl, alloc_old w _⟩
theorem bsOf_app (a : BL) (s : ByteArray) : bsOf a ++ s = bsOf (a ++ s.data.toList) := by
 apply ByteArray.ext; simp [bsOf]
end
section
open Go.RowKit
structure FillSt (w : World) (B fb gb : Nat) (s : GSym) (vr vn : Value) (l : BL) : Prop where
 bx : ∃ T, w.heap[fb]? = some (.cells #[.string s.name, .int .u8 s.bind, .int .u8 s.kind, .int .u32 s.size, .string s.bytes, vr, vn, .slice (some ⟨gb, 0, none⟩) l.length l.length] T (0, 0))
 row : ByteRow w gb l
 fle : B ≤ fb
 gle : B ≤ gb
 ne : fb ≠ gb
theorem madeBytes (n : Nat) : madeCells #[.int .u8 0] n = (Lib.byteCells (List.replicate n 0)).toArray := by
 apply Array.ext
 ·simp [madeCells, Lib.byteCells]
 ·intro i h1 h2; simp [madeCells, Lib.byteCells, Nat.mod_one]
theorem byteRow_new (w1 : World) (l : BL) (T : TypeId) (o : Obj) : ByteRow ((w1.alloc (.cells (Lib.byteCells l).toArray T)).alloc o).drew w1.heap.size l :=
 ⟨T, by show ((w1.heap.push (.cells (Lib.byteCells l).toArray T)).push o)[w1.heap.size]? = _; simp [Array.getElem?_push]⟩
theorem box_new (w1 : World) (o o2 : Obj) : ((w1.alloc o2).alloc o).drew.heap[w1.heap.size + 1]? = some o := by
 show ((w1.heap.push o2).push o)[w1.heap.size + 1]? = _; rw [show w1.heap.size + 1 = (w1.heap.push o2).size by simp, Array.getElem?_push_size]
theorem below_new2 (w1 : World) (o o2 : Obj) : Below w1.heap.size w1 ((w1.alloc o2).alloc o).drew := ((alloc_old w1 o2).trans ((alloc_old _ o).mono (by simp))).drew
theorem bytes_over {sy : ByteArray} {n : Nat} : putB (List.replicate n 0) sy.data.toList 0 = sy.data.toList ++ List.replicate (n - sy.size) 0 := by
 simp [putB, List.drop_replicate]
set_option maxHeartbeats 1000000 in
theorem begin15_any (s : GSym) (vr vn : Value) (w : World) (h : SymIn w s vr vn) (hb : s.bytes.size < 4294967296) :
 Calls Tryz.prog 228 #[.agg #[.string s.name, .int .u8 s.bind, .int .u8 s.kind, .int .u32 s.size, .string s.bytes, vr, vn], .string s.bytes] w fun e w' =>
  Below w.heap.size w w' ∧ ((symOkP s = false ∧ e = .returned (.tuple #[.pointer none, .int .i64 2])) ∨
   (symOkP s = true ∧ ∃ fb gb, e = .returned (.tuple #[.pointer (some ⟨fb, 0, none⟩), .int .i64 0]) ∧ FillSt w' w.heap.size fb gb s vr vn (bytes0 s))) := by
 have HM := Lib.hid (objSym_any s vr vn _ (SymIn.keep (alloc_old w (.cells #[.string s.name, .int .u8 s.bind, .int .u8 s.kind, .int .u32 s.size, .string s.bytes, vr, vn] 55)) h)); obtain ⟨p1, q1, p2, q2, rfl, rfl⟩ := h.shape; cases hs : symOkP s with
 | false =>
   rw [hs] at HM; clear hs h; obtain ⟨sn, sb, sk, ss, sy, sr, st⟩ := s; simp only [] at HM ⊢; go_enter Tryz.func228, Tryz.ntmps228; go_wp2_with fail; refine HM.out.mono ?_; rintro e w1 ⟨rfl, hB⟩; clear HM; go_wp2; go_ret2; exact ⟨(alloc_old w _).trans (hB.mono (by simp)), .inl ⟨by simp, rfl⟩⟩
 | true =>
   rw [hs] at HM; obtain ⟨f1, f2, f3, f4, f5⟩ := symOk_fits hs hb; have HL := Lib.hid (bytes0_length f1); clear f4 f5 hs h; obtain ⟨n, hn⟩ : ∃ n : Nat, s.size = n := ⟨s.size.toNat, by omega⟩
   have HZ : Hid (bytes0 s = s.bytes.data.toList ++ List.replicate (n - s.bytes.size) 0) := by unfold bytes0; rw [hn]; rfl
   generalize bytes0 s = bz at HZ HL ⊢; obtain ⟨sn, sb, sk, ss, sy, sr, st⟩ := s; simp only [] at hn f1 f2 f3 HM HZ HL ⊢; subst hn
   have hmk : ∀ w : World, (Instr.makeSlice 81 (.int .u32 (n : Int)) (.int .u32 (n : Int))).run Tryz.prog w = .ok (.slice (some ⟨w.heap.size, 0, none⟩) n n) (w.alloc (.cells (madeCells #[.int .u8 0] n) 5)) := fun w =>
    run_make_row' 81 5 (.int .u8 0) 1 Tryz.underlying81 info_byte rfl .u32 .u32 n (by omega) (by omega) w
   go_enter Tryz.func228, Tryz.ntmps228; go_wp2_with fail; refine HM.out.mono ?_; rintro e w1 ⟨rfl, hB⟩; clear HM; obtain ⟨hc, hf⟩ := bcell hB; have hz : w.heap.size < w1.heap.size := by have := hB.size; simp at this; omega
   have HB : Hid (Below w.heap.size w w1) := (alloc_old w _).trans (hB.mono (by simp))
   clear hB; go_wp2
   go_region
   have hbr := byteRow_new w1 (List.replicate n 0) 5 (.cells #[.string sn, .int .u8 sb, .int .u8 sk, .int .u32 (n : Int), .string sy, .slice p1 sr.length q1, .slice p2 st.length q2, .slice (some ⟨w1.heap.size, 0, none⟩) n n] 337); rw [← madeBytes] at hbr; obtain ⟨W, hrun, hrow, hkb⟩ := hbr.copy 81 9 3 5 0 n n sy Tryz.underlying81 (by kernel_rfl) (by omega) (by simp; omega)
   have HR := Lib.hid hrow; clear hrow hbr; have HK := Lib.hid hkb; clear hkb; go_wp2; go_ret2; have hz2 : (((w1.alloc (.cells (madeCells #[.int .u8 0] n) 5)).alloc (.cells #[.string sn, .int .u8 sb, .int .u8 sk, .int .u32 (n : Int), .string sy, .slice p1 sr.length q1, .slice p2 st.length q2, .slice (some ⟨w1.heap.size, 0, none⟩) n n] 337)).drew).heap.size = w1.heap.size + 2 := by simp [World.drew]
   refine ⟨HB.out.trans (((below_new2 w1 _ _).trans (HK.out.below (by rw [hz2]; omega) (fun k hk => by omega))).mono HB.out.size), .inr ⟨trivial, w1.heap.size + 1, w1.heap.size, rfl, ?_⟩⟩
   have hrow := HR.out; rw [bytes_over, ← HZ.out] at hrow; have hll : bz.length = n := by have := HL.out; simpa using this
   refine ⟨⟨337, ?_⟩, hrow, by omega, by omega, by omega⟩
   rw [HK.out.block _ (by rw [hz2]; omega) (by omega), box_new, hll]
theorem FillSt.fbox {w : World} {B fb gb : Nat} {s : GSym} {vr vn : Value} {l : BL} (h : FillSt w B fb gb s vr vn l) :
 fb < w.heap.size ∧ w.cell? ⟨fb, 5, none⟩ = some vr ∧ w.cell? ⟨fb, 7, none⟩ = some (.slice (some ⟨gb, 0, none⟩) l.length l.length) ∧ (∀ j, w.frozen? ⟨fb, j, none⟩ = false) := by
 obtain ⟨T, hb⟩ := h.bx; exact ⟨(Array.getElem?_eq_some_iff.1 hb).1, Lib.cell_of_heap hb 5, Lib.cell_of_heap hb 7, fun j => Lib.frozen_of_heap hb _⟩
theorem FillSt.keep {w w' : World} {B fb gb : Nat} {s : GSym} {vr vn : Value} {l : BL} (h : FillSt w B fb gb s vr vn l) (hb : Below w.heap.size w w') : FillSt w' B fb gb s vr vn l := by
 obtain ⟨T, hx⟩ := h.bx; exact ⟨⟨T, (hb.block _ (Array.getElem?_eq_some_iff.1 hx).1).trans hx⟩, h.row.below hb, h.fle, h.gle, h.ne⟩
set_option maxHeartbeats 1000000 in
theorem at15_any (B fb gb : Nat) (s : GSym) (vr vn : Value) (l : BL) (o : Nat) (kd : Int) (nm : ByteArray) (ad : Int) (wd : Nat) (w : World) (h : FillSt w B fb gb s vr vn l) (hk : (kd = 1 ∧ wd = 4) ∨ (kd = 2 ∧ wd = 2)) (hf : o + wd ≤ l.length) (hl : l.length ≤ 8192) :
 Calls Tryz.prog 238 #[.pointer (some ⟨fb, 0, none⟩), .agg #[.int .u32 (o : Int), .int .u8 kd, .string nm, .int .u32 ad]] w fun e w' =>
  e = .returned (.slice (some ⟨gb, o, none⟩) wd wd) ∧ Below w.heap.size w w' := by
 obtain ⟨hfb, hc5, hc7, hfz⟩ := h.fbox; clear h hc5; have hw4 : IntKind.u32.wrap ((o : Int) + 4) = ((o + 4 : Nat) : Int) := by rw [IntKind.wrap_u32]; omega
 have hw2 : IntKind.u32.wrap ((o : Int) + 2) = ((o + 2 : Nat) : Int) := by rw [IntKind.wrap_u32]; omega
 have h7 := cell_keep (alloc_old w (.cells #[.int .u32 (o : Int), .int .u8 kd, .string nm, .int .u32 ad] 133)) hfb hc7; rcases hk with ⟨rfl, rfl⟩ | ⟨rfl, rfl⟩
 all_goals
  go_enter Tryz.func238, Tryz.ntmps238; go_wp2
  go_region
  go_wp2_with fail; go_ret; exact ⟨by simp, (alloc_old w _).drew⟩
theorem FillSt.below {w : World} {B fb gb : Nat} {s : GSym} {vr vn : Value} {l : BL} {w' : World} {l' : BL} (h : FillSt w B fb gb s vr vn l) (hl : l'.length = l.length) (hk : KB (fun k => k = gb) w w') (hr : ByteRow w' gb l') :
 FillSt w' B fb gb s vr vn l' := by
 obtain ⟨T, hx⟩ := h.bx; refine ⟨⟨T, ?_⟩, hr, h.fle, h.gle, h.ne⟩; rw [hl, hk.block _ (Array.getElem?_eq_some_iff.1 hx).1 h.ne]; exact hx
set_option maxHeartbeats 1000000 in
theorem put15_over (B fb gb : Nat) (s : GSym) (vr vn : Value) (l : BL) (o : Nat) (nm : ByteArray) (ad v : Int) (w : World) (h : FillSt w B fb gb s vr vn l) (hf : o + 2 ≤ l.length) (hl : l.length ≤ 8192) (hv : 65536 ≤ v) (hv2 : v ≤ 4294967295) :
 Calls Tryz.prog 229 #[.pointer (some ⟨fb, 0, none⟩), .agg #[.int .u32 (o : Int), .int .u8 2, .string nm, .int .u32 ad], .int .u32 v] w fun e w' =>
  e = .returned (.int .i64 150) ∧ Below w.heap.size w w' := by
 have HA := Lib.hid (at15_any B fb gb s vr vn l o 2 nm ad 2 _ (h.keep (alloc_old w (.cells #[.int .u32 (o : Int), .int .u8 2, .string nm, .int .u32 ad] 133))) (.inr ⟨rfl, rfl⟩) hf hl); clear h; go_enter Tryz.func229, Tryz.ntmps229; go_wp2_with fail; refine HA.out.mono ?_; rintro e w1 ⟨rfl, hB⟩; clear HA; have hd : (v / 65536 != 0) = true := by simp; omega
 go_wp2_with fail; go_ret; exact ⟨rfl, (alloc_old w _).trans (hB.mono (by simp))⟩
set_option maxHeartbeats 1000000 in
theorem put15_any (B fb gb : Nat) (s : GSym) (vr vn : Value) (l : BL) (o : Nat) (kd : Int) (nm : ByteArray) (ad : Int) (wd : Nat) (v : Int) (w : World) (h : FillSt w B fb gb s vr vn l) (hk : (kd = 1 ∧ wd = 4) ∨ (kd = 2 ∧ wd = 2 ∧ v < 65536)) (hf : o + wd ≤ l.length) (hl : l.length ≤ 8192) (hv : 0 ≤ v) (hv2 : v ≤ 4294967295) :
 Calls Tryz.prog 229 #[.pointer (some ⟨fb, 0, none⟩), .agg #[.int .u32 (o : Int), .int .u8 kd, .string nm, .int .u32 ad], .int .u32 v] w fun e w' =>
  e = .returned (.int .i64 0) ∧ Below B w w' ∧ FillSt w' B fb gb s vr vn (putB l (leB wd v) o) := by
 have HH := Lib.hid h; have hkk : (kd = 1 ∧ wd = 4) ∨ (kd = 2 ∧ wd = 2) := by omega
 have HA := Lib.hid (at15_any B fb gb s vr vn l o kd nm ad wd _ (h.keep (alloc_old w (.cells #[.int .u32 (o : Int), .int .u8 kd, .string nm, .int .u32 ad] 133))) hkk hf hl); have hBw : B ≤ w.heap.size := by have := h.gle; have := h.row.lt; omega
 clear h hkk; have HB0 : Hid (Below w.heap.size w (w.alloc (.cells #[.int .u32 (o : Int), .int .u8 kd, .string nm, .int .u32 ad] 133))) := alloc_old w _; rcases hk with ⟨rfl, rfl⟩ | ⟨rfl, rfl, h16⟩
 ·go_enter Tryz.func229, Tryz.ntmps229; go_wp2_with fail; refine HA.out.mono ?_; rintro e w1 ⟨rfl, hB⟩; clear HA; have HB1 : Hid (Below w.heap.size w w1) := HB0.out.trans (hB.mono (by simp))
  clear hB HB0; go_wp2_with (go_at_call 78; refine (wput4 v _ hv (by omega)).mono ?_; rintro e w2 ⟨rfl, hB2⟩; have HF := Lib.hid (HH.out.keep (HB1.out.trans (hB2.mono HB1.out.size))); have HB2 : Hid (Below w.heap.size w w2) := HB1.out.trans (hB2.mono HB1.out.size); clear hB2; obtain ⟨W, hrun, hrow, hkb⟩ := HF.out.row.copy 81 9 3 5 o 4 4 (bsOf (leB 4 v)) Tryz.underlying81 (by kernel_rfl) (by simp [bsOf_size, leB_length]) (by simp [bsOf_size, leB_length]; omega); have HR := Lib.hid hrow; have HK := Lib.hid hkb; clear hrow hkb)
  go_ret; exact ⟨rfl, ((HB2.out.mono hBw).trans (HK.out.below (by have := HB2.out.size; omega) (fun k hk e => by have := HH.out.gle; omega))), HF.out.below (putB_length (by simp [leB_length]; omega)) HK.out HR.out⟩
 ·have hd : (v / 65536 != 0) = false := by simp; omega
  go_enter Tryz.func229, Tryz.ntmps229; go_wp2_with fail; refine HA.out.mono ?_; rintro e w1 ⟨rfl, hB⟩; clear HA; have HB1 : Hid (Below w.heap.size w w1) := HB0.out.trans (hB.mono (by simp))
  clear hB HB0; go_wp2_with (go_at_call 78; refine (wput2 v _ hv h16).mono ?_; rintro e w2 ⟨rfl, hB2⟩; have HF := Lib.hid (HH.out.keep (HB1.out.trans (hB2.mono HB1.out.size))); have HB2 : Hid (Below w.heap.size w w2) := HB1.out.trans (hB2.mono HB1.out.size); clear hB2; obtain ⟨W, hrun, hrow, hkb⟩ := HF.out.row.copy 81 9 3 5 o 2 2 (bsOf (leB 2 v)) Tryz.underlying81 (by kernel_rfl) (by simp [bsOf_size, leB_length]) (by simp [bsOf_size, leB_length]; omega); have HR := Lib.hid hrow; have HK := Lib.hid hkb; clear hrow hkb)
  go_ret; exact ⟨rfl, ((HB2.out.mono hBw).trans (HK.out.below (by have := HB2.out.size; omega) (fun k hk e => by have := HH.out.gle; omega))), HF.out.below (putB_length (by simp [leB_length]; omega)) HK.out HR.out⟩
end
section
open Go.RowKit Go.Maps Go.WideMaps
def u8E : KeyEnc Tryz.prog 5 Int where
 enc := fun a => .int .u8 a
 lit := fun a => .int .u8 a
 ok := fun a => (Lit.int .u8 a).wf = true
 key := fun a h => Maps.keyOf_int_mk Tryz.underlying5 h
 inj := fun a b e => by cases e; rfl
theorem u8Keyed : Keyed Tryz.prog 5 := Maps.int_keyed Tryz.underlying5
def permK (k : Int) : Int := if k = 1 then 5 else if k = 3 then 1 else if k = 2 then 3 else 0
set_option maxHeartbeats 400000 in
theorem perm_any (k : Int) (w : World) (h0 : 0 ≤ k) (h1 : k ≤ 255) :
 Calls Tryz.prog 158 #[.int .u8 k] w fun e w' => e = .returned (.int .u8 (permK k)) ∧ Below w.heap.size w w' := by
 have hmm := @run_makeMap Tryz.prog; have hw : u8E.ok k := WalkArith.wf_u8 (by omega)
 have ht := Tryz.underlying311; obtain ⟨w1, r1, m1, g1⟩ := (MapKFn.made u8E w).put u8Keyed ht (by unfold maxLen; omega) (a := 1) (WalkArith.wf_u8 (by omega)) (.int .u8 5)
 obtain ⟨w2, r2, m2, g2⟩ := m1.put u8Keyed ht (by unfold maxLen; omega) (a := 3) (WalkArith.wf_u8 (by omega)) (.int .u8 1)
 obtain ⟨w3, r3, m3, g3⟩ := m2.put u8Keyed ht (by unfold maxLen; omega) (a := 2) (WalkArith.wf_u8 (by omega)) (.int .u8 3)
 have r4 := m3.look u8Keyed ht (z := .int .u8 0) (by kernel_rfl) hw
 have e4 : ((if k = 2 then some (Value.int .u8 3) else if k = 3 then some (.int .u8 1) else if k = 1 then some (.int .u8 5) else none).getD (.int .u8 0)) = .int .u8 (permK k) := by
  unfold permK; repeat' split
  all_goals first | rfl | omega
 rw [e4] at r4; have hB : Below w.heap.size w w3 := (((alloc_old w _).grown g1 (by simp) (fun q e => by cases e; simp)).grown g2 (by have := g1.size; simp at this; omega) (fun q e => by cases e; simp)).grown g3 (by have := g1.size; have := g2.size; simp at *; omega) (fun q e => by cases e; simp)
 have HB := Lib.hid hB; change (Instr.mapUpdate 311 (.map (some w.heap.size)) (.int .u8 1) (.int .u8 5)).run _ _ = _ at r1; change (Instr.mapUpdate 311 (.map (some w.heap.size)) (.int .u8 3) (.int .u8 1)).run _ _ = _ at r2; change (Instr.mapUpdate 311 (.map (some w.heap.size)) (.int .u8 2) (.int .u8 3)).run _ _ = _ at r3; change (Instr.lookup 311 (.map (some w.heap.size)) (.int .u8 k) false).run _ _ = _ at r4; clear hB m1 m2 m3 g1 g2 g3 ht e4 hw; go_enter Tryz.func158, Tryz.ntmps158; go_wp2; go_ret; exact ⟨rfl, HB.out⟩
end
section
open Go.RowKit
set_option maxHeartbeats 400000 in
theorem pnum1 (v : Int) (w : World) (h0 : 0 ≤ v) (h1 : v < 256) : Calls Tryz.prog 34 #[.int .u32 v, .int .i64 1] w fun e w' => e = .returned (.tuple #[.string (bsOf (leB 1 v)), .int .i64 0]) ∧ Below w.heap.size w w' := by
 have hz : (v / 256 != 0) = false := by simp; omega
 have HC := Lib.hid (wput1 v w h0 h1); go_enter Tryz.func34, Tryz.ntmps34; go_wp2_with (go_at_call 78; refine HC.out.mono ?_; rintro e w' ⟨rfl, hB⟩); go_ret2; exact ⟨rfl, hB⟩
set_option maxHeartbeats 400000 in
theorem pnum2 (v : Int) (w : World) (h0 : 0 ≤ v) (h1 : v < 65536) : Calls Tryz.prog 34 #[.int .u32 v, .int .i64 2] w fun e w' => e = .returned (.tuple #[.string (bsOf (leB 2 v)), .int .i64 0]) ∧ Below w.heap.size w w' := by
 have hz : (v / 65536 != 0) = false := by simp; omega
 have HC := Lib.hid (wput2 v w h0 h1); go_enter Tryz.func34, Tryz.ntmps34; go_wp2_with (go_at_call 78; refine HC.out.mono ?_; rintro e w' ⟨rfl, hB⟩); go_ret2; exact ⟨rfl, hB⟩
set_option maxHeartbeats 400000 in
theorem pnum4 (v : Int) (w : World) (h0 : 0 ≤ v) (h1 : v < 4294967296) : Calls Tryz.prog 34 #[.int .u32 v, .int .i64 4] w fun e w' => e = .returned (.tuple #[.string (bsOf (leB 4 v)), .int .i64 0]) ∧ Below w.heap.size w w' := by
 have HC := Lib.hid (wput4 v w h0 h1); go_enter Tryz.func34, Tryz.ntmps34; go_wp2_with (go_at_call 78; refine HC.out.mono ?_; rintro e w' ⟨rfl, hB⟩); go_ret2; exact ⟨rfl, hB⟩
set_option maxHeartbeats 400000 in
theorem ptext_any (s : ByteArray) (w : World) (hs : s.size < 65536) : Calls Tryz.prog 33 #[.string s] w fun e w' => e = .returned (.tuple #[.string (bsOf (encText s)), .int .i64 0]) ∧ Below w.heap.size w w' := by
 have HC := Lib.hid (pnum2 s.size w (by omega) (by omega))
 have hmin : min (s.size : Int) 65536 = s.size := by omega
 go_enter Tryz.func33, Tryz.ntmps33; go_wp2_with fail; refine HC.out.mono ?_; rintro e w' ⟨rfl, hB⟩; clear hmin; have hcat : ¬ 9223372036854775807 < (bsOf (leB 2 s.size)).size + s.size := by rw [bsOf_size, leB_length]; omega
 go_wp2; go_ret2; exact ⟨by rw [bsOf_app]; rfl, hB⟩
end
end Go.Proofs.YtboegjdkedjhcaaGreatDoor
namespace Go.Proofs.YtboegjdkedjhcaaGreatDoor.AB
set_option maxRecDepth 100000
open Go.RowKit
theorem size_builder : (Tryz.prog.info? 83).map (·.size) = some 2 := by kernel_rfl
theorem lies_builder : liesAt Tryz.prog Tryz.prog.depth 83 (2 / Tryz.prog.cellsOf 83) 0 83 1 = true := by kernel_rfl
abbrev WrAt (B b : Nat) (p : Value) (l : BL) (w : World) : Prop := Lib.BuilderAt 83 5 B b p (Lib.byteCells l) w
def IsWr (B b : Nat) (l : BL) (w : World) : Prop := WrAt B b (.pointer none) l w ∨ WrAt B b (.pointer (some ⟨b, 0, none⟩)) l w
def NB (w : World) (g : Nat) : Prop := ∀ cur fr, w.heap[g]? ≠ some (.cells cur 5 fr)
structure KN (b : Nat) (w w' : World) : Prop where
 size : w.heap.size ≤ w'.heap.size
 block : ∀ g, g < w.heap.size → g ≠ b → NB w g → w'.heap[g]? = w.heap[g]?
theorem KN.refl (b : Nat) (w : World) : KN b w w := ⟨Nat.le_refl _, fun _ _ _ _ => rfl⟩
theorem KN.trans {b : Nat} {w w' w'' : World} (h : KN b w w') (k : KN b w' w'') : KN b w w'' :=
 ⟨Nat.le_trans h.size k.size, fun g hg hb hn => by
  have h1 := h.block g hg hb hn; rw [k.block g (Nat.lt_of_lt_of_le hg h.size) hb (fun cur fr => by rw [h1]; exact hn cur fr), h1]⟩
theorem KN.of_below {b : Nat} {w w' : World} (h : Below w.heap.size w w') : KN b w w' := ⟨h.size, fun g hg _ _ => h.block g hg⟩
def BX (b : Nat) (w : World) (g : Nat) (t : TypeId) (cs : Array Value) : Prop := g ≠ b ∧ t ≠ 5 ∧ w.heap[g]? = some (.cells cs t (0, 0))
set_option maxHeartbeats 1000000 in
theorem copyCheck_used (b : Nat) (w : World) (h0 : w.cell? ⟨b, 0, none⟩ = some (.pointer (some ⟨b, 0, none⟩))) :
 Calls Tryz.prog 77 #[.pointer (some ⟨b, 0, none⟩)] w fun e w' => e = .returned (.tuple #[]) ∧ w' = w := by
 obtain ⟨j, hj, _⟩ := Option.map_eq_some_iff.1 size_builder; go_enter Tryz.func77, Tryz.ntmps77; go_wp2; rw [Lib.run_neq_ptr_same w _ Tryz.underlying80 hj]; go_wp2; go_end0; exact ⟨rfl, rfl⟩
set_option maxHeartbeats 1000000 in
theorem copyCheck_fresh (b : Nat) (w : World) (h0 : w.cell? ⟨b, 0, none⟩ = some (.pointer none)) (hsh : w.shape? b = some (83, 2)) (hfz : w.frozen? ⟨b, 0, none⟩ = false) :
 Calls Tryz.prog 77 #[.pointer (some ⟨b, 0, none⟩)] w fun e w' => e = .returned (.tuple #[]) ∧ w' = w.setCell ⟨b, 0, none⟩ (.pointer (some ⟨b, 0, none⟩)) := by
 obtain ⟨j, hj, hjs⟩ := Option.map_eq_some_iff.1 size_builder; go_enter Tryz.func77, Tryz.ntmps77; go_wp2; rw [Lib.run_to_unsafe w ⟨b, 0, none⟩ Tryz.underlying80 Tryz.underlying221 hj (by rw [hjs]; decide) hsh (Nat.zero_lt_succ 1)]
 simp only [Result.andThen]; rw [Oper.upon_value]; go_wp2; rw [run_callFunc_extern Tryz.func126 (by kernel_rfl) (by kernel_rfl) (by kernel_rfl) (e := Extern.AbiNoEscape.same) (by kernel_rfl)]
 rw [Lib.run_noEscape]; simp only [Result.andThen]; rw [Oper.upon_value]; go_wp2; rw [Lib.run_from_unsafe w ⟨b, 0, none⟩ Tryz.underlying221 Tryz.underlying80 hj hsh lies_builder]; simp only [Result.andThen]; rw [Oper.upon_value]; go_wp2; go_end0; exact ⟨rfl, rfl⟩
theorem copyCheck_any (B b : Nat) (l : BL) (w : World) (h : IsWr B b l w) :
 Calls Tryz.prog 77 #[.pointer (some ⟨b, 0, none⟩)] w fun e w' => e = .returned (.tuple #[]) ∧ (WrAt B b (.pointer (some ⟨b, 0, none⟩)) l w' ∧ Below B w w' ∧ KN b w w') := by
 rcases h with h | h
 ·refine (copyCheck_fresh b w h.cell0 h.shape h.frozen0).mono ?_; rintro e w' ⟨rfl, rfl⟩; exact ⟨rfl, h.used _, (Below.refl B w).setCell (p := ⟨b, 0, none⟩) h.1 _, by simp, fun g _ hb _ => Below.heap_setCell _ _ _ _ (by simpa using hb)⟩
 ·refine (copyCheck_used b w h.cell0).mono ?_; rintro e w' ⟨rfl, rfl⟩; exact ⟨rfl, h, Below.refl B _, KN.refl _ _⟩
def WPost (B b : Nat) (l : BL) (w w' : World) : Prop := IsWr B b l w' ∧ Below B w w' ∧ KN b w w'
theorem IsWr.keep {B b : Nat} {l : BL} {w w' : World} (h : IsWr B b l w) (k : Below w.heap.size w w') : IsWr B b l w' := by
 rcases h with ⟨h0, v, h1, h2, h3⟩ | ⟨h0, v, h1, h2, h3⟩
 ·have hlt : b < w.heap.size := Lib.BuilderAt.lt ⟨h0, v, h1, h2, h3⟩
  exact .inl ⟨h0, v, by rw [k.block b hlt]; exact h1, by
   refine ⟨h2.1, ?_⟩; rcases h2.2 with hn | ⟨g, cap, cur, rfl, hb, hg, rest⟩
   ·exact .inl hn
   ·exact .inr ⟨g, cap, cur, rfl, hb, by rw [k.block g (Array.getElem?_eq_some_iff.1 hg).1]; exact hg, rest⟩, h3⟩
 ·have hlt : b < w.heap.size := Lib.BuilderAt.lt ⟨h0, v, h1, h2, h3⟩
  exact .inr ⟨h0, v, by rw [k.block b hlt]; exact h1, by
   refine ⟨h2.1, ?_⟩; rcases h2.2 with hn | ⟨g, cap, cur, rfl, hb, hg, rest⟩
   ·exact .inl hn
   ·exact .inr ⟨g, cap, cur, rfl, hb, by rw [k.block g (Array.getElem?_eq_some_iff.1 hg).1]; exact hg, rest⟩, h3⟩
theorem WPost.trans {B b : Nat} {l l' : BL} {w w' w'' : World} (h : WPost B b l w w') (k : WPost B b l' w' w'') : WPost B b l' w w'' := ⟨k.1, h.2.1.trans k.2.1, h.2.2.trans k.2.2⟩
theorem WPost.keep {B b : Nat} {l : BL} {w w' w'' : World} (h : WPost B b l w w') (k : Below w'.heap.size w' w'') (hB : B ≤ w.heap.size) : WPost B b l w w'' := ⟨h.1.keep k, h.2.1.trans (k.mono (Nat.le_trans hB h.2.1.size)), h.2.2.trans (KN.of_below k)⟩
theorem strCells_bytes (s : ByteArray) : Lib.strCells s = Lib.byteCells s.data.toList := by
 simp [Lib.strCells, Lib.byteCells]
set_option maxHeartbeats 2000000 in
theorem writeString_any (B b : Nat) (l : BL) (s : ByteArray) (w : World) (h : IsWr B b l w) (hlen : l.length + s.size ≤ 140737488355328) (hBw : B ≤ w.heap.size) :
 Calls Tryz.prog 32 #[.pointer (some ⟨b, 0, none⟩), .string s] w fun e w' => e = .returned (.tuple #[.int .i64 s.size, .nilIface]) ∧ WPost B b (l ++ s.data.toList) w w' := by
 obtain ⟨i0, hi, hz0, hz1, hz2⟩ := info_parts info_byte; have HI := Lib.hid (And.intro hi (And.intro hz0 (And.intro hz1 hz2))); clear hi hz0 hz1 hz2; have HC := Lib.hid (copyCheck_any B b l w h); clear h; go_enter Tryz.func32, Tryz.ntmps32; go_wp2_with (go_at_call 77; refine HC.out.mono ?_); rintro e w1 ⟨rfl, h1, hb1, hkn1⟩; obtain ⟨hB, v, hbk, hown, hne⟩ := h1; have HKN1 := Lib.hid hkn1; clear hkn1; have c0 : w1.cell? ⟨b, 0, none⟩ = some (.pointer (some ⟨b, 0, none⟩)) := by rw [Lib.cell_of_heap hbk]; rfl
 have c1 : w1.cell? ⟨b, 1, none⟩ = some v := by rw [Lib.cell_of_heap hbk]; rfl
 rw [Lib.byteCells_length] at hown; have HOWN := Lib.hid hown; have HNE := Lib.hid hne; have HBK := Lib.hid hbk; have HB1 := Lib.hid hb1; clear hown hne hbk hb1; go_wp2_with (at_builtin; refine Lib.wpList_append_own_string _ rfl _ _ 81 9 rfl B 5 i0 Tryz.underlying81 Tryz.underlying9 HI.out.1 HI.out.2.1 HI.out.2.2.1 HI.out.2.2.2 _ _ _ rfl HOWN.out s rfl ?c3 ?c4 ?c5 ?_)
 case c3 => unfold maxLen; omega
 case c4 => omega
 case c5 => have := HB1.out.size; omega
 intro v' w2 hown' hgrow _
 have hlt : b < w1.heap.size := by
  rcases Nat.lt_or_ge b w1.heap.size with h' | h'
  ·exact h'
  ·have hbk := HBK.out; simp [Array.getElem?_eq_none h'] at hbk
 have hb2 : w2.heap[b]? = some (.cells #[.pointer (some ⟨b, 0, none⟩), v] 83 (0, 0)) := by
  rw [hgrow.block b hlt (fun e => HNE.out e.symm)]
  exact HBK.out
 have d0 : w2.cell? ⟨b, 0, none⟩ = some (.pointer (some ⟨b, 0, none⟩)) := by rw [Lib.cell_of_heap hb2]; rfl
 have d1 : w2.cell? ⟨b, 1, none⟩ = some v := by rw [Lib.cell_of_heap hb2]; rfl
 have f1 : w2.frozen? ⟨b, 1, none⟩ = false := Lib.frozen_of_heap hb2 1
 obtain ⟨ao, n', cap, rfl⟩ : ∃ ao n' cap, v' = .slice ao n' cap := by
  rcases hown'.2 with ⟨hv, _⟩ | ⟨g, cap, cur, hv, _⟩
  ·exact ⟨_, _, _, hv⟩
  ·exact ⟨_, _, _, hv⟩
 have HE1 := Lib.hid (Lib.BuilderAt.put (T := 83) (e := 5) hB hb2 (bs' := Lib.byteCells (l ++ s.data.toList)) (by rw [strCells_bytes] at hown'; simpa [Lib.byteCells] using hown') (by decide))
 have HE2 := Lib.hid ((HB1.out.grown hgrow (by have := HB1.out.size; omega) (fun k hk => (HOWN.out.lt k hk).1)).setCell (p := ⟨b, 1, none⟩) hB (.slice ao n' cap))
 have HKN : Hid (KN b w (w2.setCell ⟨b, 1, none⟩ (.slice ao n' cap))) := by
  refine HKN1.out.trans ⟨by simpa using hgrow.size, fun g hg hgb hn => ?_⟩
  rw [Below.heap_setCell _ _ _ _ (by simpa using hgb), hgrow.block g hg (fun e => ?_)]
  rcases HOWN.out.2 with ⟨hv, _⟩ | ⟨g', cap', cur, hv, _, hg', _⟩
  ·rw [hv] at e; cases e
  ·rw [hv] at e; cases e; exact hn _ _ hg'
 clear hown' hgrow hb2 c0 c1; go_wp2; go_ret2; exact ⟨rfl, .inr HE1.out, HE2.out, HKN.out⟩
set_option maxHeartbeats 1000000 in
theorem string_any (B b : Nat) (l : BL) (w : World) (h : IsWr B b l w) (h0 : l ≠ []) :
 Calls Tryz.prog 36 #[.pointer (some ⟨b, 0, none⟩)] w fun e w' => e = .returned (.string (bsOf l)) ∧ Below B w w' := by
 obtain ⟨p, hB, v, hbk, hown, hne⟩ : ∃ p, WrAt B b p l w := by
  rcases h with h | h
  ·exact ⟨_, h⟩
  ·exact ⟨_, h⟩
 have hl0 : l.length ≠ 0 := by simpa using h0
 rw [Lib.byteCells_length] at hown
 obtain ⟨g, cap, cur, rfl, hbg, hg, hnc, hcm, hcs, htake⟩ : ∃ g cap cur, v = .slice (some ⟨g, 0, none⟩) l.length cap ∧ B ≤ g ∧ w.heap[g]? = some (.cells cur 5 (0, 0)) ∧ l.length ≤ cap ∧ cap ≤ maxLen ∧ cur.size = cap * 1 ∧ cur.toList.take (l.length * 1) = Lib.byteCells l := by
  rcases hown.2 with ⟨_, hz⟩ | ⟨g, cap, cur, hv, r⟩
  ·exact absurd hz hl0
  ·exact ⟨g, cap, cur, hv, r⟩
 have c1 : w.drew.cell? ⟨b, 1, none⟩ = some (.slice (some ⟨g, 0, none⟩) l.length cap) := by
  have : w.drew.heap[b]? = some (.cells #[p, .slice (some ⟨g, 0, none⟩) l.length cap] 83 (0, 0)) := hbk; rw [Lib.cell_of_heap this]; rfl
 have hSD : (Builtin.unsafeSliceData_ #[81] 156 #[.slice (some ⟨g, 0, none⟩) l.length cap]).run Tryz.prog w.drew = .ok (.pointer (some ⟨g, 0, none⟩)) w.drew :=
  Lib.run_unsafeSliceData_row _ _ _ _ _ _ (by omega)
 have hUS : (Builtin.unsafeString_ #[156, 3] 9 #[.pointer (some ⟨g, 0, none⟩), .int .i64 l.length]).run Tryz.prog w.drew = .ok (.string (bsOf l)) (w.drew.freeze ⟨g, 0, none⟩ l.length) := by
  refine Lib.run_unsafeString_row w.drew 156 3 9 5 Tryz.underlying156 (by kernel_rfl) g cur.size (by have hg' : w.drew.heap[g]? = some (.cells cur 5 (0, 0)) := hg; simp [World.shape?, hg']) l h0 (by omega) (by unfold maxLen at hcm; omega) ?_
  intro j x hx; have := hown.cells (g := g) rfl j (.int .u8 x.toNat) (by simp [Lib.byteCells, hx])
  exact this
 have HH := Lib.hid hbg; clear hown hne hbk hg htake hcs hcm hl0 h0 h; go_enter Tryz.func36, Tryz.ntmps36; go_wp2
 go_region
 all_goals (go_wp2; go_ret; exact ⟨rfl, Lib.below_freeze (Below.drew (Below.refl B w)) (p := ⟨g, 0, none⟩) HH.out _⟩)
end Go.Proofs.YtboegjdkedjhcaaGreatDoor.AB
namespace Go.Proofs.YtboegjdkedjhcaaGreatDoor
set_option maxRecDepth 100000
section
open Go.RowKit
theorem size_builder : (Tryz.prog.info? 83).map (·.size) = some 2 := by kernel_rfl
theorem lies_builder : liesAt Tryz.prog Tryz.prog.depth 152 (2 / Tryz.prog.cellsOf 152) 0 83 1 = true := by kernel_rfl
abbrev WrAt (B b : Nat) (p : Value) (l : BL) (w : World) : Prop := Lib.BuilderAt 152 5 B b p (Lib.byteCells l) w
def IsWr (B b : Nat) (l : BL) (w : World) : Prop := WrAt B b (.pointer none) l w ∨ WrAt B b (.pointer (some ⟨b, 0, none⟩)) l w
def NB (w : World) (g : Nat) : Prop := ∀ cur fr, w.heap[g]? ≠ some (.cells cur 5 fr)
structure KN (b : Nat) (w w' : World) : Prop where
 size : w.heap.size ≤ w'.heap.size
 block : ∀ g, g < w.heap.size → g ≠ b → NB w g → w'.heap[g]? = w.heap[g]?
theorem KN.refl (b : Nat) (w : World) : KN b w w := ⟨Nat.le_refl _, fun _ _ _ _ => rfl⟩
theorem KN.trans {b : Nat} {w w' w'' : World} (h : KN b w w') (k : KN b w' w'') : KN b w w'' :=
 ⟨Nat.le_trans h.size k.size, fun g hg hb hn => by
  have h1 := h.block g hg hb hn; rw [k.block g (Nat.lt_of_lt_of_le hg h.size) hb (fun cur fr => by rw [h1]; exact hn cur fr), h1]⟩
theorem KN.of_below {b : Nat} {w w' : World} (h : Below w.heap.size w w') : KN b w w' := ⟨h.size, fun g hg _ _ => h.block g hg⟩
def BX (b : Nat) (w : World) (g : Nat) (t : TypeId) (cs : Array Value) : Prop := g ≠ b ∧ t ≠ 5 ∧ w.heap[g]? = some (.cells cs t (0, 0))
theorem BX.lt {b : Nat} {w : World} {g : Nat} {t : TypeId} {cs : Array Value} (h : BX b w g t cs) : g < w.heap.size := by
 rcases Nat.lt_or_ge g w.heap.size with h' | h'
 ·exact h'
 ·have := h.2.2; simp [Array.getElem?_eq_none h'] at this
theorem BX.keep {b : Nat} {w w' : World} {g : Nat} {t : TypeId} {cs : Array Value} (h : BX b w g t cs) (k : KN b w w') : BX b w' g t cs := by
 refine ⟨h.1, h.2.1, ?_⟩; rw [k.block g h.lt h.1 (fun cur fr e => by have := h.2.2; rw [this] at e; injection e with e; injection e with _ e2 _; exact h.2.1 e2)]
 exact h.2.2
theorem BX.cell {b : Nat} {w : World} {g : Nat} {t : TypeId} {cs : Array Value} (h : BX b w g t cs) (j : Nat) : w.cell? ⟨g, j, none⟩ = cs[j]? := Lib.cell_of_heap h.2.2 j
theorem BX.new {b : Nat} {w : World} {t : TypeId} {cs : Array Value} (hb : b < w.heap.size) (ht : t ≠ 5) : BX b (w.alloc (.cells cs t)) w.heap.size t cs := ⟨by omega, ht, heap_alloc_new w _⟩
set_option maxHeartbeats 1000000 in
theorem copyCheck_used (b : Nat) (w : World) (h0 : w.cell? ⟨b, 0, none⟩ = some (.pointer (some ⟨b, 0, none⟩))) :
 Calls Tryz.prog 77 #[.pointer (some ⟨b, 0, none⟩)] w fun e w' => e = .returned (.tuple #[]) ∧ w' = w := by
 obtain ⟨j, hj, _⟩ := Option.map_eq_some_iff.1 size_builder; go_enter Tryz.func77, Tryz.ntmps77; go_wp2; rw [Lib.run_neq_ptr_same w _ Tryz.underlying80 hj]; go_wp2; go_end0; exact ⟨rfl, rfl⟩
set_option maxHeartbeats 1000000 in
theorem copyCheck_fresh (b : Nat) (w : World) (h0 : w.cell? ⟨b, 0, none⟩ = some (.pointer none)) (hsh : w.shape? b = some (152, 2)) (hfz : w.frozen? ⟨b, 0, none⟩ = false) :
 Calls Tryz.prog 77 #[.pointer (some ⟨b, 0, none⟩)] w fun e w' => e = .returned (.tuple #[]) ∧ w' = w.setCell ⟨b, 0, none⟩ (.pointer (some ⟨b, 0, none⟩)) := by
 obtain ⟨j, hj, hjs⟩ := Option.map_eq_some_iff.1 size_builder; go_enter Tryz.func77, Tryz.ntmps77; go_wp2; rw [Lib.run_to_unsafe w ⟨b, 0, none⟩ Tryz.underlying80 Tryz.underlying221 hj (by rw [hjs]; decide) hsh (Nat.zero_lt_succ 1)]
 simp only [Result.andThen]; rw [Oper.upon_value]; go_wp2; rw [run_callFunc_extern Tryz.func126 (by kernel_rfl) (by kernel_rfl) (by kernel_rfl) (e := Extern.AbiNoEscape.same) (by kernel_rfl)]
 rw [Lib.run_noEscape]; simp only [Result.andThen]; rw [Oper.upon_value]; go_wp2; rw [Lib.run_from_unsafe w ⟨b, 0, none⟩ Tryz.underlying221 Tryz.underlying80 hj hsh lies_builder]; simp only [Result.andThen]; rw [Oper.upon_value]; go_wp2; go_end0; exact ⟨rfl, rfl⟩
theorem copyCheck_any (B b : Nat) (l : BL) (w : World) (h : IsWr B b l w) :
 Calls Tryz.prog 77 #[.pointer (some ⟨b, 0, none⟩)] w fun e w' => e = .returned (.tuple #[]) ∧ (WrAt B b (.pointer (some ⟨b, 0, none⟩)) l w' ∧ Below B w w' ∧ KN b w w') := by
 rcases h with h | h
 ·refine (copyCheck_fresh b w h.cell0 h.shape h.frozen0).mono ?_; rintro e w' ⟨rfl, rfl⟩; exact ⟨rfl, h.used _, (Below.refl B w).setCell (p := ⟨b, 0, none⟩) h.1 _, by simp, fun g _ hb _ => Below.heap_setCell _ _ _ _ (by simpa using hb)⟩
 ·refine (copyCheck_used b w h.cell0).mono ?_; rintro e w' ⟨rfl, rfl⟩; exact ⟨rfl, h, Below.refl B _, KN.refl _ _⟩
def WPost (B b : Nat) (l : BL) (w w' : World) : Prop := IsWr B b l w' ∧ Below B w w' ∧ KN b w w'
theorem IsWr.keep {B b : Nat} {l : BL} {w w' : World} (h : IsWr B b l w) (k : Below w.heap.size w w') : IsWr B b l w' := by
 rcases h with ⟨h0, v, h1, h2, h3⟩ | ⟨h0, v, h1, h2, h3⟩
 ·have hlt : b < w.heap.size := Lib.BuilderAt.lt ⟨h0, v, h1, h2, h3⟩
  exact .inl ⟨h0, v, by rw [k.block b hlt]; exact h1, by
   refine ⟨h2.1, ?_⟩; rcases h2.2 with hn | ⟨g, cap, cur, rfl, hb, hg, rest⟩
   ·exact .inl hn
   ·exact .inr ⟨g, cap, cur, rfl, hb, by rw [k.block g (Array.getElem?_eq_some_iff.1 hg).1]; exact hg, rest⟩, h3⟩
 ·have hlt : b < w.heap.size := Lib.BuilderAt.lt ⟨h0, v, h1, h2, h3⟩
  exact .inr ⟨h0, v, by rw [k.block b hlt]; exact h1, by
   refine ⟨h2.1, ?_⟩; rcases h2.2 with hn | ⟨g, cap, cur, rfl, hb, hg, rest⟩
   ·exact .inl hn
   ·exact .inr ⟨g, cap, cur, rfl, hb, by rw [k.block g (Array.getElem?_eq_some_iff.1 hg).1]; exact hg, rest⟩, h3⟩
theorem IsWr.lt {B b : Nat} {l : BL} {w : World} (h : IsWr B b l w) : b < w.heap.size := h.elim Lib.BuilderAt.lt Lib.BuilderAt.lt
theorem WPost.trans {B b : Nat} {l l' : BL} {w w' w'' : World} (h : WPost B b l w w') (k : WPost B b l' w' w'') : WPost B b l' w w'' := ⟨k.1, h.2.1.trans k.2.1, h.2.2.trans k.2.2⟩
theorem WPost.keep {B b : Nat} {l : BL} {w w' w'' : World} (h : WPost B b l w w') (k : Below w'.heap.size w' w'') (hB : B ≤ w.heap.size) : WPost B b l w w'' := ⟨h.1.keep k, h.2.1.trans (k.mono (Nat.le_trans hB h.2.1.size)), h.2.2.trans (KN.of_below k)⟩
theorem strCells_bytes (s : ByteArray) : Lib.strCells s = Lib.byteCells s.data.toList := by
 simp [Lib.strCells, Lib.byteCells]
set_option maxHeartbeats 2000000 in
theorem writeString_any (B b : Nat) (l : BL) (s : ByteArray) (w : World) (h : IsWr B b l w) (hlen : l.length + s.size ≤ 140737488355328) (hBw : B ≤ w.heap.size) :
 Calls Tryz.prog 32 #[.pointer (some ⟨b, 0, none⟩), .string s] w fun e w' => e = .returned (.tuple #[.int .i64 s.size, .nilIface]) ∧ WPost B b (l ++ s.data.toList) w w' := by
 obtain ⟨i0, hi, hz0, hz1, hz2⟩ := info_parts info_byte; have HI := Lib.hid (And.intro hi (And.intro hz0 (And.intro hz1 hz2))); clear hi hz0 hz1 hz2; have HC := Lib.hid (copyCheck_any B b l w h); clear h; go_enter Tryz.func32, Tryz.ntmps32; go_wp2_with (go_at_call 77; refine HC.out.mono ?_); rintro e w1 ⟨rfl, h1, hb1, hkn1⟩; obtain ⟨hB, v, hbk, hown, hne⟩ := h1; have HKN1 := Lib.hid hkn1; clear hkn1; have c0 : w1.cell? ⟨b, 0, none⟩ = some (.pointer (some ⟨b, 0, none⟩)) := by rw [Lib.cell_of_heap hbk]; rfl
 have c1 : w1.cell? ⟨b, 1, none⟩ = some v := by rw [Lib.cell_of_heap hbk]; rfl
 rw [Lib.byteCells_length] at hown; have HOWN := Lib.hid hown; have HNE := Lib.hid hne; have HBK := Lib.hid hbk; have HB1 := Lib.hid hb1; clear hown hne hbk hb1; go_wp2_with (at_builtin; refine Lib.wpList_append_own_string _ rfl _ _ 81 9 rfl B 5 i0 Tryz.underlying81 Tryz.underlying9 HI.out.1 HI.out.2.1 HI.out.2.2.1 HI.out.2.2.2 _ _ _ rfl HOWN.out s rfl ?c3 ?c4 ?c5 ?_)
 case c3 => unfold maxLen; omega
 case c4 => omega
 case c5 => have := HB1.out.size; omega
 intro v' w2 hown' hgrow _
 have hlt : b < w1.heap.size := by
  rcases Nat.lt_or_ge b w1.heap.size with h' | h'
  ·exact h'
  ·have hbk := HBK.out; simp [Array.getElem?_eq_none h'] at hbk
 have hb2 : w2.heap[b]? = some (.cells #[.pointer (some ⟨b, 0, none⟩), v] 152 (0, 0)) := by
  rw [hgrow.block b hlt (fun e => HNE.out e.symm)]
  exact HBK.out
 have d0 : w2.cell? ⟨b, 0, none⟩ = some (.pointer (some ⟨b, 0, none⟩)) := by rw [Lib.cell_of_heap hb2]; rfl
 have d1 : w2.cell? ⟨b, 1, none⟩ = some v := by rw [Lib.cell_of_heap hb2]; rfl
 have f1 : w2.frozen? ⟨b, 1, none⟩ = false := Lib.frozen_of_heap hb2 1
 obtain ⟨ao, n', cap, rfl⟩ : ∃ ao n' cap, v' = .slice ao n' cap := by
  rcases hown'.2 with ⟨hv, _⟩ | ⟨g, cap, cur, hv, _⟩
  ·exact ⟨_, _, _, hv⟩
  ·exact ⟨_, _, _, hv⟩
 have HE1 := Lib.hid (Lib.BuilderAt.put (T := 152) (e := 5) hB hb2 (bs' := Lib.byteCells (l ++ s.data.toList)) (by rw [strCells_bytes] at hown'; simpa [Lib.byteCells] using hown') (by decide))
 have HE2 := Lib.hid ((HB1.out.grown hgrow (by have := HB1.out.size; omega) (fun k hk => (HOWN.out.lt k hk).1)).setCell (p := ⟨b, 1, none⟩) hB (.slice ao n' cap))
 have HKN : Hid (KN b w (w2.setCell ⟨b, 1, none⟩ (.slice ao n' cap))) := by
  refine HKN1.out.trans ⟨by simpa using hgrow.size, fun g hg hgb hn => ?_⟩
  rw [Below.heap_setCell _ _ _ _ (by simpa using hgb), hgrow.block g hg (fun e => ?_)]
  rcases HOWN.out.2 with ⟨hv, _⟩ | ⟨g', cap', cur, hv, _, hg', _⟩
  ·rw [hv] at e; cases e
  ·rw [hv] at e; cases e; exact hn _ _ hg'
 clear hown' hgrow hb2 c0 c1; go_wp2; go_ret2; exact ⟨rfl, .inr HE1.out, HE2.out, HKN.out⟩
set_option maxHeartbeats 1000000 in
theorem string_any (B b : Nat) (l : BL) (w : World) (h : IsWr B b l w) (h0 : l ≠ []) :
 Calls Tryz.prog 36 #[.pointer (some ⟨b, 0, none⟩)] w fun e w' => e = .returned (.string (bsOf l)) ∧ Below B w w' := by
 obtain ⟨p, hB, v, hbk, hown, hne⟩ : ∃ p, WrAt B b p l w := by
  rcases h with h | h
  ·exact ⟨_, h⟩
  ·exact ⟨_, h⟩
 have hl0 : l.length ≠ 0 := by simpa using h0
 rw [Lib.byteCells_length] at hown
 obtain ⟨g, cap, cur, rfl, hbg, hg, hnc, hcm, hcs, htake⟩ : ∃ g cap cur, v = .slice (some ⟨g, 0, none⟩) l.length cap ∧ B ≤ g ∧ w.heap[g]? = some (.cells cur 5 (0, 0)) ∧ l.length ≤ cap ∧ cap ≤ maxLen ∧ cur.size = cap * 1 ∧ cur.toList.take (l.length * 1) = Lib.byteCells l := by
  rcases hown.2 with ⟨_, hz⟩ | ⟨g, cap, cur, hv, r⟩
  ·exact absurd hz hl0
  ·exact ⟨g, cap, cur, hv, r⟩
 have c1 : w.drew.cell? ⟨b, 1, none⟩ = some (.slice (some ⟨g, 0, none⟩) l.length cap) := by
  have : w.drew.heap[b]? = some (.cells #[p, .slice (some ⟨g, 0, none⟩) l.length cap] 152 (0, 0)) := hbk; rw [Lib.cell_of_heap this]; rfl
 have hSD : (Builtin.unsafeSliceData_ #[81] 156 #[.slice (some ⟨g, 0, none⟩) l.length cap]).run Tryz.prog w.drew = .ok (.pointer (some ⟨g, 0, none⟩)) w.drew :=
  Lib.run_unsafeSliceData_row _ _ _ _ _ _ (by omega)
 have hUS : (Builtin.unsafeString_ #[156, 3] 9 #[.pointer (some ⟨g, 0, none⟩), .int .i64 l.length]).run Tryz.prog w.drew = .ok (.string (bsOf l)) (w.drew.freeze ⟨g, 0, none⟩ l.length) := by
  refine Lib.run_unsafeString_row w.drew 156 3 9 5 Tryz.underlying156 (by kernel_rfl) g cur.size (by have hg' : w.drew.heap[g]? = some (.cells cur 5 (0, 0)) := hg; simp [World.shape?, hg']) l h0 (by omega) (by unfold maxLen at hcm; omega) ?_
  intro j x hx; have := hown.cells (g := g) rfl j (.int .u8 x.toNat) (by simp [Lib.byteCells, hx])
  exact this
 have HH := Lib.hid hbg; clear hown hne hbk hg htake hcs hcm hl0 h0 h; go_enter Tryz.func36, Tryz.ntmps36; go_wp2
 go_region
 all_goals (go_wp2; go_ret; exact ⟨rfl, Lib.below_freeze (Below.drew (Below.refl B w)) (p := ⟨g, 0, none⟩) HH.out _⟩)
end
end Go.Proofs.YtboegjdkedjhcaaGreatDoor
