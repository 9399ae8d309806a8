/- Rows of one's own: shapes, blocks, types. No program in sight. Worlds that are kept but for some blocks; rows whose elements are set. No program in sight. A region that draws its order: the operations that only read are taken first, the others come up one by one; what the reads rest on is kept till all of them must be done. No program in sight. A region that draws its order: the operations that only read are taken first; the others are walked in each order that they may come up in, step by step. No program in sight. What the walks import. No program in sight. What law33's functions read of the library's tables, and a number's digits: internal/strconv.FormatUint, strconv.FormatUint, dis.num, dis.r. A region that draws its order, what its reads rest on being kept by every operation: reads may be taken first wherever they are ready. No program in sight. -/
import Derived.WalkKit
import Derived.OwnWalk
import Derived.Test.YtoonkfhphbojcaaGreatDoorBv06
import Derived.Test.YtoonkfhphbojcaaGreatDoorBv05
import Derived.Deep.QuietTactic
import Derived.Deep.Quiet
import Derived.StillTail
import Derived.OrdersHeld
import Derived.Deep.RegionHeld3
import Derived.Lib.Hide
import Derived.BigQuiet
import Derived.StillTailTactics
import Derived.Deep.Cut
import Derived.Deep.CutRange
import Derived.Deep.CutBlock
import Derived.Deep.DeepCutAuto
import Derived.Deep.LoopGhost
import Derived.Deep.MidRow
import Derived.Deep.AppendLies
import Derived.LoopTactic
import Derived.Outline
import Derived.Handy
import Derived.IntWalk
import Derived.Maps.AppendAt
import Derived.WalkLawsBesides
import Derived.RegionTactic
import Derived.Laws.Rows
import Derived.Laws.BitsAllLaws
import Derived.Test.YtoonkfhphbojcaaGreatDoorProg
import Derived.Test.YtoonkfhphbojcaaGreatDoorBv02
import Derived.Test.YtoonkfhphbojcaaGreatDoorBv07
import Derived.Test.YtoonkfhphbojcaaGreatDoorBv09
import Derived.Test.YtoonkfhphbojcaaGreatDoorDisLay
import Derived.Lib.ItoaMem
import Derived.Lib.Walk
namespace Go.Proofs.YtoonkfhphbojcaaGreatDoor
open Go.RowKit
theorem owns_setCell {w : World} {base : Nat} {e : TypeId} {k : Nat} {v : Value} {n : Nat} {xs : List Value} (h : w.ownsRow base e k v n xs) {a : Addr} (ha : a.block < base) (u : Value) : (w.setCell a u).ownsRow base e k v n xs := by
  refine ⟨h.1, ?_⟩
  rcases h.2 with hn | ⟨g, cap, cur, rfl, hb, hg, rest⟩
  · exact .inl hn
  · exact .inr ⟨g, cap, cur, rfl, hb, by rw [Below.heap_setCell w a u g (by omega)]; exact hg, rest⟩
theorem owns_mono {w : World} {base base' : Nat} {e : TypeId} {k : Nat} {v : Value} {n : Nat} {xs : List Value} (h : w.ownsRow base e k v n xs) (hb : base' ≤ base) : w.ownsRow base' e k v n xs := by
  refine ⟨h.1, ?_⟩
  rcases h.2 with hn | ⟨g, cap, cur, rfl, hg, rest⟩
  · exact .inl hn
  · exact .inr ⟨g, cap, cur, rfl, by omega, rest⟩
theorem own_away {w w' : World} {base base' : Nat} {e e' : TypeId} {k k' : Nat} {v v' : Value} {n n' : Nat} {xs xs' : List Value} (h : w.ownsRow base e k v n xs) (h' : w'.ownsRow base' e' k' v' n' xs') (hb : w'.heap.size ≤ base) : v.ownBlock = none ∨ v.ownBlock ≠ v'.ownBlock := by
  cases hv : v.ownBlock with
  | none => exact .inl rfl
  | some g =>
    refine .inr fun h1 => ?_
    have h2 := (h.lt g hv).1
    have h3 := (h'.lt g h1.symm).2
    omega
theorem own_shape {w : World} {base : Nat} {e : TypeId} {k : Nat} {v : Value} {n : Nat} {xs : List Value} (h : w.ownsRow base e k v n xs) : ∃ p c, v = .slice p n c := by
  rcases h.2 with ⟨rfl, rfl⟩ | ⟨g, cap, cur, rfl, -⟩
  · exact ⟨_, _, rfl⟩
  · exact ⟨_, _, rfl⟩
theorem own_type {w : World} {B : Nat} {e : TypeId} {k n : Nat} {v : Value} {xs : List Value} (h : w.ownsRow B e k v n xs) {g : Nat} (hg : v.ownBlock = some g) : ∃ cur, w.heap[g]? = some (.cells cur e (0, 0)) := by
  rcases h.2 with ⟨rfl, -⟩ | ⟨g', cap, cur, rfl, -, h1, -⟩
  · cases hg
  · cases hg; exact ⟨cur, h1⟩
theorem own_ne {w : World} {B B' : Nat} {e e' : TypeId} {k k' n n' : Nat} {v v' : Value} {xs xs' : List Value} (h : w.ownsRow B e k v n xs) (h' : w.ownsRow B' e' k' v' n' xs') (hne : e ≠ e') {g : Nat} (hg : v.ownBlock = some g) (hg' : v'.ownBlock = some g) : False := by
  obtain ⟨cur, h1⟩ := own_type h hg
  obtain ⟨cur', h2⟩ := own_type h' hg'
  rw [h1] at h2
  injection h2 with h2; injection h2 with _ h3 _; exact hne h3
theorem own_ne_box {w : World} {B : Nat} {e t : TypeId} {k n g : Nat} {v : Value} {xs : List Value} {cs : Array Value} (h : w.ownsRow B e k v n xs) (hb : w.heap[g]? = some (.cells cs t (0, 0))) (hne : e ≠ t) : v.ownBlock ≠ some g := fun hg => by
  obtain ⟨cur, h1⟩ := own_type h hg
  rw [h1] at hb
  injection hb with h2; injection h2 with _ h3 _; exact hne h3
end Go.Proofs.YtoonkfhphbojcaaGreatDoor
namespace Go.Proofs.YtoonkfhphbojcaaGreatDoor
open Go.RowKit
/-- w' is w but for the blocks of S, and new ones -/
structure KB (S : Nat → Prop) (w w' : World) : Prop where
  os : w'.os = w.os
  tape : w'.tape = w.tape
  output : w'.output = w.output
  size : w.heap.size ≤ w'.heap.size
  block : ∀ k, k < w.heap.size → ¬ S k → w'.heap[k]? = w.heap[k]?
theorem KB.refl (S : Nat → Prop) (w : World) : KB S w w := ⟨rfl, rfl, rfl, Nat.le_refl _, fun _ _ _ => rfl⟩
theorem KB.trans {S : Nat → Prop} {a b c : World} (h : KB S a b) (k : KB S b c) : KB S a c :=
  ⟨k.os.trans h.os, k.tape.trans h.tape, k.output.trans h.output, Nat.le_trans h.size k.size, fun i hi hs => (k.block i (Nat.lt_of_lt_of_le hi h.size) hs).trans (h.block i hi hs)⟩
theorem KB.of_below {S : Nat → Prop} {w w' : World} (h : Below w.heap.size w w') : KB S w w' := ⟨h.os, h.tape, h.output, h.size, fun k hk _ => h.block k hk⟩
theorem KB.of_grown {S : Nat → Prop} {w w' : World} {r : Option Nat} (h : w.grownBy w' r) (hr : ∀ k, r = some k → S k ∨ w.heap.size ≤ k) : KB S w w' :=
  ⟨h.os, h.tape, h.output, h.size, fun k hk hs => h.block k hk fun e => by rcases hr k e.symm with h1 | h1; exact hs h1; omega⟩
/-- a row that was made later may be written -/
theorem KB.grown {S : Nat → Prop} {a w w' : World} {r : Option Nat} (h : KB S a w) (hg : w.grownBy w' r) (hr : ∀ k, r = some k → S k ∨ a.heap.size ≤ k) : KB S a w' :=
  ⟨hg.os.trans h.os, hg.tape.trans h.tape, hg.output.trans h.output, Nat.le_trans h.size hg.size, fun k hk hs => (hg.block k (Nat.lt_of_lt_of_le hk h.size) fun e => by rcases hr k e.symm with h1 | h1; exact hs h1; omega).trans (h.block k hk hs)⟩
theorem KB.setCell {S : Nat → Prop} {a w : World} (h : KB S a w) {p : Addr} (hp : S p.block ∨ a.heap.size ≤ p.block) (u : Value) : KB S a (w.setCell p u) :=
  ⟨h.os, h.tape, h.output, by simpa using h.size, fun k hk hs => (Below.heap_setCell _ _ _ _ (fun e => by rcases hp with h1 | h1; exact hs (e ▸ h1); omega)).trans (h.block k hk hs)⟩
theorem KB.alloc {S : Nat → Prop} {a w : World} (h : KB S a w) (o : Obj) : KB S a (w.alloc o) :=
  ⟨h.os, h.tape, h.output, by have := h.size; simp; omega, fun k hk hs => (Below.heap_alloc _ _ _ (Nat.lt_of_lt_of_le hk h.size)).trans (h.block k hk hs)⟩
theorem KB.drew {S : Nat → Prop} {a w : World} (h : KB S a w) : KB S a w.drew := ⟨h.os, h.tape, h.output, h.size, h.block⟩
theorem KB.drewN {S : Nat → Prop} {a w : World} (h : KB S a w) (n : Nat) : KB S a (w.drewN n) := ⟨h.os, h.tape, h.output, h.size, h.block⟩
theorem KB.below {S : Nat → Prop} {w w' : World} (h : KB S w w') {B : Nat} (hB : B ≤ w.heap.size) (hs : ∀ k, k < B → ¬ S k) : Below B w w' :=
  ⟨h.os, h.tape, h.output, h.size, fun k hk => h.block k (by omega) (hs k hk)⟩
theorem KB.cell {S : Nat → Prop} {w w' : World} (h : KB S w w') {b o : Nat} {v : Value} (hb : b < w.heap.size) (hs : ¬ S b) (hc : w.cell? ⟨b, o, none⟩ = some v) : w'.cell? ⟨b, o, none⟩ = some v := by
  rw [World.cell?_of_block (w := w) (h.block b hb hs)]; exact hc
theorem KB.frozen {S : Nat → Prop} {w w' : World} (h : KB S w w') {b o : Nat} {v : Bool} (hb : b < w.heap.size) (hs : ¬ S b) (hc : w.frozen? ⟨b, o, none⟩ = v) : w'.frozen? ⟨b, o, none⟩ = v := by
  rw [World.frozen?_of_block (w := w) (h.block b hb hs)]; exact hc
theorem own_congr {w w' : World} {base : Nat} {e : TypeId} {k : Nat} {v : Value} {n : Nat} {xs : List Value} (h : w.ownsRow base e k v n xs) (hg : ∀ g, v.ownBlock = some g → w'.heap[g]? = w.heap[g]?) : w'.ownsRow base e k v n xs := by
  refine ⟨h.1, ?_⟩
  rcases h.2 with hn | ⟨g, cap, cur, rfl, hb, h1, rest⟩
  · exact .inl hn
  · exact .inr ⟨g, cap, cur, rfl, hb, by rw [hg g rfl]; exact h1, rest⟩
theorem KB.owns {S : Nat → Prop} {w w' : World} (h : KB S w w') {base : Nat} {e : TypeId} {k : Nat} {v : Value} {n : Nat} {xs : List Value} (ho : w.ownsRow base e k v n xs) (hs : ∀ g, v.ownBlock = some g → ¬ S g) : w'.ownsRow base e k v n xs :=
  own_congr ho fun g hg => h.block g (ho.lt g hg).2 (hs g hg)
/-- one element of three cells is set -/
theorem flat_set3 {α : Type} {f : α → List Value} (hk : ∀ x, (f x).length = 3) {x : α} {a b c : Value} (hx : f x = [a, b, c]) : ∀ (l : List α) (i : Nat), i < l.length → ((((l.flatMap f).set (i * 3) a).set (i * 3 + 1) b).set (i * 3 + 2) c) = (l.set i x).flatMap f
  | y :: r, 0, _ => by
    have h3 := hk y
    match hy : f y, h3 with
    | [y0, y1, y2], _ => simp [hy, hx]
  | y :: r, i + 1, h => by
    have h3 := hk y
    have ih := flat_set3 hk hx r i (by simpa using h)
    match hy : f y, h3 with
    | [y0, y1, y2], _ =>
      rw [List.set_cons_succ, List.flatMap_cons, List.flatMap_cons, hy, ← ih, show (i + 1) * 3 = i * 3 + 1 + 1 + 1 by omega, show i * 3 + 1 + 1 + 1 + 1 = i * 3 + 1 + 1 + 1 + 1 from rfl]
      simp
theorem zero_cells3 (z : Value) (a b c : Value) (hz : z.cells = #[a, b, c]) : ∀ n, (madeCells z.cells (n * 3)).toList = (List.replicate n ()).flatMap fun _ => [a, b, c] := by
  intro n
  apply List.ext_getElem?
  intro q
  rw [hz]
  by_cases hq : q < n * 3
  · have h1 : q / 3 < (List.replicate n ()).length := by simp; omega
    have h2 := flat_get (f := fun _ : Unit => [a, b, c]) (k := 3) (fun _ => rfl) (List.replicate n ()) (q / 3) (q % 3) h1 (by omega)
    rw [show q / 3 * 3 + q % 3 = q by omega] at h2
    rw [h2]
    have h3 : q % 3 = 0 ∨ q % 3 = 1 ∨ q % 3 = 2 := by omega
    rcases h3 with h3 | h3 | h3 <;> simp [madeCells, hq, h3]
  · rw [List.getElem?_eq_none (by simp [size_madeCells]; omega), List.getElem?_eq_none (by rw [flat_len (k := 3) (fun _ => rfl)]; simp; omega)]
end Go.Proofs.YtoonkfhphbojcaaGreatDoor
namespace Go.Proofs.YtoonkfhphbojcaaGreatDoor
open Go.RowKit
structure HW (S : World → Prop) where
  u : World
  h : S u
section
variable {P : Program} {ops : Array Oper} {Q : Exit → Act → World → Prop} {md : Region.Mode} {S : World → Prop} {t : Nat}
/-- whichever comes up: S holds behind it as long as number t has not come up -/
def wpAnyT (P : Program) (md : Region.Mode) (ops : Array Oper) (Q : Exit → Act → World → Prop) (S : World → Prop) (t : Nat) : Nat → Array Bool → Act → World → Prop
  | 0, listed, a, w => Region.ready md ops listed = [] ∧ Q .normal a w
  | fuel + 1, listed, a, w =>
    (Region.ready md ops listed = [] → Q .normal a w) ∧
    ∀ i ∈ Region.ready md ops listed, wpOp P ops Q i (fun a' w' => ((listed.setIfInBounds i true).getD t true = false → S w') ∧ wpAnyT P md ops Q S t fuel (listed.setIfInBounds i true) a' w') a w
theorem wpAny_of_T : ∀ (fuel : Nat) (listed : Array Bool) (a : Act) (w : World), wpAnyT P md ops Q S t fuel listed a w → wpAny P md ops Q fuel listed a w
  | 0, _, _, _, h => h
  | fuel + 1, _, _, _, h => ⟨h.1, fun i hi => wpOp_mono (fun a' w' h' => wpAny_of_T fuel _ a' w' h'.2) (h.2 i hi)⟩
theorem wpAnyT_first {i : Nat} {oi : Oper} {v : Value} (hi : ops[i]? = some oi) (hsel : ∀ (j : Nat) (o : Oper) cs b, ops[j]? = some o → o.op ≠ .select cs b)
    (hQ : ∀ c a w, Q (.panic c) (a.put oi.dst v) w → Q (.panic c) a w) (hwt : Region.waitsFor md ops t i = true) (hti : t ≠ i) :
    ∀ (fuel : Nat) (listed : Array Bool) (a : Act) (w : World),
      (∀ j oj, ops[j]? = some oj → j ≠ i → listed.getD j true = false → (∀ e ∈ oj.after, Region.binds md e = true → e.on ≠ i) → oi.apart ops oj = true) →
      i ∈ Region.ready md ops listed → listed.getD t true = false → YieldsIf P ops S oi v a → S w →
      wpAnyT P md ops Q S t fuel (listed.setIfInBounds i true) (a.put oi.dst v) w → wpAnyT P md ops Q S t (fuel + 1) listed a w := by
  intro fuel
  induction fuel with
  | zero =>
    intro listed a w _ hr _ hy hS H
    refine ⟨fun h => (by rw [h] at hr; cases hr), fun j hj => ?_⟩
    by_cases hji : j = i
    · subst hji; exact hy.wpOp hi hS ⟨fun _ => hS, H⟩
    · have := ready_mono hj hji
      rw [H.1] at this
      cases this
  | succ fuel ih =>
    intro listed a w hfree hr ht hy hS H
    refine ⟨fun h => (by rw [h] at hr; cases hr), fun j hj => ?_⟩
    by_cases hji : j = i
    · subst hji; exact hy.wpOp hi hS ⟨fun _ => hS, H⟩
    · have h1 := H.2 j (ready_mono hj hji)
      obtain ⟨hjun, oj, hoj, hall⟩ := mem_ready.1 hj
      have hnot : ∀ e ∈ oj.after, Region.binds md e = true → e.on ≠ i := fun e he hb heq => by
        have h1 := hall e he hb
        have h0 := (mem_ready.1 hr).1
        rw [heq, getD_both h0] at h1
        cases h1
      have hjt : j ≠ t := fun e => by
        obtain ⟨ot, hot, e2, he2, hb2, hon⟩ := Region.waitsFor_spec hwt
        have : ot = oj := Option.some.inj (hot.symm.trans (e ▸ hoj))
        exact hnot e2 (this ▸ he2) hb2 hon
      have h2 := wpOp_putIf hoj (hfree j oj hoj hji hjun hnot) (fun cs b => hsel i oi cs b hi) (fun cs b => hsel j oj cs b hoj) hQ hy h1
      have hfree' : ∀ k ok, ops[k]? = some ok → k ≠ i → (listed.setIfInBounds j true).getD k true = false →
          (∀ e ∈ ok.after, Region.binds md e = true → e.on ≠ i) → oi.apart ops ok = true := fun k ok hk hki hun hno => by
        refine hfree k ok hk hki ?_ hno
        by_cases hjk : j = k
        · subst hjk; exact hjun
        · rw [getD_set_ne true hjk] at hun; exact hun
      have ht' : (listed.setIfInBounds j true).getD t true = false := by rw [getD_set_ne true hjt]; exact ht
      refine wpOp_mono (fun a' w' h3 => ?_) h2
      have hS' : S w' := h3.2.1 (by rw [getD_set_ne true hjt, getD_set_ne true (Ne.symm hti)]; exact ht)
      refine ⟨fun _ => hS', ih (listed.setIfInBounds j true) a' w' hfree' (ready_mono hr (Ne.symm hji)) ht' h3.1 hS' ?_⟩
      rw [Array.setIfInBounds_comm _ _ hji]
      exact h3.2.2
/-- the reads, one by one -/
def wpReads (P : Program) (ops : Array Oper) (S : World → Prop) (Q : Act → Prop) : List Oper → Act → Prop
  | [], a => Q a
  | o :: rest, a => if Region.wanted o (yielded ops a.tmps) then ∃ v, (∀ x : HW S, (execOp a.eval o).run P x.u = .ok (.value v) x.u) ∧ wpReads P ops S Q rest (a.put o.dst v) else wpReads P ops S Q rest (a.put o.dst undef)
theorem wpReads_nil {Q : Act → Prop} {a : Act} (h : Q a) : wpReads P ops S Q [] a := h
theorem wpReads_step {Q : Act → Prop} {a : Act} {o : Oper} {rest : List Oper}
    (h : ∀ K : Act → Prop, (∀ a, wpReads P ops S Q rest a → K a) → if Region.wanted o (yielded ops a.tmps) then ∃ v, (∀ x : HW S, (execOp a.eval o).run P x.u = .ok (.value v) x.u) ∧ K (a.put o.dst v) else K (a.put o.dst undef)) : wpReads P ops S Q (o :: rest) a :=
  h _ (fun _ h => h)
/-- the others: behind those ahead of number t S is shown anew -/
def wpTurns (P : Program) (ops : Array Oper) (Q : Exit → Act → World → Prop) (S : World → Prop) (post : List Oper) : List Oper → Act → World → Prop
  | [], a, w => wpList P ops Q post a w
  | o :: rest, a, w => if Region.wanted o (yielded ops a.tmps) then o.wp P a w (fun a' w' => S w' ∧ wpTurns P ops Q S post rest a' w') Q else S w ∧ wpTurns P ops Q S post rest (a.put o.dst undef) w
theorem wpTurns_nil {post : List Oper} {a : Act} {w : World} (h : wpList P ops Q post a w) : wpTurns P ops Q S post [] a w := h
theorem wpTurns_step {post : List Oper} {a : Act} {w : World} {o : Oper} {rest : List Oper}
    (h : ∀ K : Act → World → Prop, (∀ a w, S w → wpTurns P ops Q S post rest a w → K a w) → if Region.wanted o (yielded ops a.tmps) = true then Oper.wp P o a w K Q else K (a.put o.dst undef) w) : wpTurns P ops Q S post (o :: rest) a w := by
  have := h (fun a w => S w ∧ wpTurns P ops Q S post rest a w) (fun _ _ h1 h2 => ⟨h1, h2⟩)
  exact this
def getAll (ops : Array Oper) (l : List Nat) : List Oper := l.filterMap fun i => ops[i]?
def Region.seqL (md : Region.Mode) (ops : Array Oper) : List Nat → Array Bool → Bool
  | [], listed => (Region.ready md ops listed).isEmpty
  | k :: r, listed => decide (Region.ready md ops listed = [k]) && Region.seqL md ops r (listed.setIfInBounds k true)
/-- the others' order, number t being the first of the last ones -/
def Region.preL (md : Region.Mode) (ops : Array Oper) (t : Nat) (post : List Nat) : List Nat → Array Bool → Bool
  | [], listed => Region.seqL md ops (t :: post) listed
  | k :: r, listed => decide (Region.ready md ops listed = [k]) && decide (k ≠ t) && Region.preL md ops t post r (listed.setIfInBounds k true)
def Region.headL (md : Region.Mode) (ops : Array Oper) (t : Nat) (pre post : List Nat) : List Nat → Array Bool → Bool
  | [], listed => Region.preL md ops t post pre listed
  | k :: r, listed => (Region.ready md ops listed).contains k && Region.free md ops listed k && Region.waitsFor md ops t k && decide (t ≠ k) && Region.headL md ops t pre post r (listed.setIfInBounds k true)
def Region.leadB (md : Region.Mode) (ops : Array Oper) (hs pre : List Nat) (t : Nat) (post : List Nat) : Bool :=
  Region.noSelect ops && decide (t < ops.size) && decide (hs.length + pre.length + (post.length + 1) = ops.size) && Region.headL md ops t pre post hs (Array.replicate ops.size false)
theorem ready_at {k : Nat} {listed : Array Bool} (h : Region.ready md ops listed = [k]) : ∃ o, ops[k]? = some o := by
  have : k ∈ Region.ready md ops listed := by rw [h]; simp
  obtain ⟨-, o, ho, -⟩ := mem_ready.1 this
  exact ⟨o, ho⟩
theorem getD_stays {listed : Array Bool} {i t : Nat} (h : listed.getD t true = true) : (listed.setIfInBounds i true).getD t true = true := by
  by_cases hit : i = t
  · subst hit
    rcases Nat.lt_or_ge i listed.size with h' | h'
    · simp [h']
    · simp
  · rw [getD_set_ne true hit]; exact h
theorem wpAnyT_seq : ∀ (l : List Nat) (listed : Array Bool) (a : Act) (w : World), listed.getD t true = true →
    Region.seqL md ops l listed = true → wpList P ops Q (getAll ops l) a w → wpAnyT P md ops Q S t l.length listed a w
  | [], _, _, _, _, hB, h => ⟨by simpa [Region.seqL] using hB, h⟩
  | k :: l, listed, a, w, ht, hB, h => by
    simp only [Region.seqL, Bool.and_eq_true, decide_eq_true_eq] at hB
    obtain ⟨o, ho⟩ := ready_at hB.1
    have e : getAll ops (k :: l) = o :: getAll ops l := by simp [getAll, ho]
    rw [e] at h
    refine ⟨fun h1 => (by rw [hB.1] at h1; cases h1), fun i hi => ?_⟩
    rw [hB.1] at hi
    obtain rfl : i = k := by simpa using hi
    have hw : wpOp P ops Q i (wpList P ops Q (getAll ops l)) a w := by unfold wpOp; simp only [ho]; exact h
    have ht' := getD_stays (i := i) ht
    exact wpOp_mono (fun a' w' h' => ⟨fun h0 => (by rw [ht'] at h0; cases h0), wpAnyT_seq l _ a' w' ht' hB.2 h'⟩) hw
theorem getD_now {listed : Array Bool} {t : Nat} : (listed.setIfInBounds t true).getD t true = true := by
  rcases Nat.lt_or_ge t listed.size with h' | h'
  · simp [h']
  · simp
theorem wpAnyT_pre {post : List Nat} : ∀ (l : List Nat) (listed : Array Bool) (a : Act) (w : World),
    Region.preL md ops t post l listed = true → wpTurns P ops Q S (getAll ops (t :: post)) (getAll ops l) a w → wpAnyT P md ops Q S t (l.length + (post.length + 1)) listed a w
  | [], listed, a, w, hB, h => by
    simp only [Region.preL, Region.seqL, Bool.and_eq_true, decide_eq_true_eq] at hB
    obtain ⟨o, ho⟩ := ready_at hB.1
    have e : getAll ops (t :: post) = o :: getAll ops post := by simp [getAll, ho]
    have h' : wpList P ops Q (o :: getAll ops post) a w := by rw [← e]; exact h
    rw [show ([] : List Nat).length + (post.length + 1) = post.length + 1 by simp]
    refine ⟨fun h1 => (by rw [hB.1] at h1; cases h1), fun i hi => ?_⟩
    rw [hB.1] at hi
    obtain rfl : i = t := by simpa using hi
    have hw : wpOp P ops Q i (wpList P ops Q (getAll ops post)) a w := by unfold wpOp; simp only [ho]; exact h'
    have ht' : (listed.setIfInBounds i true).getD i true = true := getD_now
    exact wpOp_mono (fun a' w' h' => ⟨fun h0 => (by rw [ht'] at h0; cases h0), wpAnyT_seq post _ a' w' ht' hB.2 h'⟩) hw
  | k :: l, listed, a, w, hB, h => by
    simp only [Region.preL, Bool.and_eq_true, decide_eq_true_eq] at hB
    obtain ⟨⟨hr, hkt⟩, hB'⟩ := hB
    obtain ⟨o, ho⟩ := ready_at hr
    have e : getAll ops (k :: l) = o :: getAll ops l := by simp [getAll, ho]
    rw [e] at h
    rw [show (k :: l).length + (post.length + 1) = l.length + (post.length + 1) + 1 by simp; omega]
    refine ⟨fun h1 => (by rw [hr] at h1; cases h1), fun i hi => ?_⟩
    rw [hr] at hi
    obtain rfl : i = k := by simpa using hi
    have hw : wpOp P ops Q i (fun a' w' => S w' ∧ wpTurns P ops Q S (getAll ops (t :: post)) (getAll ops l) a' w') a w := by
      unfold wpOp; simp only [ho]
      unfold wpTurns at h
      split at h
      · rename_i hwn; simp only [hwn, if_true]; exact .inl h
      · rename_i hwn; simp only [hwn]; exact h
    exact wpOp_mono (fun a' w' h' => ⟨fun _ => h'.1, wpAnyT_pre l _ a' w' hB' h'.2⟩) hw
theorem wpAnyT_head {pre post : List Nat} (hsel : Region.noSelect ops = true) (hQ : ∀ c a d v w, Q (.panic c) (Act.put a d v) w → Q (.panic c) a w) (w : World) (hS : S w) : ∀ (l : List Nat) (listed : Array Bool) (a : Act), listed.getD t true = false →
    Region.headL md ops t pre post l listed = true → wpReads P ops S (fun a' => wpTurns P ops Q S (getAll ops (t :: post)) (getAll ops pre) a' w) (getAll ops l) a → wpAnyT P md ops Q S t (l.length + (pre.length + (post.length + 1))) listed a w
  | [], listed, a, _, hB, h => by
    rw [show ([] : List Nat).length + (pre.length + (post.length + 1)) = pre.length + (post.length + 1) by simp]
    exact wpAnyT_pre pre listed a w hB h
  | k :: l, listed, a, ht, hB, h => by
    simp only [Region.headL, Bool.and_eq_true, decide_eq_true_eq] at hB
    obtain ⟨⟨⟨⟨hr, hf⟩, hwt⟩, htk⟩, hB'⟩ := hB
    have hr' : k ∈ Region.ready md ops listed := by simpa using hr
    obtain ⟨-, o, ho, -⟩ := mem_ready.1 hr'
    have e : getAll ops (k :: l) = o :: getAll ops l := by simp [getAll, ho]
    rw [e] at h
    rw [show (k :: l).length + (pre.length + (post.length + 1)) = l.length + (pre.length + (post.length + 1)) + 1 by simp; omega]
    have ht' : (listed.setIfInBounds k true).getD t true = false := by rw [getD_set_ne true (Ne.symm htk)]; exact ht
    unfold wpReads at h
    split at h
    · rename_i hwn
      obtain ⟨v, hv, hn⟩ := h
      exact wpAnyT_first ho (Region.noSelect_spec hsel) (fun c a w => hQ c a _ _ w) hwt htk _ listed a w (Region.free_spec ho hf) hr' ht (.inl ⟨hwn, fun w hw => hv ⟨w, hw⟩⟩) hS
        (wpAnyT_head hsel hQ w hS l _ _ ht' hB' hn)
    · rename_i hwn
      exact wpAnyT_first ho (Region.noSelect_spec hsel) (fun c a w => hQ c a _ _ w) hwt htk _ listed a w (Region.free_spec ho hf) hr' ht (.inr ⟨by simpa using hwn, rfl⟩) hS
        (wpAnyT_head hsel hQ w hS l _ _ ht' hB' h)
theorem wp_region_lead {id : Nat} {a : Act} {w : World} {l : List Oper} (S : World → Prop) (hs pre : List Nat) (t : Nat) (post : List Nat) (hm : P.follows .mixedOrders = true) (hB : Region.leadB .any l.toArray hs pre t post = true)
    (hQ : ∀ c a d v w, Q (.panic c) (Act.put a d v) w → Q (.panic c) a w) (hS : S w.drew)
    (h : wpReads P l.toArray S (fun a' => wpTurns P l.toArray Q S (getAll l.toArray (t :: post)) (getAll l.toArray pre) a' w.drew) (getAll l.toArray hs) a) : (Code.region id l.toArray true).wp P Q a w := by
  simp only [Region.leadB, Bool.and_eq_true, decide_eq_true_eq] at hB
  obtain ⟨⟨⟨hsel, ht⟩, hlen⟩, hB'⟩ := hB
  refine wp_region_any hm (wpAny_of_T (S := S) (t := t) _ _ _ _ ?_)
  have := wpAnyT_head hsel hQ w.drew hS hs _ a (getD_in (by simpa using ht) (getD_replicate_false _ _)) hB' h
  rw [← Nat.add_assoc, hlen] at this
  exact this
/-- what becomes of an operation: a read; one that comes up in turn; one behind number t -/
inductive Ph
  | r
  | u
  | p
def pickR : List Ph → List Oper → List Oper
  | .r :: m, o :: l => o :: pickR m l
  | .u :: m, _ :: l => pickR m l
  | .p :: m, _ :: l => pickR m l
  | _, _ => []
def pickU : List Ph → List Oper → List Oper
  | .r :: m, _ :: l => pickU m l
  | .u :: m, o :: l => o :: pickU m l
  | .p :: m, _ :: l => pickU m l
  | _, _ => []
def pickP : List Ph → List Oper → List Oper
  | .r :: m, _ :: l => pickP m l
  | .u :: m, _ :: l => pickP m l
  | .p :: m, o :: l => o :: pickP m l
  | _, _ => []
def idxR : List Ph → Nat → List Nat
  | .r :: m, i => i :: idxR m (i + 1)
  | .u :: m, i => idxR m (i + 1)
  | .p :: m, i => idxR m (i + 1)
  | [], _ => []
def idxU : List Ph → Nat → List Nat
  | .r :: m, i => idxU m (i + 1)
  | .u :: m, i => i :: idxU m (i + 1)
  | .p :: m, i => idxU m (i + 1)
  | [], _ => []
def idxP : List Ph → Nat → List Nat
  | .r :: m, i => idxP m (i + 1)
  | .u :: m, i => idxP m (i + 1)
  | .p :: m, i => i :: idxP m (i + 1)
  | [], _ => []
theorem at_tail {ops : Array Oper} {o : Oper} {l : List Oper} {i : Nat} (h : ∀ j, (o :: l)[j]? = ops[i + j]?) : ∀ j, l[j]? = ops[i + 1 + j]? := fun j => by
  have := h (j + 1)
  rw [show i + (j + 1) = i + 1 + j by omega] at this
  simpa using this
theorem getAll_R : ∀ (m : List Ph) (l : List Oper) (i : Nat), (∀ j, l[j]? = ops[i + j]?) → m.length = l.length → getAll ops (idxR m i) = pickR m l
  | [], l, i, _, _ => by cases l <;> rfl
  | .r :: m, o :: l, i, h, hl => by
    have h0 : ops[i]? = some o := by simpa using (h 0).symm
    have ih := getAll_R m l (i + 1) (at_tail h) (by simpa using hl)
    simp only [idxR, pickR, ← ih, getAll, List.filterMap_cons, h0]
  | .u :: m, o :: l, i, h, hl => getAll_R m l (i + 1) (at_tail h) (by simpa using hl)
  | .p :: m, o :: l, i, h, hl => getAll_R m l (i + 1) (at_tail h) (by simpa using hl)
theorem getAll_U : ∀ (m : List Ph) (l : List Oper) (i : Nat), (∀ j, l[j]? = ops[i + j]?) → m.length = l.length → getAll ops (idxU m i) = pickU m l
  | [], l, i, _, _ => by cases l <;> rfl
  | .u :: m, o :: l, i, h, hl => by
    have h0 : ops[i]? = some o := by simpa using (h 0).symm
    have ih := getAll_U m l (i + 1) (at_tail h) (by simpa using hl)
    simp only [idxU, pickU, ← ih, getAll, List.filterMap_cons, h0]
  | .r :: m, o :: l, i, h, hl => getAll_U m l (i + 1) (at_tail h) (by simpa using hl)
  | .p :: m, o :: l, i, h, hl => getAll_U m l (i + 1) (at_tail h) (by simpa using hl)
theorem getAll_P : ∀ (m : List Ph) (l : List Oper) (i : Nat), (∀ j, l[j]? = ops[i + j]?) → m.length = l.length → getAll ops (idxP m i) = pickP m l
  | [], l, i, _, _ => by cases l <;> rfl
  | .p :: m, o :: l, i, h, hl => by
    have h0 : ops[i]? = some o := by simpa using (h 0).symm
    have ih := getAll_P m l (i + 1) (at_tail h) (by simpa using hl)
    simp only [idxP, pickP, ← ih, getAll, List.filterMap_cons, h0]
  | .r :: m, o :: l, i, h, hl => getAll_P m l (i + 1) (at_tail h) (by simpa using hl)
  | .u :: m, o :: l, i, h, hl => getAll_P m l (i + 1) (at_tail h) (by simpa using hl)
def Region.marksB (md : Region.Mode) (l : List Oper) (m : List Ph) : Bool :=
  decide (m.length = l.length) && (match idxP m 0 with | [] => false | t :: post => Region.leadB md l.toArray (idxR m 0) (idxU m 0) t post)
/-- the region's law, its operations marked -/
theorem wp_region_marksQ {id : Nat} {a : Act} {w : World} {l : List Oper} (S : World → Prop) (m : List Ph) (hm : P.follows .mixedOrders = true) (hB : Region.marksB .any l m = true)
    (hQ : ∀ c a d v w, Q (.panic c) (Act.put a d v) w → Q (.panic c) a w) (hS : S w.drew)
    (h : wpReads P l.toArray S (fun a' => wpTurns P l.toArray Q S (pickP m l) (pickU m l) a' w.drew) (pickR m l) a) : (Code.region id l.toArray true).wp P Q a w := by
  simp only [Region.marksB, Bool.and_eq_true, decide_eq_true_eq] at hB
  obtain ⟨hl, hB⟩ := hB
  have hz : ∀ j, l[j]? = l.toArray[0 + j]? := fun j => by simp
  cases hp : idxP m 0 with
  | nil => rw [hp] at hB; cases hB
  | cons t post =>
    rw [hp] at hB
    refine wp_region_lead S (idxR m 0) (idxU m 0) t post hm hB hQ hS ?_
    rw [← hp, getAll_R m l 0 hz hl, getAll_U m l 0 hz hl, getAll_P m l 0 hz hl]
    exact h
/-- the same, where no panic comes up -/
theorem wp_region_marks {id : Nat} {a : Act} {w : World} {l : List Oper} (S : World → Prop) (m : List Ph) (hm : P.follows .mixedOrders = true) (hB : Region.marksB .any l m = true) (hS : S w.drew)
    (h : wpReads P l.toArray S (fun a' => wpTurns P l.toArray (NoPanic Q) S (pickP m l) (pickU m l) a' w.drew) (pickR m l) a) : (Code.region id l.toArray true).wp P Q a w :=
  wp_region_noPanic (wp_region_marksQ S m hm hB (fun _ _ _ _ _ h => h) hS h)
end
end Go.Proofs.YtoonkfhphbojcaaGreatDoor
namespace Go.Proofs.YtoonkfhphbojcaaGreatDoor
open Go.RowKit
section
variable {P : Program} {ops : Array Oper} {Q : Exit → Act → World → Prop} {md : Region.Mode} {S : World → Prop} {t : Nat}
def Region.headF (md : Region.Mode) (ops : Array Oper) (t : Nat) : List Nat → Array Bool → Bool
  | [], _ => true
  | k :: r, listed => (Region.ready md ops listed).contains k && Region.free md ops listed k && Region.waitsFor md ops t k && decide (t ≠ k) && Region.headF md ops t r (listed.setIfInBounds k true)
def setsT : List Nat → Array Bool → Array Bool
  | [], l => l
  | k :: r, l => setsT r (l.setIfInBounds k true)
theorem wpAnyT_headF {n : Nat} (hsel : Region.noSelect ops = true) (hQ : ∀ c a d v w, Q (.panic c) (Act.put a d v) w → Q (.panic c) a w) (w : World) (hS : S w) : ∀ (l : List Nat) (listed : Array Bool) (a : Act), listed.getD t true = false →
    Region.headF md ops t l listed = true → wpReads P ops S (fun a' => wpAnyT P md ops Q S t n (setsT l listed) a' w) (getAll ops l) a → wpAnyT P md ops Q S t (l.length + n) listed a w
  | [], listed, a, _, hB, h => by simpa [setsT, getAll, wpReads] using h
  | k :: l, listed, a, ht, hB, h => by
    simp only [Region.headF, Bool.and_eq_true, decide_eq_true_eq] at hB
    obtain ⟨⟨⟨⟨hr, hf⟩, hwt⟩, htk⟩, hB'⟩ := hB
    have hr' : k ∈ Region.ready md ops listed := by simpa using hr
    obtain ⟨-, o, ho, -⟩ := mem_ready.1 hr'
    have e : getAll ops (k :: l) = o :: getAll ops l := by simp [getAll, ho]
    rw [e] at h
    rw [show (k :: l).length + n = l.length + n + 1 by simp; omega]
    have ht' : (listed.setIfInBounds k true).getD t true = false := by rw [getD_set_ne true (Ne.symm htk)]; exact ht
    unfold wpReads at h
    split at h
    · rename_i hwn
      obtain ⟨v, hv, hn⟩ := h
      exact wpAnyT_first ho (Region.noSelect_spec hsel) (fun c a w => hQ c a _ _ w) hwt htk _ listed a w (Region.free_spec ho hf) hr' ht (.inl ⟨hwn, fun w hw => hv ⟨w, hw⟩⟩) hS
        (wpAnyT_headF hsel hQ w hS l _ _ ht' hB' hn)
    · rename_i hwn
      exact wpAnyT_first ho (Region.noSelect_spec hsel) (fun c a w => hQ c a _ _ w) hwt htk _ listed a w (Region.free_spec ho hf) hr' ht (.inr ⟨by simpa using hwn, rfl⟩) hS
        (wpAnyT_headF hsel hQ w hS l _ _ ht' hB' h)
def Region.freeB (md : Region.Mode) (ops : Array Oper) (hs : List Nat) (t : Nat) : Bool :=
  Region.noSelect ops && decide (t < ops.size) && decide (hs.length ≤ ops.size) && Region.headF md ops t hs (Array.replicate ops.size false)
/-- the reads hs first, then whatever comes up; number t waits for all of them -/
theorem wp_region_free {id : Nat} {a : Act} {w : World} {l : List Oper} (S : World → Prop) (hs : List Nat) (t n : Nat) (hm : P.follows .mixedOrders = true) (hB : Region.freeB .any l.toArray hs t = true) (hn : hs.length + n = l.length) {rs : List Oper} (hrs : getAll l.toArray hs = rs) {ls : Array Bool} (hls : setsT hs (Array.replicate l.length false) = ls) (hS : S w.drew)
    (h : wpReads P l.toArray S (fun a' => wpAnyT P .any l.toArray (NoPanic Q) S t n ls a' w.drew) rs a) : (Code.region id l.toArray true).wp P Q a w := by
  subst hrs; subst hls
  simp only [Region.freeB, Bool.and_eq_true, decide_eq_true_eq] at hB
  obtain ⟨⟨⟨hsel, ht⟩, hlen⟩, hB'⟩ := hB
  refine wp_region_noPanic ?_
  refine wp_region_any hm (wpAny_of_T (S := S) (t := t) _ _ _ _ ?_)
  have := wpAnyT_headF (n := n) (Q := NoPanic Q) hsel (fun _ _ _ _ _ h => h) w.drew hS hs _ a (getD_in (by simpa using ht) (getD_replicate_false _ _)) hB' (by simpa using h)
  rw [hn] at this
  simpa using this
theorem wpAnyT_one {l : List Oper} {n i : Nat} {oi : Oper} {listed : Array Bool} {a : Act} {w : World} (hr : Region.ready md l.toArray listed = [i]) (hi : l[i]? = some oi)
    (h : ∀ K : Act → World → Prop, (∀ a w, S w → wpAnyT P md l.toArray Q S t n (listed.setIfInBounds i true) a w → K a w) → if Region.wanted oi (yielded l.toArray a.tmps) = true then Oper.wp P oi a w K Q else K (a.put oi.dst undef) w) :
    wpAnyT P md l.toArray Q S t (n + 1) listed a w := by
  refine ⟨fun h1 => (by rw [hr] at h1; cases h1), fun j hj => ?_⟩
  rw [hr] at hj
  obtain rfl : j = i := by simpa using hj
  have := h (fun a' w' => ((listed.setIfInBounds j true).getD t true = false → S w') ∧ wpAnyT P md l.toArray Q S t n (listed.setIfInBounds j true) a' w') (fun _ _ h1 h2 => ⟨fun _ => h1, h2⟩)
  unfold wpOp; simp only [List.getElem?_toArray, hi]; split at this; (· rename_i hw; rw [if_pos hw]; exact .inl this); (· rename_i hw; rw [if_neg hw]; exact this)
theorem wpAnyT_two {l : List Oper} {n i k : Nat} {oi ok : Oper} {listed : Array Bool} {a : Act} {w : World} (hr : Region.ready md l.toArray listed = [i, k]) (hi : l[i]? = some oi) (hk : l[k]? = some ok)
    (h1 : ∀ K : Act → World → Prop, (∀ a w, S w → wpAnyT P md l.toArray Q S t n (listed.setIfInBounds i true) a w → K a w) → if Region.wanted oi (yielded l.toArray a.tmps) = true then Oper.wp P oi a w K Q else K (a.put oi.dst undef) w)
    (h2 : ∀ K : Act → World → Prop, (∀ a w, S w → wpAnyT P md l.toArray Q S t n (listed.setIfInBounds k true) a w → K a w) → if Region.wanted ok (yielded l.toArray a.tmps) = true then Oper.wp P ok a w K Q else K (a.put ok.dst undef) w) :
    wpAnyT P md l.toArray Q S t (n + 1) listed a w := by
  refine ⟨fun h1 => (by rw [hr] at h1; cases h1), fun j hj => ?_⟩
  rw [hr] at hj
  have hj' : j = i ∨ j = k := by simpa using hj
  rcases hj' with rfl | rfl
  · have := h1 (fun a' w' => ((listed.setIfInBounds j true).getD t true = false → S w') ∧ wpAnyT P md l.toArray Q S t n (listed.setIfInBounds j true) a' w') (fun _ _ h1 h2 => ⟨fun _ => h1, h2⟩)
    unfold wpOp; simp only [List.getElem?_toArray, hi]; split at this; (· rename_i hw; rw [if_pos hw]; exact .inl this); (· rename_i hw; rw [if_neg hw]; exact this)
  · have := h2 (fun a' w' => ((listed.setIfInBounds j true).getD t true = false → S w') ∧ wpAnyT P md l.toArray Q S t n (listed.setIfInBounds j true) a' w') (fun _ _ h1 h2 => ⟨fun _ => h1, h2⟩)
    unfold wpOp; simp only [List.getElem?_toArray, hk]; split at this; (· rename_i hw; rw [if_pos hw]; exact .inl this); (· rename_i hw; rw [if_neg hw]; exact this)
theorem wpAnyT_done {n : Nat} {listed : Array Bool} {a : Act} {w : World} (hr : Region.ready md ops listed = []) (h : Q .normal a w) : wpAnyT P md ops Q S t n listed a w := by
  cases n with
  | zero => exact ⟨hr, h⟩
  | succ n => exact ⟨fun _ => h, by rw [hr]; simp⟩
end
end Go.Proofs.YtoonkfhphbojcaaGreatDoor
namespace Go.Proofs.YtoonkfhphbojcaaGreatDoor
open Go.RowKit Go.Maps
/-- the tables of the library as they were laid -/
structure Lib33 (w : World) : Prop where
  pow : Lib.TabIs Tryz.prog w "internal/strconv.uint64pow10" .u64 Lib.pow10Tab
  asp : Lib.TabIs Tryz.prog w "strings.asciiSpace" .u8 Lib.asciiSpaceTab
  maxl : ∃ m : Int, w.cell? ⟨5, 0, none⟩ = some (.int .i64 m)
  errS : ∃ ev, w.cell? ⟨3, 0, none⟩ = some ev ∧ (ev = .nilIface ∨ ∃ te pe, ev = .iface te pe)
  errR : ∃ ev, w.cell? ⟨4, 0, none⟩ = some ev ∧ (ev = .nilIface ∨ ∃ te pe, ev = .iface te pe)
theorem tabIs_keep {P : Program} {w w' : World} {n : String} {k : IntKind} {zs : List Int} (h : Lib.TabIs P w n k zs) (hb : Below w.heap.size w w') : Lib.TabIs P w' n k zs := by
  unfold Lib.TabIs World.var? at *
  cases hg : P.globalNamed n with
  | none => rw [hg] at h; cases h
  | some g =>
    rw [hg] at h
    simp only [Option.bind_some] at h ⊢
    have hlt : g < w.heap.size := by
      rcases Nat.lt_or_ge g w.heap.size with h' | h'
      · exact h'
      · rw [Array.getElem?_eq_none h'] at h; cases h
    rw [hb.block g hlt]; exact h
theorem cell_stays {w w' : World} {b o : Nat} {v : Value} (h : w.cell? ⟨b, o, none⟩ = some v) (hb : Below w.heap.size w w') : w'.cell? ⟨b, o, none⟩ = some v := cell_keep hb (World.block_lt_of_cell? _ _ h) h
theorem Lib33.keep {w w' : World} (h : Lib33 w) (hb : Below w.heap.size w w') : Lib33 w' := by
  obtain ⟨h1, h2, ⟨m, h3⟩, ⟨e1, h4, h4'⟩, ⟨e2, h5, h5'⟩⟩ := h
  exact ⟨tabIs_keep h1 hb, tabIs_keep h2 hb, ⟨m, cell_stays h3 hb⟩, ⟨e1, cell_stays h4 hb, h4'⟩, ⟨e2, cell_stays h5 hb, h5'⟩⟩
theorem bsOf_cat (a b : BL) : bsOf a ++ bsOf b = bsOf (a ++ b) := (bsOf_app a (bsOf b)).symm
/-- a number's digits -/
def decD (n : Nat) : BL := Lib.decDigits n
abbrev encB : UInt8 → Value := fun b => .int .u8 (b.toNat : Int)
theorem zeros_hold (w : World) (T : TypeId) (nd : Nat) (h : nd ≤ 24) : Sort.Holds encB (w.alloc (.cells Lib.zeros24 T)) w.heap.size 0 (Array.replicate nd (0 : UInt8)) := fun j hj => by
  have hj' : j < nd := by simpa using hj
  refine ⟨?_, World.frozen?_alloc_new _ _ _ _⟩
  rw [World.cell?_alloc_new, Lib.zeros24_at _ (by omega), getElem!_pos _ j hj]
  simp
theorem below_putB {B : Nat} {a w : World} {blk off n : Nat} {d : Array UInt8} (h : Below B a w) (hB : B ≤ blk) : Below B a ((Sort.putRow encB w blk off d).drewN n) := by
  refine below_drewN (w := Sort.putRow encB w blk off d) (h.trans ⟨rfl, rfl, rfl, by simp [Sort.putRow, Sort.mapBlock], fun k hk => ?_⟩) n
  simp only [Sort.putRow, Sort.mapBlock, Array.getElem?_modify]
  rw [if_neg (by omega)]
set_option maxHeartbeats 2000000 in
set_option maxRecDepth 100000 in
theorem fmtUint_any (u : Nat) (hu : u < 4294967296) (w : World) (hL : Lib33 w) :
    Calls Tryz.prog 131 #[.int .u64 u, .int .i64 10] w fun e w' => e = .returned (.string (bsOf (decD u))) ∧ Below w.heap.size w w' := by
  by_cases hs : u < 100
  · have HS : Hid (∀ W, Calls Tryz.prog 164 #[.int .i64 u] W fun e w' => e = .returned (.string ⟨(Lib.decDigits u).toArray⟩) ∧ w' = W) := fun W => Any.internal_strconv_small Tryz.lSmall u hs W
    go_enter Tryz.func131, Tryz.ntmps131
    go_wp2_with fail
    refine (HS.out _).mono ?_
    rintro e w' ⟨rfl, rfl⟩
    go_wp2
    go_ret
    exact ⟨rfl, Below.refl _ _⟩
  · have hnd : Lib.nDigits u ≤ 20 := by have := Lib.numDigits_eq u (by omega) (by omega); split at this <;> omega
    have HN : Hid (∀ W, Below w.heap.size w W → Calls Tryz.prog 165 #[.int .u64 u] W fun e w' => e = .returned (.int .i64 (Lib.nDigits u)) ∧ w' = W) := fun W hW => Any.internal_strconv_numDigits Tryz.lNumDigits u (by omega) (by omega) W (tabIs_keep hL.pow hW)
    have hH0 := zeros_hold w 212 (Lib.nDigits u) (by omega)
    have HF : Hid (Calls Tryz.prog 166 #[.slice (some ⟨w.heap.size, 0, none⟩) (Lib.nDigits u) 24, .int .u64 u] (w.alloc (.cells Lib.zeros24 212)) fun e w' => e = .returned (.tuple #[]) ∧ ∃ (n v' : Nat) (dk : Array UInt8), w' = (Sort.putRow encB (w.alloc (.cells Lib.zeros24 212)) w.heap.size 0 dk).drewN n ∧ Lib.FmtInv (Lib.nDigits u) u 0 v' dk) := by
      have h := Any.internal_strconv_formatBase10 Tryz.lFormatBase10 w.heap.size 0 24 u (Array.replicate (Lib.nDigits u) 0) (w.alloc (.cells Lib.zeros24 212)) hH0 (by rw [Array.size_replicate]; exact Lib.lt_pow_nDigits u) (by omega) (by rw [Array.size_replicate]; omega)
      rw [Array.size_replicate] at h
      exact h
    have HH := Lib.hid hH0
    have HB : Hid (Below w.heap.size w (w.alloc (.cells Lib.zeros24 212))) := alloc_old w _
    have hal : Tryz.prog.arrayLen 212 = 24 := by simp [Program.arrayLen, Tryz.underlying212]
    have hsl : ∀ W, (Instr.sliceAt 212 (.pointer (some ⟨w.heap.size, 0, none⟩)) none (some (.int .i64 (Lib.nDigits u : Int))) none).run Tryz.prog W = .ok (.slice (some ⟨w.heap.size, 0, none⟩) (Lib.nDigits u) 24) W := fun W => by
      rw [run_sliceAt_array_h W 212 ⟨w.heap.size, 0, none⟩ (by simp [Program.arrayLen, Program.elem, Tryz.underlying212]) .i64 (Lib.nDigits u : Int) (by omega) (by rw [hal]; omega)]
      go_simp
    clear hH0 hal
    go_enter Tryz.func131, Tryz.ntmps131
    go_wp2_with fail
    refine (HN.out _ HB.out).mono ?_
    rintro e w' ⟨rfl, rfl⟩
    go_wp2_with fail
    refine HF.out.mono ?_
    rintro e w' ⟨rfl, k, v', dk, rfl, hF⟩
    have hB' : Hid (Below w.heap.size w ((Sort.putRow encB (w.alloc (.cells Lib.zeros24 212)) w.heap.size 0 dk).drewN k)) := below_putB HB.out (Nat.le_refl _)
    have hcv : (convert 79 9 (.slice (some ⟨w.heap.size, 0, none⟩) (Lib.nDigits u) 24)).run Tryz.prog ((Sort.putRow encB (w.alloc (.cells Lib.zeros24 212)) w.heap.size 0 dk).drewN k) = .ok (.string (bsOf (decD u))) ((Sort.putRow encB (w.alloc (.cells Lib.zeros24 212)) w.heap.size 0 dk).drewN k) := by
      have h := run_convert_bytes_back (P := Tryz.prog) ((Sort.putRow encB (w.alloc (.cells Lib.zeros24 212)) w.heap.size 0 dk).drewN k) 79 9 5 ⟨w.heap.size, 0, none⟩ 24 (Lib.decDigits u) Tryz.underlying79 Tryz.underlying5 Tryz.underlying9 (fun j hj => by
        rw [Lib.row_is_numeral hF j hj, Lib.add_plain, World.cell?_drewN]
        exact Sort.cell?_putRow encB _ w.heap.size 0 _ dk HH.out (by rw [hF.size, Array.size_replicate]) j (by rw [hF.size]; rw [Lib.decDigits_length] at hj; exact hj))
      rw [Lib.decDigits_length] at h
      exact h
    generalize ((Sort.putRow encB (w.alloc (.cells Lib.zeros24 212)) w.heap.size 0 dk).drewN k) = w2 at *
    go_wp2
    go_ret
    exact ⟨rfl, hB'.out⟩
set_option maxRecDepth 100000 in
theorem sFmtUint_any (u : Nat) (hu : u < 4294967296) (w : World) (hL : Lib33 w) :
    Calls Tryz.prog 86 #[.int .u64 u, .int .i64 10] w fun e w' => e = .returned (.string (bsOf (decD u))) ∧ Below w.heap.size w w' := by
  have H := Lib.hid (fmtUint_any u hu w hL)
  go_enter Tryz.func86, Tryz.ntmps86
  go_wp2_with fail
  refine H.out.mono ?_
  rintro e w' ⟨rfl, hB⟩
  go_wp2
  go_ret
  exact ⟨rfl, hB⟩
set_option maxRecDepth 100000 in
theorem num33 (u : Nat) (hu : u < 4294967296) (w : World) (hL : Lib33 w) :
    Calls Tryz.prog 34 #[.int .u32 u] w fun e w' => e = .returned (.string (bsOf (decD u))) ∧ Below w.heap.size w w' := by
  have H := Lib.hid (sFmtUint_any u hu w hL)
  have hw : (u : Int) % 18446744073709551616 = u := by omega
  go_enter Tryz.func34, Tryz.ntmps34
  go_wp2_with fail
  refine H.out.mono ?_
  rintro e w' ⟨rfl, hB⟩
  go_wp2
  go_ret
  exact ⟨rfl, hB⟩
theorem decD_len {u : Nat} (h : u < 4294967296) : 1 ≤ (decD u).length ∧ (decD u).length ≤ 20 := by
  unfold decD
  rw [Lib.decDigits_length]
  by_cases h0 : u < 10
  · rw [Lib.nDigits_small h0]; omega
  · have h1 := Lib.numDigits_eq u (by omega) (by omega)
    have h2 : 1 ≤ Lib.nDigits u := by rw [Lib.nDigits]; split <;> omega
    split at h1 <;> omega
set_option maxRecDepth 100000 in
theorem r33 (u : Nat) (hu : u < 256) (w : World) (hL : Lib33 w) :
    Calls Tryz.prog 85 #[.int .u8 u] w fun e w' => e = .returned (.string (bsOf (114 :: decD u))) ∧ Below w.heap.size w w' := by
  have H := Lib.hid (num33 u (by omega) w hL)
  have hw : (u : Int) % 4294967296 = u := by omega
  have hl := decD_len (u := u) (by omega)
  go_enter Tryz.func85, Tryz.ntmps85
  go_wp2_with fail
  refine H.out.mono ?_
  rintro e w' ⟨rfl, hB⟩
  have hc : (⟨#[114]⟩ : ByteArray) ++ bsOf (decD u) = bsOf (114 :: decD u) := bsOf_cat [114] (decD u)
  have hs : (bsOf (decD u)).size = (decD u).length := bsOf_size _
  go_wp2
  go_ret
  exact ⟨rfl, hB⟩
end Go.Proofs.YtoonkfhphbojcaaGreatDoor
namespace Go.Proofs.YtoonkfhphbojcaaGreatDoor
open Go.RowKit
section
variable {P : Program} {ops : Array Oper} {Q : Exit → Act → World → Prop} {md : Region.Mode} {S : World → Prop}
/-- whichever comes up: S holds behind it -/
def wpAnyS (P : Program) (md : Region.Mode) (ops : Array Oper) (Q : Exit → Act → World → Prop) (S : World → Prop) : Nat → Array Bool → Act → World → Prop
  | 0, listed, a, w => Region.ready md ops listed = [] ∧ Q .normal a w
  | fuel + 1, listed, a, w =>
    (Region.ready md ops listed = [] → Q .normal a w) ∧
    ∀ i ∈ Region.ready md ops listed, wpOp P ops Q i (fun a' w' => S w' ∧ wpAnyS P md ops Q S fuel (listed.setIfInBounds i true) a' w') a w
theorem wpAny_of_S : ∀ (fuel : Nat) (listed : Array Bool) (a : Act) (w : World), wpAnyS P md ops Q S fuel listed a w → wpAny P md ops Q fuel listed a w
  | 0, _, _, _, h => h
  | fuel + 1, _, _, _, h => ⟨h.1, fun i hi => wpOp_mono (fun a' w' h' => wpAny_of_S fuel _ a' w' h'.2) (h.2 i hi)⟩
theorem wpAnyS_first {i : Nat} {oi : Oper} {v : Value} (hi : ops[i]? = some oi) (hsel : ∀ (j : Nat) (o : Oper) cs b, ops[j]? = some o → o.op ≠ .select cs b)
    (hQ : ∀ c a w, Q (.panic c) (a.put oi.dst v) w → Q (.panic c) a w) :
    ∀ (fuel : Nat) (listed : Array Bool) (a : Act) (w : World),
      (∀ j oj, ops[j]? = some oj → j ≠ i → listed.getD j true = false → (∀ e ∈ oj.after, Region.binds md e = true → e.on ≠ i) → oi.apart ops oj = true) →
      i ∈ Region.ready md ops listed → YieldsIf P ops S oi v a → S w →
      wpAnyS P md ops Q S fuel (listed.setIfInBounds i true) (a.put oi.dst v) w → wpAnyS P md ops Q S (fuel + 1) listed a w := by
  intro fuel
  induction fuel with
  | zero =>
    intro listed a w _ hr hy hS H
    refine ⟨fun h => (by rw [h] at hr; cases hr), fun j hj => ?_⟩
    by_cases hji : j = i
    · subst hji; exact hy.wpOp hi hS ⟨hS, H⟩
    · have := ready_mono hj hji
      rw [H.1] at this
      cases this
  | succ fuel ih =>
    intro listed a w hfree hr hy hS H
    refine ⟨fun h => (by rw [h] at hr; cases hr), fun j hj => ?_⟩
    by_cases hji : j = i
    · subst hji; exact hy.wpOp hi hS ⟨hS, H⟩
    · have h1 := H.2 j (ready_mono hj hji)
      obtain ⟨hjun, oj, hoj, hall⟩ := mem_ready.1 hj
      have hnot : ∀ e ∈ oj.after, Region.binds md e = true → e.on ≠ i := fun e he hb heq => by
        have h1 := hall e he hb
        have h0 := (mem_ready.1 hr).1
        rw [heq, getD_both h0] at h1
        cases h1
      have h2 := wpOp_putIf hoj (hfree j oj hoj hji hjun hnot) (fun cs b => hsel i oi cs b hi) (fun cs b => hsel j oj cs b hoj) hQ hy h1
      have hfree' : ∀ k ok, ops[k]? = some ok → k ≠ i → (listed.setIfInBounds j true).getD k true = false →
          (∀ e ∈ ok.after, Region.binds md e = true → e.on ≠ i) → oi.apart ops ok = true := fun k ok hk hki hun hno => by
        refine hfree k ok hk hki ?_ hno
        by_cases hjk : j = k
        · subst hjk; exact hjun
        · rw [getD_set_ne true hjk] at hun; exact hun
      refine wpOp_mono (fun a' w' h3 => ?_) h2
      refine ⟨h3.2.1, ih (listed.setIfInBounds j true) a' w' hfree' (ready_mono hr (Ne.symm hji)) h3.1 h3.2.1 ?_⟩
      rw [Array.setIfInBounds_comm _ _ hji]
      exact h3.2.2
def Region.headS (md : Region.Mode) (ops : Array Oper) : List Nat → Array Bool → Bool
  | [], _ => true
  | k :: r, listed => (Region.ready md ops listed).contains k && Region.free md ops listed k && Region.headS md ops r (listed.setIfInBounds k true)
theorem wpAnyS_heads {n : Nat} (hsel : Region.noSelect ops = true) (hQ : ∀ c a d v w, Q (.panic c) (Act.put a d v) w → Q (.panic c) a w) (w : World) (hS : S w) : ∀ (l : List Nat) (listed : Array Bool) (a : Act),
    Region.headS md ops l listed = true → wpReads P ops S (fun a' => wpAnyS P md ops Q S n (setsT l listed) a' w) (getAll ops l) a → wpAnyS P md ops Q S (l.length + n) listed a w
  | [], listed, a, hB, h => by simpa [setsT, getAll, wpReads] using h
  | k :: l, listed, a, hB, h => by
    simp only [Region.headS, Bool.and_eq_true] at hB
    obtain ⟨⟨hr, hf⟩, hB'⟩ := hB
    have hr' : k ∈ Region.ready md ops listed := by simpa using hr
    obtain ⟨-, o, ho, -⟩ := mem_ready.1 hr'
    have e : getAll ops (k :: l) = o :: getAll ops l := by simp [getAll, ho]
    rw [e] at h
    rw [show (k :: l).length + n = l.length + n + 1 by simp; omega]
    unfold wpReads at h
    split at h
    · rename_i hwn
      obtain ⟨v, hv, hn⟩ := h
      exact wpAnyS_first ho (Region.noSelect_spec hsel) (fun c a w => hQ c a _ _ w) _ listed a w (Region.free_spec ho hf) hr' (.inl ⟨hwn, fun w hw => hv ⟨w, hw⟩⟩) hS
        (wpAnyS_heads hsel hQ w hS l _ _ hB' hn)
    · rename_i hwn
      exact wpAnyS_first ho (Region.noSelect_spec hsel) (fun c a w => hQ c a _ _ w) _ listed a w (Region.free_spec ho hf) hr' (.inr ⟨by simpa using hwn, rfl⟩) hS
        (wpAnyS_heads hsel hQ w hS l _ _ hB' h)
/-- the reads hs are ready: they are taken now -/
theorem wpAnyS_take {n m : Nat} {l : List Oper} {listed : Array Bool} {a : Act} {w : World} (hs : List Nat) (hsel : Region.noSelect l.toArray = true) (hB : Region.headS md l.toArray hs listed = true) (hn : hs.length + n = m) {rs : List Oper} (hrs : getAll l.toArray hs = rs) {ls : Array Bool} (hls : setsT hs listed = ls) (hS : S w)
    (h : wpReads P l.toArray S (fun a' => wpAnyS P md l.toArray (NoPanic Q) S n ls a' w) rs a) : wpAnyS P md l.toArray (NoPanic Q) S m listed a w := by
  subst hrs; subst hls; subst hn
  exact wpAnyS_heads hsel (fun _ _ _ _ _ h => h) w hS hs listed a hB h
theorem wp_region_turn {id : Nat} {a : Act} {w : World} {l : List Oper} (S : World → Prop) (hm : P.follows .mixedOrders = true) {n : Nat} (hn : l.length = n) {ls : Array Bool} (hls : Array.replicate l.length false = ls)
    (h : wpAnyS P .any l.toArray (NoPanic Q) S n ls a w.drew) : (Code.region id l.toArray true).wp P Q a w := by
  subst hls; subst hn
  refine wp_region_noPanic ?_
  refine wp_region_any hm (wpAny_of_S (S := S) _ _ _ _ ?_)
  simpa using h
theorem wpAnyS_one {l : List Oper} {n i : Nat} {oi : Oper} {listed : Array Bool} {a : Act} {w : World} (hr : Region.ready md l.toArray listed = [i]) (hi : l[i]? = some oi)
    (h : ∀ K : Act → World → Prop, (∀ a w, S w → wpAnyS P md l.toArray Q S n (listed.setIfInBounds i true) a w → K a w) → if Region.wanted oi (yielded l.toArray a.tmps) = true then Oper.wp P oi a w K Q else K (a.put oi.dst undef) w) :
    wpAnyS P md l.toArray Q S (n + 1) listed a w := by
  refine ⟨fun h1 => (by rw [hr] at h1; cases h1), fun j hj => ?_⟩
  rw [hr] at hj
  obtain rfl : j = i := by simpa using hj
  have := h (fun a' w' => S w' ∧ wpAnyS P md l.toArray Q S n (listed.setIfInBounds j true) a' w') (fun _ _ h1 h2 => ⟨h1, h2⟩)
  unfold wpOp; simp only [List.getElem?_toArray, hi]; split at this; (· rename_i hw; rw [if_pos hw]; exact .inl this); (· rename_i hw; rw [if_neg hw]; exact this)
theorem wpAnyS_done {n : Nat} {listed : Array Bool} {a : Act} {w : World} (hr : Region.ready md ops listed = []) (h : Q .normal a w) : wpAnyS P md ops Q S n listed a w := by
  cases n with
  | zero => exact ⟨hr, h⟩
  | succ n => exact ⟨fun _ => h, by rw [hr]; simp⟩
end
/-- a call of a Go function, guarded or not, as one step of a region that draws -/
theorem step_callW {P : Program} {ops : Array Oper} {o : Oper} {a : Act} {w : World} {K : Act → World → Prop} {Q : Exit → Act → World → Prop} {E : Prop}
    (hw : Region.wanted o (yielded ops a.tmps) = true) (f : FuncId) (xs : Array Operand) (ats : Array TypeId) (hop : o.op = Op.call { callee := Callee.value (Operand.func f), args := xs, argTypes := ats })
    {fn : Func} (hf : P.funcs[f]? = some fn) (hn : (fn.name == "runtime.NumGoroutine") = false) (hb : fn.body.isNone = false)
    (vs : Array Value) (hv : xs.map a.eval = vs) {Post : Ending → World → Prop} (hC : Calls P f vs w Post) (hK : ∀ e w', Post e w' → ∃ v, e = .returned v ∧ K (a.put o.dst v) w') :
    if Region.wanted o (yielded ops a.tmps) = true then Oper.wp P o a w K Q else E := by
  rw [if_pos hw]
  obtain ⟨dst, op, ty, pos, after, guard⟩ := o
  simp only at hop
  subst hop; subst hv
  unfold Oper.wp
  rw [execOp_call_go]
  have e : (#[] ++ xs.map a.eval ++ #[] : Array Value) = xs.map a.eval := by simp
  rw [e, run_call_go hf hn hb, Oper.upon_enter]
  refine Calls.mono hC fun e w' hp => ?_
  obtain ⟨v, rfl, hk⟩ := hK e w' hp
  exact hk
/-- append onto a row of one's own from whatever row of cells, guarded or not, as one step of a region that draws -/
theorem step_append_srcW {P : Program} {ops : Array Oper} {o : Oper} {a : Act} {w : World} {K : Act → World → Prop} {Q : Exit → Act → World → Prop} {E : Prop}
    (hw : Region.wanted o (yielded ops a.tmps) = true) (s x : Operand) (t : TypeId)
    (hop : o.op = .call { callee := .builtin .append, args := #[s, x], argTypes := #[t, t] })
    (base : Nat) (e : TypeId) (i : TypeInfo) (z : Value) (size bytes : Nat) (ht : P.underlying t = some (.slice e)) (hi : P.info? e = some i) (hz : i.zero = some z)
    (hsize : i.size = size) (hby : i.bytes = bytes) (hzs : z.cells.size = size) (hsz : 0 < size) (v : Value) (n : Nat) (xs : List Value) (hs : a.eval s = v) (hown : w.ownsRow base e size v n xs)
    (p : Option Addr) (m c b off : Nat) (news : List Value) (hx : a.eval x = .slice p m c) (hp : 0 < m → p = some ⟨b, off, none⟩) (hl : news.length = m * size) (hnews : 0 < m → ∀ j u, news[j]? = some u → w.cell? ((⟨b, off, none⟩ : Addr).add j) = some u) (h1 : ∀ u ∈ news, u.oneCell' = true)
    (hm : n + m ≤ maxLen) (hbytes : (n + m) * bytes ≤ 140737488355328) (hbase : base ≤ w.heap.size)
    (hK : ∀ v' w', w'.ownsRow base e size v' (n + m) (xs ++ news) → w.grownBy w' v.ownBlock → K (a.put o.dst v') w') :
    if Region.wanted o (yielded ops a.tmps) = true then Oper.wp P o a w K Q else E := by
  rw [if_pos hw]
  by_cases h0 : m = 0
  · subst h0
    have hrun := run_append_own_empty (P := P) (w := w) base t o.type e i size ht hi v n xs hown p c
    have hn : news = [] := List.eq_nil_of_length_eq_zero (by rw [hl, Nat.zero_mul])
    subst hn
    unfold Oper.wp
    simp [execOp, hop, resolve, invoke, builtin, hs, hx, hrun, Result.andThen]
    exact hK _ _ (by simpa using hown) (World.grownBy.refl w _)
  · obtain rfl := hp (by omega)
    obtain ⟨v', w', hrun, r1, r2, -, -⟩ := run_append_own_at (P := P) w base t o.type e i z size bytes ht hi hz hsize hby hzs hsz v n xs hown _ m c news hl (hnews (by omega)) h1 hm hbytes hbase
    unfold Oper.wp
    simp [execOp, hop, resolve, invoke, builtin, hs, hx, hrun, Result.andThen]
    exact hK v' w' r1 r2
end Go.Proofs.YtoonkfhphbojcaaGreatDoor
