/- A region that only reads, and whose callees make memory but change nothing that was there: one walk in the order of the text. No program in sight. append onto a row of one's own, as one step of a region that draws its order. No program in sight. A region that draws its order: the operations that only read are taken first, the others come up one by one; what the reads rest on is kept till all of them must be done. No program in sight. A region that draws its order: the operations that only read are taken first; the others are walked in each order that they may come up in, step by step. No program in sight. -/
import Derived.Deep.QuietTactic
import Derived.BigQuiet
import Derived.WalkKit
import Derived.OwnWalk
import Derived.Maps.AppendAt
import Derived.Deep.RegionLawGrows
import Derived.Deep.Quiet
import Derived.StillTail
import Derived.OrdersHeld
import Derived.Deep.RegionHeld3
namespace Go.Proofs.YtoonkfhphbojcaaGreatDoor
open Go.RowKit
/-- a world that keeps all that w has -/
structure BW (w : World) where
  u : World
  b : Below w.heap.size w u
instance (w : World) : Nonempty (BW w) := ⟨⟨w, Below.refl _ _⟩⟩
instance (w : World) : Inhabited (BW w) := ⟨⟨w, Below.refl _ _⟩⟩
theorem wp_region_below {P : Program} {id : Nat} {Q : Exit → Act → World → Prop} {a : Act} {w : World} {l : List Oper} (hm : P.follows .mixedOrders = true) (hB : Region.lexB .any l.toArray = true)
    (h : wpQuiet P l.toArray (fun w' => ∃ x : BW w, w' = x.u) (fun a' => ∀ w', (∃ x : BW w, w' = x.u) → Q .normal a' w') l a) : (Code.region id l.toArray true).wp P Q a w :=
  wp_region_quiet (C := fun w' => ∃ x : BW w, w' = x.u) hm hB ⟨⟨_, (Below.refl _ _).drew⟩, rfl⟩ (by simpa using h)
/-- a callee that makes memory, in a world of the class -/
theorem calls_below {P : Program} {f : FuncId} {args : Array Value} {w : World} {v : Value} {x : BW w}
    (h : Calls P f args x.u fun e w' => e = .returned v ∧ Below x.u.heap.size x.u w') : Calls P f args x.u fun e w'' => e = .returned v ∧ ∃ y : BW w, w'' = y.u :=
  h.mono fun _ w' ⟨he, hb⟩ => ⟨he, ⟨w', x.b.trans (hb.mono x.b.size)⟩, rfl⟩
theorem bw_of {w w' : World} (h : ∃ x : BW w, w' = x.u) : Below w.heap.size w w' := by obtain ⟨x, rfl⟩ := h; exact x.b
theorem bw_cell {w : World} {b o : Nat} {v : Value} (h0 : b < w.heap.size) (h : w.cell? ⟨b, o, none⟩ = some v) : ∀ x : BW w, x.u.cell? ⟨b, o, none⟩ = some v := fun x => by
  rw [x.b.cell (p := ⟨b, o, none⟩) h0]; exact h
theorem below_drewN {B : Nat} {a w : World} (h : Below B a w) (n : Nat) : Below B a (w.drewN n) := ⟨h.os, h.tape, h.output, h.size, h.block⟩
end Go.Proofs.YtoonkfhphbojcaaGreatDoor
namespace Go.Proofs.YtoonkfhphbojcaaGreatDoor
open Go.RowKit
/-- append onto a row of one's own, as one step of a region that draws -/
theorem step_append_own_at {P : Program} {ops : Array Oper} {o : Oper} {a : Act} {w : World} {K : Act → World → Prop} {Q : Exit → Act → World → Prop} {E : Prop}
    (hg : o.guard = none) (s x : Operand) (t : TypeId) (hop : o.op = Op.call { callee := Callee.builtin Builtin.append, args := #[s, x], argTypes := #[t, t] })
    (base : Nat) (e : TypeId) (i : TypeInfo) (z : Value) (size bytes : Nat) (h1 : P.underlying t = some (.slice e)) (h2 : P.info? e = some i) (h3 : i.zero = some z) (h4 : i.size = size) (h5 : i.bytes = bytes) (h6 : z.cells.size = size) (h7 : 0 < size)
    (v : Value) (n : Nat) (xs : List Value) (hs : a.eval s = v) (hown : w.ownsRow base e size v n xs)
    (ad : Addr) (m c : Nat) (news : List Value) (hx : a.eval x = .slice (some ad) m c) (hn : news.length = m * size) (hc : ∀ j u, news[j]? = some u → w.cell? (ad.add j) = some u) (h1c : ∀ u ∈ news, u.oneCell' = true)
    (b1 : n + m ≤ maxLen) (b2 : (n + m) * bytes ≤ 140737488355328) (hbase : base ≤ w.heap.size)
    (hK : ∀ v' w', w'.ownsRow base e size v' (n + m) (xs ++ news) → w.grownBy w' v.ownBlock → (v'.ownBlock = v.ownBlock ∨ v'.ownBlock = some w.heap.size) → K (a.put o.dst v') w') :
    if Region.wanted o (yielded ops a.tmps) = true then Oper.wp P o a w K Q else E := by
  have hw : Region.wanted o (yielded ops a.tmps) = true := by simp [Region.wanted, hg]
  rw [if_pos hw]
  obtain ⟨v', w', hrun, r1, r2, r3, r4⟩ := run_append_own_at (P := P) w base t o.type e i z size bytes h1 h2 h3 h4 h5 h6 h7 v n xs hown ad m c news hn hc h1c b1 b2 hbase
  unfold Oper.wp
  simp [execOp, hop, resolve, invoke, builtin, hs, hx, hrun, Result.andThen]
  exact hK v' w' r1 r2 r4
theorem run_call_go {P : Program} {w : World} {f : FuncId} {fn : Func} (hf : P.funcs[f]? = some fn) (hn : (fn.name == "runtime.NumGoroutine") = false) (hb : fn.body.isNone = false) (args : Array Value) :
    (callFunc f args).run P w = .ok (.enter f args) w := by
  have hn' : ¬ fn.name = "runtime.NumGoroutine" := by simpa using hn
  cases hbb : fn.body with
  | none => rw [hbb] at hb; cases hb
  | some c => simp [callFunc, go_sem, hf, hn', hbb]
/-- a call of a Go function, as one step of a region that draws -/
theorem step_call {P : Program} {ops : Array Oper} {o : Oper} {a : Act} {w : World} {K : Act → World → Prop} {Q : Exit → Act → World → Prop} {E : Prop}
    (hg : o.guard = none) (f : FuncId) (xs : Array Operand) (ats : Array TypeId) (hop : o.op = Op.call { callee := Callee.value (Operand.func f), args := xs, argTypes := ats })
    {fn : Func} (hf : P.funcs[f]? = some fn) (hn : (fn.name == "runtime.NumGoroutine") = false) (hb : fn.body.isNone = false)
    (vs : Array Value) (hv : xs.map a.eval = vs) {Post : Ending → World → Prop} (hC : Calls P f vs w Post) (hK : ∀ e w', Post e w' → ∃ v, e = .returned v ∧ K (a.put o.dst v) w') :
    if Region.wanted o (yielded ops a.tmps) = true then Oper.wp P o a w K Q else E := by
  have hw : Region.wanted o (yielded ops a.tmps) = true := by simp [Region.wanted, hg]
  rw [if_pos hw]
  obtain ⟨dst, op, ty, pos, after, guard⟩ := o
  simp only at hg hop
  subst hg; subst hop; subst hv
  unfold Oper.wp
  rw [execOp_call_go]
  have e : (#[] ++ xs.map a.eval ++ #[] : Array Value) = xs.map a.eval := by simp
  rw [e, run_call_go hf hn hb, Oper.upon_enter]
  refine Calls.mono hC fun e w' hp => ?_
  obtain ⟨v, rfl, hk⟩ := hK e w' hp
  exact hk
end Go.Proofs.YtoonkfhphbojcaaGreatDoor
namespace Go.Proofs.YtoonkfhphbojcaaGreatDoor
open Go.RowKit
structure HW (S : World → Prop) where
  u : World
  h : S u
section
variable {P : Program} {ops : Array Oper} {Q : Exit → Act → World → Prop} {md : Region.Mode} {S : World → Prop} {t : Nat}
/-- whichever comes up: S holds behind it as long as number t has not come up -/
def wpAnyT (P : Program) (md : Region.Mode) (ops : Array Oper) (Q : Exit → Act → World → Prop) (S : World → Prop) (t : Nat) : Nat → Array Bool → Act → World → Prop
  | 0, listed, a, w => Region.ready md ops listed = [] ∧ Q .normal a w
  | fuel + 1, listed, a, w =>
    (Region.ready md ops listed = [] → Q .normal a w) ∧
    ∀ i ∈ Region.ready md ops listed, wpOp P ops Q i (fun a' w' => ((listed.setIfInBounds i true).getD t true = false → S w') ∧ wpAnyT P md ops Q S t fuel (listed.setIfInBounds i true) a' w') a w
theorem wpAny_of_T : ∀ (fuel : Nat) (listed : Array Bool) (a : Act) (w : World), wpAnyT P md ops Q S t fuel listed a w → wpAny P md ops Q fuel listed a w
  | 0, _, _, _, h => h
  | fuel + 1, _, _, _, h => ⟨h.1, fun i hi => wpOp_mono (fun a' w' h' => wpAny_of_T fuel _ a' w' h'.2) (h.2 i hi)⟩
theorem wpAnyT_first {i : Nat} {oi : Oper} {v : Value} (hi : ops[i]? = some oi) (hsel : ∀ (j : Nat) (o : Oper) cs b, ops[j]? = some o → o.op ≠ .select cs b)
    (hQ : ∀ c a w, Q (.panic c) (a.put oi.dst v) w → Q (.panic c) a w) (hwt : Region.waitsFor md ops t i = true) (hti : t ≠ i) :
    ∀ (fuel : Nat) (listed : Array Bool) (a : Act) (w : World),
      (∀ j oj, ops[j]? = some oj → j ≠ i → listed.getD j true = false → (∀ e ∈ oj.after, Region.binds md e = true → e.on ≠ i) → oi.apart ops oj = true) →
      i ∈ Region.ready md ops listed → listed.getD t true = false → YieldsIf P ops S oi v a → S w →
      wpAnyT P md ops Q S t fuel (listed.setIfInBounds i true) (a.put oi.dst v) w → wpAnyT P md ops Q S t (fuel + 1) listed a w := by
  intro fuel
  induction fuel with
  | zero =>
    intro listed a w _ hr _ hy hS H
    refine ⟨fun h => (by rw [h] at hr; cases hr), fun j hj => ?_⟩
    by_cases hji : j = i
    · subst hji; exact hy.wpOp hi hS ⟨fun _ => hS, H⟩
    · have := ready_mono hj hji
      rw [H.1] at this
      cases this
  | succ fuel ih =>
    intro listed a w hfree hr ht hy hS H
    refine ⟨fun h => (by rw [h] at hr; cases hr), fun j hj => ?_⟩
    by_cases hji : j = i
    · subst hji; exact hy.wpOp hi hS ⟨fun _ => hS, H⟩
    · have h1 := H.2 j (ready_mono hj hji)
      obtain ⟨hjun, oj, hoj, hall⟩ := mem_ready.1 hj
      have hnot : ∀ e ∈ oj.after, Region.binds md e = true → e.on ≠ i := fun e he hb heq => by
        have h1 := hall e he hb
        have h0 := (mem_ready.1 hr).1
        rw [heq, getD_both h0] at h1
        cases h1
      have hjt : j ≠ t := fun e => by
        obtain ⟨ot, hot, e2, he2, hb2, hon⟩ := Region.waitsFor_spec hwt
        have : ot = oj := Option.some.inj (hot.symm.trans (e ▸ hoj))
        exact hnot e2 (this ▸ he2) hb2 hon
      have h2 := wpOp_putIf hoj (hfree j oj hoj hji hjun hnot) (fun cs b => hsel i oi cs b hi) (fun cs b => hsel j oj cs b hoj) hQ hy h1
      have hfree' : ∀ k ok, ops[k]? = some ok → k ≠ i → (listed.setIfInBounds j true).getD k true = false →
          (∀ e ∈ ok.after, Region.binds md e = true → e.on ≠ i) → oi.apart ops ok = true := fun k ok hk hki hun hno => by
        refine hfree k ok hk hki ?_ hno
        by_cases hjk : j = k
        · subst hjk; exact hjun
        · rw [getD_set_ne true hjk] at hun; exact hun
      have ht' : (listed.setIfInBounds j true).getD t true = false := by rw [getD_set_ne true hjt]; exact ht
      refine wpOp_mono (fun a' w' h3 => ?_) h2
      have hS' : S w' := h3.2.1 (by rw [getD_set_ne true hjt, getD_set_ne true (Ne.symm hti)]; exact ht)
      refine ⟨fun _ => hS', ih (listed.setIfInBounds j true) a' w' hfree' (ready_mono hr (Ne.symm hji)) ht' h3.1 hS' ?_⟩
      rw [Array.setIfInBounds_comm _ _ hji]
      exact h3.2.2
/-- the reads, one by one -/
def wpReads (P : Program) (ops : Array Oper) (S : World → Prop) (Q : Act → Prop) : List Oper → Act → Prop
  | [], a => Q a
  | o :: rest, a => if Region.wanted o (yielded ops a.tmps) then ∃ v, (∀ x : HW S, (execOp a.eval o).run P x.u = .ok (.value v) x.u) ∧ wpReads P ops S Q rest (a.put o.dst v) else wpReads P ops S Q rest (a.put o.dst undef)
theorem wpReads_nil {Q : Act → Prop} {a : Act} (h : Q a) : wpReads P ops S Q [] a := h
theorem wpReads_step {Q : Act → Prop} {a : Act} {o : Oper} {rest : List Oper}
    (h : ∀ K : Act → Prop, (∀ a, wpReads P ops S Q rest a → K a) → if Region.wanted o (yielded ops a.tmps) then ∃ v, (∀ x : HW S, (execOp a.eval o).run P x.u = .ok (.value v) x.u) ∧ K (a.put o.dst v) else K (a.put o.dst undef)) : wpReads P ops S Q (o :: rest) a :=
  h _ (fun _ h => h)
/-- the others: behind those ahead of number t S is shown anew -/
def wpTurns (P : Program) (ops : Array Oper) (Q : Exit → Act → World → Prop) (S : World → Prop) (post : List Oper) : List Oper → Act → World → Prop
  | [], a, w => wpList P ops Q post a w
  | o :: rest, a, w => if Region.wanted o (yielded ops a.tmps) then o.wp P a w (fun a' w' => S w' ∧ wpTurns P ops Q S post rest a' w') Q else S w ∧ wpTurns P ops Q S post rest (a.put o.dst undef) w
theorem wpTurns_nil {post : List Oper} {a : Act} {w : World} (h : wpList P ops Q post a w) : wpTurns P ops Q S post [] a w := h
theorem wpTurns_step {post : List Oper} {a : Act} {w : World} {o : Oper} {rest : List Oper}
    (h : ∀ K : Act → World → Prop, (∀ a w, S w → wpTurns P ops Q S post rest a w → K a w) → if Region.wanted o (yielded ops a.tmps) = true then Oper.wp P o a w K Q else K (a.put o.dst undef) w) : wpTurns P ops Q S post (o :: rest) a w := by
  have := h (fun a w => S w ∧ wpTurns P ops Q S post rest a w) (fun _ _ h1 h2 => ⟨h1, h2⟩)
  exact this
def getAll (ops : Array Oper) (l : List Nat) : List Oper := l.filterMap fun i => ops[i]?
def Region.seqL (md : Region.Mode) (ops : Array Oper) : List Nat → Array Bool → Bool
  | [], listed => (Region.ready md ops listed).isEmpty
  | k :: r, listed => decide (Region.ready md ops listed = [k]) && Region.seqL md ops r (listed.setIfInBounds k true)
/-- the others' order, number t being the first of the last ones -/
def Region.preL (md : Region.Mode) (ops : Array Oper) (t : Nat) (post : List Nat) : List Nat → Array Bool → Bool
  | [], listed => Region.seqL md ops (t :: post) listed
  | k :: r, listed => decide (Region.ready md ops listed = [k]) && decide (k ≠ t) && Region.preL md ops t post r (listed.setIfInBounds k true)
def Region.headL (md : Region.Mode) (ops : Array Oper) (t : Nat) (pre post : List Nat) : List Nat → Array Bool → Bool
  | [], listed => Region.preL md ops t post pre listed
  | k :: r, listed => (Region.ready md ops listed).contains k && Region.free md ops listed k && Region.waitsFor md ops t k && decide (t ≠ k) && Region.headL md ops t pre post r (listed.setIfInBounds k true)
def Region.leadB (md : Region.Mode) (ops : Array Oper) (hs pre : List Nat) (t : Nat) (post : List Nat) : Bool :=
  Region.noSelect ops && decide (t < ops.size) && decide (hs.length + pre.length + (post.length + 1) = ops.size) && Region.headL md ops t pre post hs (Array.replicate ops.size false)
theorem ready_at {k : Nat} {listed : Array Bool} (h : Region.ready md ops listed = [k]) : ∃ o, ops[k]? = some o := by
  have : k ∈ Region.ready md ops listed := by rw [h]; simp
  obtain ⟨-, o, ho, -⟩ := mem_ready.1 this
  exact ⟨o, ho⟩
theorem getD_stays {listed : Array Bool} {i t : Nat} (h : listed.getD t true = true) : (listed.setIfInBounds i true).getD t true = true := by
  by_cases hit : i = t
  · subst hit
    rcases Nat.lt_or_ge i listed.size with h' | h'
    · simp [h']
    · simp
  · rw [getD_set_ne true hit]; exact h
theorem wpAnyT_seq : ∀ (l : List Nat) (listed : Array Bool) (a : Act) (w : World), listed.getD t true = true →
    Region.seqL md ops l listed = true → wpList P ops Q (getAll ops l) a w → wpAnyT P md ops Q S t l.length listed a w
  | [], _, _, _, _, hB, h => ⟨by simpa [Region.seqL] using hB, h⟩
  | k :: l, listed, a, w, ht, hB, h => by
    simp only [Region.seqL, Bool.and_eq_true, decide_eq_true_eq] at hB
    obtain ⟨o, ho⟩ := ready_at hB.1
    have e : getAll ops (k :: l) = o :: getAll ops l := by simp [getAll, ho]
    rw [e] at h
    refine ⟨fun h1 => (by rw [hB.1] at h1; cases h1), fun i hi => ?_⟩
    rw [hB.1] at hi
    obtain rfl : i = k := by simpa using hi
    have hw : wpOp P ops Q i (wpList P ops Q (getAll ops l)) a w := by unfold wpOp; simp only [ho]; exact h
    have ht' := getD_stays (i := i) ht
    exact wpOp_mono (fun a' w' h' => ⟨fun h0 => (by rw [ht'] at h0; cases h0), wpAnyT_seq l _ a' w' ht' hB.2 h'⟩) hw
theorem getD_now {listed : Array Bool} {t : Nat} : (listed.setIfInBounds t true).getD t true = true := by
  rcases Nat.lt_or_ge t listed.size with h' | h'
  · simp [h']
  · simp
theorem wpAnyT_pre {post : List Nat} : ∀ (l : List Nat) (listed : Array Bool) (a : Act) (w : World),
    Region.preL md ops t post l listed = true → wpTurns P ops Q S (getAll ops (t :: post)) (getAll ops l) a w → wpAnyT P md ops Q S t (l.length + (post.length + 1)) listed a w
  | [], listed, a, w, hB, h => by
    simp only [Region.preL, Region.seqL, Bool.and_eq_true, decide_eq_true_eq] at hB
    obtain ⟨o, ho⟩ := ready_at hB.1
    have e : getAll ops (t :: post) = o :: getAll ops post := by simp [getAll, ho]
    have h' : wpList P ops Q (o :: getAll ops post) a w := by rw [← e]; exact h
    rw [show ([] : List Nat).length + (post.length + 1) = post.length + 1 by simp]
    refine ⟨fun h1 => (by rw [hB.1] at h1; cases h1), fun i hi => ?_⟩
    rw [hB.1] at hi
    obtain rfl : i = t := by simpa using hi
    have hw : wpOp P ops Q i (wpList P ops Q (getAll ops post)) a w := by unfold wpOp; simp only [ho]; exact h'
    have ht' : (listed.setIfInBounds i true).getD i true = true := getD_now
    exact wpOp_mono (fun a' w' h' => ⟨fun h0 => (by rw [ht'] at h0; cases h0), wpAnyT_seq post _ a' w' ht' hB.2 h'⟩) hw
  | k :: l, listed, a, w, hB, h => by
    simp only [Region.preL, Bool.and_eq_true, decide_eq_true_eq] at hB
    obtain ⟨⟨hr, hkt⟩, hB'⟩ := hB
    obtain ⟨o, ho⟩ := ready_at hr
    have e : getAll ops (k :: l) = o :: getAll ops l := by simp [getAll, ho]
    rw [e] at h
    rw [show (k :: l).length + (post.length + 1) = l.length + (post.length + 1) + 1 by simp; omega]
    refine ⟨fun h1 => (by rw [hr] at h1; cases h1), fun i hi => ?_⟩
    rw [hr] at hi
    obtain rfl : i = k := by simpa using hi
    have hw : wpOp P ops Q i (fun a' w' => S w' ∧ wpTurns P ops Q S (getAll ops (t :: post)) (getAll ops l) a' w') a w := by
      unfold wpOp; simp only [ho]
      unfold wpTurns at h
      split at h
      · rename_i hwn; simp only [hwn, if_true]; exact .inl h
      · rename_i hwn; simp only [hwn]; exact h
    exact wpOp_mono (fun a' w' h' => ⟨fun _ => h'.1, wpAnyT_pre l _ a' w' hB' h'.2⟩) hw
theorem wpAnyT_head {pre post : List Nat} (hsel : Region.noSelect ops = true) (hQ : ∀ c a d v w, Q (.panic c) (Act.put a d v) w → Q (.panic c) a w) (w : World) (hS : S w) : ∀ (l : List Nat) (listed : Array Bool) (a : Act), listed.getD t true = false →
    Region.headL md ops t pre post l listed = true → wpReads P ops S (fun a' => wpTurns P ops Q S (getAll ops (t :: post)) (getAll ops pre) a' w) (getAll ops l) a → wpAnyT P md ops Q S t (l.length + (pre.length + (post.length + 1))) listed a w
  | [], listed, a, _, hB, h => by
    rw [show ([] : List Nat).length + (pre.length + (post.length + 1)) = pre.length + (post.length + 1) by simp]
    exact wpAnyT_pre pre listed a w hB h
  | k :: l, listed, a, ht, hB, h => by
    simp only [Region.headL, Bool.and_eq_true, decide_eq_true_eq] at hB
    obtain ⟨⟨⟨⟨hr, hf⟩, hwt⟩, htk⟩, hB'⟩ := hB
    have hr' : k ∈ Region.ready md ops listed := by simpa using hr
    obtain ⟨-, o, ho, -⟩ := mem_ready.1 hr'
    have e : getAll ops (k :: l) = o :: getAll ops l := by simp [getAll, ho]
    rw [e] at h
    rw [show (k :: l).length + (pre.length + (post.length + 1)) = l.length + (pre.length + (post.length + 1)) + 1 by simp; omega]
    have ht' : (listed.setIfInBounds k true).getD t true = false := by rw [getD_set_ne true (Ne.symm htk)]; exact ht
    unfold wpReads at h
    split at h
    · rename_i hwn
      obtain ⟨v, hv, hn⟩ := h
      exact wpAnyT_first ho (Region.noSelect_spec hsel) (fun c a w => hQ c a _ _ w) hwt htk _ listed a w (Region.free_spec ho hf) hr' ht (.inl ⟨hwn, fun w hw => hv ⟨w, hw⟩⟩) hS
        (wpAnyT_head hsel hQ w hS l _ _ ht' hB' hn)
    · rename_i hwn
      exact wpAnyT_first ho (Region.noSelect_spec hsel) (fun c a w => hQ c a _ _ w) hwt htk _ listed a w (Region.free_spec ho hf) hr' ht (.inr ⟨by simpa using hwn, rfl⟩) hS
        (wpAnyT_head hsel hQ w hS l _ _ ht' hB' h)
theorem wp_region_lead {id : Nat} {a : Act} {w : World} {l : List Oper} (S : World → Prop) (hs pre : List Nat) (t : Nat) (post : List Nat) (hm : P.follows .mixedOrders = true) (hB : Region.leadB .any l.toArray hs pre t post = true)
    (hQ : ∀ c a d v w, Q (.panic c) (Act.put a d v) w → Q (.panic c) a w) (hS : S w.drew)
    (h : wpReads P l.toArray S (fun a' => wpTurns P l.toArray Q S (getAll l.toArray (t :: post)) (getAll l.toArray pre) a' w.drew) (getAll l.toArray hs) a) : (Code.region id l.toArray true).wp P Q a w := by
  simp only [Region.leadB, Bool.and_eq_true, decide_eq_true_eq] at hB
  obtain ⟨⟨⟨hsel, ht⟩, hlen⟩, hB'⟩ := hB
  refine wp_region_any hm (wpAny_of_T (S := S) (t := t) _ _ _ _ ?_)
  have := wpAnyT_head hsel hQ w.drew hS hs _ a (getD_in (by simpa using ht) (getD_replicate_false _ _)) hB' h
  rw [← Nat.add_assoc, hlen] at this
  exact this
/-- what becomes of an operation: a read; one that comes up in turn; one behind number t -/
inductive Ph
  | r
  | u
  | p
def pickR : List Ph → List Oper → List Oper
  | .r :: m, o :: l => o :: pickR m l
  | .u :: m, _ :: l => pickR m l
  | .p :: m, _ :: l => pickR m l
  | _, _ => []
def pickU : List Ph → List Oper → List Oper
  | .r :: m, _ :: l => pickU m l
  | .u :: m, o :: l => o :: pickU m l
  | .p :: m, _ :: l => pickU m l
  | _, _ => []
def pickP : List Ph → List Oper → List Oper
  | .r :: m, _ :: l => pickP m l
  | .u :: m, _ :: l => pickP m l
  | .p :: m, o :: l => o :: pickP m l
  | _, _ => []
def idxR : List Ph → Nat → List Nat
  | .r :: m, i => i :: idxR m (i + 1)
  | .u :: m, i => idxR m (i + 1)
  | .p :: m, i => idxR m (i + 1)
  | [], _ => []
def idxU : List Ph → Nat → List Nat
  | .r :: m, i => idxU m (i + 1)
  | .u :: m, i => i :: idxU m (i + 1)
  | .p :: m, i => idxU m (i + 1)
  | [], _ => []
def idxP : List Ph → Nat → List Nat
  | .r :: m, i => idxP m (i + 1)
  | .u :: m, i => idxP m (i + 1)
  | .p :: m, i => i :: idxP m (i + 1)
  | [], _ => []
theorem at_tail {ops : Array Oper} {o : Oper} {l : List Oper} {i : Nat} (h : ∀ j, (o :: l)[j]? = ops[i + j]?) : ∀ j, l[j]? = ops[i + 1 + j]? := fun j => by
  have := h (j + 1)
  rw [show i + (j + 1) = i + 1 + j by omega] at this
  simpa using this
theorem getAll_R : ∀ (m : List Ph) (l : List Oper) (i : Nat), (∀ j, l[j]? = ops[i + j]?) → m.length = l.length → getAll ops (idxR m i) = pickR m l
  | [], l, i, _, _ => by cases l <;> rfl
  | .r :: m, o :: l, i, h, hl => by
    have h0 : ops[i]? = some o := by simpa using (h 0).symm
    have ih := getAll_R m l (i + 1) (at_tail h) (by simpa using hl)
    simp only [idxR, pickR, ← ih, getAll, List.filterMap_cons, h0]
  | .u :: m, o :: l, i, h, hl => getAll_R m l (i + 1) (at_tail h) (by simpa using hl)
  | .p :: m, o :: l, i, h, hl => getAll_R m l (i + 1) (at_tail h) (by simpa using hl)
theorem getAll_U : ∀ (m : List Ph) (l : List Oper) (i : Nat), (∀ j, l[j]? = ops[i + j]?) → m.length = l.length → getAll ops (idxU m i) = pickU m l
  | [], l, i, _, _ => by cases l <;> rfl
  | .u :: m, o :: l, i, h, hl => by
    have h0 : ops[i]? = some o := by simpa using (h 0).symm
    have ih := getAll_U m l (i + 1) (at_tail h) (by simpa using hl)
    simp only [idxU, pickU, ← ih, getAll, List.filterMap_cons, h0]
  | .r :: m, o :: l, i, h, hl => getAll_U m l (i + 1) (at_tail h) (by simpa using hl)
  | .p :: m, o :: l, i, h, hl => getAll_U m l (i + 1) (at_tail h) (by simpa using hl)
theorem getAll_P : ∀ (m : List Ph) (l : List Oper) (i : Nat), (∀ j, l[j]? = ops[i + j]?) → m.length = l.length → getAll ops (idxP m i) = pickP m l
  | [], l, i, _, _ => by cases l <;> rfl
  | .p :: m, o :: l, i, h, hl => by
    have h0 : ops[i]? = some o := by simpa using (h 0).symm
    have ih := getAll_P m l (i + 1) (at_tail h) (by simpa using hl)
    simp only [idxP, pickP, ← ih, getAll, List.filterMap_cons, h0]
  | .r :: m, o :: l, i, h, hl => getAll_P m l (i + 1) (at_tail h) (by simpa using hl)
  | .u :: m, o :: l, i, h, hl => getAll_P m l (i + 1) (at_tail h) (by simpa using hl)
def Region.marksB (md : Region.Mode) (l : List Oper) (m : List Ph) : Bool :=
  decide (m.length = l.length) && (match idxP m 0 with | [] => false | t :: post => Region.leadB md l.toArray (idxR m 0) (idxU m 0) t post)
/-- the region's law, its operations marked -/
theorem wp_region_marksQ {id : Nat} {a : Act} {w : World} {l : List Oper} (S : World → Prop) (m : List Ph) (hm : P.follows .mixedOrders = true) (hB : Region.marksB .any l m = true)
    (hQ : ∀ c a d v w, Q (.panic c) (Act.put a d v) w → Q (.panic c) a w) (hS : S w.drew)
    (h : wpReads P l.toArray S (fun a' => wpTurns P l.toArray Q S (pickP m l) (pickU m l) a' w.drew) (pickR m l) a) : (Code.region id l.toArray true).wp P Q a w := by
  simp only [Region.marksB, Bool.and_eq_true, decide_eq_true_eq] at hB
  obtain ⟨hl, hB⟩ := hB
  have hz : ∀ j, l[j]? = l.toArray[0 + j]? := fun j => by simp
  cases hp : idxP m 0 with
  | nil => rw [hp] at hB; cases hB
  | cons t post =>
    rw [hp] at hB
    refine wp_region_lead S (idxR m 0) (idxU m 0) t post hm hB hQ hS ?_
    rw [← hp, getAll_R m l 0 hz hl, getAll_U m l 0 hz hl, getAll_P m l 0 hz hl]
    exact h
/-- the same, where no panic comes up -/
theorem wp_region_marks {id : Nat} {a : Act} {w : World} {l : List Oper} (S : World → Prop) (m : List Ph) (hm : P.follows .mixedOrders = true) (hB : Region.marksB .any l m = true) (hS : S w.drew)
    (h : wpReads P l.toArray S (fun a' => wpTurns P l.toArray (NoPanic Q) S (pickP m l) (pickU m l) a' w.drew) (pickR m l) a) : (Code.region id l.toArray true).wp P Q a w :=
  wp_region_noPanic (wp_region_marksQ S m hm hB (fun _ _ _ _ _ h => h) hS h)
end
end Go.Proofs.YtoonkfhphbojcaaGreatDoor
namespace Go.Proofs.YtoonkfhphbojcaaGreatDoor
open Go.RowKit
section
variable {P : Program} {ops : Array Oper} {Q : Exit → Act → World → Prop} {md : Region.Mode} {S : World → Prop} {t : Nat}
def Region.headF (md : Region.Mode) (ops : Array Oper) (t : Nat) : List Nat → Array Bool → Bool
  | [], _ => true
  | k :: r, listed => (Region.ready md ops listed).contains k && Region.free md ops listed k && Region.waitsFor md ops t k && decide (t ≠ k) && Region.headF md ops t r (listed.setIfInBounds k true)
def setsT : List Nat → Array Bool → Array Bool
  | [], l => l
  | k :: r, l => setsT r (l.setIfInBounds k true)
theorem wpAnyT_headF {n : Nat} (hsel : Region.noSelect ops = true) (hQ : ∀ c a d v w, Q (.panic c) (Act.put a d v) w → Q (.panic c) a w) (w : World) (hS : S w) : ∀ (l : List Nat) (listed : Array Bool) (a : Act), listed.getD t true = false →
    Region.headF md ops t l listed = true → wpReads P ops S (fun a' => wpAnyT P md ops Q S t n (setsT l listed) a' w) (getAll ops l) a → wpAnyT P md ops Q S t (l.length + n) listed a w
  | [], listed, a, _, hB, h => by simpa [setsT, getAll, wpReads] using h
  | k :: l, listed, a, ht, hB, h => by
    simp only [Region.headF, Bool.and_eq_true, decide_eq_true_eq] at hB
    obtain ⟨⟨⟨⟨hr, hf⟩, hwt⟩, htk⟩, hB'⟩ := hB
    have hr' : k ∈ Region.ready md ops listed := by simpa using hr
    obtain ⟨-, o, ho, -⟩ := mem_ready.1 hr'
    have e : getAll ops (k :: l) = o :: getAll ops l := by simp [getAll, ho]
    rw [e] at h
    rw [show (k :: l).length + n = l.length + n + 1 by simp; omega]
    have ht' : (listed.setIfInBounds k true).getD t true = false := by rw [getD_set_ne true (Ne.symm htk)]; exact ht
    unfold wpReads at h
    split at h
    · rename_i hwn
      obtain ⟨v, hv, hn⟩ := h
      exact wpAnyT_first ho (Region.noSelect_spec hsel) (fun c a w => hQ c a _ _ w) hwt htk _ listed a w (Region.free_spec ho hf) hr' ht (.inl ⟨hwn, fun w hw => hv ⟨w, hw⟩⟩) hS
        (wpAnyT_headF hsel hQ w hS l _ _ ht' hB' hn)
    · rename_i hwn
      exact wpAnyT_first ho (Region.noSelect_spec hsel) (fun c a w => hQ c a _ _ w) hwt htk _ listed a w (Region.free_spec ho hf) hr' ht (.inr ⟨by simpa using hwn, rfl⟩) hS
        (wpAnyT_headF hsel hQ w hS l _ _ ht' hB' h)
def Region.freeB (md : Region.Mode) (ops : Array Oper) (hs : List Nat) (t : Nat) : Bool :=
  Region.noSelect ops && decide (t < ops.size) && decide (hs.length ≤ ops.size) && Region.headF md ops t hs (Array.replicate ops.size false)
/-- the reads hs first, then whatever comes up; number t waits for all of them -/
theorem wp_region_free {id : Nat} {a : Act} {w : World} {l : List Oper} (S : World → Prop) (hs : List Nat) (t n : Nat) (hm : P.follows .mixedOrders = true) (hB : Region.freeB .any l.toArray hs t = true) (hn : hs.length + n = l.length) {rs : List Oper} (hrs : getAll l.toArray hs = rs) {ls : Array Bool} (hls : setsT hs (Array.replicate l.length false) = ls) (hS : S w.drew)
    (h : wpReads P l.toArray S (fun a' => wpAnyT P .any l.toArray (NoPanic Q) S t n ls a' w.drew) rs a) : (Code.region id l.toArray true).wp P Q a w := by
  subst hrs; subst hls
  simp only [Region.freeB, Bool.and_eq_true, decide_eq_true_eq] at hB
  obtain ⟨⟨⟨hsel, ht⟩, hlen⟩, hB'⟩ := hB
  refine wp_region_noPanic ?_
  refine wp_region_any hm (wpAny_of_T (S := S) (t := t) _ _ _ _ ?_)
  have := wpAnyT_headF (n := n) (Q := NoPanic Q) hsel (fun _ _ _ _ _ h => h) w.drew hS hs _ a (getD_in (by simpa using ht) (getD_replicate_false _ _)) hB' (by simpa using h)
  rw [hn] at this
  simpa using this
theorem wpAnyT_one {l : List Oper} {n i : Nat} {oi : Oper} {listed : Array Bool} {a : Act} {w : World} (hr : Region.ready md l.toArray listed = [i]) (hi : l[i]? = some oi)
    (h : ∀ K : Act → World → Prop, (∀ a w, S w → wpAnyT P md l.toArray Q S t n (listed.setIfInBounds i true) a w → K a w) → if Region.wanted oi (yielded l.toArray a.tmps) = true then Oper.wp P oi a w K Q else K (a.put oi.dst undef) w) :
    wpAnyT P md l.toArray Q S t (n + 1) listed a w := by
  refine ⟨fun h1 => (by rw [hr] at h1; cases h1), fun j hj => ?_⟩
  rw [hr] at hj
  obtain rfl : j = i := by simpa using hj
  have := h (fun a' w' => ((listed.setIfInBounds j true).getD t true = false → S w') ∧ wpAnyT P md l.toArray Q S t n (listed.setIfInBounds j true) a' w') (fun _ _ h1 h2 => ⟨fun _ => h1, h2⟩)
  unfold wpOp; simp only [List.getElem?_toArray, hi]; split at this; (· rename_i hw; rw [if_pos hw]; exact .inl this); (· rename_i hw; rw [if_neg hw]; exact this)
theorem wpAnyT_two {l : List Oper} {n i k : Nat} {oi ok : Oper} {listed : Array Bool} {a : Act} {w : World} (hr : Region.ready md l.toArray listed = [i, k]) (hi : l[i]? = some oi) (hk : l[k]? = some ok)
    (h1 : ∀ K : Act → World → Prop, (∀ a w, S w → wpAnyT P md l.toArray Q S t n (listed.setIfInBounds i true) a w → K a w) → if Region.wanted oi (yielded l.toArray a.tmps) = true then Oper.wp P oi a w K Q else K (a.put oi.dst undef) w)
    (h2 : ∀ K : Act → World → Prop, (∀ a w, S w → wpAnyT P md l.toArray Q S t n (listed.setIfInBounds k true) a w → K a w) → if Region.wanted ok (yielded l.toArray a.tmps) = true then Oper.wp P ok a w K Q else K (a.put ok.dst undef) w) :
    wpAnyT P md l.toArray Q S t (n + 1) listed a w := by
  refine ⟨fun h1 => (by rw [hr] at h1; cases h1), fun j hj => ?_⟩
  rw [hr] at hj
  have hj' : j = i ∨ j = k := by simpa using hj
  rcases hj' with rfl | rfl
  · have := h1 (fun a' w' => ((listed.setIfInBounds j true).getD t true = false → S w') ∧ wpAnyT P md l.toArray Q S t n (listed.setIfInBounds j true) a' w') (fun _ _ h1 h2 => ⟨fun _ => h1, h2⟩)
    unfold wpOp; simp only [List.getElem?_toArray, hi]; split at this; (· rename_i hw; rw [if_pos hw]; exact .inl this); (· rename_i hw; rw [if_neg hw]; exact this)
  · have := h2 (fun a' w' => ((listed.setIfInBounds j true).getD t true = false → S w') ∧ wpAnyT P md l.toArray Q S t n (listed.setIfInBounds j true) a' w') (fun _ _ h1 h2 => ⟨fun _ => h1, h2⟩)
    unfold wpOp; simp only [List.getElem?_toArray, hk]; split at this; (· rename_i hw; rw [if_pos hw]; exact .inl this); (· rename_i hw; rw [if_neg hw]; exact this)
theorem wpAnyT_done {n : Nat} {listed : Array Bool} {a : Act} {w : World} (hr : Region.ready md ops listed = []) (h : Q .normal a w) : wpAnyT P md ops Q S t n listed a w := by
  cases n with
  | zero => exact ⟨hr, h⟩
  | succ n => exact ⟨fun _ => h, by rw [hr]; simp⟩
end
end Go.Proofs.YtoonkfhphbojcaaGreatDoor
