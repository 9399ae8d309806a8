/- A region that draws its order: the operations that only read are taken first, the others come up one by one; what the reads rest on is kept till all of them must be done. No program in sight. The walk of link's segs. -/
import Derived.Deep.Quiet
import Derived.Deep.QuietTactic
import Derived.StillTail
import Derived.OrdersHeld
import Derived.WalkKit
import Derived.Deep.RegionHeld3
import Derived.Test.YtdjgkmpjhpnkeaaGreatDoorBd10
import Derived.Test.YtdjgkmpjhpnkeaaGreatDoorBd05
import Derived.Test.YtdjgkmpjhpnkeaaGreatDoorBd16
import Derived.Deep.OwnRows
namespace Go.Proofs.YtdjgkmpjhpnkeaaGreatDoor
open Go.RowKit
structure HW (S : World → Prop) where
  u : World
  h : S u
section
variable {P : Program} {ops : Array Oper} {Q : Exit → Act → World → Prop} {md : Region.Mode} {S : World → Prop} {t : Nat}
/-- whichever comes up: S holds behind it as long as number t has not come up -/
def wpAnyT (P : Program) (md : Region.Mode) (ops : Array Oper) (Q : Exit → Act → World → Prop) (S : World → Prop) (t : Nat) : Nat → Array Bool → Act → World → Prop
  | 0, listed, a, w => Region.ready md ops listed = [] ∧ Q .normal a w
  | fuel + 1, listed, a, w =>
    (Region.ready md ops listed = [] → Q .normal a w) ∧
    ∀ i ∈ Region.ready md ops listed, wpOp P ops Q i (fun a' w' => ((listed.setIfInBounds i true).getD t true = false → S w') ∧ wpAnyT P md ops Q S t fuel (listed.setIfInBounds i true) a' w') a w
theorem wpAny_of_T : ∀ (fuel : Nat) (listed : Array Bool) (a : Act) (w : World), wpAnyT P md ops Q S t fuel listed a w → wpAny P md ops Q fuel listed a w
  | 0, _, _, _, h => h
  | fuel + 1, _, _, _, h => ⟨h.1, fun i hi => wpOp_mono (fun a' w' h' => wpAny_of_T fuel _ a' w' h'.2) (h.2 i hi)⟩
theorem wpAnyT_first {i : Nat} {oi : Oper} {v : Value} (hi : ops[i]? = some oi) (hsel : ∀ (j : Nat) (o : Oper) cs b, ops[j]? = some o → o.op ≠ .select cs b)
    (hQ : ∀ c a w, Q (.panic c) (a.put oi.dst v) w → Q (.panic c) a w) (hwt : Region.waitsFor md ops t i = true) (hti : t ≠ i) :
    ∀ (fuel : Nat) (listed : Array Bool) (a : Act) (w : World),
      (∀ j oj, ops[j]? = some oj → j ≠ i → listed.getD j true = false → (∀ e ∈ oj.after, Region.binds md e = true → e.on ≠ i) → oi.apart ops oj = true) →
      i ∈ Region.ready md ops listed → listed.getD t true = false → YieldsIf P ops S oi v a → S w →
      wpAnyT P md ops Q S t fuel (listed.setIfInBounds i true) (a.put oi.dst v) w → wpAnyT P md ops Q S t (fuel + 1) listed a w := by
  intro fuel
  induction fuel with
  | zero =>
    intro listed a w _ hr _ hy hS H
    refine ⟨fun h => (by rw [h] at hr; cases hr), fun j hj => ?_⟩
    by_cases hji : j = i
    · subst hji; exact hy.wpOp hi hS ⟨fun _ => hS, H⟩
    · have := ready_mono hj hji
      rw [H.1] at this
      cases this
  | succ fuel ih =>
    intro listed a w hfree hr ht hy hS H
    refine ⟨fun h => (by rw [h] at hr; cases hr), fun j hj => ?_⟩
    by_cases hji : j = i
    · subst hji; exact hy.wpOp hi hS ⟨fun _ => hS, H⟩
    · have h1 := H.2 j (ready_mono hj hji)
      obtain ⟨hjun, oj, hoj, hall⟩ := mem_ready.1 hj
      have hnot : ∀ e ∈ oj.after, Region.binds md e = true → e.on ≠ i := fun e he hb heq => by
        have h1 := hall e he hb
        have h0 := (mem_ready.1 hr).1
        rw [heq, getD_both h0] at h1
        cases h1
      have hjt : j ≠ t := fun e => by
        obtain ⟨ot, hot, e2, he2, hb2, hon⟩ := Region.waitsFor_spec hwt
        have : ot = oj := Option.some.inj (hot.symm.trans (e ▸ hoj))
        exact hnot e2 (this ▸ he2) hb2 hon
      have h2 := wpOp_putIf hoj (hfree j oj hoj hji hjun hnot) (fun cs b => hsel i oi cs b hi) (fun cs b => hsel j oj cs b hoj) hQ hy h1
      have hfree' : ∀ k ok, ops[k]? = some ok → k ≠ i → (listed.setIfInBounds j true).getD k true = false →
          (∀ e ∈ ok.after, Region.binds md e = true → e.on ≠ i) → oi.apart ops ok = true := fun k ok hk hki hun hno => by
        refine hfree k ok hk hki ?_ hno
        by_cases hjk : j = k
        · subst hjk; exact hjun
        · rw [getD_set_ne true hjk] at hun; exact hun
      have ht' : (listed.setIfInBounds j true).getD t true = false := by rw [getD_set_ne true hjt]; exact ht
      refine wpOp_mono (fun a' w' h3 => ?_) h2
      have hS' : S w' := h3.2.1 (by rw [getD_set_ne true hjt, getD_set_ne true (Ne.symm hti)]; exact ht)
      refine ⟨fun _ => hS', ih (listed.setIfInBounds j true) a' w' hfree' (ready_mono hr (Ne.symm hji)) ht' h3.1 hS' ?_⟩
      rw [Array.setIfInBounds_comm _ _ hji]
      exact h3.2.2
/-- the reads, one by one -/
def wpReads (P : Program) (ops : Array Oper) (S : World → Prop) (Q : Act → Prop) : List Oper → Act → Prop
  | [], a => Q a
  | o :: rest, a => if Region.wanted o (yielded ops a.tmps) then ∃ v, (∀ x : HW S, (execOp a.eval o).run P x.u = .ok (.value v) x.u) ∧ wpReads P ops S Q rest (a.put o.dst v) else wpReads P ops S Q rest (a.put o.dst undef)
theorem wpReads_nil {Q : Act → Prop} {a : Act} (h : Q a) : wpReads P ops S Q [] a := h
theorem wpReads_step {Q : Act → Prop} {a : Act} {o : Oper} {rest : List Oper}
    (h : ∀ K : Act → Prop, (∀ a, wpReads P ops S Q rest a → K a) → if Region.wanted o (yielded ops a.tmps) then ∃ v, (∀ x : HW S, (execOp a.eval o).run P x.u = .ok (.value v) x.u) ∧ K (a.put o.dst v) else K (a.put o.dst undef)) : wpReads P ops S Q (o :: rest) a :=
  h _ (fun _ h => h)
/-- the others: behind those ahead of number t S is shown anew -/
def wpTurns (P : Program) (ops : Array Oper) (Q : Exit → Act → World → Prop) (S : World → Prop) (post : List Oper) : List Oper → Act → World → Prop
  | [], a, w => wpList P ops Q post a w
  | o :: rest, a, w => if Region.wanted o (yielded ops a.tmps) then o.wp P a w (fun a' w' => S w' ∧ wpTurns P ops Q S post rest a' w') Q else S w ∧ wpTurns P ops Q S post rest (a.put o.dst undef) w
theorem wpTurns_nil {post : List Oper} {a : Act} {w : World} (h : wpList P ops Q post a w) : wpTurns P ops Q S post [] a w := h
theorem wpTurns_step {post : List Oper} {a : Act} {w : World} {o : Oper} {rest : List Oper}
    (h : ∀ K : Act → World → Prop, (∀ a w, S w → wpTurns P ops Q S post rest a w → K a w) → if Region.wanted o (yielded ops a.tmps) = true then Oper.wp P o a w K Q else K (a.put o.dst undef) w) : wpTurns P ops Q S post (o :: rest) a w := by
  have := h (fun a w => S w ∧ wpTurns P ops Q S post rest a w) (fun _ _ h1 h2 => ⟨h1, h2⟩)
  exact this
def getAll (ops : Array Oper) (l : List Nat) : List Oper := l.filterMap fun i => ops[i]?
def Region.seqL (md : Region.Mode) (ops : Array Oper) : List Nat → Array Bool → Bool
  | [], listed => (Region.ready md ops listed).isEmpty
  | k :: r, listed => decide (Region.ready md ops listed = [k]) && Region.seqL md ops r (listed.setIfInBounds k true)
/-- the others' order, number t being the first of the last ones -/
def Region.preL (md : Region.Mode) (ops : Array Oper) (t : Nat) (post : List Nat) : List Nat → Array Bool → Bool
  | [], listed => Region.seqL md ops (t :: post) listed
  | k :: r, listed => decide (Region.ready md ops listed = [k]) && decide (k ≠ t) && Region.preL md ops t post r (listed.setIfInBounds k true)
def Region.headL (md : Region.Mode) (ops : Array Oper) (t : Nat) (pre post : List Nat) : List Nat → Array Bool → Bool
  | [], listed => Region.preL md ops t post pre listed
  | k :: r, listed => (Region.ready md ops listed).contains k && Region.free md ops listed k && Region.waitsFor md ops t k && decide (t ≠ k) && Region.headL md ops t pre post r (listed.setIfInBounds k true)
def Region.leadB (md : Region.Mode) (ops : Array Oper) (hs pre : List Nat) (t : Nat) (post : List Nat) : Bool :=
  Region.noSelect ops && decide (t < ops.size) && decide (hs.length + pre.length + (post.length + 1) = ops.size) && Region.headL md ops t pre post hs (Array.replicate ops.size false)
theorem ready_at {k : Nat} {listed : Array Bool} (h : Region.ready md ops listed = [k]) : ∃ o, ops[k]? = some o := by
  have : k ∈ Region.ready md ops listed := by rw [h]; simp
  obtain ⟨-, o, ho, -⟩ := mem_ready.1 this
  exact ⟨o, ho⟩
theorem getD_stays {listed : Array Bool} {i t : Nat} (h : listed.getD t true = true) : (listed.setIfInBounds i true).getD t true = true := by
  by_cases hit : i = t
  · subst hit
    rcases Nat.lt_or_ge i listed.size with h' | h'
    · simp [h']
    · simp
  · rw [getD_set_ne true hit]; exact h
theorem wpAnyT_seq : ∀ (l : List Nat) (listed : Array Bool) (a : Act) (w : World), listed.getD t true = true →
    Region.seqL md ops l listed = true → wpList P ops Q (getAll ops l) a w → wpAnyT P md ops Q S t l.length listed a w
  | [], _, _, _, _, hB, h => ⟨by simpa [Region.seqL] using hB, h⟩
  | k :: l, listed, a, w, ht, hB, h => by
    simp only [Region.seqL, Bool.and_eq_true, decide_eq_true_eq] at hB
    obtain ⟨o, ho⟩ := ready_at hB.1
    have e : getAll ops (k :: l) = o :: getAll ops l := by simp [getAll, ho]
    rw [e] at h
    refine ⟨fun h1 => (by rw [hB.1] at h1; cases h1), fun i hi => ?_⟩
    rw [hB.1] at hi
    obtain rfl : i = k := by simpa using hi
    have hw : wpOp P ops Q i (wpList P ops Q (getAll ops l)) a w := by unfold wpOp; simp only [ho]; exact h
    have ht' := getD_stays (i := i) ht
    exact wpOp_mono (fun a' w' h' => ⟨fun h0 => (by rw [ht'] at h0; cases h0), wpAnyT_seq l _ a' w' ht' hB.2 h'⟩) hw
theorem getD_now {listed : Array Bool} {t : Nat} : (listed.setIfInBounds t true).getD t true = true := by
  rcases Nat.lt_or_ge t listed.size with h' | h'
  · simp [h']
  · simp
theorem wpAnyT_pre {post : List Nat} : ∀ (l : List Nat) (listed : Array Bool) (a : Act) (w : World),
    Region.preL md ops t post l listed = true → wpTurns P ops Q S (getAll ops (t :: post)) (getAll ops l) a w → wpAnyT P md ops Q S t (l.length + (post.length + 1)) listed a w
  | [], listed, a, w, hB, h => by
    simp only [Region.preL, Region.seqL, Bool.and_eq_true, decide_eq_true_eq] at hB
    obtain ⟨o, ho⟩ := ready_at hB.1
    have e : getAll ops (t :: post) = o :: getAll ops post := by simp [getAll, ho]
    have h' : wpList P ops Q (o :: getAll ops post) a w := by rw [← e]; exact h
    rw [show ([] : List Nat).length + (post.length + 1) = post.length + 1 by simp]
    refine ⟨fun h1 => (by rw [hB.1] at h1; cases h1), fun i hi => ?_⟩
    rw [hB.1] at hi
    obtain rfl : i = t := by simpa using hi
    have hw : wpOp P ops Q i (wpList P ops Q (getAll ops post)) a w := by unfold wpOp; simp only [ho]; exact h'
    have ht' : (listed.setIfInBounds i true).getD i true = true := getD_now
    exact wpOp_mono (fun a' w' h' => ⟨fun h0 => (by rw [ht'] at h0; cases h0), wpAnyT_seq post _ a' w' ht' hB.2 h'⟩) hw
  | k :: l, listed, a, w, hB, h => by
    simp only [Region.preL, Bool.and_eq_true, decide_eq_true_eq] at hB
    obtain ⟨⟨hr, hkt⟩, hB'⟩ := hB
    obtain ⟨o, ho⟩ := ready_at hr
    have e : getAll ops (k :: l) = o :: getAll ops l := by simp [getAll, ho]
    rw [e] at h
    rw [show (k :: l).length + (post.length + 1) = l.length + (post.length + 1) + 1 by simp; omega]
    refine ⟨fun h1 => (by rw [hr] at h1; cases h1), fun i hi => ?_⟩
    rw [hr] at hi
    obtain rfl : i = k := by simpa using hi
    have hw : wpOp P ops Q i (fun a' w' => S w' ∧ wpTurns P ops Q S (getAll ops (t :: post)) (getAll ops l) a' w') a w := by
      unfold wpOp; simp only [ho]
      unfold wpTurns at h
      split at h
      · rename_i hwn; simp only [hwn, if_true]; exact .inl h
      · rename_i hwn; simp only [hwn]; exact h
    exact wpOp_mono (fun a' w' h' => ⟨fun _ => h'.1, wpAnyT_pre l _ a' w' hB' h'.2⟩) hw
theorem wpAnyT_head {pre post : List Nat} (hsel : Region.noSelect ops = true) (hQ : ∀ c a d v w, Q (.panic c) (Act.put a d v) w → Q (.panic c) a w) (w : World) (hS : S w) : ∀ (l : List Nat) (listed : Array Bool) (a : Act), listed.getD t true = false →
    Region.headL md ops t pre post l listed = true → wpReads P ops S (fun a' => wpTurns P ops Q S (getAll ops (t :: post)) (getAll ops pre) a' w) (getAll ops l) a → wpAnyT P md ops Q S t (l.length + (pre.length + (post.length + 1))) listed a w
  | [], listed, a, _, hB, h => by
    rw [show ([] : List Nat).length + (pre.length + (post.length + 1)) = pre.length + (post.length + 1) by simp]
    exact wpAnyT_pre pre listed a w hB h
  | k :: l, listed, a, ht, hB, h => by
    simp only [Region.headL, Bool.and_eq_true, decide_eq_true_eq] at hB
    obtain ⟨⟨⟨⟨hr, hf⟩, hwt⟩, htk⟩, hB'⟩ := hB
    have hr' : k ∈ Region.ready md ops listed := by simpa using hr
    obtain ⟨-, o, ho, -⟩ := mem_ready.1 hr'
    have e : getAll ops (k :: l) = o :: getAll ops l := by simp [getAll, ho]
    rw [e] at h
    rw [show (k :: l).length + (pre.length + (post.length + 1)) = l.length + (pre.length + (post.length + 1)) + 1 by simp; omega]
    have ht' : (listed.setIfInBounds k true).getD t true = false := by rw [getD_set_ne true (Ne.symm htk)]; exact ht
    unfold wpReads at h
    split at h
    · rename_i hwn
      obtain ⟨v, hv, hn⟩ := h
      exact wpAnyT_first ho (Region.noSelect_spec hsel) (fun c a w => hQ c a _ _ w) hwt htk _ listed a w (Region.free_spec ho hf) hr' ht (.inl ⟨hwn, fun w hw => hv ⟨w, hw⟩⟩) hS
        (wpAnyT_head hsel hQ w hS l _ _ ht' hB' hn)
    · rename_i hwn
      exact wpAnyT_first ho (Region.noSelect_spec hsel) (fun c a w => hQ c a _ _ w) hwt htk _ listed a w (Region.free_spec ho hf) hr' ht (.inr ⟨by simpa using hwn, rfl⟩) hS
        (wpAnyT_head hsel hQ w hS l _ _ ht' hB' h)
theorem wp_region_lead {id : Nat} {a : Act} {w : World} {l : List Oper} (S : World → Prop) (hs pre : List Nat) (t : Nat) (post : List Nat) (hm : P.follows .mixedOrders = true) (hB : Region.leadB .any l.toArray hs pre t post = true)
    (hQ : ∀ c a d v w, Q (.panic c) (Act.put a d v) w → Q (.panic c) a w) (hS : S w.drew)
    (h : wpReads P l.toArray S (fun a' => wpTurns P l.toArray Q S (getAll l.toArray (t :: post)) (getAll l.toArray pre) a' w.drew) (getAll l.toArray hs) a) : (Code.region id l.toArray true).wp P Q a w := by
  simp only [Region.leadB, Bool.and_eq_true, decide_eq_true_eq] at hB
  obtain ⟨⟨⟨hsel, ht⟩, hlen⟩, hB'⟩ := hB
  refine wp_region_any hm (wpAny_of_T (S := S) (t := t) _ _ _ _ ?_)
  have := wpAnyT_head hsel hQ w.drew hS hs _ a (getD_in (by simpa using ht) (getD_replicate_false _ _)) hB' h
  rw [← Nat.add_assoc, hlen] at this
  exact this
/-- what becomes of an operation: a read; one that comes up in turn; one behind number t -/
inductive Ph
  | r
  | u
  | p
def pickR : List Ph → List Oper → List Oper
  | .r :: m, o :: l => o :: pickR m l
  | .u :: m, _ :: l => pickR m l
  | .p :: m, _ :: l => pickR m l
  | _, _ => []
def pickU : List Ph → List Oper → List Oper
  | .r :: m, _ :: l => pickU m l
  | .u :: m, o :: l => o :: pickU m l
  | .p :: m, _ :: l => pickU m l
  | _, _ => []
def pickP : List Ph → List Oper → List Oper
  | .r :: m, _ :: l => pickP m l
  | .u :: m, _ :: l => pickP m l
  | .p :: m, o :: l => o :: pickP m l
  | _, _ => []
def idxR : List Ph → Nat → List Nat
  | .r :: m, i => i :: idxR m (i + 1)
  | .u :: m, i => idxR m (i + 1)
  | .p :: m, i => idxR m (i + 1)
  | [], _ => []
def idxU : List Ph → Nat → List Nat
  | .r :: m, i => idxU m (i + 1)
  | .u :: m, i => i :: idxU m (i + 1)
  | .p :: m, i => idxU m (i + 1)
  | [], _ => []
def idxP : List Ph → Nat → List Nat
  | .r :: m, i => idxP m (i + 1)
  | .u :: m, i => idxP m (i + 1)
  | .p :: m, i => i :: idxP m (i + 1)
  | [], _ => []
theorem at_tail {ops : Array Oper} {o : Oper} {l : List Oper} {i : Nat} (h : ∀ j, (o :: l)[j]? = ops[i + j]?) : ∀ j, l[j]? = ops[i + 1 + j]? := fun j => by
  have := h (j + 1)
  rw [show i + (j + 1) = i + 1 + j by omega] at this
  simpa using this
theorem getAll_R : ∀ (m : List Ph) (l : List Oper) (i : Nat), (∀ j, l[j]? = ops[i + j]?) → m.length = l.length → getAll ops (idxR m i) = pickR m l
  | [], l, i, _, _ => by cases l <;> rfl
  | .r :: m, o :: l, i, h, hl => by
    have h0 : ops[i]? = some o := by simpa using (h 0).symm
    have ih := getAll_R m l (i + 1) (at_tail h) (by simpa using hl)
    simp only [idxR, pickR, ← ih, getAll, List.filterMap_cons, h0]
  | .u :: m, o :: l, i, h, hl => getAll_R m l (i + 1) (at_tail h) (by simpa using hl)
  | .p :: m, o :: l, i, h, hl => getAll_R m l (i + 1) (at_tail h) (by simpa using hl)
theorem getAll_U : ∀ (m : List Ph) (l : List Oper) (i : Nat), (∀ j, l[j]? = ops[i + j]?) → m.length = l.length → getAll ops (idxU m i) = pickU m l
  | [], l, i, _, _ => by cases l <;> rfl
  | .u :: m, o :: l, i, h, hl => by
    have h0 : ops[i]? = some o := by simpa using (h 0).symm
    have ih := getAll_U m l (i + 1) (at_tail h) (by simpa using hl)
    simp only [idxU, pickU, ← ih, getAll, List.filterMap_cons, h0]
  | .r :: m, o :: l, i, h, hl => getAll_U m l (i + 1) (at_tail h) (by simpa using hl)
  | .p :: m, o :: l, i, h, hl => getAll_U m l (i + 1) (at_tail h) (by simpa using hl)
theorem getAll_P : ∀ (m : List Ph) (l : List Oper) (i : Nat), (∀ j, l[j]? = ops[i + j]?) → m.length = l.length → getAll ops (idxP m i) = pickP m l
  | [], l, i, _, _ => by cases l <;> rfl
  | .p :: m, o :: l, i, h, hl => by
    have h0 : ops[i]? = some o := by simpa using (h 0).symm
    have ih := getAll_P m l (i + 1) (at_tail h) (by simpa using hl)
    simp only [idxP, pickP, ← ih, getAll, List.filterMap_cons, h0]
  | .r :: m, o :: l, i, h, hl => getAll_P m l (i + 1) (at_tail h) (by simpa using hl)
  | .u :: m, o :: l, i, h, hl => getAll_P m l (i + 1) (at_tail h) (by simpa using hl)
def Region.marksB (md : Region.Mode) (l : List Oper) (m : List Ph) : Bool :=
  decide (m.length = l.length) && (match idxP m 0 with | [] => false | t :: post => Region.leadB md l.toArray (idxR m 0) (idxU m 0) t post)
/-- the region's law, its operations marked -/
theorem wp_region_marksQ {id : Nat} {a : Act} {w : World} {l : List Oper} (S : World → Prop) (m : List Ph) (hm : P.follows .mixedOrders = true) (hB : Region.marksB .any l m = true)
    (hQ : ∀ c a d v w, Q (.panic c) (Act.put a d v) w → Q (.panic c) a w) (hS : S w.drew)
    (h : wpReads P l.toArray S (fun a' => wpTurns P l.toArray Q S (pickP m l) (pickU m l) a' w.drew) (pickR m l) a) : (Code.region id l.toArray true).wp P Q a w := by
  simp only [Region.marksB, Bool.and_eq_true, decide_eq_true_eq] at hB
  obtain ⟨hl, hB⟩ := hB
  have hz : ∀ j, l[j]? = l.toArray[0 + j]? := fun j => by simp
  cases hp : idxP m 0 with
  | nil => rw [hp] at hB; cases hB
  | cons t post =>
    rw [hp] at hB
    refine wp_region_lead S (idxR m 0) (idxU m 0) t post hm hB hQ hS ?_
    rw [← hp, getAll_R m l 0 hz hl, getAll_U m l 0 hz hl, getAll_P m l 0 hz hl]
    exact h
/-- the same, where no panic comes up -/
theorem wp_region_marks {id : Nat} {a : Act} {w : World} {l : List Oper} (S : World → Prop) (m : List Ph) (hm : P.follows .mixedOrders = true) (hB : Region.marksB .any l m = true) (hS : S w.drew)
    (h : wpReads P l.toArray S (fun a' => wpTurns P l.toArray (NoPanic Q) S (pickP m l) (pickU m l) a' w.drew) (pickR m l) a) : (Code.region id l.toArray true).wp P Q a w :=
  wp_region_noPanic (wp_region_marksQ S m hm hB (fun _ _ _ _ _ h => h) hS h)
end
end Go.Proofs.YtdjgkmpjhpnkeaaGreatDoor
namespace Go.Proofs.YtdjgkmpjhpnkeaaGreatDoor
open Go.RowKit Go.Maps Go.WideMaps
def segCells (x : GSeg) : List Value := [.int .u32 x.addr, .int .u8 x.perm, .string x.bytes]
def lkCells (m0 m1 m2 m3 en sg av ov pv sv : Value) : Array Value := #[m0, m1, m2, m3, en, sg, av, ov, pv, sv]
def SegsPost (xb : Nat) (c : Value → Array Value) (w : World) (spans : List GSpan) (R : BL × ByteArray × Int) (e : Ending) (w' : World) : Prop :=
  KB (fun q => q = xb) w w' ∧ if R.2.2 = 0 then e = .returned (.tuple #[.string ⟨#[]⟩, .int .i64 0]) ∧ ∃ vs, w'.heap[xb]? = some (.cells (c vs) 117 (0, 0)) ∧ w'.ownsRow w.heap.size 107 3 vs spans.length ((spans.map (segOf R.1)).flatMap segCells)
    else e = .returned (.tuple #[.string R.2.1, .int .i64 R.2.2])
theorem make18 (w : World) : (Instr.makeSlice 130 (.int .i64 131072) (.int .i64 131072)).run Tryz.prog w = .ok (.slice (some ⟨w.heap.size, 0, none⟩) 131072 131072) (w.alloc (.cells (madeCells #[.int .u8 0] 131072) 5)) :=
  run_make_row' 130 5 (.int .u8 0) 1 Tryz.underlying130 info_byte rfl .i64 .i64 131072 (by omega) (by omega) w
theorem made18 (w : World) : ByteRow (w.alloc (.cells (madeCells #[.int .u8 0] 131072) 5)) w.heap.size zeros18 :=
  ⟨5, by unfold zeros18; rw [← madeBytes]; exact new_block w _⟩
theorem three_news {w : World} {g : Nat} {a b c : Value} (h0 : w.cell? ⟨g, 0, none⟩ = some a) (h1 : w.cell? ⟨g, 1, none⟩ = some b) (h2 : w.cell? ⟨g, 2, none⟩ = some c) : ∀ j u, [a, b, c][j]? = some u → w.cell? ((⟨g, 0, none⟩ : Addr).add j) = some u := by
  intro j u hu
  match j, hu with
  | 0, hu => simp at hu; subst hu; simpa [Addr.add] using h0
  | 1, hu => simp at hu; subst hu; simpa [Addr.add] using h1
  | 2, hu => simp at hu; subst hu; simpa [Addr.add] using h2
theorem three_one {a b : Int} {s : ByteArray} : ∀ u ∈ [Value.int .u32 a, Value.int .u8 b, Value.string s], u.oneCell' = true := by
  intro u hu
  simp at hu
  rcases hu with rfl | rfl | rfl <;> rfl
theorem grow_box {wn w5 : World} {B ob k n : Nat} {e t : TypeId} {v : Value} {xs : List Value} {cs : Array Value} {o : Obj} (hg : (wn.alloc o).grownBy w5 v.ownBlock) (hown : (wn.alloc o).ownsRow B e k v n xs) (hb : wn.heap[ob]? = some (.cells cs t (0, 0))) (hne : e ≠ t) :
    w5.heap[ob]? = some (.cells cs t (0, 0)) := by
  have hlt := (Array.getElem?_eq_some_iff.1 hb).1
  have h1 : (wn.alloc o).heap[ob]? = some (.cells cs t (0, 0)) := (Below.heap_alloc _ _ _ hlt).trans hb
  exact (hg.block ob (by simp; omega) fun e' => own_ne_box hown h1 hne e'.symm).trans h1
theorem info_seg : (Tryz.prog.info? 107).map (fun i => (i.zero, i.size, i.bytes)) = some (some (.agg #[.int .u32 0, .int .u8 0, .string ⟨#[]⟩]), 3, 24) := by kernel_rfl
set_option maxRecDepth 100000 in
set_option maxHeartbeats 4000000 in
theorem segs_any (xb : Nat) (m0 m1 m2 m3 en av ov pv sv : Value) (l : List GObj) (wh : List GAddr) (ps : List GP) (spans : List GSpan) (w : World) (hbx : w.heap[xb]? = some (.cells (lkCells m0 m1 m2 m3 en (.slice none 0 0) av ov pv sv) 117 (0, 0)))
    (h : ObjsAt w ov l) (ha : RowAt 3 AddrR w av wh) (hp : RowAt 2 PlcR w pv ps) (hsp : RowAt 3 SpanR w sv spans) (hne : ∀ w', KB (fun q => q = xb) w w' → ObjsAt w' ov l ∧ RowAt 3 AddrR w' av wh ∧ RowAt 2 PlcR w' pv ps ∧ RowAt 3 SpanR w' sv spans) (ok : SegsOk l wh ps spans) :
    Calls Tryz.prog 59 #[.pointer (some ⟨xb, 0, none⟩)] w (SegsPost xb (fun v => lkCells m0 m1 m2 m3 en v av ov pv sv) w spans (fillGo l wh ps wh zeros18)) := by
  have hmk := make18
  have hmr := made18 w
  generalize hZ : Obj.cells (madeCells #[.int .u8 0] 131072) 5 = Z at hmk hmr
  clear hZ
  have HR0 := Lib.hid hmr; clear hmr
  have hxb : xb < w.heap.size := (Array.getElem?_eq_some_iff.1 hbx).1
  have HBX := Lib.hid hbx; clear hbx
  have HNE := Lib.hid hne; clear hne
  have HOK := Lib.hid ok; clear ok
  obtain ⟨pv', cv', hv⟩ : ∃ (pv : Option Addr) (cv : Nat), ov = .slice pv l.length cv := by obtain ⟨p, cap, b, o, rfl, _⟩ := h; exact ⟨p, cap, rfl⟩
  obtain ⟨pp, cp, bp, op, rfl, hcp, hmp, hpp, hcc⟩ := hp
  obtain ⟨pa, ca, ba, oa, rfl, hca, hma, hpa, hac⟩ := ha
  obtain ⟨pS, cS, bS, oS, rfl, hcS, hmS, hpS, hsc⟩ := hsp
  have HPP := Lib.hid hpp; clear hpp hcc
  have HPA := Lib.hid hpa; clear hpa hac
  have HPS := Lib.hid hpS; clear hpS hsc
  have hlen := HOK.out.len
  have HB0 : Hid (Below w.heap.size w (w.alloc Z)) := alloc_old w Z
  have z1 : (w.alloc Z).heap.size = w.heap.size + 1 := by simp
  have HBX1 := Lib.hid ((HB0.out.block xb hxb).trans HBX.out)
  generalize hW1 : w.alloc Z = w1 at HR0 HB0 z1 HBX1
  have k8 : w1.cell? ⟨xb, 8, none⟩ = some (.slice pp ps.length cp) := Lib.cell_of_heap HBX1.out 8
  go_enter Tryz.func59, Tryz.ntmps59
  go_wp2
  try rw [hW1]
  clear hW1 hmk k8
  go_loopw [17] (fun v17 wr => ∃ (k : Nat) (b : BL), v17 = .int .i64 k ∧ k ≤ ps.length ∧ b.length = 131072 ∧ ByteRow wr w.heap.size b ∧ fillGo l wh (ps.drop k) (wh.drop k) b = fillGo l wh ps wh zeros18 ∧ Below w.heap.size w wr) (fun v17 _ => ps.length - (intOf v17).toNat)
  case atStart => exact ⟨0, zeros18, by go_num, Nat.zero_le _, List.length_replicate, HR0.out, rfl, HB0.out⟩
  case round =>
    obtain ⟨k, b, rfl, hk, hbl, hrow, hgo, hB⟩ := hrel
    have HBL := Lib.hid hbl; clear hbl
    have HRW := Lib.hid hrow; clear hrow
    have HGO := Lib.hid hgo; clear hgo
    have HB := Lib.hid hB; clear hB
    have hbr := (HB.out.block xb hxb).trans HBX.out
    have d6 : wr.cell? ⟨xb, 6, none⟩ = some (.slice pa wh.length ca) := Lib.cell_of_heap hbr 6
    have d7 : wr.cell? ⟨xb, 7, none⟩ = some ov := Lib.cell_of_heap hbr 7
    have d9 : wr.cell? ⟨xb, 9, none⟩ = some (.slice pS spans.length cS) := Lib.cell_of_heap hbr 9
    have HBR := Lib.hid hbr; clear hbr
    have hxr : xb < wr.heap.size := size_keep HB.out hxb
    by_cases hlt : k < ps.length
    · obtain ⟨hO, hA, hP, -⟩ := HNE.out wr (KB.of_below HB.out)
      have hkw : k < wh.length := by omega
      obtain ⟨s, hs, hsb, hrl, ha0, ha1, hfit⟩ := HOK.out.sym k hlt hkw
      obtain rfl := HPP.out (by omega)
      obtain rfl := HPA.out (by omega)
      have HO := Lib.hid hO; have HA := Lib.hid hA
      obtain ⟨p', cap', b', o', he, -, -, hp', hc'⟩ := hP
      cases he
      cases hp' (by omega)
      obtain ⟨g0, g1, g2⟩ := hc' k hlt
      obtain ⟨p', cap', b', o', he, -, -, hp', hc2⟩ := hA
      cases he
      cases hp' (by omega)
      obtain ⟨e0, -, -, e3, -⟩ := hc2 k hkw
      have HG : Hid (fillGo l wh (ps.drop k) (wh.drop k) b = if (filledR l wh ps[k] s).2 = 0 then fillGo l wh (ps.drop (k + 1)) (wh.drop (k + 1)) (putB b (filledR l wh ps[k] s).1.data.toList wh[k].at_.toNat) else (b, s.name, (filledR l wh ps[k] s).2)) := fillGo_step hlt hkw rfl rfl hs
      have HF : Hid (∀ W, Below wr.heap.size wr W → Calls Tryz.prog 152 #[.pointer (some ⟨xb, 0, none⟩), .agg #[.int .i64 ps[k].1, .int .i64 ps[k].2]] W fun e w' => e = .returned (.tuple #[.string (filledR l wh ps[k] s).1, .int .i64 (filledR l wh ps[k] s).2]) ∧ Below W.heap.size W w') := fun W hW =>
        linkFill_any xb ov _ l wh ps[k] s W (HO.out.keep hW) (HA.out.keep addrR_keeps hW) (size_keep hW hxr) (cell_keep hW hxr d6) (cell_keep hW hxr d7) hs hsb hrl
      have HSY : Hid (∀ W, Below wr.heap.size wr W → Calls Tryz.prog 58 #[.pointer (some ⟨xb, 0, none⟩), .agg #[.int .i64 ps[k].1, .int .i64 ps[k].2]] W (SymLPost W s)) := fun W hW =>
        linkSym_any xb ov l ps[k] s W (HO.out.keep hW) (size_keep hW hxr) (cell_keep hW hxr d7) hs
      generalize filledR l wh ps[k] s = fr at HG HF hfit
      generalize ps[k] = p at g1 g2 HF HSY
      obtain ⟨p1, p2⟩ := p
      obtain ⟨fb, fc⟩ := fr
      simp only [] at g1 g2 HF HSY HG hfit
      generalize wh[k] = a at e3 HG ha0 ha1 hfit
      obtain ⟨a1, a2, a3⟩ := a
      simp only [] at e3 HG ha0 ha1 hfit
      obtain ⟨an, rfl⟩ := Int.eq_ofNat_of_zero_le ha0
      clear hs hsb hrl hc' hc2 ha0
      go_wp2_with fail
      refine (HF.out _ (alloc_old wr _)).mono ?_
      rintro e w2 ⟨rfl, hB2⟩
      have n0 := cell_keep hB2 (by simp) (show (wr.alloc (.cells #[.int .i64 p1, .int .i64 p2] 63)).cell? ⟨wr.heap.size, 0, none⟩ = some (.int .i64 p1) by simp [go_sem])
      have n1 := cell_keep hB2 (by simp) (show (wr.alloc (.cells #[.int .i64 p1, .int .i64 p2] 63)).cell? ⟨wr.heap.size, 1, none⟩ = some (.int .i64 p2) by simp [go_sem])
      have hB2w : Below wr.heap.size wr w2 := (alloc_old wr _).trans (hB2.mono (by simp))
      have HB2 := Lib.hid hB2w
      have x6 := cell_keep hB2w hxr d6
      have xe := cell_keep hB2w e0 e3
      have hz2 : wr.heap.size < w2.heap.size := by have := hB2.size; simp at this; omega
      have HR2 := Lib.hid (HRW.out.below hB2w)
      have hx2 : xb < w2.heap.size := size_keep hB2w hxr
      have hea : ba < w2.heap.size := size_keep hB2w e0
      clear hB2 hB2w g1 g2 g0 d6 e3 e0
      by_cases hfc : fc = 0
      · subst hfc
        have han : an < 131072 := by omega
        have hfit2 : an + fb.size ≤ 131072 := by have := hfit rfl; omega
        have HG2 : Hid (fillGo l wh (ps.drop k) (wh.drop k) b = fillGo l wh (ps.drop (k + 1)) (wh.drop (k + 1)) (putB b fb.data.toList an)) := HG.out.trans (by rw [if_pos rfl]; rfl)
        obtain ⟨w3, hcopy, hr3, hk3⟩ := HR2.out.copy (P := Tryz.prog) 130 9 3 5 an (131072 - an) (131072 - an) fb Tryz.underlying130 (by kernel_rfl) (by omega) (by rw [HBL.out]; omega)
        have HR3 := Lib.hid hr3
        have HK3 := Lib.hid hk3
        clear hr3 hk3
        go_wp2
        go_roundw
        case rel =>
          have hw0 := HB.out.size
          refine ⟨k + 1, _, by go_num, by omega, ?_, HR3.out, HG2.out.symm.trans HGO.out, ?_⟩
          · have e : fb.size = fb.data.toList.length := by simp
            rw [putB_length (by rw [HBL.out, ← e]; omega), HBL.out]
          · exact (HB.out.trans (HB2.out.mono HB.out.size)).trans (HK3.out.below (by have := HB2.out.size; omega) (fun q hq => by omega))
        case measure => simp [intOf]; omega
      · have b1 : (fc != 0) = true := by simpa using hfc
        have HS2 := Lib.hid (HSY.out w2 HB2.out)
        unfold SymLPost at HS2
        go_wp2_with fail
        refine HS2.out.mono ?_
        rintro e w3 ⟨⟨vr, vn, rfl, hin⟩, hB3⟩
        unfold symV
        obtain ⟨q1, c1, q2, c2, rfl, rfl⟩ := hin.shape
        have hfn := field_name s.name s.bytes s.bind s.kind s.size (.slice q1 s.rels.length c1) (.slice q2 s.notes.length c2) w3
        go_wp2
        go_ret2
        have HRES : Hid (fillGo l wh ps wh zeros18 = (b, s.name, fc)) := HGO.out.symm.trans (HG.out.trans (by rw [if_neg hfc]))
        rw [HRES.out]
        refine ⟨KB.of_below (HB.out.trans ((HB2.out.trans (hB3.mono HB2.out.size)).mono HB.out.size)), ?_⟩
        rw [if_neg hfc]
        rfl
    · have HE := Lib.hid (HGO.out.symm.trans (fillGo_end hlt))
      obtain ⟨iS, s0, s1, s2, s3⟩ := info_parts info_seg
      have HI := Lib.hid (And.intro s0 (And.intro s1 (And.intro s2 s3)))
      clear s0 s1 s2 s3 d6 d7
      obtain ⟨wo, hwo⟩ : ∃ wo : World, wo = wr := ⟨_, rfl⟩
      have HKO : Hid (KB (fun q => q = xb) w wo) := by rw [hwo]; exact KB.of_below HB.out
      have hzo : w.heap.size < wo.heap.size := by rw [hwo]; exact HRW.out.lt
      have hxo : xb < wo.heap.size := by omega
      go_wp2
      go_loopw [54] (fun v54 wy => ∃ (j : Nat) (vs : Value), v54 = .int .i64 j ∧ j ≤ spans.length ∧ wy.heap[xb]? = some (.cells (lkCells m0 m1 m2 m3 en vs (.slice pa wh.length ca) ov (.slice pp ps.length cp) (.slice pS spans.length cS)) 117 (0, 0)) ∧
        wy.ownsRow wo.heap.size 107 3 vs j (((spans.take j).map (segOf b)).flatMap segCells) ∧ KB (fun q => q = xb) wo wy) (fun v54 _ => spans.length - (intOf v54).toNat)
      case atStart => exact ⟨0, .slice none 0 0, by go_num, Nat.zero_le _, HBR.out, World.ownsRow_nil _ _ _ _, by rw [hwo]; exact KB.refl _ _⟩
      case round =>
        obtain ⟨j, vs, rfl, hj, hby, hoy, hky⟩ := hrel
        have HBY := Lib.hid hby; clear hby
        have HOY := Lib.hid hoy
        have HKY := Lib.hid hky; clear hky
        obtain ⟨pv2, cv2, rfl⟩ := own_shape hoy
        clear hoy
        have hzy := HKY.out.size
        by_cases hlj : j < spans.length
        · obtain ⟨-, -, -, hSp⟩ := HNE.out wr (HKO.out.trans HKY.out)
          obtain rfl := HPS.out (by omega)
          obtain ⟨p', cap', b', o', he, -, -, hp', hc'⟩ := hSp
          cases he
          cases hp' (by omega)
          obtain ⟨g0, g1, g2, g3, hk, hat, hsz⟩ := hc' j hlj
          obtain ⟨hs1, hs2, hs3⟩ := HOK.out.spn _ (List.getElem_mem hlj)
          have hSN : Hid (((spans.take (j + 1)).map (segOf b)).flatMap segCells = ((spans.take j).map (segOf b)).flatMap segCells ++ segCells (segOf b spans[j])) := by
            rw [Hid, List.take_succ_eq_append_getElem hlj, List.map_append, List.flatMap_append]; simp only [List.map_cons, List.map_nil, List.flatMap_cons, List.flatMap_nil, List.append_nil]
          generalize spans[j] = x at g1 g2 g3 hk hat hsz hs1 hs2 hs3 hSN
          obtain ⟨xk, xa, xz⟩ := x
          simp only [] at g1 g2 g3 hk hat hsz hs1 hs2 hs3 hSN
          obtain ⟨an, rfl⟩ := Int.eq_ofNat_of_zero_le hs1
          obtain ⟨zn, rfl⟩ := Int.eq_ofNat_of_zero_le (show 0 ≤ xz by omega)
          have hfit : an + zn ≤ 131072 := by omega
          have hz1 : 1 ≤ zn := by omega
          have hsum : IntKind.u32.wrap ((an : Int) + (zn : Int)) = ((an + zn : Nat) : Int) := by rw [IntKind.wrap_u32]; omega
          have s1 : 0 ≤ (an : Int) + (zn : Int) ∧ (an : Int) + (zn : Int) ≤ 131072 := by omega
          have s2 : an ≤ ((an : Int) + (zn : Int)).toNat := by omega
          have s3 : ¬ 131072 = an := by omega
          have s4 : ((an : Int) + (zn : Int)).toNat - an = zn := by omega
          have hBy : ByteRow wr w.heap.size b := by
            have := HRW.out
            rw [← hwo] at this
            exact this.congr (HKY.out.block _ hzo (by omega))
          clear hp' hc' hs1 hs2 hs3
          have q0 : (wr.alloc (.cells #[.int .u8 xk, .int .u32 an, .int .u32 zn] 136)).cell? ⟨wr.heap.size, 0, none⟩ = some (.int .u8 xk) := by simp [go_sem]
          have q1 : (wr.alloc (.cells #[.int .u8 xk, .int .u32 an, .int .u32 zn] 136)).cell? ⟨wr.heap.size, 1, none⟩ = some (.int .u32 an) := by simp [go_sem]
          have q2 : (wr.alloc (.cells #[.int .u8 xk, .int .u32 an, .int .u32 zn] 136)).cell? ⟨wr.heap.size, 2, none⟩ = some (.int .u32 zn) := by simp [go_sem]
          have hby1 : xb < wr.heap.size := (Array.getElem?_eq_some_iff.1 HBY.out).1
          have HSB0 := new_block wr (.cells #[.int .u8 xk, .int .u32 an, .int .u32 zn] 136)
          have HBA : Hid (Below wr.heap.size wr (wr.alloc (.cells #[.int .u8 xk, .int .u32 an, .int .u32 zn] 136))) := alloc_old wr _
          have zA : (wr.alloc (.cells #[.int .u8 xk, .int .u32 an, .int .u32 zn] 136)).heap.size = wr.heap.size + 1 := by simp
          go_wp2
          generalize hWA : (wr.alloc (.cells #[.int .u8 xk, .int .u32 an, .int .u32 zn] 136)) = wA at *
          clear hWA
          have HOA := Lib.hid (own_congr HOY.out fun q hq => HBA.out.block q (HOY.out.lt q hq).2)
          have HBXA := Lib.hid ((HBA.out.block xb (Array.getElem?_eq_some_iff.1 HBY.out).1).trans HBY.out)
          have hBA := (hBy.below HBA.out)
          have HRA := Lib.hid hBA; clear hBA hBy
          have x5 : wA.cell? ⟨xb, 5, none⟩ = some (.slice pv2 j cv2) := Lib.cell_of_heap HBXA.out 5
          have HPM : Hid (∀ W, Calls Tryz.prog 153 #[.int .u8 xk] W fun e w' => e = .returned (.int .u8 (permK xk)) ∧ Below W.heap.size W w') := fun W => perm_any xk W hk.1 hk.2
          have hst : Hid (segOf b ⟨xk, an, zn⟩ = ⟨(an : Int), permK xk, bsOf ((b.drop an).take zn)⟩) := rfl
          rw [hst.out] at hSN
          generalize hbs : bsOf ((b.drop an).take zn) = bs at hSN
          have HBS := Lib.hid hbs
          have hcv0 := run_bytes_of_row (P := Tryz.prog) (HRA.out.below (Below.refl _ _).drew) 130 9 5 an zn (131072 - an) Tryz.underlying130 Tryz.underlying5 Tryz.underlying9 (by rw [HBL.out]; omega)
          rw [hbs] at hcv0
          clear hbs hst g1 g2 g3 hat hsz hk
          generalize permK xk = pk at HPM hSN
          have hx5 : wA.drew.cell? ⟨xb, 5, none⟩ = some (.slice pv2 j cv2) := x5
          have HSB : Hid (wA.heap[wr.heap.size]? = some (.cells #[.int .u8 xk, .int .u32 an, .int .u32 zn] 136 (0, 0))) := HSB0
          have hq0 : wA.drew.cell? ⟨wr.heap.size, 0, none⟩ = some (.int .u8 xk) := Lib.cell_of_heap HSB.out 0
          have hq1 : wA.drew.cell? ⟨wr.heap.size, 1, none⟩ = some (.int .u32 an) := Lib.cell_of_heap HSB.out 1
          have hq2 : wA.drew.cell? ⟨wr.heap.size, 2, none⟩ = some (.int .u32 zn) := Lib.cell_of_heap HSB.out 2
          have hj3 : j ≤ 3 := by have := HOK.out.few; omega
          have hnx : ¬ wr.heap.size = xb := by have := hby1; omega
          clear q0 q1 q2 x5
          obtain ⟨S, hSd⟩ : ∃ S : World → Prop, ∀ w', S w' ↔ (w'.cell? ⟨xb, 5, none⟩ = some (.slice pv2 j cv2) ∧ w'.cell? ⟨wr.heap.size, 0, none⟩ = some (.int .u8 xk) ∧ w'.cell? ⟨wr.heap.size, 1, none⟩ = some (.int .u32 an) ∧ w'.cell? ⟨wr.heap.size, 2, none⟩ = some (.int .u32 zn) ∧ (convert 130 9 (.slice (some ⟨w.heap.size, an, none⟩) zn (131072 - an))).run Tryz.prog w' = .ok (.string bs) w') := ⟨_, fun _ => Iff.rfl⟩
          have HSD := Lib.hid hSd; clear hSd
          have hS0 : S wA.drew := (HSD.out _).2 ⟨hx5, hq0, hq1, hq2, hcv0⟩
          have hS1 := fun x : HW S => (HSD.out _).1 x.h
          have c5 := fun x => (hS1 x).1
          have c0 := fun x => (hS1 x).2.1
          have c1 := fun x => (hS1 x).2.2.1
          have c2 := fun x => (hS1 x).2.2.2.1
          have c3 := fun x => (hS1 x).2.2.2.2
          haveI : Nonempty (HW S) := ⟨⟨_, hS0⟩⟩
          refine wp_region_marks S [.r, .r, .r, .r, .r, .r, .r, .r, .r, .r, .r, .u, .r, .r, .r, .r, .r, .r, .r, .r, .r, .r, .u, .u, .u, .p, .p, .p, .p, .p] rfl (by kernel_rfl) hS0 ?_
          clear hS0 hcv0 hx5 hq0 hq1 hq2 hS1
          repeat (refine wpReads_step (fun K hK => ?_); go_simp; refine hK _ ?_; clear hK K)
          refine wpReads_nil ?_
          clear c5 c0 c1 c2 c3
          refine wpTurns_step fun K hK => ?_
          refine step_call rfl 153 #[.tmp 68] #[5] rfl Tryz.func153 (by kernel_rfl) (by kernel_rfl) #[.int .u8 xk] (by simp [Act.eval]) (HPM.out _) ?_
          rintro e wn ⟨rfl, hBn⟩
          have ds : wn.heap[wr.heap.size]? = some (.cells #[.int .u8 xk, .int .u32 an, .int .u32 zn] 136 (0, 0)) := (hBn.block _ (by show _ < wA.heap.size; omega)).trans HSB.out
          have db : wn.heap[xb]? = some (.cells (lkCells m0 m1 m2 m3 en (.slice pv2 j cv2) (.slice pa wh.length ca) ov (.slice pp ps.length cp) (.slice (some ⟨bS, oS, none⟩) spans.length cS)) 117 (0, 0)) := (hBn.block xb (by show _ < wA.heap.size; omega)).trans HBXA.out
          have hrn := (HRA.out.below (Below.refl _ _).drew).below hBn
          have hSof : Hid (∀ u : World, u.heap[wr.heap.size]? = wn.heap[wr.heap.size]? → u.heap[xb]? = wn.heap[xb]? → u.heap[w.heap.size]? = wn.heap[w.heap.size]? → S u) := fun u h1 h2 h3 =>
            (HSD.out u).2 ⟨Lib.cell_of_heap (h2.trans db) 5, Lib.cell_of_heap (h1.trans ds) 0, Lib.cell_of_heap (h1.trans ds) 1, Lib.cell_of_heap (h1.trans ds) 2, by
              have := run_bytes_of_row (P := Tryz.prog) (hrn.congr h3) 130 9 5 an zn (131072 - an) Tryz.underlying130 Tryz.underlying5 Tryz.underlying9 (by rw [HBL.out]; omega)
              rw [HBS.out] at this; exact this⟩
          have HOWN : Hid ((wn.alloc (.cells #[.int .u32 an, .int .u8 pk, .string bs] 107)).ownsRow wo.heap.size 107 3 (.slice pv2 j cv2) j (((spans.take j).map (segOf b)).flatMap segCells)) := (own_congr HOA.out fun g hg => hBn.block g (HOA.out.lt g hg).2).alloc _
          have hzn : wA.heap.size ≤ wn.heap.size := hBn.size
          have HBN := Lib.hid hBn; have HDB := Lib.hid db; have HDS := Lib.hid ds
          clear hBn db ds hrn
          refine ⟨_, rfl, hK _ _ (hSof.out _ rfl rfl rfl) ?_⟩
          clear hK K
          simp only [Act.put, List.setIfInBounds_toArray, List.set_cons_zero, List.set_cons_succ]
          refine wpTurns_step fun K hK => ?_
          go_simp
          refine hK _ _ (hSof.out _ rfl rfl rfl) ?_
          clear hK K
          refine wpTurns_step fun K hK => ?_
          go_simp
          have hA : ∀ q, q < wn.heap.size → (wn.alloc (.cells #[.int .u32 an, .int .u8 pk, .string bs] 107)).heap[q]? = wn.heap[q]? := fun q hq => Below.heap_alloc _ _ _ hq
          refine hK _ _ (hSof.out _ (hA _ (by omega)) (hA _ (by omega)) (hA _ (by omega))) ?_
          clear hK K
          refine wpTurns_step fun K hK => ?_
          refine step_append_own_at rfl (.tmp 64) (.tmp 81) 32 rfl wo.heap.size 107 iS _ 3 24 Tryz.underlying32 HI.out.1 HI.out.2.1 HI.out.2.2.1 HI.out.2.2.2 rfl (by decide) (.slice pv2 j cv2) j (((spans.take j).map (segOf b)).flatMap segCells) (by simp [Act.eval]) HOWN.out ⟨wn.heap.size, 0, none⟩ 1 1 [.int .u32 an, .int .u8 pk, .string bs] (by simp [Act.eval]) rfl (three_news (by simp [go_sem]) (by simp [go_sem]) (by simp [go_sem])) three_one (by unfold maxLen; omega) (by omega) (by simp; omega) ?_
          intro v' w5 hown hgrow hv
          obtain ⟨pw, cw, rfl⟩ := own_shape hown
          have hb5 := grow_box hgrow HOWN.out HDB.out (by decide)
          have hs5 := grow_box hgrow HOWN.out HDS.out (by decide)
          have hr5 : w5.heap[w.heap.size]? = wn.heap[w.heap.size]? := (hgrow.block _ (by simp; omega) (fun e => by have := (HOWN.out.lt _ e.symm).1; omega)).trans (hA _ (by omega))
          refine hK _ _ (hSof.out _ (hs5.trans HDS.out.symm) (hb5.trans HDB.out.symm) hr5) ?_
          clear hK K
          simp only [Act.put, List.setIfInBounds_toArray, List.set_cons_zero, List.set_cons_succ]
          refine wpTurns_nil ?_
          have e3 : w5.cell? ⟨xb, 5, none⟩ = some (.slice pv2 j cv2) := Lib.cell_of_heap hb5 5
          have e4 : w5.frozen? ⟨xb, 5, none⟩ = false := Lib.frozen_of_heap hb5 5
          have HB5 := Lib.hid hb5
          have HG5 := Lib.hid (And.intro hown hgrow)
          clear hown hgrow hv hb5 hs5 hr5 hA
          simp only [pickP]
          go_wp2
          refine NoPanic.normal ?_
          go_wp2
          go_roundw
          case rel =>
            have hb2 := heap_setCell_same _ xb 5 _ _ (.slice pw (j + 1) cw) HB5.out
            have hno : ¬ (Value.slice pw (j + 1) cw).ownBlock = some xb := own_ne_box HG5.out.1 HB5.out (by decide)
            have hw0 : wo.heap.size ≤ wn.heap.size := by omega
            refine ⟨j + 1, .slice pw (j + 1) cw, by go_num, by omega, by simpa [lkCells] using hb2, ?_, ?_⟩
            · rw [hSN.out]
              exact own_congr HG5.out.1 fun q hq => Below.heap_setCell _ _ _ _ (fun e => hno (hq.trans (congrArg some e)))
            · exact ((((((HKY.out.trans (KB.of_below HBA.out)).drew).trans (KB.of_below HBN.out)).alloc _).grown HG5.out.2 (fun q hq => .inr ((HOWN.out.lt q hq).1))).setCell (.inl rfl) _)
          case measure => simp [intOf]; omega
        · obtain rfl : j = spans.length := by omega
          have htk : spans.take spans.length = spans := List.take_length
          rw [htk] at HOY
          go_wp2
          go_ret2
          rw [HE.out]
          refine ⟨HKO.out.trans HKY.out, ?_⟩
          rw [if_pos rfl]
          exact ⟨rfl, _, HBY.out, own_mono HOY.out (by omega)⟩
end Go.Proofs.YtdjgkmpjhpnkeaaGreatDoor
