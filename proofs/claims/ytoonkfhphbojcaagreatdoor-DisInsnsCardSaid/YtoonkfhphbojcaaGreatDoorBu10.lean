/- A region that draws its order, what its reads rest on being kept by every operation: reads may be taken first wherever they are ready. No program in sight. -/
import Derived.Test.YtoonkfhphbojcaaGreatDoorBu01
import Derived.Test.YtoonkfhphbojcaaGreatDoorBu06
namespace Go.Proofs.YtoonkfhphbojcaaGreatDoor
open Go.RowKit
section
variable {P : Program} {ops : Array Oper} {Q : Exit → Act → World → Prop} {md : Region.Mode} {S : World → Prop}
/-- whichever comes up: S holds behind it -/
def wpAnyS (P : Program) (md : Region.Mode) (ops : Array Oper) (Q : Exit → Act → World → Prop) (S : World → Prop) : Nat → Array Bool → Act → World → Prop
  | 0, listed, a, w => Region.ready md ops listed = [] ∧ Q .normal a w
  | fuel + 1, listed, a, w =>
    (Region.ready md ops listed = [] → Q .normal a w) ∧
    ∀ i ∈ Region.ready md ops listed, wpOp P ops Q i (fun a' w' => S w' ∧ wpAnyS P md ops Q S fuel (listed.setIfInBounds i true) a' w') a w
theorem wpAny_of_S : ∀ (fuel : Nat) (listed : Array Bool) (a : Act) (w : World), wpAnyS P md ops Q S fuel listed a w → wpAny P md ops Q fuel listed a w
  | 0, _, _, _, h => h
  | fuel + 1, _, _, _, h => ⟨h.1, fun i hi => wpOp_mono (fun a' w' h' => wpAny_of_S fuel _ a' w' h'.2) (h.2 i hi)⟩
theorem wpAnyS_first {i : Nat} {oi : Oper} {v : Value} (hi : ops[i]? = some oi) (hsel : ∀ (j : Nat) (o : Oper) cs b, ops[j]? = some o → o.op ≠ .select cs b)
    (hQ : ∀ c a w, Q (.panic c) (a.put oi.dst v) w → Q (.panic c) a w) :
    ∀ (fuel : Nat) (listed : Array Bool) (a : Act) (w : World),
      (∀ j oj, ops[j]? = some oj → j ≠ i → listed.getD j true = false → (∀ e ∈ oj.after, Region.binds md e = true → e.on ≠ i) → oi.apart ops oj = true) →
      i ∈ Region.ready md ops listed → YieldsIf P ops S oi v a → S w →
      wpAnyS P md ops Q S fuel (listed.setIfInBounds i true) (a.put oi.dst v) w → wpAnyS P md ops Q S (fuel + 1) listed a w := by
  intro fuel
  induction fuel with
  | zero =>
    intro listed a w _ hr hy hS H
    refine ⟨fun h => (by rw [h] at hr; cases hr), fun j hj => ?_⟩
    by_cases hji : j = i
    · subst hji; exact hy.wpOp hi hS ⟨hS, H⟩
    · have := ready_mono hj hji
      rw [H.1] at this
      cases this
  | succ fuel ih =>
    intro listed a w hfree hr hy hS H
    refine ⟨fun h => (by rw [h] at hr; cases hr), fun j hj => ?_⟩
    by_cases hji : j = i
    · subst hji; exact hy.wpOp hi hS ⟨hS, H⟩
    · have h1 := H.2 j (ready_mono hj hji)
      obtain ⟨hjun, oj, hoj, hall⟩ := mem_ready.1 hj
      have hnot : ∀ e ∈ oj.after, Region.binds md e = true → e.on ≠ i := fun e he hb heq => by
        have h1 := hall e he hb
        have h0 := (mem_ready.1 hr).1
        rw [heq, getD_both h0] at h1
        cases h1
      have h2 := wpOp_putIf hoj (hfree j oj hoj hji hjun hnot) (fun cs b => hsel i oi cs b hi) (fun cs b => hsel j oj cs b hoj) hQ hy h1
      have hfree' : ∀ k ok, ops[k]? = some ok → k ≠ i → (listed.setIfInBounds j true).getD k true = false →
          (∀ e ∈ ok.after, Region.binds md e = true → e.on ≠ i) → oi.apart ops ok = true := fun k ok hk hki hun hno => by
        refine hfree k ok hk hki ?_ hno
        by_cases hjk : j = k
        · subst hjk; exact hjun
        · rw [getD_set_ne true hjk] at hun; exact hun
      refine wpOp_mono (fun a' w' h3 => ?_) h2
      refine ⟨h3.2.1, ih (listed.setIfInBounds j true) a' w' hfree' (ready_mono hr (Ne.symm hji)) h3.1 h3.2.1 ?_⟩
      rw [Array.setIfInBounds_comm _ _ hji]
      exact h3.2.2
def Region.headS (md : Region.Mode) (ops : Array Oper) : List Nat → Array Bool → Bool
  | [], _ => true
  | k :: r, listed => (Region.ready md ops listed).contains k && Region.free md ops listed k && Region.headS md ops r (listed.setIfInBounds k true)
theorem wpAnyS_heads {n : Nat} (hsel : Region.noSelect ops = true) (hQ : ∀ c a d v w, Q (.panic c) (Act.put a d v) w → Q (.panic c) a w) (w : World) (hS : S w) : ∀ (l : List Nat) (listed : Array Bool) (a : Act),
    Region.headS md ops l listed = true → wpReads P ops S (fun a' => wpAnyS P md ops Q S n (setsT l listed) a' w) (getAll ops l) a → wpAnyS P md ops Q S (l.length + n) listed a w
  | [], listed, a, hB, h => by simpa [setsT, getAll, wpReads] using h
  | k :: l, listed, a, hB, h => by
    simp only [Region.headS, Bool.and_eq_true] at hB
    obtain ⟨⟨hr, hf⟩, hB'⟩ := hB
    have hr' : k ∈ Region.ready md ops listed := by simpa using hr
    obtain ⟨-, o, ho, -⟩ := mem_ready.1 hr'
    have e : getAll ops (k :: l) = o :: getAll ops l := by simp [getAll, ho]
    rw [e] at h
    rw [show (k :: l).length + n = l.length + n + 1 by simp; omega]
    unfold wpReads at h
    split at h
    · rename_i hwn
      obtain ⟨v, hv, hn⟩ := h
      exact wpAnyS_first ho (Region.noSelect_spec hsel) (fun c a w => hQ c a _ _ w) _ listed a w (Region.free_spec ho hf) hr' (.inl ⟨hwn, fun w hw => hv ⟨w, hw⟩⟩) hS
        (wpAnyS_heads hsel hQ w hS l _ _ hB' hn)
    · rename_i hwn
      exact wpAnyS_first ho (Region.noSelect_spec hsel) (fun c a w => hQ c a _ _ w) _ listed a w (Region.free_spec ho hf) hr' (.inr ⟨by simpa using hwn, rfl⟩) hS
        (wpAnyS_heads hsel hQ w hS l _ _ hB' h)
/-- the reads hs are ready: they are taken now -/
theorem wpAnyS_take {n m : Nat} {l : List Oper} {listed : Array Bool} {a : Act} {w : World} (hs : List Nat) (hsel : Region.noSelect l.toArray = true) (hB : Region.headS md l.toArray hs listed = true) (hn : hs.length + n = m) {rs : List Oper} (hrs : getAll l.toArray hs = rs) {ls : Array Bool} (hls : setsT hs listed = ls) (hS : S w)
    (h : wpReads P l.toArray S (fun a' => wpAnyS P md l.toArray (NoPanic Q) S n ls a' w) rs a) : wpAnyS P md l.toArray (NoPanic Q) S m listed a w := by
  subst hrs; subst hls; subst hn
  exact wpAnyS_heads hsel (fun _ _ _ _ _ h => h) w hS hs listed a hB h
theorem wp_region_turn {id : Nat} {a : Act} {w : World} {l : List Oper} (S : World → Prop) (hm : P.follows .mixedOrders = true) {n : Nat} (hn : l.length = n) {ls : Array Bool} (hls : Array.replicate l.length false = ls)
    (h : wpAnyS P .any l.toArray (NoPanic Q) S n ls a w.drew) : (Code.region id l.toArray true).wp P Q a w := by
  subst hls; subst hn
  refine wp_region_noPanic ?_
  refine wp_region_any hm (wpAny_of_S (S := S) _ _ _ _ ?_)
  simpa using h
theorem wpAnyS_one {l : List Oper} {n i : Nat} {oi : Oper} {listed : Array Bool} {a : Act} {w : World} (hr : Region.ready md l.toArray listed = [i]) (hi : l[i]? = some oi)
    (h : ∀ K : Act → World → Prop, (∀ a w, S w → wpAnyS P md l.toArray Q S n (listed.setIfInBounds i true) a w → K a w) → if Region.wanted oi (yielded l.toArray a.tmps) = true then Oper.wp P oi a w K Q else K (a.put oi.dst undef) w) :
    wpAnyS P md l.toArray Q S (n + 1) listed a w := by
  refine ⟨fun h1 => (by rw [hr] at h1; cases h1), fun j hj => ?_⟩
  rw [hr] at hj
  obtain rfl : j = i := by simpa using hj
  have := h (fun a' w' => S w' ∧ wpAnyS P md l.toArray Q S n (listed.setIfInBounds j true) a' w') (fun _ _ h1 h2 => ⟨h1, h2⟩)
  unfold wpOp; simp only [List.getElem?_toArray, hi]; split at this; (· rename_i hw; rw [if_pos hw]; exact .inl this); (· rename_i hw; rw [if_neg hw]; exact this)
theorem wpAnyS_done {n : Nat} {listed : Array Bool} {a : Act} {w : World} (hr : Region.ready md ops listed = []) (h : Q .normal a w) : wpAnyS P md ops Q S n listed a w := by
  cases n with
  | zero => exact ⟨hr, h⟩
  | succ n => exact ⟨fun _ => h, by rw [hr]; simp⟩
end
/-- a call of a Go function, guarded or not, as one step of a region that draws -/
theorem step_callW {P : Program} {ops : Array Oper} {o : Oper} {a : Act} {w : World} {K : Act → World → Prop} {Q : Exit → Act → World → Prop} {E : Prop}
    (hw : Region.wanted o (yielded ops a.tmps) = true) (f : FuncId) (xs : Array Operand) (ats : Array TypeId) (hop : o.op = Op.call { callee := Callee.value (Operand.func f), args := xs, argTypes := ats })
    {fn : Func} (hf : P.funcs[f]? = some fn) (hn : (fn.name == "runtime.NumGoroutine") = false) (hb : fn.body.isNone = false)
    (vs : Array Value) (hv : xs.map a.eval = vs) {Post : Ending → World → Prop} (hC : Calls P f vs w Post) (hK : ∀ e w', Post e w' → ∃ v, e = .returned v ∧ K (a.put o.dst v) w') :
    if Region.wanted o (yielded ops a.tmps) = true then Oper.wp P o a w K Q else E := by
  rw [if_pos hw]
  obtain ⟨dst, op, ty, pos, after, guard⟩ := o
  simp only at hop
  subst hop; subst hv
  unfold Oper.wp
  rw [execOp_call_go]
  have e : (#[] ++ xs.map a.eval ++ #[] : Array Value) = xs.map a.eval := by simp
  rw [e, run_call_go hf hn hb, Oper.upon_enter]
  refine Calls.mono hC fun e w' hp => ?_
  obtain ⟨v, rfl, hk⟩ := hK e w' hp
  exact hk
/-- append onto a row of one's own from whatever row of cells, guarded or not, as one step of a region that draws -/
theorem step_append_srcW {P : Program} {ops : Array Oper} {o : Oper} {a : Act} {w : World} {K : Act → World → Prop} {Q : Exit → Act → World → Prop} {E : Prop}
    (hw : Region.wanted o (yielded ops a.tmps) = true) (s x : Operand) (t : TypeId)
    (hop : o.op = .call { callee := .builtin .append, args := #[s, x], argTypes := #[t, t] })
    (base : Nat) (e : TypeId) (i : TypeInfo) (z : Value) (size bytes : Nat) (ht : P.underlying t = some (.slice e)) (hi : P.info? e = some i) (hz : i.zero = some z)
    (hsize : i.size = size) (hby : i.bytes = bytes) (hzs : z.cells.size = size) (hsz : 0 < size) (v : Value) (n : Nat) (xs : List Value) (hs : a.eval s = v) (hown : w.ownsRow base e size v n xs)
    (p : Option Addr) (m c b off : Nat) (news : List Value) (hx : a.eval x = .slice p m c) (hp : 0 < m → p = some ⟨b, off, none⟩) (hl : news.length = m * size) (hnews : 0 < m → ∀ j u, news[j]? = some u → w.cell? ((⟨b, off, none⟩ : Addr).add j) = some u) (h1 : ∀ u ∈ news, u.oneCell' = true)
    (hm : n + m ≤ maxLen) (hbytes : (n + m) * bytes ≤ 140737488355328) (hbase : base ≤ w.heap.size)
    (hK : ∀ v' w', w'.ownsRow base e size v' (n + m) (xs ++ news) → w.grownBy w' v.ownBlock → K (a.put o.dst v') w') :
    if Region.wanted o (yielded ops a.tmps) = true then Oper.wp P o a w K Q else E := by
  rw [if_pos hw]
  by_cases h0 : m = 0
  · subst h0
    have hrun := run_append_own_empty (P := P) (w := w) base t o.type e i size ht hi v n xs hown p c
    have hn : news = [] := List.eq_nil_of_length_eq_zero (by rw [hl, Nat.zero_mul])
    subst hn
    unfold Oper.wp
    simp [execOp, hop, resolve, invoke, builtin, hs, hx, hrun, Result.andThen]
    exact hK _ _ (by simpa using hown) (World.grownBy.refl w _)
  · obtain rfl := hp (by omega)
    obtain ⟨v', w', hrun, r1, r2, -, -⟩ := run_append_own_at (P := P) w base t o.type e i z size bytes ht hi hz hsize hby hzs hsz v n xs hown _ m c news hl (hnews (by omega)) h1 hm hbytes hbase
    unfold Oper.wp
    simp [execOp, hop, resolve, invoke, builtin, hs, hx, hrun, Result.andThen]
    exact hK v' w' r1 r2
end Go.Proofs.YtoonkfhphbojcaaGreatDoor
