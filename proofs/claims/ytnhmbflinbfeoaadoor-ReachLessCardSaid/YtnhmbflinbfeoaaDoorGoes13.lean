/- A search under way: plain steps of it. A way back through a search, in plain Lean. No program in sight. The chapter's example of what is needed, in plain Lean. No program in sight. -/
import Derived.Test.YtnhmbflinbfeoaaDoorSrch
import Derived.Test.YtnhmbflinbfeoaaDoorPlain13
import Derived.Test.YtnhmbflinbfeoaaDoorHasR
import Derived.KernelRfl
namespace Go.Proofs.YtnhmbflinbfeoaaDoor
open Go.RowKit Go.Maps
theorem nodup_sub {α : Type} [DecidableEq α] : ∀ (l m : List α), l.Nodup → (∀ x ∈ l, x ∈ m) → l.length ≤ m.length
  | [], _, _, _ => Nat.zero_le _
  | a :: r, m, hn, h => by
    obtain ⟨h1, h2⟩ := List.nodup_cons.1 hn
    have ih := nodup_sub r (m.erase a) h2 fun x hx => (List.mem_erase_of_ne (fun e => h1 (by rw [← e]; exact hx))).2 (h x (List.mem_cons_of_mem _ hx))
    rw [List.length_erase_of_mem (h a List.mem_cons_self)] at ih
    have : 0 < m.length := List.length_pos_of_mem (h a List.mem_cons_self)
    simp only [List.length_cons]; omega
theorem valid_mem {l : List GObj} {x : PP} (h : validP l x) : x ∈ (flat l).map (fun y => (y.obj, y.sym)) := by
  obtain ⟨o, s, h1, h2⟩ := h
  exact List.mem_map.2 ⟨⟨x.1, x.2, s⟩, mem_flat h1 h2, rfl⟩
theorem valid_len {l : List GObj} {L : List PP} (hm : mayAll l = true) (hn : L.Nodup) (hv : ∀ x ∈ L, validP l x) : L.length ≤ 1024 := by
  have h1 := nodup_sub L ((flat l).map (fun y => (y.obj, y.sym))) hn fun x hx => valid_mem (hv x hx)
  have h2 := flat_length_le hm
  rw [List.length_map] at h1
  omega
theorem Goes.valid {l : List GObj} {p : PP} {L : List PP} {F : PP → Option PP} {n : Nat} (g : Goes l p L F n) (hp : validP l p) : ∀ x ∈ L, validP l x := fun x hx => by
  obtain ⟨i, hi, rfl⟩ := List.mem_iff_getElem.1 hx
  exact (g.reach i hi).valid hp
theorem Goes.len {l : List GObj} {p : PP} {L : List PP} {F : PP → Option PP} {n : Nat} (g : Goes l p L F n) (hp : validP l p) (hc : (beginR l).2 = 0) : L.length ≤ 1024 := valid_len (beginR_zero hc).1 g.nd (g.valid hp)
theorem Goes.next {l : List GObj} {p : PP} {L : List PP} {F : PP → Option PP} {n : Nat} (g : Goes l p L F n) (x : PP) (hx : L[n]? = some x) (h : ∀ q, knowsP l x q → q ∈ L) : Goes l p L F (n + 1) :=
  ⟨g.head, g.nd, g.dom, g.par, fun i hi hin q hq => by
    by_cases h1 : i < n
    · exact g.closed i hi h1 q hq
    · obtain rfl : i = n := by omega
      rw [List.getElem?_eq_getElem hi] at hx
      rw [Option.some.inj hx] at hq
      exact h q hq⟩
theorem newL_len (L : List PP) (F : PP → Option PP) (q : PP) : L.length ≤ (newL L F q).length ∧ (newL L F q).length ≤ L.length + 1 := by
  unfold newL
  split <;> simp
theorem newL_get {L : List PP} {F : PP → Option PP} {q x : PP} {n : Nat} (h : L[n]? = some x) : (newL L F q)[n]? = some x := by
  unfold newL
  split
  · exact h
  · rw [List.getElem?_append_left (List.getElem?_eq_some_iff.1 h).1]; exact h
theorem newL_mem {L : List PP} {F : PP → Option PP} {q x : PP} (h : x ∈ L) : x ∈ newL L F q := by
  unfold newL
  split
  · exact h
  · exact List.mem_append.2 (.inl h)
theorem Goes.new {l : List GObj} {p q x : PP} {L : List PP} {F : PP → Option PP} {n : Nat} (g : Goes l p L F n) (hx : L[n]? = some x) (hk : knowsP l x q) : Goes l p (newL L F q) (newF F q x) n ∧ q ∈ newL L F q := by
  have hlt := (List.getElem?_eq_some_iff.1 hx).1
  have hxe : L[n] = x := (List.getElem?_eq_some_iff.1 hx).2
  unfold newL newF
  cases hF : (F q).isSome with
  | true => exact ⟨g, (g.dom q).1 hF⟩
  | false =>
    have := g.put (i := n) (by omega) hlt (by rw [hxe]; exact hk) (q := q) (by simpa using hF)
    rw [hxe] at this
    exact ⟨this, by simp⟩
theorem Goes.full {l : List GObj} {p : PP} {L : List PP} {F : PP → Option PP} {n : Nat} (g : Goes l p L F n) (h : L.length ≤ n) : Goes l p L F L.length := ⟨g.head, g.nd, g.dom, g.par, fun i hi _ q hq => g.closed i hi (by omega) q hq⟩
/-- what a round of goes keeps: the symbols known of one, put one by one -/
structure Inn (w0 wk : World) (sb mb : Nat) (ov : Value) (l : List GObj) (p x : PP) (n : Nat) (ks : List PP) (bk k : Nat) (v : Value) (L : List PP) (F : PP → Option PP) (wi : World) : Prop where
  st : SrchSt w0.heap.size sb mb ov v L F wi
  g : Goes l p L F n
  x : L[n]? = some x
  m : ∀ i (h : i < ks.length), i < k → ks[i] ∈ L
  hb : 0 < ks.length → wi.heap[bk]? = wk.heap[bk]? ∧ v.ownBlock ≠ some bk ∧ bk < wi.heap.size ∧ sb ≠ bk ∧ mb ≠ bk
  b : Below w0.heap.size w0 wi
theorem Inn.step {w0 wk wi w5 w6 : World} {sb mb : Nat} {ov : Value} {l : List GObj} {p x : PP} {n : Nat} {ks : List PP} {bk k : Nat} {v : Value} {L : List PP} {F : PP → Option PP} {e : Ending} (h : Inn w0 wk sb mb ov l p x n ks bk k v L F wi) (hk : k < ks.length) (hkn : ∀ q ∈ ks, knowsP l x q)
    (hb : Below wi.heap.size wi w5) (hp : PutPost w0.heap.size sb mb ov v L F ks[k] x w5 e w6) : ∃ v' L' F', Inn w0 wk sb mb ov l p x n ks bk (k + 1) v' L' F' w6 := by
  obtain ⟨-, v', h1, h2, h3⟩ := hp
  obtain ⟨b1, b2, b3, b4, b5⟩ := h.hb (by omega)
  obtain ⟨g1, g2⟩ := h.g.new h.x (hkn _ (List.getElem_mem hk))
  have hz := hb.size
  refine ⟨v', _, _, h1, g1, newL_get h.x, fun i hi hik => ?_, fun _ => ⟨?_, ?_, ?_, b4, b5⟩, ?_⟩
  · by_cases hik' : i < k
    · exact newL_mem (h.m i hi hik')
    · obtain rfl : i = k := by omega
      exact g2
  · rw [h2.block bk (by omega) (by rintro (r | r | r); exact b4 r.symm; exact b5 r.symm; exact b2 r), hb.block bk b3]; exact b1
  · rcases h3 with h3 | ⟨g, h3, h4⟩
    · rw [h3]; exact b2
    · rw [h3]; intro r; cases r; omega
  · have := h2.size; omega
  · exact (h.b.trans (hb.mono h.b.size)).trans (h2.below (by have := h.b.size; omega) (fun k' hk' r => by
      rcases r with r | r | r
      · have := h.st.sbl; omega
      · have := h.st.mbl; omega
      · have := (h.st.row.lt k' r).1; omega))
end Go.Proofs.YtnhmbflinbfeoaaDoor
namespace Go.Proofs.YtnhmbflinbfeoaaDoor
inductive Up (l : List GObj) (L : List PP) (x : PP) : List PP → Nat → Prop
  | start {i : Nat} : L[i]? = some x → Up l L x [x] i
  | step {D : List PP} {i j : Nat} {y z : PP} : Up l L x D i → j < i → L[i]? = some y → L[j]? = some z → knowsP l z y → Up l L x (D ++ [z]) j
theorem Up.last {l : List GObj} {L : List PP} {x : PP} {D : List PP} {i : Nat} (h : Up l L x D i) : ∃ y, L[i]? = some y ∧ D.getLast? = some y := by
  cases h with
  | start h => exact ⟨x, h, rfl⟩
  | step _ _ _ h _ => exact ⟨_, h, by simp⟩
theorem Up.first {l : List GObj} {L : List PP} {x : PP} {D : List PP} {i : Nat} (h : Up l L x D i) : D[0]? = some x := by
  induction h with
  | start h => rfl
  | step h' _ _ _ _ ih =>
    rw [List.getElem?_append_left (List.getElem?_eq_some_iff.1 ih).1]; exact ih
theorem Up.mem {l : List GObj} {L : List PP} {x : PP} {D : List PP} {i : Nat} (h : Up l L x D i) : ∀ z ∈ D, ∃ k, i ≤ k ∧ L[k]? = some z := by
  induction h with
  | start h => intro z hz; obtain rfl := List.mem_singleton.1 hz; exact ⟨_, Nat.le_refl _, h⟩
  | step h' hj _ hz _ ih =>
    intro u hu
    rcases List.mem_append.1 hu with hu | hu
    · obtain ⟨k, h1, h2⟩ := ih u hu; exact ⟨k, by omega, h2⟩
    · obtain rfl := List.mem_singleton.1 hu; exact ⟨_, Nat.le_refl _, hz⟩
theorem nodup_idx {L : List PP} (hn : L.Nodup) {i j : Nat} {z : PP} (h1 : L[i]? = some z) (h2 : L[j]? = some z) : i = j := by
  obtain ⟨a, e1⟩ := List.getElem?_eq_some_iff.1 h1
  obtain ⟨b, e2⟩ := List.getElem?_eq_some_iff.1 h2
  by_cases h : i = j
  · exact h
  · rcases Nat.lt_or_gt_of_ne h with h | h
    · exact absurd (e1.trans e2.symm) (List.pairwise_iff_getElem.1 hn i j a b h)
    · exact absurd (e2.trans e1.symm) (List.pairwise_iff_getElem.1 hn j i b a h)
theorem Up.nodup {l : List GObj} {L : List PP} {x : PP} {D : List PP} {i : Nat} (hn : L.Nodup) (h : Up l L x D i) : D.Nodup := by
  induction h with
  | start h => exact List.nodup_cons.2 ⟨by simp, List.nodup_nil⟩
  | step h' hj _ hz _ ih =>
    rw [List.nodup_append]
    refine ⟨ih, List.nodup_cons.2 ⟨by simp, List.nodup_nil⟩, fun a ha b hb => ?_⟩
    obtain rfl := List.mem_singleton.1 hb
    rintro rfl
    obtain ⟨k, h1, h2⟩ := h'.mem a ha
    have := nodup_idx hn h2 hz
    omega
theorem Up.links {l : List GObj} {L : List PP} {x : PP} {D : List PP} {i : Nat} (h : Up l L x D i) : ∀ k (hk : k + 1 < D.length), knowsP l D[k + 1] D[k] := by
  induction h with
  | start h => intro k hk; simp at hk
  | @step D i j y z h' hj hy hz hkn ih =>
    intro k hk
    by_cases hk2 : k + 1 < D.length
    · rw [List.getElem_append_left hk2, List.getElem_append_left (by omega)]; exact ih k hk2
    · have hkl : k + 1 = D.length := by simp at hk; omega
      obtain ⟨y', h1, h2⟩ := h'.last
      rw [hy] at h1
      cases h1
      have e1 : (D ++ [z])[k + 1] = z := by simp [hkl]
      have e2 : (D ++ [z])[k] = y := by
        rw [List.getElem_append_left (by omega)]
        rw [List.getLast?_eq_getElem?, List.getElem?_eq_some_iff] at h2
        obtain ⟨h3, h4⟩ := h2
        rw [← h4]
        congr 1
        omega
      rw [e1, e2]; exact hkn
/-- a way from one symbol to another one -/
structure ChainOf (l : List GObj) (p x : PP) (C : List PP) : Prop where
  first : C[0]? = some p
  last : C.getLast? = some x
  links : ∀ k (hk : k + 1 < C.length), knowsP l C[k] C[k + 1]
  reach : ∀ y ∈ C, Reach l p y
  nd : C.Nodup
theorem Up.chain {l : List GObj} {L : List PP} {F : PP → Option PP} {p x : PP} {D : List PP} {i : Nat} (g : Goes l p L F L.length) (h : Up l L x D i) (hi : L[i]? = some p) : ChainOf l p x D.reverse := by
  obtain ⟨y, h1, h2⟩ := h.last
  rw [hi] at h1; cases h1
  refine ⟨?_, ?_, fun k hk => ?_, fun y hy => ?_, by unfold List.Nodup; rw [List.pairwise_reverse]; exact (h.nodup g.nd).imp fun h => Ne.symm h⟩
  · rw [← List.head?_eq_getElem?, List.head?_reverse]; exact h2
  · rw [List.getLast?_reverse, List.head?_eq_getElem?]; exact h.first
  · have hk' : k + 1 < D.length := by simpa using hk
    have := h.links (D.length - 1 - (k + 1)) (by omega)
    rw [List.getElem_reverse, List.getElem_reverse]
    have e : D.length - 1 - (k + 1) + 1 = D.length - 1 - k := by omega
    simp only [e] at this
    exact this
  · obtain ⟨k, -, h3⟩ := h.mem y (List.mem_reverse.1 hy)
    exact (g.done (Nat.le_refl _) y).1 (List.mem_of_getElem? h3)
theorem Up.len {l : List GObj} {L : List PP} {x : PP} {D : List PP} {i : Nat} (hn : L.Nodup) (h : Up l L x D i) : D.length ≤ L.length :=
  nodup_sub D L (h.nodup hn) fun z hz => by obtain ⟨k, -, h2⟩ := h.mem z hz; exact List.mem_of_getElem? h2
/-- one step back -/
theorem Goes.back {l : List GObj} {p y : PP} {L : List PP} {F : PP → Option PP} (g : Goes l p L F L.length) {i : Nat} (hy : L[i]? = some y) (hne : y ≠ p) : ∃ j z, j < i ∧ F y = some z ∧ L[j]? = some z ∧ knowsP l z y := by
  obtain ⟨hi, rfl⟩ := List.getElem?_eq_some_iff.1 hy
  rcases g.par i hi with ⟨h1, h2⟩ | ⟨j, hj, h1, h2⟩
  · subst h1
    have := g.head
    rw [List.getElem?_eq_getElem hi] at this
    exact absurd (Option.some.inj this) hne
  · exact ⟨j, L[j], hj, h1, List.getElem?_eq_getElem _, h2⟩
end Go.Proofs.YtnhmbflinbfeoaaDoor
namespace Go.Proofs.YtnhmbflinbfeoaaDoor
def g13 : ByteArray := ⟨#[103]⟩
def f13 : ByteArray := ⟨#[102]⟩
def m13 : ByteArray := ⟨#[109, 97, 105, 110]⟩
def x13 : ByteArray := ⟨#[120]⟩
def one13 (n t : ByteArray) : GSym := ⟨n, 1, 2, 8, ⟨#[0, 0, 0, 0]⟩, [⟨0, 1, t, 0⟩], []⟩
def none13 (n : ByteArray) : GSym := ⟨n, 1, 2, 4, ⟨#[]⟩, [], []⟩
def syms13 : List GSym := [one13 m13 f13, one13 f13 f13, none13 g13]
def objs13 : List GObj := [⟨⟨#[111]⟩, syms13⟩]
theorem b13 : (beginR objs13).2 = 0 := by decide +kernel
theorem fm13 : findR objs13 (-1) m13.data.toList = some (0, 0) := by decide +kernel
theorem fx13 : findR objs13 (-1) x13.data.toList = none := by decide +kernel
theorem ff13 : findR objs13 0 f13.data.toList = some (0, 1) := by decide +kernel
theorem k00 (q : PP) : knowsP objs13 (0, 0) q ↔ q = (0, 1) := by
  constructor
  · rintro ⟨x, hx, hf⟩
    have : x = ⟨0, 1, f13, 0⟩ := by
      have h : relsAt objs13 0 0 = [⟨0, 1, f13, 0⟩] := rfl
      rw [h] at hx; exact List.mem_singleton.1 hx
    subst this
    have h2 : findR objs13 0 f13.data.toList = some q := hf
    rw [ff13] at h2
    exact (Option.some.inj h2).symm
  · rintro rfl
    exact ⟨⟨0, 1, f13, 0⟩, by rw [show relsAt objs13 (0, 0).1 (0, 0).2 = [⟨0, 1, f13, 0⟩] from rfl]; exact List.mem_singleton.2 rfl, ff13⟩
theorem k01 (q : PP) : knowsP objs13 (0, 1) q ↔ q = (0, 1) := by
  constructor
  · rintro ⟨x, hx, hf⟩
    have : x = ⟨0, 1, f13, 0⟩ := by
      have h : relsAt objs13 0 1 = [⟨0, 1, f13, 0⟩] := rfl
      rw [h] at hx; exact List.mem_singleton.1 hx
    subst this
    have h2 : findR objs13 0 f13.data.toList = some q := hf
    rw [ff13] at h2
    exact (Option.some.inj h2).symm
  · rintro rfl
    exact ⟨⟨0, 1, f13, 0⟩, by rw [show relsAt objs13 (0, 1).1 (0, 1).2 = [⟨0, 1, f13, 0⟩] from rfl]; exact List.mem_singleton.2 rfl, ff13⟩
theorem reach13 (x : PP) : Reach objs13 (0, 0) x ↔ x = (0, 0) ∨ x = (0, 1) := by
  constructor
  · intro h
    induction h with
    | refl => exact .inl rfl
    | step _ k ih =>
      rcases ih with rfl | rfl
      · exact .inr ((k00 _).1 k)
      · exact .inr ((k01 _).1 k)
  · rintro (rfl | rfl)
    · exact .refl
    · exact .step .refl ((k00 _).2 rfl)
theorem kept13 : KeptOf objs13 (0, 0) [(0, 0), (0, 1)] := by
  refine ⟨List.pairwise_cons.2 ⟨fun a ha => ?_, List.pairwise_cons.2 ⟨fun a ha => (by cases ha), List.Pairwise.nil⟩⟩, fun x => ?_⟩
  · obtain rfl := List.mem_singleton.1 ha
    exact .inr ⟨rfl, by decide⟩
  · rw [reach13]; simp
theorem keptIs13 {K : List PP} (h : KeptOf objs13 (0, 0) K) : K = [(0, 0), (0, 1)] := h.eq kept13
theorem chain13 {C : List PP} (h : ChainOf objs13 (0, 0) (0, 1) C) : C.length = 2 := by
  have h1 := nodup_sub C [(0, 0), (0, 1)] h.nd fun y hy => by
    have := (reach13 y).1 (h.reach y hy)
    simpa using this
  have h2 := h.first
  have h3 := h.last
  match C, h1, h2, h3 with
  | [a], _, h2, h3 => simp at h2 h3; rw [h2] at h3; cases h3
  | [a, b], _, _, _ => rfl
theorem valid13 : validP objs13 (0, 0) := ⟨_, _, rfl, rfl⟩
end Go.Proofs.YtnhmbflinbfeoaaDoor
