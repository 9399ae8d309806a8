/- Which symbols are needed, in plain Lean. No program in sight. What is left where only some symbols stay, in plain Lean. No program in sight. What is kept where only the kept symbols stay, in plain Lean. No program in sight. The kept symbols, where nothing else is left, in plain Lean. No program in sight. The kept symbols in the order of the objects, in plain Lean. No program in sight. What a search of reach keeps. What slices.SortFunc does with a row of places. -/
import Derived.Test.YtdjgkmpjhpnkeaaGreatDoorBd02
import Derived.Test.YtdjgkmpjhpnkeaaGreatDoorBd10
import Derived.Test.YtdjgkmpjhpnkeaaGreatDoorBd07
import Derived.Test.YtdjgkmpjhpnkeaaGreatDoorBd05
import Derived.Test.YtdjgkmpjhpnkeaaGreatDoorBd09
import Derived.Lib.Hide
import Derived.Test.YtdjgkmpjhpnkeaaGreatDoorProg
namespace Go.Proofs.YtdjgkmpjhpnkeaaGreatDoor
abbrev PP := Nat × Nat
def plt (a b : PP) : Prop := a.1 < b.1 ∨ (a.1 = b.1 ∧ a.2 < b.2)
/-- p refers to q -/
def knowsP (l : List GObj) (p q : PP) : Prop := ∃ x ∈ relsAt l p.1 p.2, findR l p.1 x.name.data.toList = some q
inductive Reach (l : List GObj) (p : PP) : PP → Prop
  | refl : Reach l p p
  | step {x y : PP} : Reach l p x → knowsP l x y → Reach l p y
theorem Reach.trans {l : List GObj} {p q r : PP} (h : Reach l p q) (h2 : Reach l q r) : Reach l p r := by
  induction h2 with
  | refl => exact h
  | step _ k ih => exact .step ih k
/-- what is kept: in order, just what is reached -/
def KeptOf (l : List GObj) (p : PP) (K : List PP) : Prop := K.Pairwise plt ∧ ∀ x, x ∈ K ↔ Reach l p x
/-- a search under way: what was found, with what it was found from; closed ahead of n -/
structure Goes (l : List GObj) (p : PP) (L : List PP) (F : PP → Option PP) (n : Nat) : Prop where
  head : L[0]? = some p
  nd : L.Nodup
  dom : ∀ x, (F x).isSome = true ↔ x ∈ L
  par : ∀ i (h : i < L.length), (i = 0 ∧ F L[i] = some p) ∨ ∃ j, ∃ hj : j < i, F L[i] = some L[j] ∧ knowsP l L[j] L[i]
  closed : ∀ i (h : i < L.length), i < n → ∀ q, knowsP l L[i] q → q ∈ L
def updF (F : PP → Option PP) (q y : PP) : PP → Option PP := fun x => if x = q then some y else F x
theorem Goes.start (l : List GObj) (p : PP) : Goes l p [p] (updF (fun _ => none) p p) 0 where
  head := rfl
  nd := List.nodup_cons.2 ⟨by simp, List.nodup_nil⟩
  dom x := by unfold updF; by_cases h : x = p <;> simp [h]
  par i h := by
    obtain rfl : i = 0 := by simp at h; omega
    exact .inl ⟨rfl, by simp [updF]⟩
  closed i h hn := by omega
theorem Goes.put {l : List GObj} {p q : PP} {L : List PP} {F : PP → Option PP} {n i : Nat} (g : Goes l p L F n) (hn0 : n ≤ L.length) (hi : i < L.length) (hk : knowsP l L[i] q) (hq : F q = none) : Goes l p (L ++ [q]) (updF F q L[i]) n where
  head := by
    have h := g.head
    have h0 : 0 < L.length := by omega
    rw [List.getElem?_append_left h0]; exact h
  nd := by
    rw [List.nodup_append]
    refine ⟨g.nd, List.nodup_cons.2 ⟨by simp, List.nodup_nil⟩, fun a ha b hb => ?_⟩
    simp only [List.mem_singleton] at hb
    subst hb
    rintro rfl
    have := (g.dom a).2 ha
    rw [hq] at this; cases this
  dom x := by
    unfold updF
    by_cases h : x = q
    · subst h; simp
    · have := g.dom x
      simp [h, this]
  par k h := by
    have hqn : q ∉ L := fun hm => by have := (g.dom q).2 hm; rw [hq] at this; cases this
    by_cases hkl : k < L.length
    · have hne : L[k] ≠ q := fun e => hqn (e ▸ List.getElem_mem hkl)
      have e1 : (L ++ [q])[k] = L[k] := List.getElem_append_left hkl
      rw [e1]
      rcases g.par k hkl with ⟨h1, h2⟩ | ⟨j, hj, h1, h2⟩
      · exact .inl ⟨h1, by simp only [updF, if_neg hne]; exact h2⟩
      · refine .inr ⟨j, hj, ?_⟩
        have e2 : (L ++ [q])[j] = L[j] := List.getElem_append_left (by omega)
        rw [e2]
        exact ⟨by simp only [updF, if_neg hne]; exact h1, h2⟩
    · have e0 : k = L.length := by simp at h; omega
      subst e0
      have e1 : (L ++ [q])[L.length] = q := by simp
      rw [e1]
      refine .inr ⟨i, hi, ?_⟩
      have e2 : (L ++ [q])[i] = L[i] := List.getElem_append_left hi
      rw [e2]
      exact ⟨by simp [updF], hk⟩
  closed k h hn y hy := by
    by_cases hkl : k < L.length
    · rw [List.getElem_append_left hkl] at hy
      exact List.mem_append.2 (.inl (g.closed k hkl hn y hy))
    · simp at h; omega
theorem Goes.reach {l : List GObj} {p : PP} {L : List PP} {F : PP → Option PP} {n : Nat} (g : Goes l p L F n) : ∀ i (h : i < L.length), Reach l p L[i] := by
  intro i
  induction i using Nat.strongRecOn with
  | ind i ih =>
    intro h
    rcases g.par i h with ⟨h1, h2⟩ | ⟨j, hj, h1, h2⟩
    · subst h1
      have := g.head
      rw [List.getElem?_eq_getElem h] at this
      rw [Option.some.inj this]; exact .refl
    · exact .step (ih j hj (by omega)) h2
theorem Goes.done {l : List GObj} {p : PP} {L : List PP} {F : PP → Option PP} {n : Nat} (g : Goes l p L F n) (hn : L.length ≤ n) (x : PP) : x ∈ L ↔ Reach l p x := by
  constructor
  · intro h
    obtain ⟨i, hi, rfl⟩ := List.mem_iff_getElem.1 h
    exact g.reach i hi
  · intro h
    induction h with
    | refl =>
      have := g.head
      exact List.mem_of_getElem? this
    | step _ k ih =>
      obtain ⟨i, hi, rfl⟩ := List.mem_iff_getElem.1 ih
      exact g.closed i hi (by omega) _ k
/-- the references of a symbol, where each is one -/
theorem refsGo_mem {l : List GObj} {a : Int} : ∀ {rs : List GRel} {acc ps : List PP} {n : ByteArray}, refsGo l a acc rs = (ps, n, 0) → ∀ q, q ∈ ps ↔ q ∈ acc ∨ ∃ x ∈ rs, findR l a x.name.data.toList = some q
  | [], acc, ps, n, h, q => by
    simp only [refsGo, Prod.mk.injEq] at h
    simp [h.1]
  | x :: r, acc, ps, n, h, q => by
    simp only [refsGo] at h
    cases hf : findR l a x.name.data.toList with
    | none => rw [hf] at h; simp at h
    | some p =>
      rw [hf] at h
      rw [refsGo_mem h q]
      rw [List.mem_append]
      constructor
      · rintro ((h1 | h1) | ⟨y, h1, h2⟩)
        · exact .inl h1
        · exact .inr ⟨x, List.mem_cons_self, by rw [hf, List.mem_singleton.1 h1]⟩
        · exact .inr ⟨y, List.mem_cons_of_mem _ h1, h2⟩
      · rintro (h1 | ⟨y, h1, h2⟩)
        · exact .inl (.inl h1)
        · rcases List.mem_cons.1 h1 with rfl | h1
          · rw [hf] at h2
            exact .inl (.inr (List.mem_singleton.2 (Option.some.inj h2).symm))
          · exact .inr ⟨y, h1, h2⟩
/-- a symbol that is found is one, and is local or wins -/
theorem firstBy_hit {fl : List Spot} {n : List UInt8} {b : Int} {q : PP} (h : firstBy fl n b = some q) : ∃ x ∈ fl, hits n b x = true ∧ q = (x.obj, x.sym) := by
  unfold firstBy at h
  obtain ⟨x, hx, rfl⟩ := Option.map_eq_some_iff.1 h
  exact ⟨x, List.mem_of_find?_eq_some hx, List.find?_some hx, rfl⟩
theorem hits_name {n : List UInt8} {b : Int} {x : Spot} (h : hits n b x = true) : x.it.name.data.toList = n ∧ x.it.bind = b := by
  simp only [hits, Bool.and_eq_true, beq_iff_eq, decide_eq_true_eq] at h; exact h
theorem findR_spot {l : List GObj} {i : Int} {n : List UInt8} {q : PP} (h : findR l i n = some q) : ∃ x ∈ flat l, q = (x.obj, x.sym) ∧ x.it.name.data.toList = n ∧ ((x.it.bind = 0 ∧ 0 ≤ i ∧ x.obj = i.toNat) ∨ winnerIn (flat l) n = some q) := by
  unfold findR at h
  by_cases hi : 0 ≤ i
  · rw [if_pos hi] at h
    cases hl : localAt l i.toNat n with
    | some p =>
      rw [hl] at h
      obtain rfl := Option.some.inj h
      unfold localAt at hl
      cases ho : l[i.toNat]? with
      | none => rw [ho] at hl; cases hl
      | some o =>
        rw [ho] at hl
        obtain ⟨k, hk, rfl⟩ := Option.map_eq_some_iff.1 hl
        obtain ⟨hkl, h1, -⟩ := List.findIdx?_eq_some_iff_getElem.1 hk
        simp only [isLocal, Bool.and_eq_true, beq_iff_eq, decide_eq_true_eq] at h1
        exact ⟨⟨i.toNat, k, o.syms[k]⟩, mem_flat ho (List.getElem?_eq_getElem hkl), rfl, h1.1, .inl ⟨h1.2, hi, rfl⟩⟩
    | none =>
      rw [hl] at h
      have hw := h
      unfold winnerIn at h
      cases h1 : firstBy (flat l) n 1 with
      | some p =>
        simp only [h1] at h
        obtain ⟨x, hx, hh, e⟩ := firstBy_hit (h1.trans h)
        exact ⟨x, hx, e, (hits_name hh).1, .inr hw⟩
      | none =>
        simp only [h1] at h
        obtain ⟨x, hx, hh, e⟩ := firstBy_hit h
        exact ⟨x, hx, e, (hits_name hh).1, .inr hw⟩
  · rw [if_neg hi] at h
    have hw := h
    simp only [] at h hw
    unfold winnerIn at h
    cases h1 : firstBy (flat l) n 1 with
    | some p =>
      simp only [h1] at h
      obtain ⟨x, hx, hh, e⟩ := firstBy_hit (h1.trans h)
      exact ⟨x, hx, e, (hits_name hh).1, .inr hw⟩
    | none =>
      simp only [h1] at h
      obtain ⟨x, hx, hh, e⟩ := firstBy_hit h
      exact ⟨x, hx, e, (hits_name hh).1, .inr hw⟩
end Go.Proofs.YtdjgkmpjhpnkeaaGreatDoor
namespace Go.Proofs.YtdjgkmpjhpnkeaaGreatDoor
def subS (K : List PP) (i : Nat) : Nat → List GSym → List GSym
  | _, [] => []
  | k, s :: r => if (i, k) ∈ K then s :: subS K i (k + 1) r else subS K i (k + 1) r
def subO (K : List PP) : Nat → List GObj → List GObj
  | _, [] => []
  | i, o :: r => ⟨o.name, subS K i 0 o.syms⟩ :: subO K (i + 1) r
def newK (K : List PP) (i k : Nat) : Nat := ((List.range k).filter (fun j => decide ((i, j) ∈ K))).length
def newP (K : List PP) (p : PP) : PP := (p.1, newK K p.1 p.2)
theorem newK_yes {K : List PP} {i k : Nat} (h : (i, k) ∈ K) : newK K i (k + 1) = newK K i k + 1 := by
  unfold newK
  rw [List.range_succ, List.filter_append, List.length_append]
  simp [h]
theorem newK_no {K : List PP} {i k : Nat} (h : ¬ (i, k) ∈ K) : newK K i (k + 1) = newK K i k := by
  unfold newK
  rw [List.range_succ, List.filter_append, List.length_append]
  simp [h]
theorem newK_mono (K : List PP) (i : Nat) : ∀ (k d : Nat), newK K i k ≤ newK K i (k + d)
  | _, 0 => Nat.le_refl _
  | k, d + 1 => by
    have := newK_mono K i k d
    by_cases h : (i, k + d) ∈ K
    · rw [← Nat.add_assoc, newK_yes h]; omega
    · rw [← Nat.add_assoc, newK_no h]; exact this
theorem newK_lt {K : List PP} {i k j : Nat} (h : (i, k) ∈ K) (hj : k < j) : newK K i k < newK K i j := by
  have h1 := newK_mono K i (k + 1) (j - (k + 1))
  rw [newK_yes h, show k + 1 + (j - (k + 1)) = j by omega] at h1
  omega
def keptS (K : List PP) (x : Spot) : Bool := decide ((x.obj, x.sym) ∈ K)
def mvS (K : List PP) (x : Spot) : Spot := ⟨x.obj, newK K x.obj x.sym, x.it⟩
theorem symsFrom_sub {K : List PP} {i : Nat} : ∀ (l : List GSym) (k n : Nat), n = newK K i k → symsFrom i n (subS K i k l) = ((symsFrom i k l).filter (keptS K)).map (mvS K)
  | [], _, _, _ => rfl
  | s :: r, k, n, hn => by
    by_cases h : (i, k) ∈ K
    · have hk : keptS K ⟨i, k, s⟩ = true := by simp [keptS, h]
      rw [subS, if_pos h, symsFrom, symsFrom, List.filter_cons_of_pos hk, List.map_cons, symsFrom_sub r (k + 1) (n + 1) (by rw [newK_yes h, hn])]
      simp [mvS, hn]
    · have hk : ¬ keptS K ⟨i, k, s⟩ = true := by simp [keptS, h]
      rw [subS, if_neg h, symsFrom, List.filter_cons_of_neg hk, symsFrom_sub r (k + 1) n (by rw [newK_no h, hn])]
theorem objsFrom_sub {K : List PP} : ∀ (l : List GObj) (i : Nat), objsFrom i (subO K i l) = ((objsFrom i l).filter (keptS K)).map (mvS K)
  | [], _ => rfl
  | o :: r, i => by
    rw [subO, objsFrom, objsFrom, List.filter_append, List.map_append, objsFrom_sub r (i + 1), symsFrom_sub o.syms 0 0 (by simp [newK])]
theorem flat_sub (K : List PP) (l : List GObj) : flat (subO K 0 l) = ((flat l).filter (keptS K)).map (mvS K) := objsFrom_sub l 0
theorem find_move_yes {K : List PP} {L : List Spot} {P : Spot → Bool} (hP : ∀ x, P (mvS K x) = P x) {x : Spot} (h : L.find? P = some x) (hk : keptS K x = true) : ((L.filter (keptS K)).map (mvS K)).find? P = some (mvS K x) := by
  induction L with
  | nil => cases h
  | cons y r ih =>
    by_cases hy : P y = true
    · rw [List.find?_cons_of_pos hy] at h
      obtain rfl := Option.some.inj h
      rw [List.filter_cons_of_pos hk, List.map_cons, List.find?_cons_of_pos (by rw [hP]; exact hy)]
    · rw [List.find?_cons_of_neg hy] at h
      by_cases hyk : keptS K y = true
      · rw [List.filter_cons_of_pos hyk, List.map_cons, List.find?_cons_of_neg (by rw [hP]; exact hy)]; exact ih h
      · rw [List.filter_cons_of_neg hyk]; exact ih h
theorem find_move_none {K : List PP} {L : List Spot} {P : Spot → Bool} (hP : ∀ x, P (mvS K x) = P x) (h : L.find? P = none) : ((L.filter (keptS K)).map (mvS K)).find? P = none := by
  rw [List.find?_eq_none] at h ⊢
  intro x hx
  obtain ⟨y, hy, rfl⟩ := List.mem_map.1 hx
  rw [hP]
  exact h y (List.mem_filter.1 hy).1
theorem hits_mv (K : List PP) (n : List UInt8) (b : Int) (x : Spot) : hits n b (mvS K x) = hits n b x := rfl
theorem firstBy_sub {K : List PP} {l : List GObj} {n : List UInt8} {b : Int} {q : PP} (h : firstBy (flat l) n b = some q) (hq : q ∈ K) : firstBy (flat (subO K 0 l)) n b = some (newP K q) := by
  unfold firstBy at h ⊢
  obtain ⟨x, hx, rfl⟩ := Option.map_eq_some_iff.1 h
  rw [flat_sub, find_move_yes (hits_mv K n b) hx (by simpa [keptS] using hq)]
  rfl
theorem firstBy_sub_none {K : List PP} {l : List GObj} {n : List UInt8} {b : Int} (h : firstBy (flat l) n b = none) : firstBy (flat (subO K 0 l)) n b = none := by
  unfold firstBy at h ⊢
  rw [Option.map_eq_none_iff] at h
  rw [flat_sub, find_move_none (hits_mv K n b) h]
  rfl
theorem winner_sub {K : List PP} {l : List GObj} {n : List UInt8} {q : PP} (h : winnerIn (flat l) n = some q) (hq : q ∈ K) : winnerIn (flat (subO K 0 l)) n = some (newP K q) := by
  unfold winnerIn at h ⊢
  cases h1 : firstBy (flat l) n 1 with
  | some p =>
    rw [h1] at h
    obtain rfl := Option.some.inj h
    rw [firstBy_sub h1 hq]
  | none =>
    rw [h1] at h
    rw [firstBy_sub_none h1]
    exact firstBy_sub h hq
theorem winner_sub_none {K : List PP} {l : List GObj} {n : List UInt8} (h : winnerIn (flat l) n = none) : winnerIn (flat (subO K 0 l)) n = none := by
  unfold winnerIn at h ⊢
  cases h1 : firstBy (flat l) n 1 with
  | some p => rw [h1] at h; cases h
  | none =>
    rw [h1] at h
    rw [firstBy_sub_none h1]
    exact firstBy_sub_none h
theorem local_find {i : Nat} {n : List UInt8} : ∀ (l : List GSym) (k : Nat), ((symsFrom i k l).find? (fun x => isLocal n x.it)).map (fun x => (x.obj, x.sym)) = (l.findIdx? (isLocal n)).map (fun j => (i, k + j))
  | [], _ => rfl
  | s :: r, k => by
    rw [symsFrom, List.findIdx?_cons]
    by_cases h : isLocal n s = true
    · rw [List.find?_cons_of_pos (p := fun x : Spot => isLocal n x.it) (a := ⟨i, k, s⟩) h, if_pos h]; rfl
    · rw [List.find?_cons_of_neg (p := fun x : Spot => isLocal n x.it) (a := ⟨i, k, s⟩) h, if_neg h, local_find r (k + 1), Option.map_map]
      congr 1
      funext j
      simp only [Function.comp]
      rw [show k + 1 + j = k + (j + 1) by omega]
theorem subO_get {K : List PP} : ∀ (l : List GObj) (i j : Nat), (subO K i l)[j]? = (l[j]?).map (fun o => ⟨o.name, subS K (i + j) 0 o.syms⟩)
  | [], _, _ => by simp [subO]
  | o :: r, i, 0 => by simp [subO]
  | o :: r, i, j + 1 => by
    rw [subO, List.getElem?_cons_succ, List.getElem?_cons_succ, subO_get r (i + 1) j, show i + 1 + j = i + (j + 1) by omega]
theorem subO_len {K : List PP} : ∀ (l : List GObj) (i : Nat), (subO K i l).length = l.length
  | [], _ => rfl
  | o :: r, i => by rw [subO, List.length_cons, List.length_cons, subO_len r (i + 1)]
theorem localAt_sub {K : List PP} {l : List GObj} {i : Nat} {n : List UInt8} {q : PP} (h : localAt l i n = some q) (hq : q ∈ K) : localAt (subO K 0 l) i n = some (newP K q) := by
  unfold localAt at h ⊢
  rw [subO_get]
  cases ho : l[i]? with
  | none => rw [ho] at h; cases h
  | some o =>
    rw [ho] at h
    simp only [Option.map_some, Nat.zero_add]
    have e1 := local_find (i := i) (n := n) o.syms 0
    have e2 := local_find (i := i) (n := n) (subS K i 0 o.syms) 0
    simp only [Nat.zero_add] at e1 e2
    rw [← e2, symsFrom_sub o.syms 0 0 (by simp [newK])]
    simp only [] at h
    rw [← e1] at h
    obtain ⟨x, hx, rfl⟩ := Option.map_eq_some_iff.1 h
    rw [find_move_yes (K := K) (P := fun x => isLocal n x.it) (fun _ => rfl) hx (by simpa [keptS] using hq)]
    rfl
theorem localAt_sub_none {K : List PP} {l : List GObj} {i : Nat} {n : List UInt8} (h : localAt l i n = none) : localAt (subO K 0 l) i n = none := by
  unfold localAt at h ⊢
  rw [subO_get]
  cases ho : l[i]? with
  | none => rfl
  | some o =>
    rw [ho] at h
    simp only [Option.map_some, Nat.zero_add]
    have e1 := local_find (i := i) (n := n) o.syms 0
    have e2 := local_find (i := i) (n := n) (subS K i 0 o.syms) 0
    simp only [Nat.zero_add] at e1 e2
    rw [← e2, symsFrom_sub o.syms 0 0 (by simp [newK])]
    simp only [] at h
    rw [← e1] at h
    rw [find_move_none (K := K) (P := fun x => isLocal n x.it) (fun _ => rfl) (Option.map_eq_none_iff.1 h)]
    rfl
theorem findR_sub {K : List PP} {l : List GObj} {i : Int} {n : List UInt8} {q : PP} (h : findR l i n = some q) (hq : q ∈ K) : findR (subO K 0 l) i n = some (newP K q) := by
  unfold findR at h ⊢
  by_cases hi : 0 ≤ i
  · rw [if_pos hi] at h ⊢
    cases hl : localAt l i.toNat n with
    | some p =>
      rw [hl] at h
      obtain rfl := Option.some.inj h
      rw [localAt_sub hl hq]
    | none =>
      rw [hl] at h
      rw [localAt_sub_none hl]
      exact winner_sub h hq
  · rw [if_neg hi] at h ⊢
    exact winner_sub h hq
theorem findR_sub_none {K : List PP} {l : List GObj} {i : Int} {n : List UInt8} (h : findR l i n = none) : findR (subO K 0 l) i n = none := by
  unfold findR at h ⊢
  by_cases hi : 0 ≤ i
  · rw [if_pos hi] at h ⊢
    cases hl : localAt l i.toNat n with
    | some p => rw [hl] at h; cases h
    | none =>
      rw [hl] at h
      rw [localAt_sub_none hl]
      exact winner_sub_none h
  · rw [if_neg hi] at h ⊢
    exact winner_sub_none h
end Go.Proofs.YtdjgkmpjhpnkeaaGreatDoor
namespace Go.Proofs.YtdjgkmpjhpnkeaaGreatDoor
theorem hasName_sub {l m : List GSym} {n : List UInt8} (h : ∀ s ∈ m, s ∈ l) (hn : hasName l n = false) : hasName m n = false := by
  unfold hasName at *
  rw [List.any_eq_false] at *
  exact fun s hs => hn s (h s hs)
theorem symsGo_sub {K : List PP} {i : Nat} : ∀ (l : List GSym) (k : Nat) (seen seen' : List GSym), (∀ s ∈ seen', s ∈ seen) → symsGo seen l = true → symsGo seen' (subS K i k l) = true
  | [], _, _, _, _, _ => rfl
  | s :: r, k, seen, seen', hs, h => by
    simp only [symsGo, Bool.and_eq_true, Bool.not_eq_true'] at h
    by_cases hk : (i, k) ∈ K
    · rw [subS, if_pos hk]
      simp only [symsGo, Bool.and_eq_true, Bool.not_eq_true']
      refine ⟨⟨hasName_sub hs h.1.1, h.1.2⟩, symsGo_sub r (k + 1) (seen ++ [s]) (seen' ++ [s]) (fun t ht => ?_) h.2⟩
      rcases List.mem_append.1 ht with ht | ht
      · exact List.mem_append.2 (.inl (hs t ht))
      · exact List.mem_append.2 (.inr ht)
    · rw [subS, if_neg hk]
      exact symsGo_sub r (k + 1) (seen ++ [s]) seen' (fun t ht => List.mem_append.2 (.inl (hs t ht))) h.2
theorem subS_len {K : List PP} {i : Nat} : ∀ (l : List GSym) (k : Nat), (subS K i k l).length ≤ l.length
  | [], _ => Nat.le_refl _
  | s :: r, k => by
    have := subS_len (K := K) (i := i) r (k + 1)
    by_cases hk : (i, k) ∈ K
    · rw [subS, if_pos hk]; simp only [List.length_cons]; omega
    · rw [subS, if_neg hk]; simp only [List.length_cons]; omega
theorem mayP_sub {K : List PP} {i : Nat} {o : GObj} (h : mayP o = true) : mayP ⟨o.name, subS K i 0 o.syms⟩ = true := by
  simp only [mayP, Bool.and_eq_true, decide_eq_true_eq] at h ⊢
  exact ⟨⟨symsGo_sub o.syms 0 [] [] (fun s hs => hs) h.1.1, h.1.2⟩, Nat.le_trans (subS_len o.syms 0) h.2⟩
theorem all_sub {K : List PP} : ∀ (l : List GObj) (i : Nat), l.all mayP = true → (subO K i l).all mayP = true
  | [], _, _ => rfl
  | o :: r, i, h => by
    simp only [List.all_cons, Bool.and_eq_true] at h
    rw [subO, List.all_cons, mayP_sub h.1, all_sub r (i + 1) h.2]; rfl
theorem mayAll_sub {K : List PP} {l : List GObj} (h : mayAll l = true) : mayAll (subO K 0 l) = true := by
  simp only [mayAll, Bool.and_eq_true, decide_eq_true_eq] at h ⊢
  exact ⟨by rw [subO_len]; exact h.1, all_sub l 0 h.2⟩
theorem dup_sub {K : List PP} : ∀ (rest pre pre' : List Spot), (∀ n, firstBy pre n 1 = none → firstBy pre' n 1 = none) → dupGo pre rest = none → dupGo pre' ((rest.filter (keptS K)).map (mvS K)) = none
  | [], _, _, _, _ => rfl
  | x :: r, pre, pre', hp, h => by
    rw [dupGo] at h
    by_cases hc : x.it.bind = 1 ∧ (firstBy pre x.it.name.data.toList 1).isSome = true
    · rw [if_pos hc] at h; cases h
    · rw [if_neg hc] at h
      have hnext : ∀ n, firstBy (pre ++ [x]) n 1 = none → firstBy pre n 1 = none := fun n hn => by
        unfold firstBy at *
        rw [Option.map_eq_none_iff, List.find?_append] at hn
        rw [Option.map_eq_none_iff]
        cases hf : pre.find? (hits n 1) with
        | none => rfl
        | some y => rw [hf] at hn; cases hn
      by_cases hk : keptS K x = true
      · rw [List.filter_cons_of_pos hk, List.map_cons, dupGo, if_neg]
        · refine dup_sub r (pre ++ [x]) (pre' ++ [mvS K x]) (fun n hn => ?_) h
          have h1 := hp n (hnext n hn)
          unfold firstBy at *
          rw [Option.map_eq_none_iff, List.find?_append] at *
          rw [h1]
          cases hx : [x].find? (hits n 1) with
          | none =>
            have h3 : hits n 1 x = false := by
              rw [List.find?_eq_none] at hx
              simpa using hx x (by simp)
            have : hits n 1 (mvS K x) = false := h3
            simp [this]
          | some y =>
            rw [hx] at hn
            cases hf : pre.find? (hits n 1) with
            | none => rw [hf] at hn; cases hn
            | some z => rw [hf] at hn; cases hn
        · rintro ⟨h1, h2⟩
          refine hc ⟨h1, ?_⟩
          cases hf : firstBy pre x.it.name.data.toList 1 with
          | some y => rfl
          | none =>
            have h3 := hp _ hf
            have h4 : (mvS K x).it.name.data.toList = x.it.name.data.toList := rfl
            rw [h4, h3] at h2; cases h2
      · rw [List.filter_cons_of_neg hk]
        exact dup_sub r (pre ++ [x]) pre' (fun n hn => hp n (hnext n hn)) h
theorem begin_sub {K : List PP} {l : List GObj} (h : (beginR l).2 = 0) : (beginR (subO K 0 l)).2 = 0 := by
  obtain ⟨h1, h2⟩ := beginR_zero h
  have h3 : dupGo [] (flat (subO K 0 l)) = none := by
    rw [flat_sub]; exact dup_sub (flat l) [] [] (fun _ h => h) h2
  unfold beginR
  rw [if_pos (mayAll_sub h1), h3]
end Go.Proofs.YtdjgkmpjhpnkeaaGreatDoor
namespace Go.Proofs.YtdjgkmpjhpnkeaaGreatDoor
theorem plt_irrefl (a : PP) : ¬ plt a a := by unfold plt; omega
theorem plt_asymm {a b : PP} (h : plt a b) : ¬ plt b a := by unfold plt at *; omega
theorem pw_eq : ∀ (K K' : List PP), K.Pairwise plt → K'.Pairwise plt → (∀ x, x ∈ K ↔ x ∈ K') → K = K'
  | [], [], _, _, _ => rfl
  | [], b :: K', _, _, h => by have := (h b).2 List.mem_cons_self; cases this
  | a :: K, [], _, _, h => by have := (h a).1 List.mem_cons_self; cases this
  | a :: K, b :: K', h1, h2, h => by
    obtain ⟨a1, a2⟩ := List.pairwise_cons.1 h1
    obtain ⟨b1, b2⟩ := List.pairwise_cons.1 h2
    have hab : a = b := by
      rcases List.mem_cons.1 ((h a).1 List.mem_cons_self) with e | e
      · exact e
      · rcases List.mem_cons.1 ((h b).2 List.mem_cons_self) with e' | e'
        · exact e'.symm
        · exact absurd (a1 b e') (plt_asymm (b1 a e))
    subst hab
    rw [pw_eq K K' a2 b2 fun x => ⟨fun hx => ?_, fun hx => ?_⟩]
    · rcases List.mem_cons.1 ((h x).1 (List.mem_cons_of_mem _ hx)) with e | e
      · exact absurd (e ▸ a1 x hx) (plt_irrefl _)
      · exact e
    · rcases List.mem_cons.1 ((h x).2 (List.mem_cons_of_mem _ hx)) with e | e
      · exact absurd (e ▸ b1 x hx) (plt_irrefl _)
      · exact e
theorem KeptOf.eq {l : List GObj} {p : PP} {K K' : List PP} (h : KeptOf l p K) (h' : KeptOf l p K') : K = K' := pw_eq K K' h.1 h'.1 fun x => (h.2 x).trans (h'.2 x).symm
def validP (l : List GObj) (p : PP) : Prop := ∃ o s, l[p.1]? = some o ∧ o.syms[p.2]? = some s
theorem findR_valid {l : List GObj} {i : Int} {n : List UInt8} {q : PP} (h : findR l i n = some q) : validP l q := by
  obtain ⟨x, hx, rfl, -⟩ := findR_spot h
  obtain ⟨o, h1, h2⟩ := flat_mem hx
  exact ⟨o, _, h1, h2⟩
theorem Reach.valid {l : List GObj} {p x : PP} (hp : validP l p) (h : Reach l p x) : validP l x := by
  cases h with
  | refl => exact hp
  | step _ k => obtain ⟨_, _, hf⟩ := k; exact findR_valid hf
theorem subS_get {K : List PP} {i : Nat} : ∀ (l : List GSym) (k j : Nat) (s : GSym), l[j]? = some s → (i, k + j) ∈ K → (subS K i k l)[newK K i (k + j) - newK K i k]? = some s
  | t :: r, k, 0, s, h, hk => by
    simp only [Nat.add_zero] at hk ⊢
    simp only [List.getElem?_cons_zero, Option.some.injEq] at h
    rw [subS, if_pos hk, Nat.sub_self, List.getElem?_cons_zero, h]
  | t :: r, k, j + 1, s, h, hk => by
    rw [List.getElem?_cons_succ] at h
    have e : k + (j + 1) = k + 1 + j := by omega
    rw [e] at hk ⊢
    have ih := subS_get r (k + 1) j s h hk
    by_cases ht : (i, k) ∈ K
    · rw [subS, if_pos ht]
      have h1 := newK_yes ht
      have h2 := newK_mono K i (k + 1) j
      rw [show newK K i (k + 1 + j) - newK K i k = (newK K i (k + 1 + j) - newK K i (k + 1)) + 1 by omega, List.getElem?_cons_succ]
      exact ih
    · rw [subS, if_neg ht, ← newK_no ht]; exact ih
theorem relsAt_of {l : List GObj} {p : PP} {o : GObj} {s : GSym} (h1 : l[p.1]? = some o) (h2 : o.syms[p.2]? = some s) : relsAt l p.1 p.2 = s.rels := by
  simp [relsAt, h1, h2]
theorem relsAt_sub {K : List PP} {l : List GObj} {p : PP} (hv : validP l p) (hk : p ∈ K) : relsAt (subO K 0 l) (newP K p).1 (newP K p).2 = relsAt l p.1 p.2 := by
  obtain ⟨o, s, h1, h2⟩ := hv
  rw [relsAt_of h1 h2]
  have h3 : (subO K 0 l)[(newP K p).1]? = some ⟨o.name, subS K p.1 0 o.syms⟩ := by
    show (subO K 0 l)[p.1]? = _
    rw [subO_get, h1]; simp
  have h4 := subS_get (K := K) (i := p.1) o.syms 0 p.2 s h2 (by simpa using hk)
  have h5 : newK K p.1 0 = 0 := by simp [newK]
  rw [Nat.zero_add, h5, Nat.sub_zero] at h4
  exact relsAt_of h3 h4
theorem reach_sub {K : List PP} {l : List GObj} {p x : PP} (hp : validP l p) (hK : ∀ y, Reach l p y → y ∈ K) (h : Reach l p x) : Reach (subO K 0 l) (newP K p) (newP K x) := by
  induction h with
  | refl => exact .refl
  | @step x y hx k ih =>
    refine .step ih ?_
    obtain ⟨r, hr, hf⟩ := k
    exact ⟨r, by rw [relsAt_sub (hx.valid hp) (hK _ hx)]; exact hr, findR_sub hf (hK _ (.step hx ⟨r, hr, hf⟩))⟩
theorem reach_back {K : List PP} {l : List GObj} {p y : PP} (hp : validP l p) (hK : ∀ y, Reach l p y → y ∈ K) (h : Reach (subO K 0 l) (newP K p) y) : ∃ x, Reach l p x ∧ y = newP K x := by
  induction h with
  | refl => exact ⟨p, .refl, rfl⟩
  | @step x' y' _ k ih =>
    obtain ⟨x, hx, rfl⟩ := ih
    obtain ⟨r, hr, hf⟩ := k
    rw [relsAt_sub (hx.valid hp) (hK _ hx)] at hr
    have hf' : findR (subO K 0 l) x.1 r.name.data.toList = some y' := hf
    cases hl : findR l x.1 r.name.data.toList with
    | none => rw [findR_sub_none hl] at hf'; cases hf'
    | some z =>
      have hz : Reach l p z := .step hx ⟨r, hr, hl⟩
      rw [findR_sub hl (hK _ hz)] at hf'
      exact ⟨z, hz, (Option.some.inj hf').symm⟩
theorem KeptOf.sub {l : List GObj} {p : PP} {K : List PP} (hp : validP l p) (h : KeptOf l p K) : KeptOf (subO K 0 l) (newP K p) (K.map (newP K)) := by
  refine ⟨?_, fun y => ⟨fun hy => ?_, fun hy => ?_⟩⟩
  · rw [List.pairwise_map]
    refine List.Pairwise.imp_of_mem (fun {a b} ha _ hab => ?_) h.1
    rcases hab with h1 | ⟨h1, h2⟩
    · exact .inl h1
    · refine .inr ⟨h1, ?_⟩
      show newK K a.1 a.2 < newK K b.1 b.2
      rw [← h1]
      exact newK_lt ha h2
  · obtain ⟨x, hx, rfl⟩ := List.mem_map.1 hy
    exact reach_sub hp (fun y hy => (h.2 y).2 hy) ((h.2 x).1 hx)
  · obtain ⟨x, hx, rfl⟩ := reach_back hp (fun y hy => (h.2 y).2 hy) hy
    exact List.mem_map.2 ⟨x, (h.2 x).2 hx, rfl⟩
theorem refs_sub {K : List PP} {l : List GObj} {a : Int} : ∀ {rs : List GRel} {acc ps : List PP} {n : ByteArray}, refsGo l a acc rs = (ps, n, 0) → (∀ x ∈ rs, ∀ q, findR l a x.name.data.toList = some q → q ∈ K) → refsGo (subO K 0 l) a (acc.map (newP K)) rs = (ps.map (newP K), n, 0)
  | [], acc, ps, n, h, _ => by
    simp only [refsGo, Prod.mk.injEq] at h ⊢
    simp [h.1, h.2]
  | x :: r, acc, ps, n, h, hK => by
    simp only [refsGo] at h ⊢
    cases hf : findR l a x.name.data.toList with
    | none => rw [hf] at h; simp at h
    | some q =>
      rw [hf] at h
      rw [findR_sub hf (hK x List.mem_cons_self q hf)]
      have := refs_sub (K := K) h fun y hy q hq => hK y (List.mem_cons_of_mem _ hy) q hq
      rw [List.map_append] at this
      exact this
end Go.Proofs.YtdjgkmpjhpnkeaaGreatDoor
namespace Go.Proofs.YtdjgkmpjhpnkeaaGreatDoor
theorem kept_flat {K : List PP} {l : List GObj} (hp : K.Pairwise plt) (hv : ∀ x ∈ K, validP l x) : K = ((flat l).filter (keptS K)).map (fun x => (x.obj, x.sym)) := by
  refine pw_eq _ _ hp ?_ fun x => ⟨fun hx => ?_, fun hx => ?_⟩
  · rw [List.pairwise_map]
    exact List.Pairwise.filter _ (objsFrom_sorted 0 l)
  · obtain ⟨o, s, h1, h2⟩ := hv x hx
    refine List.mem_map.2 ⟨⟨x.1, x.2, s⟩, List.mem_filter.2 ⟨mem_flat h1 h2, by simp [keptS, hx]⟩, rfl⟩
  · obtain ⟨y, hy, rfl⟩ := List.mem_map.1 hx
    simpa [keptS] using (List.mem_filter.1 hy).2
/-- the new places of the kept ones among some -/
def whereOf (K : List PP) (pre : List Spot) : List PP := (pre.filter (keptS K)).map (fun x => newP K (x.obj, x.sym))
theorem whereOf_yes {K : List PP} {pre : List Spot} {x : Spot} (h : keptS K x = true) : whereOf K (pre ++ [x]) = whereOf K pre ++ [newP K (x.obj, x.sym)] := by simp [whereOf, h]
theorem whereOf_no {K : List PP} {pre : List Spot} {x : Spot} (h : keptS K x = false) : whereOf K (pre ++ [x]) = whereOf K pre := by simp [whereOf, h]
theorem whereOf_all {K : List PP} {l : List GObj} (hp : K.Pairwise plt) (hv : ∀ x ∈ K, validP l x) : whereOf K (flat l) = K.map (newP K) := by
  have h := kept_flat hp hv
  unfold whereOf
  have e : (fun x : Spot => newP K (x.obj, x.sym)) = newP K ∘ (fun x : Spot => (x.obj, x.sym)) := rfl
  rw [e, ← List.map_map, ← h]
/-- how many of an object's first symbols stay -/
theorem subS_take {K : List PP} {i : Nat} : ∀ (l : List GSym) (k n : Nat), n ≤ l.length → (subS K i k (l.take n)).length = newK K i (k + n) - newK K i k
  | l, k, 0, _ => by simp [subS]
  | [], k, n + 1, h => by simp at h
  | s :: r, k, n + 1, h => by
    have ih := subS_take (K := K) (i := i) r (k + 1) n (by simpa using h)
    have h2 := newK_mono K i (k + 1) n
    rw [List.take_succ_cons, show k + (n + 1) = k + 1 + n by omega]
    by_cases hk : (i, k) ∈ K
    · rw [subS, if_pos hk, List.length_cons, ih]
      have := newK_yes hk
      omega
    · rw [subS, if_neg hk, ih]
      have := newK_no hk
      omega
theorem subS_snoc {K : List PP} {i : Nat} : ∀ (l : List GSym) (k n : Nat) (h : n < l.length), subS K i k (l.take (n + 1)) = subS K i k (l.take n) ++ (if (i, k + n) ∈ K then [l[n]] else [])
  | s :: r, k, 0, _ => by
    rw [List.take_succ_cons, List.take_zero, List.take_zero, subS, Nat.add_zero]
    by_cases hk : (i, k) ∈ K
    · simp [subS, hk]
    · simp [subS, hk]
  | s :: r, k, n + 1, h => by
    have ih := subS_snoc (K := K) (i := i) r (k + 1) n (by simpa using h)
    rw [show k + 1 + n = k + (n + 1) by omega] at ih
    rw [List.take_succ_cons, List.take_succ_cons, subS, subS, ih]
    by_cases hk : (i, k) ∈ K
    · rw [if_pos hk, if_pos hk]; simp
    · rw [if_neg hk, if_neg hk]; simp
end Go.Proofs.YtdjgkmpjhpnkeaaGreatDoor
namespace Go.Proofs.YtdjgkmpjhpnkeaaGreatDoor
open Go.RowKit Go.Maps
structure SrchSt (base sb mb : Nat) (ov v : Value) (L : List PP) (F : PP → Option PP) (w : World) : Prop where
  box : w.heap[sb]? = some (.cells #[v, .map (some mb), ov] 234 (0, 0))
  row : PRow base w v L
  map : MapKFn placeE w mb L.length (fun x => (F x).map placeV)
  sbl : base ≤ sb
  mbl : base ≤ mb
variable {base sb mb : Nat} {ov v : Value} {L : List PP} {F : PP → Option PP} {w w' : World}
theorem SrchSt.lt (h : SrchSt base sb mb ov v L F w) : sb < w.heap.size := (Array.getElem?_eq_some_iff.1 h.box).1
theorem SrchSt.keep (h : SrchSt base sb mb ov v L F w) (hb : Below w.heap.size w w') : SrchSt base sb mb ov v L F w' :=
  ⟨(hb.block _ h.lt).trans h.box, PRow.keep hb h.row, h.map.below hb h.map.lt, h.sbl, h.mbl⟩
theorem SrchSt.ne (h : SrchSt base sb mb ov v L F w) : sb ≠ mb := by
  obtain ⟨D, ⟨es, clock, h1, _⟩, _⟩ := h.map
  have h2 := h.box
  intro e
  rw [e, h1] at h2
  cases h2
theorem SrchSt.nev (h : SrchSt base sb mb ov v L F w) : v.ownBlock ≠ some sb := own_ne_box h.row h.box (by decide)
theorem SrchSt.nem (h : SrchSt base sb mb ov v L F w) : v.ownBlock ≠ some mb := fun e => by
  obtain ⟨D, ⟨es, clock, h1, _⟩, _⟩ := h.map
  obtain ⟨cur, h2⟩ := own_type h.row e
  rw [h1] at h2
  cases h2
/-- which blocks a search writes -/
def SB (sb mb : Nat) (v : Value) (g : Nat) : Prop := g = sb ∨ g = mb ∨ v.ownBlock = some g
def newL (L : List PP) (F : PP → Option PP) (p : PP) : List PP := if (F p).isSome then L else L ++ [p]
def newF (F : PP → Option PP) (p q : PP) : PP → Option PP := if (F p).isSome then F else updF F p q
def PutPost (base sb mb : Nat) (ov v : Value) (L : List PP) (F : PP → Option PP) (p q : PP) (w : World) (e : Ending) (w' : World) : Prop :=
  e = .returned (.tuple #[]) ∧ ∃ v', SrchSt base sb mb ov v' (newL L F p) (newF F p q) w' ∧ KB (SB sb mb v) w w' ∧ (v'.ownBlock = v.ownBlock ∨ ∃ g, v'.ownBlock = some g ∧ w.heap.size ≤ g)
theorem updF_map (F : PP → Option PP) (p q : PP) : (fun x => if x = p then some (placeV q) else (F x).map placeV) = fun x => (updF F p q x).map placeV := by
  funext x
  unfold updF
  by_cases h : x = p <;> simp [h]
theorem SrchSt.box4 {wc w4 : World} (h : SrchSt base sb mb ov v L F w) (hb : Below w.heap.size w wc) (hg : wc.drew.grownBy w4 (some mb)) : w4.heap[sb]? = some (.cells #[v, .map (some mb), ov] 234 (0, 0)) :=
  (hg.block sb (by have := hb.size; have := h.lt; simp; omega) (fun e => by cases e; exact h.ne rfl)).trans ((hb.block _ h.lt).trans h.box)
theorem SrchSt.row4 {wc w4 : World} (h : SrchSt base sb mb ov v L F w) (hb : Below w.heap.size w wc) (hg : wc.drew.grownBy w4 (some mb)) : PRow base w4 v L :=
  own_congr h.row fun g hgv => (hg.block g (by have := hb.size; have := (h.row.lt g hgv).2; simp; omega) (fun e => by cases e; exact h.nem hgv)).trans (hb.block _ (h.row.lt g hgv).2)
theorem SrchSt.add {wc w4 w5 : World} {p q : PP} {v' : Value} {X : Obj} (h : SrchSt base sb mb ov v L F w) (hF : (F p).isSome = false) (hb : Below w.heap.size w wc)
    (hM : MapKFn placeE w4 mb (L.length + 1) (fun x => (updF F p q x).map placeV)) (hg : wc.drew.grownBy w4 (some mb))
    (hown : w5.ownsRow base 63 2 v' (L.length + 1) (placeCells L ++ [.int .i64 p.1, .int .i64 p.2])) (hg5 : (w4.alloc X).drew.grownBy w5 v.ownBlock) (hv : v'.ownBlock = v.ownBlock ∨ v'.ownBlock = some (w4.alloc X).drew.heap.size) :
    PutPost base sb mb ov v L F p q w (.returned (.tuple #[])) (w5.setCell ⟨sb, 0, none⟩ v') := by
  have hz4 : w.heap.size ≤ w4.heap.size := by have := hb.size; have := hg.size; simp at this; omega
  have hb4 := h.box4 hb hg
  have hr4 := h.row4 hb hg
  have hsl := h.lt
  have hml := h.map.lt
  have hb5 : w5.heap[sb]? = some (.cells #[v, .map (some mb), ov] 234 (0, 0)) :=
    (hg5.block sb (by simp; omega) (fun e => own_ne_box hr4 hb4 (by decide) e.symm)).trans ((Below.heap_alloc w4 X sb (by omega)).trans hb4)
  have hset : ∀ g, g ≠ sb → (w5.setCell ⟨sb, 0, none⟩ v').heap[g]? = w5.heap[g]? := fun g hgs => Below.heap_setCell _ _ _ _ (by simpa using hgs)
  have e1 : newL L F p = L ++ [p] := by unfold newL; rw [hF]; rfl
  have e2 : newF F p q = updF F p q := by unfold newF; rw [hF]; rfl
  refine ⟨rfl, v', ?_, ?_, ?_⟩
  · rw [e1, e2]
    refine ⟨?_, own_congr (PRow.snoc (a := p.1) (b := p.2) hown) fun g hg' => hset g fun e => own_ne_box hown (e ▸ hb5) (by decide) hg', ?_, h.sbl, h.mbl⟩
    · simp [World.setCell, Array.getElem?_modify, hb5]
    · rw [List.length_append]
      exact ((hM.alloc X).drew.kept (hg5.block mb (by simp; omega) (fun e => h.nem e.symm))).setCell (fun e => h.ne e.symm) _
  · refine KB.setCell ((((KB.of_below hb).drew.grown hg fun k e => ?_).alloc X).drew.grown hg5 fun k e => .inl (.inr (.inr e))) (.inl (.inl rfl)) _
    cases e; exact .inl (.inr (.inl rfl))
  · rcases hv with hv | hv
    · exact .inl hv
    · exact .inr ⟨_, hv, by simp; omega⟩
end Go.Proofs.YtdjgkmpjhpnkeaaGreatDoor
namespace Go.Proofs.YtdjgkmpjhpnkeaaGreatDoor
open Go.RowKit Go.Maps
def SortPost (base : Nat) (v : Value) (ps : List PP) (w : World) (e : Ending) (w' : World) : Prop :=
  e = .returned (.tuple #[]) ∧ ∃ ps' : List PP, ps'.Perm ps ∧ ps'.Pairwise (fun a b => ¬ plt b a) ∧ PRow base w' v ps' ∧ KB (fun g => v.ownBlock = some g) w w'
def SortOk : Prop := ∀ (base : Nat) (v : Value) (ps : List PP) (w : World), PRow base w v ps → ps.length ≤ 100000 →
  Calls Tryz.prog 139 #[v, .func (.func 140) #[] #[]] w (SortPost base v ps w)
def RevPost (base : Nat) (v : Value) (ps : List PP) (w : World) (e : Ending) (w' : World) : Prop :=
  e = .returned (.tuple #[]) ∧ PRow base w' v ps.reverse ∧ KB (fun g => v.ownBlock = some g) w w'
end Go.Proofs.YtdjgkmpjhpnkeaaGreatDoor
