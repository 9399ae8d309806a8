/- The plain law of ResolveOne: what the resolution's answer says of all symbols of a name. No program in sight. -/
import Derived.Test.YteekdjlpfgkgjaaDoorPlainRes
namespace Go.Proofs.YteekdjlpfgkgjaaDoor
def cntBy (l : List Spot) (n : List UInt8) (b : Int) : Nat := (l.filter (hits n b)).length
def ownIn (l : List Spot) (i : Nat) (n : List UInt8) : Bool := l.any fun x => hits n 0 x && decide (x.obj = i)
theorem cntBy_snoc (l : List Spot) (x : Spot) (n : List UInt8) (b : Int) : cntBy (l ++ [x]) n b = cntBy l n b + if hits n b x then 1 else 0 := by
  unfold cntBy
  rw [List.filter_append, List.length_append]
  by_cases h : hits n b x <;> simp [h]
theorem ownIn_snoc (l : List Spot) (x : Spot) (i : Nat) (n : List UInt8) : ownIn (l ++ [x]) i n = (ownIn l i n || (hits n 0 x && decide (x.obj = i))) := by simp [ownIn]
theorem cnt_zero {l : List Spot} {n : List UInt8} {b : Int} (h : firstBy l n b = none) : cntBy l n b = 0 := by
  unfold firstBy at h
  simp only [Option.map_eq_none_iff, List.find?_eq_none] at h
  unfold cntBy
  rw [List.filter_eq_nil_iff.2 (fun x hx => h x hx)]; rfl
theorem cnt_pos {l : List Spot} {n : List UInt8} {b : Int} {p : Nat × Nat} (h : firstBy l n b = some p) : 0 < cntBy l n b := by
  unfold firstBy at h
  simp only [Option.map_eq_some_iff] at h
  obtain ⟨x, hx, _⟩ := h
  have h1 := List.mem_of_find?_eq_some hx
  have h2 := List.find?_some hx
  unfold cntBy
  exact List.length_pos_of_mem (List.mem_filter.2 ⟨h1, h2⟩)
/-- no strong one twice: at most one of a name -/
theorem cnt_of_dup (n : List UInt8) : ∀ (rest pre : List Spot), dupGo pre rest = none → cntBy pre n 1 ≤ 1 → cntBy (pre ++ rest) n 1 ≤ 1
  | [], pre, _, h => by simpa using h
  | x :: r, pre, hd, h => by
    unfold dupGo at hd
    split at hd
    · cases hd
    · rename_i hno
      have := cnt_of_dup n r (pre ++ [x]) hd (by
        rw [cntBy_snoc]
        by_cases hx : hits n 1 x = true
        · rw [if_pos hx]
          have hx' := hx
          simp only [hits, Bool.and_eq_true, beq_iff_eq, decide_eq_true_eq] at hx'
          have hf : (firstBy pre n 1).isSome = false := by
            rw [← hx'.1]
            cases h3 : (firstBy pre x.it.name.data.toList 1).isSome with
            | false => rfl
            | true => exact absurd ⟨hx'.2, h3⟩ hno
          rw [cnt_zero (by simpa using hf)]; omega
        · rw [if_neg hx]; omega)
      simpa using this
theorem symsFrom_mem (i : Nat) : ∀ (k : Nat) (l : List GSym) (x : Spot), x ∈ symsFrom i k l → x.obj = i ∧ k ≤ x.sym ∧ l[x.sym - k]? = some x.it
  | k, [], x, h => by simp [symsFrom] at h
  | k, s :: r, x, h => by
    simp only [symsFrom, List.mem_cons] at h
    rcases h with rfl | h
    · simp
    · obtain ⟨h1, h2, h3⟩ := symsFrom_mem i (k + 1) r x h
      refine ⟨h1, by omega, ?_⟩
      rw [show x.sym - k = (x.sym - (k + 1)) + 1 by omega, List.getElem?_cons_succ]; exact h3
theorem symsFrom_of_get (i : Nat) : ∀ (k : Nat) (l : List GSym) (j : Nat) (s : GSym), l[j]? = some s → (⟨i, k + j, s⟩ : Spot) ∈ symsFrom i k l
  | k, [], j, s, h => by simp at h
  | k, a :: r, 0, s, h => by simp at h; subst h; simp [symsFrom]
  | k, a :: r, j + 1, s, h => by
    simp only [symsFrom, List.mem_cons]
    right
    have := symsFrom_of_get i (k + 1) r j s (by simpa using h)
    rwa [show k + 1 + j = k + (j + 1) by omega] at this
theorem objsFrom_mem : ∀ (i : Nat) (l : List GObj) (x : Spot), x ∈ objsFrom i l → i ≤ x.obj ∧ ∃ o, l[x.obj - i]? = some o ∧ o.syms[x.sym]? = some x.it
  | i, [], x, h => by simp [objsFrom] at h
  | i, o :: r, x, h => by
    simp only [objsFrom, List.mem_append] at h
    rcases h with h | h
    · obtain ⟨h1, _, h3⟩ := symsFrom_mem i 0 o.syms x h
      exact ⟨by omega, o, by simp [h1], by simpa using h3⟩
    · obtain ⟨h1, o', h2, h3⟩ := objsFrom_mem (i + 1) r x h
      refine ⟨by omega, o', ?_, h3⟩
      rw [show x.obj - i = (x.obj - (i + 1)) + 1 by omega, List.getElem?_cons_succ]; exact h2
theorem objsFrom_of_get : ∀ (i : Nat) (l : List GObj) (j : Nat) (o : GObj) (k : Nat) (s : GSym), l[j]? = some o → o.syms[k]? = some s → (⟨i + j, k, s⟩ : Spot) ∈ objsFrom i l
  | i, [], j, o, k, s, h, _ => by simp at h
  | i, a :: r, 0, o, k, s, h, h2 => by
    simp at h; subst h
    simp only [objsFrom, List.mem_append]
    left
    have := symsFrom_of_get i 0 a.syms k s h2
    simpa using this
  | i, a :: r, j + 1, o, k, s, h, h2 => by
    simp only [objsFrom, List.mem_append]
    right
    have := objsFrom_of_get (i + 1) r j o k s (by simpa using h) h2
    rwa [show i + 1 + j = i + (j + 1) by omega] at this
theorem flat_mem {l : List GObj} {x : Spot} (h : x ∈ flat l) : ∃ o, l[x.obj]? = some o ∧ o.syms[x.sym]? = some x.it := by
  obtain ⟨_, o, h1, h2⟩ := objsFrom_mem 0 l x h
  exact ⟨o, by simpa using h1, h2⟩
theorem mem_flat {l : List GObj} {j k : Nat} {o : GObj} {s : GSym} (h : l[j]? = some o) (h2 : o.syms[k]? = some s) : (⟨j, k, s⟩ : Spot) ∈ flat l := by
  have := objsFrom_of_get 0 l j o k s h h2
  simpa [flat] using this
theorem firstBy_mem {l : List GObj} {n : List UInt8} {b : Int} {p : Nat × Nat} (h : firstBy (flat l) n b = some p) : ∃ o s, l[p.1]? = some o ∧ o.syms[p.2]? = some s ∧ s.name.data.toList = n ∧ s.bind = b := by
  unfold firstBy at h
  simp only [Option.map_eq_some_iff] at h
  obtain ⟨x, hx, rfl⟩ := h
  obtain ⟨o, h1, h2⟩ := flat_mem (List.mem_of_find?_eq_some hx)
  have h3 := List.find?_some hx
  simp only [hits, Bool.and_eq_true, beq_iff_eq, decide_eq_true_eq] at h3
  exact ⟨o, x.it, h1, h2, h3.1, h3.2⟩
theorem localAt_own {l : List GObj} {i : Nat} {n : List UInt8} (hi : i < l.length) : (localAt l i n).isSome = ownIn (flat l) i n := by
  rw [Bool.eq_iff_iff]
  unfold localAt ownIn
  rw [List.getElem?_eq_getElem hi]
  simp only [Option.isSome_map, List.findIdx?_isSome, List.any_eq_true, Bool.and_eq_true, decide_eq_true_eq]
  constructor
  · rintro ⟨s, hs, hl⟩
    obtain ⟨k, hk, rfl⟩ := List.mem_iff_getElem.1 hs
    refine ⟨⟨i, k, l[i].syms[k]⟩, mem_flat (List.getElem?_eq_getElem hi) (List.getElem?_eq_getElem hk), ?_, rfl⟩
    simpa [isLocal, hits] using hl
  · rintro ⟨x, hx, hh, rfl⟩
    obtain ⟨o, h1, h2⟩ := flat_mem hx
    rw [List.getElem?_eq_getElem hi] at h1
    cases h1
    exact ⟨x.it, List.mem_of_getElem? h2, by simpa [isLocal, hits] using hh⟩
theorem localAt_some {l : List GObj} {i : Nat} {n : List UInt8} {p : Nat × Nat} (h : localAt l i n = some p) : p.1 = i ∧ ∃ o s, l[i]? = some o ∧ o.syms[p.2]? = some s ∧ s.name.data.toList = n ∧ s.bind = 0 := by
  unfold localAt at h
  cases hl : l[i]? with
  | none => rw [hl] at h; cases h
  | some o =>
    rw [hl] at h
    simp only [Option.map_eq_some_iff] at h
    obtain ⟨k, hk, rfl⟩ := h
    rw [List.findIdx?_eq_some_iff_getElem] at hk
    obtain ⟨hk1, hk2, _⟩ := hk
    simp only [isLocal, Bool.and_eq_true, beq_iff_eq, decide_eq_true_eq] at hk2
    exact ⟨rfl, o, o.syms[k], rfl, List.getElem?_eq_getElem hk1, hk2.1, hk2.2⟩
/-- which bind the found symbol must have -/
def wantB (own : Bool) (strong : Nat) : Int := if own then 0 else if 0 < strong then 1 else 2
theorem beginR_zero {l : List GObj} (h : (beginR l).2 = 0) : mayAll l = true ∧ dupGo [] (flat l) = none := by
  unfold beginR at h
  split at h
  · rename_i hm
    refine ⟨hm, ?_⟩
    cases hd : dupGo [] (flat l) with
    | none => rfl
    | some n => rw [hd] at h; cases h
  · cases h
theorem findAll_code {l : List GObj} {i : Nat} {n : List UInt8} (hi : i < l.length) : ((findAll l i n).2 = 2 ∨ (findAll l i n).2 = 120) ∨
    (findAll l i n = ((0, 0), 121) ∧ (beginR l).2 = 0 ∧ findR l i n = none) ∨ (∃ p, findAll l i n = (p, 0) ∧ (beginR l).2 = 0 ∧ findR l i n = some p) := by
  unfold findAll
  by_cases h0 : (beginR l).2 = 0
  · rw [if_neg (by simp [h0]), if_neg (by omega)]
    cases hf : findR l i n with
    | none => exact .inr (.inl ⟨rfl, h0, rfl⟩)
    | some p => exact .inr (.inr ⟨p, rfl, h0, rfl⟩)
  · rw [if_pos (by simpa using h0)]
    left
    simp only
    unfold beginR at h0 ⊢
    split
    · split
      · right; rfl
      · simp_all
    · left; rfl
theorem one_undef {l : List GObj} {i : Nat} {n : List UInt8} (hi : i < l.length) (hf : findR l i n = none) : cntBy (flat l) n 1 = 0 ∧ cntBy (flat l) n 2 = 0 ∧ ownIn (flat l) i n = false := by
  unfold findR at hf
  rw [if_pos (by omega), Int.toNat_natCast] at hf
  cases hl : localAt l i n with
  | some p => rw [hl] at hf; cases hf
  | none =>
    rw [hl] at hf
    simp only at hf
    unfold winnerIn at hf
    cases h1 : firstBy (flat l) n 1 with
    | some p => rw [h1] at hf; cases hf
    | none =>
      rw [h1] at hf
      exact ⟨cnt_zero h1, cnt_zero hf, by rw [← localAt_own hi, hl]; rfl⟩
theorem one_ok {l : List GObj} {i : Nat} {n : List UInt8} {p : Nat × Nat} (hi : i < l.length) (h0 : (beginR l).2 = 0) (hf : findR l i n = some p) :
    ∃ o s, l[p.1]? = some o ∧ o.syms[p.2]? = some s ∧ s.name.data.toList = n ∧ s.bind = wantB (ownIn (flat l) i n) (cntBy (flat l) n 1) ∧ cntBy (flat l) n 1 ≤ 1 ∧ (ownIn (flat l) i n = true → p.1 = i) := by
  have hc : cntBy (flat l) n 1 ≤ 1 := by
    have := cnt_of_dup n (flat l) [] (beginR_zero h0).2 (by simp [cntBy])
    simpa using this
  unfold findR at hf
  rw [if_pos (by omega), Int.toNat_natCast] at hf
  cases hl : localAt l i n with
  | some q =>
    rw [hl] at hf
    simp only [Option.some.injEq] at hf
    subst hf
    obtain ⟨h1, o, s, h2, h3, h4, h5⟩ := localAt_some hl
    have hown : ownIn (flat l) i n = true := by rw [← localAt_own hi, hl]; rfl
    exact ⟨o, s, by rw [h1]; exact h2, h3, h4, by rw [hown]; simpa [wantB] using h5, hc, fun _ => h1⟩
  | none =>
    rw [hl] at hf
    have hown : ownIn (flat l) i n = false := by rw [← localAt_own hi, hl]; rfl
    simp only [winnerIn] at hf
    cases h1 : firstBy (flat l) n 1 with
    | some q =>
      rw [h1] at hf
      simp only [Option.some.injEq] at hf
      subst hf
      obtain ⟨o, s, h2, h3, h4, h5⟩ := firstBy_mem h1
      have hp := cnt_pos h1
      exact ⟨o, s, h2, h3, h4, by rw [hown]; simpa [wantB, hp] using h5, hc, fun h => by rw [hown] at h; cases h⟩
    | none =>
      rw [h1] at hf
      obtain ⟨o, s, h2, h3, h4, h5⟩ := firstBy_mem hf
      have hp := cnt_zero h1
      exact ⟨o, s, h2, h3, h4, by rw [hown]; simpa [wantB, hp] using h5, hc, fun h => by rw [hown] at h; cases h⟩
end Go.Proofs.YteekdjlpfgkgjaaDoor
