/- What is kept of what is left, in plain Lean. No program in sight. -/
import Derived.Test.YtnhmbflinbfeoaaDoorWKept2
namespace Go.Proofs.YtnhmbflinbfeoaaDoor
open Go.RowKit
theorem kept_valid {l : List GObj} {nm : ByteArray} {q : PP} {K : List PP} (h : KeptYes l nm q K) : ∀ x ∈ K, validP l x := fun x hx => ((h.2.2.1.2 x).1 hx).valid (findR_valid h.2.1)
theorem kept_where {l : List GObj} {nm : ByteArray} {q : PP} {K : List PP} (h : KeptYes l nm q K) : whereOf K (flat l) = K.map (newP K) := whereOf_all h.2.2.1.1 (kept_valid h)
theorem valid_sub {K : List PP} {l : List GObj} {x : PP} (hv : validP l x) (hk : x ∈ K) : validP (subO K 0 l) (newP K x) := by
  obtain ⟨o, s, h1, h2⟩ := hv
  have h3 : (subO K 0 l)[(newP K x).1]? = some ⟨o.name, subS K x.1 0 o.syms⟩ := by
    show (subO K 0 l)[x.1]? = _
    rw [subO_get, h1]; simp
  have h4 := subS_get (K := K) (i := x.1) o.syms 0 x.2 s h2 (by simpa using hk)
  have h5 : newK K x.1 0 = 0 := by simp [newK]
  rw [Nat.zero_add, h5, Nat.sub_zero] at h4
  exact ⟨_, s, h3, h4⟩
theorem refsV_of {l : List GObj} {x : PP} (hc : (beginR l).2 = 0) (hv : validP l x) : refsV (beginR l) l x.1 x.2 = refsGo l x.1 [] (relsAt l x.1 x.2) := by
  have hh : hasR l x.1 x.2 = true := by
    obtain ⟨o, s, h1, h2⟩ := hv
    have h3 := (List.getElem?_eq_some_iff.1 h2).1
    unfold hasR
    simp [h1, h3]
  unfold refsV
  rw [if_neg (by simpa using hc), if_pos hh, Int.toNat_natCast, Int.toNat_natCast]
theorem less_refs {l : List GObj} {nm : ByteArray} {q : PP} {K : List PP} (h : KeptYes l nm q K) {x : PP} (hx : x ∈ K) :
    (refsV (beginR (subO K 0 l)) (subO K 0 l) (newP K x).1 (newP K x).2).1 = (refsV (beginR l) l x.1 x.2).1.map (newP K) ∧ refsC (subO K 0 l) (newP K x) = 0 := by
  have hv := kept_valid h x hx
  have hr := h.2.2.2 x hx
  unfold refsC at hr ⊢
  rw [refsV_of h.1 hv] at hr ⊢
  rw [refsV_of (begin_sub h.1) (valid_sub hv hx), relsAt_sub hv hx]
  obtain ⟨⟨ps, n, c⟩, he⟩ : ∃ r, refsGo l x.1 [] (relsAt l x.1 x.2) = r := ⟨_, rfl⟩
  rw [he] at hr ⊢
  simp only [] at hr
  subst hr
  have := refs_sub (K := K) he fun y hy z hz => (h.2.2.1.2 z).2 (.step ((h.2.2.1.2 x).1 hx) ⟨y, hy, hz⟩)
  have e : ((newP K x).1 : Int) = (x.1 : Int) := rfl
  rw [e]
  rw [List.map_nil] at this
  rw [this]
  exact ⟨rfl, rfl⟩
theorem less_yes {l : List GObj} {nm : ByteArray} {q : PP} {K : List PP} (h : KeptYes l nm q K) : KeptYes (subO K 0 l) nm (newP K q) (K.map (newP K)) := by
  have hq : q ∈ K := (h.2.2.1.2 q).2 .refl
  refine ⟨begin_sub h.1, findR_sub h.2.1 hq, h.2.2.1.sub (findR_valid h.2.1), fun x' hx' => ?_⟩
  obtain ⟨x, hx, rfl⟩ := List.mem_map.1 hx'
  exact (less_refs h hx).2
theorem less_kept {l : List GObj} {nm : ByteArray} {q : PP} {K : List PP} (h : KeptYes l nm q K) {w w' : World} {e : Ending} (hp : KeptPost (subO K 0 l) nm w e w') :
    (∃ vo, RowAt 2 PlaceR w' vo (K.map (newP K)) ∧ e = .returned (.tuple #[vo, .string ⟨#[]⟩, .int .i64 0])) ∧ Below w.heap.size w w' := by
  have hy := less_yes h
  refine ⟨?_, hp.2⟩
  rcases hp.1 with ⟨p, K', vo, h1, h2, rfl⟩ | ⟨n, c, hc, rfl, hn⟩
  · have e1 : p = newP K q := Option.some.inj (h1.2.1.symm.trans hy.2.1)
    subst e1
    rw [h1.2.2.1.eq hy.2.2.1] at h2
    exact ⟨vo, h2, rfl⟩
  · exfalso
    rcases hn with h1 | ⟨h1, -⟩ | ⟨p, K', x, h1, h2, h3, h4⟩
    · exact h1 hy.1
    · rw [hy.2.1] at h1; cases h1
    · rw [hy.2.1] at h1
      obtain rfl := Option.some.inj h1
      rw [h2.eq hy.2.2.1] at h3
      exact h4 (hy.2.2.2 x h3)
theorem subO_mem {K : List PP} : ∀ (l : List GObj) (j : Nat), ∀ o ∈ subO K j l, ∃ o' ∈ l, o.name = o'.name ∧ o.syms.length ≤ o'.syms.length
  | [], _, o, ho => by cases ho
  | x :: r, j, o, ho => by
    rw [subO] at ho
    rcases List.mem_cons.1 ho with rfl | ho
    · exact ⟨x, List.mem_cons_self, rfl, subS_len x.syms 0⟩
    · obtain ⟨o', h1, h2⟩ := subO_mem r (j + 1) o ho
      exact ⟨o', List.mem_cons_of_mem _ h1, h2⟩
end Go.Proofs.YtnhmbflinbfeoaaDoor
