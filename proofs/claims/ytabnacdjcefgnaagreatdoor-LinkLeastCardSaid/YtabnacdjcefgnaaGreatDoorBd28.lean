/- What is kept of what is left, in plain Lean. No program in sight. What an image that is linked has, and why one is not (layer 18), in plain words. No program in sight. Why an image of what is kept is not linked, and that the full one's manifest covers its (layer 18), in plain words. No program in sight. The walks of demand.covers and of the closures about it. The walks of demand.Notes and demand.Covers. -/
import Derived.Test.YtabnacdjcefgnaaGreatDoorBd22
import Derived.Test.YtabnacdjcefgnaaGreatDoorBd27
import Derived.Test.YtabnacdjcefgnaaGreatDoorBd25
namespace Go.Proofs.YtabnacdjcefgnaaGreatDoor
open Go.RowKit
theorem kept_valid {l : List GObj} {nm : ByteArray} {q : PP} {K : List PP} (h : KeptYes l nm q K) : ∀ x ∈ K, validP l x := fun x hx => ((h.2.2.1.2 x).1 hx).valid (findR_valid h.2.1)
theorem kept_where {l : List GObj} {nm : ByteArray} {q : PP} {K : List PP} (h : KeptYes l nm q K) : whereOf K (flat l) = K.map (newP K) := whereOf_all h.2.2.1.1 (kept_valid h)
theorem valid_sub {K : List PP} {l : List GObj} {x : PP} (hv : validP l x) (hk : x ∈ K) : validP (subO K 0 l) (newP K x) := by
  obtain ⟨o, s, h1, h2⟩ := hv
  have h3 : (subO K 0 l)[(newP K x).1]? = some ⟨o.name, subS K x.1 0 o.syms⟩ := by
    show (subO K 0 l)[x.1]? = _
    rw [subO_get, h1]; simp
  have h4 := subS_get (K := K) (i := x.1) o.syms 0 x.2 s h2 (by simpa using hk)
  have h5 : newK K x.1 0 = 0 := by simp [newK]
  rw [Nat.zero_add, h5, Nat.sub_zero] at h4
  exact ⟨_, s, h3, h4⟩
theorem refsV_of {l : List GObj} {x : PP} (hc : (beginR l).2 = 0) (hv : validP l x) : refsV (beginR l) l x.1 x.2 = refsGo l x.1 [] (relsAt l x.1 x.2) := by
  have hh : hasR l x.1 x.2 = true := by
    obtain ⟨o, s, h1, h2⟩ := hv
    have h3 := (List.getElem?_eq_some_iff.1 h2).1
    unfold hasR
    simp [h1, h3]
  unfold refsV
  rw [if_neg (by simpa using hc), if_pos hh, Int.toNat_natCast, Int.toNat_natCast]
theorem less_refs {l : List GObj} {nm : ByteArray} {q : PP} {K : List PP} (h : KeptYes l nm q K) {x : PP} (hx : x ∈ K) :
    (refsV (beginR (subO K 0 l)) (subO K 0 l) (newP K x).1 (newP K x).2).1 = (refsV (beginR l) l x.1 x.2).1.map (newP K) ∧ refsC (subO K 0 l) (newP K x) = 0 := by
  have hv := kept_valid h x hx
  have hr := h.2.2.2 x hx
  unfold refsC at hr ⊢
  rw [refsV_of h.1 hv] at hr ⊢
  rw [refsV_of (begin_sub h.1) (valid_sub hv hx), relsAt_sub hv hx]
  obtain ⟨⟨ps, n, c⟩, he⟩ : ∃ r, refsGo l x.1 [] (relsAt l x.1 x.2) = r := ⟨_, rfl⟩
  rw [he] at hr ⊢
  simp only [] at hr
  subst hr
  have := refs_sub (K := K) he fun y hy z hz => (h.2.2.1.2 z).2 (.step ((h.2.2.1.2 x).1 hx) ⟨y, hy, hz⟩)
  have e : ((newP K x).1 : Int) = (x.1 : Int) := rfl
  rw [e]
  rw [List.map_nil] at this
  rw [this]
  exact ⟨rfl, rfl⟩
theorem less_yes {l : List GObj} {nm : ByteArray} {q : PP} {K : List PP} (h : KeptYes l nm q K) : KeptYes (subO K 0 l) nm (newP K q) (K.map (newP K)) := by
  have hq : q ∈ K := (h.2.2.1.2 q).2 .refl
  refine ⟨begin_sub h.1, findR_sub h.2.1 hq, h.2.2.1.sub (findR_valid h.2.1), fun x' hx' => ?_⟩
  obtain ⟨x, hx, rfl⟩ := List.mem_map.1 hx'
  exact (less_refs h hx).2
theorem less_kept {l : List GObj} {nm : ByteArray} {q : PP} {K : List PP} (h : KeptYes l nm q K) {w w' : World} {e : Ending} (hp : KeptPost (subO K 0 l) nm w e w') :
    (∃ vo, RowAt 2 PlaceR w' vo (K.map (newP K)) ∧ e = .returned (.tuple #[vo, .string ⟨#[]⟩, .int .i64 0])) ∧ Below w.heap.size w w' := by
  have hy := less_yes h
  refine ⟨?_, hp.2⟩
  rcases hp.1 with ⟨p, K', vo, h1, h2, rfl⟩ | ⟨n, c, hc, rfl, hn⟩
  · have e1 : p = newP K q := Option.some.inj (h1.2.1.symm.trans hy.2.1)
    subst e1
    rw [h1.2.2.1.eq hy.2.2.1] at h2
    exact ⟨vo, h2, rfl⟩
  · exfalso
    rcases hn with h1 | ⟨h1, -⟩ | ⟨p, K', x, h1, h2, h3, h4⟩
    · exact h1 hy.1
    · rw [hy.2.1] at h1; cases h1
    · rw [hy.2.1] at h1
      obtain rfl := Option.some.inj h1
      rw [h2.eq hy.2.2.1] at h3
      exact h4 (hy.2.2.2 x h3)
theorem subO_mem {K : List PP} : ∀ (l : List GObj) (j : Nat), ∀ o ∈ subO K j l, ∃ o' ∈ l, o.name = o'.name ∧ o.syms.length ≤ o'.syms.length
  | [], _, o, ho => by cases ho
  | x :: r, j, o, ho => by
    rw [subO] at ho
    rcases List.mem_cons.1 ho with rfl | ho
    · exact ⟨x, List.mem_cons_self, rfl, subS_len x.syms 0⟩
    · obtain ⟨o', h1, h2⟩ := subO_mem r (j + 1) o ho
      exact ⟨o', List.mem_cons_of_mem _ h1, h2⟩
end Go.Proofs.YtabnacdjcefgnaaGreatDoor
namespace Go.Proofs.YtabnacdjcefgnaaGreatDoor
def ObjNotes (l : List GObj) : Prop := ∀ o ∈ l, ∀ s ∈ o.syms, ∀ x ∈ s.notes, NoteNum x
theorem objNotes_of {w : World} {v : Value} {l : List GObj} (h : ObjsAt w v l) : ObjNotes l := by
  obtain ⟨p, cap, b, o, -, -, -, -, hc⟩ := h
  intro ob hob s hs
  obtain ⟨i, hi, rfl⟩ := List.getElem_of_mem hob
  obtain ⟨vs, -, -, -, ⟨_, _, b2, o2, -, -, -, -, hc2⟩, -⟩ := hc i hi
  obtain ⟨k, hk, rfl⟩ := List.getElem_of_mem hs
  obtain ⟨vr, vn, -, -, -, -, -, -, -, -, hin⟩ := hc2 k hk
  exact row_num hin.2.1
theorem notesOf_num {l : List GObj} (h : ObjNotes l) {ps : List GP} : ∀ x ∈ notesOf l ps, NoteNum x := by
  intro x hx
  unfold notesOf at hx
  obtain ⟨p, -, hx⟩ := List.mem_flatMap.1 hx
  cases hs : symAt l p with
  | none => rw [hs] at hx; cases hx
  | some s =>
    rw [hs] at hx
    obtain ⟨o, ho, hso⟩ := mem_sym hs
    exact h o ho s hso x hx
theorem notesOf_sub {l : List GObj} {ps qs : List GP} (h : ∀ p ∈ ps, p ∈ qs) : ∀ x ∈ notesOf l ps, x ∈ notesOf l qs := by
  intro x hx
  obtain ⟨p, hp, hx⟩ := List.mem_flatMap.1 hx
  exact List.mem_flatMap.2 ⟨p, h p hp, hx⟩
theorem linkR_zero {l : List GObj} {nm : ByteArray} {m : PP} {ps : List GP} (hz : (linkR l nm m ps).2.2 = 0) :
    ∃ wh sp f fn, layOf l ps = (wh, sp, 0) ∧ closedB l ps (toG m) = true ∧ kindAt l (toG m) = 1 ∧ fillGo l wh ps wh zeros18 = (f, fn, 0) ∧ (demandR (notesOf l ps)).2 = 0 ∧
      linkR l nm m ps = (⟨(demandR (notesOf l ps)).1, (layFind wh (toG m)).1, sp.map (segOf f), wh⟩, emptyB, 0) := by
  obtain ⟨⟨wh, sp, lc⟩, hlay⟩ : ∃ r, layOf l ps = r := ⟨_, rfl⟩
  unfold linkR at hz ⊢
  rw [hlay] at hz ⊢
  simp only [] at hz ⊢
  split at hz
  · simp at hz
  · rename_i h1
    rw [if_neg h1]
    split at hz
    · simp at hz
    · rename_i h2
      rw [if_neg h2]
      split at hz
      · rename_i h3; exact absurd hz h3
      · rename_i h3
        rw [if_neg h3]
        have hlc : lc = 0 := by simpa using h3
        subst hlc
        have hcl : closedB l ps (toG m) = true := by
          cases hcb : closedB l ps (toG m) with
          | true => rfl
          | false => exact absurd (.inr hcb) h1
        obtain ⟨⟨f, fn, fc⟩, hfg⟩ : ∃ r, fillGo l wh ps wh zeros18 = r := ⟨_, rfl⟩
        rw [hfg] at hz ⊢
        unfold linkEnd at hz ⊢
        simp only [] at hz ⊢
        split at hz
        · rename_i h4; exact absurd hz h4
        · rename_i h4
          rw [if_neg h4]
          have hfc : fc = 0 := by simpa using h4
          subst hfc
          split at hz
          · rename_i h5; exact absurd hz h5
          · rename_i h5
            rw [if_neg h5]
            exact ⟨wh, sp, f, fn, rfl, hcl, by simpa using h2, hfg, by simpa using h5, rfl⟩
theorem linkR_bad {l : List GObj} {nm : ByteArray} {m : PP} {ps : List GP} (hz : (linkR l nm m ps).2.2 ≠ 0) : (linkR l nm m ps).1 = link0 := by
  unfold linkR at hz ⊢
  split
  · rfl
  · rename_i h1
    rw [if_neg h1] at hz
    split
    · rfl
    · rename_i h2
      rw [if_neg h2] at hz
      split
      · rfl
      · rename_i h3
        rw [if_neg h3] at hz
        unfold linkEnd at hz ⊢
        split
        · rfl
        · rename_i h4
          rw [if_neg h4] at hz
          split
          · rfl
          · rename_i h5
            rw [if_neg h5] at hz
            exact absurd rfl hz
theorem code_size {l : List GObj} {p : GP} {s : GSym} (hm : mayAll l = true) (hb : s.bytes.size < 4294967296) (h : symAt l p = some s) (hk : s.kind = 1) : s.size % 8 = 0 := by
  have h1 := may_symOk hm h
  simp only [symOkP, sizedOk, sizedB, Bool.and_eq_true, Bool.or_eq_true, decide_eq_true_eq] at h1
  have h2 := h1.1.1.1.2.2
  have h3 : len32 s.bytes = s.bytes.size := by unfold len32; omega
  rw [h3] at h2
  omega
theorem find_place {l : List GObj} {ps : List GP} {wh : List GAddr} {sp : List GSpan} (hl : Laid l ps wh sp) {q : GP} (hq : q ∈ ps) : ∃ i, ∃ hi : i < ps.length, ps[i] = q ∧ (layFind wh q).1 = (aAt wh i).at_ := by
  have h1 := find_in hl hq
  unfold layFind at h1 ⊢
  cases hf : wh.find? (fun a => decide (a.obj = q.1) && decide (a.sym = q.2)) with
  | none => rw [hf] at h1; simp at h1
  | some a =>
    obtain ⟨i, hi, hia⟩ := List.getElem_of_mem (List.mem_of_find?_eq_some hf)
    have h2 := List.find?_some hf
    simp only [Bool.and_eq_true, decide_eq_true_eq] at h2
    have hip : i < ps.length := by rw [← hl.len]; exact hi
    have hp := hl.pl i hip
    have hpa : pAt ps i = ps[i] := by unfold pAt; rw [List.getD_eq_getElem?_getD, List.getElem?_eq_getElem hip]; rfl
    rw [aAt_get hi, hpa, hia] at hp
    exact ⟨i, hip, Prod.ext (hp.1.symm.trans h2.1) (hp.2.symm.trans h2.2), by rw [aAt_get hi, hia]⟩
theorem segEnd_of {f : BL} (hf : f.length = 131072) {x : GSpan} (hx : 0 ≤ x.at_ ∧ 1 ≤ x.size ∧ x.at_ + x.size ≤ 131072) : segEnd (segOf f x) = x.at_ + x.size ∧ (segOf f x).bytes.size = x.size.toNat := by
  have h1 : (segOf f x).bytes.size = x.size.toNat := by
    show (bsOf ((f.drop x.at_.toNat).take x.size.toNat)).size = _
    rw [bsOf_size, List.length_take, List.length_drop, hf]; omega
  refine ⟨?_, h1⟩
  unfold segEnd
  rw [h1]
  show x.at_ + (x.size.toNat : Int) = _
  omega
/-- what is linked may be an image -/
theorem linked_fit {l : List GObj} {nm : ByteArray} {m : PP} {ps : List GP} (hb : mayAll l = true → ∀ o ∈ l, ∀ s ∈ o.syms, s.bytes.size < 4294967296) (hn : ObjNotes l) (hz : (linkR l nm m ps).2.2 = 0) : ImgFit (linkR l nm m ps).1 := by
  obtain ⟨wh, sp, f, fn, hlay, hcl, hk1, hfg, hdm, he⟩ := linkR_zero hz
  rw [he]
  obtain ⟨hm, -⟩ := layOf_zero hlay
  have hl := laid_of hlay
  have hma : mayAll l = true := by simp only [layMay, Bool.and_eq_true] at hm; exact hm.1
  obtain ⟨hup, hsl, hkd⟩ := spans_of hlay
  obtain ⟨hfl, -, -⟩ := fillGo_inv hl hm (hb hma) ps.length 0 zeros18 rfl (Nat.zero_le _) List.length_replicate hfg
  simp only [closedB, Bool.and_eq_true] at hcl
  obtain ⟨i, hi, hpi, hat⟩ := find_place hl (inG_iff.1 hcl.1)
  obtain ⟨s, q1, q2, q3, q4, q5, q6, q7, q8⟩ := may_each hm hi
  have hks : s.kind = 1 := by
    rw [hpi] at q1
    unfold kindAt at hk1
    rw [q1] at hk1
    exact hk1
  obtain ⟨o, ho, hso⟩ := mem_sym q1
  have h8 := code_size hma (hb hma o ho s hso) q1 hks
  have hlo := hl.lo i hi
  obtain ⟨x, hx1, -, hx0, hx2, hx3, hx4⟩ := hl.sp i hi
  rw [q4, hks] at hx1
  rw [q3] at hx3 hlo
  have hxm := List.mem_of_find?_eq_some hx1
  have hxk : x.kind = 1 := by simpa using List.find?_some hx1
  have he8 : ∀ y ∈ sp, segEnd (segOf f y) = y.at_ + y.size ∧ (segOf f y).bytes.size = y.size.toNat := fun y hy => by
    have := hup.each y hy
    exact segEnd_of hfl (by omega)
  refine ⟨demandR_fit (fun y hy => (notesOf_num hn y hy).2.1.1) hdm, ?_, by simpa using (show sp.length ≤ 8 by omega), ?_, fun k hk => ?_, ?_⟩
  · have : 0 < sp.length := List.length_pos_of_mem hxm
    show 1 ≤ (sp.map (segOf f)).length
    rw [List.length_map]; exact this
  · show (layFind wh (toG m)).1 % 8 = 0
    rw [hat]; exact hlo.2.1
  · have hk' : k < sp.length := by simpa using hk
    have e : (sp.map (segOf f))[k] = segOf f sp[k] := by simp
    have hy := hup.each _ (List.getElem_mem hk')
    have hs := he8 _ (List.getElem_mem hk')
    show ((sp.map (segOf f))[k].perm = 1 ∨ _) ∧ _
    rw [e]
    refine ⟨?_, hy.1, ?_, by rw [hs.2]; omega, by rw [hs.1]; omega⟩
    · show permK sp[k].kind = 1 ∨ permK sp[k].kind = 3 ∨ permK sp[k].kind = 5
      rcases hkd _ (List.getElem_mem hk') with h | h | h <;> rw [h] <;> simp [permK]
    · show freeAt (sp.map (segOf f)) k ≤ sp[k].at_
      cases k with
      | zero => exact hy.2.1
      | succ k =>
        have hk2 : k < (sp.map (segOf f)).length := by simp; omega
        rw [freeAt_succ hk2]
        have hk3 : k < sp.length := by omega
        have e2 : (sp.map (segOf f))[k] = segOf f sp[k] := by simp
        rw [e2, (he8 _ (List.getElem_mem hk3)).1]
        have h2 := List.pairwise_iff_getElem.1 hup.up k (k + 1) hk3 hk' (by omega)
        omega
  · show (sp.map (segOf f)).any (begB (layFind wh (toG m)).1) = true
    rw [List.any_eq_true]
    refine ⟨segOf f x, List.mem_map.2 ⟨x, hxm, rfl⟩, ?_⟩
    unfold begB
    rw [(he8 x hxm).1, hat]
    show (decide (permK x.kind = 5) && decide (x.at_ ≤ (aAt wh i).at_) && decide ((aAt wh i).at_ + 8 ≤ x.at_ + x.size)) = true
    rw [hxk]
    simp only [Bool.and_eq_true, decide_eq_true_eq]
    refine ⟨⟨by simp [permK], hx2⟩, by omega⟩
end Go.Proofs.YtabnacdjcefgnaaGreatDoor
namespace Go.Proofs.YtabnacdjcefgnaaGreatDoor
theorem symAt_valid {l : List GObj} {x : PP} (h : validP l x) : ∃ s, symAt l (toG x) = some s := by
  obtain ⟨o, s, h1, h2⟩ := h
  obtain ⟨ha, rfl⟩ := List.getElem?_eq_some_iff.1 h1
  exact ⟨s, by unfold toG; rw [symAt_nat ha]; exact h2⟩
theorem ordP_plt {a b : PP} (h : plt a b) : ordP (toG a) (toG b) = true := by
  unfold plt at h
  unfold ordP toG
  simp only [Bool.not_eq_true', Bool.or_eq_false_iff, Bool.and_eq_false_iff, decide_eq_false_iff_not]
  omega
theorem mayGo_up {l : List GObj} : ∀ (K : List PP) (pr : Option GP), (∀ x ∈ K, validP l x) → K.Pairwise plt → (∀ x ∈ K, ordO pr (toG x) = true) → mayGo l pr (K.map toG) = true
  | [], _, _, _, _ => rfl
  | x :: r, pr, hv, hp, ho => by
    obtain ⟨s, hs⟩ := symAt_valid (hv x List.mem_cons_self)
    rw [List.map_cons, mayGo, hs, ho x List.mem_cons_self]
    have hp' := List.pairwise_cons.1 hp
    exact mayGo_up r (some (toG x)) (fun y hy => hv y (List.mem_cons_of_mem _ hy)) hp'.2 (fun y hy => ordP_plt (hp'.1 y hy))
theorem kept_layMay {l : List GObj} {nm : ByteArray} {p : PP} {K : List PP} (h : KeptYes l nm p K) : layMay l (K.map toG) = true := by
  unfold layMay
  rw [(beginR_zero h.1).1, mayGo_up K none (kept_valid h) h.2.2.1.1 (fun _ _ => rfl)]
  rfl
theorem toG_inj {a b : PP} (h : toG a = toG b) : a = b := by
  unfold toG at h
  simp only [Prod.mk.injEq] at h
  exact Prod.ext (by omega) (by omega)
theorem inG_map {K : List PP} {q : PP} : inG (K.map toG) (toG q) = true ↔ q ∈ K := by
  rw [inG_iff, List.mem_map]
  constructor
  · rintro ⟨a, ha, e⟩; rw [← toG_inj e]; exact ha
  · intro h; exact ⟨q, h, rfl⟩
theorem kept_closedB {l : List GObj} {nm : ByteArray} {p : PP} {K : List PP} (h : KeptYes l nm p K) : closedB l (K.map toG) (toG p) = true := by
  unfold closedB
  rw [inG_map.2 ((h.2.2.1.2 p).2 .refl), Bool.true_and, List.all_eq_true]
  intro g hg
  obtain ⟨x, hx, rfl⟩ := List.mem_map.1 hg
  have hc := h.2.2.2 x hx
  unfold closedP outB
  have hc2 : (refsV (beginR l) l (toG x).1 (toG x).2).2.2 = 0 := hc
  rw [decide_eq_true hc2, Bool.true_and]
  simp only [Bool.not_eq_true', List.any_eq_false]
  intro q hq
  have hk := (refs_know h.1 (kept_valid h x hx) hc q).1 hq
  rw [inG_map.2 ((h.2.2.1.2 q).2 (.step ((h.2.2.1.2 x).1 hx) hk))]
  simp
theorem refsGo_len_eq {l : List GObj} {a : Int} : ∀ (rs : List GRel) (acc : List (Nat × Nat)), (refsGo l a acc rs).2.2 = 0 → (refsGo l a acc rs).1.length = acc.length + rs.length
  | [], acc, _ => by simp [refsGo]
  | x :: r, acc, h => by
    rw [refsGo] at h ⊢
    cases hf : findR l a x.name.data.toList with
    | none => rw [hf] at h; simp at h
    | some p =>
      rw [hf] at h
      have := refsGo_len_eq r (acc ++ [p]) h
      simp at this ⊢
      omega
theorem refs_len_eq {l : List GObj} {p : GP} {s : GSym} (h : symAt l p = some s) (hz : (refsV (beginR l) l p.1 p.2).2.2 = 0) : (refsV (beginR l) l p.1 p.2).1.length = s.rels.length := by
  unfold refsV at hz ⊢
  split
  · rename_i h1; rw [if_pos h1] at hz; exact absurd hz h1
  · rename_i h1
    rw [if_neg h1] at hz
    split
    · rename_i h2
      rw [if_pos h2] at hz
      have := refsGo_len_eq _ _ hz
      rw [relsAt_sym h] at this ⊢
      simpa using this
    · rename_i h2
      rw [if_neg h2] at hz; simp at hz
theorem filledR_code {l : List GObj} {wh : List GAddr} {p : GP} {s : GSym} (hm : mayAll l = true) (h : symAt l p = some s) (hz : (refsV (beginR l) l p.1 p.2).2.2 = 0) : (filledR l wh p s).2 = 0 ∨ (filledR l wh p s).2 = 150 := by
  unfold filledR
  rw [fillR_yes (may_symOk hm h) (by rw [addrsOf_len]; exact refs_len_eq h hz)]
  split
  · exact .inr rfl
  · exact .inl rfl
theorem fillGo_code {l : List GObj} {wh : List GAddr} : ∀ (ps : List GP) (q : List GAddr) (b : BL), (∀ p ∈ ps, ∀ s, symAt l p = some s → (filledR l wh p s).2 = 0 ∨ (filledR l wh p s).2 = 150) → (fillGo l wh ps q b).2.2 = 0 ∨ (fillGo l wh ps q b).2.2 = 150
  | [], q, b, _ => .inl (by cases q <;> rfl)
  | p :: r, [], b, _ => .inl rfl
  | p :: r, a :: q, b, h => by
    rw [fillGo]
    cases hs : symAt l p with
    | none => exact .inl rfl
    | some s =>
      simp only []
      have h1 := h p List.mem_cons_self s hs
      split
      · exact fillGo_code r q _ fun y hy => h y (List.mem_cons_of_mem _ hy)
      · exact h1
theorem notes_ok {l : List GObj} (hm : mayAll l = true) (ps : List GP) : (notesOf l ps).all noteOk = true := by
  rw [List.all_eq_true]
  intro x hx
  obtain ⟨p, -, hx⟩ := List.mem_flatMap.1 hx
  cases hs : symAt l p with
  | none => rw [hs] at hx; cases hx
  | some s =>
    rw [hs] at hx
    have h1 := may_symOk hm hs
    simp only [symOkP, Bool.and_eq_true] at h1
    exact List.all_eq_true.1 h1.2 x hx
theorem demandR_code {l : List GNote} (h : l.all noteOk = true) : (demandR l).2 = 0 ∨ (demandR l).2 = 4 := by
  unfold demandR
  rw [if_pos h]
  unfold gatEnd
  split
  · exact .inr rfl
  · exact .inl rfl
theorem layOf_code {l : List GObj} {ps : List GP} (h : layMay l ps = true) : (layOf l ps).2.2 = 0 ∨ (layOf l ps).2.2 = 140 := by
  unfold layOf
  rw [if_pos h]
  split
  · exact .inl rfl
  · exact .inr rfl
theorem link_codes {l : List GObj} {nm : ByteArray} {p : PP} {K : List PP} (h : KeptYes l nm p K) : (linkR l nm p (K.map toG)).2.2 = 0 ∨ (linkR l nm p (K.map toG)).2.2 = 180 ∨ (linkR l nm p (K.map toG)).2.2 = 140 ∨ (linkR l nm p (K.map toG)).2.2 = 150 ∨ (linkR l nm p (K.map toG)).2.2 = 4 := by
  have hma := (beginR_zero h.1).1
  have hlc := layOf_code (kept_layMay h)
  have hf := fillGo_code (l := l) (wh := (layOf l (K.map toG)).1) (K.map toG) (layOf l (K.map toG)).1 zeros18 (fun g hg s hs => by
    obtain ⟨x, hx, rfl⟩ := List.mem_map.1 hg
    exact filledR_code hma hs (h.2.2.2 x hx))
  have hd := demandR_code (notes_ok hma (K.map toG))
  unfold linkR
  rw [if_neg (by rw [kept_closedB h]; rintro (e | e); omega; cases e)]
  split
  · exact .inr (.inl rfl)
  · split
    · rename_i h2
      rcases hlc with h3 | h3
      · exact absurd h3 h2
      · exact .inr (.inr (.inl h3))
    · unfold linkEnd
      split
      · rename_i h2
        rcases hf with h3 | h3
        · exact absurd h3 h2
        · exact .inr (.inr (.inr (.inl h3)))
      · split
        · rename_i h2
          rcases hd with h3 | h3
          · exact absurd h3 h2
          · exact .inr (.inr (.inr (.inr h3)))
        · exact .inl rfl
theorem full_covers {l : List GObj} {nm : ByteArray} {p q : PP} {K : List PP} (hn : ObjNotes l) (h : KeptYes l nm p K) (h1 : (linkR l nm p (K.map toG)).2.2 = 0) (h2 : (linkR l nm q ((allK l).map toG)).2.2 = 0) :
    ∀ x ∈ notesR (linkR l nm p (K.map toG)).1.man, coversR (linkR l nm q ((allK l).map toG)).1.man x = true := by
  obtain ⟨wh, sp, f, fn, -, -, -, -, d1, e1⟩ := linkR_zero h1
  obtain ⟨wh', sp', f', fn', -, -, -, -, d2, e2⟩ := linkR_zero h2
  rw [e1, e2]
  refine demand_covers (notesOf_sub fun g hg => ?_) (fun y hy => (notesOf_num hn y hy).2.1.1) d1 d2
  obtain ⟨x, hx, rfl⟩ := List.mem_map.1 hg
  exact List.mem_map.2 ⟨x, reach_all h.2.1 ((h.2.2.1.2 x).1 hx), rfl⟩
/-- the addresses of an image are its symbols', in order -/
theorem linked_pl {l : List GObj} {nm : ByteArray} {m : PP} {ps : List GP} (hz : (linkR l nm m ps).2.2 = 0) : (linkR l nm m ps).1.addrs.length = ps.length ∧ ∀ i (h : i < ps.length) (h2 : i < (linkR l nm m ps).1.addrs.length), (linkR l nm m ps).1.addrs[i].obj = ps[i].1 ∧ (linkR l nm m ps).1.addrs[i].sym = ps[i].2 := by
  obtain ⟨wh, sp, f, fn, hlay, -, -, -, -, e1⟩ := linkR_zero hz
  have hl := laid_of hlay
  rw [e1]
  refine ⟨hl.len, fun i h h2 => ?_⟩
  have hp := hl.pl i h
  have hpa : pAt ps i = ps[i] := by unfold pAt; rw [List.getD_eq_getElem?_getD, List.getElem?_eq_getElem h]; rfl
  rw [aAt_get h2, hpa] at hp
  exact hp
end Go.Proofs.YtabnacdjcefgnaaGreatDoor
namespace Go.Proofs.YtabnacdjcefgnaaGreatDoor
open Go.RowKit Go.Maps Go.Shelf
/-- the program's covers at any note -/
def coversW (m : GMan) (x : GNote) : Bool :=
  if x.kind = 1 then decide (x.n ≤ m.pages) else if x.kind = 2 then m.exts.any (fun e => decide (e.1 = x.n) && decide (x.m ≤ e.2)) else if x.kind = 3 then m.ports.any (fun p => decide (x.n % 65536 = p)) else m.cons
set_option maxHeartbeats 400000 in
theorem cov1_any (e : Int × Int) (nb : Nat) (x : GNote) (w : World) (hb : nb < w.heap.size) (h1 : w.cell? ⟨nb, 1, none⟩ = some (.int .u32 x.n)) (h2 : w.cell? ⟨nb, 2, none⟩ = some (.int .u32 x.m)) :
    Calls Tryz.prog 124 #[.agg #[.int .u32 e.1, .int .u32 e.2], .pointer (some ⟨nb, 0, none⟩)] w fun r w' => r = .returned (.bool (decide (e.1 = x.n) && decide (x.m ≤ e.2))) ∧ Below w.heap.size w w' := by
  obtain ⟨a, b⟩ := e
  obtain ⟨xk, xn, xm⟩ := x
  simp only [] at *
  by_cases e1 : a = xn
  · subst e1
    go_enter Tryz.func124, Tryz.ntmps124
    go_wp2
    go_ret
    exact ⟨ret_bool (by simp), alloc_old w _⟩
  · go_enter Tryz.func124, Tryz.ntmps124
    go_wp2
    go_ret
    exact ⟨ret_bool (by simp [e1]), alloc_old w _⟩
theorem eg2 : ∀ args w, (callFunc 124 args).run Tryz.prog w = .ok (.enter 124 args) w := enters_of Tryz.func124 (by kernel_rfl) rfl
set_option maxHeartbeats 1000000 in
theorem covers_any (m : GMan) (ve vp : Value) (x : GNote) (w : World) (h : ManAt w m ve vp) :
    Calls Tryz.prog 70 #[.agg #[.int .u32 m.pages, ve, vp, .bool m.cons], .agg #[.int .u8 x.kind, .int .u32 x.n, .int .u32 x.m]] w fun e w' => e = .returned (.bool (coversW m x)) ∧ Below w.heap.size w w' := by
  obtain ⟨mp, me, mq, mc⟩ := m
  obtain ⟨he, hq, hp0, hp1⟩ := h
  simp only [] at *
  have HE1 : Hid (∀ W nb, Below w.heap.size w W → nb < W.heap.size → W.cell? ⟨nb, 1, none⟩ = some (.int .u32 x.n) → W.cell? ⟨nb, 2, none⟩ = some (.int .u32 x.m) → Calls Tryz.prog 112 #[ve, .func (.func 124) #[] #[.pointer (some ⟨nb, 0, none⟩)]] W fun e w' => e = .returned (.bool (me.any fun e => decide (e.1 = x.n) && decide (x.m ≤ e.2))) ∧ Below W.heap.size W w') := fun W nb hW hb h1 h2 =>
    containsE_any ve me W (fun e => decide (e.1 = x.n) && decide (x.m ≤ e.2)) 124 #[.pointer (some ⟨nb, 0, none⟩)] eg2 (he.keep extR_keeps hW) (fun W' e hb' => (cov1_any e nb x W' (size_keep hb' hb) (cell_keep hb' hb h1) (cell_keep hb' hb h2)).mono fun _ _ ⟨e, hB⟩ => ⟨e, hb'.trans (hB.mono hb'.size)⟩)
  have HE2 : Hid (∀ W, Below w.heap.size w W → Calls Tryz.prog 118 #[vp, .int .u16 (IntKind.u16.wrap x.n)] W fun e w' => e = .returned (.bool (mq.any fun y => decide (x.n % 65536 = y))) ∧ w' = W) := fun W hW => by
    have := contains16_any vp mq (IntKind.u16.wrap x.n) W (hq.keep portR_keeps hW)
    rw [IntKind.wrap_u16] at this ⊢
    exact this
  obtain ⟨p1, c1, b1, o1, rfl, -⟩ := he
  obtain ⟨p2, c2, b2, o2, rfl, -⟩ := hq
  obtain ⟨xk, xn, xm⟩ := x
  simp only [] at *
  unfold coversW
  simp only []
  have HBB : Hid (Below w.heap.size w ((w.alloc (.cells #[.int .u32 mp, .slice p1 me.length c1, .slice p2 mq.length c2, .bool mc] 31)).alloc (.cells #[.int .u8 xk, .int .u32 xn, .int .u32 xm] 141))) := (alloc_old w _).alloc (by simp) _
  have HE1' := Lib.hid (HE1.out _ (w.heap.size + 1) HBB.out (by simp) (by simp [go_sem]) (by simp [go_sem]))
  have HE2' := Lib.hid (HE2.out _ HBB.out)
  clear HE1 HE2
  by_cases k1 : xk = 1
  · subst k1
    go_enter Tryz.func70, Tryz.ntmps70
    go_wp2_with fail
    go_ret
    exact ⟨ret_bool (by simp), HBB.out⟩
  · by_cases k2 : xk = 2
    · subst k2
      go_enter Tryz.func70, Tryz.ntmps70
      go_wp2_with fail
      refine HE1'.out.mono ?_
      rintro e w3 ⟨rfl, hB3⟩
      have HB3 : Hid (Below w.heap.size w w3) := HBB.out.trans (hB3.mono HBB.out.size)
      clear hB3
      go_wp2_with fail
      go_ret
      exact ⟨ret_bool (by simp), HB3.out⟩
    · by_cases k3 : xk = 3
      · subst k3
        go_enter Tryz.func70, Tryz.ntmps70
        go_wp2_with fail
        refine HE2'.out.mono ?_
        rintro e w3 ⟨rfl, rfl⟩
        go_wp2_with fail
        go_ret
        exact ⟨ret_bool (by simp), HBB.out⟩
      · go_enter Tryz.func70, Tryz.ntmps70
        go_wp2_with fail
        go_ret
        exact ⟨ret_bool (by simp), HBB.out⟩
set_option maxHeartbeats 400000 in
theorem cov69_any (m : GMan) (ve vp : Value) (mb : Nat) (x : GNote) (w : World) (h : ManAt w m ve vp) (hb : mb < w.heap.size) (h0 : w.cell? ⟨mb, 0, none⟩ = some (.int .u32 m.pages)) (h1 : w.cell? ⟨mb, 1, none⟩ = some ve) (h2 : w.cell? ⟨mb, 2, none⟩ = some vp) (h3 : w.cell? ⟨mb, 3, none⟩ = some (.bool m.cons)) :
    Calls Tryz.prog 69 #[.agg #[.int .u8 x.kind, .int .u32 x.n, .int .u32 x.m], .pointer (some ⟨mb, 0, none⟩)] w fun e w' => e = .returned (.bool (!coversW m x)) ∧ Below w.heap.size w w' := by
  have HC := Lib.hid (covers_any m ve vp x (w.alloc (.cells #[.int .u8 x.kind, .int .u32 x.n, .int .u32 x.m] 141)) (h.keep (alloc_old w _)))
  generalize coversW m x = c at HC
  obtain ⟨⟨p1, c1, b1, o1, rfl, -⟩, ⟨p2, c2, b2, o2, rfl, -⟩, -⟩ := h
  obtain ⟨mp, me, mq, mc⟩ := m
  obtain ⟨xk, xn, xm⟩ := x
  simp only [] at *
  go_enter Tryz.func69, Tryz.ntmps69
  go_wp2_with fail
  refine HC.out.mono ?_
  rintro e w3 ⟨rfl, hB3⟩
  have HB3 : Hid (Below w.heap.size w w3) := (alloc_old w _).trans (hB3.mono (by simp))
  clear hB3 h0 h1 h2 h3
  go_wp2_with fail
  go_ret
  exact ⟨rfl, HB3.out⟩
theorem eg3 : ∀ args w, (callFunc 69 args).run Tryz.prog w = .ok (.enter 69 args) w := enters_of Tryz.func69 (by kernel_rfl) rfl
instance : Inhabited GNote := ⟨⟨0, 0, 0⟩⟩
set_option maxHeartbeats 400000 in
theorem indexN_nil (a : Option Addr) (c : Nat) (fv : Value) (w : World) : Calls Tryz.prog 123 #[.slice a 0 c, fv] w fun e w' => e = .returned (.int .i64 (-1)) ∧ w' = w := by
  go_enter Tryz.func123, Tryz.ntmps123
  go_wp2
  go_loopw [8] (fun i wr => i = .int .i64 0 ∧ wr = w) (fun _ _ => 0)
  case atStart => exact ⟨rfl, rfl⟩
  case round =>
    obtain ⟨rfl, rfl⟩ := hrel
    go_wp2
    go_ret
    exact ⟨rfl, rfl⟩
set_option maxHeartbeats 400000 in
theorem containsN_nil (a : Option Addr) (c : Nat) (fv : Value) (w : World) : Calls Tryz.prog 67 #[.slice a 0 c, fv] w fun e w' => e = .returned (.bool false) ∧ w' = w := by
  have HI := Lib.hid (indexN_nil a c fv w)
  go_enter Tryz.func67, Tryz.ntmps67
  go_wp2_with (go_at_call 123; refine HI.out.mono ?_; rintro e w1 ⟨rfl, rfl⟩)
  go_ret
  exact ⟨rfl, rfl⟩
theorem containsN_any (v : Value) (l : List GNote) (w : World) (p : GNote → Bool) (g : FuncId) (lb : Array Value) (eg : ∀ args w, (callFunc g args).run Tryz.prog w = .ok (.enter g args) w) (h : RowAt 3 NoteR w v l)
    (hp : ∀ (W : World) (x : GNote), Below w.heap.size w W → Calls Tryz.prog g (#[.agg #[.int .u8 x.kind, .int .u32 x.n, .int .u32 x.m]] ++ lb) W fun e w' => e = .returned (.bool (p x)) ∧ Below w.heap.size w w') :
    Calls Tryz.prog 67 #[v, .func (.func g) #[] lb] w fun e w' => e = .returned (.bool (l.any p)) ∧ Below w.heap.size w w' := by
  obtain ⟨pp, cap, b, o, rfl, hcap, hmax, hpp, hc⟩ := h
  by_cases h0 : l.length = 0
  · obtain rfl : l = [] := List.eq_nil_of_length_eq_zero h0
    refine (containsN_nil pp cap _ w).mono ?_
    rintro e w' ⟨rfl, rfl⟩
    exact ⟨rfl, Below.refl _ _⟩
  · obtain rfl := hpp (by omega)
    have hb := (hc 0 (by omega)).1
    have := Go.Proofs.AnyQ.slices_ContainsFunc Tryz.containsFuncNote 3 Tryz.isAgg141 Tryz.sizeOf141 noteCells (fun _ => rfl) p g lb eg b o l.length cap l w hp (Nat.le_refl _) (by omega) hb (fun j hj i v hv => by
      have e : l[j]! = l[j] := by simp [hj]
      rw [e] at hv
      have hr := hc j hj
      match i, hv with
      | 0, hv => cases hv; exact hr.2.1
      | 1, hv => cases hv; exact hr.2.2.1
      | 2, hv => cases hv; exact hr.2.2.2.1)
    rw [List.take_length] at this
    exact this
end Go.Proofs.YtabnacdjcefgnaaGreatDoor
namespace Go.Proofs.YtabnacdjcefgnaaGreatDoor
open Go.RowKit Go.Maps Go.Shelf
theorem note_one {a b c : Int} : ∀ u ∈ [Value.int .u8 a, Value.int .u32 b, Value.int .u32 c], u.oneCell' = true := by
  intro u hu
  simp at hu
  rcases hu with rfl | rfl | rfl <;> rfl
theorem info_noteD : (Tryz.prog.info? 141).map (fun i => (i.zero, i.size, i.bytes)) = some (some (.agg #[.int .u8 0, .int .u32 0, .int .u32 0]), 3, 12) := by kernel_rfl
def notesE (l : List (Int × Int)) : List GNote := l.map fun e => ⟨2, e.1, e.2⟩
def notesP (l : List Int) : List GNote := l.map fun p => ⟨3, p, 0⟩
theorem notesE_snoc {l : List (Int × Int)} {k : Nat} {a b : Int} (h : k < l.length) (hx : l[k] = (a, b)) : notesE (l.take (k + 1)) = notesE (l.take k) ++ [⟨2, a, b⟩] := by
  rw [List.take_succ_eq_append_getElem h, hx]; simp [notesE]
theorem notesP_snoc {l : List Int} {k : Nat} {a : Int} (h : k < l.length) (hx : l[k] = a) : notesP (l.take (k + 1)) = notesP (l.take k) ++ [⟨3, a, 0⟩] := by
  rw [List.take_succ_eq_append_getElem h, hx]; simp [notesP]
def NRow (base : Nat) (w : World) (v : Value) (l : List GNote) : Prop := w.ownsRow base 141 3 v l.length (l.flatMap noteCells)
theorem NRow.snoc {base : Nat} {w : World} {v : Value} {l : List GNote} {x : GNote} {n : Nat} {cs : List Value} (h : w.ownsRow base 141 3 v (n + 1) (cs ++ [.int .u8 x.kind, .int .u32 x.n, .int .u32 x.m])) (hn : n = l.length) (hc : cs = l.flatMap noteCells) : NRow base w v (l ++ [x]) := by
  subst hn hc
  unfold NRow
  rw [List.length_append, List.flatMap_append]
  exact h
set_option maxHeartbeats 4000000 in
set_option maxRecDepth 100000 in
theorem dnotes_any (m : GMan) (ve vp : Value) (w : World) (h : ManAt w m ve vp) (hf : ManFit m) :
    Calls Tryz.prog 68 #[.agg #[.int .u32 m.pages, ve, vp, .bool m.cons]] w fun e w' => ∃ v, e = .returned v ∧ NRow (w.heap.size + 1) w' v (notesR m) ∧ Below w.heap.size w w' := by
  have HCK := Lib.hid (manCheck_any m ve vp (w.alloc (.cells #[.int .u32 m.pages, ve, vp, .bool m.cons] 31)) (h.keep (alloc_old w _)) hf)
  have hel := hf.ok.el
  have hpl := hf.ok.pl
  obtain ⟨mp, me, mq, mc⟩ := m
  obtain ⟨he, hq, -⟩ := h
  simp only [] at *
  obtain ⟨p1, c1, b1, o1, rfl, -, -, hq1, hc1⟩ := he
  obtain ⟨p2, c2, b2, o2, rfl, -, -, hq2, hc2⟩ := hq
  have HC1 := Lib.hid hc1; clear hc1
  have HC2 := Lib.hid hc2; clear hc2
  have HP1 := Lib.hid hq1; clear hq1
  have HP2 := Lib.hid hq2; clear hq2
  clear hf
  obtain ⟨iN, s0, s1, s2, s3⟩ := info_parts info_noteD
  have HI := Lib.hid (And.intro s0 (And.intro s1 (And.intro s2 s3)))
  clear s0 s1 s2 s3
  go_enter Tryz.func68, Tryz.ntmps68
  go_wp2_with fail
  refine HCK.out.mono ?_
  rintro e w2 ⟨rfl, hB2⟩
  have HMB : Hid (w2.heap[w.heap.size]? = some (.cells #[.int .u32 mp, .slice p1 me.length c1, .slice p2 mq.length c2, .bool mc] 31 (0, 0))) := (hB2.block _ (by simp)).trans (new_block w _)
  have HB2 : Hid (Below (w.heap.size + 1) (w.alloc (.cells #[.int .u32 mp, .slice p1 me.length c1, .slice p2 mq.length c2, .bool mc] 31)) w2) := hB2.mono (by simp)
  have hz2 : w.heap.size < w2.heap.size := by have := hB2.size; simp at this; omega
  clear hB2
  have a0 := Lib.cell_of_heap HMB.out 0
  have a1 := Lib.cell_of_heap HMB.out 1
  have a2 := Lib.cell_of_heap HMB.out 2
  have a3 := Lib.cell_of_heap HMB.out 3
  obtain ⟨N0, hN0⟩ : ∃ N0 : List GNote, N0 = if 0 < mp then [⟨1, mp, 0⟩] else [] := ⟨_, rfl⟩
  have HNE := Lib.hid hN0
  have hn0 : N0.length ≤ 1 := by rw [hN0]; split <;> simp
  by_cases hpg : 0 < mp
  case' pos =>
    rw [if_pos hpg] at hN0
    go_wp2_with (at_builtin; refine wpList_append_own _ rfl _ _ 60 rfl (w.heap.size + 1) 141 iN _ 3 12 Tryz.underlying60 HI.out.1 HI.out.2.1 HI.out.2.2.1 HI.out.2.2.2 rfl (by decide) _ 0 [] rfl ?c0 _ 1 1 [.int .u8 1, .int .u32 mp, .int .u32 0] rfl rfl ?c1 note_one ?c3 ?c4 ?c5 ?_)
    case c0 => exact World.ownsRow_nil _ _ _ _
    case c1 => exact three_news (by simp [go_sem]) (by simp [go_sem]) (by simp [go_sem])
    case c3 => unfold maxLen; omega
    case c4 => omega
    case c5 => simp; omega
    intro v3 w3 hown3 hgrow3 _
    have HN0 : Hid (NRow (w.heap.size + 1) w3 v3 N0) := by
      rw [Hid, hN0]
      exact NRow.snoc (l := []) (x := ⟨1, mp, 0⟩) hown3 rfl rfl
    have HB3 : Hid (Below (w.heap.size + 1) (w.alloc (.cells #[.int .u32 mp, .slice p1 me.length c1, .slice p2 mq.length c2, .bool mc] 31)) w3) := HB2.out.trans (((alloc_old w2 _).mono (by omega)).grown hgrow3 (by simp; omega) (fun q e => by simp [Value.ownBlock] at e))
    have HMB3 := Lib.hid ((HB3.out.block _ (Nat.lt_succ_self _)).trans (new_block w _))
    have hz3 : w.heap.size < w3.heap.size := by have := HB3.out.size; simp at this; omega
    obtain ⟨pr, cr, rfl⟩ := own_shape hown3
    clear hown3 hgrow3 a0 a1 a2 a3 HMB HB2 hN0 hz2
  case' neg =>
    rw [if_neg hpg] at hN0
    obtain ⟨w3, hw3⟩ : ∃ w3, w3 = w2 := ⟨w2, rfl⟩
    subst hw3
    have HN0 : Hid (NRow (w.heap.size + 1) w3 (.slice none 0 0) N0) := by
      rw [Hid, hN0]
      exact World.ownsRow_nil _ _ _ _
    have HB3 : Hid (Below (w.heap.size + 1) (w.alloc (.cells #[.int .u32 mp, .slice p1 me.length c1, .slice p2 mq.length c2, .bool mc] 31)) w3) := HB2.out
    have HMB3 := HMB
    have hz3 := hz2
    clear a1 a2 a3 HMB HB2 hN0 hz2
  all_goals
    have b1 := Lib.cell_of_heap HMB3.out 1
    go_wp2
    go_loopw [2, 22] (fun v2 v22 wr => ∃ k : Nat, v22 = .int .i64 k ∧ k ≤ me.length ∧ NRow (w.heap.size + 1) wr v2 (N0 ++ notesE (me.take k)) ∧ Below (w.heap.size + 1) w3 wr) (fun _ v22 _ => me.length - (intOf v22).toNat)
    case atStart => exact ⟨0, by go_num, Nat.zero_le _, by simpa [notesE] using HN0.out, Below.refl _ _⟩
    case round =>
      obtain ⟨k, rfl, hk, hU, hB⟩ := hrel
      have HB := Lib.hid hB; clear hB
      obtain ⟨M, hM⟩ : ∃ M, M = N0 ++ notesE (me.take k) := ⟨_, rfl⟩
      have HUL : Hid (M.length = N0.length + k) := by rw [Hid, hM]; simp [notesE]; omega
      rw [← hM] at hU
      have HU := Lib.hid hU
      obtain ⟨pu, cu, rfl⟩ := own_shape (show wr.ownsRow _ _ _ _ M.length _ from hU)
      clear hU
      have HM := Lib.hid hM; clear hM
      have HBO : Hid (Below w.heap.size w wr) := ((alloc_old w (.cells #[.int .u32 mp, .slice p1 me.length c1, .slice p2 mq.length c2, .bool mc] 31)).trans (HB3.out.mono (by omega))).trans (HB.out.mono (by omega))
      by_cases hlt : k < me.length
      · obtain rfl := HP1.out (by omega)
        obtain ⟨g0, g1, g2, -⟩ := extR_keeps _ _ _ _ _ HBO.out (HC1.out k hlt)
        generalize hxk : me[k] = x at g1 g2
        obtain ⟨x1, x2⟩ := x
        have HX := Lib.hid hxk; clear hxk
        simp only [] at g1 g2
        go_wp2_with (at_builtin; refine wpList_append_own _ rfl _ _ 60 rfl (w.heap.size + 1) 141 iN _ 3 12 Tryz.underlying60 HI.out.1 HI.out.2.1 HI.out.2.2.1 HI.out.2.2.2 rfl (by decide) _ M.length (M.flatMap noteCells) rfl ((World.ownsRow.alloc HU.out _).alloc _) _ 1 1 [.int .u8 2, .int .u32 x1, .int .u32 x2] rfl rfl (three_news (by simp [go_sem]) (by simp [go_sem]) (by simp [go_sem])) note_one (by have := HUL.out; unfold maxLen; omega) (by have := HUL.out; omega) (by have := HB.out.size; simp; omega) ?_)
        intro v4 w4 hown4 hgrow4 _
        have HN4 : Hid (NRow (w.heap.size + 1) w4 v4 (N0 ++ notesE (me.take (k + 1)))) := by
          rw [Hid, notesE_snoc hlt HX.out, ← List.append_assoc, ← HM.out]
          exact NRow.snoc (x := ⟨2, x1, x2⟩) hown4 rfl rfl
        have HB4 : Hid (Below (w.heap.size + 1) w3 w4) := HB.out.trans (((((alloc_old wr _).alloc (by simp) _).mono (by have := HB.out.size; omega))).grown hgrow4 (by have := HB.out.size; simp; omega) (fun q e => (World.ownsRow.lt HU.out q e).1))
        obtain ⟨pr4, cr4, rfl⟩ := own_shape hown4
        clear hown4 hgrow4
        go_wp2
        go_roundw
        case rel => exact ⟨k + 1, by go_num, by omega, HN4.out, HB4.out⟩
        case measure => simp [intOf]; omega
      · obtain rfl : k = me.length := by omega
        have hm := HM.out
        rw [List.take_length] at hm
        subst hm
        have HMBR := Lib.hid ((HB.out.block _ (Nat.lt_succ_self _)).trans HMB3.out)
        have d2 := Lib.cell_of_heap HMBR.out 2
        clear b1
        obtain ⟨w5, hw5⟩ : ∃ w5, w5 = wr := ⟨_, rfl⟩
        subst hw5
        go_wp2
        go_loopw [2, 38] (fun v2 v38 wt => ∃ k : Nat, v38 = .int .i64 k ∧ k ≤ mq.length ∧ NRow (w.heap.size + 1) wt v2 (N0 ++ notesE me ++ notesP (mq.take k)) ∧ Below (w.heap.size + 1) w5 wt) (fun _ v38 _ => mq.length - (intOf v38).toNat)
        case atStart => exact ⟨0, by go_num, Nat.zero_le _, by simpa [notesP] using HU.out, Below.refl _ _⟩
        case round =>
          obtain ⟨k, rfl, hk, hU, hB⟩ := hrel
          have HBT := Lib.hid hB; clear hB
          obtain ⟨M2, hM2⟩ : ∃ M, M = N0 ++ notesE me ++ notesP (mq.take k) := ⟨_, rfl⟩
          have HUL2 : Hid (M2.length = N0.length + me.length + k) := by rw [Hid, hM2]; simp [notesE, notesP]; omega
          rw [← hM2] at hU
          have HU2 := Lib.hid hU
          obtain ⟨pu2, cu2, rfl⟩ := own_shape (show wr.ownsRow _ _ _ _ M2.length _ from hU)
          clear hU
          have HM2 := Lib.hid hM2; clear hM2
          have HBO2 : Hid (Below w.heap.size w wr) := HBO.out.trans (HBT.out.mono (by have := HB.out.size; omega))
          by_cases hlt2 : k < mq.length
          · obtain rfl := HP2.out (by omega)
            obtain ⟨g0, g1, g2, g3⟩ := portR_keeps _ _ _ _ _ HBO2.out (HC2.out k hlt2)
            rw [Nat.mul_one] at g1
            generalize hxk : mq[k] = x at g1 g2 g3
            have hwx : IntKind.u32.wrap x = x := IntWalk.u32_in _ (by omega)
            have HX := Lib.hid hxk; clear hxk
            go_wp2_with (at_builtin; refine wpList_append_own _ rfl _ _ 60 rfl (w.heap.size + 1) 141 iN _ 3 12 Tryz.underlying60 HI.out.1 HI.out.2.1 HI.out.2.2.1 HI.out.2.2.2 rfl (by decide) _ M2.length (M2.flatMap noteCells) rfl (World.ownsRow.alloc HU2.out _) _ 1 1 [.int .u8 3, .int .u32 x, .int .u32 0] rfl rfl (three_news (by simp [go_sem]) (by simp [go_sem]) (by simp [go_sem])) note_one (by have := HUL2.out; unfold maxLen; omega) (by have := HUL2.out; omega) (by have := HB.out.size; have := HBT.out.size; simp; omega) ?_)
            intro v6 w6 hown6 hgrow6 _
            have HN6 : Hid (NRow (w.heap.size + 1) w6 v6 (N0 ++ notesE me ++ notesP (mq.take (k + 1)))) := by
              rw [Hid, notesP_snoc hlt2 HX.out, ← List.append_assoc, ← HM2.out]
              exact NRow.snoc (x := ⟨3, x, 0⟩) hown6 rfl rfl
            have HB6 : Hid (Below (w.heap.size + 1) w5 w6) := HBT.out.trans ((((alloc_old wr _).mono (by have := HB.out.size; have := HBT.out.size; omega))).grown hgrow6 (by have := HB.out.size; have := HBT.out.size; simp; omega) (fun q e => (World.ownsRow.lt HU2.out q e).1))
            obtain ⟨pr6, cr6, rfl⟩ := own_shape hown6
            clear hown6 hgrow6
            go_wp2
            go_roundw
            case rel => exact ⟨k + 1, by go_num, by omega, HN6.out, HB6.out⟩
            case measure => simp [intOf]; omega
          · obtain rfl : k = mq.length := by omega
            have hm := HM2.out
            rw [List.take_length] at hm
            have HMB6 := Lib.hid ((HBT.out.block _ (Nat.lt_succ_self _)).trans HMBR.out)
            have f3 := Lib.cell_of_heap HMB6.out 3
            clear d2
            have HFIN : Hid (notesR ⟨mp, me, mq, mc⟩ = M2 ++ (if mc = true then [⟨4, 0, 0⟩] else [])) := by
              rw [Hid, hm, HNE.out]; rfl
            have HSZ := Lib.hid (And.intro HB.out.size HBT.out.size)
            clear hm
            cases mc with
            | true =>
              go_wp2_with (at_builtin; refine wpList_append_own _ rfl _ _ 60 rfl (w.heap.size + 1) 141 iN _ 3 12 Tryz.underlying60 HI.out.1 HI.out.2.1 HI.out.2.2.1 HI.out.2.2.2 rfl (by decide) _ M2.length (M2.flatMap noteCells) rfl (World.ownsRow.alloc HU2.out _) _ 1 1 [.int .u8 4, .int .u32 0, .int .u32 0] rfl rfl (three_news (by simp [go_sem]) (by simp [go_sem]) (by simp [go_sem])) note_one (by have := HUL2.out; unfold maxLen; omega) (by have := HUL2.out; omega) (by have := HSZ.out; simp; omega) ?_)
              intro v6 w6 hown6 hgrow6 _
              have HN6 : Hid (NRow (w.heap.size + 1) w6 v6 (notesR ⟨mp, me, mq, true⟩)) := by
                rw [Hid, HFIN.out]
                exact NRow.snoc (x := ⟨4, 0, 0⟩) hown6 rfl rfl
              have HB6 : Hid (Below w.heap.size w w6) := HBO2.out.trans ((((alloc_old wr _).mono (by have := HSZ.out; omega))).grown hgrow6 (by have := HSZ.out; simp; omega) (fun q e => by have := (World.ownsRow.lt HU2.out q e).1; omega))
              obtain ⟨pr6, cr6, rfl⟩ := own_shape hown6
              clear hown6 hgrow6
              go_wp2
              go_ret
              exact ⟨_, rfl, HN6.out, HB6.out⟩
            | false =>
              go_wp2
              go_ret
              exact ⟨_, rfl, by rw [HFIN.out]; simpa using HU2.out, HBO2.out⟩
end Go.Proofs.YtabnacdjcefgnaaGreatDoor
