/- What lay.Of lays lies apart (layer 14). No program in sight. Where the bytes of an image come from, in plain words. No program in sight. -/
import Derived.Test.YtboegjdkedjhcaaGreatDoorBd02
import Derived.Test.YtboegjdkedjhcaaGreatDoorBd35
namespace Go.Proofs.YtboegjdkedjhcaaGreatDoor
/-- a place's size and kind -/
def sizeAt (l : List GObj) (p : GP) : Int := match symAt l p with | some s => s.size | none => 0
def kindAt (l : List GObj) (p : GP) : Int := match symAt l p with | some s => s.kind | none => 0
def pAt (ps : List GP) (i : Nat) : GP := ps.getD i (0, 0)
def aAt (out : List GAddr) (i : Nat) : GAddr := out.getD i addr0
def Zs (l : List GObj) (ps : List GP) (i : Nat) : Int := sizeAt l (pAt ps i)
def Ks (l : List GObj) (ps : List GP) (i : Nat) : Int := kindAt l (pAt ps i)
/-- what has been laid: all symbols of the kinds ks, and those of the kind kd ahead of k -/
def Done (l : List GObj) (ps : List GP) (ks : List Int) (kd : Int) (k i : Nat) : Prop := i < ps.length ∧ (Ks l ps i ∈ ks ∨ (Ks l ps i = kd ∧ i < k))
structure LInv (l : List GObj) (ps : List GP) (D : Nat → Prop) (out : List GAddr) (e : Int) : Prop where
  len : out.length = ps.length
  pl : ∀ i, D i → (aAt out i).obj = (pAt ps i).1 ∧ (aAt out i).sym = (pAt ps i).2
  lo : ∀ i, D i → 256 ≤ (aAt out i).at_ ∧ (aAt out i).at_ % 8 = 0 ∧ (aAt out i).at_ + Zs l ps i ≤ e
  dj : ∀ i j, D i → D j → i ≠ j → (aAt out i).at_ + Zs l ps i ≤ (aAt out j).at_ ∨ (aAt out j).at_ + Zs l ps j ≤ (aAt out i).at_
  pg : ∀ i j, D i → D j → Ks l ps i ≠ Ks l ps j → ∃ p : Int, p % 256 = 0 ∧ ((aAt out i).at_ + Zs l ps i ≤ p ∧ p ≤ (aAt out j).at_ ∨ (aAt out j).at_ + Zs l ps j ≤ p ∧ p ≤ (aAt out i).at_)
/-- the page of a kind: what is of it lies behind, what is not lies ahead -/
def OnPage (l : List GObj) (ps : List GP) (D : Nat → Prop) (out : List GAddr) (kd p0 : Int) : Prop :=
  p0 % 256 = 0 ∧ 256 ≤ p0 ∧ ∀ i, D i → (Ks l ps i ≠ kd → (aAt out i).at_ + Zs l ps i ≤ p0) ∧ (Ks l ps i = kd → p0 ≤ (aAt out i).at_)
theorem aAt_set_ne {out : List GAddr} {k i : Nat} {x : GAddr} (h : i ≠ k) : aAt (out.set k x) i = aAt out i := by
  unfold aAt; rw [List.getD_eq_getElem?_getD, List.getD_eq_getElem?_getD, List.getElem?_set_ne (fun e => h e.symm)]
theorem aAt_set_self {out : List GAddr} {k : Nat} {x : GAddr} (h : k < out.length) : aAt (out.set k x) k = x := by
  unfold aAt; rw [List.getD_eq_getElem?_getD, List.getElem?_set_self h]; rfl
theorem upTo8 (e : Int) : e ≤ upTo e 8 ∧ upTo e 8 % 8 = 0 := by unfold upTo; omega
theorem laySyms_inv {l : List GObj} {ps : List GP} {ks : List Int} {kd p0 : Int} (hkd : kd ∉ ks) (hz : ∀ i, i < ps.length → 1 ≤ Zs l ps i) : ∀ (r : List GP) (k : Nat) (out : List GAddr) (e : Int), ps.drop k = r → LInv l ps (Done l ps ks kd k) out e → OnPage l ps (Done l ps ks kd k) out kd p0 → p0 ≤ e →
    ∀ out' e', laySyms l kd r k out e = some (out', e') → LInv l ps (Done l ps ks kd ps.length) out' e' ∧ OnPage l ps (Done l ps ks kd ps.length) out' kd p0 ∧ e ≤ e' ∧ (e ≤ 131072 → e' ≤ 131072) ∧ (∀ i, i < ps.length → k ≤ i → Ks l ps i = kd → p0 < e') ∧ (∀ i, Ks l ps i ∈ ks → aAt out' i = aAt out i)
  | [], k, out, e, hr, hI, hP, hpe, out', e', h => by
    simp only [laySyms, Option.some.injEq, Prod.mk.injEq] at h
    obtain ⟨rfl, rfl⟩ := h
    have hk : ps.length ≤ k := by simpa using hr
    have hD : Done l ps ks kd ps.length = Done l ps ks kd k := by
      funext i
      apply propext
      unfold Done
      exact ⟨fun ⟨h1, h2⟩ => ⟨h1, h2.imp id fun h3 => ⟨h3.1, by omega⟩⟩, fun ⟨h1, h2⟩ => ⟨h1, h2.imp id fun h3 => ⟨h3.1, by omega⟩⟩⟩
    rw [hD]
    exact ⟨hI, hP, Int.le_refl _, fun h => h, fun i hi hki => by omega, fun _ _ => rfl⟩
  | p :: r, k, out, e, hr, hI, hP, hpe, out', e', h => by
    have hk : k < ps.length := by
      rcases Nat.lt_or_ge k ps.length with h1 | h1
      · exact h1
      · rw [List.drop_of_length_le h1] at hr; cases hr
    rw [List.drop_eq_getElem_cons hk] at hr
    obtain ⟨hp, hr⟩ := List.cons.inj hr
    have hpA : pAt ps k = p := by unfold pAt; rw [List.getD_eq_getElem?_getD, List.getElem?_eq_getElem hk]; exact hp
    have hzk := hz k hk
    rw [laySyms] at h
    have hskip : Ks l ps k ≠ kd → laySyms l kd r (k + 1) out e = some (out', e') → LInv l ps (Done l ps ks kd ps.length) out' e' ∧ OnPage l ps (Done l ps ks kd ps.length) out' kd p0 ∧ e ≤ e' ∧ (e ≤ 131072 → e' ≤ 131072) ∧ (∀ i, i < ps.length → k ≤ i → Ks l ps i = kd → p0 < e') ∧ (∀ i, Ks l ps i ∈ ks → aAt out' i = aAt out i) := fun hne h => by
      have hD : Done l ps ks kd (k + 1) = Done l ps ks kd k := by
        funext i
        apply propext
        unfold Done
        refine ⟨fun ⟨h1, h2⟩ => ⟨h1, h2.imp id fun h3 => ⟨h3.1, ?_⟩⟩, fun ⟨h1, h2⟩ => ⟨h1, h2.imp id fun h3 => ⟨h3.1, by omega⟩⟩⟩
        rcases Nat.lt_or_eq_of_le (Nat.le_of_lt_succ h3.2) with h4 | rfl
        · exact h4
        · exact absurd h3.1 hne
      obtain ⟨a1, a2, a3, a4, a5, a6⟩ := laySyms_inv hkd hz r (k + 1) out e hr (hD ▸ hI) (hD ▸ hP) hpe out' e' h
      refine ⟨a1, a2, a3, a4, fun i hi hki hK => a5 i hi ?_ hK, a6⟩
      rcases Nat.lt_or_eq_of_le hki with h5 | rfl
      · exact h5
      · exact absurd hK hne
    cases hs : symAt l p with
    | none =>
      rw [hs] at h
      have : Zs l ps k = 0 := by unfold Zs sizeAt; rw [hpA, hs]
      omega
    | some s =>
      rw [hs] at h
      have hK : Ks l ps k = s.kind := by unfold Ks kindAt; rw [hpA, hs]
      have hZ : Zs l ps k = s.size := by unfold Zs sizeAt; rw [hpA, hs]
      simp only [] at h
      by_cases hsk : s.kind = kd
      · rw [if_pos hsk] at h
        by_cases hbig : 131072 < upTo e 8 + s.size
        · rw [if_pos hbig] at h; cases h
        · rw [if_neg hbig] at h
          have hu := upTo8 e
          have hnk : ∀ i, Done l ps ks kd k i → i ≠ k := fun i hd e => by
            subst e
            rcases hd.2 with h1 | h1
            · rw [hK, hsk] at h1; exact hkd h1
            · omega
          have hold : ∀ i, Done l ps ks kd (k + 1) i → Done l ps ks kd k i ∨ i = k := fun i ⟨h1, h2⟩ => by
            rcases h2 with h2 | ⟨h2, h3⟩
            · exact .inl ⟨h1, .inl h2⟩
            · rcases Nat.lt_or_eq_of_le (Nat.le_of_lt_succ h3) with h4 | h4
              · exact .inl ⟨h1, .inr ⟨h2, h4⟩⟩
              · exact .inr h4
          have hkl : k < out.length := by rw [hI.len]; exact hk
          have hself := aAt_set_self (x := (⟨p.1, p.2, upTo e 8⟩ : GAddr)) hkl
          have hkeep : ∀ i, Done l ps ks kd k i → aAt (out.set k ⟨p.1, p.2, upTo e 8⟩) i = aAt out i := fun i hd => aAt_set_ne (hnk i hd)
          have hI' : LInv l ps (Done l ps ks kd (k + 1)) (out.set k ⟨p.1, p.2, upTo e 8⟩) (upTo e 8 + s.size) := by
            refine ⟨by simpa using hI.len, fun i hd => ?_, fun i hd => ?_, fun i j hd hd' hne => ?_, fun i j hd hd' hne => ?_⟩
            · rcases hold i hd with h1 | rfl
              · rw [hkeep i h1]; exact hI.pl i h1
              · rw [hself, hpA]; exact ⟨rfl, rfl⟩
            · rcases hold i hd with h1 | rfl
              · rw [hkeep i h1]; have := hI.lo i h1; omega
              · rw [hself, hZ]; exact ⟨by have := hP.2.1; simp only []; omega, hu.2, Int.le_refl _⟩
            · rcases hold i hd with h1 | rfl
              · rcases hold j hd' with h2 | rfl
                · rw [hkeep i h1, hkeep j h2]; exact hI.dj i j h1 h2 hne
                · rw [hkeep i h1, hself]; left; have := (hI.lo i h1).2.2; simp only []; omega
              · rcases hold j hd' with h2 | rfl
                · rw [hkeep j h2, hself]; right; have := (hI.lo j h2).2.2; simp only []; omega
                · exact absurd rfl hne
            · rcases hold i hd with h1 | rfl
              · rcases hold j hd' with h2 | rfl
                · rw [hkeep i h1, hkeep j h2]; exact hI.pg i j h1 h2 hne
                · rw [hkeep i h1, hself]
                  refine ⟨p0, hP.1, .inl ⟨(hP.2.2 i h1).1 (by rw [hK, hsk] at hne; exact hne), by simp only []; omega⟩⟩
              · rcases hold j hd' with h2 | rfl
                · rw [hkeep j h2, hself]
                  refine ⟨p0, hP.1, .inr ⟨(hP.2.2 j h2).1 (by rw [hK, hsk] at hne; exact fun e => hne e.symm), by simp only []; omega⟩⟩
                · exact absurd rfl hne
          have hP' : OnPage l ps (Done l ps ks kd (k + 1)) (out.set k ⟨p.1, p.2, upTo e 8⟩) kd p0 := by
            refine ⟨hP.1, hP.2.1, fun i hd => ?_⟩
            rcases hold i hd with h1 | rfl
            · rw [hkeep i h1]; exact hP.2.2 i h1
            · rw [hself]; exact ⟨fun h => absurd (hK.trans hsk) h, fun _ => by simp only []; omega⟩
          obtain ⟨a1, a2, a3, a4, a5, a6⟩ := laySyms_inv hkd hz r (k + 1) _ _ hr hI' hP' (by omega) out' e' h
          refine ⟨a1, a2, by omega, fun _ => a4 (by omega), fun i hi hki hKi => by omega, fun i hi => ?_⟩
          rw [a6 i hi, aAt_set_ne]
          rintro rfl
          rw [hK, hsk] at hi
          exact hkd hi
      · rw [if_neg hsk] at h
        exact hskip (by rw [hK]; exact hsk) h
/-- the spans of the kinds that are done -/
def SInv (l : List GObj) (ps : List GP) (ks : List Int) (out : List GAddr) (spans : List GSpan) : Prop :=
  (∀ x ∈ spans, x.kind ∈ ks) ∧ ∀ i, i < ps.length → Ks l ps i ∈ ks → ∃ sp, spans.find? (fun x => decide (x.kind = Ks l ps i)) = some sp ∧ sp.at_ % 256 = 0 ∧ 0 ≤ sp.at_ ∧ sp.at_ ≤ (aAt out i).at_ ∧ (aAt out i).at_ + Zs l ps i ≤ sp.at_ + sp.size ∧ sp.at_ + sp.size ≤ 131072
theorem upTo256 (e : Int) (h : 256 ≤ e) : e ≤ upTo e 256 ∧ upTo e 256 % 256 = 0 ∧ (e ≤ 131072 → upTo e 256 ≤ 131072) := by unfold upTo; omega
theorem layKinds_inv {l : List GObj} {ps : List GP} (hz : ∀ i, i < ps.length → 1 ≤ Zs l ps i) : ∀ (rest ks : List Int) (out : List GAddr) (spans : List GSpan) (e : Int), (∀ k ∈ rest, k ∉ ks) → rest.Nodup → LInv l ps (fun i => i < ps.length ∧ Ks l ps i ∈ ks) out e → SInv l ps ks out spans → 256 ≤ e → e ≤ 131072 →
    ∀ out' spans', layKinds l ps rest out spans e = some (out', spans') → ∃ e', e' ≤ 131072 ∧ LInv l ps (fun i => i < ps.length ∧ Ks l ps i ∈ rest ++ ks) out' e' ∧ SInv l ps (rest ++ ks) out' spans'
  | [], ks, out, spans, e, _, _, hI, hS, he, he1, out', spans', h => by
    simp only [layKinds, Option.some.injEq, Prod.mk.injEq] at h
    obtain ⟨rfl, rfl⟩ := h
    exact ⟨e, he1, hI, hS⟩
  | kd :: rest, ks, out, spans, e, hnot, hnd, hI, hS, he, he1, out', spans', h => by
    have hkd : kd ∉ ks := hnot kd (by simp)
    have hu := upTo256 e he
    rw [layKinds] at h
    cases hL : laySyms l kd ps 0 out (upTo e 256) with
    | none => rw [hL] at h; cases h
    | some r =>
      obtain ⟨o1, e1⟩ := r
      rw [hL] at h
      simp only [] at h
      have hD0 : Done l ps ks kd 0 = fun i => i < ps.length ∧ Ks l ps i ∈ ks := by
        funext i; apply propext; unfold Done
        exact ⟨fun ⟨h1, h2⟩ => ⟨h1, h2.elim id fun h3 => absurd h3.2 (by omega)⟩, fun ⟨h1, h2⟩ => ⟨h1, .inl h2⟩⟩
      have hDn : Done l ps ks kd ps.length = fun i => i < ps.length ∧ Ks l ps i ∈ kd :: ks := by
        funext i; apply propext; unfold Done
        refine ⟨fun ⟨h1, h2⟩ => ⟨h1, ?_⟩, fun ⟨h1, h2⟩ => ⟨h1, ?_⟩⟩
        · rcases h2 with h2 | ⟨h2, -⟩
          · exact List.mem_cons_of_mem _ h2
          · rw [h2]; exact List.mem_cons_self
        · rcases List.mem_cons.1 h2 with h2 | h2
          · exact .inr ⟨h2, h1⟩
          · exact .inl h2
      have hI0 : LInv l ps (Done l ps ks kd 0) out (upTo e 256) := by
        rw [hD0]
        exact ⟨hI.len, hI.pl, fun i hd => by have := hI.lo i hd; omega, hI.dj, hI.pg⟩
      have hP0 : OnPage l ps (Done l ps ks kd 0) out kd (upTo e 256) := by
        rw [hD0]
        refine ⟨hu.2.1, by omega, fun i hd => ⟨fun _ => by have := (hI.lo i hd).2.2; omega, fun hk => absurd (hk ▸ hd.2) hkd⟩⟩
      obtain ⟨a1, a2, a3, a4, a5, a6⟩ := laySyms_inv hkd hz ps 0 out (upTo e 256) rfl hI0 hP0 (Int.le_refl _) o1 e1 hL
      rw [hDn] at a1 a2
      have hS1 : SInv l ps (kd :: ks) o1 (if 0 < e1 - upTo e 256 then spans ++ [⟨kd, upTo e 256, e1 - upTo e 256⟩] else spans) := by
        have hnone : spans.find? (fun x => decide (x.kind = kd)) = none := by
          rw [List.find?_eq_none]; intro x hx hxk
          have := hS.1 x hx
          rw [of_decide_eq_true hxk] at this
          exact hkd this
        refine ⟨fun x hx => ?_, fun i hi hK => ?_⟩
        · split at hx
          · rcases List.mem_append.1 hx with hx | hx
            · exact List.mem_cons_of_mem _ (hS.1 x hx)
            · obtain rfl : x = _ := by simpa using hx
              exact List.mem_cons_self
          · exact List.mem_cons_of_mem _ (hS.1 x hx)
        · rcases List.mem_cons.1 hK with hK | hK
          · have hlt := a5 i hi (Nat.zero_le _) hK
            rw [if_pos (by omega), hK]
            refine ⟨⟨kd, upTo e 256, e1 - upTo e 256⟩, by rw [List.find?_append, hnone]; simp, hu.2.1, by simp only []; omega, (a2.2.2 i ⟨hi, by rw [hK]; exact List.mem_cons_self⟩).2 hK, ?_, ?_⟩
            · have := (a1.lo i ⟨hi, by rw [hK]; exact List.mem_cons_self⟩).2.2; simp only []; omega
            · have := a4 (hu.2.2 he1); simp only []; omega
          · obtain ⟨sp, q1, q2, q3, q4, q5, q6⟩ := hS.2 i hi hK
            refine ⟨sp, ?_, q2, q3, by rw [a6 i hK]; exact q4, by rw [a6 i hK]; exact q5, q6⟩
            split
            · rw [List.find?_append, q1]; rfl
            · exact q1
      obtain ⟨e', b1, b2, b3⟩ := layKinds_inv hz rest (kd :: ks) o1 _ e1 (fun k hk hm => by
        rcases List.mem_cons.1 hm with rfl | hm
        · exact (List.nodup_cons.1 hnd).1 hk
        · exact hnot k (by simp [hk]) hm) (List.nodup_cons.1 hnd).2 a1 hS1 (by omega) (a4 (hu.2.2 he1)) out' spans' h
      refine ⟨e', b1, ?_, ?_⟩
      · have : (fun i => i < ps.length ∧ Ks l ps i ∈ rest ++ (kd :: ks)) = fun i => i < ps.length ∧ Ks l ps i ∈ kd :: rest ++ ks := by
          funext i; simp only [List.mem_append, List.mem_cons, List.cons_append]; apply propext
          constructor <;> rintro ⟨h1, h2⟩ <;> exact ⟨h1, by rcases h2 with h2 | h2 | h2 <;> simp [h2]⟩
        rw [← this]; exact b2
      · refine ⟨fun x hx => ?_, fun i hi hK => b3.2 i hi ?_⟩
        · have := b3.1 x hx; simp only [List.mem_append, List.mem_cons, List.cons_append] at this ⊢; rcases this with h2 | h2 | h2 <;> simp [h2]
        · simp only [List.mem_append, List.mem_cons, List.cons_append] at hK ⊢; rcases hK with h2 | h2 | h2 <;> simp [h2]
/-- what lay.Of says of each symbol -/
structure Laid (l : List GObj) (ps : List GP) (out : List GAddr) (spans : List GSpan) : Prop where
  len : out.length = ps.length
  pl : ∀ i, i < ps.length → (aAt out i).obj = (pAt ps i).1 ∧ (aAt out i).sym = (pAt ps i).2
  lo : ∀ i, i < ps.length → 256 ≤ (aAt out i).at_ ∧ (aAt out i).at_ % 8 = 0 ∧ (aAt out i).at_ + Zs l ps i ≤ 131072
  dj : ∀ i j, i < ps.length → j < ps.length → i ≠ j → (aAt out i).at_ + Zs l ps i ≤ (aAt out j).at_ ∨ (aAt out j).at_ + Zs l ps j ≤ (aAt out i).at_
  pg : ∀ i j, i < ps.length → j < ps.length → Ks l ps i ≠ Ks l ps j → ∃ p : Int, p % 256 = 0 ∧ ((aAt out i).at_ + Zs l ps i ≤ p ∧ p ≤ (aAt out j).at_ ∨ (aAt out j).at_ + Zs l ps j ≤ p ∧ p ≤ (aAt out i).at_)
  sp : ∀ i, i < ps.length → ∃ sp, spans.find? (fun x => decide (x.kind = Ks l ps i)) = some sp ∧ sp.at_ % 256 = 0 ∧ 0 ≤ sp.at_ ∧ sp.at_ ≤ (aAt out i).at_ ∧ (aAt out i).at_ + Zs l ps i ≤ sp.at_ + sp.size ∧ sp.at_ + sp.size ≤ 131072
theorem sym_facts {l : List GObj} {p : GP} {s : GSym} (hm : mayAll l = true) (h : symAt l p = some s) : 1 ≤ s.size ∧ s.size ≤ 8192 ∧ 1 ≤ s.kind ∧ s.kind ≤ 3 := by
  obtain ⟨a, b, ha, hb, -, rfl⟩ := symAt_some h
  simp only [mayAll, Bool.and_eq_true, List.all_eq_true] at hm
  have h1 := hm.2 _ (List.getElem_mem ha)
  simp only [mayP, Bool.and_eq_true] at h1
  have h2 := symsGo_each _ _ h1.1.1 _ (List.getElem_mem hb)
  simp only [symOkP, sizedOk, sizedB, Bool.and_eq_true, decide_eq_true_eq] at h2
  exact ⟨h2.1.1.1.2.1.1.1, h2.1.1.1.2.1.1.2, h2.1.1.1.1.1.2, h2.1.1.1.1.2⟩
theorem mayGo_each {l : List GObj} : ∀ {ps : List GP} {pr : Option GP}, mayGo l pr ps = true → ∀ p ∈ ps, ∃ s, symAt l p = some s
  | [], _, _, p, hp => by cases hp
  | q :: r, pr, h, p, hp => by
    simp only [mayGo, Bool.and_eq_true] at h
    rcases List.mem_cons.1 hp with rfl | hp
    · exact Option.isSome_iff_exists.1 h.1.1
    · exact mayGo_each h.2 p hp
theorem may_each {l : List GObj} {ps : List GP} (hm : layMay l ps = true) {i : Nat} (hi : i < ps.length) : ∃ s, symAt l ps[i] = some s ∧ pAt ps i = ps[i] ∧ Zs l ps i = s.size ∧ Ks l ps i = s.kind ∧ 1 ≤ s.size ∧ s.size ≤ 8192 ∧ 1 ≤ s.kind ∧ s.kind ≤ 3 := by
  simp only [layMay, Bool.and_eq_true] at hm
  obtain ⟨s, hs⟩ := mayGo_each hm.2 _ (List.getElem_mem hi)
  have hp : pAt ps i = ps[i] := by unfold pAt; rw [List.getD_eq_getElem?_getD, List.getElem?_eq_getElem hi]; rfl
  exact ⟨s, hs, hp, by unfold Zs sizeAt; rw [hp, hs], by unfold Ks kindAt; rw [hp, hs], sym_facts hm.1 hs⟩
theorem layOf_zero {l : List GObj} {ps : List GP} {a : List GAddr} {s : List GSpan} (h : layOf l ps = (a, s, 0)) : layMay l ps = true ∧ layKinds l ps [1, 3, 2] (List.replicate ps.length addr0) [] 256 = some (a, s) := by
  unfold layOf at h
  by_cases hm : layMay l ps = true
  · rw [if_pos hm] at h
    cases hk : layKinds l ps [1, 3, 2] (List.replicate ps.length addr0) [] 256 with
    | none => rw [hk] at h; simp at h
    | some r => rw [hk] at h; obtain ⟨x, y⟩ := r; simp at h; exact ⟨hm, by rw [h.1, h.2]⟩
  · rw [if_neg hm] at h; simp at h
theorem laid_of {l : List GObj} {ps : List GP} {a : List GAddr} {s : List GSpan} (h : layOf l ps = (a, s, 0)) : Laid l ps a s := by
  obtain ⟨hm, hk⟩ := layOf_zero h
  have hz : ∀ i, i < ps.length → 1 ≤ Zs l ps i := fun i hi => by
    obtain ⟨s, -, -, h1, -, h2, -⟩ := may_each hm hi
    rw [h1]; exact h2
  have hK : ∀ i, i < ps.length → Ks l ps i ∈ ([1, 3, 2] : List Int) ++ [] := fun i hi => by
    obtain ⟨s, -, -, -, h1, -, -, h2, h3⟩ := may_each hm hi
    rw [h1]
    have : s.kind = 1 ∨ s.kind = 2 ∨ s.kind = 3 := by omega
    rcases this with h4 | h4 | h4 <;> simp [h4]
  obtain ⟨e', h1, h2, h3⟩ := layKinds_inv hz [1, 3, 2] [] (List.replicate ps.length addr0) [] 256 (fun k _ h => by cases h) (by decide) ⟨by simp, fun i hd => absurd hd.2 (by simp), fun i hd => absurd hd.2 (by simp), fun i j hd => absurd hd.2 (by simp), fun i j hd => absurd hd.2 (by simp)⟩ ⟨fun x hx => (by cases hx), fun i _ hk => (by cases hk)⟩ (by omega) (by omega) a s hk
  exact ⟨h2.len, fun i hi => h2.pl i ⟨hi, hK i hi⟩, fun i hi => by have := h2.lo i ⟨hi, hK i hi⟩; omega, fun i j hi hj => h2.dj i j ⟨hi, hK i hi⟩ ⟨hj, hK j hj⟩, fun i j hi hj => h2.pg i j ⟨hi, hK i hi⟩ ⟨hj, hK j hj⟩, fun i hi => h3.2 i hi (hK i hi)⟩
end Go.Proofs.YtboegjdkedjhcaaGreatDoor
namespace Go.Proofs.YtboegjdkedjhcaaGreatDoor
theorem relsGo_ge {n : Int} : ∀ {e : Int} {l : List GRel}, relsGo n e l = true → 0 ≤ e → ∀ x ∈ l, 0 ≤ x.off
  | _, [], _, _, x, hx => by cases hx
  | e, y :: r, h, he, x, hx => by
    simp only [relsGo, Bool.and_eq_true, decide_eq_true_eq] at h
    obtain ⟨⟨⟨⟨⟨h1, h2⟩, h3⟩, h4⟩, h5⟩, h6⟩ := h
    have hw := widthOf_bd y.kind
    rcases List.mem_cons.1 hx with rfl | hx
    · omega
    · exact relsGo_ge h6 (by omega) x hx
theorem fillL_length : ∀ (rs : List GRel) (ys : List Int) (b : BL), (∀ x ∈ rs, 0 ≤ x.off ∧ x.off + widthOf x.kind ≤ b.length) → ∀ b', fillL b rs ys = some b' → b'.length = b.length
  | [], ys, b, _, b', h => by
    cases ys <;> (simp only [fillL, Option.some.injEq] at h; rw [h])
  | x :: r, [], b, _, b', h => by simp only [fillL, Option.some.injEq] at h; rw [h]
  | x :: r, a :: q, b, hx, b', h => by
    rw [fillL] at h
    split at h
    · cases h
    · have h0 := hx x (by simp)
      have hw := widthOf_bd x.kind
      have hl : (putB b (leB (widthOf x.kind).toNat (fillV x a)) x.off.toNat).length = b.length := putB_length (by rw [leB_length]; omega)
      rw [fillL_length r q _ (fun y hy => by rw [hl]; exact hx y (by simp [hy])) b' h, hl]
theorem fillR_size {s : GSym} {ys : List Int} (hb : s.bytes.size < 4294967296) (h : (fillR s ys).2 = 0) : ((fillR s ys).1.size : Int) = s.size ∧ symOkP s = true := by
  unfold fillR at h ⊢
  by_cases h1 : symOkP s = true
  · rw [if_pos h1] at h ⊢
    by_cases h2 : ys.length = s.rels.length
    · rw [if_pos h2] at h ⊢
      cases hf : fillL (bytes0 s) s.rels ys with
      | none => rw [hf] at h; simp at h
      | some b =>
        obtain ⟨f1, f2, f3, f4, f5⟩ := symOk_fits h1 hb
        have hl := bytes0_length f1
        have hge : ∀ x ∈ s.rels, 0 ≤ x.off := by
          have h1' := h1
          simp only [symOkP, Bool.and_eq_true, placesOk] at h1'
          exact relsGo_ge h1'.1.1.2.1 (by omega)
        have := fillL_length _ _ _ (fun x hx => ⟨hge x hx, by have := (f5 x hx).2.2; omega⟩) b hf
        refine ⟨?_, h1⟩
        show ((bsOf b).size : Int) = s.size
        rw [bsOf_size, this, hl]
        omega
    · rw [if_neg h2] at h; simp at h
  · rw [if_neg h1] at h; simp at h
theorem refsGo_len {l : List GObj} {a : Int} : ∀ (rs : List GRel) (acc : List (Nat × Nat)), (refsGo l a acc rs).1.length ≤ acc.length + rs.length
  | [], acc => by simp [refsGo]
  | x :: r, acc => by
    rw [refsGo]
    cases findR l a x.name.data.toList with
    | none => simp
    | some p =>
      have := refsGo_len (l := l) (a := a) r (acc ++ [p])
      simp at this ⊢
      omega
theorem relsAt_sym {l : List GObj} {p : GP} {s : GSym} (h : symAt l p = some s) : relsAt l p.1.toNat p.2.toNat = s.rels := by
  obtain ⟨a, b, ha, hb, rfl, rfl⟩ := symAt_some h
  simp [relsAt, List.getElem?_eq_getElem ha, List.getElem?_eq_getElem hb]
theorem mem_sym {l : List GObj} {p : GP} {s : GSym} (h : symAt l p = some s) : ∃ o ∈ l, s ∈ o.syms := by
  obtain ⟨a, b, ha, hb, rfl, rfl⟩ := symAt_some h
  exact ⟨_, List.getElem_mem ha, List.getElem_mem hb⟩
theorem may_symOk {l : List GObj} {p : GP} {s : GSym} (hm : mayAll l = true) (h : symAt l p = some s) : symOkP s = true := by
  obtain ⟨o, ho, hs⟩ := mem_sym h
  simp only [mayAll, Bool.and_eq_true, List.all_eq_true] at hm
  have h1 := hm.2 o ho
  simp only [mayP, Bool.and_eq_true] at h1
  exact symsGo_each _ _ h1.1.1 _ hs
theorem refs_len {l : List GObj} {p : GP} {s : GSym} (hm : mayAll l = true) (h : symAt l p = some s) : (refsV (beginR l) l p.1 p.2).1.length ≤ 1024 := by
  unfold refsV
  split
  · simp
  · split
    · have h1 := refsGo_len (l := l) (a := p.1) (relsAt l p.1.toNat p.2.toNat) []
      rw [relsAt_sym h] at h1 ⊢
      have h2 := may_symOk hm h
      simp only [symOkP, Bool.and_eq_true, placesOk, decide_eq_true_eq] at h2
      have := h2.1.1.2.2
      simp at h1
      omega
    · simp
/-- spans, one behind the other, each from a page on -/
structure SpUp (e : Int) (spans : List GSpan) : Prop where
  each : ∀ x ∈ spans, x.at_ % 256 = 0 ∧ 256 ≤ x.at_ ∧ 1 ≤ x.size ∧ x.at_ + x.size ≤ e
  up : spans.Pairwise (fun x y => x.at_ + x.size ≤ y.at_)
theorem laySyms_to {l : List GObj} {kd : Int} (hz : ∀ p s, symAt l p = some s → 0 ≤ s.size) : ∀ (r : List GP) (k : Nat) (out : List GAddr) (e : Int) {out' e'}, laySyms l kd r k out e = some (out', e') → e ≤ e' ∧ (e ≤ 131072 → e' ≤ 131072)
  | [], k, out, e, out', e', h => by
    simp only [laySyms, Option.some.injEq, Prod.mk.injEq] at h
    omega
  | p :: r, k, out, e, out', e', h => by
    rw [laySyms] at h
    cases hs : symAt l p with
    | none => rw [hs] at h; exact laySyms_to hz r _ _ _ h
    | some s =>
      rw [hs] at h
      simp only [] at h
      split at h
      · split at h
        · cases h
        · have h1 := laySyms_to hz r _ _ _ h
          have h2 := upTo8 e
          have h3 := hz p s hs
          omega
      · exact laySyms_to hz r _ _ _ h
theorem layKinds_up {l : List GObj} {ps : List GP} (hz : ∀ p s, symAt l p = some s → 0 ≤ s.size) : ∀ (rest : List Int) (out : List GAddr) (spans : List GSpan) (e : Int) {out' spans'}, layKinds l ps rest out spans e = some (out', spans') → SpUp e spans → 256 ≤ e → e ≤ 131072 →
    SpUp 131072 spans' ∧ spans'.length ≤ spans.length + rest.length ∧ (∀ x ∈ spans', x ∈ spans ∨ x.kind ∈ rest)
  | [], out, spans, e, out', spans', h, hs, _, he => by
    simp only [layKinds, Option.some.injEq, Prod.mk.injEq] at h
    obtain ⟨-, rfl⟩ := h
    exact ⟨⟨fun x hx => by have := hs.each x hx; omega, hs.up⟩, by simp, fun x hx => .inl hx⟩
  | kd :: rest, out, spans, e, out', spans', h, hs, he0, he => by
    rw [layKinds] at h
    cases hl : laySyms l kd ps 0 out (upTo e 256) with
    | none => rw [hl] at h; cases h
    | some r =>
      obtain ⟨o1, e1⟩ := r
      rw [hl] at h
      simp only [] at h
      have hu := upTo256 e he0
      have h1 := laySyms_to hz _ _ _ _ hl
      have h2 := h1.2 (hu.2.2 he)
      by_cases hpos : 0 < e1 - upTo e 256
      · rw [if_pos hpos] at h
        obtain ⟨a1, a2, a3⟩ := layKinds_up hz rest o1 _ e1 h ⟨fun x hx => by
          rcases List.mem_append.1 hx with hx | hx
          · have := hs.each x hx; omega
          · obtain rfl : x = _ := by simpa using hx
            simp only []; omega, by
          rw [List.pairwise_append]
          refine ⟨hs.up, List.pairwise_singleton _ _, fun x hx y hy => ?_⟩
          obtain rfl : y = _ := by simpa using hy
          have := hs.each x hx
          simp only []; omega⟩ (by omega) h2
        refine ⟨a1, by simp at a2 ⊢; omega, fun x hx => ?_⟩
        rcases a3 x hx with h3 | h3
        · rcases List.mem_append.1 h3 with h3 | h3
          · exact .inl h3
          · obtain rfl : x = _ := by simpa using h3
            exact .inr List.mem_cons_self
        · exact .inr (List.mem_cons_of_mem _ h3)
      · rw [if_neg hpos] at h
        obtain ⟨a1, a2, a3⟩ := layKinds_up hz rest o1 _ e1 h ⟨fun x hx => by have := hs.each x hx; omega, hs.up⟩ (by omega) h2
        exact ⟨a1, by simp at a2 ⊢; omega, fun x hx => (a3 x hx).imp id (List.mem_cons_of_mem _)⟩
theorem spans_of {l : List GObj} {ps : List GP} {wh : List GAddr} {spans : List GSpan} (h : layOf l ps = (wh, spans, 0)) : SpUp 131072 spans ∧ spans.length ≤ 3 ∧ ∀ x ∈ spans, x.kind = 1 ∨ x.kind = 3 ∨ x.kind = 2 := by
  obtain ⟨hm, hk⟩ := layOf_zero h
  simp only [layMay, Bool.and_eq_true] at hm
  obtain ⟨h1, h2, h3⟩ := layKinds_up (fun p s hs => by have := (sym_facts hm.1 hs).1; omega) _ _ _ _ hk ⟨fun x hx => (by cases hx), List.Pairwise.nil⟩ (by omega) (by omega)
  exact ⟨h1, by simpa using h2, fun x hx => by rcases h3 x hx with h4 | h4; cases h4; simpa using h4⟩
theorem aAt_get {wh : List GAddr} {k : Nat} (h : k < wh.length) : aAt wh k = wh[k] := by unfold aAt; rw [List.getD_eq_getElem?_getD, List.getElem?_eq_getElem h]; rfl
theorem segsOk_of {l : List GObj} {ps : List GP} {wh : List GAddr} {spans : List GSpan} (h : layOf l ps = (wh, spans, 0)) (hb : ∀ o ∈ l, ∀ s ∈ o.syms, s.bytes.size < 4294967296) : SegsOk l wh ps spans := by
  have hl := laid_of h
  obtain ⟨hm, -⟩ := layOf_zero h
  have hma : mayAll l = true := by simp only [layMay, Bool.and_eq_true] at hm; exact hm.1
  obtain ⟨h1, h2, -⟩ := spans_of h
  refine ⟨hl.len, fun k hk hk2 => ?_, fun x hx => by have := h1.each x hx; omega, h2⟩
  obtain ⟨s, q1, q2, q3, -, q5, -⟩ := may_each hm hk
  obtain ⟨o, ho, hso⟩ := mem_sym q1
  have hlo := hl.lo k hk
  rw [aAt_get hk2, q3] at hlo
  refine ⟨s, q1, hb o ho s hso, by have := refs_len hma q1; omega, by omega, by omega, fun hc => ?_⟩
  have := (fillR_size (hb o ho s hso) hc).1
  unfold filledR
  omega
end Go.Proofs.YtboegjdkedjhcaaGreatDoor
