/- Each symbol's bytes in an image, in plain words. No program in sight. Where nothing is large, the program and the reference accept the same objects. No program in sight. The walk of aediculelaw08.Large. The walk of aediculelaw13.Large. The walk of LinkPlaces. -/
import Derived.Test.YtabnacdjcefgnaaGreatDoorBd24
import Derived.Test.YtabnacdjcefgnaaGreatDoorBd02
import Derived.IntWalk
import Derived.Test.YtabnacdjcefgnaaGreatDoorRows
import Derived.WalkLawsBesides
import Derived.Lib.Hide
import Derived.Deep.Light
import Derived.Handy
import Derived.Test.YtabnacdjcefgnaaGreatDoorBd04
namespace Go.Proofs.YtabnacdjcefgnaaGreatDoor
def slice (b : BL) (a c : Nat) : BL := (b.drop a).take c
theorem slice_get (b : BL) (a c j : Nat) : (slice b a c)[j]? = if j < c then b[a + j]? else none := by
  unfold slice
  rw [List.getElem?_take, List.getElem?_drop]
theorem putB_get {b s : BL} {o : Nat} (h : o + s.length ≤ b.length) (q : Nat) : (putB b s o)[q]? = if q < o then b[q]? else if q < o + s.length then s[q - o]? else b[q]? := by
  unfold putB
  have h1 : (b.take o).length = o := by rw [List.length_take]; omega
  by_cases hq : q < o
  · rw [if_pos hq, List.append_assoc, List.getElem?_append_left (by omega), List.getElem?_take, if_pos hq]
  · rw [if_neg hq]
    by_cases hq2 : q < o + s.length
    · rw [if_pos hq2, List.append_assoc, List.getElem?_append_right (by omega), h1, List.getElem?_append_left (by omega)]
    · rw [if_neg hq2, List.getElem?_append_right (by rw [List.length_append]; omega), List.length_append, h1, List.getElem?_drop]
      congr 1; omega
theorem slice_other {b s : BL} {o a c : Nat} (h : o + s.length ≤ b.length) (hd : a + c ≤ o ∨ o + s.length ≤ a) : slice (putB b s o) a c = slice b a c := by
  apply List.ext_getElem?
  intro j
  rw [slice_get, slice_get]
  by_cases hj : j < c
  · rw [if_pos hj, if_pos hj, putB_get h]
    split
    · rfl
    · rw [if_neg (by omega)]
  · rw [if_neg hj, if_neg hj]
theorem slice_self {b s : BL} {o : Nat} (h : o + s.length ≤ b.length) : slice (putB b s o) o s.length = s := by
  apply List.ext_getElem?
  intro j
  rw [slice_get]
  by_cases hj : j < s.length
  · rw [if_pos hj, putB_get h, if_neg (by omega), if_pos (by omega)]
    congr 1; omega
  · rw [if_neg hj, List.getElem?_eq_none (by omega)]
theorem slice_slice (b : BL) (a c x n : Nat) (h : x + n ≤ c) : slice (slice b a c) x n = slice b (a + x) n := by
  apply List.ext_getElem?
  intro j
  rw [slice_get, slice_get, slice_get]
  by_cases hj : j < n
  · rw [if_pos hj, if_pos hj, if_pos (by omega)]
    congr 1; omega
  · rw [if_neg hj, if_neg hj]
theorem bsOf_extract (b : BL) (x n : Nat) : (bsOf b).extract x (x + n) = bsOf (slice b x n) := by
  apply ByteArray.ext
  apply Array.ext'
  unfold bsOf slice
  simp [ByteArray.extract, ByteArray.copySlice]
def atN (wh : List GAddr) (i : Nat) : Nat := (aAt wh i).at_.toNat
theorem fillGo_inv {l : List GObj} {ps : List GP} {wh : List GAddr} {sp : List GSpan} {f : BL} {nm : ByteArray} (hl : Laid l ps wh sp) (hm : layMay l ps = true) (hb : ∀ o ∈ l, ∀ s ∈ o.syms, s.bytes.size < 4294967296) : ∀ (m k : Nat) (b : BL), m = ps.length - k → k ≤ ps.length → b.length = 131072 → fillGo l wh (ps.drop k) (wh.drop k) b = (f, nm, 0) →
    f.length = 131072 ∧ (∀ i, k ≤ i → i < ps.length → ∃ s, symAt l (pAt ps i) = some s ∧ (filledR l wh (pAt ps i) s).2 = 0 ∧ slice f (atN wh i) s.size.toNat = (filledR l wh (pAt ps i) s).1.data.toList) ∧
      (∀ a c, (∀ i, k ≤ i → i < ps.length → a + c ≤ atN wh i ∨ atN wh i + (Zs l ps i).toNat ≤ a) → slice f a c = slice b a c)
  | 0, k, b, hmk, hk, hbl, h => by
    have : ¬ k < ps.length := by omega
    rw [fillGo_end this] at h
    simp only [Prod.mk.injEq] at h
    obtain ⟨rfl, -⟩ := h
    exact ⟨hbl, fun i h1 h2 => by omega, fun a c _ => rfl⟩
  | m + 1, k, b, hmk, hk, hbl, h => by
    have hlt : k < ps.length := by omega
    have hlt2 : k < wh.length := by rw [hl.len]; exact hlt
    obtain ⟨s, q1, q2, q3, -, q5, q6, -⟩ := may_each hm hlt
    obtain ⟨o, ho, hso⟩ := mem_sym q1
    rw [fillGo_step hlt hlt2 rfl rfl q1] at h
    by_cases hc : (filledR l wh ps[k] s).2 = 0
    · rw [if_pos hc] at h
      have hsz := (fillR_size (hb o ho s hso) hc).1
      have hlo := hl.lo k hlt
      have hat : atN wh k = wh[k].at_.toNat := by unfold atN; rw [aAt_get hlt2]
      rw [aAt_get hlt2, q3] at hlo
      have hfl : (filledR l wh ps[k] s).1.data.toList.length = s.size.toNat := by rw [len_list]; unfold filledR; omega
      have hfit : wh[k].at_.toNat + (filledR l wh ps[k] s).1.data.toList.length ≤ b.length := by rw [hfl, hbl]; omega
      obtain ⟨a1, a2, a3⟩ := fillGo_inv hl hm hb m (k + 1) _ (by omega) (by omega) (by rw [putB_length hfit]; exact hbl) h
      refine ⟨a1, fun i h1 h2 => ?_, fun a c hd => ?_⟩
      · by_cases hik : i = k
        · subst hik
          rw [q2]
          refine ⟨s, q1, hc, ?_⟩
          have hdj := a3 (atN wh i) s.size.toNat (fun j hj1 hj2 => by
            have h3 := hl.dj i j hlt hj2 (by omega)
            have h4 := hl.lo j hj2
            have h5 := hl.lo i hlt
            have h6 : 1 ≤ Zs l ps j := by obtain ⟨_, -, -, e, -, e2, -⟩ := may_each hm hj2; omega
            unfold atN
            rw [q3] at h3
            omega)
          rw [hdj, hat, ← hfl]
          exact slice_self hfit
        · exact a2 i (by omega) h2
      · rw [a3 a c fun i h1 h2 => hd i (by omega) h2]
        have h7 := hd k (Nat.le_refl _) hlt
        rw [q3, hat] at h7
        exact slice_other hfit (by rw [hfl]; omega)
    · rw [if_neg hc] at h
      simp only [Prod.mk.injEq] at h
      exact absurd h.2.2 hc
theorem img_at {l : List GObj} {ps : List GP} {wh : List GAddr} {sp : List GSpan} {f : BL} (h : layOf l ps = (wh, sp, 0)) (hf : f.length = 131072) {i : Nat} (hi : i < ps.length) :
    imgB (sp.map (segOf f)) (atN wh i) (Zs l ps i).toNat = (bsOf (slice f (atN wh i) (Zs l ps i).toNat), permK (Ks l ps i), true) := by
  have hl := laid_of h
  obtain ⟨hm, -⟩ := layOf_zero h
  obtain ⟨hup, -, -⟩ := spans_of h
  obtain ⟨x, h1, -, h2, h3, h4, h5⟩ := hl.sp i hi
  have h6 : 1 ≤ Zs l ps i := by obtain ⟨_, -, -, e, -, e2, -⟩ := may_each hm hi; omega
  have hlo := hl.lo i hi
  have hx := List.mem_of_find?_eq_some h1
  have hk : x.kind = Ks l ps i := by simpa using List.find?_some h1
  have hsz : ∀ y ∈ sp, (segOf f y).bytes.size = y.size.toNat := fun y hy => by
    have := hup.each y hy
    show (bsOf ((f.drop y.at_.toNat).take y.size.toNat)).size = _
    rw [bsOf_size, List.length_take, List.length_drop, hf]; omega
  obtain ⟨as', bs', hsp⟩ := List.append_of_mem hx
  have hpw := hup.up
  rw [hsp, List.pairwise_append] at hpw
  have hfind : (sp.map (segOf f)).find? (segHit (atN wh i) (Zs l ps i).toNat) = some (segOf f x) := by
    rw [hsp, List.map_append, List.map_cons, List.find?_append]
    have hno : (as'.map (segOf f)).find? (segHit (atN wh i) (Zs l ps i).toNat) = none := by
      rw [List.find?_eq_none]
      intro z hz
      obtain ⟨y, hy, rfl⟩ := List.mem_map.1 hz
      have hyx := hpw.2.2 y hy x List.mem_cons_self
      have hys := hsz y (by rw [hsp]; simp [hy])
      have hye := hup.each y (by rw [hsp]; simp [hy])
      unfold segHit atN
      simp only [Bool.and_eq_true, decide_eq_true_eq, not_and]
      intro _
      rw [hys]
      show ¬ (((aAt wh i).at_.toNat : Int) - y.at_ + ((Zs l ps i).toNat : Int) ≤ (y.size.toNat : Int))
      omega
    have hyes : segHit (atN wh i) (Zs l ps i).toNat (segOf f x) = true := by
      unfold segHit atN
      rw [hsz x hx]
      show (decide (x.at_ ≤ ((aAt wh i).at_.toNat : Int)) && decide (((aAt wh i).at_.toNat : Int) - x.at_ + ((Zs l ps i).toNat : Int) ≤ (x.size.toNat : Int))) = true
      simp only [Bool.and_eq_true, decide_eq_true_eq]
      omega
    rw [hno, List.find?_cons, hyes]
    rfl
  unfold imgB
  rw [hfind]
  have hxe := hup.each x hx
  have hex : (segOf f x).bytes.extract (atN wh i - (segOf f x).addr.toNat) (atN wh i - (segOf f x).addr.toNat + (Zs l ps i).toNat) = bsOf (slice f (atN wh i) (Zs l ps i).toNat) := by
    show (bsOf (slice f x.at_.toNat x.size.toNat)).extract (atN wh i - x.at_.toNat) (atN wh i - x.at_.toNat + (Zs l ps i).toNat) = _
    have ha : x.at_.toNat + (atN wh i - x.at_.toNat) = atN wh i := by unfold atN; omega
    rw [bsOf_extract, slice_slice _ _ _ _ _ (by unfold atN; omega), ha]
  show ((segOf f x).bytes.extract (atN wh i - (segOf f x).addr.toNat) (atN wh i - (segOf f x).addr.toNat + (Zs l ps i).toNat), permK x.kind, true) = _
  rw [hex, hk]
/-- what LinkPlaces asks of each symbol of an image -/
def PlOk (l : List GObj) (x : GLink) (a : GAddr) : Prop :=
  ∃ s, symAt l (a.obj, a.sym) = some s ∧ s.bytes.size < 4294967296 ∧ (0 ≤ a.at_ ∧ a.at_ ≤ 131072) ∧ (1 ≤ s.size ∧ s.size ≤ 8192) ∧ (1 ≤ s.kind ∧ s.kind ≤ 3) ∧ (refsV (beginR l) l a.obj a.sym).2.2 = 0 ∧ (refsV (beginR l) l a.obj a.sym).1.length ≤ 1024 ∧
    (∀ q ∈ (refsV (beginR l) l a.obj a.sym).1, (layFind x.addrs (toG q)).2 = true) ∧ (fillR s (addrsOf x.addrs (refsV (beginR l) l a.obj a.sym).1)).2 = 0 ∧
    imgB x.segs a.at_.toNat s.size.toNat = ((fillR s (addrsOf x.addrs (refsV (beginR l) l a.obj a.sym).1)).1, permK s.kind, true)
theorem find_in {l : List GObj} {ps : List GP} {wh : List GAddr} {sp : List GSpan} (hl : Laid l ps wh sp) {q : GP} (hq : q ∈ ps) : (layFind wh q).2 = true := by
  obtain ⟨i, hi, rfl⟩ := List.getElem_of_mem hq
  have hi2 : i < wh.length := by rw [hl.len]; exact hi
  have hp := hl.pl i hi
  have hpa : pAt ps i = ps[i] := by unfold pAt; rw [List.getD_eq_getElem?_getD, List.getElem?_eq_getElem hi]; rfl
  rw [aAt_get hi2, hpa] at hp
  unfold layFind
  cases hf : wh.find? (fun a => decide (a.obj = ps[i].1) && decide (a.sym = ps[i].2)) with
  | some a => rfl
  | none =>
    rw [List.find?_eq_none] at hf
    exact absurd (by simp [hp.1, hp.2]) (hf wh[i] (List.getElem_mem hi2))
/-- what an image that is linked has -/
theorem linked_ok {l : List GObj} {nm : ByteArray} {m : PP} {ps : List GP} (hb : mayAll l = true → ∀ o ∈ l, ∀ s ∈ o.syms, s.bytes.size < 4294967296) (hz : (linkR l nm m ps).2.2 = 0) :
    (linkR l nm m ps).1.entry = (layFind (linkR l nm m ps).1.addrs (toG m)).1 ∧ (layFind (linkR l nm m ps).1.addrs (toG m)).2 = true ∧ (∀ a ∈ (linkR l nm m ps).1.addrs, PlOk l (linkR l nm m ps).1 a) ∧ (∀ x ∈ (linkR l nm m ps).1.segs, x.bytes.size ≤ 131072) ∧ (linkR l nm m ps).1.addrs.length = ps.length := by
  obtain ⟨⟨wh, sp, lc⟩, hlay⟩ : ∃ r, layOf l ps = r := ⟨_, rfl⟩
  unfold linkR at hz ⊢
  rw [hlay] at hz ⊢
  simp only [] at hz ⊢
  split at hz
  · simp at hz
  · rename_i h1
    rw [if_neg h1]
    split at hz
    · simp at hz
    · rename_i h2
      rw [if_neg h2]
      split at hz
      · rename_i h3; exact absurd hz h3
      · rename_i h3
        rw [if_neg h3]
        have hlc : lc = 0 := by simpa using h3
        subst hlc
        have hcl : closedB l ps (toG m) = true := by
          cases hcb : closedB l ps (toG m) with
          | true => rfl
          | false => exact absurd (.inr hcb) h1
        obtain ⟨hm, -⟩ := layOf_zero hlay
        have hl := laid_of hlay
        have hma : mayAll l = true := by simp only [layMay, Bool.and_eq_true] at hm; exact hm.1
        obtain ⟨⟨f, fn, fc⟩, hfg⟩ : ∃ r, fillGo l wh ps wh zeros18 = r := ⟨_, rfl⟩
        rw [hfg] at hz ⊢
        unfold linkEnd at hz ⊢
        simp only [] at hz ⊢
        split at hz
        · rename_i h4; exact absurd hz h4
        · rename_i h4
          rw [if_neg h4]
          have hfc : fc = 0 := by simpa using h4
          subst hfc
          split at hz
          · rename_i h5; exact absurd hz h5
          · rename_i h5
            rw [if_neg h5]
            obtain ⟨a1, a2, -⟩ := fillGo_inv hl hm (hb hma) ps.length 0 zeros18 rfl (Nat.zero_le _) List.length_replicate hfg
            simp only [closedB, Bool.and_eq_true] at hcl
            refine ⟨rfl, find_in hl (inG_iff.1 hcl.1), fun a ha => ?_, fun x hx => ?_, hl.len⟩
            · obtain ⟨i, hi, rfl⟩ := List.getElem_of_mem ha
              have hi2 : i < wh.length := hi
              have hip : i < ps.length := by rw [← hl.len]; exact hi2
              obtain ⟨s, q1, q2, q3, q4, q5, q6, q7, q8⟩ := may_each hm hip
              obtain ⟨o, ho, hso⟩ := mem_sym q1
              have hp := hl.pl i hip
              have hpa : pAt ps i = ps[i] := q2
              rw [aAt_get hi2, hpa] at hp
              have hlo := hl.lo i hip
              rw [aAt_get hi2] at hlo
              have hpe : (wh[i].obj, wh[i].sym) = ps[i] := Prod.ext hp.1 hp.2
              have hcp := List.all_eq_true.1 hcl.2 ps[i] (List.getElem_mem hip)
              unfold closedP at hcp
              simp only [Bool.and_eq_true, decide_eq_true_eq] at hcp
              obtain ⟨s', r1, r2, r3⟩ := a2 i (Nat.zero_le _) hip
              rw [hpa, q1] at r1
              obtain rfl := Option.some.inj r1
              have him := img_at hlay a1 hip
              have hat : atN wh i = wh[i].at_.toNat := by unfold atN; rw [aAt_get hi2]
              show PlOk l _ wh[i]
              unfold PlOk
              rw [hpe, show wh[i].obj = ps[i].1 from hp.1, show wh[i].sym = ps[i].2 from hp.2]
              refine ⟨s, q1, hb hma o ho s hso, by omega, ⟨q5, q6⟩, ⟨q7, q8⟩, hcp.1, refs_len hma q1, fun q hq => ?_, ?_, ?_⟩
              · have hout : outB ps (refsV (beginR l) l ps[i].1 ps[i].2).1 = false := by simpa using hcp.2
                unfold outB at hout
                have := List.any_eq_false.1 hout q hq
                exact find_in hl (inG_iff.1 (by simpa using this))
              · rw [hpa] at r2; exact r2
              · rw [q3, q4, hat] at him
                rw [hpa, hat] at r3
                show imgB (sp.map (segOf f)) wh[i].at_.toNat s.size.toNat = _
                rw [him, r3]
                rfl
            · obtain ⟨y, hy, rfl⟩ := List.mem_map.1 hx
              have := (spans_of hlay).1.each y hy
              show (bsOf ((f.drop y.at_.toNat).take y.size.toNat)).size ≤ _
              rw [bsOf_size, List.length_take]; omega
end Go.Proofs.YtabnacdjcefgnaaGreatDoor
namespace Go.Proofs.YtabnacdjcefgnaaGreatDoor
open Go.RowKit
theorem sumI_nonneg {α : Type} {f : α → Int} : ∀ {l : List α}, (∀ x ∈ l, 0 ≤ f x) → 0 ≤ sumI f l
  | [], _ => by simp [sumI]
  | a :: r, h => by
    have h1 := h a (by simp)
    have h2 := sumI_nonneg (l := r) (fun x hx => h x (by simp [hx]))
    simp only [sumI]; omega
theorem sumI_le {α : Type} {f : α → Int} {c : Int} : ∀ {l : List α}, (∀ x ∈ l, f x ≤ c) → sumI f l ≤ l.length * c
  | [], _ => by simp [sumI]
  | a :: r, h => by
    have h1 := h a (by simp)
    have h2 := sumI_le (l := r) (fun x hx => h x (by simp [hx]))
    simp only [sumI, List.length_cons, Int.natCast_add, Int.add_mul]; omega
theorem sumI_mem {α : Type} {f : α → Int} : ∀ {l : List α} {x : α}, (∀ x ∈ l, 0 ≤ f x) → x ∈ l → f x ≤ sumI f l
  | a :: r, x, h, hx => by
    have h1 := h a (by simp)
    have h3 := sumI_nonneg (l := r) (fun x hx => h x (by simp [hx]))
    rcases List.mem_cons.1 hx with rfl | hx
    · simp only [sumI]; omega
    · have h2 := sumI_mem (fun x hx => h x (by simp [hx])) hx
      simp only [sumI]; omega
theorem isName_le {s : ByteArray} (h : isName s = true) : s.size ≤ 32 := by
  simp only [isName, Bool.and_eq_true, decide_eq_true_eq] at h
  exact h.2
theorem relsGo_names {n : Int} : ∀ {l : List GRel} {e : Int}, relsGo n e l = true → ∀ x ∈ l, isName x.name = true
  | [], _, _, x, hx => by cases hx
  | a :: r, e, h, x, hx => by
    simp only [relsGo, Bool.and_eq_true] at h
    rcases List.mem_cons.1 hx with rfl | hx
    · exact h.1.1.1.1.2
    · exact relsGo_names h.2 x hx
/-- what both readings ask -/
def weakSym (s : GSym) : Prop := s.name.size ≤ 32 ∧ s.rels.length ≤ 1024 ∧ s.notes.length ≤ 8 ∧ ∀ x ∈ s.rels, x.name.size ≤ 32
theorem weak_of_P {s : GSym} (h : symOkP s = true) : weakSym s := by
  simp only [symOkP, placesOk, Bool.and_eq_true, decide_eq_true_eq] at h
  exact ⟨isName_le h.1.1.1.1.1.1.1, h.1.1.2.2, h.1.2, fun x hx => isName_le (relsGo_names h.1.1.2.1 x hx)⟩
theorem weak_of_R {s : GSym} (h : symOk s = true) : weakSym s := by
  simp only [symOk, relsOk, Bool.and_eq_true, decide_eq_true_eq] at h
  exact ⟨isName_le h.1.1.1.1.1.1.1.1.1.1, h.1.2.2, h.2, fun x hx => isName_le (relsGo_names h.1.2.1 x hx)⟩
def weakObj (o : GObj) : Prop := o.syms.length ≤ 64 ∧ ∀ s ∈ o.syms, weakSym s
theorem weakObj_of {o : GObj} (h : mayP o = true ∨ mayOk o = true) : weakObj o := by
  rcases h with h | h
  · simp only [mayP, Bool.and_eq_true, decide_eq_true_eq] at h
    exact ⟨h.2, fun s hs => weak_of_P (symsGo_each _ _ h.1.1 s hs)⟩
  · simp only [mayOk, Bool.and_eq_true, decide_eq_true_eq] at h
    exact ⟨h.2, fun s hs => weak_of_R (symsGoR_each _ _ h.1.1 s hs)⟩
theorem relS_nonneg (x : GRel) : 0 ≤ relS x := by unfold relS; omega
theorem symS_ge (s : GSym) : 0 ≤ symS s ∧ (s.bytes.size : Int) / 64 ≤ symS s := by
  have := sumI_nonneg (f := relS) (l := s.rels.take 1100) (fun x _ => relS_nonneg x)
  unfold symS
  omega
theorem symS_le {s : GSym} (h : weakSym s) (hb : s.bytes.size ≤ 140737488355328) : symS s ≤ 2199023260000 := by
  obtain ⟨h1, h2, h3, h4⟩ := h
  have := sumI_le (f := relS) (c := 0) (l := s.rels.take 1100) (fun x hx => by have := h4 x (List.mem_of_mem_take hx); unfold relS; omega)
  unfold symS
  omega
theorem objS_ge (o : GObj) : 0 ≤ objS o := by
  have := sumI_nonneg (f := symS) (l := o.syms.take 200) (fun x _ => (symS_ge x).1)
  unfold objS; omega
theorem objS_le {o : GObj} (h : weakObj o) (hb : ∀ s ∈ o.syms, s.bytes.size ≤ 140737488355328) : objS o ≤ 140737488700000 := by
  obtain ⟨h1, h2⟩ := h
  have := sumI_le (f := symS) (c := 2199023260000) (l := o.syms.take 200) (fun x hx => symS_le (h2 x (List.mem_of_mem_take hx)) (hb x (List.mem_of_mem_take hx)))
  have hl := List.length_take_le 200 o.syms
  have hl2 : (o.syms.take 200).length ≤ o.syms.length := List.length_take_le' 200 o.syms
  unfold objS
  omega
def ObjsSz (l : List GObj) : Prop := ∀ o ∈ l, ∀ s ∈ o.syms, s.bytes.size ≤ 140737488355328
theorem small_bytes32 {l : List GObj} (hL : largeB l = false) (hsz : ObjsSz l) (hw : ∀ o ∈ l, weakObj o) : ∀ o ∈ l, ∀ s ∈ o.syms, s.bytes.size < 4294967296 := by
  intro o ho s hs
  unfold largeB at hL
  simp only [Bool.or_eq_false_iff, decide_eq_false_iff_not] at hL
  obtain ⟨h1, h2⟩ := hL
  have hlen : l.length ≤ 20 := by omega
  have ht : l.take 40 = l := List.take_of_length_le (by omega)
  have hsum := sumI_le (f := objS) (c := 140737488700000) (l := l.take 40) (fun x hx => objS_le (hw x (List.mem_of_mem_take hx)) (hsz x (List.mem_of_mem_take hx)))
  have hge := sumI_nonneg (f := objS) (l := l.take 40) (fun x _ => objS_ge x)
  rw [ht] at hsum hge
  have hw64 : wrap64 (largeSum l) = largeSum l := by
    refine IntWalk.wrap64_in _ ⟨?_, ?_⟩ <;> unfold largeSum <;> rw [ht] <;> omega
  rw [hw64] at h2
  unfold largeSum at h2
  rw [ht] at h2
  have ho1 := sumI_mem (f := objS) (fun x _ => objS_ge x) ho
  have hs1 : symS s ≤ sumI symS (o.syms.take 200) := by
    rw [List.take_of_length_le (by have := (hw o ho).1; omega)]
    exact sumI_mem (fun x _ => (symS_ge x).1) hs
  have hs2 := (symS_ge s).2
  have he : objS o = (o.syms.length : Int) + sumI symS (o.syms.take 200) := rfl
  omega
theorem may_same {l : List GObj} (hL : largeB l = false) (hsz : ObjsSz l) : mayAll l = mayAllR l := by
  by_cases hw : ∀ o ∈ l, weakObj o
  · have h := small_bytes32 hL hsz hw
    unfold mayAll mayAllR
    rw [Bool.and_comm]
    congr 1
    rw [Bool.eq_iff_iff, List.all_eq_true, List.all_eq_true]
    exact ⟨fun q o ho => by rw [← mayP_eq (h o ho)]; exact q o ho, fun q o ho => by rw [mayP_eq (h o ho)]; exact q o ho⟩
  · obtain ⟨o, ho⟩ := Classical.not_forall.1 hw
    obtain ⟨hm, hn⟩ := Classical.not_imp.1 ho
    have h1 : mayP o = false := by
      cases h : mayP o with
      | false => rfl
      | true => exact absurd (weakObj_of (.inl h)) hn
    have h2 : mayOk o = false := by
      cases h : mayOk o with
      | false => rfl
      | true => exact absurd (weakObj_of (.inr h)) hn
    have h3 : l.all mayP = false := by rw [List.all_eq_false]; exact ⟨o, hm, by simp [h1]⟩
    have h4 : l.all mayOk = false := by rw [List.all_eq_false]; exact ⟨o, hm, by simp [h2]⟩
    simp [mayAll, mayAllR, h3, h4]
theorem begin_same {l : List GObj} (hL : largeB l = false) (hsz : ObjsSz l) : beginRR l = beginR l := by
  unfold beginR beginRR
  (rw [may_same hL hsz]) <;> rfl
theorem findAll_same {l : List GObj} (hL : largeB l = false) (hsz : ObjsSz l) (i : Int) (n : List UInt8) : findAllR l i n = findAll l i n := by
  unfold findAll findAllR
  (rw [begin_same hL hsz]) <;> rfl
theorem objsSz_of {w : World} {v : Value} {l : List GObj} (h : ObjsAt w v l) : ObjsSz l := by
  obtain ⟨p, cap, b, o, -, -, -, -, hc⟩ := h
  intro x hx s hs
  obtain ⟨i, hi, rfl⟩ := List.mem_iff_getElem.1 hx
  obtain ⟨vs, -, -, -, ⟨p', cap', b', o', -, -, -, -, hc'⟩, -⟩ := hc i hi
  obtain ⟨k, hk, rfl⟩ := List.mem_iff_getElem.1 hs
  obtain ⟨vr, vn, -, -, -, -, -, -, -, -, -, -, -, -, -, -, hb⟩ := hc' k hk
  exact hb
end Go.Proofs.YtabnacdjcefgnaaGreatDoor
namespace Go.Proofs.YtabnacdjcefgnaaGreatDoor
open Go.RowKit
set_option maxRecDepth 100000 in
set_option maxHeartbeats 2000000 in
theorem large_any (v : Value) (l : List GObj) (w : World) (h : ObjsAt w v l) :
    Calls Tryz.prog 28 #[v] w fun e w' => e = .returned (.bool (largeB l)) ∧ Below w.heap.size w w' := by
  obtain ⟨p, cap, b, o, rfl, hcap, hmax, hp, hc⟩ := h
  have HC := Lib.hid hc; clear hc
  have HP := Lib.hid hp; clear hp
  go_enter Tryz.func28, Tryz.ntmps28
  go_wp2
  go_loopw [3, 4] (fun v3 v4 wr => ∃ (i : Nat) (n : Int), i ≤ l.length ∧ i ≤ 40 ∧ v4 = .int .i64 i ∧ v3 = .int .i64 n ∧ n = wrap64 (sumI objS (l.take i)) ∧ Below w.heap.size w wr) (fun _ v4 _ => l.length - (intOf v4).toNat)
  case atStart => exact ⟨0, 0, Nat.zero_le _, by omega, rfl, rfl, by simp [sumI, wrap64], Below.refl _ _⟩
  case round =>
    obtain ⟨i, n, hi, hi40, rfl, rfl, hn, hbel⟩ := hrel
    have HN := Lib.hid hn; clear hn
    have HB := Lib.hid hbel; clear hbel
    by_cases hlt : i < l.length ∧ i < 40
    · obtain ⟨hlt1, hlt2⟩ := hlt
      obtain rfl := HP.out (by omega)
      obtain ⟨vs, g0, g1, g2, hin⟩ := HC.out i hlt1
      replace g2 := cell_keep HB.out g0 g2
      have g0' := size_keep HB.out g0
      have c2 : Hid (w.cell? ⟨b, o + i * 2 + 1, none⟩ = some vs) := by have := g2; rwa [HB.out.cell (p := ⟨b, o + i * 2 + 1, none⟩) g0] at this
      generalize hx : l[i] = x at g1 hin
      obtain ⟨xn, xs⟩ := x
      simp only [] at g1 hin
      have HX := Lib.hid hx; clear hx
      obtain ⟨⟨pS, capS, bS, oS, rfl, hcapS, hmaxS, hpS, hcS⟩, hnmx⟩ := hin
      have HCS := Lib.hid hcS; clear hcS
      have HPS := Lib.hid hpS; clear hpS
      clear g1
      go_wp2
      obtain ⟨wo, rfl⟩ : ∃ wo : World, wo = wr := ⟨_, rfl⟩
      go_loopw [3, 5] (fun v3 v5 wr => ∃ (k : Nat) (m : Int), k ≤ xs.length ∧ k ≤ 200 ∧ v5 = .int .i64 k ∧ v3 = .int .i64 m ∧ m = wrap64 (sumI objS (l.take i) + xs.length + sumI symS (xs.take k)) ∧ Below w.heap.size w wr) (fun _ v5 _ => xs.length - (intOf v5).toNat)
      case atStart => exact ⟨0, _, Nat.zero_le _, by omega, rfl, rfl, by rw [HN.out, wrap64_add_left]; simp [sumI], HB.out⟩
      case round =>
        clear g2 g0' HB
        obtain ⟨k, m, hk, hk2, rfl, rfl, hm, hbel⟩ := hrel
        have HM := Lib.hid hm; clear hm
        have HB := Lib.hid hbel; clear hbel
        have g2 := cell_keep HB.out g0 c2.out
        have g0' := size_keep HB.out g0
        by_cases hlk : k < xs.length ∧ k < 200
        · obtain ⟨hlk1, hlk2⟩ := hlk
          obtain rfl := HPS.out (by omega)
          obtain ⟨vr, vn, s0, s1, s2, s3, s4, s5, s6, s7, hsin⟩ := symR_keeps _ _ _ _ _ HB.out (HCS.out k hlk1)
          generalize hy : xs[k] = y at s1 s2 s3 s4 s5 s6 s7 hsin
          obtain ⟨yn, yb, yk, ys, yy, yr, yt⟩ := y
          simp only [] at s1 s2 s3 s4 s5 s6 s7 hsin
          have HY := Lib.hid hy; clear hy
          obtain ⟨⟨pR, capR, bR, oR, rfl, hcapR, hmaxR, hpR, hcR⟩, ⟨pT, capT, bT, oT, rfl, hcapT, hmaxT, -, -⟩, -, -, -, hny, hby⟩ := hsin
          simp only [] at hny hby hmaxR hmaxT
          have HCR := Lib.hid hcR; clear hcR
          have HPR := Lib.hid hpR; clear hpR
          have HBW := Lib.hid (HB.out.alloc HB.out.size (.cells #[.string yn, .int .u8 yb, .int .u8 yk, .int .u32 ys, .string yy, .slice pR yr.length capR, .slice pT yt.length capT] 62))
          go_wp2
          go_loop [3, 7] (fun v3 v7 => ∃ (j : Nat) (q : Int), j ≤ yr.length ∧ j ≤ 1100 ∧ v7 = .int .i64 j ∧ v3 = .int .i64 q ∧ q = wrap64 (sumI objS (l.take i) + xs.length + sumI symS (xs.take k) + ((yr.length : Int) / 4 + (yt.length : Int) / 4 + (yy.size : Int) / 64 + (yn.size : Int) / 16) + sumI relS (yr.take j))) (fun _ v7 => yr.length - (intOf v7).toNat)
          case atStart =>
            refine ⟨0, _, Nat.zero_le _, by omega, rfl, rfl, ?_⟩
            rw [HM.out, wrap5]
            simp only [sumI, List.take_zero]
            congr 1; omega
          case round =>
            obtain ⟨j, q, hj, hj2, rfl, rfl, hq⟩ := hrel
            have HQ := Lib.hid hq; clear hq
            by_cases hlj : j < yr.length ∧ j < 1100
            · obtain ⟨hlj1, hlj2⟩ := hlj
              obtain rfl := HPR.out (by omega)
              obtain ⟨r0, r1, r2, r3, r4, r5, r6, r7, r8⟩ := HCR.out j hlj1
              generalize hz : yr[j] = z at r1 r2 r3 r4 r5 r6 r7 r8
              obtain ⟨zo, zk, zn, za⟩ := z
              simp only [] at r1 r2 r3 r4 r5 r6 r7 r8
              have HZ := Lib.hid hz; clear hz
              go_wp2
              go_round
              case rel =>
                refine ⟨j + 1, _, by omega, by omega, by go_num, rfl, ?_⟩
                rw [HQ.out, wrap64_add_left, sumI_take_succ relS hlj1 HZ.out]
                simp only [relS]
                congr 1; omega
              case measure => simp [intOf]; omega
            · have HTE := Lib.hid (take_end hj hj2 hlj)
              have HFQ : Hid (q = wrap64 (sumI objS (l.take i) + xs.length + sumI symS (xs.take (k + 1)))) := by
                rw [HQ.out, HTE.out, sumI_take_succ symS hlk1 HY.out]
                simp only [symS]
                congr 1; omega
              by_cases hj1 : j < yr.length
              · have hj3 : ¬ j < 1100 := fun h => hlj ⟨hj1, h⟩
                clear hlj
                go_wp2
                go_roundw
                case rel => exact ⟨k + 1, _, by omega, by omega, by go_num, rfl, HFQ.out, HBW.out⟩
                case measure => simp [intOf]; omega
              · clear hlj
                go_wp2
                go_roundw
                case rel => exact ⟨k + 1, _, by omega, by omega, by go_num, rfl, HFQ.out, HBW.out⟩
                case measure => simp [intOf]; omega
        · have HTE := Lib.hid (take_end hk hk2 hlk)
          have HFM : Hid (m = wrap64 (sumI objS (l.take (i + 1)))) := by
            rw [HM.out, HTE.out, sumI_take_succ objS hlt1 HX.out]
            simp only [objS]
            congr 1; omega
          by_cases hk1 : k < xs.length
          · have hk3 : ¬ k < 200 := fun h => hlk ⟨hk1, h⟩
            clear hlk
            go_wp2
            go_roundw
            case rel => exact ⟨i + 1, _, by omega, by omega, by go_num, rfl, HFM.out, HB.out⟩
            case measure => simp [intOf]; omega
          · clear hlk
            go_wp2
            go_roundw
            case rel => exact ⟨i + 1, _, by omega, by omega, by go_num, rfl, HFM.out, HB.out⟩
            case measure => simp [intOf]; omega
    · have HTE := Lib.hid (take_end hi hi40 hlt)
      have HFN : Hid (n = wrap64 (largeSum l)) := by rw [HN.out, HTE.out]; rfl
      by_cases hi1 : i < l.length
      · have hi3 : ¬ i < 40 := fun h => hlt ⟨hi1, h⟩
        clear hlt
        go_wp2
        all_goals
          go_ret
          exact ⟨ret_bool (by unfold largeB; rw [← HFN.out] <;> (go_light; simp; try omega)), HB.out⟩
      · clear hlt
        go_wp2
        all_goals
          go_ret
          exact ⟨ret_bool (by unfold largeB; rw [← HFN.out] <;> (go_light; simp; try omega)), HB.out⟩
end Go.Proofs.YtabnacdjcefgnaaGreatDoor
namespace Go.Proofs.YtabnacdjcefgnaaGreatDoor
open Go.RowKit
def relN (s : GSym) : Int := s.rels.length
def objN (o : GObj) : Int := (o.syms.length : Int) + sumI relN (o.syms.take 70)
def sum13 (l : List GObj) : Int := sumI objN (l.take 20)
def large13B (l : List GObj) : Bool := largeB l || decide (100 < sum13 l)
set_option maxRecDepth 100000 in
set_option maxHeartbeats 2000000 in
theorem large13_any (v : Value) (l : List GObj) (w : World) (h : ObjsAt w v l) :
    Calls Tryz.prog 6 #[v] w fun e w' => e = .returned (.bool (large13B l)) ∧ Below w.heap.size w w' := by
  have HL := Lib.hid (large_any v l w h)
  obtain ⟨p, cap, b, o, rfl, hcap, hmax, hp, hc⟩ := h
  have HC := Lib.hid hc; clear hc
  have HP := Lib.hid hp; clear hp
  go_enter Tryz.func6, Tryz.ntmps6
  go_wp2
  go_loop [3, 4] (fun v3 v4 => ∃ (i : Nat) (n : Int), i ≤ l.length ∧ i ≤ 20 ∧ v4 = .int .i64 i ∧ v3 = .int .i64 n ∧ n = sumI objN (l.take i) ∧ 0 ≤ n ∧ n ≤ i * 10000000000000000) (fun _ v4 => l.length - (intOf v4).toNat)
  case atStart => exact ⟨0, 0, Nat.zero_le _, by omega, rfl, rfl, by simp [sumI], by omega, by omega⟩
  case round =>
    obtain ⟨i, n, hi, hi40, rfl, rfl, hn, hn0, hn1⟩ := hrel
    have HN := Lib.hid hn; clear hn
    by_cases hlt : i < l.length ∧ i < 20
    · obtain ⟨hlt1, hlt2⟩ := hlt
      obtain rfl := HP.out (by omega)
      obtain ⟨vs, g0, g1, g2, hin⟩ := HC.out i hlt1
      generalize hx : l[i] = x at g1 hin
      obtain ⟨xn, xs⟩ := x
      simp only [] at g1 hin
      have HX := Lib.hid hx; clear hx
      obtain ⟨⟨pS, capS, bS, oS, rfl, hcapS, hmaxS, hpS, hcS⟩, hnmx⟩ := hin
      have HCS := Lib.hid hcS; clear hcS
      have HPS := Lib.hid hpS; clear hpS
      clear g1
      simp only [] at hmaxS hcapS
      go_wp2
      go_loop [3, 5] (fun v3 v5 => ∃ (k : Nat) (m : Int), k ≤ xs.length ∧ k ≤ 70 ∧ v5 = .int .i64 k ∧ v3 = .int .i64 m ∧ m = n + xs.length + sumI relN (xs.take k) ∧ 0 ≤ m ∧ m ≤ n + xs.length + k * 140737488355328) (fun _ v5 => xs.length - (intOf v5).toNat)
      case atStart => exact ⟨0, _, Nat.zero_le _, by omega, rfl, rfl, by simp [sumI], by omega, by omega⟩
      case round =>
        obtain ⟨k, m, hk, hk2, rfl, rfl, hm, hm0, hm1⟩ := hrel
        have HM := Lib.hid hm; clear hm
        by_cases hlk : k < xs.length ∧ k < 70
        · obtain ⟨hlk1, hlk2⟩ := hlk
          obtain rfl := HPS.out (by omega)
          obtain ⟨vr, vn, s0, s1, s2, s3, s4, s5, s6, s7, hsin⟩ := HCS.out k hlk1
          generalize hy : xs[k] = y at s1 s2 s3 s4 s5 s6 s7 hsin
          obtain ⟨yn, yb, yk, ys, yy, yr, yt⟩ := y
          simp only [] at s1 s2 s3 s4 s5 s6 s7 hsin
          have HY := Lib.hid hy; clear hy
          obtain ⟨⟨pR, capR, bR, oR, rfl, hcapR, hmaxR, -, -⟩, -⟩ := hsin
          simp only [] at hmaxR s6
          clear s1 s2 s3 s4 s5 s7
          go_wp2
          go_round
          case rel =>
            refine ⟨k + 1, _, by omega, by omega, by go_num, rfl, ?_, by omega, by omega⟩
            rw [HM.out, sumI_take_succ relN hlk1 HY.out]
            simp only [relN]; omega
          case measure => simp [intOf]; omega
        · have HFM : Hid (m = sumI objN (l.take (i + 1))) := by
            rw [HM.out, take_end hk hk2 hlk, sumI_take_succ objN hlt1 HX.out, HN.out]
            have he : objN ⟨xn, xs⟩ = (xs.length : Int) + sumI relN (xs.take 70) := rfl
            rw [he]; unfold Hid; omega
          by_cases hk1 : k < xs.length
          · have hk3 : ¬ k < 70 := fun h => hlk ⟨hk1, h⟩
            clear hlk
            go_wp2
            go_round
            case rel => exact ⟨i + 1, _, by omega, by omega, by go_num, rfl, HFM.out, by omega, by omega⟩
            case measure => simp [intOf]; omega
          · clear hlk
            go_wp2
            go_round
            case rel => exact ⟨i + 1, _, by omega, by omega, by go_num, rfl, HFM.out, by omega, by omega⟩
            case measure => simp [intOf]; omega
    · have HF : Hid (n = sum13 l) := by rw [Hid, HN.out, take_end hi hi40 hlt]; rfl
      have HB : Hid (large13B l = (largeB l || decide (100 < n))) := by rw [Hid, HF.out]; rfl
      cases hLB : largeB l with
      | true =>
        rw [hLB] at HL HB
        clear hLB
        by_cases hi1 : i < l.length
        · have hi3 : ¬ i < 20 := fun h => hlt ⟨hi1, h⟩
          clear hlt
          go_wp2_with (go_at_call 28; refine HL.out.mono ?_; rintro e w1 ⟨rfl, hB1⟩)
          go_ret
          exact ⟨ret_bool (by rw [HB.out]; rfl), hB1⟩
        · clear hlt
          go_wp2_with (go_at_call 28; refine HL.out.mono ?_; rintro e w1 ⟨rfl, hB1⟩)
          go_ret
          exact ⟨ret_bool (by rw [HB.out]; rfl), hB1⟩
      | false =>
        rw [hLB] at HL HB
        clear hLB
        by_cases hi1 : i < l.length
        · have hi3 : ¬ i < 20 := fun h => hlt ⟨hi1, h⟩
          clear hlt
          go_wp2_with (go_at_call 28; refine HL.out.mono ?_; rintro e w1 ⟨rfl, hB1⟩)
          all_goals
            go_ret
            exact ⟨ret_bool (by rw [HB.out]; simp [*]), hB1⟩
        · clear hlt
          go_wp2_with (go_at_call 28; refine HL.out.mono ?_; rintro e w1 ⟨rfl, hB1⟩)
          all_goals
            go_ret
            exact ⟨ret_bool (by rw [HB.out]; simp [*]), hB1⟩
end Go.Proofs.YtabnacdjcefgnaaGreatDoor
namespace Go.Proofs.YtabnacdjcefgnaaGreatDoor
open Go.RowKit Go.Maps Go.WideMaps
theorem small_of {w : World} {v : Value} {l : List GObj} (h : ObjsAt w v l) (hL : large13B l = false) : mayAll l = true → ∀ o ∈ l, ∀ s ∈ o.syms, s.bytes.size < 4294967296 := fun hm => by
  unfold large13B at hL
  simp only [Bool.or_eq_false_iff] at hL
  refine small_bytes32 hL.1 (objsSz_of h) fun o ho => weakObj_of (.inl ?_)
  simp only [mayAll, Bool.and_eq_true, List.all_eq_true] at hm
  exact hm.2 o ho
/-- an image's rows lie apart from a box of an image's shape -/
theorem LinkAt.kb7 {w w' : World} {x : GLink} {b : Nat} {ve vp vs va : Value} {a0 a4 : Int} {a3 : Bool} {p1 p2 p5 p6 : Option Addr} {n1 n2 n5 n6 c1 c2 c5 c6 : Nat} {T : TypeId} (h : LinkAt w x ve vp vs va)
    (hz : w.heap[b]? = some (.cells #[.int .u32 a0, .slice p1 n1 c1, .slice p2 n2 c2, .bool a3, .int .u32 a4, .slice p5 n5 c5, .slice p6 n6 c6] T (0, 0))) (hk : KB (fun q => q = b) w w') : LinkAt w' x ve vp vs va := by
  have cells : ∀ j u, w.cell? ⟨b, j, none⟩ = some u → (#[.int .u32 a0, .slice p1 n1 c1, .slice p2 n2 c2, .bool a3, .int .u32 a4, .slice p5 n5 c5, .slice p6 n6 c6] : Array Value)[j]? = some u := fun j u hc => by
    rw [← Lib.cell_of_heap hz j]; exact hc
  have no : ∀ j u, (u : Value) ∉ (#[.int .u32 a0, .slice p1 n1 c1, .slice p2 n2 c2, .bool a3, .int .u32 a4, .slice p5 n5 c5, .slice p6 n6 c6] : Array Value).toList → w.cell? ⟨b, j, none⟩ ≠ some u := fun j u hu hc => hu (by rw [Array.mem_toList_iff]; exact Array.mem_of_getElem? (cells j u hc))
  refine ⟨⟨row_kb h.1.1 fun c o y hy => ?_, row_kb h.1.2.1 fun c o y hy => ?_, h.1.2.2⟩, row_kb h.2.1 fun c o y hy => ?_, row_kb h.2.2.1 fun c o y hy => ?_, h.2.2.2⟩
  · have hne : c ≠ b := fun e => by
      subst e
      have h1 := cells _ _ hy.2.1
      have h2 := cells _ _ hy.2.2.1
      match o, h1, h2 with
      | 0, h1, h2 => simp at h2
      | 1, h1, h2 => simp at h1
      | 2, h1, h2 => simp at h1
      | 3, h1, h2 => simp at h1
      | 4, h1, h2 => simp at h2
      | 5, h1, h2 => simp at h1
      | 6, h1, h2 => simp at h1
      | n + 7, h1, h2 => simp at h1
    exact ⟨Nat.lt_of_lt_of_le hy.1 hk.size, hk.cell hy.1 hne hy.2.1, hk.cell hy.1 hne hy.2.2.1, hy.2.2.2⟩
  · have hne : c ≠ b := fun e => no o _ (by simp) (e ▸ hy.2.1)
    exact ⟨Nat.lt_of_lt_of_le hy.1 hk.size, hk.cell hy.1 hne hy.2.1, hy.2.2⟩
  · have hne : c ≠ b := fun e => no (o + 1) _ (by simp) (e ▸ hy.2.2.1)
    exact ⟨Nat.lt_of_lt_of_le hy.1 hk.size, hk.cell hy.1 hne hy.2.1, hk.cell hy.1 hne hy.2.2.1, hk.cell hy.1 hne hy.2.2.2.1, hy.2.2.2.2⟩
  · have hne : c ≠ b := fun e => no o _ (by simp) (e ▸ hy.2.1)
    exact hy.kb hk hne
/-- an image that was linked: of which symbols -/
def OkL (l : List GObj) (nm : ByteArray) (r : GLink × ByteArray × Int) : Prop := r.2.2 = 0 → ∃ p K ps, KeptYes l nm p K ∧ r = linkR l nm p ps ∧ ps.length ≤ 1024
theorem sp_ok {l : List GObj} {nm : ByteArray} {r : GLink × ByteArray × Int} (h : Sp18 l nm r) : OkL l nm r := fun h0 => by
  rcases h with ⟨n, c, hc, -, rfl⟩ | ⟨p, K, hy, rfl⟩
  · exact absurd h0 hc
  · exact ⟨p, K, _, hy, rfl, by have := kept_len hy; simpa using this⟩
theorem fu_ok {l : List GObj} {nm : ByteArray} {r : GLink × ByteArray × Int} (h : Fu18 l nm r) : OkL l nm r := fun h0 => by
  rcases h with ⟨n, c, hc, -, rfl⟩ | ⟨he, -, ho⟩
  · exact absurd h0 hc
  · rcases ho with ⟨n, c, hc, -, rfl⟩ | ⟨p, K, hy, rfl⟩
    · exact absurd h0 hc
    · exact ⟨p, K, _, hy, rfl, by have := all_len he; simpa using this⟩
theorem permW (k : Int) (h : 1 ≤ k ∧ k ≤ 3) : permK k = 5 ∧ k = 1 ∨ permK k = 3 ∧ k = 2 ∨ permK k = 1 ∧ k = 3 := by unfold permK; omega
set_option maxRecDepth 100000 in
set_option maxHeartbeats 4000000 in
theorem places_guard (hsort : SortOk) (v : Value) (l : List GObj) (nm : ByteArray) (fu : Bool) (w : World) (h : ObjsAt w v l) (hn : nm.size ≤ 140737488355328) (hg : large13B l = true ∨ 1024 < nm.size) :
    Calls Tryz.prog 4 #[.string nm, v, .bool fu] w fun e w' => e = .returned (.bool true) ∧ Below w.heap.size w w' := by
  have HSORT := Lib.hid hsort; clear hsort
  have HLG := Lib.hid (large13_any v l w h)
  obtain ⟨p, cap, rfl⟩ : ∃ (p : Option Addr) (cap : Nat), v = .slice p l.length cap := by obtain ⟨p, cap, b, o, rfl, _⟩ := h; exact ⟨p, cap, rfl⟩
  clear h
  by_cases hl : large13B l = true
  · rw [hl] at HLG
    clear hl hg
    go_enter Tryz.func4, Tryz.ntmps4
    go_wp2_with (first | (go_at_call 6; refine HLG.out.mono ?_; rintro e w1 ⟨rfl, hB1⟩) | (go_at_call 7; refine (alive18_any HSORT.out _).mono ?_; rintro e w2 ⟨rfl, hB2⟩))
    go_ret
    exact ⟨rfl, hB1.trans (hB2.mono hB1.size)⟩
  · have hl' : large13B l = false := by simpa using hl
    have hnm : 1024 < nm.size := by rcases hg with h1 | h1; exact absurd h1 hl; exact h1
    have hd : decide ((1024 : Int) < (nm.size : Int)) = true := by simp; omega
    have hd' : decide (1024 < nm.size) = true := by simp; omega
    rw [hl'] at HLG
    clear hl hl' hg
    go_enter Tryz.func4, Tryz.ntmps4
    go_wp2_with (first | (go_at_call 6; refine HLG.out.mono ?_; rintro e w1 ⟨rfl, hB1⟩) | (go_at_call 7; refine (alive18_any HSORT.out _).mono ?_; rintro e w2 ⟨rfl, hB2⟩))
    go_ret
    exact ⟨rfl, hB1.trans (hB2.mono hB1.size)⟩
end Go.Proofs.YtabnacdjcefgnaaGreatDoor
