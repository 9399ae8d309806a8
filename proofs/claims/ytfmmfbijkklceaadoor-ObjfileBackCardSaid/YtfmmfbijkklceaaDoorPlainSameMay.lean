/- Where nothing is large, the program and the reference accept the same objects. No program in sight. -/
import Derived.Test.YtfmmfbijkklceaaDoorPlain
import Derived.IntWalk
namespace Go.Proofs.YtfmmfbijkklceaaDoor
open Go.RowKit
theorem sumI_nonneg {α : Type} {f : α → Int} : ∀ {l : List α}, (∀ x ∈ l, 0 ≤ f x) → 0 ≤ sumI f l
  | [], _ => by simp [sumI]
  | a :: r, h => by
    have h1 := h a (by simp)
    have h2 := sumI_nonneg (l := r) (fun x hx => h x (by simp [hx]))
    simp only [sumI]; omega
theorem sumI_le {α : Type} {f : α → Int} {c : Int} : ∀ {l : List α}, (∀ x ∈ l, f x ≤ c) → sumI f l ≤ l.length * c
  | [], _ => by simp [sumI]
  | a :: r, h => by
    have h1 := h a (by simp)
    have h2 := sumI_le (l := r) (fun x hx => h x (by simp [hx]))
    simp only [sumI, List.length_cons, Int.natCast_add, Int.add_mul]; omega
theorem sumI_mem {α : Type} {f : α → Int} : ∀ {l : List α} {x : α}, (∀ x ∈ l, 0 ≤ f x) → x ∈ l → f x ≤ sumI f l
  | a :: r, x, h, hx => by
    have h1 := h a (by simp)
    have h3 := sumI_nonneg (l := r) (fun x hx => h x (by simp [hx]))
    rcases List.mem_cons.1 hx with rfl | hx
    · simp only [sumI]; omega
    · have h2 := sumI_mem (fun x hx => h x (by simp [hx])) hx
      simp only [sumI]; omega
theorem isName_le {s : ByteArray} (h : isName s = true) : s.size ≤ 32 := by
  simp only [isName, Bool.and_eq_true, decide_eq_true_eq] at h
  exact h.2
theorem relsGo_names {n : Int} : ∀ {l : List GRel} {e : Int}, relsGo n e l = true → ∀ x ∈ l, isName x.name = true
  | [], _, _, x, hx => by cases hx
  | a :: r, e, h, x, hx => by
    simp only [relsGo, Bool.and_eq_true] at h
    rcases List.mem_cons.1 hx with rfl | hx
    · exact h.1.1.1.1.2
    · exact relsGo_names h.2 x hx
/-- what both readings ask -/
def weakSym (s : GSym) : Prop := s.name.size ≤ 32 ∧ s.rels.length ≤ 1024 ∧ s.notes.length ≤ 8 ∧ ∀ x ∈ s.rels, x.name.size ≤ 32
theorem weak_of_P {s : GSym} (h : symOkP s = true) : weakSym s := by
  simp only [symOkP, placesOk, Bool.and_eq_true, decide_eq_true_eq] at h
  exact ⟨isName_le h.1.1.1.1.1.1.1, h.1.1.2.2, h.1.2, fun x hx => isName_le (relsGo_names h.1.1.2.1 x hx)⟩
theorem weak_of_R {s : GSym} (h : symOk s = true) : weakSym s := by
  simp only [symOk, relsOk, Bool.and_eq_true, decide_eq_true_eq] at h
  exact ⟨isName_le h.1.1.1.1.1.1.1.1.1.1, h.1.2.2, h.2, fun x hx => isName_le (relsGo_names h.1.2.1 x hx)⟩
def weakObj (o : GObj) : Prop := o.syms.length ≤ 64 ∧ ∀ s ∈ o.syms, weakSym s
theorem weakObj_of {o : GObj} (h : mayP o = true ∨ mayOk o = true) : weakObj o := by
  rcases h with h | h
  · simp only [mayP, Bool.and_eq_true, decide_eq_true_eq] at h
    exact ⟨h.2, fun s hs => weak_of_P (symsGo_each _ _ h.1.1 s hs)⟩
  · simp only [mayOk, Bool.and_eq_true, decide_eq_true_eq] at h
    exact ⟨h.2, fun s hs => weak_of_R (symsGoR_each _ _ h.1.1 s hs)⟩
theorem relS_nonneg (x : GRel) : 0 ≤ relS x := by unfold relS; omega
theorem symS_ge (s : GSym) : 0 ≤ symS s ∧ (s.bytes.size : Int) / 64 ≤ symS s := by
  have := sumI_nonneg (f := relS) (l := s.rels.take 1100) (fun x _ => relS_nonneg x)
  unfold symS
  omega
theorem symS_le {s : GSym} (h : weakSym s) (hb : s.bytes.size ≤ 140737488355328) : symS s ≤ 2199023260000 := by
  obtain ⟨h1, h2, h3, h4⟩ := h
  have := sumI_le (f := relS) (c := 0) (l := s.rels.take 1100) (fun x hx => by have := h4 x (List.mem_of_mem_take hx); unfold relS; omega)
  unfold symS
  omega
theorem objS_ge (o : GObj) : 0 ≤ objS o := by
  have := sumI_nonneg (f := symS) (l := o.syms.take 200) (fun x _ => (symS_ge x).1)
  unfold objS; omega
theorem objS_le {o : GObj} (h : weakObj o) (hb : ∀ s ∈ o.syms, s.bytes.size ≤ 140737488355328) : objS o ≤ 140737488700000 := by
  obtain ⟨h1, h2⟩ := h
  have := sumI_le (f := symS) (c := 2199023260000) (l := o.syms.take 200) (fun x hx => symS_le (h2 x (List.mem_of_mem_take hx)) (hb x (List.mem_of_mem_take hx)))
  have hl := List.length_take_le 200 o.syms
  have hl2 : (o.syms.take 200).length ≤ o.syms.length := List.length_take_le' 200 o.syms
  unfold objS
  omega
def ObjsSz (l : List GObj) : Prop := ∀ o ∈ l, ∀ s ∈ o.syms, s.bytes.size ≤ 140737488355328
theorem small_bytes32 {l : List GObj} (hL : largeB l = false) (hsz : ObjsSz l) (hw : ∀ o ∈ l, weakObj o) : ∀ o ∈ l, ∀ s ∈ o.syms, s.bytes.size < 4294967296 := by
  intro o ho s hs
  unfold largeB at hL
  simp only [Bool.or_eq_false_iff, decide_eq_false_iff_not] at hL
  obtain ⟨h1, h2⟩ := hL
  have hlen : l.length ≤ 20 := by omega
  have ht : l.take 40 = l := List.take_of_length_le (by omega)
  have hsum := sumI_le (f := objS) (c := 140737488700000) (l := l.take 40) (fun x hx => objS_le (hw x (List.mem_of_mem_take hx)) (hsz x (List.mem_of_mem_take hx)))
  have hge := sumI_nonneg (f := objS) (l := l.take 40) (fun x _ => objS_ge x)
  rw [ht] at hsum hge
  have hw64 : wrap64 (largeSum l) = largeSum l := by
    refine IntWalk.wrap64_in _ ⟨?_, ?_⟩ <;> unfold largeSum <;> rw [ht] <;> omega
  rw [hw64] at h2
  unfold largeSum at h2
  rw [ht] at h2
  have ho1 := sumI_mem (f := objS) (fun x _ => objS_ge x) ho
  have hs1 : symS s ≤ sumI symS (o.syms.take 200) := by
    rw [List.take_of_length_le (by have := (hw o ho).1; omega)]
    exact sumI_mem (fun x _ => (symS_ge x).1) hs
  have hs2 := (symS_ge s).2
  have he : objS o = (o.syms.length : Int) + sumI symS (o.syms.take 200) := rfl
  omega
theorem may_same {l : List GObj} (hL : largeB l = false) (hsz : ObjsSz l) : mayAll l = mayAllR l := by
  by_cases hw : ∀ o ∈ l, weakObj o
  · have h := small_bytes32 hL hsz hw
    unfold mayAll mayAllR
    rw [Bool.and_comm]
    congr 1
    rw [Bool.eq_iff_iff, List.all_eq_true, List.all_eq_true]
    exact ⟨fun q o ho => by rw [← mayP_eq (h o ho)]; exact q o ho, fun q o ho => by rw [mayP_eq (h o ho)]; exact q o ho⟩
  · obtain ⟨o, ho⟩ := Classical.not_forall.1 hw
    obtain ⟨hm, hn⟩ := Classical.not_imp.1 ho
    have h1 : mayP o = false := by
      cases h : mayP o with
      | false => rfl
      | true => exact absurd (weakObj_of (.inl h)) hn
    have h2 : mayOk o = false := by
      cases h : mayOk o with
      | false => rfl
      | true => exact absurd (weakObj_of (.inr h)) hn
    have h3 : l.all mayP = false := by rw [List.all_eq_false]; exact ⟨o, hm, by simp [h1]⟩
    have h4 : l.all mayOk = false := by rw [List.all_eq_false]; exact ⟨o, hm, by simp [h2]⟩
    simp [mayAll, mayAllR, h3, h4]
theorem begin_same {l : List GObj} (hL : largeB l = false) (hsz : ObjsSz l) : beginRR l = beginR l := by
  unfold beginR beginRR
  (rw [may_same hL hsz]) <;> rfl
theorem findAll_same {l : List GObj} (hL : largeB l = false) (hsz : ObjsSz l) (i : Int) (n : List UInt8) : findAllR l i n = findAll l i n := by
  unfold findAll findAllR
  (rw [begin_same hL hsz]) <;> rfl
theorem objsSz_of {w : World} {v : Value} {l : List GObj} (h : ObjsAt w v l) : ObjsSz l := by
  obtain ⟨p, cap, b, o, -, -, -, -, hc⟩ := h
  intro x hx s hs
  obtain ⟨i, hi, rfl⟩ := List.mem_iff_getElem.1 hx
  obtain ⟨vs, -, -, -, ⟨p', cap', b', o', -, -, -, -, hc'⟩, -⟩ := hc i hi
  obtain ⟨k, hk, rfl⟩ := List.mem_iff_getElem.1 hs
  obtain ⟨vr, vn, -, -, -, -, -, -, -, -, -, -, -, -, -, -, hb⟩ := hc' k hk
  exact hb
end Go.Proofs.YtfmmfbijkklceaaDoor
