/- What may be fits its bytes. No program in sight. One object that is not large: what may be, and whether its bytes are few. No program in sight. -/
import Derived.Test.YtfmmfbijkklceaaDoorPack
import Derived.Test.YtfmmfbijkklceaaDoorPlainSameMay
namespace Go.Proofs.YtfmmfbijkklceaaDoor
/-- a symbol's numbers are of their kinds -/
def SymNum (s : GSym) : Prop := (0 ≤ s.bind ∧ s.bind ≤ 255) ∧ (0 ≤ s.kind ∧ s.kind ≤ 255) ∧ (0 ≤ s.size ∧ s.size ≤ 4294967295) ∧
  (∀ x ∈ s.rels, (0 ≤ x.off ∧ x.off ≤ 4294967295) ∧ (0 ≤ x.kind ∧ x.kind ≤ 255) ∧ (0 ≤ x.add ∧ x.add ≤ 4294967295)) ∧
  (∀ x ∈ s.notes, (0 ≤ x.kind ∧ x.kind ≤ 255) ∧ (0 ≤ x.n ∧ x.n ≤ 4294967295) ∧ (0 ≤ x.m ∧ x.m ≤ 4294967295))
theorem symNum_of {w : World} {s : GSym} {vr vn : Value} (h : SymIn w s vr vn) : SymNum s := by
  obtain ⟨⟨_, _, _, _, _, _, _, _, h1⟩, ⟨_, _, _, _, _, _, _, _, h2⟩, h3, h4, h5, -⟩ := h
  refine ⟨h3, h4, h5, fun x hx => ?_, fun x hx => ?_⟩
  · obtain ⟨i, hi, rfl⟩ := List.mem_iff_getElem.1 hx
    obtain ⟨-, -, -, -, -, a, b, c, -⟩ := h1 i hi
    exact ⟨a, b, c⟩
  · obtain ⟨i, hi, rfl⟩ := List.mem_iff_getElem.1 hx
    obtain ⟨-, -, -, -, a, b, c⟩ := h2 i hi
    exact ⟨a, b, c⟩
theorem objNum_of {w : World} {o : GObj} {vs : Value} (h : ObjIn w o vs) : ∀ s ∈ o.syms, SymNum s := by
  obtain ⟨⟨_, _, _, _, _, _, _, _, h1⟩, -⟩ := h
  intro s hs
  obtain ⟨i, hi, rfl⟩ := List.mem_iff_getElem.1 hs
  obtain ⟨vr, vn, -, -, -, -, -, -, -, -, h2⟩ := h1 i hi
  exact symNum_of h2
/-- a symbol that may be, with few bytes -/
structure SymSm (s : GSym) : Prop where
  fit : SymFit s
  name : s.name.size ≤ 32
  bytes : s.bytes.size ≤ 8192
  rels : s.rels.length ≤ 1024
  rnames : ∀ x ∈ s.rels, x.name.size ≤ 32
  notes : s.notes.length ≤ 8
theorem symSm_of {s : GSym} (h : symOkP s = true) (hn : SymNum s) (hb : s.bytes.size < 4294967296) : SymSm s := by
  obtain ⟨w1, w2, w3, w4⟩ := weak_of_P h
  obtain ⟨n1, n2, n3, n4, n5⟩ := hn
  have hz : s.bytes.size ≤ 8192 := by
    have hl : len32 s.bytes = (s.bytes.size : Int) := by unfold len32; omega
    simp only [symOkP, sizedOk, sizedB, hl, Bool.and_eq_true, decide_eq_true_eq] at h
    have := h.1.1.1.2.1
    omega
  refine ⟨⟨by omega, by omega, by omega, by omega, by omega, by omega, fun x hx => ?_, by omega, fun x hx => ?_⟩, w1, hz, w2, w4, w3⟩
  · have := n4 x hx; have := w4 x hx; exact ⟨by omega, by omega, by omega, by omega⟩
  · have := n5 x hx; exact ⟨by omega, by omega, by omega⟩
theorem objSm_of {o : GObj} (h : mayP o = true) (hn : ∀ s ∈ o.syms, SymNum s) (hb : ∀ s ∈ o.syms, s.bytes.size < 4294967296) : o.name.size ≤ 32 ∧ o.syms.length ≤ 64 ∧ ∀ s ∈ o.syms, SymSm s := by
  simp only [mayP, Bool.and_eq_true, decide_eq_true_eq] at h
  exact ⟨isName_le h.1.2, h.2, fun s hs => symSm_of (symsGo_each _ _ h.1.1 s hs) (hn s hs) (hb s hs)⟩
theorem objFit_of {o : GObj} (h : o.name.size ≤ 32 ∧ o.syms.length ≤ 64 ∧ ∀ s ∈ o.syms, SymSm s) : ObjFit o := ⟨by omega, by omega, fun s hs => (h.2.2 s hs).fit⟩
theorem encText_len (s : ByteArray) : (encText s).length = 2 + s.size := by simp [encText, leB_length]
theorem flat_le {α : Type} {f : α → BL} {c : Nat} : ∀ {l : List α}, (∀ x ∈ l, (f x).length ≤ c) → (l.flatMap f).length ≤ l.length * c
  | [], _ => by simp
  | x :: r, h => by
    have := flat_le fun y hy => h y (List.mem_cons_of_mem x hy)
    have := h x (List.mem_cons_self ..)
    rw [List.flatMap_cons, List.length_append, List.length_cons, Nat.succ_mul]; omega
theorem encRel_len (x : GRel) : (encRel x).length = 11 + x.name.size := by simp [encRel, leB_length, encText_len]; omega
theorem encNote_len (x : GNote) : (encNote x).length = 9 := by simp [encNote, leB_length]
theorem encSym_len {s : GSym} (h : SymSm s) : (encSym s).length ≤ 60000 := by
  have h1 := flat_le (f := encRel) (c := 43) (l := s.rels) fun x hx => by rw [encRel_len]; have := h.rnames x hx; omega
  have h2 := flat_le (f := encNote) (c := 9) (l := s.notes) fun x _ => by rw [encNote_len]; exact Nat.le_refl _
  have := h.name; have := h.bytes; have := h.rels; have := h.notes
  simp only [encSym, List.length_append, leB_length, encText_len]
  omega
theorem take_flat {α : Type} {f : α → BL} {l : List α} {i : Nat} (h : i < l.length) : (l.take (i + 1)).flatMap f = (l.take i).flatMap f ++ f l[i] := by
  rw [List.take_succ_eq_append_getElem h, List.flatMap_append, List.flatMap_singleton]
theorem take_flat_le {α : Type} {f : α → BL} {c : Nat} {l : List α} (h : ∀ x ∈ l, (f x).length ≤ c) (i : Nat) : ((l.take i).flatMap f).length ≤ l.length * c := by
  have h1 := flat_le (f := f) (c := c) (l := l.take i) fun x hx => h x (List.mem_of_mem_take hx)
  have h2 : (l.take i).length * c ≤ l.length * c := Nat.mul_le_mul_right _ (by rw [List.length_take]; omega)
  omega
end Go.Proofs.YtfmmfbijkklceaaDoor
namespace Go.Proofs.YtfmmfbijkklceaaDoor
theorem few_one {o : GObj} (hL : largeB [o] = false) (hsz : ObjsSz [o]) (h : mayP o = true ∨ mayOk o = true) : ∀ s ∈ o.syms, s.bytes.size < 4294967296 :=
  small_bytes32 hL hsz (fun x hx => by obtain rfl : x = o := (by simpa using hx); exact weakObj_of h) o (by simp)
theorem may_one {o : GObj} (hL : largeB [o] = false) (hsz : ObjsSz [o]) : mayOk o = mayP o := by
  by_cases h : mayP o = true ∨ mayOk o = true
  · exact (mayP_eq (few_one hL hsz h)).symm
  · have h1 : mayP o = false := by cases hm : mayP o with | false => rfl | true => exact absurd (.inl hm) h
    have h2 : mayOk o = false := by cases hm : mayOk o with | false => rfl | true => exact absurd (.inr hm) h
    rw [h1, h2]
end Go.Proofs.YtfmmfbijkklceaaDoor
