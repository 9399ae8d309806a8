/- The reference's reading of objects (layer 8), in plain words, and that it is the program's where no text has 2^32 bytes. No program in sight. -/
import Derived.Test.YteekdjlpfgkgjaaDoorPlainSym
namespace Go.Proofs.YteekdjlpfgkgjaaDoor
def symsGoR : List GSym → List GSym → Bool
  | _, [] => true
  | seen, s :: r => symOk s && !hasName seen s.name.data.toList && symsGoR (seen ++ [s]) r
def mayOk (o : GObj) : Bool := symsGoR [] o.syms && isName o.name && decide (o.syms.length ≤ 64)
theorem mayOk_no {o : GObj} {k : Nat} {x : GSym} (hlt : k < o.syms.length) (hx : o.syms[k] = x) (hgo : symsGoR (o.syms.take k) (o.syms.drop k) = symsGoR [] o.syms)
    (h : hasName (o.syms.take k) x.name.data.toList = true ∨ symOk x = false) : false = mayOk o := by
  rw [List.drop_eq_getElem_cons hlt, hx, symsGoR] at hgo
  rcases h with h | h <;> simp [mayOk, ← hgo, h]
theorem symsGoR_yes {l : List GSym} {k : Nat} {x : GSym} (hlt : k < l.length) (hx : l[k] = x) (hgo : symsGoR (l.take k) (l.drop k) = symsGoR [] l)
    (h1 : hasName (l.take k) x.name.data.toList = false) (h2 : symOk x = true) : symsGoR (l.take (k + 1)) (l.drop (k + 1)) = symsGoR [] l := by
  rw [← hgo, List.drop_eq_getElem_cons hlt, hx, symsGoR, h1, h2, List.take_succ_eq_append_getElem hlt, hx]; simp
theorem mayOk_end {o : GObj} {k : Nat} (hlt : ¬ k < o.syms.length) (hgo : symsGoR (o.syms.take k) (o.syms.drop k) = symsGoR [] o.syms) : mayOk o = (isName o.name && decide (o.syms.length ≤ 64)) := by
  rw [List.drop_of_length_le (by omega), symsGoR] at hgo
  simp [mayOk, ← hgo]
/-- the first part of a symbol's test -/
def symA (s : GSym) : Prop := isName s.name = true ∧ s.bind ≤ 2 ∧ 1 ≤ s.kind ∧ s.kind ≤ 3 ∧ 1 ≤ s.size ∧ s.size ≤ 8192 ∧ (s.bytes.size : Int) ≤ s.size
def symB (s : GSym) : Prop := s.kind ≠ 1 ∨ ((s.bytes.size : Int) = s.size ∧ s.size % 8 = 0)
theorem symOk_noA {s : GSym} (h : ¬ symA s) : false = symOk s := by
  cases hs : symOk s with
  | false => rfl
  | true =>
    exfalso
    apply h
    simp only [symOk, Bool.and_eq_true, decide_eq_true_eq] at hs
    exact ⟨hs.1.1.1.1.1.1.1.1.1.1, hs.1.1.1.1.1.1.1.1.1.2, hs.1.1.1.1.1.1.1.1.2, hs.1.1.1.1.1.1.1.2, hs.1.1.1.1.1.1.2, hs.1.1.1.1.1.2, hs.1.1.1.1.2⟩
theorem symOk_noB {s : GSym} (h : ¬ symB s) : false = symOk s := by
  cases hs : symOk s with
  | false => rfl
  | true =>
    exfalso
    apply h
    simp only [symOk, Bool.and_eq_true, Bool.or_eq_true, decide_eq_true_eq] at hs
    exact hs.1.1.1.2
theorem symOk_AB {s : GSym} (hA : symA s) (hB : symB s) : symOk s = (s.notes.all noteOk && relsOk s && decide (s.notes.length ≤ 8)) := by
  obtain ⟨h1, h2, h3, h4, h5, h6, h7⟩ := hA
  have hB' : (decide (s.kind ≠ 1) || (decide ((s.bytes.size : Int) = s.size) && decide (s.size % 8 = 0))) = true := by simpa [symB] using hB
  simp only [symOk, hB', h1, h2, h3, h4, h5, h6, h7, decide_true, Bool.and_self, Bool.true_and]
theorem symOkP_eq {s : GSym} (h : s.bytes.size < 4294967296) : symOkP s = symOk s := by
  have hl : len32 s.bytes = (s.bytes.size : Int) := by unfold len32; omega
  unfold symOkP symOk sizedOk sizedB placesOk relsOk
  rw [hl, Bool.eq_iff_iff]
  simp only [Bool.and_eq_true, Bool.or_eq_true, decide_eq_true_eq]
  constructor
  · rintro ⟨⟨⟨⟨⟨⟨⟨a, b⟩, c⟩, d⟩, ⟨⟨e, f⟩, g⟩, hh⟩, ⟨i, j⟩⟩, k⟩, l⟩
    refine ⟨⟨⟨⟨⟨⟨⟨⟨⟨⟨a, b⟩, c⟩, d⟩, e⟩, f⟩, g⟩, ?_⟩, l⟩, i, j⟩, k⟩
    rcases hh with hh | ⟨h1, h2⟩
    · exact .inl hh
    · exact .inr ⟨h1, by rw [← h1]; exact h2⟩
  · rintro ⟨⟨⟨⟨⟨⟨⟨⟨⟨⟨a, b⟩, c⟩, d⟩, e⟩, f⟩, g⟩, hh⟩, l⟩, i, j⟩, k⟩
    refine ⟨⟨⟨⟨⟨⟨⟨a, b⟩, c⟩, d⟩, ⟨⟨e, f⟩, g⟩, ?_⟩, ⟨i, j⟩⟩, k⟩, l⟩
    rcases hh with hh | ⟨h1, h2⟩
    · exact .inl hh
    · exact .inr ⟨h1, by rw [h1]; exact h2⟩
theorem symsGo_eq : ∀ (l seen : List GSym), (∀ s ∈ l, s.bytes.size < 4294967296) → symsGo seen l = symsGoR seen l
  | [], _, _ => rfl
  | s :: r, seen, h => by
    simp only [symsGo, symsGoR]
    rw [symOkP_eq (h s (by simp)), symsGo_eq r (seen ++ [s]) (fun t ht => h t (by simp [ht]))]
    cases symOk s <;> cases hasName seen s.name.data.toList <;> rfl
theorem mayP_eq {o : GObj} (h : ∀ s ∈ o.syms, s.bytes.size < 4294967296) : mayP o = mayOk o := by
  unfold mayP mayOk
  rw [symsGo_eq _ _ h]
end Go.Proofs.YteekdjlpfgkgjaaDoor
