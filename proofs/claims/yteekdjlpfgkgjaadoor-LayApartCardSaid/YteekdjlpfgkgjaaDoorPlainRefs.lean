/- The references of a symbol, and how many it may have. No program in sight. -/
import Derived.Test.YteekdjlpfgkgjaaDoorPlainDup
import Derived.Test.YteekdjlpfgkgjaaDoorPlainOne
namespace Go.Proofs.YteekdjlpfgkgjaaDoor
theorem symsGoR_each : ∀ (l seen : List GSym), symsGoR seen l = true → ∀ s ∈ l, symOk s = true
  | [], _, _, s, hs => by simp at hs
  | x :: r, seen, h, s, hs => by
    simp only [symsGoR, Bool.and_eq_true] at h
    rcases List.mem_cons.1 hs with rfl | hs
    · exact h.1.1
    · exact symsGoR_each r _ h.2 s hs
theorem relsR_le {l : List GObj} (h : mayAllR l = true) {i k : Nat} (hi : i < l.length) (hk : k < l[i].syms.length) : l[i].syms[k].rels.length ≤ 1024 := by
  simp only [mayAllR, Bool.and_eq_true] at h
  have h1 := List.all_eq_true.1 h.1 l[i] (List.getElem_mem hi)
  simp only [mayOk, Bool.and_eq_true] at h1
  have h2 := symsGoR_each _ _ h1.1.1 _ (List.getElem_mem hk)
  simp only [symOk, relsOk, Bool.and_eq_true, decide_eq_true_eq] at h2
  exact h2.1.2.2
theorem symsGo_each : ∀ (l seen : List GSym), symsGo seen l = true → ∀ s ∈ l, symOkP s = true
  | [], _, _, s, hs => by simp at hs
  | x :: r, seen, h, s, hs => by
    simp only [symsGo, Bool.and_eq_true] at h
    rcases List.mem_cons.1 hs with rfl | hs
    · exact h.1.2
    · exact symsGo_each r _ h.2 s hs
theorem relsP_le {l : List GObj} (h : mayAll l = true) {i k : Nat} (hi : i < l.length) (hk : k < l[i].syms.length) : l[i].syms[k].rels.length ≤ 1024 := by
  simp only [mayAll, Bool.and_eq_true] at h
  have h1 := List.all_eq_true.1 h.2 l[i] (List.getElem_mem hi)
  simp only [mayP, Bool.and_eq_true] at h1
  have h2 := symsGo_each _ _ h1.1.1 _ (List.getElem_mem hk)
  simp only [symOkP, placesOk, Bool.and_eq_true, decide_eq_true_eq] at h2
  exact h2.1.1.2.2
theorem beginRR_zero {l : List GObj} (h : (beginRR l).2 = 0) : mayAllR l = true := by
  unfold beginRR at h
  by_cases hm : mayAllR l = true
  · exact hm
  · simp [hm] at h
/-- resolve.Refs' loop -/
def refsGo (l : List GObj) (a : Int) : List (Nat × Nat) → List GRel → List (Nat × Nat) × ByteArray × Int
  | acc, [] => (acc, emptyB, 0)
  | acc, x :: r => match findR l a x.name.data.toList with | some p => refsGo l a (acc ++ [p]) r | none => ([], x.name, 121)
def relsAt (l : List GObj) (a b : Nat) : List GRel := match l[a]? with | some o => (match o.syms[b]? with | some s => s.rels | none => []) | none => []
theorem relsAt_eq {l : List GObj} {a b : Nat} (ha : a < l.length) (hb : b < l[a].syms.length) : relsAt l a b = l[a].syms[b].rels := by
  simp [relsAt, List.getElem?_eq_getElem ha, List.getElem?_eq_getElem hb]
theorem refsGo_yes {l : List GObj} {a : Int} {acc : List (Nat × Nat)} {rs : List GRel} {j : Nat} {x : GRel} {p : Nat × Nat} {t : List (Nat × Nat) × ByteArray × Int} (hj : j < rs.length) (hx : rs[j] = x) (h : refsGo l a acc (rs.drop j) = t)
    (hf : findR l a x.name.data.toList = some p) : refsGo l a (acc ++ [p]) (rs.drop (j + 1)) = t := by
  rw [List.drop_eq_getElem_cons hj, hx, refsGo, hf] at h
  exact h
theorem refsGo_no {l : List GObj} {a : Int} {acc : List (Nat × Nat)} {rs : List GRel} {j : Nat} {x : GRel} {t : List (Nat × Nat) × ByteArray × Int} (hj : j < rs.length) (hx : rs[j] = x) (h : refsGo l a acc (rs.drop j) = t)
    (hf : findR l a x.name.data.toList = none) : t = ([], x.name, 121) := by
  rw [List.drop_eq_getElem_cons hj, hx, refsGo, hf] at h
  exact h.symm
theorem refsGo_end {l : List GObj} {a : Int} {acc : List (Nat × Nat)} {rs : List GRel} {j : Nat} {t : List (Nat × Nat) × ByteArray × Int} (hj : ¬ j < rs.length) (h : refsGo l a acc (rs.drop j) = t) : t = (acc, emptyB, 0) := by
  rw [List.drop_of_length_le (by omega), refsGo] at h
  exact h.symm
end Go.Proofs.YteekdjlpfgkgjaaDoor
