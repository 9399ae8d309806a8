/- A local symbol more in one object: what a name is elsewhere stays. No program in sight. -/
import Derived.Test.YtiogoinaklgglaaDoorPlainOne
namespace Go.Proofs.YtiogoinaklgglaaDoor
def addSym (l : List GObj) (n : Nat) (s : GSym) : List GObj := match l[n]? with | some o => l.set n ⟨o.name, o.syms ++ [s]⟩ | none => l
theorem addSym_at {l : List GObj} {n : Nat} (h : n < l.length) (s : GSym) : addSym l n s = l.set n ⟨l[n].name, l[n].syms ++ [s]⟩ := by
  simp [addSym, List.getElem?_eq_getElem h]
theorem addSym_length (l : List GObj) (n : Nat) (s : GSym) : (addSym l n s).length = l.length := by
  unfold addSym; split <;> simp
theorem symsFrom_snoc (i : Nat) (s : GSym) : ∀ (k : Nat) (l : List GSym), symsFrom i k (l ++ [s]) = symsFrom i k l ++ [⟨i, k + l.length, s⟩]
  | k, [] => by simp [symsFrom]
  | k, a :: r => by
    simp only [List.cons_append, symsFrom, symsFrom_snoc i s (k + 1) r, List.length_cons]
    rw [show k + 1 + r.length = k + (r.length + 1) by omega]
theorem find_skip {nm : List UInt8} {b : Int} {x : Spot} (hx : hits nm b x = false) (a c : List Spot) : (a ++ [x] ++ c).find? (hits nm b) = (a ++ c).find? (hits nm b) := by
  simp [List.find?_append, hx]
theorem find_add {nm : List UInt8} {b : Int} {s : GSym} (hb : s.bind ≠ b) : ∀ (l : List GObj) (i n : Nat) (h : n < l.length), (objsFrom i (l.set n ⟨l[n].name, l[n].syms ++ [s]⟩)).find? (hits nm b) = (objsFrom i l).find? (hits nm b)
  | o :: r, i, 0, _ => by
    simp only [List.set_cons_zero, objsFrom, List.getElem_cons_zero, symsFrom_snoc]
    exact find_skip (hits_bind (by simpa using hb)) _ _
  | o :: r, i, n + 1, h => by
    simp only [List.set_cons_succ, objsFrom, List.getElem_cons_succ, List.find?_append]
    rw [find_add hb r (i + 1) n (by simpa using h)]
theorem winner_add {l : List GObj} {n : Nat} {s : GSym} (h : n < l.length) (hs : s.bind = 0) (nm : List UInt8) : winnerIn (flat (addSym l n s)) nm = winnerIn (flat l) nm := by
  rw [addSym_at h]
  unfold winnerIn firstBy flat
  rw [find_add (by omega) l 0 n h, find_add (by omega) l 0 n h]
theorem local_add {l : List GObj} {n i : Nat} {s : GSym} (hi : i ≠ n) (nm : List UInt8) : localAt (addSym l n s) i nm = localAt l i nm := by
  have h : (addSym l n s)[i]? = l[i]? := by
    unfold addSym
    split
    · rw [List.getElem?_set_ne (fun e => hi e.symm)]
    · rfl
  unfold localAt
  rw [h]
theorem apart_find {l : List GObj} {n : Nat} {s : GSym} (h : n < l.length) (hs : s.bind = 0) (h1 : (beginR l).2 = 0) (h2 : (beginR (addSym l n s)).2 = 0) {i : Int} (hi : i ≠ (n : Int)) (nm : List UInt8) : findAll (addSym l n s) i nm = findAll l i nm := by
  unfold findAll findR
  rw [h1, h2, addSym_length, winner_add h hs]
  by_cases h0 : 0 ≤ i
  · rw [local_add (by omega)]
  · simp [h0]
end Go.Proofs.YtiogoinaklgglaaDoor
