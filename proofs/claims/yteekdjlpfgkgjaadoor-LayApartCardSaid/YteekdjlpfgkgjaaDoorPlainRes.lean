/- Resolution of names (layer 12) in plain words. No program in sight. -/
import Derived.Test.YteekdjlpfgkgjaaDoorPlainSym
namespace Go.Proofs.YteekdjlpfgkgjaaDoor
/-- a symbol at its place -/
structure Spot where
  obj : Nat
  sym : Nat
  it : GSym
def symsFrom (i : Nat) : Nat → List GSym → List Spot
  | _, [] => []
  | k, s :: r => ⟨i, k, s⟩ :: symsFrom i (k + 1) r
def objsFrom : Nat → List GObj → List Spot
  | _, [] => []
  | i, o :: r => symsFrom i 0 o.syms ++ objsFrom (i + 1) r
/-- all symbols in their order -/
def flat (l : List GObj) : List Spot := objsFrom 0 l
def hits (n : List UInt8) (bind : Int) (x : Spot) : Bool := x.it.name.data.toList == n && decide (x.it.bind = bind)
/-- the first symbol of a name that is bound so -/
def firstBy (l : List Spot) (n : List UInt8) (bind : Int) : Option (Nat × Nat) := (l.find? (hits n bind)).map fun x => (x.obj, x.sym)
def winnerIn (l : List Spot) (n : List UInt8) : Option (Nat × Nat) := match firstBy l n 1 with | some p => some p | none => firstBy l n 2
/-- the name of the first strong symbol that is not the first of its name -/
def dupGo : List Spot → List Spot → Option ByteArray
  | _, [] => none
  | pre, x :: r => if x.it.bind = 1 ∧ (firstBy pre x.it.name.data.toList 1).isSome = true then some x.it.name else dupGo (pre ++ [x]) r
def mayAll (l : List GObj) : Bool := decide (l.length ≤ 16) && l.all mayP
def emptyB : ByteArray := ⟨#[]⟩
/-- resolve.begin's name and error -/
def beginR (l : List GObj) : ByteArray × Int :=
  if mayAll l then (match dupGo [] (flat l) with | some n => (n, 120) | none => (emptyB, 0)) else (emptyB, 2)
def placeV (p : Nat × Nat) : Value := .agg #[.int .i64 p.1, .int .i64 p.2]
def tabFn (l : List Spot) (n : List UInt8) : Option Value := (winnerIn l n).map placeV
def strongFn (l : List Spot) (n : List UInt8) : Option Value := if (firstBy l n 1).isSome then some (.int .i64 1) else none
def isLocal (n : List UInt8) (s : GSym) : Bool := s.name.data.toList == n && decide (s.bind = 0)
/-- the first symbol of its own that an object has of a name -/
def localAt (l : List GObj) (i : Nat) (n : List UInt8) : Option (Nat × Nat) := match l[i]? with | some o => (o.syms.findIdx? (isLocal n)).map (fun k => (i, k)) | none => none
/-- resolver.find -/
def findR (l : List GObj) (i : Int) (n : List UInt8) : Option (Nat × Nat) :=
  match (if 0 ≤ i then localAt l i.toNat n else none) with | some p => some p | none => winnerIn (flat l) n
/-- resolve.Find -/
def findAll (l : List GObj) (i : Int) (n : List UInt8) : (Nat × Nat) × Int :=
  if (beginR l).2 ≠ 0 then ((0, 0), (beginR l).2) else if i < -1 ∨ (l.length : Int) ≤ i then ((0, 0), 2) else match findR l i n with | some p => (p, 0) | none => ((0, 0), 121)
theorem findIdx_none {α : Type} {p : α → Bool} {l : List α} (h : l.all (fun x => !p x) = true) : l.findIdx? p = none := by
  rw [List.findIdx?_eq_none_iff]
  intro x hx
  simpa using List.all_eq_true.1 h x hx
theorem findIdx_some {α : Type} {p : α → Bool} {l : List α} {k : Nat} {x : α} (h : k < l.length) (hx : l[k] = x) (hp : p x = true) (ha : (l.take k).all (fun x => !p x) = true) : l.findIdx? p = some k := by
  rw [List.findIdx?_eq_some_iff_getElem]
  refine ⟨h, by rw [hx]; exact hp, fun j hj => ?_⟩
  have : l[j] ∈ l.take k := by
    rw [List.mem_take_iff_getElem]
    exact ⟨j, by omega, by simp⟩
  have := List.all_eq_true.1 ha _ this
  simpa using this
theorem firstBy_snoc (l : List Spot) (x : Spot) (n : List UInt8) (b : Int) : firstBy (l ++ [x]) n b = match firstBy l n b with | some p => some p | none => if hits n b x then some (x.obj, x.sym) else none := by
  unfold firstBy
  rw [List.find?_append]
  cases h : l.find? (hits n b) with
  | some y => simp
  | none => by_cases h2 : hits n b x <;> simp [h2]
theorem tabFn_nil : (fun _ => none) = tabFn [] := by funext n; rfl
theorem strongFn_nil : (fun _ => none) = strongFn [] := by funext n; rfl
theorem hits_other {n : List UInt8} {b : Int} {x : Spot} (h : ¬ n = x.it.name.data.toList) : hits n b x = false := by
  simp [hits]; intro e; exact absurd e.symm h
theorem hits_bind {n : List UInt8} {b : Int} {x : Spot} (h : ¬ x.it.bind = b) : hits n b x = false := by simp [hits, h]
theorem hits_self {b : Int} {x : Spot} (h : x.it.bind = b) : hits x.it.name.data.toList b x = true := by simp [hits, h]
theorem winnerIn_snoc_other (l : List Spot) (x : Spot) {n : List UInt8} (h : ¬ n = x.it.name.data.toList) : winnerIn (l ++ [x]) n = winnerIn l n := by
  unfold winnerIn
  rw [firstBy_snoc, firstBy_snoc, hits_other h, hits_other h]
  cases firstBy l n 1 <;> cases firstBy l n 2 <;> rfl
/-- a strong one that is the first strong one of its name: it wins -/
theorem tab_strong {l : List Spot} {x : Spot} (hb : x.it.bind = 1) (hn : (firstBy l x.it.name.data.toList 1).isSome = false) :
    (fun n => if n = x.it.name.data.toList then some (placeV (x.obj, x.sym)) else tabFn l n) = tabFn (l ++ [x]) := by
  funext n
  unfold tabFn
  by_cases h : n = x.it.name.data.toList
  · subst h
    simp only [if_true]
    have : firstBy l x.it.name.data.toList 1 = none := by simpa using hn
    unfold winnerIn
    rw [firstBy_snoc, this, hits_self hb]; rfl
  · rw [if_neg h, winnerIn_snoc_other l x h]
/-- a weak one of a name that has no winner: it wins -/
theorem tab_weak {l : List Spot} {x : Spot} (hb : x.it.bind = 2) (hn : (winnerIn l x.it.name.data.toList).isSome = false) :
    (fun n => if n = x.it.name.data.toList then some (placeV (x.obj, x.sym)) else tabFn l n) = tabFn (l ++ [x]) := by
  funext n
  unfold tabFn
  by_cases h : n = x.it.name.data.toList
  · subst h
    simp only [if_true]
    have h0 : winnerIn l x.it.name.data.toList = none := by simpa using hn
    unfold winnerIn at h0 ⊢
    rw [firstBy_snoc, firstBy_snoc]
    cases h1 : firstBy l x.it.name.data.toList 1 with
    | some p => rw [h1] at h0; cases h0
    | none =>
      rw [h1] at h0
      simp only at h0
      rw [h0, hits_bind (by omega), hits_self hb]; rfl
  · rw [if_neg h, winnerIn_snoc_other l x h]
/-- else nothing changes -/
theorem tab_same {l : List Spot} {x : Spot} (hb : ¬ x.it.bind = 1) (hn : ¬ x.it.bind = 2 ∨ (winnerIn l x.it.name.data.toList).isSome = true) : tabFn l = tabFn (l ++ [x]) := by
  funext n
  unfold tabFn
  congr 1
  by_cases h : n = x.it.name.data.toList
  · subst h
    unfold winnerIn at hn ⊢
    rw [firstBy_snoc, firstBy_snoc, hits_bind hb]
    cases h1 : firstBy l x.it.name.data.toList 1 with
    | some p => rfl
    | none =>
      rw [h1] at hn
      simp only at hn ⊢
      cases h2 : firstBy l x.it.name.data.toList 2 with
      | some p => rfl
      | none =>
        rw [h2] at hn
        rcases hn with hn | hn
        · rw [hits_bind hn]; rfl
        · cases hn
  · rw [winnerIn_snoc_other l x h]
theorem strong_yes {l : List Spot} {x : Spot} (hb : x.it.bind = 1) : (fun n => if n = x.it.name.data.toList then some (Value.int .i64 1) else strongFn l n) = strongFn (l ++ [x]) := by
  funext n
  unfold strongFn
  rw [firstBy_snoc]
  by_cases h : n = x.it.name.data.toList
  · subst h
    rw [if_pos rfl, hits_self hb]
    cases firstBy l x.it.name.data.toList 1 <;> rfl
  · rw [if_neg h, hits_other h]
    cases firstBy l n 1 <;> rfl
theorem strong_same {l : List Spot} {x : Spot} (hb : ¬ x.it.bind = 1) : strongFn l = strongFn (l ++ [x]) := by
  funext n
  unfold strongFn
  rw [firstBy_snoc, hits_bind hb]
  cases firstBy l n 1 <;> rfl
theorem strongFn_val_yes {l : List Spot} {n : List UInt8} (h : (firstBy l n 1).isSome = true) : (strongFn l n).getD (.int .i64 0) = .int .i64 1 := by simp [strongFn, h]
theorem strongFn_val_no {l : List Spot} {n : List UInt8} (h : (firstBy l n 1).isSome = false) : (strongFn l n).getD (.int .i64 0) = .int .i64 0 := by simp [strongFn, h]
theorem tabFn_val (l : List Spot) (n : List UInt8) : ∃ a b : Int, (tabFn l n).getD (.agg #[.int .i64 0, .int .i64 0]) = .agg #[.int .i64 a, .int .i64 b] := by
  cases h : winnerIn l n with
  | none => exact ⟨0, 0, by simp [tabFn, h]⟩
  | some p => exact ⟨p.1, p.2, by simp [tabFn, h, placeV]⟩
theorem tabFn_isSome (l : List Spot) (n : List UInt8) : (tabFn l n).isSome = (winnerIn l n).isSome := by simp [tabFn]
theorem symsFrom_drop {i k : Nat} {l : List GSym} (h : k < l.length) : symsFrom i k (l.drop k) = ⟨i, k, l[k]⟩ :: symsFrom i (k + 1) (l.drop (k + 1)) := by
  rw [List.drop_eq_getElem_cons h, symsFrom]
theorem objsFrom_drop {i : Nat} {l : List GObj} (h : i < l.length) : objsFrom i (l.drop i) = symsFrom i 0 l[i].syms ++ objsFrom (i + 1) (l.drop (i + 1)) := by
  rw [List.drop_eq_getElem_cons h, objsFrom]
theorem cat_step {pre rest fl : List Spot} {i k : Nat} {xs : List GSym} {y : GSym} (hk : k < xs.length) (hy : xs[k] = y) (h : pre ++ (symsFrom i k (xs.drop k) ++ rest) = fl) :
    (pre ++ [⟨i, k, y⟩]) ++ (symsFrom i (k + 1) (xs.drop (k + 1)) ++ rest) = fl := by
  rw [← h, symsFrom_drop hk, hy]; simp
theorem dup_step {pre rest : List Spot} {d : Option ByteArray} {i k : Nat} {xs : List GSym} {y : GSym} (hk : k < xs.length) (hy : xs[k] = y) (h : dupGo pre (symsFrom i k (xs.drop k) ++ rest) = d)
    (hb : ¬ (y.bind = 1 ∧ (firstBy pre y.name.data.toList 1).isSome = true)) : dupGo (pre ++ [⟨i, k, y⟩]) (symsFrom i (k + 1) (xs.drop (k + 1)) ++ rest) = d := by
  rw [← h, symsFrom_drop hk, hy, List.cons_append, dupGo, if_neg hb]
theorem symsFrom_length (i : Nat) : ∀ (k : Nat) (l : List GSym), (symsFrom i k l).length = l.length
  | _, [] => rfl
  | k, _ :: r => by simp [symsFrom, symsFrom_length i (k + 1) r]
theorem objsFrom_length_le : ∀ (i : Nat) (l : List GObj), l.all mayP = true → (objsFrom i l).length ≤ 64 * l.length
  | _, [], _ => by simp [objsFrom]
  | i, o :: r, h => by
    simp only [List.all_cons, Bool.and_eq_true] at h
    have h1 := objsFrom_length_le (i + 1) r h.2
    have h2 : o.syms.length ≤ 64 := by have := h.1; simp [mayP] at this; omega
    simp [objsFrom, symsFrom_length]; omega
theorem flat_length_le {l : List GObj} (h : mayAll l = true) : (flat l).length ≤ 1024 := by
  simp only [mayAll, Bool.and_eq_true, decide_eq_true_eq] at h
  have := objsFrom_length_le 0 l h.2
  unfold flat; omega
end Go.Proofs.YteekdjlpfgkgjaaDoor
