/- What notes, symbols and objects may be (layer 8), in plain words: the reference's reading (noteOk, symOk, mayOk) and the program's (symOkP, mayP). No program in sight. Resolution of names (layer 12) in plain words. No program in sight. The plain law of ResolveOne: what the resolution's answer says of all symbols of a name. No program in sight. The reference's reading of objects (layer 8), in plain words, and that it is the program's where no text has 2^32 bytes. No program in sight. The order of all symbols: no two have one place. No program in sight. The references of a symbol, and how many it may have. No program in sight. What law08.Large reckons, in plain words. No program in sight. Where symbols are laid (layer 14), in plain words. No program in sight. -/
import Derived.Test.YtoonkfhphbojcaaGreatDoorBv03
namespace Go.Proofs.YtoonkfhphbojcaaGreatDoor
theorem ibeq (a b : Int) : (a == b) = decide (a = b) := rfl
theorem ibne (a b : Int) : (a != b) = !decide (a = b) := rfl
def errB (b : Bool) : Int := if b then 0 else 2
def noteOk (x : GNote) : Bool :=
  if x.kind = 1 then decide (x.n ≤ 1024) && decide (x.m = 0)
  else if x.kind = 2 then decide (x.n < 16) && decide (1 ≤ x.m) && decide (x.m ≤ 1024)
  else if x.kind = 3 then decide (1 ≤ x.n) && decide (x.n ≤ 65535) && decide (x.m = 0)
  else if x.kind = 4 then decide (x.n = 0) && decide (x.m = 0)
  else false
/-- the program's uint32 of a length -/
def len32 (s : ByteArray) : Int := (s.size : Int) % 4294967296
def sizedB (kind size n : Int) : Bool := decide (1 ≤ size) && decide (size ≤ 8192) && decide (n ≤ size) && (decide (kind ≠ 1) || (decide (n = size) && decide (n % 8 = 0)))
def sizedOk (s : GSym) : Bool := sizedB s.kind s.size (len32 s.bytes)
theorem sizedB_eq {kind size n : Int} {b : Bool} (h : b = true ↔ (1 ≤ size ∧ size ≤ 8192 ∧ n ≤ size ∧ (kind ≠ 1 ∨ (n = size ∧ n % 8 = 0)))) : b = sizedB kind size n := by
  rw [Bool.eq_iff_iff, h]; simp [sizedB, and_assoc]
def placesOk (s : GSym) : Bool := relsGo (len32 s.bytes) 0 s.rels && decide (s.rels.length ≤ 1024)
def symOkP (s : GSym) : Bool :=
  isName s.name && decide (s.bind ≤ 2) && decide (1 ≤ s.kind) && decide (s.kind ≤ 3) && sizedOk s && placesOk s && decide (s.notes.length ≤ 8) && s.notes.all noteOk
def symOk (s : GSym) : Bool :=
  isName s.name && decide (s.bind ≤ 2) && decide (1 ≤ s.kind) && decide (s.kind ≤ 3) && decide (1 ≤ s.size) && decide (s.size ≤ 8192) && decide ((s.bytes.size : Int) ≤ s.size) &&
    (decide (s.kind ≠ 1) || (decide ((s.bytes.size : Int) = s.size) && decide (s.size % 8 = 0))) && s.notes.all noteOk && relsOk s && decide (s.notes.length ≤ 8)
def hasName (l : List GSym) (n : List UInt8) : Bool := l.any fun t => t.name.data.toList == n
/-- the program's walk over symbols: 'seen' are those before -/
def symsGo : List GSym → List GSym → Bool
  | _, [] => true
  | seen, s :: r => !hasName seen s.name.data.toList && symOkP s && symsGo (seen ++ [s]) r
theorem hasName_snoc (l : List GSym) (s : GSym) (n : List UInt8) : hasName (l ++ [s]) n = (hasName l n || s.name.data.toList == n) := by simp [hasName]
def mayP (o : GObj) : Bool := symsGo [] o.syms && isName o.name && decide (o.syms.length ≤ 64)
theorem mayP_no {o : GObj} {k : Nat} {x : GSym} (hlt : k < o.syms.length) (hx : o.syms[k] = x) (hgo : symsGo (o.syms.take k) (o.syms.drop k) = symsGo [] o.syms)
    (h : hasName (o.syms.take k) x.name.data.toList = true ∨ symOkP x = false) : false = mayP o := by
  rw [List.drop_eq_getElem_cons hlt, hx, symsGo] at hgo
  rcases h with h | h <;> simp [mayP, ← hgo, h]
theorem symsGo_yes {l : List GSym} {k : Nat} {x : GSym} (hlt : k < l.length) (hx : l[k] = x) (hgo : symsGo (l.take k) (l.drop k) = symsGo [] l)
    (h1 : hasName (l.take k) x.name.data.toList = false) (h2 : symOkP x = true) : symsGo (l.take (k + 1)) (l.drop (k + 1)) = symsGo [] l := by
  rw [← hgo, List.drop_eq_getElem_cons hlt, hx, symsGo, h1, h2, List.take_succ_eq_append_getElem hlt, hx]; simp
theorem mayP_end {o : GObj} {k : Nat} (hlt : ¬ k < o.syms.length) (hgo : symsGo (o.syms.take k) (o.syms.drop k) = symsGo [] o.syms) : mayP o = (isName o.name && decide (o.syms.length ≤ 64)) := by
  rw [List.drop_of_length_le (by omega), symsGo] at hgo
  simp [mayP, ← hgo]
/-- the table of names seen: each once -/
def seenFn (l : List GSym) (n : List UInt8) : Option Value := if hasName l n then some (.int .i64 1) else none
theorem seenFn_snoc {l : List GSym} {k : Nat} {x : GSym} (hlt : k < l.length) (hx : l[k] = x) : (fun n => if n = x.name.data.toList then some (Value.int .i64 1) else seenFn (l.take k) n) = seenFn (l.take (k + 1)) := by
  funext n
  simp only [seenFn]
  rw [List.take_succ_eq_append_getElem hlt, hx, hasName_snoc]
  by_cases h : n = x.name.data.toList
  · simp [h]
  · have h2 : (x.name.data.toList == n) = false := by simp; exact fun e => h e.symm
    simp [h, h2]
theorem seenFn_nil : (fun _ => none) = seenFn [] := by funext n; simp [seenFn, hasName]
theorem seenFn_yes {l : List GSym} {n : List UInt8} (h : hasName l n = true) : (seenFn l n).getD (.int .i64 0) = .int .i64 1 := by simp [seenFn, h]
theorem seenFn_no {l : List GSym} {n : List UInt8} (h : hasName l n = false) : (seenFn l n).getD (.int .i64 0) = .int .i64 0 := by simp [seenFn, h]
theorem take_all_snoc {α : Type} {p : α → Bool} {l : List α} {k : Nat} {x : α} (h : k < l.length) (hx : l[k] = x) (ha : (l.take k).all p = true) (hb : p x = true) : (l.take (k + 1)).all p = true := by
  rw [List.take_succ_eq_append_getElem h, List.all_append, ha, hx]; simp [hb]
theorem all_bad {α : Type} {p : α → Bool} {l : List α} {k : Nat} {x : α} (h : k < l.length) (hx : l[k] = x) (hb : p x = false) : l.all p = false := by
  rw [List.all_eq_false]; exact ⟨x, hx ▸ List.getElem_mem h, by simp [hb]⟩
theorem all_end {α : Type} {p : α → Bool} {l : List α} {k : Nat} (h : ¬ k < l.length) (ha : (l.take k).all p = true) : l.all p = true := by
  rwa [List.take_of_length_le (by omega)] at ha
end Go.Proofs.YtoonkfhphbojcaaGreatDoor
namespace Go.Proofs.YtoonkfhphbojcaaGreatDoor
/-- a symbol at its place -/
structure Spot where
  obj : Nat
  sym : Nat
  it : GSym
def symsFrom (i : Nat) : Nat → List GSym → List Spot
  | _, [] => []
  | k, s :: r => ⟨i, k, s⟩ :: symsFrom i (k + 1) r
def objsFrom : Nat → List GObj → List Spot
  | _, [] => []
  | i, o :: r => symsFrom i 0 o.syms ++ objsFrom (i + 1) r
/-- all symbols in their order -/
def flat (l : List GObj) : List Spot := objsFrom 0 l
def hits (n : List UInt8) (bind : Int) (x : Spot) : Bool := x.it.name.data.toList == n && decide (x.it.bind = bind)
/-- the first symbol of a name that is bound so -/
def firstBy (l : List Spot) (n : List UInt8) (bind : Int) : Option (Nat × Nat) := (l.find? (hits n bind)).map fun x => (x.obj, x.sym)
def winnerIn (l : List Spot) (n : List UInt8) : Option (Nat × Nat) := match firstBy l n 1 with | some p => some p | none => firstBy l n 2
/-- the name of the first strong symbol that is not the first of its name -/
def dupGo : List Spot → List Spot → Option ByteArray
  | _, [] => none
  | pre, x :: r => if x.it.bind = 1 ∧ (firstBy pre x.it.name.data.toList 1).isSome = true then some x.it.name else dupGo (pre ++ [x]) r
def mayAll (l : List GObj) : Bool := decide (l.length ≤ 16) && l.all mayP
def emptyB : ByteArray := ⟨#[]⟩
/-- resolve.begin's name and error -/
def beginR (l : List GObj) : ByteArray × Int :=
  if mayAll l then (match dupGo [] (flat l) with | some n => (n, 120) | none => (emptyB, 0)) else (emptyB, 2)
def placeV (p : Nat × Nat) : Value := .agg #[.int .i64 p.1, .int .i64 p.2]
def tabFn (l : List Spot) (n : List UInt8) : Option Value := (winnerIn l n).map placeV
def strongFn (l : List Spot) (n : List UInt8) : Option Value := if (firstBy l n 1).isSome then some (.int .i64 1) else none
def isLocal (n : List UInt8) (s : GSym) : Bool := s.name.data.toList == n && decide (s.bind = 0)
/-- the first symbol of its own that an object has of a name -/
def localAt (l : List GObj) (i : Nat) (n : List UInt8) : Option (Nat × Nat) := match l[i]? with | some o => (o.syms.findIdx? (isLocal n)).map (fun k => (i, k)) | none => none
/-- resolver.find -/
def findR (l : List GObj) (i : Int) (n : List UInt8) : Option (Nat × Nat) :=
  match (if 0 ≤ i then localAt l i.toNat n else none) with | some p => some p | none => winnerIn (flat l) n
/-- resolve.Find -/
def findAll (l : List GObj) (i : Int) (n : List UInt8) : (Nat × Nat) × Int :=
  if (beginR l).2 ≠ 0 then ((0, 0), (beginR l).2) else if i < -1 ∨ (l.length : Int) ≤ i then ((0, 0), 2) else match findR l i n with | some p => (p, 0) | none => ((0, 0), 121)
theorem findIdx_none {α : Type} {p : α → Bool} {l : List α} (h : l.all (fun x => !p x) = true) : l.findIdx? p = none := by
  rw [List.findIdx?_eq_none_iff]
  intro x hx
  simpa using List.all_eq_true.1 h x hx
theorem findIdx_some {α : Type} {p : α → Bool} {l : List α} {k : Nat} {x : α} (h : k < l.length) (hx : l[k] = x) (hp : p x = true) (ha : (l.take k).all (fun x => !p x) = true) : l.findIdx? p = some k := by
  rw [List.findIdx?_eq_some_iff_getElem]
  refine ⟨h, by rw [hx]; exact hp, fun j hj => ?_⟩
  have : l[j] ∈ l.take k := by
    rw [List.mem_take_iff_getElem]
    exact ⟨j, by omega, by simp⟩
  have := List.all_eq_true.1 ha _ this
  simpa using this
theorem firstBy_snoc (l : List Spot) (x : Spot) (n : List UInt8) (b : Int) : firstBy (l ++ [x]) n b = match firstBy l n b with | some p => some p | none => if hits n b x then some (x.obj, x.sym) else none := by
  unfold firstBy
  rw [List.find?_append]
  cases h : l.find? (hits n b) with
  | some y => simp
  | none => by_cases h2 : hits n b x <;> simp [h2]
theorem tabFn_nil : (fun _ => none) = tabFn [] := by funext n; rfl
theorem strongFn_nil : (fun _ => none) = strongFn [] := by funext n; rfl
theorem hits_other {n : List UInt8} {b : Int} {x : Spot} (h : ¬ n = x.it.name.data.toList) : hits n b x = false := by
  simp [hits]; intro e; exact absurd e.symm h
theorem hits_bind {n : List UInt8} {b : Int} {x : Spot} (h : ¬ x.it.bind = b) : hits n b x = false := by simp [hits, h]
theorem hits_self {b : Int} {x : Spot} (h : x.it.bind = b) : hits x.it.name.data.toList b x = true := by simp [hits, h]
theorem winnerIn_snoc_other (l : List Spot) (x : Spot) {n : List UInt8} (h : ¬ n = x.it.name.data.toList) : winnerIn (l ++ [x]) n = winnerIn l n := by
  unfold winnerIn
  rw [firstBy_snoc, firstBy_snoc, hits_other h, hits_other h]
  cases firstBy l n 1 <;> cases firstBy l n 2 <;> rfl
/-- a strong one that is the first strong one of its name: it wins -/
theorem tab_strong {l : List Spot} {x : Spot} (hb : x.it.bind = 1) (hn : (firstBy l x.it.name.data.toList 1).isSome = false) :
    (fun n => if n = x.it.name.data.toList then some (placeV (x.obj, x.sym)) else tabFn l n) = tabFn (l ++ [x]) := by
  funext n
  unfold tabFn
  by_cases h : n = x.it.name.data.toList
  · subst h
    simp only [if_true]
    have : firstBy l x.it.name.data.toList 1 = none := by simpa using hn
    unfold winnerIn
    rw [firstBy_snoc, this, hits_self hb]; rfl
  · rw [if_neg h, winnerIn_snoc_other l x h]
/-- a weak one of a name that has no winner: it wins -/
theorem tab_weak {l : List Spot} {x : Spot} (hb : x.it.bind = 2) (hn : (winnerIn l x.it.name.data.toList).isSome = false) :
    (fun n => if n = x.it.name.data.toList then some (placeV (x.obj, x.sym)) else tabFn l n) = tabFn (l ++ [x]) := by
  funext n
  unfold tabFn
  by_cases h : n = x.it.name.data.toList
  · subst h
    simp only [if_true]
    have h0 : winnerIn l x.it.name.data.toList = none := by simpa using hn
    unfold winnerIn at h0 ⊢
    rw [firstBy_snoc, firstBy_snoc]
    cases h1 : firstBy l x.it.name.data.toList 1 with
    | some p => rw [h1] at h0; cases h0
    | none =>
      rw [h1] at h0
      simp only at h0
      rw [h0, hits_bind (by omega), hits_self hb]; rfl
  · rw [if_neg h, winnerIn_snoc_other l x h]
/-- else nothing changes -/
theorem tab_same {l : List Spot} {x : Spot} (hb : ¬ x.it.bind = 1) (hn : ¬ x.it.bind = 2 ∨ (winnerIn l x.it.name.data.toList).isSome = true) : tabFn l = tabFn (l ++ [x]) := by
  funext n
  unfold tabFn
  congr 1
  by_cases h : n = x.it.name.data.toList
  · subst h
    unfold winnerIn at hn ⊢
    rw [firstBy_snoc, firstBy_snoc, hits_bind hb]
    cases h1 : firstBy l x.it.name.data.toList 1 with
    | some p => rfl
    | none =>
      rw [h1] at hn
      simp only at hn ⊢
      cases h2 : firstBy l x.it.name.data.toList 2 with
      | some p => rfl
      | none =>
        rw [h2] at hn
        rcases hn with hn | hn
        · rw [hits_bind hn]; rfl
        · cases hn
  · rw [winnerIn_snoc_other l x h]
theorem strong_yes {l : List Spot} {x : Spot} (hb : x.it.bind = 1) : (fun n => if n = x.it.name.data.toList then some (Value.int .i64 1) else strongFn l n) = strongFn (l ++ [x]) := by
  funext n
  unfold strongFn
  rw [firstBy_snoc]
  by_cases h : n = x.it.name.data.toList
  · subst h
    rw [if_pos rfl, hits_self hb]
    cases firstBy l x.it.name.data.toList 1 <;> rfl
  · rw [if_neg h, hits_other h]
    cases firstBy l n 1 <;> rfl
theorem strong_same {l : List Spot} {x : Spot} (hb : ¬ x.it.bind = 1) : strongFn l = strongFn (l ++ [x]) := by
  funext n
  unfold strongFn
  rw [firstBy_snoc, hits_bind hb]
  cases firstBy l n 1 <;> rfl
theorem strongFn_val_yes {l : List Spot} {n : List UInt8} (h : (firstBy l n 1).isSome = true) : (strongFn l n).getD (.int .i64 0) = .int .i64 1 := by simp [strongFn, h]
theorem strongFn_val_no {l : List Spot} {n : List UInt8} (h : (firstBy l n 1).isSome = false) : (strongFn l n).getD (.int .i64 0) = .int .i64 0 := by simp [strongFn, h]
theorem tabFn_val (l : List Spot) (n : List UInt8) : ∃ a b : Int, (tabFn l n).getD (.agg #[.int .i64 0, .int .i64 0]) = .agg #[.int .i64 a, .int .i64 b] := by
  cases h : winnerIn l n with
  | none => exact ⟨0, 0, by simp [tabFn, h]⟩
  | some p => exact ⟨p.1, p.2, by simp [tabFn, h, placeV]⟩
theorem tabFn_isSome (l : List Spot) (n : List UInt8) : (tabFn l n).isSome = (winnerIn l n).isSome := by simp [tabFn]
theorem symsFrom_drop {i k : Nat} {l : List GSym} (h : k < l.length) : symsFrom i k (l.drop k) = ⟨i, k, l[k]⟩ :: symsFrom i (k + 1) (l.drop (k + 1)) := by
  rw [List.drop_eq_getElem_cons h, symsFrom]
theorem objsFrom_drop {i : Nat} {l : List GObj} (h : i < l.length) : objsFrom i (l.drop i) = symsFrom i 0 l[i].syms ++ objsFrom (i + 1) (l.drop (i + 1)) := by
  rw [List.drop_eq_getElem_cons h, objsFrom]
theorem cat_step {pre rest fl : List Spot} {i k : Nat} {xs : List GSym} {y : GSym} (hk : k < xs.length) (hy : xs[k] = y) (h : pre ++ (symsFrom i k (xs.drop k) ++ rest) = fl) :
    (pre ++ [⟨i, k, y⟩]) ++ (symsFrom i (k + 1) (xs.drop (k + 1)) ++ rest) = fl := by
  rw [← h, symsFrom_drop hk, hy]; simp
theorem dup_step {pre rest : List Spot} {d : Option ByteArray} {i k : Nat} {xs : List GSym} {y : GSym} (hk : k < xs.length) (hy : xs[k] = y) (h : dupGo pre (symsFrom i k (xs.drop k) ++ rest) = d)
    (hb : ¬ (y.bind = 1 ∧ (firstBy pre y.name.data.toList 1).isSome = true)) : dupGo (pre ++ [⟨i, k, y⟩]) (symsFrom i (k + 1) (xs.drop (k + 1)) ++ rest) = d := by
  rw [← h, symsFrom_drop hk, hy, List.cons_append, dupGo, if_neg hb]
theorem symsFrom_length (i : Nat) : ∀ (k : Nat) (l : List GSym), (symsFrom i k l).length = l.length
  | _, [] => rfl
  | k, _ :: r => by simp [symsFrom, symsFrom_length i (k + 1) r]
theorem objsFrom_length_le : ∀ (i : Nat) (l : List GObj), l.all mayP = true → (objsFrom i l).length ≤ 64 * l.length
  | _, [], _ => by simp [objsFrom]
  | i, o :: r, h => by
    simp only [List.all_cons, Bool.and_eq_true] at h
    have h1 := objsFrom_length_le (i + 1) r h.2
    have h2 : o.syms.length ≤ 64 := by have := h.1; simp [mayP] at this; omega
    simp [objsFrom, symsFrom_length]; omega
theorem flat_length_le {l : List GObj} (h : mayAll l = true) : (flat l).length ≤ 1024 := by
  simp only [mayAll, Bool.and_eq_true, decide_eq_true_eq] at h
  have := objsFrom_length_le 0 l h.2
  unfold flat; omega
end Go.Proofs.YtoonkfhphbojcaaGreatDoor
namespace Go.Proofs.YtoonkfhphbojcaaGreatDoor
def cntBy (l : List Spot) (n : List UInt8) (b : Int) : Nat := (l.filter (hits n b)).length
def ownIn (l : List Spot) (i : Nat) (n : List UInt8) : Bool := l.any fun x => hits n 0 x && decide (x.obj = i)
theorem cntBy_snoc (l : List Spot) (x : Spot) (n : List UInt8) (b : Int) : cntBy (l ++ [x]) n b = cntBy l n b + if hits n b x then 1 else 0 := by
  unfold cntBy
  rw [List.filter_append, List.length_append]
  by_cases h : hits n b x <;> simp [h]
theorem ownIn_snoc (l : List Spot) (x : Spot) (i : Nat) (n : List UInt8) : ownIn (l ++ [x]) i n = (ownIn l i n || (hits n 0 x && decide (x.obj = i))) := by simp [ownIn]
theorem cnt_zero {l : List Spot} {n : List UInt8} {b : Int} (h : firstBy l n b = none) : cntBy l n b = 0 := by
  unfold firstBy at h
  simp only [Option.map_eq_none_iff, List.find?_eq_none] at h
  unfold cntBy
  rw [List.filter_eq_nil_iff.2 (fun x hx => h x hx)]; rfl
theorem cnt_pos {l : List Spot} {n : List UInt8} {b : Int} {p : Nat × Nat} (h : firstBy l n b = some p) : 0 < cntBy l n b := by
  unfold firstBy at h
  simp only [Option.map_eq_some_iff] at h
  obtain ⟨x, hx, _⟩ := h
  have h1 := List.mem_of_find?_eq_some hx
  have h2 := List.find?_some hx
  unfold cntBy
  exact List.length_pos_of_mem (List.mem_filter.2 ⟨h1, h2⟩)
/-- no strong one twice: at most one of a name -/
theorem cnt_of_dup (n : List UInt8) : ∀ (rest pre : List Spot), dupGo pre rest = none → cntBy pre n 1 ≤ 1 → cntBy (pre ++ rest) n 1 ≤ 1
  | [], pre, _, h => by simpa using h
  | x :: r, pre, hd, h => by
    unfold dupGo at hd
    split at hd
    · cases hd
    · rename_i hno
      have := cnt_of_dup n r (pre ++ [x]) hd (by
        rw [cntBy_snoc]
        by_cases hx : hits n 1 x = true
        · rw [if_pos hx]
          have hx' := hx
          simp only [hits, Bool.and_eq_true, beq_iff_eq, decide_eq_true_eq] at hx'
          have hf : (firstBy pre n 1).isSome = false := by
            rw [← hx'.1]
            cases h3 : (firstBy pre x.it.name.data.toList 1).isSome with
            | false => rfl
            | true => exact absurd ⟨hx'.2, h3⟩ hno
          rw [cnt_zero (by simpa using hf)]; omega
        · rw [if_neg hx]; omega)
      simpa using this
theorem symsFrom_mem (i : Nat) : ∀ (k : Nat) (l : List GSym) (x : Spot), x ∈ symsFrom i k l → x.obj = i ∧ k ≤ x.sym ∧ l[x.sym - k]? = some x.it
  | k, [], x, h => by simp [symsFrom] at h
  | k, s :: r, x, h => by
    simp only [symsFrom, List.mem_cons] at h
    rcases h with rfl | h
    · simp
    · obtain ⟨h1, h2, h3⟩ := symsFrom_mem i (k + 1) r x h
      refine ⟨h1, by omega, ?_⟩
      rw [show x.sym - k = (x.sym - (k + 1)) + 1 by omega, List.getElem?_cons_succ]; exact h3
theorem symsFrom_of_get (i : Nat) : ∀ (k : Nat) (l : List GSym) (j : Nat) (s : GSym), l[j]? = some s → (⟨i, k + j, s⟩ : Spot) ∈ symsFrom i k l
  | k, [], j, s, h => by simp at h
  | k, a :: r, 0, s, h => by simp at h; subst h; simp [symsFrom]
  | k, a :: r, j + 1, s, h => by
    simp only [symsFrom, List.mem_cons]
    right
    have := symsFrom_of_get i (k + 1) r j s (by simpa using h)
    rwa [show k + 1 + j = k + (j + 1) by omega] at this
theorem objsFrom_mem : ∀ (i : Nat) (l : List GObj) (x : Spot), x ∈ objsFrom i l → i ≤ x.obj ∧ ∃ o, l[x.obj - i]? = some o ∧ o.syms[x.sym]? = some x.it
  | i, [], x, h => by simp [objsFrom] at h
  | i, o :: r, x, h => by
    simp only [objsFrom, List.mem_append] at h
    rcases h with h | h
    · obtain ⟨h1, _, h3⟩ := symsFrom_mem i 0 o.syms x h
      exact ⟨by omega, o, by simp [h1], by simpa using h3⟩
    · obtain ⟨h1, o', h2, h3⟩ := objsFrom_mem (i + 1) r x h
      refine ⟨by omega, o', ?_, h3⟩
      rw [show x.obj - i = (x.obj - (i + 1)) + 1 by omega, List.getElem?_cons_succ]; exact h2
theorem objsFrom_of_get : ∀ (i : Nat) (l : List GObj) (j : Nat) (o : GObj) (k : Nat) (s : GSym), l[j]? = some o → o.syms[k]? = some s → (⟨i + j, k, s⟩ : Spot) ∈ objsFrom i l
  | i, [], j, o, k, s, h, _ => by simp at h
  | i, a :: r, 0, o, k, s, h, h2 => by
    simp at h; subst h
    simp only [objsFrom, List.mem_append]
    left
    have := symsFrom_of_get i 0 a.syms k s h2
    simpa using this
  | i, a :: r, j + 1, o, k, s, h, h2 => by
    simp only [objsFrom, List.mem_append]
    right
    have := objsFrom_of_get (i + 1) r j o k s (by simpa using h) h2
    rwa [show i + 1 + j = i + (j + 1) by omega] at this
theorem flat_mem {l : List GObj} {x : Spot} (h : x ∈ flat l) : ∃ o, l[x.obj]? = some o ∧ o.syms[x.sym]? = some x.it := by
  obtain ⟨_, o, h1, h2⟩ := objsFrom_mem 0 l x h
  exact ⟨o, by simpa using h1, h2⟩
theorem mem_flat {l : List GObj} {j k : Nat} {o : GObj} {s : GSym} (h : l[j]? = some o) (h2 : o.syms[k]? = some s) : (⟨j, k, s⟩ : Spot) ∈ flat l := by
  have := objsFrom_of_get 0 l j o k s h h2
  simpa [flat] using this
theorem firstBy_mem {l : List GObj} {n : List UInt8} {b : Int} {p : Nat × Nat} (h : firstBy (flat l) n b = some p) : ∃ o s, l[p.1]? = some o ∧ o.syms[p.2]? = some s ∧ s.name.data.toList = n ∧ s.bind = b := by
  unfold firstBy at h
  simp only [Option.map_eq_some_iff] at h
  obtain ⟨x, hx, rfl⟩ := h
  obtain ⟨o, h1, h2⟩ := flat_mem (List.mem_of_find?_eq_some hx)
  have h3 := List.find?_some hx
  simp only [hits, Bool.and_eq_true, beq_iff_eq, decide_eq_true_eq] at h3
  exact ⟨o, x.it, h1, h2, h3.1, h3.2⟩
theorem localAt_own {l : List GObj} {i : Nat} {n : List UInt8} (hi : i < l.length) : (localAt l i n).isSome = ownIn (flat l) i n := by
  rw [Bool.eq_iff_iff]
  unfold localAt ownIn
  rw [List.getElem?_eq_getElem hi]
  simp only [Option.isSome_map, List.findIdx?_isSome, List.any_eq_true, Bool.and_eq_true, decide_eq_true_eq]
  constructor
  · rintro ⟨s, hs, hl⟩
    obtain ⟨k, hk, rfl⟩ := List.mem_iff_getElem.1 hs
    refine ⟨⟨i, k, l[i].syms[k]⟩, mem_flat (List.getElem?_eq_getElem hi) (List.getElem?_eq_getElem hk), ?_, rfl⟩
    simpa [isLocal, hits] using hl
  · rintro ⟨x, hx, hh, rfl⟩
    obtain ⟨o, h1, h2⟩ := flat_mem hx
    rw [List.getElem?_eq_getElem hi] at h1
    cases h1
    exact ⟨x.it, List.mem_of_getElem? h2, by simpa [isLocal, hits] using hh⟩
theorem localAt_some {l : List GObj} {i : Nat} {n : List UInt8} {p : Nat × Nat} (h : localAt l i n = some p) : p.1 = i ∧ ∃ o s, l[i]? = some o ∧ o.syms[p.2]? = some s ∧ s.name.data.toList = n ∧ s.bind = 0 := by
  unfold localAt at h
  cases hl : l[i]? with
  | none => rw [hl] at h; cases h
  | some o =>
    rw [hl] at h
    simp only [Option.map_eq_some_iff] at h
    obtain ⟨k, hk, rfl⟩ := h
    rw [List.findIdx?_eq_some_iff_getElem] at hk
    obtain ⟨hk1, hk2, _⟩ := hk
    simp only [isLocal, Bool.and_eq_true, beq_iff_eq, decide_eq_true_eq] at hk2
    exact ⟨rfl, o, o.syms[k], rfl, List.getElem?_eq_getElem hk1, hk2.1, hk2.2⟩
/-- which bind the found symbol must have -/
def wantB (own : Bool) (strong : Nat) : Int := if own then 0 else if 0 < strong then 1 else 2
theorem beginR_zero {l : List GObj} (h : (beginR l).2 = 0) : mayAll l = true ∧ dupGo [] (flat l) = none := by
  unfold beginR at h
  split at h
  · rename_i hm
    refine ⟨hm, ?_⟩
    cases hd : dupGo [] (flat l) with
    | none => rfl
    | some n => rw [hd] at h; cases h
  · cases h
theorem findAll_code {l : List GObj} {i : Nat} {n : List UInt8} (hi : i < l.length) : ((findAll l i n).2 = 2 ∨ (findAll l i n).2 = 120) ∨
    (findAll l i n = ((0, 0), 121) ∧ (beginR l).2 = 0 ∧ findR l i n = none) ∨ (∃ p, findAll l i n = (p, 0) ∧ (beginR l).2 = 0 ∧ findR l i n = some p) := by
  unfold findAll
  by_cases h0 : (beginR l).2 = 0
  · rw [if_neg (by simp [h0]), if_neg (by omega)]
    cases hf : findR l i n with
    | none => exact .inr (.inl ⟨rfl, h0, rfl⟩)
    | some p => exact .inr (.inr ⟨p, rfl, h0, rfl⟩)
  · rw [if_pos (by simpa using h0)]
    left
    simp only
    unfold beginR at h0 ⊢
    split
    · split
      · right; rfl
      · simp_all
    · left; rfl
theorem one_undef {l : List GObj} {i : Nat} {n : List UInt8} (hi : i < l.length) (hf : findR l i n = none) : cntBy (flat l) n 1 = 0 ∧ cntBy (flat l) n 2 = 0 ∧ ownIn (flat l) i n = false := by
  unfold findR at hf
  rw [if_pos (by omega), Int.toNat_natCast] at hf
  cases hl : localAt l i n with
  | some p => rw [hl] at hf; cases hf
  | none =>
    rw [hl] at hf
    simp only at hf
    unfold winnerIn at hf
    cases h1 : firstBy (flat l) n 1 with
    | some p => rw [h1] at hf; cases hf
    | none =>
      rw [h1] at hf
      exact ⟨cnt_zero h1, cnt_zero hf, by rw [← localAt_own hi, hl]; rfl⟩
theorem one_ok {l : List GObj} {i : Nat} {n : List UInt8} {p : Nat × Nat} (hi : i < l.length) (h0 : (beginR l).2 = 0) (hf : findR l i n = some p) :
    ∃ o s, l[p.1]? = some o ∧ o.syms[p.2]? = some s ∧ s.name.data.toList = n ∧ s.bind = wantB (ownIn (flat l) i n) (cntBy (flat l) n 1) ∧ cntBy (flat l) n 1 ≤ 1 ∧ (ownIn (flat l) i n = true → p.1 = i) := by
  have hc : cntBy (flat l) n 1 ≤ 1 := by
    have := cnt_of_dup n (flat l) [] (beginR_zero h0).2 (by simp [cntBy])
    simpa using this
  unfold findR at hf
  rw [if_pos (by omega), Int.toNat_natCast] at hf
  cases hl : localAt l i n with
  | some q =>
    rw [hl] at hf
    simp only [Option.some.injEq] at hf
    subst hf
    obtain ⟨h1, o, s, h2, h3, h4, h5⟩ := localAt_some hl
    have hown : ownIn (flat l) i n = true := by rw [← localAt_own hi, hl]; rfl
    exact ⟨o, s, by rw [h1]; exact h2, h3, h4, by rw [hown]; simpa [wantB] using h5, hc, fun _ => h1⟩
  | none =>
    rw [hl] at hf
    have hown : ownIn (flat l) i n = false := by rw [← localAt_own hi, hl]; rfl
    simp only [winnerIn] at hf
    cases h1 : firstBy (flat l) n 1 with
    | some q =>
      rw [h1] at hf
      simp only [Option.some.injEq] at hf
      subst hf
      obtain ⟨o, s, h2, h3, h4, h5⟩ := firstBy_mem h1
      have hp := cnt_pos h1
      exact ⟨o, s, h2, h3, h4, by rw [hown]; simpa [wantB, hp] using h5, hc, fun h => by rw [hown] at h; cases h⟩
    | none =>
      rw [h1] at hf
      obtain ⟨o, s, h2, h3, h4, h5⟩ := firstBy_mem hf
      have hp := cnt_zero h1
      exact ⟨o, s, h2, h3, h4, by rw [hown]; simpa [wantB, hp] using h5, hc, fun h => by rw [hown] at h; cases h⟩
end Go.Proofs.YtoonkfhphbojcaaGreatDoor
namespace Go.Proofs.YtoonkfhphbojcaaGreatDoor
def symsGoR : List GSym → List GSym → Bool
  | _, [] => true
  | seen, s :: r => symOk s && !hasName seen s.name.data.toList && symsGoR (seen ++ [s]) r
def mayOk (o : GObj) : Bool := symsGoR [] o.syms && isName o.name && decide (o.syms.length ≤ 64)
theorem mayOk_no {o : GObj} {k : Nat} {x : GSym} (hlt : k < o.syms.length) (hx : o.syms[k] = x) (hgo : symsGoR (o.syms.take k) (o.syms.drop k) = symsGoR [] o.syms)
    (h : hasName (o.syms.take k) x.name.data.toList = true ∨ symOk x = false) : false = mayOk o := by
  rw [List.drop_eq_getElem_cons hlt, hx, symsGoR] at hgo
  rcases h with h | h <;> simp [mayOk, ← hgo, h]
theorem symsGoR_yes {l : List GSym} {k : Nat} {x : GSym} (hlt : k < l.length) (hx : l[k] = x) (hgo : symsGoR (l.take k) (l.drop k) = symsGoR [] l)
    (h1 : hasName (l.take k) x.name.data.toList = false) (h2 : symOk x = true) : symsGoR (l.take (k + 1)) (l.drop (k + 1)) = symsGoR [] l := by
  rw [← hgo, List.drop_eq_getElem_cons hlt, hx, symsGoR, h1, h2, List.take_succ_eq_append_getElem hlt, hx]; simp
theorem mayOk_end {o : GObj} {k : Nat} (hlt : ¬ k < o.syms.length) (hgo : symsGoR (o.syms.take k) (o.syms.drop k) = symsGoR [] o.syms) : mayOk o = (isName o.name && decide (o.syms.length ≤ 64)) := by
  rw [List.drop_of_length_le (by omega), symsGoR] at hgo
  simp [mayOk, ← hgo]
/-- the first part of a symbol's test -/
def symA (s : GSym) : Prop := isName s.name = true ∧ s.bind ≤ 2 ∧ 1 ≤ s.kind ∧ s.kind ≤ 3 ∧ 1 ≤ s.size ∧ s.size ≤ 8192 ∧ (s.bytes.size : Int) ≤ s.size
def symB (s : GSym) : Prop := s.kind ≠ 1 ∨ ((s.bytes.size : Int) = s.size ∧ s.size % 8 = 0)
theorem symOk_noA {s : GSym} (h : ¬ symA s) : false = symOk s := by
  cases hs : symOk s with
  | false => rfl
  | true =>
    exfalso
    apply h
    simp only [symOk, Bool.and_eq_true, decide_eq_true_eq] at hs
    exact ⟨hs.1.1.1.1.1.1.1.1.1.1, hs.1.1.1.1.1.1.1.1.1.2, hs.1.1.1.1.1.1.1.1.2, hs.1.1.1.1.1.1.1.2, hs.1.1.1.1.1.1.2, hs.1.1.1.1.1.2, hs.1.1.1.1.2⟩
theorem symOk_noB {s : GSym} (h : ¬ symB s) : false = symOk s := by
  cases hs : symOk s with
  | false => rfl
  | true =>
    exfalso
    apply h
    simp only [symOk, Bool.and_eq_true, Bool.or_eq_true, decide_eq_true_eq] at hs
    exact hs.1.1.1.2
theorem symOk_AB {s : GSym} (hA : symA s) (hB : symB s) : symOk s = (s.notes.all noteOk && relsOk s && decide (s.notes.length ≤ 8)) := by
  obtain ⟨h1, h2, h3, h4, h5, h6, h7⟩ := hA
  have hB' : (decide (s.kind ≠ 1) || (decide ((s.bytes.size : Int) = s.size) && decide (s.size % 8 = 0))) = true := by simpa [symB] using hB
  simp only [symOk, hB', h1, h2, h3, h4, h5, h6, h7, decide_true, Bool.and_self, Bool.true_and]
theorem symOkP_eq {s : GSym} (h : s.bytes.size < 4294967296) : symOkP s = symOk s := by
  have hl : len32 s.bytes = (s.bytes.size : Int) := by unfold len32; omega
  unfold symOkP symOk sizedOk sizedB placesOk relsOk
  rw [hl, Bool.eq_iff_iff]
  simp only [Bool.and_eq_true, Bool.or_eq_true, decide_eq_true_eq]
  constructor
  · rintro ⟨⟨⟨⟨⟨⟨⟨a, b⟩, c⟩, d⟩, ⟨⟨e, f⟩, g⟩, hh⟩, ⟨i, j⟩⟩, k⟩, l⟩
    refine ⟨⟨⟨⟨⟨⟨⟨⟨⟨⟨a, b⟩, c⟩, d⟩, e⟩, f⟩, g⟩, ?_⟩, l⟩, i, j⟩, k⟩
    rcases hh with hh | ⟨h1, h2⟩
    · exact .inl hh
    · exact .inr ⟨h1, by rw [← h1]; exact h2⟩
  · rintro ⟨⟨⟨⟨⟨⟨⟨⟨⟨⟨a, b⟩, c⟩, d⟩, e⟩, f⟩, g⟩, hh⟩, l⟩, i, j⟩, k⟩
    refine ⟨⟨⟨⟨⟨⟨⟨a, b⟩, c⟩, d⟩, ⟨⟨e, f⟩, g⟩, ?_⟩, ⟨i, j⟩⟩, k⟩, l⟩
    rcases hh with hh | ⟨h1, h2⟩
    · exact .inl hh
    · exact .inr ⟨h1, by rw [h1]; exact h2⟩
theorem symsGo_eq : ∀ (l seen : List GSym), (∀ s ∈ l, s.bytes.size < 4294967296) → symsGo seen l = symsGoR seen l
  | [], _, _ => rfl
  | s :: r, seen, h => by
    simp only [symsGo, symsGoR]
    rw [symOkP_eq (h s (by simp)), symsGo_eq r (seen ++ [s]) (fun t ht => h t (by simp [ht]))]
    cases symOk s <;> cases hasName seen s.name.data.toList <;> rfl
theorem mayP_eq {o : GObj} (h : ∀ s ∈ o.syms, s.bytes.size < 4294967296) : mayP o = mayOk o := by
  unfold mayP mayOk
  rw [symsGo_eq _ _ h]
end Go.Proofs.YtoonkfhphbojcaaGreatDoor
namespace Go.Proofs.YtoonkfhphbojcaaGreatDoor
def before (x y : Spot) : Prop := x.obj < y.obj ∨ (x.obj = y.obj ∧ x.sym < y.sym)
theorem symsFrom_sorted (i : Nat) : ∀ (k : Nat) (l : List GSym), (symsFrom i k l).Pairwise before
  | _, [] => List.Pairwise.nil
  | k, s :: r => by
    simp only [symsFrom]
    refine List.Pairwise.cons (fun y hy => ?_) (symsFrom_sorted i (k + 1) r)
    obtain ⟨h1, h2, _⟩ := symsFrom_mem i (k + 1) r y hy
    exact .inr ⟨h1.symm, by simp only; omega⟩
theorem objsFrom_sorted : ∀ (i : Nat) (l : List GObj), (objsFrom i l).Pairwise before
  | _, [] => List.Pairwise.nil
  | i, o :: r => by
    simp only [objsFrom]
    refine List.pairwise_append.2 ⟨symsFrom_sorted i 0 o.syms, objsFrom_sorted (i + 1) r, fun x hx y hy => ?_⟩
    obtain ⟨h1, _⟩ := symsFrom_mem i 0 o.syms x hx
    obtain ⟨h2, _⟩ := objsFrom_mem (i + 1) r y hy
    exact .inl (by omega)
theorem flat_split {l : List GObj} {pre rest : List Spot} {x : Spot} (h : pre ++ (x :: rest) = flat l) {y : Spot} (hy : y ∈ pre) : ¬ (y.obj = x.obj ∧ y.sym = x.sym) := by
  have hs := objsFrom_sorted 0 l
  rw [show objsFrom 0 l = flat l from rfl, ← h] at hs
  have := (List.pairwise_append.1 hs).2.2 y hy x (by simp)
  rintro ⟨h1, h2⟩
  rcases this with h3 | ⟨_, h3⟩ <;> omega
/-- the reference's first of a strong symbol's name: it is that symbol just if there was none ahead of it -/
theorem first_self {l : List GObj} {pre rest : List Spot} {x : Spot} (h : pre ++ (x :: rest) = flat l) (hb : x.it.bind = 1) :
    (firstBy pre x.it.name.data.toList 1 = none ∧ firstBy (flat l) x.it.name.data.toList 1 = some (x.obj, x.sym)) ∨
    (∃ q, firstBy pre x.it.name.data.toList 1 = some q ∧ firstBy (flat l) x.it.name.data.toList 1 = some q ∧ ¬ (q.1 = x.obj ∧ q.2 = x.sym)) := by
  unfold firstBy
  rw [← h, List.find?_append]
  cases hp : pre.find? (hits x.it.name.data.toList 1) with
  | none => exact .inl ⟨rfl, by simp [hits_self hb]⟩
  | some y =>
    refine .inr ⟨_, rfl, rfl, ?_⟩
    exact flat_split h (List.mem_of_find?_eq_some hp)
def mayAllR (l : List GObj) : Bool := l.all mayOk && decide (l.length ≤ 16)
/-- the reference's Check -/
def beginRR (l : List GObj) : ByteArray × Int := if mayAllR l then (match dupGo [] (flat l) with | some n => (n, 120) | none => (emptyB, 0)) else (emptyB, 2)
def findAllR (l : List GObj) (i : Int) (n : List UInt8) : (Nat × Nat) × Int :=
  if (beginRR l).2 ≠ 0 then ((0, 0), (beginRR l).2) else if i < -1 ∨ (l.length : Int) ≤ i then ((0, 0), 2) else match findR l i n with | some p => (p, 0) | none => ((0, 0), 121)
end Go.Proofs.YtoonkfhphbojcaaGreatDoor
namespace Go.Proofs.YtoonkfhphbojcaaGreatDoor
theorem symsGoR_each : ∀ (l seen : List GSym), symsGoR seen l = true → ∀ s ∈ l, symOk s = true
  | [], _, _, s, hs => by simp at hs
  | x :: r, seen, h, s, hs => by
    simp only [symsGoR, Bool.and_eq_true] at h
    rcases List.mem_cons.1 hs with rfl | hs
    · exact h.1.1
    · exact symsGoR_each r _ h.2 s hs
theorem relsR_le {l : List GObj} (h : mayAllR l = true) {i k : Nat} (hi : i < l.length) (hk : k < l[i].syms.length) : l[i].syms[k].rels.length ≤ 1024 := by
  simp only [mayAllR, Bool.and_eq_true] at h
  have h1 := List.all_eq_true.1 h.1 l[i] (List.getElem_mem hi)
  simp only [mayOk, Bool.and_eq_true] at h1
  have h2 := symsGoR_each _ _ h1.1.1 _ (List.getElem_mem hk)
  simp only [symOk, relsOk, Bool.and_eq_true, decide_eq_true_eq] at h2
  exact h2.1.2.2
theorem symsGo_each : ∀ (l seen : List GSym), symsGo seen l = true → ∀ s ∈ l, symOkP s = true
  | [], _, _, s, hs => by simp at hs
  | x :: r, seen, h, s, hs => by
    simp only [symsGo, Bool.and_eq_true] at h
    rcases List.mem_cons.1 hs with rfl | hs
    · exact h.1.2
    · exact symsGo_each r _ h.2 s hs
theorem relsP_le {l : List GObj} (h : mayAll l = true) {i k : Nat} (hi : i < l.length) (hk : k < l[i].syms.length) : l[i].syms[k].rels.length ≤ 1024 := by
  simp only [mayAll, Bool.and_eq_true] at h
  have h1 := List.all_eq_true.1 h.2 l[i] (List.getElem_mem hi)
  simp only [mayP, Bool.and_eq_true] at h1
  have h2 := symsGo_each _ _ h1.1.1 _ (List.getElem_mem hk)
  simp only [symOkP, placesOk, Bool.and_eq_true, decide_eq_true_eq] at h2
  exact h2.1.1.2.2
theorem beginRR_zero {l : List GObj} (h : (beginRR l).2 = 0) : mayAllR l = true := by
  unfold beginRR at h
  by_cases hm : mayAllR l = true
  · exact hm
  · simp [hm] at h
/-- resolve.Refs' loop -/
def refsGo (l : List GObj) (a : Int) : List (Nat × Nat) → List GRel → List (Nat × Nat) × ByteArray × Int
  | acc, [] => (acc, emptyB, 0)
  | acc, x :: r => match findR l a x.name.data.toList with | some p => refsGo l a (acc ++ [p]) r | none => ([], x.name, 121)
def relsAt (l : List GObj) (a b : Nat) : List GRel := match l[a]? with | some o => (match o.syms[b]? with | some s => s.rels | none => []) | none => []
theorem relsAt_eq {l : List GObj} {a b : Nat} (ha : a < l.length) (hb : b < l[a].syms.length) : relsAt l a b = l[a].syms[b].rels := by
  simp [relsAt, List.getElem?_eq_getElem ha, List.getElem?_eq_getElem hb]
theorem refsGo_yes {l : List GObj} {a : Int} {acc : List (Nat × Nat)} {rs : List GRel} {j : Nat} {x : GRel} {p : Nat × Nat} {t : List (Nat × Nat) × ByteArray × Int} (hj : j < rs.length) (hx : rs[j] = x) (h : refsGo l a acc (rs.drop j) = t)
    (hf : findR l a x.name.data.toList = some p) : refsGo l a (acc ++ [p]) (rs.drop (j + 1)) = t := by
  rw [List.drop_eq_getElem_cons hj, hx, refsGo, hf] at h
  exact h
theorem refsGo_no {l : List GObj} {a : Int} {acc : List (Nat × Nat)} {rs : List GRel} {j : Nat} {x : GRel} {t : List (Nat × Nat) × ByteArray × Int} (hj : j < rs.length) (hx : rs[j] = x) (h : refsGo l a acc (rs.drop j) = t)
    (hf : findR l a x.name.data.toList = none) : t = ([], x.name, 121) := by
  rw [List.drop_eq_getElem_cons hj, hx, refsGo, hf] at h
  exact h.symm
theorem refsGo_end {l : List GObj} {a : Int} {acc : List (Nat × Nat)} {rs : List GRel} {j : Nat} {t : List (Nat × Nat) × ByteArray × Int} (hj : ¬ j < rs.length) (h : refsGo l a acc (rs.drop j) = t) : t = (acc, emptyB, 0) := by
  rw [List.drop_of_length_le (by omega), refsGo] at h
  exact h.symm
end Go.Proofs.YtoonkfhphbojcaaGreatDoor
namespace Go.Proofs.YtoonkfhphbojcaaGreatDoor
open Go.RowKit
def sumI {α : Type} (f : α → Int) : List α → Int
  | [] => 0
  | a :: l => f a + sumI f l
theorem sumI_append {α : Type} (f : α → Int) : ∀ a b : List α, sumI f (a ++ b) = sumI f a + sumI f b
  | [], b => by simp [sumI]
  | x :: a, b => by simp [sumI, sumI_append f a b]; omega
theorem sumI_take_succ {α : Type} (f : α → Int) {l : List α} {k : Nat} {x : α} (h : k < l.length) (hx : l[k] = x) : sumI f (l.take (k + 1)) = sumI f (l.take k) + f x := by
  rw [List.take_succ_eq_append_getElem h, sumI_append, hx]; simp [sumI]
def relS (x : GRel) : Int := (x.name.size : Int) / 64
def symS (s : GSym) : Int := (s.rels.length : Int) / 4 + (s.notes.length : Int) / 4 + (s.bytes.size : Int) / 64 + (s.name.size : Int) / 16 + sumI relS (s.rels.take 1100)
def objS (o : GObj) : Int := (o.syms.length : Int) + sumI symS (o.syms.take 200)
def largeSum (l : List GObj) : Int := sumI objS (l.take 40)
def largeB (l : List GObj) : Bool := decide ((20 : Int) < (l.length : Int)) || decide ((2000 : Int) < wrap64 (largeSum l))
theorem take_end {α : Type} {l : List α} {k c : Nat} (hk : k ≤ l.length) (hc : k ≤ c) (h : ¬ (k < l.length ∧ k < c)) : l.take k = l.take c := by
  by_cases h2 : k = c
  · rw [h2]
  · have : k = l.length := by omega
    subst this
    rw [List.take_of_length_le (Nat.le_refl _), List.take_of_length_le (by omega)]
theorem wrap64_add_left (a b : Int) : wrap64 (wrap64 a + b) = wrap64 (a + b) := by
  unfold wrap64; omega
theorem wrap5 (s a b c d : Int) : wrap64 (wrap64 (wrap64 (wrap64 (wrap64 s + a) + b) + c) + d) = wrap64 (s + a + b + c + d) := by
  unfold wrap64; omega
end Go.Proofs.YtoonkfhphbojcaaGreatDoor
namespace Go.Proofs.YtoonkfhphbojcaaGreatDoor
/-- the next multiple -/
def upTo (n k : Int) : Int := (n + (k - 1)) / k * k
theorem and_mask (a k m : Nat) (hkm : k + m = 32) (h : a < 4294967296) : a &&& ((2 ^ m - 1) <<< k) = a / 2 ^ k * 2 ^ k := by
  apply Nat.eq_of_testBit_eq
  intro i
  rw [Nat.testBit_and, Nat.testBit_shiftLeft, Nat.testBit_two_pow_sub_one, ← Nat.shiftRight_eq_div_pow, ← Nat.shiftLeft_eq, Nat.testBit_shiftLeft, Nat.testBit_shiftRight]
  by_cases hi : k ≤ i
  · rw [show k + (i - k) = i by omega]
    by_cases hi2 : i < 32
    · simp [hi, show i - k < m by omega]
    · rw [Nat.testBit_lt_two_pow (i := i) (x := a) (Nat.lt_of_lt_of_le h (by rw [show (4294967296 : Nat) = 2 ^ 32 from rfl]; exact Nat.pow_le_pow_right (by omega) (by omega)))]; simp
  · simp [hi]
theorem mask256 (a : Nat) (h : a < 4294967296) : a &&& 4294967040 = a / 256 * 256 := and_mask a 8 24 rfl h
theorem mask8 (a : Nat) (h : a < 4294967296) : a &&& 4294967288 = a / 8 * 8 := and_mask a 3 29 rfl h
/-- places are pairs of any numbers -/
abbrev GP := Int × Int
structure GAddr where
  obj : Int
  sym : Int
  at_ : Int
structure GSpan where
  kind : Int
  at_ : Int
  size : Int
def addr0 : GAddr := ⟨0, 0, 0⟩
/-- the symbol of a place -/
def symAt (l : List GObj) (p : GP) : Option GSym := if 0 ≤ p.1 ∧ 0 ≤ p.2 then (match l[p.1.toNat]? with | some o => o.syms[p.2.toNat]? | none => none) else none
def ordP (p q : GP) : Bool := !(decide (q.1 < p.1) || (decide (q.1 = p.1) && decide (q.2 ≤ p.2)))
def ordO (pr : Option GP) (p : GP) : Bool := match pr with | none => true | some q => ordP q p
def mayGo (l : List GObj) : Option GP → List GP → Bool
  | _, [] => true
  | pr, p :: r => (symAt l p).isSome && ordO pr p && mayGo l (some p) r
/-- one kind's symbols -/
def laySyms (l : List GObj) (kind : Int) : List GP → Nat → List GAddr → Int → Option (List GAddr × Int)
  | [], _, out, e => some (out, e)
  | p :: r, k, out, e =>
    match symAt l p with
    | some s => if s.kind = kind then (if 131072 < upTo e 8 + s.size then none else laySyms l kind r (k + 1) (out.set k ⟨p.1, p.2, upTo e 8⟩) (upTo e 8 + s.size)) else laySyms l kind r (k + 1) out e
    | none => laySyms l kind r (k + 1) out e
/-- the kinds in their order -/
def layKinds (l : List GObj) (some_ : List GP) : List Int → List GAddr → List GSpan → Int → Option (List GAddr × List GSpan)
  | [], out, spans, _ => some (out, spans)
  | kind :: ks, out, spans, e =>
    match laySyms l kind some_ 0 out (upTo e 256) with
    | none => none
    | some (out', e') => layKinds l some_ ks out' (if 0 < e' - upTo e 256 then spans ++ [⟨kind, upTo e 256, e' - upTo e 256⟩] else spans) e'
def layMay (l : List GObj) (some_ : List GP) : Bool := mayAll l && mayGo l none some_
/-- lay.Of -/
def layOf (l : List GObj) (some_ : List GP) : List GAddr × List GSpan × Int :=
  if layMay l some_ then (match layKinds l some_ [1, 3, 2] (List.replicate some_.length addr0) [] 256 with | some (a, s) => (a, s, 0) | none => ([], [], 140)) else ([], [], 2)
def layFind (l : List GAddr) (p : GP) : Int × Bool := match l.find? (fun a => decide (a.obj = p.1) && decide (a.sym = p.2)) with | some a => (a.at_, true) | none => (0, false)
def atHit (l : List GObj) (addr : Int) (a : GAddr) : Bool := match symAt l (a.obj, a.sym) with | some s => decide (a.at_ ≤ addr) && decide (addr - a.at_ < s.size) | none => false
/-- lay.At -/
def layAt (l : List GObj) (wh : List GAddr) (addr : Int) : GP × Int × Bool := match wh.find? (atHit l addr) with | some a => ((a.obj, a.sym), addr - a.at_, true) | none => ((0, 0), 0, false)
theorem symAt_nat {l : List GObj} {a b : Nat} (ha : a < l.length) : symAt l ((a : Int), (b : Int)) = l[a].syms[b]? := by
  simp [symAt, List.getElem?_eq_getElem ha]
theorem symAt_some {l : List GObj} {p : GP} {s : GSym} (h : symAt l p = some s) : ∃ (a b : Nat) (ha : a < l.length) (hb : b < l[a].syms.length), p = ((a : Int), (b : Int)) ∧ l[a].syms[b] = s := by
  obtain ⟨x, y⟩ := p
  unfold symAt at h
  split at h
  · rename_i h0
    obtain ⟨a, rfl⟩ := Int.eq_ofNat_of_zero_le h0.1
    obtain ⟨b, rfl⟩ := Int.eq_ofNat_of_zero_le h0.2
    simp only [Int.toNat_natCast] at h
    cases ho : l[a]? with
    | none => rw [ho] at h; cases h
    | some o =>
      rw [ho] at h
      obtain ⟨ha, hoe⟩ := List.getElem?_eq_some_iff.1 ho
      subst hoe
      obtain ⟨hb, hbe⟩ := List.getElem?_eq_some_iff.1 h
      exact ⟨a, b, ha, hb, rfl, hbe⟩
  · cases h
theorem symAt_none {l : List GObj} {p : GP} (h : symAt l p = none) : p.1 < 0 ∨ (l.length : Int) ≤ p.1 ∨ p.2 < 0 ∨ ∃ (a b : Nat) (ha : a < l.length), p = ((a : Int), (b : Int)) ∧ l[a].syms.length ≤ b := by
  obtain ⟨x, y⟩ := p
  by_cases h1 : x < 0
  · exact .inl h1
  by_cases h2 : (l.length : Int) ≤ x
  · exact .inr (.inl h2)
  by_cases h3 : y < 0
  · exact .inr (.inr (.inl h3))
  obtain ⟨a, rfl⟩ := Int.eq_ofNat_of_zero_le (show 0 ≤ x by omega)
  obtain ⟨b, rfl⟩ := Int.eq_ofNat_of_zero_le (show 0 ≤ y by omega)
  have ha : a < l.length := by omega
  rw [symAt_nat ha] at h
  exact .inr (.inr (.inr ⟨a, b, ha, rfl, by simpa using h⟩))
end Go.Proofs.YtoonkfhphbojcaaGreatDoor
