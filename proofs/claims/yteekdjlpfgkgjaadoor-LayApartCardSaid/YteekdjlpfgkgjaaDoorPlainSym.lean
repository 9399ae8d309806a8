/- What notes, symbols and objects may be (layer 8), in plain words: the reference's reading (noteOk, symOk, mayOk) and the program's (symOkP, mayP). No program in sight. -/
import Derived.Test.YteekdjlpfgkgjaaDoorData
namespace Go.Proofs.YteekdjlpfgkgjaaDoor
theorem ibeq (a b : Int) : (a == b) = decide (a = b) := rfl
theorem ibne (a b : Int) : (a != b) = !decide (a = b) := rfl
def errB (b : Bool) : Int := if b then 0 else 2
def noteOk (x : GNote) : Bool :=
  if x.kind = 1 then decide (x.n ≤ 1024) && decide (x.m = 0)
  else if x.kind = 2 then decide (x.n < 16) && decide (1 ≤ x.m) && decide (x.m ≤ 1024)
  else if x.kind = 3 then decide (1 ≤ x.n) && decide (x.n ≤ 65535) && decide (x.m = 0)
  else if x.kind = 4 then decide (x.n = 0) && decide (x.m = 0)
  else false
/-- the program's uint32 of a length -/
def len32 (s : ByteArray) : Int := (s.size : Int) % 4294967296
def sizedB (kind size n : Int) : Bool := decide (1 ≤ size) && decide (size ≤ 8192) && decide (n ≤ size) && (decide (kind ≠ 1) || (decide (n = size) && decide (n % 8 = 0)))
def sizedOk (s : GSym) : Bool := sizedB s.kind s.size (len32 s.bytes)
theorem sizedB_eq {kind size n : Int} {b : Bool} (h : b = true ↔ (1 ≤ size ∧ size ≤ 8192 ∧ n ≤ size ∧ (kind ≠ 1 ∨ (n = size ∧ n % 8 = 0)))) : b = sizedB kind size n := by
  rw [Bool.eq_iff_iff, h]; simp [sizedB, and_assoc]
def placesOk (s : GSym) : Bool := relsGo (len32 s.bytes) 0 s.rels && decide (s.rels.length ≤ 1024)
def symOkP (s : GSym) : Bool :=
  isName s.name && decide (s.bind ≤ 2) && decide (1 ≤ s.kind) && decide (s.kind ≤ 3) && sizedOk s && placesOk s && decide (s.notes.length ≤ 8) && s.notes.all noteOk
def symOk (s : GSym) : Bool :=
  isName s.name && decide (s.bind ≤ 2) && decide (1 ≤ s.kind) && decide (s.kind ≤ 3) && decide (1 ≤ s.size) && decide (s.size ≤ 8192) && decide ((s.bytes.size : Int) ≤ s.size) &&
    (decide (s.kind ≠ 1) || (decide ((s.bytes.size : Int) = s.size) && decide (s.size % 8 = 0))) && s.notes.all noteOk && relsOk s && decide (s.notes.length ≤ 8)
def hasName (l : List GSym) (n : List UInt8) : Bool := l.any fun t => t.name.data.toList == n
/-- the program's walk over symbols: 'seen' are those before -/
def symsGo : List GSym → List GSym → Bool
  | _, [] => true
  | seen, s :: r => !hasName seen s.name.data.toList && symOkP s && symsGo (seen ++ [s]) r
theorem hasName_snoc (l : List GSym) (s : GSym) (n : List UInt8) : hasName (l ++ [s]) n = (hasName l n || s.name.data.toList == n) := by simp [hasName]
def mayP (o : GObj) : Bool := symsGo [] o.syms && isName o.name && decide (o.syms.length ≤ 64)
theorem mayP_no {o : GObj} {k : Nat} {x : GSym} (hlt : k < o.syms.length) (hx : o.syms[k] = x) (hgo : symsGo (o.syms.take k) (o.syms.drop k) = symsGo [] o.syms)
    (h : hasName (o.syms.take k) x.name.data.toList = true ∨ symOkP x = false) : false = mayP o := by
  rw [List.drop_eq_getElem_cons hlt, hx, symsGo] at hgo
  rcases h with h | h <;> simp [mayP, ← hgo, h]
theorem symsGo_yes {l : List GSym} {k : Nat} {x : GSym} (hlt : k < l.length) (hx : l[k] = x) (hgo : symsGo (l.take k) (l.drop k) = symsGo [] l)
    (h1 : hasName (l.take k) x.name.data.toList = false) (h2 : symOkP x = true) : symsGo (l.take (k + 1)) (l.drop (k + 1)) = symsGo [] l := by
  rw [← hgo, List.drop_eq_getElem_cons hlt, hx, symsGo, h1, h2, List.take_succ_eq_append_getElem hlt, hx]; simp
theorem mayP_end {o : GObj} {k : Nat} (hlt : ¬ k < o.syms.length) (hgo : symsGo (o.syms.take k) (o.syms.drop k) = symsGo [] o.syms) : mayP o = (isName o.name && decide (o.syms.length ≤ 64)) := by
  rw [List.drop_of_length_le (by omega), symsGo] at hgo
  simp [mayP, ← hgo]
/-- the table of names seen: each once -/
def seenFn (l : List GSym) (n : List UInt8) : Option Value := if hasName l n then some (.int .i64 1) else none
theorem seenFn_snoc {l : List GSym} {k : Nat} {x : GSym} (hlt : k < l.length) (hx : l[k] = x) : (fun n => if n = x.name.data.toList then some (Value.int .i64 1) else seenFn (l.take k) n) = seenFn (l.take (k + 1)) := by
  funext n
  simp only [seenFn]
  rw [List.take_succ_eq_append_getElem hlt, hx, hasName_snoc]
  by_cases h : n = x.name.data.toList
  · simp [h]
  · have h2 : (x.name.data.toList == n) = false := by simp; exact fun e => h e.symm
    simp [h, h2]
theorem seenFn_nil : (fun _ => none) = seenFn [] := by funext n; simp [seenFn, hasName]
theorem seenFn_yes {l : List GSym} {n : List UInt8} (h : hasName l n = true) : (seenFn l n).getD (.int .i64 0) = .int .i64 1 := by simp [seenFn, h]
theorem seenFn_no {l : List GSym} {n : List UInt8} (h : hasName l n = false) : (seenFn l n).getD (.int .i64 0) = .int .i64 0 := by simp [seenFn, h]
theorem take_all_snoc {α : Type} {p : α → Bool} {l : List α} {k : Nat} {x : α} (h : k < l.length) (hx : l[k] = x) (ha : (l.take k).all p = true) (hb : p x = true) : (l.take (k + 1)).all p = true := by
  rw [List.take_succ_eq_append_getElem h, List.all_append, ha, hx]; simp [hb]
theorem all_bad {α : Type} {p : α → Bool} {l : List α} {k : Nat} {x : α} (h : k < l.length) (hx : l[k] = x) (hb : p x = false) : l.all p = false := by
  rw [List.all_eq_false]; exact ⟨x, hx ▸ List.getElem_mem h, by simp [hb]⟩
theorem all_end {α : Type} {p : α → Bool} {l : List α} {k : Nat} (h : ¬ k < l.length) (ha : (l.take k).all p = true) : l.all p = true := by
  rwa [List.take_of_length_le (by omega)] at ha
end Go.Proofs.YteekdjlpfgkgjaaDoor
