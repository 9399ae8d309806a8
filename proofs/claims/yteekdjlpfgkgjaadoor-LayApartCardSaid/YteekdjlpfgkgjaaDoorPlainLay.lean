/- Where symbols are laid (layer 14), in plain words. No program in sight. -/
import Derived.Test.YteekdjlpfgkgjaaDoorPlainDup
namespace Go.Proofs.YteekdjlpfgkgjaaDoor
/-- the next multiple -/
def upTo (n k : Int) : Int := (n + (k - 1)) / k * k
theorem and_mask (a k m : Nat) (hkm : k + m = 32) (h : a < 4294967296) : a &&& ((2 ^ m - 1) <<< k) = a / 2 ^ k * 2 ^ k := by
  apply Nat.eq_of_testBit_eq
  intro i
  rw [Nat.testBit_and, Nat.testBit_shiftLeft, Nat.testBit_two_pow_sub_one, ← Nat.shiftRight_eq_div_pow, ← Nat.shiftLeft_eq, Nat.testBit_shiftLeft, Nat.testBit_shiftRight]
  by_cases hi : k ≤ i
  · rw [show k + (i - k) = i by omega]
    by_cases hi2 : i < 32
    · simp [hi, show i - k < m by omega]
    · rw [Nat.testBit_lt_two_pow (i := i) (x := a) (Nat.lt_of_lt_of_le h (by rw [show (4294967296 : Nat) = 2 ^ 32 from rfl]; exact Nat.pow_le_pow_right (by omega) (by omega)))]; simp
  · simp [hi]
theorem mask256 (a : Nat) (h : a < 4294967296) : a &&& 4294967040 = a / 256 * 256 := and_mask a 8 24 rfl h
theorem mask8 (a : Nat) (h : a < 4294967296) : a &&& 4294967288 = a / 8 * 8 := and_mask a 3 29 rfl h
/-- places are pairs of any numbers -/
abbrev GP := Int × Int
structure GAddr where
  obj : Int
  sym : Int
  at_ : Int
structure GSpan where
  kind : Int
  at_ : Int
  size : Int
def addr0 : GAddr := ⟨0, 0, 0⟩
/-- the symbol of a place -/
def symAt (l : List GObj) (p : GP) : Option GSym := if 0 ≤ p.1 ∧ 0 ≤ p.2 then (match l[p.1.toNat]? with | some o => o.syms[p.2.toNat]? | none => none) else none
def ordP (p q : GP) : Bool := !(decide (q.1 < p.1) || (decide (q.1 = p.1) && decide (q.2 ≤ p.2)))
def ordO (pr : Option GP) (p : GP) : Bool := match pr with | none => true | some q => ordP q p
def mayGo (l : List GObj) : Option GP → List GP → Bool
  | _, [] => true
  | pr, p :: r => (symAt l p).isSome && ordO pr p && mayGo l (some p) r
/-- one kind's symbols -/
def laySyms (l : List GObj) (kind : Int) : List GP → Nat → List GAddr → Int → Option (List GAddr × Int)
  | [], _, out, e => some (out, e)
  | p :: r, k, out, e =>
    match symAt l p with
    | some s => if s.kind = kind then (if 131072 < upTo e 8 + s.size then none else laySyms l kind r (k + 1) (out.set k ⟨p.1, p.2, upTo e 8⟩) (upTo e 8 + s.size)) else laySyms l kind r (k + 1) out e
    | none => laySyms l kind r (k + 1) out e
/-- the kinds in their order -/
def layKinds (l : List GObj) (some_ : List GP) : List Int → List GAddr → List GSpan → Int → Option (List GAddr × List GSpan)
  | [], out, spans, _ => some (out, spans)
  | kind :: ks, out, spans, e =>
    match laySyms l kind some_ 0 out (upTo e 256) with
    | none => none
    | some (out', e') => layKinds l some_ ks out' (if 0 < e' - upTo e 256 then spans ++ [⟨kind, upTo e 256, e' - upTo e 256⟩] else spans) e'
def layMay (l : List GObj) (some_ : List GP) : Bool := mayAll l && mayGo l none some_
/-- lay.Of -/
def layOf (l : List GObj) (some_ : List GP) : List GAddr × List GSpan × Int :=
  if layMay l some_ then (match layKinds l some_ [1, 3, 2] (List.replicate some_.length addr0) [] 256 with | some (a, s) => (a, s, 0) | none => ([], [], 140)) else ([], [], 2)
def layFind (l : List GAddr) (p : GP) : Int × Bool := match l.find? (fun a => decide (a.obj = p.1) && decide (a.sym = p.2)) with | some a => (a.at_, true) | none => (0, false)
def atHit (l : List GObj) (addr : Int) (a : GAddr) : Bool := match symAt l (a.obj, a.sym) with | some s => decide (a.at_ ≤ addr) && decide (addr - a.at_ < s.size) | none => false
/-- lay.At -/
def layAt (l : List GObj) (wh : List GAddr) (addr : Int) : GP × Int × Bool := match wh.find? (atHit l addr) with | some a => ((a.obj, a.sym), addr - a.at_, true) | none => ((0, 0), 0, false)
theorem symAt_nat {l : List GObj} {a b : Nat} (ha : a < l.length) : symAt l ((a : Int), (b : Int)) = l[a].syms[b]? := by
  simp [symAt, List.getElem?_eq_getElem ha]
theorem symAt_some {l : List GObj} {p : GP} {s : GSym} (h : symAt l p = some s) : ∃ (a b : Nat) (ha : a < l.length) (hb : b < l[a].syms.length), p = ((a : Int), (b : Int)) ∧ l[a].syms[b] = s := by
  obtain ⟨x, y⟩ := p
  unfold symAt at h
  split at h
  · rename_i h0
    obtain ⟨a, rfl⟩ := Int.eq_ofNat_of_zero_le h0.1
    obtain ⟨b, rfl⟩ := Int.eq_ofNat_of_zero_le h0.2
    simp only [Int.toNat_natCast] at h
    cases ho : l[a]? with
    | none => rw [ho] at h; cases h
    | some o =>
      rw [ho] at h
      obtain ⟨ha, hoe⟩ := List.getElem?_eq_some_iff.1 ho
      subst hoe
      obtain ⟨hb, hbe⟩ := List.getElem?_eq_some_iff.1 h
      exact ⟨a, b, ha, hb, rfl, hbe⟩
  · cases h
theorem symAt_none {l : List GObj} {p : GP} (h : symAt l p = none) : p.1 < 0 ∨ (l.length : Int) ≤ p.1 ∨ p.2 < 0 ∨ ∃ (a b : Nat) (ha : a < l.length), p = ((a : Int), (b : Int)) ∧ l[a].syms.length ≤ b := by
  obtain ⟨x, y⟩ := p
  by_cases h1 : x < 0
  · exact .inl h1
  by_cases h2 : (l.length : Int) ≤ x
  · exact .inr (.inl h2)
  by_cases h3 : y < 0
  · exact .inr (.inr (.inl h3))
  obtain ⟨a, rfl⟩ := Int.eq_ofNat_of_zero_le (show 0 ≤ x by omega)
  obtain ⟨b, rfl⟩ := Int.eq_ofNat_of_zero_le (show 0 ≤ y by omega)
  have ha : a < l.length := by omega
  rw [symAt_nat ha] at h
  exact .inr (.inr (.inr ⟨a, b, ha, rfl, by simpa using h⟩))
end Go.Proofs.YteekdjlpfgkgjaaDoor
