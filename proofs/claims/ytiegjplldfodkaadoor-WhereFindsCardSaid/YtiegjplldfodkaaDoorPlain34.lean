/- Tables of symbols (layer 34): what may be, bytes, which symbol has an address, names, moves. No program in sight. -/
import Derived.Test.YtiegjplldfodkaaDoorPack
namespace Go.Proofs.YtiegjplldfodkaaDoor
structure GTs where
  name : ByteArray
  object : ByteArray
  addr : Int
  size : Int
  kind : Int
def tsOk (e : Int) (s : GTs) : Bool :=
  isName s.name && isName s.object && decide (1 ≤ s.kind) && decide (s.kind ≤ 3) && decide (1 ≤ s.size) && decide (s.size ≤ 8192) && decide (e ≤ s.addr) && decide (s.addr ≤ 131072) && decide (s.addr + s.size ≤ 131072)
def tabGo : Int → List GTs → Bool
  | _, [] => true
  | e, s :: r => tsOk e s && tabGo (s.addr + s.size) r
def tabOk (t : List GTs) : Bool := tabGo 256 t && decide (t.length ≤ 1024)
theorem tabGo_yes {t : List GTs} {i : Nat} {e : Int} (hlt : i < t.length) (hgo : tabGo e (t.drop i) = tabGo 256 t) (h : tsOk e t[i] = true) : tabGo (t[i].addr + t[i].size) (t.drop (i + 1)) = tabGo 256 t := by
  rw [← hgo, List.drop_eq_getElem_cons hlt, tabGo, h]; simp
theorem tabOk_no {t : List GTs} {i : Nat} {e : Int} (hlt : i < t.length) (hgo : tabGo e (t.drop i) = tabGo 256 t) (h : tsOk e t[i] = false) : tabOk t = false := by
  rw [List.drop_eq_getElem_cons hlt, tabGo, h] at hgo
  simp [tabOk, ← hgo]
theorem tabOk_end {t : List GTs} {i : Nat} {e : Int} (hlt : ¬ i < t.length) (hgo : tabGo e (t.drop i) = tabGo 256 t) : tabOk t = decide (t.length ≤ 1024) := by
  rw [List.drop_of_length_le (by omega), tabGo] at hgo
  simp [tabOk, ← hgo]
theorem tabGo_at : ∀ {t : List GTs} {e : Int}, tabGo e t = true → ∀ i (h : i < t.length), e ≤ t[i].addr ∧ 1 ≤ t[i].size ∧ t[i].size ≤ 8192 ∧ t[i].addr + t[i].size ≤ 131072 ∧ isName t[i].name = true ∧ isName t[i].object = true ∧ 1 ≤ t[i].kind ∧ t[i].kind ≤ 3
  | s :: r, e, h, i, hi => by
    simp only [tabGo, tsOk, Bool.and_eq_true, decide_eq_true_eq] at h
    obtain ⟨⟨⟨⟨⟨⟨⟨⟨⟨h1, h2⟩, h3⟩, h4⟩, h5⟩, h6⟩, h7⟩, h8⟩, h9⟩, hr⟩ := h
    cases i with
    | zero => exact ⟨h7, h5, h6, h9, h1, h2, h3, h4⟩
    | succ i =>
      have := tabGo_at hr i (by simpa using hi)
      simp only [List.getElem_cons_succ]
      exact ⟨by omega, this.2⟩
theorem tabGo_lt : ∀ {t : List GTs} {e : Int}, tabGo e t = true → ∀ i j (h : i < j) (hj : j < t.length), t[i].addr + t[i].size ≤ t[j].addr
  | s :: r, e, h, i, j, hij, hj => by
    simp only [tabGo, Bool.and_eq_true] at h
    match i, j, hij with
    | 0, j + 1, _ => exact (tabGo_at h.2 j (by simpa using hj)).1
    | i + 1, j + 1, hij =>
      simp only [List.getElem_cons_succ]
      exact tabGo_lt h.2 i j (by omega) (by simpa using hj)
/-- which symbol has an address: where in the row, how far in it -/
def findT (t : List GTs) (a : Int) : Nat × Int × Bool :=
  if tabOk t = true then (match t.findIdx? (fun (s : GTs) => decide (s.addr ≤ a) && decide (a < s.addr + s.size)) with | some i => (i, a - (t[i]?.map GTs.addr).getD 0, true) | none => (0, 0, false)) else (0, 0, false)
theorem findT_bad {t : List GTs} {a : Int} (h : tabOk t = false) : findT t a = (0, 0, false) := by simp [findT, h]
theorem findT_at {t : List GTs} {a : Int} {i : Nat} (hok : tabOk t = true) (hi : i < t.length) (h1 : t[i].addr ≤ a) (h2 : a < t[i].addr + t[i].size) (hb : ∀ j (hj : j < i), ¬ (t[j].addr ≤ a ∧ a < t[j].addr + t[j].size)) : findT t a = (i, a - t[i].addr, true) := by
  have : t.findIdx? (fun (s : GTs) => decide (s.addr ≤ a) && decide (a < s.addr + s.size)) = some i := by
    rw [List.findIdx?_eq_some_iff_getElem]
    refine ⟨hi, by simp [h1, h2], fun j hj => ?_⟩
    have := hb j hj
    simp only [Bool.and_eq_true, decide_eq_true_eq]
    exact this
  simp [findT, hok, this, List.getElem?_eq_getElem hi]
theorem findT_none {t : List GTs} {a : Int} (hb : ∀ j (hj : j < t.length), ¬ (t[j].addr ≤ a ∧ a < t[j].addr + t[j].size)) : findT t a = (0, 0, false) := by
  have : t.findIdx? (fun (s : GTs) => decide (s.addr ≤ a) && decide (a < s.addr + s.size)) = none := by
    rw [List.findIdx?_eq_none_iff]
    intro x hx
    obtain ⟨j, hj, rfl⟩ := List.mem_iff_getElem.1 hx
    have := hb j hj
    simp only [Bool.and_eq_false_iff, decide_eq_false_iff_not]
    omega
  simp [findT, this]
theorem tabOk_go {t : List GTs} (h : tabOk t = true) : tabGo 256 t = true := by
  simp only [tabOk, Bool.and_eq_true] at h; exact h.1
/-- the first whose end lies behind an address -/
theorem findT_first {t : List GTs} {a : Int} {m : Nat} (hok : tabOk t = true) (hm : m ≤ t.length) (h0 : ∀ (h : 0 < m), t[m - 1].addr + t[m - 1].size ≤ a) (h1 : ∀ (h : m < t.length), a < t[m].addr + t[m].size) :
    findT t a = if h : m < t.length then (if t[m].addr ≤ a then (m, a - t[m].addr, true) else (0, 0, false)) else (0, 0, false) := by
  have hgo := tabOk_go hok
  have hbe : ∀ j (hj : j < t.length), j < m → t[j].addr + t[j].size ≤ a := fun j hj hjm => by
    by_cases hjl : j = m - 1
    · subst hjl; exact h0 (by omega)
    · have := tabGo_lt hgo j (m - 1) (by omega) (by omega)
      have := h0 (by omega)
      have := (tabGo_at hgo (m - 1) (by omega)).2.1
      omega
  by_cases hml : m < t.length
  · rw [dif_pos hml]
    by_cases ha : t[m].addr ≤ a
    · rw [if_pos ha]
      exact findT_at hok hml ha (h1 hml) fun j hj hc => by have := hbe j (by omega) hj; omega
    · rw [if_neg ha]
      refine findT_none fun j hj hc => ?_
      rcases Nat.lt_trichotomy j m with hjm | rfl | hjm
      · have := hbe j hj hjm; omega
      · exact ha hc.1
      · have := tabGo_lt hgo m j hjm hj; have := (tabGo_at hgo m hml).2.1; omega
  · rw [dif_neg hml]
    exact findT_none fun j hj hc => by have := hbe j hj (by omega); omega
/-- bytes -/
def encTs (s : GTs) : BL := encText s.name ++ encText s.object ++ leB 4 s.addr ++ leB 2 s.size ++ leB 1 s.kind
def magicT : BL := [65, 83, 84, 49]
def encTab (t : List GTs) : BL := magicT ++ leB 2 t.length ++ t.flatMap encTs
def rTs (st : RS) : GTs × RS :=
  let a := rText st
  let b := rText a.2
  let c := rNum 4 b.2
  let d := rNum 2 c.2
  let e := rNum 1 d.2
  (⟨a.1, b.1, c.1, d.1, e.1⟩, e.2)
def rTab (s : BL) : BL × List GTs × RS :=
  let m := rTake 4 (some s)
  let n := rNum 2 m.2
  let ss := rMany rTs n.1.toNat n.2
  (m.1, ss.1, ss.2)
def getT (s : BL) : Option (List GTs) := if (rTab s).2.2 = some [] ∧ (rTab s).1 = magicT ∧ tabOk (rTab s).2.1 = true then some (rTab s).2.1 else none
/-- digits -/
def hexD (v : Int) : UInt8 := if v < 10 then UInt8.ofNat (48 + v.toNat) else UInt8.ofNat (87 + v.toNat)
def hexS : Nat → Int → BL
  | 0, _ => []
  | n + 1, v => hexS n (v / 16) ++ [hexD (v % 16)]
def nameOf (t : List GTs) (a : Int) : ByteArray :=
  match findT t a with
  | (_, _, false) => bsOf (64 :: hexS 8 a)
  | (i, off, true) => if off = 0 then (t[i]?.map GTs.name).getD ⟨#[]⟩ else bsOf (((t[i]?.map GTs.name).getD ⟨#[]⟩).data.toList ++ 43 :: hexS 4 off)
def namedOf (t : List GTs) (n : ByteArray) : List GTs := if tabOk t = true then t.filter (fun (s : GTs) => decide (s.name = n)) else []
structure GMv where
  name : ByteArray
  object : ByteArray
  fro : Int
  to : Int
def ofT (t : List GTs) (s : GTs) : Int := ((t.find? (fun (x : GTs) => decide (x.name = s.name) && decide (x.object = s.object))).map GTs.addr).getD 0
def movesOf (a b : List GTs) : List GMv :=
  if tabOk a = true ∧ tabOk b = true then (a.filter (fun (s : GTs) => decide (ofT b s ≠ s.addr))).map (fun (s : GTs) => (⟨s.name, s.object, s.addr, ofT b s⟩ : GMv)) ++ (b.filter (fun (s : GTs) => decide (ofT a s = 0))).map (fun (s : GTs) => (⟨s.name, s.object, 0, s.addr⟩ : GMv)) else []
end Go.Proofs.YtiegjplldfodkaaDoor
