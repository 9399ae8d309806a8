/- Numbers, texts, places, notes, symbols and objects as bytes (layers 7 and 9), in plain words: what is put, what is read, and that the one is the other's inverse. No program in sight. The walk of word.Get. append onto nothing: a copy. No program in sight. Rows of cells: a row of one's own is a row of elements, and a row of elements has its cells. No program in sight. The rows of places, notes and symbols as rows of cells. No program in sight. Rows of few elements, and what a world keeps. No program in sight. Worlds that are kept but for some blocks; rows whose elements are set. No program in sight. -/
import Derived.Test.YtboegjdkedjhcaaGreatDoorBd02
import Derived.Test.YtboegjdkedjhcaaGreatDoorRows
import Derived.Lib.Hide
import Derived.Laws.BitsAllLaws
import Derived.Test.YtboegjdkedjhcaaGreatDoorBd01
import Derived.Laws.AppendOwnNone
import Derived.OwnWalk
import Derived.Deep.AppendLies
import Derived.Deep.QuietTactic
namespace Go.Proofs.YtboegjdkedjhcaaGreatDoor
abbrev BL := List UInt8
def bsOf (l : BL) : ByteArray := ⟨l.toArray⟩
theorem bsOf_list (l : BL) : (bsOf l).data.toList = l := rfl
theorem bsOf_of (s : ByteArray) : bsOf s.data.toList = s := rfl
theorem bsOf_size (l : BL) : (bsOf l).size = l.length := by unfold bsOf ByteArray.size; simp
theorem len_list (s : ByteArray) : s.data.toList.length = s.size := by unfold ByteArray.size; simp
/-- a number's bytes, the lowest first -/
def leB : Nat → Int → BL
  | 0, _ => []
  | n + 1, v => UInt8.ofNat (v % 256).toNat :: leB n (v / 256)
def leV : BL → Int
  | [] => 0
  | b :: r => b.toNat + 256 * leV r
theorem leB_length : ∀ (n : Nat) (v : Int), (leB n v).length = n
  | 0, _ => rfl
  | n + 1, v => by simp [leB, leB_length n]
def pow256 : Nat → Int | 0 => 1 | n + 1 => 256 * pow256 n
theorem pow256_pos : ∀ n, 0 < pow256 n | 0 => by decide | n + 1 => by have := pow256_pos n; simp only [pow256]; omega
theorem leV_bd : ∀ l : BL, 0 ≤ leV l ∧ leV l < pow256 l.length
  | [] => by simp [leV, pow256]
  | b :: r => by
    have := leV_bd r
    have hb := b.toNat_lt
    simp only [leV, List.length_cons, pow256]
    omega
theorem u8_ofNat (k : Nat) (h : k < 256) : (UInt8.ofNat k).toNat = k := by simp; omega
theorem leV_leB : ∀ (n : Nat) (v : Int), 0 ≤ v → v < pow256 n → leV (leB n v) = v
  | 0, v, h0, h1 => by simp only [pow256] at h1; simp only [leB, leV]; omega
  | n + 1, v, h0, h1 => by
    simp only [pow256] at h1
    simp only [leB, leV, leV_leB n (v / 256) (by omega) (by omega), u8_ofNat (v % 256).toNat (by omega)]
    omega
theorem leB_leV : ∀ l : BL, leB l.length (leV l) = l
  | [] => rfl
  | b :: r => by
    have hb := b.toNat_lt
    have h1 : (b.toNat + 256 * leV r : Int) % 256 = b.toNat := by omega
    have h2 : (b.toNat + 256 * leV r : Int) / 256 = leV r := by omega
    simp only [leV, List.length_cons, leB, h1, h2, leB_leV r]
    simp
/-- a text's bytes -/
def encText (s : ByteArray) : BL := leB 2 s.size ++ s.data.toList
def encRel (x : GRel) : BL := leB 4 x.off ++ leB 1 x.kind ++ encText x.name ++ leB 4 x.add
def encNote (x : GNote) : BL := leB 1 x.kind ++ leB 4 x.n ++ leB 4 x.m
def encSym (s : GSym) : BL := encText s.name ++ leB 1 s.bind ++ leB 1 s.kind ++ leB 4 s.size ++ encText s.bytes ++ leB 2 s.rels.length ++ s.rels.flatMap encRel ++ leB 1 s.notes.length ++ s.notes.flatMap encNote
def magicB : BL := [65, 79, 66, 49]
def encObj (o : GObj) : BL := magicB ++ encText o.name ++ leB 2 o.syms.length ++ o.syms.flatMap encSym
/-- what is left to read; none: spoilt -/
abbrev RS := Option BL
def rTake (n : Nat) : RS → BL × RS
  | none => ([], none)
  | some r => if n ≤ r.length then (r.take n, some (r.drop n)) else ([], none)
def rNum (n : Nat) (st : RS) : Int × RS := (leV (rTake n st).1, (rTake n st).2)
def rText (st : RS) : ByteArray × RS := (bsOf (rTake (rNum 2 st).1.toNat (rNum 2 st).2).1, (rTake (rNum 2 st).1.toNat (rNum 2 st).2).2)
def rRel (st : RS) : GRel × RS :=
  let a := rNum 4 st
  let b := rNum 1 a.2
  let c := rText b.2
  let d := rNum 4 c.2
  (⟨a.1, b.1, c.1, d.1⟩, d.2)
def rNote (st : RS) : GNote × RS :=
  let a := rNum 1 st
  let b := rNum 4 a.2
  let c := rNum 4 b.2
  (⟨a.1, b.1, c.1⟩, c.2)
def rMany {α : Type} (f : RS → α × RS) : Nat → RS → List α × RS
  | 0, st => ([], st)
  | _ + 1, none => ([], none)
  | n + 1, some r => ((f (some r)).1 :: (rMany f n (f (some r)).2).1, (rMany f n (f (some r)).2).2)
def rSym (st : RS) : GSym × RS :=
  let a := rText st
  let b := rNum 1 a.2
  let c := rNum 1 b.2
  let d := rNum 4 c.2
  let e := rText d.2
  let n := rNum 2 e.2
  let rs := rMany rRel n.1.toNat n.2
  let k := rNum 1 rs.2
  let ts := rMany rNote k.1.toNat k.2
  (⟨a.1, b.1, c.1, d.1, e.1, rs.1, ts.1⟩, ts.2)
def rObj (s : BL) : BL × GObj × RS :=
  let m := rTake 4 (some s)
  let a := rText m.2
  let n := rNum 2 a.2
  let ss := rMany rSym n.1.toNat n.2
  (m.1, ⟨a.1, ss.1⟩, ss.2)
/-- the object of bytes -/
def getB (s : BL) : Option GObj := if (rObj s).2.2 = some [] ∧ (rObj s).1 = magicB ∧ mayP (rObj s).2.1 = true then some (rObj s).2.1 else none
/-! ### what was put is read -/
theorem rTake_app (l r : BL) : rTake l.length (some (l ++ r)) = (l, some r) := by simp [rTake]
theorem rTake_app' {n : Nat} {l r : BL} (h : l.length = n) : rTake n (some (l ++ r)) = (l, some r) := by subst h; exact rTake_app l r
theorem rNum_enc {n : Nat} {v : Int} (r : BL) (h0 : 0 ≤ v) (h1 : v < pow256 n) : rNum n (some (leB n v ++ r)) = (v, some r) := by
  simp only [rNum, rTake_app' (leB_length n v), leV_leB n v h0 h1]
theorem rText_enc {s : ByteArray} (r : BL) (h : s.size < 65536) : rText (some (encText s ++ r)) = (s, some r) := by
  have h2 : (pow256 2 : Int) = 65536 := rfl
  have h1 : rNum 2 (some (encText s ++ r)) = ((s.size : Int), some (s.data.toList ++ r)) := by
    rw [encText, List.append_assoc]; exact rNum_enc _ (by omega) (by omega)
  simp only [rText, h1, Int.toNat_natCast, rTake_app' (len_list s), bsOf_of]
def RelFit (x : GRel) : Prop := (0 ≤ x.off ∧ x.off < 4294967296) ∧ (0 ≤ x.kind ∧ x.kind < 256) ∧ x.name.size < 65536 ∧ (0 ≤ x.add ∧ x.add < 4294967296)
def NoteFit (x : GNote) : Prop := (0 ≤ x.kind ∧ x.kind < 256) ∧ (0 ≤ x.n ∧ x.n < 4294967296) ∧ (0 ≤ x.m ∧ x.m < 4294967296)
def SymFit (s : GSym) : Prop := s.name.size < 65536 ∧ (0 ≤ s.bind ∧ s.bind < 256) ∧ (0 ≤ s.kind ∧ s.kind < 256) ∧ (0 ≤ s.size ∧ s.size < 4294967296) ∧ s.bytes.size < 65536 ∧ s.rels.length < 65536 ∧ (∀ x ∈ s.rels, RelFit x) ∧ s.notes.length < 256 ∧ (∀ x ∈ s.notes, NoteFit x)
def ObjFit (o : GObj) : Prop := o.name.size < 65536 ∧ o.syms.length < 65536 ∧ ∀ s ∈ o.syms, SymFit s
theorem p1 : (pow256 1 : Int) = 256 := rfl
theorem p2 : (pow256 2 : Int) = 65536 := rfl
theorem p4 : (pow256 4 : Int) = 4294967296 := rfl
theorem rRel_enc {x : GRel} (r : BL) (h : RelFit x) : rRel (some (encRel x ++ r)) = (x, some r) := by
  obtain ⟨h1, h2, h3, h4⟩ := h
  unfold rRel encRel
  simp only [List.append_assoc, rNum_enc _ h1.1 (by rw [p4]; exact h1.2), rNum_enc _ h2.1 (by rw [p1]; exact h2.2), rText_enc _ h3, rNum_enc _ h4.1 (by rw [p4]; exact h4.2)]
theorem rNote_enc {x : GNote} (r : BL) (h : NoteFit x) : rNote (some (encNote x ++ r)) = (x, some r) := by
  obtain ⟨h1, h2, h3⟩ := h
  unfold rNote encNote
  simp only [List.append_assoc, rNum_enc _ h1.1 (by rw [p1]; exact h1.2), rNum_enc _ h2.1 (by rw [p4]; exact h2.2), rNum_enc _ h3.1 (by rw [p4]; exact h3.2)]
theorem rMany_enc {α : Type} {f : RS → α × RS} {enc : α → BL} : ∀ (l : List α) (r : BL), (∀ x ∈ l, ∀ r, f (some (enc x ++ r)) = (x, some r)) → rMany f l.length (some (l.flatMap enc ++ r)) = (l, some r)
  | [], r, _ => by simp [rMany]
  | x :: l, r, h => by
    have ih := rMany_enc l r fun y hy => h y (List.mem_cons_of_mem _ hy)
    simp only [List.length_cons, List.flatMap_cons, List.append_assoc, rMany, h x (List.mem_cons_self ..), ih]
theorem rSym_enc {s : GSym} (r : BL) (h : SymFit s) : rSym (some (encSym s ++ r)) = (s, some r) := by
  obtain ⟨h1, h2, h3, h4, h5, h6, h7, h8, h9⟩ := h
  unfold rSym encSym
  simp only [List.append_assoc, rText_enc _ h1, rNum_enc _ h2.1 (by rw [p1]; exact h2.2), rNum_enc _ h3.1 (by rw [p1]; exact h3.2), rNum_enc _ h4.1 (by rw [p4]; exact h4.2), rText_enc _ h5, rNum_enc (n := 2) (v := (s.rels.length : Int)) _ (by omega) (by rw [p2]; omega),
    rNum_enc (n := 1) (v := (s.notes.length : Int)) _ (by omega) (by rw [p1]; omega), Int.toNat_natCast, rMany_enc s.rels _ (fun x hx r => rRel_enc r (h7 x hx)), rMany_enc s.notes _ (fun x hx r => rNote_enc r (h9 x hx))]
theorem rObj_enc {o : GObj} (h : ObjFit o) : rObj (encObj o) = (magicB, o, some []) := by
  obtain ⟨h1, h2, h3⟩ := h
  have hm : ∀ r, rTake 4 (some (magicB ++ r)) = (magicB, some r) := fun r => rTake_app' rfl
  have hs := rMany_enc o.syms [] (fun x hx r => rSym_enc r (h3 x hx))
  rw [List.append_nil] at hs
  unfold rObj encObj
  simp only [List.append_assoc, hm, rText_enc _ h1, rNum_enc (n := 2) (v := (o.syms.length : Int)) _ (by omega) (by rw [p2]; omega), Int.toNat_natCast, hs]
/-! ### of what was read the bytes are those that it was read of -/
theorem rTake_some {n : Nat} {st : RS} {l r : BL} (h : rTake n st = (l, some r)) : st = some (l ++ r) ∧ l.length = n := by
  cases st with
  | none => simp [rTake] at h
  | some q =>
    unfold rTake at h
    simp only [] at h
    split at h
    · cases h; rename_i hn; exact ⟨by simp, by simp; omega⟩
    · cases h
theorem rNum_some {n : Nat} {st : RS} {v : Int} {r : BL} (h : rNum n st = (v, some r)) : st = some (leB n v ++ r) ∧ 0 ≤ v ∧ v < pow256 n := by
  have h2 := (Prod.mk.inj h).2
  have h1 := (Prod.mk.inj h).1
  obtain ⟨hs, hl⟩ := rTake_some (n := n) (st := st) (l := (rTake n st).1) (r := r) (by rw [← h2])
  have hb := leV_bd (rTake n st).1
  rw [hl] at hb
  rw [← h1]
  refine ⟨?_, hb⟩
  have := leB_leV (rTake n st).1
  rw [hl] at this
  rw [this]; exact hs
theorem rText_some {st : RS} {s : ByteArray} {r : BL} (h : rText st = (s, some r)) : st = some (encText s ++ r) ∧ s.size < 65536 := by
  have h2 := (Prod.mk.inj h).2
  have h1 := (Prod.mk.inj h).1
  obtain ⟨hs, hl⟩ := rTake_some (n := (rNum 2 st).1.toNat) (st := (rNum 2 st).2) (l := (rTake (rNum 2 st).1.toNat (rNum 2 st).2).1) (r := r) (by rw [← h2])
  obtain ⟨ht, h0, h3⟩ := rNum_some (n := 2) (st := st) (v := (rNum 2 st).1) (r := (rTake (rNum 2 st).1.toNat (rNum 2 st).2).1 ++ r) (by rw [← hs])
  rw [p2] at h3
  have hz : s.size = (rNum 2 st).1.toNat := by rw [← h1, bsOf_size, hl]
  refine ⟨?_, by omega⟩
  rw [ht, encText, List.append_assoc]
  congr 2
  · rw [hz]; congr 1; omega
  · rw [← h1, bsOf_list]
theorem rRel_some {st : RS} {x : GRel} {r : BL} (h : rRel st = (x, some r)) : st = some (encRel x ++ r) ∧ RelFit x := by
  obtain ⟨e1, e2⟩ := Prod.mk.inj h
  generalize ha : rNum 4 st = a at e1 e2
  obtain ⟨a1, a2⟩ := a
  generalize hb : rNum 1 a2 = b at e1 e2
  obtain ⟨b1, b2⟩ := b
  generalize hc : rText b2 = c at e1 e2
  obtain ⟨c1, c2⟩ := c
  generalize hd : rNum 4 c2 = d at e1 e2
  obtain ⟨d1, d2⟩ := d
  simp only [] at e1 e2
  subst e2; subst e1
  obtain ⟨rfl, k4⟩ := rNum_some hd
  obtain ⟨rfl, k3⟩ := rText_some hc
  obtain ⟨rfl, k2⟩ := rNum_some hb
  obtain ⟨rfl, k1⟩ := rNum_some ha
  rw [p4] at k4 k1; rw [p1] at k2
  exact ⟨by simp only [encRel, List.append_assoc], k1, k2, k3, k4⟩
theorem rNote_some {st : RS} {x : GNote} {r : BL} (h : rNote st = (x, some r)) : st = some (encNote x ++ r) ∧ NoteFit x := by
  obtain ⟨e1, e2⟩ := Prod.mk.inj h
  generalize ha : rNum 1 st = a at e1 e2
  obtain ⟨a1, a2⟩ := a
  generalize hb : rNum 4 a2 = b at e1 e2
  obtain ⟨b1, b2⟩ := b
  generalize hd : rNum 4 b2 = d at e1 e2
  obtain ⟨d1, d2⟩ := d
  simp only [] at e1 e2
  subst e2; subst e1
  obtain ⟨rfl, k4⟩ := rNum_some hd
  obtain ⟨rfl, k2⟩ := rNum_some hb
  obtain ⟨rfl, k1⟩ := rNum_some ha
  rw [p4] at k4 k2; rw [p1] at k1
  exact ⟨by simp only [encNote, List.append_assoc], k1, k2, k4⟩
theorem rMany_some {α : Type} {f : RS → α × RS} {enc : α → BL} {Fit : α → Prop} (hf : ∀ st x r, f st = (x, some r) → st = some (enc x ++ r) ∧ Fit x) : ∀ {n : Nat} {st : RS} {l : List α} {r : BL}, rMany f n st = (l, some r) → st = some (l.flatMap enc ++ r) ∧ l.length = n ∧ ∀ x ∈ l, Fit x
  | 0, st, l, r, h => by
    simp only [rMany] at h
    obtain ⟨rfl, rfl⟩ := Prod.mk.inj h
    exact ⟨by simp, rfl, fun x hx => by cases hx⟩
  | n + 1, none, l, r, h => by simp [rMany] at h
  | n + 1, some q, l, r, h => by
    simp only [rMany] at h
    generalize ha : f (some q) = a at h
    obtain ⟨x, st⟩ := a
    simp only [] at h
    generalize hb : rMany f n st = b at h
    obtain ⟨l', st'⟩ := b
    obtain ⟨rfl, rfl⟩ := Prod.mk.inj h
    obtain ⟨rfl, k2, k3⟩ := rMany_some hf hb
    obtain ⟨k4, k5⟩ := hf _ _ _ ha
    refine ⟨by rw [k4]; simp, by simp [k2], fun y hy => ?_⟩
    rcases List.mem_cons.1 hy with rfl | hy
    · exact k5
    · exact k3 y hy
theorem rSym_some {st : RS} {x : GSym} {r : BL} (h : rSym st = (x, some r)) : st = some (encSym x ++ r) ∧ SymFit x := by
  obtain ⟨e1, e2⟩ := Prod.mk.inj h
  generalize ha : rText st = a at e1 e2
  obtain ⟨a1, a2⟩ := a
  generalize hb : rNum 1 a2 = b at e1 e2
  obtain ⟨b1, b2⟩ := b
  generalize hc : rNum 1 b2 = c at e1 e2
  obtain ⟨c1, c2⟩ := c
  generalize hd : rNum 4 c2 = d at e1 e2
  obtain ⟨d1, d2⟩ := d
  generalize he : rText d2 = e at e1 e2
  obtain ⟨f1, f2⟩ := e
  generalize hn : rNum 2 f2 = n at e1 e2
  obtain ⟨n1, n2⟩ := n
  simp only [] at e1 e2
  generalize hr : rMany rRel n1.toNat n2 = rr at e1 e2
  obtain ⟨r1, r2⟩ := rr
  generalize hk : rNum 1 r2 = k at e1 e2
  obtain ⟨k1, k2⟩ := k
  simp only [] at e1 e2
  generalize ht : rMany rNote k1.toNat k2 = t at e1 e2
  obtain ⟨t1, t2⟩ := t
  simp only [] at e1 e2
  subst e2; subst e1
  obtain ⟨rfl, q1, q2⟩ := rMany_some (fun _ _ _ => rNote_some) ht
  obtain ⟨rfl, q3⟩ := rNum_some hk
  obtain ⟨rfl, q4, q5⟩ := rMany_some (fun _ _ _ => rRel_some) hr
  obtain ⟨rfl, q6⟩ := rNum_some hn
  obtain ⟨rfl, q7⟩ := rText_some he
  obtain ⟨rfl, q8⟩ := rNum_some hd
  obtain ⟨rfl, q9⟩ := rNum_some hc
  obtain ⟨rfl, q10⟩ := rNum_some hb
  obtain ⟨rfl, q11⟩ := rText_some ha
  rw [p1] at q3 q9 q10; rw [p2] at q6; rw [p4] at q8
  have m1 : (t1.length : Int) = k1 := by omega
  have m2 : (r1.length : Int) = n1 := by omega
  exact ⟨by simp only [encSym, List.append_assoc, m1, m2], q11, q10, q9, q8, q7, by simp only []; omega, q5, by simp only []; omega, q2⟩
theorem getB_some {s : BL} {o : GObj} (h : getB s = some o) : encObj o = s ∧ ObjFit o ∧ mayP o = true := by
  unfold getB at h
  split at h
  · rename_i hc
    cases h
    obtain ⟨h1, h2, h3⟩ := hc
    refine ⟨?_, ?_, h3⟩
    all_goals
      unfold rObj at h1 h2 ⊢
      simp only [] at h1 h2 ⊢
      generalize ha : rTake 4 (some s) = a at h1 h2 ⊢
      obtain ⟨a1, a2⟩ := a
      generalize hb : rText a2 = b at h1 ⊢
      obtain ⟨b1, b2⟩ := b
      generalize hn : rNum 2 b2 = n at h1 ⊢
      obtain ⟨n1, n2⟩ := n
      simp only [] at h1 h2 ⊢
      generalize hr : rMany rSym n1.toNat n2 = rr at h1 ⊢
      obtain ⟨r1, r2⟩ := rr
      simp only [] at h1 h2 ⊢
      subst h1; subst h2
      obtain ⟨rfl, q1, q2⟩ := rMany_some (fun _ _ _ => rSym_some) hr
      obtain ⟨rfl, q3⟩ := rNum_some hn
      obtain ⟨rfl, q4⟩ := rText_some hb
      obtain ⟨q5, -⟩ := rTake_some ha
      rw [p2] at q3
      have m1 : (r1.length : Int) = n1 := by omega
    · rw [Option.some.inj q5]; simp [encObj, m1]
    · exact ⟨q4, by simp only []; omega, q2⟩
  · cases h
theorem getB_enc {o : GObj} (h : ObjFit o) (hm : mayP o = true) : getB (encObj o) = some o := by
  unfold getB
  rw [rObj_enc h]
  simp [hm]
theorem pow256_mono : ∀ {n m : Nat}, n ≤ m → pow256 n ≤ pow256 m
  | 0, m, _ => by have := pow256_pos m; simp only [pow256]; omega
  | n + 1, m + 1, h => by have := pow256_mono (n := n) (m := m) (by omega); simp only [pow256]; omega
theorem rNum_bd (n : Nat) (st : RS) : 0 ≤ (rNum n st).1 ∧ (rNum n st).1 < pow256 n := by
  have h := leV_bd (rTake n st).1
  have hl : (rTake n st).1.length ≤ n := by
    cases st with
    | none => simp [rTake]
    | some r => unfold rTake; simp only []; split <;> simp; omega
  have := pow256_mono hl
  exact ⟨h.1, Int.lt_of_lt_of_le h.2 this⟩
theorem rTake_len (n : Nat) (st : RS) : (rTake n st).1.length ≤ n := by
  cases st with
  | none => simp [rTake]
  | some r => unfold rTake; simp only []; split <;> simp; omega
end Go.Proofs.YtboegjdkedjhcaaGreatDoor
namespace Go.Proofs.YtboegjdkedjhcaaGreatDoor
open Go.RowKit
theorem leV_snoc : ∀ (l : BL) (b : UInt8), leV (l ++ [b]) = leV l + b.toNat * pow256 l.length
  | [], b => by simp [leV, pow256]
  | x :: r, b => by
    rw [List.cons_append, leV, leV_snoc r b, leV, List.length_cons, pow256]
    rw [Int.mul_add, ← Int.add_assoc, Int.mul_left_comm]
theorem or_shift (a b k : Nat) (h : a < 2 ^ k) : a ||| b <<< k = a + b * 2 ^ k := by
  rw [Nat.or_comm, Nat.shiftLeft_eq, Nat.mul_comm b, ← Nat.two_pow_add_eq_or_of_lt h, Nat.add_comm]
theorem pow256_eq : ∀ k : Nat, pow256 k = ((2 ^ (8 * k) : Nat) : Int)
  | 0 => rfl
  | k + 1 => by rw [pow256, pow256_eq k, show 8 * (k + 1) = 8 * k + 8 by omega, Nat.pow_add]; simp; omega
theorem or_byte (l : BL) (b : UInt8) (hl : l.length < 4) : bits .or .u32 (leV l) ((b.toNat : Int) % 4294967296 * 2 ^ (8 * l.length) % 4294967296) = leV (l ++ [b]) := by
  have hv := leV_bd l
  have hb := b.toNat_lt
  rw [leV_snoc, pow256_eq]
  rw [pow256_eq] at hv
  have hp : (2 ^ (8 * l.length) : Nat) ≤ 16777216 := by
    have := Nat.pow_le_pow_right (n := 2) (by omega) (show 8 * l.length ≤ 24 by omega)
    exact this
  have hm : b.toNat * 2 ^ (8 * l.length) < 4294967296 := by
    have := Nat.mul_le_mul (show b.toNat ≤ 255 by omega) hp
    omega
  obtain ⟨a, ha⟩ := Int.eq_ofNat_of_zero_le hv.1
  have e1 : ((b.toNat : Int) % 4294967296 * 2 ^ (8 * l.length) % 4294967296) = ((b.toNat * 2 ^ (8 * l.length) : Nat) : Int) := by
    rw [Int.emod_eq_of_lt (a := (b.toNat : Int)) (by omega) (by omega)]
    rw [show (b.toNat : Int) * 2 ^ (8 * l.length) = ((b.toNat * 2 ^ (8 * l.length) : Nat) : Int) by simp]
    exact Int.emod_eq_of_lt (by omega) (by omega)
  rw [e1, ha]
  rw [ha] at hv
  have ha2 : a < 2 ^ (8 * l.length) := by omega
  rw [u32_or_nat a _ (by omega) hm, ← Nat.shiftLeft_eq, or_shift a b.toNat _ ha2]
  simp
set_option maxHeartbeats 1000000 in
set_option maxRecDepth 100000 in
theorem wordGet_any (s : ByteArray) (w : World) (h1 : 1 ≤ s.size) (h4 : s.size ≤ 4) :
    Calls Tryz.prog 87 #[.string s] w fun e w' => e = .returned (.tuple #[.int .u32 (leV s.data.toList), .int .i64 0]) ∧ w = w' := by
  have d1 : decide ((s.size : Int) < 1) = false := by simp; omega
  have d4 : decide ((4 : Int) < (s.size : Int)) = false := by simp; omega
  have d4' : decide (4 < s.size) = false := by simp; omega
  go_enter Tryz.func87, Tryz.ntmps87
  go_wp2
  go_loopw [2, 15] (fun v2 v15 wr => ∃ k : Nat, k ≤ s.size ∧ v15 = .int .i64 k ∧ v2 = .int .u32 (leV (s.data.toList.take k)) ∧ w = wr) (fun _ v15 _ => s.size - (intOf v15).toNat)
  case atStart => exact ⟨0, Nat.zero_le _, rfl, rfl, rfl⟩
  case round =>
    obtain ⟨k, hk, rfl, rfl, rfl⟩ := hrel
    by_cases hlt : k < s.size
    · have HE : Hid (bits .or .u32 (leV (s.data.toList.take k)) ((s[k].toNat : Int) % 4294967296 * 2 ^ (8 * k) % 4294967296) = leV (s.data.toList.take (k + 1))) := by
        have hl : (s.data.toList.take k).length = k := by rw [List.length_take, len_list]; omega
        have := or_byte (s.data.toList.take k) s[k] (by omega)
        rw [hl] at this
        rw [Hid, this, List.take_succ_eq_append_getElem (by rw [len_list]; exact hlt)]
        rfl
      go_wp2
      exact ⟨⟨k + 1, by omega, by go_num, by rw [HE.out], trivial⟩, by simp [intOf]; omega⟩
    · have HT : Hid (s.data.toList.take k = s.data.toList) := List.take_of_length_le (by rw [len_list]; omega)
      rw [HT.out]
      go_wp2
      go_ret2
      exact ⟨rfl, rfl⟩
end Go.Proofs.YtboegjdkedjhcaaGreatDoor
namespace Go.Proofs.YtboegjdkedjhcaaGreatDoor
open Go.RowKit
theorem run_copy_none {P : Program} {w : World} (t ty e : TypeId) (i : TypeInfo) (ht : P.underlying t = some (.slice e)) (hi : P.info? e = some i) (p : Option Addr) (c : Nat) :
    (Builtin.append_ #[t, t] ty #[.slice none 0 0, .slice p 0 c]).run P w = .ok (.slice none 0 0) w := by
  cases p <;> simp [Builtin.append_, run_underlying ht, sizeOf, typeInfo, hi, Builtin.lenOf, Builtin.firstCells, loadCells, loadCellsFrom]
/-- append(nil, x...) where x is a row: a row of one's own with x's cells -/
theorem wpList_copy {P : Program} {w : World} {ops : Array Oper} {rest : List Oper} {o : Oper} {a : Act} {Q : Exit → Act → World → Prop} (hgd : o.guard = none) (s x : Operand) (t : TypeId)
    (ho : o.op = .call { callee := .builtin .append, args := #[s, x], argTypes := #[t, t] })
    (e : TypeId) (i : TypeInfo) (z : Value) (size bytes : Nat) (ht : P.underlying t = some (.slice e)) (hi : P.info? e = some i) (hz : i.zero = some z)
    (hsize : i.size = size) (hby : i.bytes = bytes) (hzs : z.cells.size = size) (hsz : 0 < size) (hs : a.eval s = .slice none 0 0)
    (p : Option Addr) (m c b off : Nat) (news : List Value) (hx : a.eval x = .slice p m c) (hp : 0 < m → p = some ⟨b, off, none⟩) (hl : news.length = m * size) (hnews : 0 < m → ∀ j u, news[j]? = some u → w.cell? ((⟨b, off, none⟩ : Addr).add j) = some u) (h1 : ∀ u ∈ news, u.oneCell' = true)
    (hm : m ≤ 140737488355328) (hbytes : m * bytes ≤ 140737488355328)
    (h : ∀ v' w', w'.ownsRow w.heap.size e size v' m news → w.grownBy w' none → wpList P ops Q rest (a.put o.dst v') w') : wpList P ops Q (o :: rest) a w := by
  by_cases h0 : m = 0
  · subst h0
    refine wpList_plain hgd fun K hK => ?_
    have hrun := run_copy_none (P := P) (w := w) t o.type e i ht hi p c
    have hn : news = [] := List.eq_nil_of_length_eq_zero (by rw [hl, Nat.zero_mul])
    subst hn
    unfold Oper.wp
    simp [execOp, ho, resolve, invoke, builtin, hs, hx, hrun, Result.andThen]
    exact hK _ _ (h _ _ (World.ownsRow_nil w _ _ _) (World.grownBy.refl w none))
  · obtain rfl := hp (by omega)
    refine wpList_append_own w hgd s x t ho w.heap.size e i z size bytes ht hi hz hsize hby hzs hsz (.slice none 0 0) 0 [] hs (World.ownsRow_nil w _ _ _) _ m c news hx hl (hnews (by omega)) h1 (by unfold maxLen; omega) (by simpa using hbytes) (Nat.le_refl _) ?_
    intro v' w' h2 h3 _
    exact h v' w' (by simpa using h2) h3
end Go.Proofs.YtboegjdkedjhcaaGreatDoor
namespace Go.Proofs.YtboegjdkedjhcaaGreatDoor
open Go.RowKit
theorem add_at (b o i : Nat) : (⟨b, o, none⟩ : Addr).add i = ⟨b, o + i, none⟩ := by
  unfold Addr.add
  by_cases h : i = 0 <;> simp [h]
theorem flat_len {α : Type} {k : Nat} {f : α → List Value} (hk : ∀ x, (f x).length = k) : ∀ l : List α, (l.flatMap f).length = l.length * k
  | [] => by simp
  | x :: r => by
    rw [List.flatMap_cons, List.length_append, flat_len hk r, hk, List.length_cons, Nat.succ_mul]; omega
theorem flat_get {α : Type} {k : Nat} {f : α → List Value} (hk : ∀ x, (f x).length = k) : ∀ (l : List α) (i j : Nat) (hi : i < l.length), j < k → (l.flatMap f)[i * k + j]? = (f l[i])[j]?
  | x :: r, 0, j, _, hj => by
    rw [List.flatMap_cons, Nat.zero_mul, Nat.zero_add, List.getElem?_append_left (by rw [hk]; exact hj)]; rfl
  | x :: r, i + 1, j, hi, hj => by
    have h1 : (i + 1) * k + j = k + (i * k + j) := by rw [Nat.succ_mul]; omega
    rw [List.flatMap_cons, h1, List.getElem?_append_right (by rw [hk]; omega), hk, Nat.add_sub_cancel_left, flat_get hk r i j (by simpa using hi) hj]; rfl
theorem flat_inv {α : Type} {k : Nat} {f : α → List Value} (hk : ∀ x, (f x).length = k) (hk0 : 0 < k) {l : List α} {q : Nat} {u : Value} (h : (l.flatMap f)[q]? = some u) : ∃ (i j : Nat) (hi : i < l.length), j < k ∧ q = i * k + j ∧ (f l[i])[j]? = some u := by
  have hq : q < l.length * k := by
    rw [← flat_len hk l]
    exact (List.getElem?_eq_some_iff.1 h).1
  have hi : q / k < l.length := Nat.div_lt_of_lt_mul (by rw [Nat.mul_comm]; exact hq)
  have hj := Nat.mod_lt q hk0
  have he : q = q / k * k + q % k := by rw [Nat.mul_comm]; exact (Nat.div_add_mod q k).symm
  refine ⟨q / k, q % k, hi, hj, he, ?_⟩
  rw [← flat_get hk l _ _ hi hj, ← he]
  exact h
/-- the cells that a row of elements has -/
theorem row_news {α : Type} {k : Nat} {f : α → List Value} (hk : ∀ x, (f x).length = k) (hk0 : 0 < k) {w : World} {b o : Nat} {l : List α} (h : ∀ i (hi : i < l.length) j u, (f l[i])[j]? = some u → w.cell? ⟨b, o + i * k + j, none⟩ = some u) :
    ∀ j u, (l.flatMap f)[j]? = some u → w.cell? ((⟨b, o, none⟩ : Addr).add j) = some u := by
  intro q u hq
  obtain ⟨i, j, hi, hj, rfl, hu⟩ := flat_inv hk hk0 hq
  rw [add_at, ← Nat.add_assoc]
  exact h i hi j u hu
/-- a row of one's own, as a row of elements -/
theorem owned_row {α : Type} {k base : Nat} {e : TypeId} {f : α → List Value} (hk : ∀ x, (f x).length = k) {w : World} {v : Value} {l : List α} (h : w.ownsRow base e k v l.length (l.flatMap f)) (hl : l.length ≤ 140737488355328)
    {R : World → Nat → Nat → α → Prop} (hR : ∀ g o i (hi : i < l.length), g < w.heap.size → (∀ j u, j < k → (f l[i])[j]? = some u → w.cell? ⟨g, o + j, none⟩ = some u) → R w g o l[i]) : RowAt k R w v l := by
  rcases h.2 with ⟨rfl, h0⟩ | ⟨g, cap, cur, rfl, hb, hg, hnc, hcm, hcs, htk⟩
  · refine ⟨none, 0, 0, 0, by rw [h0], by omega, hl, fun h => by omega, fun i h => by omega⟩
  · have hglt : g < w.heap.size := (Array.getElem?_eq_some_iff.1 hg).1
    refine ⟨_, cap, g, 0, rfl, hnc, hl, fun _ => rfl, fun i hi => hR g _ i hi hglt fun j u hj hu => ?_⟩
    rw [← flat_get hk l i j hi hj] at hu
    have h1 := h.cells (g := g) rfl _ _ hu
    rw [add_at] at h1
    rw [Nat.add_assoc]
    exact h1
end Go.Proofs.YtboegjdkedjhcaaGreatDoor
namespace Go.Proofs.YtboegjdkedjhcaaGreatDoor
open Go.RowKit
def relCells (x : GRel) : List Value := [.int .u32 x.off, .int .u8 x.kind, .string x.name, .int .u32 x.add]
def noteCells (x : GNote) : List Value := [.int .u8 x.kind, .int .u32 x.n, .int .u32 x.m]
theorem relCells_len (x : GRel) : (relCells x).length = 4 := rfl
theorem noteCells_len (x : GNote) : (noteCells x).length = 3 := rfl
theorem relCells_one {l : List GRel} : ∀ u ∈ l.flatMap relCells, u.oneCell' = true := by
  intro u hu
  obtain ⟨x, _, hx⟩ := List.mem_flatMap.1 hu
  simp only [relCells, List.mem_cons, List.not_mem_nil, or_false] at hx
  rcases hx with rfl | rfl | rfl | rfl <;> rfl
theorem noteCells_one {l : List GNote} : ∀ u ∈ l.flatMap noteCells, u.oneCell' = true := by
  intro u hu
  obtain ⟨x, _, hx⟩ := List.mem_flatMap.1 hu
  simp only [noteCells, List.mem_cons, List.not_mem_nil, or_false] at hx
  rcases hx with rfl | rfl | rfl <;> rfl
theorem rel_news {w : World} {b o : Nat} {l : List GRel} (h : ∀ i (hi : i < l.length), RelR w b (o + i * 4) l[i]) : ∀ j u, (l.flatMap relCells)[j]? = some u → w.cell? ((⟨b, o, none⟩ : Addr).add j) = some u := by
  refine row_news relCells_len (by omega) fun i hi j u hu => ?_
  obtain ⟨-, h1, h2, h3, h4, -⟩ := h i hi
  match j, hu with
  | 0, hu => cases hu; exact h1
  | 1, hu => cases hu; exact h2
  | 2, hu => cases hu; exact h3
  | 3, hu => cases hu; exact h4
theorem note_news {w : World} {b o : Nat} {l : List GNote} (h : ∀ i (hi : i < l.length), NoteR w b (o + i * 3) l[i]) : ∀ j u, (l.flatMap noteCells)[j]? = some u → w.cell? ((⟨b, o, none⟩ : Addr).add j) = some u := by
  refine row_news noteCells_len (by omega) fun i hi j u hu => ?_
  obtain ⟨-, h1, h2, h3, -⟩ := h i hi
  match j, hu with
  | 0, hu => cases hu; exact h1
  | 1, hu => cases hu; exact h2
  | 2, hu => cases hu; exact h3
theorem rel_back {w0 w : World} {v0 v : Value} {base : Nat} {e : TypeId} {l : List GRel} (h0 : RowAt 4 RelR w0 v0 l) (h : w.ownsRow base e 4 v l.length (l.flatMap relCells)) : RowAt 4 RelR w v l := by
  obtain ⟨_, _, b, o, -, -, hm, -, hc⟩ := h0
  refine owned_row relCells_len h hm fun g o' i hi hg hcell => ?_
  obtain ⟨-, -, -, -, -, hbd⟩ := hc i hi
  exact ⟨hg, hcell 0 _ (by omega) rfl, hcell 1 _ (by omega) rfl, hcell 2 _ (by omega) rfl, hcell 3 _ (by omega) rfl, hbd⟩
theorem note_back {w0 w : World} {v0 v : Value} {base : Nat} {e : TypeId} {l : List GNote} (h0 : RowAt 3 NoteR w0 v0 l) (h : w.ownsRow base e 3 v l.length (l.flatMap noteCells)) : RowAt 3 NoteR w v l := by
  obtain ⟨_, _, b, o, -, -, hm, -, hc⟩ := h0
  refine owned_row noteCells_len h hm fun g o' i hi hg hcell => ?_
  obtain ⟨-, -, -, -, hbd⟩ := hc i hi
  exact ⟨hg, hcell 0 _ (by omega) rfl, hcell 1 _ (by omega) rfl, hcell 2 _ (by omega) rfl, hbd⟩
/-- a symbol with its two rows -/
abbrev SymT := GSym × Value × Value
def symCells (t : SymT) : List Value := [.string t.1.name, .int .u8 t.1.bind, .int .u8 t.1.kind, .int .u32 t.1.size, .string t.1.bytes, t.2.1, t.2.2]
theorem symCells_len (x : SymT) : (symCells x).length = 7 := rfl
theorem sym_back {w : World} {v : Value} {base : Nat} {e : TypeId} {ts : List SymT} (h : w.ownsRow base e 7 v ts.length (ts.flatMap symCells)) (hl : ts.length ≤ 140737488355328) (hin : ∀ t ∈ ts, SymIn w t.1 t.2.1 t.2.2) : RowAt 7 SymR w v (ts.map (·.1)) := by
  have h1 : RowAt 7 (fun w b o (t : SymT) => SymR w b o t.1) w v ts := owned_row symCells_len h hl fun g o' i hi hg hcell =>
    ⟨ts[i].2.1, ts[i].2.2, hg, hcell 0 _ (by omega) rfl, hcell 1 _ (by omega) rfl, hcell 2 _ (by omega) rfl, hcell 3 _ (by omega) rfl, hcell 4 _ (by omega) rfl, hcell 5 _ (by omega) rfl, hcell 6 _ (by omega) rfl, hin _ (List.getElem_mem hi)⟩
  obtain ⟨p, cap, b, o, rfl, h2, h3, h4, h5⟩ := h1
  exact ⟨p, cap, b, o, by simp, by simpa using h2, by simpa using h3, by simpa using h4, fun i hi => by simpa using h5 i (by simpa using hi)⟩
end Go.Proofs.YtboegjdkedjhcaaGreatDoor
namespace Go.Proofs.YtboegjdkedjhcaaGreatDoor
open Go.RowKit Go.Maps Go.WideMaps
section
variable {α : Type} {k : Nat} {R : World → Nat → Nat → α → Prop} {w : World} {b o cap : Nat}
theorem rowAt_nil : RowAt k R w (.slice none 0 0) [] := ⟨none, 0, 0, 0, rfl, Nat.le_refl _, by simp, fun h => by simp at h, fun i h => by simp at h⟩
theorem rowAt_one {a : α} (h0 : R w b o a) (hcap : 1 ≤ cap) : RowAt k R w (.slice (some ⟨b, o, none⟩) 1 cap) [a] :=
  ⟨_, cap, b, o, rfl, hcap, by simp, fun _ => rfl, fun i h => by
    have : i = 0 := by simp at h; omega
    subst this; simpa using h0⟩
theorem rowAt_three {a c d : α} (h0 : R w b o a) (h1 : R w b (o + k) c) (h2 : R w b (o + 2 * k) d) (hcap : 3 ≤ cap) : RowAt k R w (.slice (some ⟨b, o, none⟩) 3 cap) [a, c, d] :=
  ⟨_, cap, b, o, rfl, hcap, by simp, fun _ => rfl, fun i h => by
    have : i = 0 ∨ i = 1 ∨ i = 2 := by simp at h; omega
    rcases this with rfl | rfl | rfl
    · simpa using h0
    · simpa using h1
    · simpa using h2⟩
end
/-- a place in a block of its own -/
def PlaceAt (w : World) (g : Nat) (a b : Int) : Prop := g < w.heap.size ∧ w.cell? ⟨g, 0, none⟩ = some (.int .i64 a) ∧ w.cell? ⟨g, 1, none⟩ = some (.int .i64 b)
theorem ownsRow_below {w w' : World} {base : Nat} {e : TypeId} {size : Nat} {v : Value} {n : Nat} {xs : List Value} (hb : Below w.heap.size w w') (h : w.ownsRow base e size v n xs) : w'.ownsRow base e size v n xs :=
  h.kept (row := none) ⟨hb.os, hb.tape, hb.output, hb.size, fun k hk _ => hb.block k hk⟩ (by cases h' : v.ownBlock <;> simp)
end Go.Proofs.YtboegjdkedjhcaaGreatDoor
namespace Go.Proofs.YtboegjdkedjhcaaGreatDoor
open Go.RowKit
/-- w' is w but for the blocks of S, and new ones -/
structure KB (S : Nat → Prop) (w w' : World) : Prop where
  os : w'.os = w.os
  tape : w'.tape = w.tape
  output : w'.output = w.output
  size : w.heap.size ≤ w'.heap.size
  block : ∀ k, k < w.heap.size → ¬ S k → w'.heap[k]? = w.heap[k]?
theorem KB.refl (S : Nat → Prop) (w : World) : KB S w w := ⟨rfl, rfl, rfl, Nat.le_refl _, fun _ _ _ => rfl⟩
theorem KB.trans {S : Nat → Prop} {a b c : World} (h : KB S a b) (k : KB S b c) : KB S a c :=
  ⟨k.os.trans h.os, k.tape.trans h.tape, k.output.trans h.output, Nat.le_trans h.size k.size, fun i hi hs => (k.block i (Nat.lt_of_lt_of_le hi h.size) hs).trans (h.block i hi hs)⟩
theorem KB.of_below {S : Nat → Prop} {w w' : World} (h : Below w.heap.size w w') : KB S w w' := ⟨h.os, h.tape, h.output, h.size, fun k hk _ => h.block k hk⟩
theorem KB.of_grown {S : Nat → Prop} {w w' : World} {r : Option Nat} (h : w.grownBy w' r) (hr : ∀ k, r = some k → S k ∨ w.heap.size ≤ k) : KB S w w' :=
  ⟨h.os, h.tape, h.output, h.size, fun k hk hs => h.block k hk fun e => by rcases hr k e.symm with h1 | h1; exact hs h1; omega⟩
/-- a row that was made later may be written -/
theorem KB.grown {S : Nat → Prop} {a w w' : World} {r : Option Nat} (h : KB S a w) (hg : w.grownBy w' r) (hr : ∀ k, r = some k → S k ∨ a.heap.size ≤ k) : KB S a w' :=
  ⟨hg.os.trans h.os, hg.tape.trans h.tape, hg.output.trans h.output, Nat.le_trans h.size hg.size, fun k hk hs => (hg.block k (Nat.lt_of_lt_of_le hk h.size) fun e => by rcases hr k e.symm with h1 | h1; exact hs h1; omega).trans (h.block k hk hs)⟩
theorem KB.setCell {S : Nat → Prop} {a w : World} (h : KB S a w) {p : Addr} (hp : S p.block ∨ a.heap.size ≤ p.block) (u : Value) : KB S a (w.setCell p u) :=
  ⟨h.os, h.tape, h.output, by simpa using h.size, fun k hk hs => (Below.heap_setCell _ _ _ _ (fun e => by rcases hp with h1 | h1; exact hs (e ▸ h1); omega)).trans (h.block k hk hs)⟩
theorem KB.alloc {S : Nat → Prop} {a w : World} (h : KB S a w) (o : Obj) : KB S a (w.alloc o) :=
  ⟨h.os, h.tape, h.output, by have := h.size; simp; omega, fun k hk hs => (Below.heap_alloc _ _ _ (Nat.lt_of_lt_of_le hk h.size)).trans (h.block k hk hs)⟩
theorem KB.drew {S : Nat → Prop} {a w : World} (h : KB S a w) : KB S a w.drew := ⟨h.os, h.tape, h.output, h.size, h.block⟩
theorem KB.drewN {S : Nat → Prop} {a w : World} (h : KB S a w) (n : Nat) : KB S a (w.drewN n) := ⟨h.os, h.tape, h.output, h.size, h.block⟩
theorem KB.below {S : Nat → Prop} {w w' : World} (h : KB S w w') {B : Nat} (hB : B ≤ w.heap.size) (hs : ∀ k, k < B → ¬ S k) : Below B w w' :=
  ⟨h.os, h.tape, h.output, h.size, fun k hk => h.block k (by omega) (hs k hk)⟩
theorem KB.cell {S : Nat → Prop} {w w' : World} (h : KB S w w') {b o : Nat} {v : Value} (hb : b < w.heap.size) (hs : ¬ S b) (hc : w.cell? ⟨b, o, none⟩ = some v) : w'.cell? ⟨b, o, none⟩ = some v := by
  rw [World.cell?_of_block (w := w) (h.block b hb hs)]; exact hc
theorem own_congr {w w' : World} {base : Nat} {e : TypeId} {k : Nat} {v : Value} {n : Nat} {xs : List Value} (h : w.ownsRow base e k v n xs) (hg : ∀ g, v.ownBlock = some g → w'.heap[g]? = w.heap[g]?) : w'.ownsRow base e k v n xs := by
  refine ⟨h.1, ?_⟩
  rcases h.2 with hn | ⟨g, cap, cur, rfl, hb, h1, rest⟩
  · exact .inl hn
  · exact .inr ⟨g, cap, cur, rfl, hb, by rw [hg g rfl]; exact h1, rest⟩
theorem KB.owns {S : Nat → Prop} {w w' : World} (h : KB S w w') {base : Nat} {e : TypeId} {k : Nat} {v : Value} {n : Nat} {xs : List Value} (ho : w.ownsRow base e k v n xs) (hs : ∀ g, v.ownBlock = some g → ¬ S g) : w'.ownsRow base e k v n xs :=
  own_congr ho fun g hg => h.block g (ho.lt g hg).2 (hs g hg)
/-- one element of three cells is set -/
theorem flat_set3 {α : Type} {f : α → List Value} (hk : ∀ x, (f x).length = 3) {x : α} {a b c : Value} (hx : f x = [a, b, c]) : ∀ (l : List α) (i : Nat), i < l.length → ((((l.flatMap f).set (i * 3) a).set (i * 3 + 1) b).set (i * 3 + 2) c) = (l.set i x).flatMap f
  | y :: r, 0, _ => by
    have h3 := hk y
    match hy : f y, h3 with
    | [y0, y1, y2], _ => simp [hy, hx]
  | y :: r, i + 1, h => by
    have h3 := hk y
    have ih := flat_set3 hk hx r i (by simpa using h)
    match hy : f y, h3 with
    | [y0, y1, y2], _ =>
      rw [List.set_cons_succ, List.flatMap_cons, List.flatMap_cons, hy, ← ih, show (i + 1) * 3 = i * 3 + 1 + 1 + 1 by omega, show i * 3 + 1 + 1 + 1 + 1 = i * 3 + 1 + 1 + 1 + 1 from rfl]
      simp
theorem zero_cells3 (z : Value) (a b c : Value) (hz : z.cells = #[a, b, c]) : ∀ n, (madeCells z.cells (n * 3)).toList = (List.replicate n ()).flatMap fun _ => [a, b, c] := by
  intro n
  apply List.ext_getElem?
  intro q
  rw [hz]
  by_cases hq : q < n * 3
  · have h1 : q / 3 < (List.replicate n ()).length := by simp; omega
    have h2 := flat_get (f := fun _ : Unit => [a, b, c]) (k := 3) (fun _ => rfl) (List.replicate n ()) (q / 3) (q % 3) h1 (by omega)
    rw [show q / 3 * 3 + q % 3 = q by omega] at h2
    rw [h2]
    have h3 : q % 3 = 0 ∨ q % 3 = 1 ∨ q % 3 = 2 := by omega
    rcases h3 with h3 | h3 | h3 <;> simp [madeCells, hq, h3]
  · rw [List.getElem?_eq_none (by simp [size_madeCells]; omega), List.getElem?_eq_none (by rw [flat_len (k := 3) (fun _ => rfl)]; simp; omega)]
end Go.Proofs.YtboegjdkedjhcaaGreatDoor
