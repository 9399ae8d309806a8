/- Numbers, texts, places, notes, symbols and objects as bytes (layers 7 and 9), in plain words: what is put, what is read, and that the one is the other's inverse. No program in sight. A block that holds a row of bytes: its cells, and what a copy of a string into it makes of it. Filling a symbol's places (layer 15), in plain words. No program in sight. The walk of obj.Sym. The walks of word.text and word.Put. The walks of reloc.begin, at, put and Fill. -/
import Derived.Test.YtdjgkmpjhpnkeaaGreatDoorBd02
import Derived.Test.YtdjgkmpjhpnkeaaGreatDoorBd05
import Derived.Lib.BufferWrite
import Derived.Lib.Hide
import Derived.Test.YtdjgkmpjhpnkeaaGreatDoorBd03
import Derived.WalkSmall
import Derived.Test.YtdjgkmpjhpnkeaaGreatDoorRows
import Derived.Laws.IdiomStrings
import Derived.Outline
import Derived.Deep.OwnRows
namespace Go.Proofs.YtdjgkmpjhpnkeaaGreatDoor
abbrev BL := List UInt8
def bsOf (l : BL) : ByteArray := ⟨l.toArray⟩
theorem bsOf_list (l : BL) : (bsOf l).data.toList = l := rfl
theorem bsOf_of (s : ByteArray) : bsOf s.data.toList = s := rfl
theorem bsOf_size (l : BL) : (bsOf l).size = l.length := by unfold bsOf ByteArray.size; simp
theorem len_list (s : ByteArray) : s.data.toList.length = s.size := by unfold ByteArray.size; simp
/-- a number's bytes, the lowest first -/
def leB : Nat → Int → BL
  | 0, _ => []
  | n + 1, v => UInt8.ofNat (v % 256).toNat :: leB n (v / 256)
def leV : BL → Int
  | [] => 0
  | b :: r => b.toNat + 256 * leV r
theorem leB_length : ∀ (n : Nat) (v : Int), (leB n v).length = n
  | 0, _ => rfl
  | n + 1, v => by simp [leB, leB_length n]
def pow256 : Nat → Int | 0 => 1 | n + 1 => 256 * pow256 n
theorem pow256_pos : ∀ n, 0 < pow256 n | 0 => by decide | n + 1 => by have := pow256_pos n; simp only [pow256]; omega
theorem leV_bd : ∀ l : BL, 0 ≤ leV l ∧ leV l < pow256 l.length
  | [] => by simp [leV, pow256]
  | b :: r => by
    have := leV_bd r
    have hb := b.toNat_lt
    simp only [leV, List.length_cons, pow256]
    omega
theorem u8_ofNat (k : Nat) (h : k < 256) : (UInt8.ofNat k).toNat = k := by simp; omega
theorem leV_leB : ∀ (n : Nat) (v : Int), 0 ≤ v → v < pow256 n → leV (leB n v) = v
  | 0, v, h0, h1 => by simp only [pow256] at h1; simp only [leB, leV]; omega
  | n + 1, v, h0, h1 => by
    simp only [pow256] at h1
    simp only [leB, leV, leV_leB n (v / 256) (by omega) (by omega), u8_ofNat (v % 256).toNat (by omega)]
    omega
theorem leB_leV : ∀ l : BL, leB l.length (leV l) = l
  | [] => rfl
  | b :: r => by
    have hb := b.toNat_lt
    have h1 : (b.toNat + 256 * leV r : Int) % 256 = b.toNat := by omega
    have h2 : (b.toNat + 256 * leV r : Int) / 256 = leV r := by omega
    simp only [leV, List.length_cons, leB, h1, h2, leB_leV r]
    simp
/-- a text's bytes -/
def encText (s : ByteArray) : BL := leB 2 s.size ++ s.data.toList
def encRel (x : GRel) : BL := leB 4 x.off ++ leB 1 x.kind ++ encText x.name ++ leB 4 x.add
def encNote (x : GNote) : BL := leB 1 x.kind ++ leB 4 x.n ++ leB 4 x.m
def encSym (s : GSym) : BL := encText s.name ++ leB 1 s.bind ++ leB 1 s.kind ++ leB 4 s.size ++ encText s.bytes ++ leB 2 s.rels.length ++ s.rels.flatMap encRel ++ leB 1 s.notes.length ++ s.notes.flatMap encNote
def magicB : BL := [65, 79, 66, 49]
def encObj (o : GObj) : BL := magicB ++ encText o.name ++ leB 2 o.syms.length ++ o.syms.flatMap encSym
/-- what is left to read; none: spoilt -/
abbrev RS := Option BL
def rTake (n : Nat) : RS → BL × RS
  | none => ([], none)
  | some r => if n ≤ r.length then (r.take n, some (r.drop n)) else ([], none)
def rNum (n : Nat) (st : RS) : Int × RS := (leV (rTake n st).1, (rTake n st).2)
def rText (st : RS) : ByteArray × RS := (bsOf (rTake (rNum 2 st).1.toNat (rNum 2 st).2).1, (rTake (rNum 2 st).1.toNat (rNum 2 st).2).2)
def rRel (st : RS) : GRel × RS :=
  let a := rNum 4 st
  let b := rNum 1 a.2
  let c := rText b.2
  let d := rNum 4 c.2
  (⟨a.1, b.1, c.1, d.1⟩, d.2)
def rNote (st : RS) : GNote × RS :=
  let a := rNum 1 st
  let b := rNum 4 a.2
  let c := rNum 4 b.2
  (⟨a.1, b.1, c.1⟩, c.2)
def rMany {α : Type} (f : RS → α × RS) : Nat → RS → List α × RS
  | 0, st => ([], st)
  | _ + 1, none => ([], none)
  | n + 1, some r => ((f (some r)).1 :: (rMany f n (f (some r)).2).1, (rMany f n (f (some r)).2).2)
def rSym (st : RS) : GSym × RS :=
  let a := rText st
  let b := rNum 1 a.2
  let c := rNum 1 b.2
  let d := rNum 4 c.2
  let e := rText d.2
  let n := rNum 2 e.2
  let rs := rMany rRel n.1.toNat n.2
  let k := rNum 1 rs.2
  let ts := rMany rNote k.1.toNat k.2
  (⟨a.1, b.1, c.1, d.1, e.1, rs.1, ts.1⟩, ts.2)
def rObj (s : BL) : BL × GObj × RS :=
  let m := rTake 4 (some s)
  let a := rText m.2
  let n := rNum 2 a.2
  let ss := rMany rSym n.1.toNat n.2
  (m.1, ⟨a.1, ss.1⟩, ss.2)
/-- the object of bytes -/
def getB (s : BL) : Option GObj := if (rObj s).2.2 = some [] ∧ (rObj s).1 = magicB ∧ mayP (rObj s).2.1 = true then some (rObj s).2.1 else none
/-! ### what was put is read -/
theorem rTake_app (l r : BL) : rTake l.length (some (l ++ r)) = (l, some r) := by simp [rTake]
theorem rTake_app' {n : Nat} {l r : BL} (h : l.length = n) : rTake n (some (l ++ r)) = (l, some r) := by subst h; exact rTake_app l r
theorem rNum_enc {n : Nat} {v : Int} (r : BL) (h0 : 0 ≤ v) (h1 : v < pow256 n) : rNum n (some (leB n v ++ r)) = (v, some r) := by
  simp only [rNum, rTake_app' (leB_length n v), leV_leB n v h0 h1]
theorem rText_enc {s : ByteArray} (r : BL) (h : s.size < 65536) : rText (some (encText s ++ r)) = (s, some r) := by
  have h2 : (pow256 2 : Int) = 65536 := rfl
  have h1 : rNum 2 (some (encText s ++ r)) = ((s.size : Int), some (s.data.toList ++ r)) := by
    rw [encText, List.append_assoc]; exact rNum_enc _ (by omega) (by omega)
  simp only [rText, h1, Int.toNat_natCast, rTake_app' (len_list s), bsOf_of]
def RelFit (x : GRel) : Prop := (0 ≤ x.off ∧ x.off < 4294967296) ∧ (0 ≤ x.kind ∧ x.kind < 256) ∧ x.name.size < 65536 ∧ (0 ≤ x.add ∧ x.add < 4294967296)
def NoteFit (x : GNote) : Prop := (0 ≤ x.kind ∧ x.kind < 256) ∧ (0 ≤ x.n ∧ x.n < 4294967296) ∧ (0 ≤ x.m ∧ x.m < 4294967296)
def SymFit (s : GSym) : Prop := s.name.size < 65536 ∧ (0 ≤ s.bind ∧ s.bind < 256) ∧ (0 ≤ s.kind ∧ s.kind < 256) ∧ (0 ≤ s.size ∧ s.size < 4294967296) ∧ s.bytes.size < 65536 ∧ s.rels.length < 65536 ∧ (∀ x ∈ s.rels, RelFit x) ∧ s.notes.length < 256 ∧ (∀ x ∈ s.notes, NoteFit x)
def ObjFit (o : GObj) : Prop := o.name.size < 65536 ∧ o.syms.length < 65536 ∧ ∀ s ∈ o.syms, SymFit s
theorem p1 : (pow256 1 : Int) = 256 := rfl
theorem p2 : (pow256 2 : Int) = 65536 := rfl
theorem p4 : (pow256 4 : Int) = 4294967296 := rfl
theorem rRel_enc {x : GRel} (r : BL) (h : RelFit x) : rRel (some (encRel x ++ r)) = (x, some r) := by
  obtain ⟨h1, h2, h3, h4⟩ := h
  unfold rRel encRel
  simp only [List.append_assoc, rNum_enc _ h1.1 (by rw [p4]; exact h1.2), rNum_enc _ h2.1 (by rw [p1]; exact h2.2), rText_enc _ h3, rNum_enc _ h4.1 (by rw [p4]; exact h4.2)]
theorem rNote_enc {x : GNote} (r : BL) (h : NoteFit x) : rNote (some (encNote x ++ r)) = (x, some r) := by
  obtain ⟨h1, h2, h3⟩ := h
  unfold rNote encNote
  simp only [List.append_assoc, rNum_enc _ h1.1 (by rw [p1]; exact h1.2), rNum_enc _ h2.1 (by rw [p4]; exact h2.2), rNum_enc _ h3.1 (by rw [p4]; exact h3.2)]
theorem rMany_enc {α : Type} {f : RS → α × RS} {enc : α → BL} : ∀ (l : List α) (r : BL), (∀ x ∈ l, ∀ r, f (some (enc x ++ r)) = (x, some r)) → rMany f l.length (some (l.flatMap enc ++ r)) = (l, some r)
  | [], r, _ => by simp [rMany]
  | x :: l, r, h => by
    have ih := rMany_enc l r fun y hy => h y (List.mem_cons_of_mem _ hy)
    simp only [List.length_cons, List.flatMap_cons, List.append_assoc, rMany, h x (List.mem_cons_self ..), ih]
theorem rSym_enc {s : GSym} (r : BL) (h : SymFit s) : rSym (some (encSym s ++ r)) = (s, some r) := by
  obtain ⟨h1, h2, h3, h4, h5, h6, h7, h8, h9⟩ := h
  unfold rSym encSym
  simp only [List.append_assoc, rText_enc _ h1, rNum_enc _ h2.1 (by rw [p1]; exact h2.2), rNum_enc _ h3.1 (by rw [p1]; exact h3.2), rNum_enc _ h4.1 (by rw [p4]; exact h4.2), rText_enc _ h5, rNum_enc (n := 2) (v := (s.rels.length : Int)) _ (by omega) (by rw [p2]; omega),
    rNum_enc (n := 1) (v := (s.notes.length : Int)) _ (by omega) (by rw [p1]; omega), Int.toNat_natCast, rMany_enc s.rels _ (fun x hx r => rRel_enc r (h7 x hx)), rMany_enc s.notes _ (fun x hx r => rNote_enc r (h9 x hx))]
theorem rObj_enc {o : GObj} (h : ObjFit o) : rObj (encObj o) = (magicB, o, some []) := by
  obtain ⟨h1, h2, h3⟩ := h
  have hm : ∀ r, rTake 4 (some (magicB ++ r)) = (magicB, some r) := fun r => rTake_app' rfl
  have hs := rMany_enc o.syms [] (fun x hx r => rSym_enc r (h3 x hx))
  rw [List.append_nil] at hs
  unfold rObj encObj
  simp only [List.append_assoc, hm, rText_enc _ h1, rNum_enc (n := 2) (v := (o.syms.length : Int)) _ (by omega) (by rw [p2]; omega), Int.toNat_natCast, hs]
/-! ### of what was read the bytes are those that it was read of -/
theorem rTake_some {n : Nat} {st : RS} {l r : BL} (h : rTake n st = (l, some r)) : st = some (l ++ r) ∧ l.length = n := by
  cases st with
  | none => simp [rTake] at h
  | some q =>
    unfold rTake at h
    simp only [] at h
    split at h
    · cases h; rename_i hn; exact ⟨by simp, by simp; omega⟩
    · cases h
theorem rNum_some {n : Nat} {st : RS} {v : Int} {r : BL} (h : rNum n st = (v, some r)) : st = some (leB n v ++ r) ∧ 0 ≤ v ∧ v < pow256 n := by
  have h2 := (Prod.mk.inj h).2
  have h1 := (Prod.mk.inj h).1
  obtain ⟨hs, hl⟩ := rTake_some (n := n) (st := st) (l := (rTake n st).1) (r := r) (by rw [← h2])
  have hb := leV_bd (rTake n st).1
  rw [hl] at hb
  rw [← h1]
  refine ⟨?_, hb⟩
  have := leB_leV (rTake n st).1
  rw [hl] at this
  rw [this]; exact hs
theorem rText_some {st : RS} {s : ByteArray} {r : BL} (h : rText st = (s, some r)) : st = some (encText s ++ r) ∧ s.size < 65536 := by
  have h2 := (Prod.mk.inj h).2
  have h1 := (Prod.mk.inj h).1
  obtain ⟨hs, hl⟩ := rTake_some (n := (rNum 2 st).1.toNat) (st := (rNum 2 st).2) (l := (rTake (rNum 2 st).1.toNat (rNum 2 st).2).1) (r := r) (by rw [← h2])
  obtain ⟨ht, h0, h3⟩ := rNum_some (n := 2) (st := st) (v := (rNum 2 st).1) (r := (rTake (rNum 2 st).1.toNat (rNum 2 st).2).1 ++ r) (by rw [← hs])
  rw [p2] at h3
  have hz : s.size = (rNum 2 st).1.toNat := by rw [← h1, bsOf_size, hl]
  refine ⟨?_, by omega⟩
  rw [ht, encText, List.append_assoc]
  congr 2
  · rw [hz]; congr 1; omega
  · rw [← h1, bsOf_list]
theorem rRel_some {st : RS} {x : GRel} {r : BL} (h : rRel st = (x, some r)) : st = some (encRel x ++ r) ∧ RelFit x := by
  obtain ⟨e1, e2⟩ := Prod.mk.inj h
  generalize ha : rNum 4 st = a at e1 e2
  obtain ⟨a1, a2⟩ := a
  generalize hb : rNum 1 a2 = b at e1 e2
  obtain ⟨b1, b2⟩ := b
  generalize hc : rText b2 = c at e1 e2
  obtain ⟨c1, c2⟩ := c
  generalize hd : rNum 4 c2 = d at e1 e2
  obtain ⟨d1, d2⟩ := d
  simp only [] at e1 e2
  subst e2; subst e1
  obtain ⟨rfl, k4⟩ := rNum_some hd
  obtain ⟨rfl, k3⟩ := rText_some hc
  obtain ⟨rfl, k2⟩ := rNum_some hb
  obtain ⟨rfl, k1⟩ := rNum_some ha
  rw [p4] at k4 k1; rw [p1] at k2
  exact ⟨by simp only [encRel, List.append_assoc], k1, k2, k3, k4⟩
theorem rNote_some {st : RS} {x : GNote} {r : BL} (h : rNote st = (x, some r)) : st = some (encNote x ++ r) ∧ NoteFit x := by
  obtain ⟨e1, e2⟩ := Prod.mk.inj h
  generalize ha : rNum 1 st = a at e1 e2
  obtain ⟨a1, a2⟩ := a
  generalize hb : rNum 4 a2 = b at e1 e2
  obtain ⟨b1, b2⟩ := b
  generalize hd : rNum 4 b2 = d at e1 e2
  obtain ⟨d1, d2⟩ := d
  simp only [] at e1 e2
  subst e2; subst e1
  obtain ⟨rfl, k4⟩ := rNum_some hd
  obtain ⟨rfl, k2⟩ := rNum_some hb
  obtain ⟨rfl, k1⟩ := rNum_some ha
  rw [p4] at k4 k2; rw [p1] at k1
  exact ⟨by simp only [encNote, List.append_assoc], k1, k2, k4⟩
theorem rMany_some {α : Type} {f : RS → α × RS} {enc : α → BL} {Fit : α → Prop} (hf : ∀ st x r, f st = (x, some r) → st = some (enc x ++ r) ∧ Fit x) : ∀ {n : Nat} {st : RS} {l : List α} {r : BL}, rMany f n st = (l, some r) → st = some (l.flatMap enc ++ r) ∧ l.length = n ∧ ∀ x ∈ l, Fit x
  | 0, st, l, r, h => by
    simp only [rMany] at h
    obtain ⟨rfl, rfl⟩ := Prod.mk.inj h
    exact ⟨by simp, rfl, fun x hx => by cases hx⟩
  | n + 1, none, l, r, h => by simp [rMany] at h
  | n + 1, some q, l, r, h => by
    simp only [rMany] at h
    generalize ha : f (some q) = a at h
    obtain ⟨x, st⟩ := a
    simp only [] at h
    generalize hb : rMany f n st = b at h
    obtain ⟨l', st'⟩ := b
    obtain ⟨rfl, rfl⟩ := Prod.mk.inj h
    obtain ⟨rfl, k2, k3⟩ := rMany_some hf hb
    obtain ⟨k4, k5⟩ := hf _ _ _ ha
    refine ⟨by rw [k4]; simp, by simp [k2], fun y hy => ?_⟩
    rcases List.mem_cons.1 hy with rfl | hy
    · exact k5
    · exact k3 y hy
theorem rSym_some {st : RS} {x : GSym} {r : BL} (h : rSym st = (x, some r)) : st = some (encSym x ++ r) ∧ SymFit x := by
  obtain ⟨e1, e2⟩ := Prod.mk.inj h
  generalize ha : rText st = a at e1 e2
  obtain ⟨a1, a2⟩ := a
  generalize hb : rNum 1 a2 = b at e1 e2
  obtain ⟨b1, b2⟩ := b
  generalize hc : rNum 1 b2 = c at e1 e2
  obtain ⟨c1, c2⟩ := c
  generalize hd : rNum 4 c2 = d at e1 e2
  obtain ⟨d1, d2⟩ := d
  generalize he : rText d2 = e at e1 e2
  obtain ⟨f1, f2⟩ := e
  generalize hn : rNum 2 f2 = n at e1 e2
  obtain ⟨n1, n2⟩ := n
  simp only [] at e1 e2
  generalize hr : rMany rRel n1.toNat n2 = rr at e1 e2
  obtain ⟨r1, r2⟩ := rr
  generalize hk : rNum 1 r2 = k at e1 e2
  obtain ⟨k1, k2⟩ := k
  simp only [] at e1 e2
  generalize ht : rMany rNote k1.toNat k2 = t at e1 e2
  obtain ⟨t1, t2⟩ := t
  simp only [] at e1 e2
  subst e2; subst e1
  obtain ⟨rfl, q1, q2⟩ := rMany_some (fun _ _ _ => rNote_some) ht
  obtain ⟨rfl, q3⟩ := rNum_some hk
  obtain ⟨rfl, q4, q5⟩ := rMany_some (fun _ _ _ => rRel_some) hr
  obtain ⟨rfl, q6⟩ := rNum_some hn
  obtain ⟨rfl, q7⟩ := rText_some he
  obtain ⟨rfl, q8⟩ := rNum_some hd
  obtain ⟨rfl, q9⟩ := rNum_some hc
  obtain ⟨rfl, q10⟩ := rNum_some hb
  obtain ⟨rfl, q11⟩ := rText_some ha
  rw [p1] at q3 q9 q10; rw [p2] at q6; rw [p4] at q8
  have m1 : (t1.length : Int) = k1 := by omega
  have m2 : (r1.length : Int) = n1 := by omega
  exact ⟨by simp only [encSym, List.append_assoc, m1, m2], q11, q10, q9, q8, q7, by simp only []; omega, q5, by simp only []; omega, q2⟩
theorem getB_some {s : BL} {o : GObj} (h : getB s = some o) : encObj o = s ∧ ObjFit o ∧ mayP o = true := by
  unfold getB at h
  split at h
  · rename_i hc
    cases h
    obtain ⟨h1, h2, h3⟩ := hc
    refine ⟨?_, ?_, h3⟩
    all_goals
      unfold rObj at h1 h2 ⊢
      simp only [] at h1 h2 ⊢
      generalize ha : rTake 4 (some s) = a at h1 h2 ⊢
      obtain ⟨a1, a2⟩ := a
      generalize hb : rText a2 = b at h1 ⊢
      obtain ⟨b1, b2⟩ := b
      generalize hn : rNum 2 b2 = n at h1 ⊢
      obtain ⟨n1, n2⟩ := n
      simp only [] at h1 h2 ⊢
      generalize hr : rMany rSym n1.toNat n2 = rr at h1 ⊢
      obtain ⟨r1, r2⟩ := rr
      simp only [] at h1 h2 ⊢
      subst h1; subst h2
      obtain ⟨rfl, q1, q2⟩ := rMany_some (fun _ _ _ => rSym_some) hr
      obtain ⟨rfl, q3⟩ := rNum_some hn
      obtain ⟨rfl, q4⟩ := rText_some hb
      obtain ⟨q5, -⟩ := rTake_some ha
      rw [p2] at q3
      have m1 : (r1.length : Int) = n1 := by omega
    · rw [Option.some.inj q5]; simp [encObj, m1]
    · exact ⟨q4, by simp only []; omega, q2⟩
  · cases h
theorem getB_enc {o : GObj} (h : ObjFit o) (hm : mayP o = true) : getB (encObj o) = some o := by
  unfold getB
  rw [rObj_enc h]
  simp [hm]
theorem encObj_inj {o p : GObj} (ho : ObjFit o) (hp : ObjFit p) (h : encObj o = encObj p) : o = p := by
  have h1 := rObj_enc ho
  rw [h, rObj_enc hp] at h1
  exact ((Prod.mk.inj (Prod.mk.inj h1).2).1).symm
theorem pow256_mono : ∀ {n m : Nat}, n ≤ m → pow256 n ≤ pow256 m
  | 0, m, _ => by have := pow256_pos m; simp only [pow256]; omega
  | n + 1, m + 1, h => by have := pow256_mono (n := n) (m := m) (by omega); simp only [pow256]; omega
theorem rNum_bd (n : Nat) (st : RS) : 0 ≤ (rNum n st).1 ∧ (rNum n st).1 < pow256 n := by
  have h := leV_bd (rTake n st).1
  have hl : (rTake n st).1.length ≤ n := by
    cases st with
    | none => simp [rTake]
    | some r => unfold rTake; simp only []; split <;> simp; omega
  have := pow256_mono hl
  exact ⟨h.1, Int.lt_of_lt_of_le h.2 this⟩
theorem rText_bd (st : RS) : (rText st).1.size ≤ 65535 := by
  have h := rNum_bd 2 st
  rw [p2] at h
  unfold rText
  rw [bsOf_size]
  cases hs : (rNum 2 st).2 with
  | none => simp [rTake]
  | some r => unfold rTake; simp only []; split <;> simp; omega
theorem rTake_len (n : Nat) (st : RS) : (rTake n st).1.length ≤ n := by
  cases st with
  | none => simp [rTake]
  | some r => unfold rTake; simp only []; split <;> simp; omega
end Go.Proofs.YtdjgkmpjhpnkeaaGreatDoor
namespace Go.Proofs.YtdjgkmpjhpnkeaaGreatDoor
open Go.RowKit
variable {P : Program}
/-- block g holds just these bytes -/
def ByteRow (w : World) (g : Nat) (l : BL) : Prop := ∃ T, w.heap[g]? = some (.cells (Lib.byteCells l).toArray T (0, 0))
/-- bytes laid over others -/
def putB (b s : BL) (o : Nat) : BL := b.take o ++ s ++ b.drop (o + s.length)
theorem putB_length {b s : BL} {o : Nat} (h : o + s.length ≤ b.length) : (putB b s o).length = b.length := by
  simp only [putB, List.length_append, List.length_take, List.length_drop]; omega
theorem byteCells_take (l : BL) (n : Nat) : (Lib.byteCells l).take n = Lib.byteCells (l.take n) := by simp [Lib.byteCells]
theorem byteCells_drop (l : BL) (n : Nat) : (Lib.byteCells l).drop n = Lib.byteCells (l.drop n) := by simp [Lib.byteCells]
theorem byteCells_append (a b : BL) : Lib.byteCells a ++ Lib.byteCells b = Lib.byteCells (a ++ b) := by simp [Lib.byteCells]
theorem ByteRow.lt {w : World} {g : Nat} {l : BL} (h : ByteRow w g l) : g < w.heap.size := by
  obtain ⟨T, h⟩ := h; exact (Array.getElem?_eq_some_iff.1 h).1
theorem ByteRow.cell {w : World} {g : Nat} {l : BL} (h : ByteRow w g l) (j : Nat) (hj : j < l.length) : w.cell? ⟨g, j, none⟩ = some (.int .u8 (l[j].toNat : Int)) := by
  obtain ⟨T, h⟩ := h
  rw [cell_of_row _ _ _ _ _ _ h]
  simp [Lib.byteCells, hj]
theorem ByteRow.frozen {w : World} {g : Nat} {l : BL} (h : ByteRow w g l) (j : Nat) : w.frozen? ⟨g, j, none⟩ = false := by
  obtain ⟨T, h⟩ := h; exact Lib.frozen_of_heap h _
theorem ByteRow.congr {w w' : World} {g : Nat} {l : BL} (h : ByteRow w g l) (he : w'.heap[g]? = w.heap[g]?) : ByteRow w' g l := by
  obtain ⟨T, h⟩ := h; exact ⟨T, he.trans h⟩
theorem ByteRow.keep {S : Nat → Prop} {w w' : World} {g : Nat} {l : BL} (h : ByteRow w g l) (hk : KB S w w') (hs : ¬ S g) : ByteRow w' g l := h.congr (hk.block g h.lt hs)
theorem ByteRow.below {w w' : World} {g : Nat} {l : BL} (h : ByteRow w g l) (hk : Below w.heap.size w w') : ByteRow w' g l := h.congr (hk.block g h.lt)
/-- 'copy(b[o:o+len(s)], s)' -/
theorem ByteRow.copy {w : World} {g : Nat} {l : BL} (h : ByteRow w g l) (dT sT ty elem : TypeId) (o dLen dCap : Nat) (s : ByteArray)
    (hu : P.underlying dT = some (.slice elem)) (hs : (P.info? elem).map (·.size) = some 1) (hle : s.size ≤ dLen) (hfit : o + s.size ≤ l.length) :
    ∃ w', (Builtin.copy_ #[dT, sT] ty #[.slice (some ⟨g, o, none⟩) dLen dCap, .string s]).run P w = .ok (goInt s.size) w' ∧ ByteRow w' g (putB l s.data.toList o) ∧ KB (fun k => k = g) w w' := by
  obtain ⟨T, h⟩ := h
  have hsz : s.size = s.data.toList.length := by simp
  refine ⟨_, Lib.run_copy_row_string w dT sT ty elem g o dLen dCap s _ T hu hs h hle (by simpa [Lib.byteCells] using hfit), ⟨T, ?_⟩, ⟨rfl, rfl, rfl, by simp, fun k _ hk => setRow_other _ _ _ _ hk⟩⟩
  rw [setRow_heap _ _ _ _ _ _ h]
  rw [List.toList_toArray, byteCells_take, byteCells_drop, byteCells_append, byteCells_append, hsz]
  rfl
theorem run_bytes_of_row {w : World} {g : Nat} {l : BL} (h : ByteRow w g l) (src dst e : TypeId) (o n cap : Nat) (hs : P.underlying src = some (.slice e)) (he : P.underlying e = some (.int .u8)) (hd : P.underlying dst = some .string) (hn : o + n ≤ l.length) :
    (convert src dst (.slice (some ⟨g, o, none⟩) n cap)).run P w = .ok (.string (bsOf ((l.drop o).take n))) w := by
  have hl : ((l.drop o).take n).length = n := by rw [List.length_take, List.length_drop]; omega
  have hk := run_convert_bytes_back (P := P) w src dst e ⟨g, o, none⟩ cap ((l.drop o).take n) hs he hd (fun j hj => by
    rw [add_at, h.cell (o + j) (by omega)]
    simp)
  rw [hl] at hk
  exact hk
end Go.Proofs.YtdjgkmpjhpnkeaaGreatDoor
namespace Go.Proofs.YtdjgkmpjhpnkeaaGreatDoor
def fillV (x : GRel) (a : Int) : Int := (a + x.add) % 4294967296
def fillL : BL → List GRel → List Int → Option BL
  | b, x :: r, a :: q => if x.kind = 2 ∧ 65536 ≤ fillV x a then none else fillL (putB b (leB (widthOf x.kind).toNat (fillV x a)) x.off.toNat) r q
  | b, _, _ => some b
/-- a symbol's bytes, with zeros up to its size -/
def bytes0 (s : GSym) : BL := s.bytes.data.toList ++ List.replicate (s.size.toNat - s.bytes.size) 0
def fillR (s : GSym) (addrs : List Int) : ByteArray × Int :=
  if symOkP s = true then if addrs.length = s.rels.length then match fillL (bytes0 s) s.rels addrs with | none => (emptyB, 150) | some b => (bsOf b, 0) else (emptyB, 2) else (emptyB, 2)
theorem fillR_bad {s : GSym} {addrs : List Int} (h : symOkP s = false) : fillR s addrs = (emptyB, 2) := by simp [fillR, h]
theorem fillR_len {s : GSym} {addrs : List Int} (h : ¬ addrs.length = s.rels.length) : fillR s addrs = (emptyB, 2) := by
  unfold fillR; split <;> rfl
theorem fillR_yes {s : GSym} {addrs : List Int} (h : symOkP s = true) (h2 : addrs.length = s.rels.length) : fillR s addrs = match fillL (bytes0 s) s.rels addrs with | none => (emptyB, 150) | some b => (bsOf b, 0) := by
  simp [fillR, h, h2]
theorem bytes0_length {s : GSym} (h : (s.bytes.size : Int) ≤ s.size) : (bytes0 s).length = s.size.toNat := by
  have : s.bytes.data.toList.length = s.bytes.size := len_list _
  rw [bytes0, List.length_append, List.length_replicate, this]; omega
/-- how the loop goes on at place k -/
theorem fillL_step {s : GSym} {addrs : List Int} {k : Nat} {b : BL} {x : GRel} {a : Int} (hk : k < s.rels.length) (ha : k < addrs.length) (hx : s.rels[k] = x) (hy : addrs[k] = a) :
    fillL b (s.rels.drop k) (addrs.drop k) = if x.kind = 2 ∧ 65536 ≤ fillV x a then none else fillL (putB b (leB (widthOf x.kind).toNat (fillV x a)) x.off.toNat) (s.rels.drop (k + 1)) (addrs.drop (k + 1)) := by
  rw [List.drop_eq_getElem_cons hk, List.drop_eq_getElem_cons ha, hx, hy, fillL]
theorem fillL_end {s : GSym} {addrs : List Int} {k : Nat} {b : BL} (hk : ¬ k < s.rels.length) : fillL b (s.rels.drop k) (addrs.drop k) = some b := by
  rw [List.drop_of_length_le (by omega)]
  cases addrs.drop k <;> rfl
/-- what may be: its places lie within its bytes -/
theorem relsGo_each {n : Int} : ∀ {e : Int} {l : List GRel}, relsGo n e l = true → ∀ x ∈ l, (x.kind = 1 ∨ x.kind = 2) ∧ x.off ≤ 8192 ∧ x.off + widthOf x.kind ≤ n
  | _, [], _, x, hx => by cases hx
  | e, y :: r, h, x, hx => by
    simp only [relsGo, Bool.and_eq_true, decide_eq_true_eq] at h
    obtain ⟨⟨⟨⟨⟨h1, h2⟩, h3⟩, h4⟩, h5⟩, h6⟩ := h
    rcases List.mem_cons.1 hx with rfl | hx
    · refine ⟨?_, h3, h5⟩
      unfold widthOf at h1
      split at h1
      · exact .inl ‹_›
      · split at h1
        · exact .inr ‹_›
        · simp at h1
    · exact relsGo_each h6 x hx
theorem symOk_fits {s : GSym} (h : symOkP s = true) (hb : s.bytes.size < 4294967296) : (s.bytes.size : Int) ≤ s.size ∧ s.size ≤ 8192 ∧ 1 ≤ s.size ∧ s.rels.length ≤ 1024 ∧ ∀ x ∈ s.rels, (x.kind = 1 ∨ x.kind = 2) ∧ x.off ≤ 8192 ∧ x.off + widthOf x.kind ≤ s.bytes.size := by
  simp only [symOkP, Bool.and_eq_true, decide_eq_true_eq, sizedOk, sizedB, placesOk] at h
  obtain ⟨⟨⟨⟨⟨⟨⟨h1, h2⟩, h3⟩, h4⟩, h5⟩, h6⟩, h7⟩, h8⟩ := h
  have e : len32 s.bytes = s.bytes.size := by unfold len32; omega
  rw [e] at h5 h6
  exact ⟨h5.1.2, h5.1.1.2, h5.1.1.1, h6.2, fun x hx => relsGo_each h6.1 x hx⟩
end Go.Proofs.YtdjgkmpjhpnkeaaGreatDoor
namespace Go.Proofs.YtdjgkmpjhpnkeaaGreatDoor
open Go.RowKit
set_option maxHeartbeats 400000 in
theorem objSym_any (s : GSym) (vr vn : Value) (w : World) (h : SymIn w s vr vn) :
    Calls Tryz.prog 177 #[.agg #[.string s.name, .int .u8 s.bind, .int .u8 s.kind, .int .u32 s.size, .string s.bytes, vr, vn]] w fun e w' => e = .returned (.int .i64 (errB (symOkP s))) ∧ Below w.heap.size w w' := by
  have HM := Lib.hid (symMay_any s vr vn _ (SymIn.keep (alloc_old w (.cells #[.string s.name, .int .u8 s.bind, .int .u8 s.kind, .int .u32 s.size, .string s.bytes, vr, vn] 72)) h))
  obtain ⟨p1, q1, p2, q2, rfl, rfl⟩ := h.shape
  clear h
  obtain ⟨sn, sb, sk, ss, sy, sr, st⟩ := s
  simp only [] at HM ⊢
  go_enter Tryz.func177, Tryz.ntmps177
  go_wp2_with fail
  refine HM.out.mono ?_
  rintro e w1 ⟨rfl, hB⟩
  have HB : Hid (Below w.heap.size w w1) := (alloc_old w _).trans (hB.mono (by simp))
  clear hB HM
  go_wp2_with (go_at_call 186; refine (told_any _ _).mono ?_; rintro e w1 ⟨rfl, rfl⟩)
  go_ret
  exact ⟨rfl, HB.out⟩
end Go.Proofs.YtdjgkmpjhpnkeaaGreatDoor
namespace Go.Proofs.YtdjgkmpjhpnkeaaGreatDoor
open Go.RowKit
theorem info_byte : (Tryz.prog.info? 5).map (fun i => (i.zero, i.size, i.bytes)) = some (some (.int .u8 0), 1, 1) := by kernel_rfl
set_option maxHeartbeats 400000 in
theorem wtext_any (b o : Nat) (l : BL) (cap : Nat) (w : World) (hc : ∀ j (hj : j < l.length), w.cell? ⟨b, o + j, none⟩ = some (.int .u8 (l[j].toNat : Int))) :
    Calls Tryz.prog 249 #[.slice (some ⟨b, o, none⟩) l.length cap] w fun e w' => e = .returned (.string (bsOf l)) ∧ w = w' := by
  have hk := run_convert_bytes_back (P := Tryz.prog) w 130 9 5 ⟨b, o, none⟩ cap l Tryz.underlying130 Tryz.underlying5 Tryz.underlying9 (fun j hj => by rw [add_at]; exact hc j hj)
  clear hc
  go_enter Tryz.func249, Tryz.ntmps249
  go_wp2
  go_ret
  exact ⟨rfl, rfl⟩
theorem leB_get {n : Nat} {v : Int} {j : Nat} (hn : n ≤ 4) (hj : j < (leB n v).length) : ((leB n v)[j].toNat : Int) = ([v % 256, v / 256 % 256, v / 65536 % 256, v / 16777216 % 256] : List Int).getD j 0 := by
  have hj' : j < n := by rw [leB_length] at hj; exact hj
  have b1 : (v / 256 % 256).toNat < 256 := by omega
  have b0 : (v % 256).toNat < 256 := by omega
  have b2 : (v / 256 / 256 % 256).toNat < 256 := by omega
  have b3 : (v / 256 / 256 / 256 % 256).toNat < 256 := by omega
  match n, hn, j, hj' with
  | 1, _, 0, _ => simp only [leB, List.getElem_cons_zero, u8_ofNat _ b0, List.getD_cons_zero]; omega
  | 2, _, 0, _ => simp only [leB, List.getElem_cons_zero, u8_ofNat _ b0, List.getD_cons_zero]; omega
  | 3, _, 0, _ => simp only [leB, List.getElem_cons_zero, u8_ofNat _ b0, List.getD_cons_zero]; omega
  | 4, _, 0, _ => simp only [leB, List.getElem_cons_zero, u8_ofNat _ b0, List.getD_cons_zero]; omega
  | 2, _, 1, _ => simp only [leB, List.getElem_cons_zero, List.getElem_cons_succ, u8_ofNat _ b1, List.getD_cons_zero, List.getD_cons_succ]; omega
  | 3, _, 1, _ => simp only [leB, List.getElem_cons_zero, List.getElem_cons_succ, u8_ofNat _ b1, List.getD_cons_zero, List.getD_cons_succ]; omega
  | 4, _, 1, _ => simp only [leB, List.getElem_cons_zero, List.getElem_cons_succ, u8_ofNat _ b1, List.getD_cons_zero, List.getD_cons_succ]; omega
  | 3, _, 2, _ => simp only [leB, List.getElem_cons_zero, List.getElem_cons_succ, u8_ofNat _ b2, List.getD_cons_zero, List.getD_cons_succ]; omega
  | 4, _, 2, _ => simp only [leB, List.getElem_cons_zero, List.getElem_cons_succ, u8_ofNat _ b2, List.getD_cons_zero, List.getD_cons_succ]; omega
  | 4, _, 3, _ => simp only [leB, List.getElem_cons_zero, List.getElem_cons_succ, u8_ofNat _ b3, List.getD_cons_zero, List.getD_cons_succ]; omega
theorem put_cells {w : World} {n : Nat} {v x0 x1 x2 x3 : Int} (hn : n ≤ 4) (h : ∀ j, j < n → ([x0, x1, x2, x3] : List Int).getD j 0 = ([v % 256, v / 256 % 256, v / 65536 % 256, v / 16777216 % 256] : List Int).getD j 0) (t : TypeId) :
    ∀ j (hj : j < (leB n v).length), (w.alloc (.cells #[.int .u8 x0, .int .u8 x1, .int .u8 x2, .int .u8 x3] t)).cell? ⟨w.heap.size, 0 + j, none⟩ = some (.int .u8 ((leB n v)[j].toNat : Int)) := by
  intro j hj
  rw [leB_get hn hj]
  rw [leB_length] at hj
  rw [← h j hj]
  have h4 : j = 0 ∨ j = 1 ∨ j = 2 ∨ j = 3 := by omega
  rcases h4 with rfl | rfl | rfl | rfl <;> simp [go_sem]
set_option maxHeartbeats 400000 in
set_option maxRecDepth 100000 in
theorem wput1 (v : Int) (w : World) (h0 : 0 ≤ v) (h1 : v < 256) : Calls Tryz.prog 181 #[.int .u32 v, .int .i64 1] w fun e w' => e = .returned (.tuple #[.string (bsOf (leB 1 v)), .int .i64 0]) ∧ Below w.heap.size w w' := by
  have hz : (v / 256 != 0) = false := by simp; omega
  go_enter Tryz.func181, Tryz.ntmps181
  go_wp2_with fail
  refine (wtext_any w.heap.size 0 (leB 1 v) 4 _ (put_cells (by omega) ?_ _)).mono ?_
  · intro j hj
    have h4 : j = 0 := by omega
    rcases h4 with rfl <;> (simp only [List.getD_cons_zero]; try omega)
  rintro e w' ⟨rfl, rfl⟩
  go_wp2
  go_ret2
  exact ⟨rfl, alloc_old w _⟩
set_option maxHeartbeats 400000 in
set_option maxRecDepth 100000 in
theorem wput2 (v : Int) (w : World) (h0 : 0 ≤ v) (h1 : v < 65536) : Calls Tryz.prog 181 #[.int .u32 v, .int .i64 2] w fun e w' => e = .returned (.tuple #[.string (bsOf (leB 2 v)), .int .i64 0]) ∧ Below w.heap.size w w' := by
  have hz : (v / 65536 != 0) = false := by simp; omega
  go_enter Tryz.func181, Tryz.ntmps181
  go_wp2_with fail
  refine (wtext_any w.heap.size 0 (leB 2 v) 4 _ (put_cells (by omega) ?_ _)).mono ?_
  · intro j hj
    have h4 : j = 0 ∨ j = 1 := by omega
    rcases h4 with rfl | rfl <;> (simp only [List.getD_cons_zero, List.getD_cons_succ]; try omega)
  rintro e w' ⟨rfl, rfl⟩
  go_wp2
  go_ret2
  exact ⟨rfl, alloc_old w _⟩
set_option maxHeartbeats 400000 in
set_option maxRecDepth 100000 in
theorem wput4 (v : Int) (w : World) (h0 : 0 ≤ v) (h1 : v < 4294967296) : Calls Tryz.prog 181 #[.int .u32 v, .int .i64 4] w fun e w' => e = .returned (.tuple #[.string (bsOf (leB 4 v)), .int .i64 0]) ∧ Below w.heap.size w w' := by
  go_enter Tryz.func181, Tryz.ntmps181
  go_wp2_with fail
  refine (wtext_any w.heap.size 0 (leB 4 v) 4 _ (put_cells (by omega) ?_ _)).mono ?_
  · intro j hj
    have h4 : j = 0 ∨ j = 1 ∨ j = 2 ∨ j = 3 := by omega
    rcases h4 with rfl | rfl | rfl | rfl <;> (simp only [List.getD_cons_zero, List.getD_cons_succ]; try omega)
  rintro e w' ⟨rfl, rfl⟩
  go_wp2
  go_ret2
  exact ⟨rfl, alloc_old w _⟩
theorem bsOf_app (a : BL) (s : ByteArray) : bsOf a ++ s = bsOf (a ++ s.data.toList) := by
  apply ByteArray.ext; simp [bsOf]
end Go.Proofs.YtdjgkmpjhpnkeaaGreatDoor
namespace Go.Proofs.YtdjgkmpjhpnkeaaGreatDoor
open Go.RowKit
/-- a filling under way: its box, its bytes -/
structure FillSt (w : World) (B fb gb : Nat) (s : GSym) (vr vn : Value) (l : BL) : Prop where
  bx : ∃ T, w.heap[fb]? = some (.cells #[.string s.name, .int .u8 s.bind, .int .u8 s.kind, .int .u32 s.size, .string s.bytes, vr, vn, .slice (some ⟨gb, 0, none⟩) l.length l.length] T (0, 0))
  row : ByteRow w gb l
  fle : B ≤ fb
  gle : B ≤ gb
  ne : fb ≠ gb
theorem madeBytes (n : Nat) : madeCells #[.int .u8 0] n = (Lib.byteCells (List.replicate n 0)).toArray := by
  apply Array.ext
  · simp [madeCells, Lib.byteCells]
  · intro i h1 h2
    simp [madeCells, Lib.byteCells, Nat.mod_one]
theorem byteRow_new (w1 : World) (l : BL) (T : TypeId) (o : Obj) : ByteRow ((w1.alloc (.cells (Lib.byteCells l).toArray T)).alloc o).drew w1.heap.size l :=
  ⟨T, by show ((w1.heap.push (.cells (Lib.byteCells l).toArray T)).push o)[w1.heap.size]? = _; simp [Array.getElem?_push]⟩
theorem box_new (w1 : World) (o o2 : Obj) : ((w1.alloc o2).alloc o).drew.heap[w1.heap.size + 1]? = some o := by
  show ((w1.heap.push o2).push o)[w1.heap.size + 1]? = _
  rw [show w1.heap.size + 1 = (w1.heap.push o2).size by simp, Array.getElem?_push_size]
theorem below_new2 (w1 : World) (o o2 : Obj) : Below w1.heap.size w1 ((w1.alloc o2).alloc o).drew := ((alloc_old w1 o2).trans ((alloc_old _ o).mono (by simp))).drew
theorem bytes_over {sy : ByteArray} {n : Nat} : putB (List.replicate n 0) sy.data.toList 0 = sy.data.toList ++ List.replicate (n - sy.size) 0 := by
  simp [putB, List.drop_replicate]
set_option maxHeartbeats 1000000 in
set_option maxRecDepth 100000 in
theorem begin15_any (s : GSym) (vr vn : Value) (w : World) (h : SymIn w s vr vn) (hb : s.bytes.size < 4294967296) :
    Calls Tryz.prog 279 #[.agg #[.string s.name, .int .u8 s.bind, .int .u8 s.kind, .int .u32 s.size, .string s.bytes, vr, vn], .string s.bytes] w fun e w' =>
      Below w.heap.size w w' ∧ ((symOkP s = false ∧ e = .returned (.tuple #[.pointer none, .int .i64 2])) ∨
        (symOkP s = true ∧ ∃ fb gb, e = .returned (.tuple #[.pointer (some ⟨fb, 0, none⟩), .int .i64 0]) ∧ FillSt w' w.heap.size fb gb s vr vn (bytes0 s))) := by
  have HM := Lib.hid (objSym_any s vr vn _ (SymIn.keep (alloc_old w (.cells #[.string s.name, .int .u8 s.bind, .int .u8 s.kind, .int .u32 s.size, .string s.bytes, vr, vn] 72)) h))
  obtain ⟨p1, q1, p2, q2, rfl, rfl⟩ := h.shape
  cases hs : symOkP s with
  | false =>
    rw [hs] at HM
    clear hs h
    obtain ⟨sn, sb, sk, ss, sy, sr, st⟩ := s
    simp only [] at HM ⊢
    go_enter Tryz.func279, Tryz.ntmps279
    go_wp2_with fail
    refine HM.out.mono ?_
    rintro e w1 ⟨rfl, hB⟩
    clear HM
    go_wp2
    go_ret2
    exact ⟨(alloc_old w _).trans (hB.mono (by simp)), .inl ⟨by simp, rfl⟩⟩
  | true =>
    rw [hs] at HM
    obtain ⟨f1, f2, f3, f4, f5⟩ := symOk_fits hs hb
    have HL := Lib.hid (bytes0_length f1)
    clear f4 f5 hs h
    obtain ⟨n, hn⟩ : ∃ n : Nat, s.size = n := ⟨s.size.toNat, by omega⟩
    have HZ : Hid (bytes0 s = s.bytes.data.toList ++ List.replicate (n - s.bytes.size) 0) := by unfold bytes0; rw [hn]; rfl
    generalize bytes0 s = bz at HZ HL ⊢
    obtain ⟨sn, sb, sk, ss, sy, sr, st⟩ := s
    simp only [] at hn f1 f2 f3 HM HZ HL ⊢
    subst hn
    have hmk : ∀ w : World, (Instr.makeSlice 130 (.int .u32 (n : Int)) (.int .u32 (n : Int))).run Tryz.prog w = .ok (.slice (some ⟨w.heap.size, 0, none⟩) n n) (w.alloc (.cells (madeCells #[.int .u8 0] n) 5)) := fun w =>
      run_make_row' 130 5 (.int .u8 0) 1 Tryz.underlying130 info_byte rfl .u32 .u32 n (by omega) (by omega) w
    go_enter Tryz.func279, Tryz.ntmps279
    go_wp2_with fail
    refine HM.out.mono ?_
    rintro e w1 ⟨rfl, hB⟩
    clear HM
    obtain ⟨hc, hf⟩ := bcell hB
    have hz : w.heap.size < w1.heap.size := by have := hB.size; simp at this; omega
    have HB : Hid (Below w.heap.size w w1) := (alloc_old w _).trans (hB.mono (by simp))
    clear hB
    go_wp2
    go_region
    have hbr := byteRow_new w1 (List.replicate n 0) 5 (.cells #[.string sn, .int .u8 sb, .int .u8 sk, .int .u32 (n : Int), .string sy, .slice p1 sr.length q1, .slice p2 st.length q2, .slice (some ⟨w1.heap.size, 0, none⟩) n n] 372)
    rw [← madeBytes] at hbr
    obtain ⟨W, hrun, hrow, hkb⟩ := hbr.copy 130 9 3 5 0 n n sy Tryz.underlying130 (by kernel_rfl) (by omega) (by simp; omega)
    have HR := Lib.hid hrow; clear hrow hbr
    have HK := Lib.hid hkb; clear hkb
    go_wp2
    go_ret2
    have hz2 : (((w1.alloc (.cells (madeCells #[.int .u8 0] n) 5)).alloc (.cells #[.string sn, .int .u8 sb, .int .u8 sk, .int .u32 (n : Int), .string sy, .slice p1 sr.length q1, .slice p2 st.length q2, .slice (some ⟨w1.heap.size, 0, none⟩) n n] 372)).drew).heap.size = w1.heap.size + 2 := by simp [World.drew]
    refine ⟨HB.out.trans (((below_new2 w1 _ _).trans (HK.out.below (by rw [hz2]; omega) (fun k hk => by omega))).mono HB.out.size), .inr ⟨trivial, w1.heap.size + 1, w1.heap.size, rfl, ?_⟩⟩
    have hrow := HR.out
    rw [bytes_over, ← HZ.out] at hrow
    have hll : bz.length = n := by have := HL.out; simpa using this
    refine ⟨⟨372, ?_⟩, hrow, by omega, by omega, by omega⟩
    rw [HK.out.block _ (by rw [hz2]; omega) (by omega), box_new, hll]
theorem FillSt.fbox {w : World} {B fb gb : Nat} {s : GSym} {vr vn : Value} {l : BL} (h : FillSt w B fb gb s vr vn l) :
    fb < w.heap.size ∧ w.cell? ⟨fb, 5, none⟩ = some vr ∧ w.cell? ⟨fb, 7, none⟩ = some (.slice (some ⟨gb, 0, none⟩) l.length l.length) ∧ (∀ j, w.frozen? ⟨fb, j, none⟩ = false) := by
  obtain ⟨T, hb⟩ := h.bx
  exact ⟨(Array.getElem?_eq_some_iff.1 hb).1, Lib.cell_of_heap hb 5, Lib.cell_of_heap hb 7, fun j => Lib.frozen_of_heap hb _⟩
theorem FillSt.keep {w w' : World} {B fb gb : Nat} {s : GSym} {vr vn : Value} {l : BL} (h : FillSt w B fb gb s vr vn l) (hb : Below w.heap.size w w') : FillSt w' B fb gb s vr vn l := by
  obtain ⟨T, hx⟩ := h.bx
  exact ⟨⟨T, (hb.block _ (Array.getElem?_eq_some_iff.1 hx).1).trans hx⟩, h.row.below hb, h.fle, h.gle, h.ne⟩
set_option maxHeartbeats 1000000 in
set_option maxRecDepth 100000 in
theorem at15_any (B fb gb : Nat) (s : GSym) (vr vn : Value) (l : BL) (o : Nat) (kd : Int) (nm : ByteArray) (ad : Int) (wd : Nat) (w : World) (h : FillSt w B fb gb s vr vn l) (hk : (kd = 1 ∧ wd = 4) ∨ (kd = 2 ∧ wd = 2)) (hf : o + wd ≤ l.length) (hl : l.length ≤ 8192) :
    Calls Tryz.prog 311 #[.pointer (some ⟨fb, 0, none⟩), .agg #[.int .u32 (o : Int), .int .u8 kd, .string nm, .int .u32 ad]] w fun e w' =>
      e = .returned (.slice (some ⟨gb, o, none⟩) wd wd) ∧ Below w.heap.size w w' := by
  obtain ⟨hfb, hc5, hc7, hfz⟩ := h.fbox
  clear h hc5
  have hw4 : IntKind.u32.wrap ((o : Int) + 4) = ((o + 4 : Nat) : Int) := by rw [IntKind.wrap_u32]; omega
  have hw2 : IntKind.u32.wrap ((o : Int) + 2) = ((o + 2 : Nat) : Int) := by rw [IntKind.wrap_u32]; omega
  have h7 := cell_keep (alloc_old w (.cells #[.int .u32 (o : Int), .int .u8 kd, .string nm, .int .u32 ad] 211)) hfb hc7
  rcases hk with ⟨rfl, rfl⟩ | ⟨rfl, rfl⟩
  all_goals
    go_enter Tryz.func311, Tryz.ntmps311
    go_wp2
    go_region
    go_wp2_with fail
    go_ret
    exact ⟨by simp, (alloc_old w _).drew⟩
theorem FillSt.below {w : World} {B fb gb : Nat} {s : GSym} {vr vn : Value} {l : BL} {w' : World} {l' : BL} (h : FillSt w B fb gb s vr vn l) (hl : l'.length = l.length) (hk : KB (fun k => k = gb) w w') (hr : ByteRow w' gb l') :
    FillSt w' B fb gb s vr vn l' := by
  obtain ⟨T, hx⟩ := h.bx
  refine ⟨⟨T, ?_⟩, hr, h.fle, h.gle, h.ne⟩
  rw [hl, hk.block _ (Array.getElem?_eq_some_iff.1 hx).1 h.ne]
  exact hx
set_option maxHeartbeats 1000000 in
set_option maxRecDepth 100000 in
theorem put15_over (B fb gb : Nat) (s : GSym) (vr vn : Value) (l : BL) (o : Nat) (nm : ByteArray) (ad v : Int) (w : World) (h : FillSt w B fb gb s vr vn l) (hf : o + 2 ≤ l.length) (hl : l.length ≤ 8192) (hv : 65536 ≤ v) (hv2 : v ≤ 4294967295) :
    Calls Tryz.prog 280 #[.pointer (some ⟨fb, 0, none⟩), .agg #[.int .u32 (o : Int), .int .u8 2, .string nm, .int .u32 ad], .int .u32 v] w fun e w' =>
      e = .returned (.int .i64 150) ∧ Below w.heap.size w w' := by
  have HA := Lib.hid (at15_any B fb gb s vr vn l o 2 nm ad 2 _ (h.keep (alloc_old w (.cells #[.int .u32 (o : Int), .int .u8 2, .string nm, .int .u32 ad] 211))) (.inr ⟨rfl, rfl⟩) hf hl)
  clear h
  go_enter Tryz.func280, Tryz.ntmps280
  go_wp2_with fail
  refine HA.out.mono ?_
  rintro e w1 ⟨rfl, hB⟩
  clear HA
  have hd : (v / 65536 != 0) = true := by simp; omega
  go_wp2_with fail
  go_ret
  exact ⟨rfl, (alloc_old w _).trans (hB.mono (by simp))⟩
set_option maxHeartbeats 1000000 in
set_option maxRecDepth 100000 in
theorem put15_any (B fb gb : Nat) (s : GSym) (vr vn : Value) (l : BL) (o : Nat) (kd : Int) (nm : ByteArray) (ad : Int) (wd : Nat) (v : Int) (w : World) (h : FillSt w B fb gb s vr vn l) (hk : (kd = 1 ∧ wd = 4) ∨ (kd = 2 ∧ wd = 2 ∧ v < 65536)) (hf : o + wd ≤ l.length) (hl : l.length ≤ 8192) (hv : 0 ≤ v) (hv2 : v ≤ 4294967295) :
    Calls Tryz.prog 280 #[.pointer (some ⟨fb, 0, none⟩), .agg #[.int .u32 (o : Int), .int .u8 kd, .string nm, .int .u32 ad], .int .u32 v] w fun e w' =>
      e = .returned (.int .i64 0) ∧ Below B w w' ∧ FillSt w' B fb gb s vr vn (putB l (leB wd v) o) := by
  have HH := Lib.hid h
  have hkk : (kd = 1 ∧ wd = 4) ∨ (kd = 2 ∧ wd = 2) := by omega
  have HA := Lib.hid (at15_any B fb gb s vr vn l o kd nm ad wd _ (h.keep (alloc_old w (.cells #[.int .u32 (o : Int), .int .u8 kd, .string nm, .int .u32 ad] 211))) hkk hf hl)
  have hBw : B ≤ w.heap.size := by have := h.gle; have := h.row.lt; omega
  clear h hkk
  have HB0 : Hid (Below w.heap.size w (w.alloc (.cells #[.int .u32 (o : Int), .int .u8 kd, .string nm, .int .u32 ad] 211))) := alloc_old w _
  rcases hk with ⟨rfl, rfl⟩ | ⟨rfl, rfl, h16⟩
  · go_enter Tryz.func280, Tryz.ntmps280
    go_wp2_with fail
    refine HA.out.mono ?_
    rintro e w1 ⟨rfl, hB⟩
    clear HA
    have HB1 : Hid (Below w.heap.size w w1) := HB0.out.trans (hB.mono (by simp))
    clear hB HB0
    go_wp2_with (go_at_call 181; refine (wput4 v _ hv (by omega)).mono ?_; rintro e w2 ⟨rfl, hB2⟩; have HF := Lib.hid (HH.out.keep (HB1.out.trans (hB2.mono HB1.out.size))); have HB2 : Hid (Below w.heap.size w w2) := HB1.out.trans (hB2.mono HB1.out.size); clear hB2; obtain ⟨W, hrun, hrow, hkb⟩ := HF.out.row.copy 130 9 3 5 o 4 4 (bsOf (leB 4 v)) Tryz.underlying130 (by kernel_rfl) (by simp [bsOf_size, leB_length]) (by simp [bsOf_size, leB_length]; omega); have HR := Lib.hid hrow; have HK := Lib.hid hkb; clear hrow hkb)
    go_ret
    exact ⟨rfl, ((HB2.out.mono hBw).trans (HK.out.below (by have := HB2.out.size; omega) (fun k hk e => by have := HH.out.gle; omega))), HF.out.below (putB_length (by simp [leB_length]; omega)) HK.out HR.out⟩
  · have hd : (v / 65536 != 0) = false := by simp; omega
    go_enter Tryz.func280, Tryz.ntmps280
    go_wp2_with fail
    refine HA.out.mono ?_
    rintro e w1 ⟨rfl, hB⟩
    clear HA
    have HB1 : Hid (Below w.heap.size w w1) := HB0.out.trans (hB.mono (by simp))
    clear hB HB0
    go_wp2_with (go_at_call 181; refine (wput2 v _ hv h16).mono ?_; rintro e w2 ⟨rfl, hB2⟩; have HF := Lib.hid (HH.out.keep (HB1.out.trans (hB2.mono HB1.out.size))); have HB2 : Hid (Below w.heap.size w w2) := HB1.out.trans (hB2.mono HB1.out.size); clear hB2; obtain ⟨W, hrun, hrow, hkb⟩ := HF.out.row.copy 130 9 3 5 o 2 2 (bsOf (leB 2 v)) Tryz.underlying130 (by kernel_rfl) (by simp [bsOf_size, leB_length]) (by simp [bsOf_size, leB_length]; omega); have HR := Lib.hid hrow; have HK := Lib.hid hkb; clear hrow hkb)
    go_ret
    exact ⟨rfl, ((HB2.out.mono hBw).trans (HK.out.below (by have := HB2.out.size; omega) (fun k hk e => by have := HH.out.gle; omega))), HF.out.below (putB_length (by simp [leB_length]; omega)) HK.out HR.out⟩
end Go.Proofs.YtdjgkmpjhpnkeaaGreatDoor
