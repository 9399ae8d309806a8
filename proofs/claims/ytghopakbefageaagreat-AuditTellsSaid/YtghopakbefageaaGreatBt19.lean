/- Numbers, texts, places, notes, symbols and objects as bytes (layers 7 and 9), in plain words: what is put, what is read, and that the one is the other's inverse. No program in sight. The walks of word.text and word.Put. The walks of strings.Builder's copyCheck, WriteString and String at a builder. The lines of an image's code: they rise. No program in sight. Rows of uint32. No program in sight. A number divided by 256 again and again: its bytes. No program in sight. -/
import Derived.Test.YtghopakbefageaaGreatBt05
import Derived.Test.YtghopakbefageaaGreatRows
import Derived.Test.YtghopakbefageaaGreatBt07
import Derived.Laws.IdiomStrings
import Derived.Outline
import Derived.Lib.Hide
import Derived.Lib.Builder
import Derived.Lib.AppendStr
import Derived.Lib.UnsafeStr
import Derived.Laws.Externs
import Derived.RegionTactic
import Derived.OwnWalk
import Derived.Test.YtghopakbefageaaGreatBt16
namespace Go.Proofs.YtghopakbefageaaGreat
abbrev BL := List UInt8
def bsOf (l : BL) : ByteArray := ⟨l.toArray⟩
theorem bsOf_list (l : BL) : (bsOf l).data.toList = l := rfl
theorem bsOf_of (s : ByteArray) : bsOf s.data.toList = s := rfl
theorem bsOf_size (l : BL) : (bsOf l).size = l.length := by unfold bsOf ByteArray.size; simp
theorem len_list (s : ByteArray) : s.data.toList.length = s.size := by unfold ByteArray.size; simp
/-- a number's bytes, the lowest first -/
def leB : Nat → Int → BL
  | 0, _ => []
  | n + 1, v => UInt8.ofNat (v % 256).toNat :: leB n (v / 256)
def leV : BL → Int
  | [] => 0
  | b :: r => b.toNat + 256 * leV r
theorem leB_length : ∀ (n : Nat) (v : Int), (leB n v).length = n
  | 0, _ => rfl
  | n + 1, v => by simp [leB, leB_length n]
def pow256 : Nat → Int | 0 => 1 | n + 1 => 256 * pow256 n
theorem pow256_pos : ∀ n, 0 < pow256 n | 0 => by decide | n + 1 => by have := pow256_pos n; simp only [pow256]; omega
theorem leV_bd : ∀ l : BL, 0 ≤ leV l ∧ leV l < pow256 l.length
  | [] => by simp [leV, pow256]
  | b :: r => by
    have := leV_bd r
    have hb := b.toNat_lt
    simp only [leV, List.length_cons, pow256]
    omega
theorem u8_ofNat (k : Nat) (h : k < 256) : (UInt8.ofNat k).toNat = k := by simp; omega
theorem leV_leB : ∀ (n : Nat) (v : Int), 0 ≤ v → v < pow256 n → leV (leB n v) = v
  | 0, v, h0, h1 => by simp only [pow256] at h1; simp only [leB, leV]; omega
  | n + 1, v, h0, h1 => by
    simp only [pow256] at h1
    simp only [leB, leV, leV_leB n (v / 256) (by omega) (by omega), u8_ofNat (v % 256).toNat (by omega)]
    omega
theorem leB_leV : ∀ l : BL, leB l.length (leV l) = l
  | [] => rfl
  | b :: r => by
    have hb := b.toNat_lt
    have h1 : (b.toNat + 256 * leV r : Int) % 256 = b.toNat := by omega
    have h2 : (b.toNat + 256 * leV r : Int) / 256 = leV r := by omega
    simp only [leV, List.length_cons, leB, h1, h2, leB_leV r]
    simp
/-- a text's bytes -/
def encText (s : ByteArray) : BL := leB 2 s.size ++ s.data.toList
def encRel (x : GRel) : BL := leB 4 x.off ++ leB 1 x.kind ++ encText x.name ++ leB 4 x.add
def encNote (x : GNote) : BL := leB 1 x.kind ++ leB 4 x.n ++ leB 4 x.m
def encSym (s : GSym) : BL := encText s.name ++ leB 1 s.bind ++ leB 1 s.kind ++ leB 4 s.size ++ encText s.bytes ++ leB 2 s.rels.length ++ s.rels.flatMap encRel ++ leB 1 s.notes.length ++ s.notes.flatMap encNote
def magicB : BL := [65, 79, 66, 49]
def encObj (o : GObj) : BL := magicB ++ encText o.name ++ leB 2 o.syms.length ++ o.syms.flatMap encSym
/-- what is left to read; none: spoilt -/
abbrev RS := Option BL
def rTake (n : Nat) : RS → BL × RS
  | none => ([], none)
  | some r => if n ≤ r.length then (r.take n, some (r.drop n)) else ([], none)
def rNum (n : Nat) (st : RS) : Int × RS := (leV (rTake n st).1, (rTake n st).2)
def rText (st : RS) : ByteArray × RS := (bsOf (rTake (rNum 2 st).1.toNat (rNum 2 st).2).1, (rTake (rNum 2 st).1.toNat (rNum 2 st).2).2)
def rRel (st : RS) : GRel × RS :=
  let a := rNum 4 st
  let b := rNum 1 a.2
  let c := rText b.2
  let d := rNum 4 c.2
  (⟨a.1, b.1, c.1, d.1⟩, d.2)
def rNote (st : RS) : GNote × RS :=
  let a := rNum 1 st
  let b := rNum 4 a.2
  let c := rNum 4 b.2
  (⟨a.1, b.1, c.1⟩, c.2)
def rMany {α : Type} (f : RS → α × RS) : Nat → RS → List α × RS
  | 0, st => ([], st)
  | _ + 1, none => ([], none)
  | n + 1, some r => ((f (some r)).1 :: (rMany f n (f (some r)).2).1, (rMany f n (f (some r)).2).2)
def rSym (st : RS) : GSym × RS :=
  let a := rText st
  let b := rNum 1 a.2
  let c := rNum 1 b.2
  let d := rNum 4 c.2
  let e := rText d.2
  let n := rNum 2 e.2
  let rs := rMany rRel n.1.toNat n.2
  let k := rNum 1 rs.2
  let ts := rMany rNote k.1.toNat k.2
  (⟨a.1, b.1, c.1, d.1, e.1, rs.1, ts.1⟩, ts.2)
def rObj (s : BL) : BL × GObj × RS :=
  let m := rTake 4 (some s)
  let a := rText m.2
  let n := rNum 2 a.2
  let ss := rMany rSym n.1.toNat n.2
  (m.1, ⟨a.1, ss.1⟩, ss.2)
/-- the object of bytes -/
def getB (s : BL) : Option GObj := if (rObj s).2.2 = some [] ∧ (rObj s).1 = magicB ∧ mayP (rObj s).2.1 = true then some (rObj s).2.1 else none
/-! ### what was put is read -/
theorem rTake_app (l r : BL) : rTake l.length (some (l ++ r)) = (l, some r) := by simp [rTake]
theorem rTake_app' {n : Nat} {l r : BL} (h : l.length = n) : rTake n (some (l ++ r)) = (l, some r) := by subst h; exact rTake_app l r
theorem rNum_enc {n : Nat} {v : Int} (r : BL) (h0 : 0 ≤ v) (h1 : v < pow256 n) : rNum n (some (leB n v ++ r)) = (v, some r) := by
  simp only [rNum, rTake_app' (leB_length n v), leV_leB n v h0 h1]
theorem rText_enc {s : ByteArray} (r : BL) (h : s.size < 65536) : rText (some (encText s ++ r)) = (s, some r) := by
  have h2 : (pow256 2 : Int) = 65536 := rfl
  have h1 : rNum 2 (some (encText s ++ r)) = ((s.size : Int), some (s.data.toList ++ r)) := by
    rw [encText, List.append_assoc]; exact rNum_enc _ (by omega) (by omega)
  simp only [rText, h1, Int.toNat_natCast, rTake_app' (len_list s), bsOf_of]
def RelFit (x : GRel) : Prop := (0 ≤ x.off ∧ x.off < 4294967296) ∧ (0 ≤ x.kind ∧ x.kind < 256) ∧ x.name.size < 65536 ∧ (0 ≤ x.add ∧ x.add < 4294967296)
def NoteFit (x : GNote) : Prop := (0 ≤ x.kind ∧ x.kind < 256) ∧ (0 ≤ x.n ∧ x.n < 4294967296) ∧ (0 ≤ x.m ∧ x.m < 4294967296)
def SymFit (s : GSym) : Prop := s.name.size < 65536 ∧ (0 ≤ s.bind ∧ s.bind < 256) ∧ (0 ≤ s.kind ∧ s.kind < 256) ∧ (0 ≤ s.size ∧ s.size < 4294967296) ∧ s.bytes.size < 65536 ∧ s.rels.length < 65536 ∧ (∀ x ∈ s.rels, RelFit x) ∧ s.notes.length < 256 ∧ (∀ x ∈ s.notes, NoteFit x)
def ObjFit (o : GObj) : Prop := o.name.size < 65536 ∧ o.syms.length < 65536 ∧ ∀ s ∈ o.syms, SymFit s
theorem p1 : (pow256 1 : Int) = 256 := rfl
theorem p2 : (pow256 2 : Int) = 65536 := rfl
theorem p4 : (pow256 4 : Int) = 4294967296 := rfl
theorem rRel_enc {x : GRel} (r : BL) (h : RelFit x) : rRel (some (encRel x ++ r)) = (x, some r) := by
  obtain ⟨h1, h2, h3, h4⟩ := h
  unfold rRel encRel
  simp only [List.append_assoc, rNum_enc _ h1.1 (by rw [p4]; exact h1.2), rNum_enc _ h2.1 (by rw [p1]; exact h2.2), rText_enc _ h3, rNum_enc _ h4.1 (by rw [p4]; exact h4.2)]
theorem rNote_enc {x : GNote} (r : BL) (h : NoteFit x) : rNote (some (encNote x ++ r)) = (x, some r) := by
  obtain ⟨h1, h2, h3⟩ := h
  unfold rNote encNote
  simp only [List.append_assoc, rNum_enc _ h1.1 (by rw [p1]; exact h1.2), rNum_enc _ h2.1 (by rw [p4]; exact h2.2), rNum_enc _ h3.1 (by rw [p4]; exact h3.2)]
theorem rMany_enc {α : Type} {f : RS → α × RS} {enc : α → BL} : ∀ (l : List α) (r : BL), (∀ x ∈ l, ∀ r, f (some (enc x ++ r)) = (x, some r)) → rMany f l.length (some (l.flatMap enc ++ r)) = (l, some r)
  | [], r, _ => by simp [rMany]
  | x :: l, r, h => by
    have ih := rMany_enc l r fun y hy => h y (List.mem_cons_of_mem _ hy)
    simp only [List.length_cons, List.flatMap_cons, List.append_assoc, rMany, h x (List.mem_cons_self ..), ih]
theorem rSym_enc {s : GSym} (r : BL) (h : SymFit s) : rSym (some (encSym s ++ r)) = (s, some r) := by
  obtain ⟨h1, h2, h3, h4, h5, h6, h7, h8, h9⟩ := h
  unfold rSym encSym
  simp only [List.append_assoc, rText_enc _ h1, rNum_enc _ h2.1 (by rw [p1]; exact h2.2), rNum_enc _ h3.1 (by rw [p1]; exact h3.2), rNum_enc _ h4.1 (by rw [p4]; exact h4.2), rText_enc _ h5, rNum_enc (n := 2) (v := (s.rels.length : Int)) _ (by omega) (by rw [p2]; omega),
    rNum_enc (n := 1) (v := (s.notes.length : Int)) _ (by omega) (by rw [p1]; omega), Int.toNat_natCast, rMany_enc s.rels _ (fun x hx r => rRel_enc r (h7 x hx)), rMany_enc s.notes _ (fun x hx r => rNote_enc r (h9 x hx))]
theorem rObj_enc {o : GObj} (h : ObjFit o) : rObj (encObj o) = (magicB, o, some []) := by
  obtain ⟨h1, h2, h3⟩ := h
  have hm : ∀ r, rTake 4 (some (magicB ++ r)) = (magicB, some r) := fun r => rTake_app' rfl
  have hs := rMany_enc o.syms [] (fun x hx r => rSym_enc r (h3 x hx))
  rw [List.append_nil] at hs
  unfold rObj encObj
  simp only [List.append_assoc, hm, rText_enc _ h1, rNum_enc (n := 2) (v := (o.syms.length : Int)) _ (by omega) (by rw [p2]; omega), Int.toNat_natCast, hs]
/-! ### of what was read the bytes are those that it was read of -/
theorem rTake_some {n : Nat} {st : RS} {l r : BL} (h : rTake n st = (l, some r)) : st = some (l ++ r) ∧ l.length = n := by
  cases st with
  | none => simp [rTake] at h
  | some q =>
    unfold rTake at h
    simp only [] at h
    split at h
    · cases h; rename_i hn; exact ⟨by simp, by simp; omega⟩
    · cases h
theorem rNum_some {n : Nat} {st : RS} {v : Int} {r : BL} (h : rNum n st = (v, some r)) : st = some (leB n v ++ r) ∧ 0 ≤ v ∧ v < pow256 n := by
  have h2 := (Prod.mk.inj h).2
  have h1 := (Prod.mk.inj h).1
  obtain ⟨hs, hl⟩ := rTake_some (n := n) (st := st) (l := (rTake n st).1) (r := r) (by rw [← h2])
  have hb := leV_bd (rTake n st).1
  rw [hl] at hb
  rw [← h1]
  refine ⟨?_, hb⟩
  have := leB_leV (rTake n st).1
  rw [hl] at this
  rw [this]; exact hs
theorem rText_some {st : RS} {s : ByteArray} {r : BL} (h : rText st = (s, some r)) : st = some (encText s ++ r) ∧ s.size < 65536 := by
  have h2 := (Prod.mk.inj h).2
  have h1 := (Prod.mk.inj h).1
  obtain ⟨hs, hl⟩ := rTake_some (n := (rNum 2 st).1.toNat) (st := (rNum 2 st).2) (l := (rTake (rNum 2 st).1.toNat (rNum 2 st).2).1) (r := r) (by rw [← h2])
  obtain ⟨ht, h0, h3⟩ := rNum_some (n := 2) (st := st) (v := (rNum 2 st).1) (r := (rTake (rNum 2 st).1.toNat (rNum 2 st).2).1 ++ r) (by rw [← hs])
  rw [p2] at h3
  have hz : s.size = (rNum 2 st).1.toNat := by rw [← h1, bsOf_size, hl]
  refine ⟨?_, by omega⟩
  rw [ht, encText, List.append_assoc]
  congr 2
  · rw [hz]; congr 1; omega
  · rw [← h1, bsOf_list]
theorem rRel_some {st : RS} {x : GRel} {r : BL} (h : rRel st = (x, some r)) : st = some (encRel x ++ r) ∧ RelFit x := by
  obtain ⟨e1, e2⟩ := Prod.mk.inj h
  generalize ha : rNum 4 st = a at e1 e2
  obtain ⟨a1, a2⟩ := a
  generalize hb : rNum 1 a2 = b at e1 e2
  obtain ⟨b1, b2⟩ := b
  generalize hc : rText b2 = c at e1 e2
  obtain ⟨c1, c2⟩ := c
  generalize hd : rNum 4 c2 = d at e1 e2
  obtain ⟨d1, d2⟩ := d
  simp only [] at e1 e2
  subst e2; subst e1
  obtain ⟨rfl, k4⟩ := rNum_some hd
  obtain ⟨rfl, k3⟩ := rText_some hc
  obtain ⟨rfl, k2⟩ := rNum_some hb
  obtain ⟨rfl, k1⟩ := rNum_some ha
  rw [p4] at k4 k1; rw [p1] at k2
  exact ⟨by simp only [encRel, List.append_assoc], k1, k2, k3, k4⟩
theorem rNote_some {st : RS} {x : GNote} {r : BL} (h : rNote st = (x, some r)) : st = some (encNote x ++ r) ∧ NoteFit x := by
  obtain ⟨e1, e2⟩ := Prod.mk.inj h
  generalize ha : rNum 1 st = a at e1 e2
  obtain ⟨a1, a2⟩ := a
  generalize hb : rNum 4 a2 = b at e1 e2
  obtain ⟨b1, b2⟩ := b
  generalize hd : rNum 4 b2 = d at e1 e2
  obtain ⟨d1, d2⟩ := d
  simp only [] at e1 e2
  subst e2; subst e1
  obtain ⟨rfl, k4⟩ := rNum_some hd
  obtain ⟨rfl, k2⟩ := rNum_some hb
  obtain ⟨rfl, k1⟩ := rNum_some ha
  rw [p4] at k4 k2; rw [p1] at k1
  exact ⟨by simp only [encNote, List.append_assoc], k1, k2, k4⟩
theorem rMany_some {α : Type} {f : RS → α × RS} {enc : α → BL} {Fit : α → Prop} (hf : ∀ st x r, f st = (x, some r) → st = some (enc x ++ r) ∧ Fit x) : ∀ {n : Nat} {st : RS} {l : List α} {r : BL}, rMany f n st = (l, some r) → st = some (l.flatMap enc ++ r) ∧ l.length = n ∧ ∀ x ∈ l, Fit x
  | 0, st, l, r, h => by
    simp only [rMany] at h
    obtain ⟨rfl, rfl⟩ := Prod.mk.inj h
    exact ⟨by simp, rfl, fun x hx => by cases hx⟩
  | n + 1, none, l, r, h => by simp [rMany] at h
  | n + 1, some q, l, r, h => by
    simp only [rMany] at h
    generalize ha : f (some q) = a at h
    obtain ⟨x, st⟩ := a
    simp only [] at h
    generalize hb : rMany f n st = b at h
    obtain ⟨l', st'⟩ := b
    obtain ⟨rfl, rfl⟩ := Prod.mk.inj h
    obtain ⟨rfl, k2, k3⟩ := rMany_some hf hb
    obtain ⟨k4, k5⟩ := hf _ _ _ ha
    refine ⟨by rw [k4]; simp, by simp [k2], fun y hy => ?_⟩
    rcases List.mem_cons.1 hy with rfl | hy
    · exact k5
    · exact k3 y hy
theorem rSym_some {st : RS} {x : GSym} {r : BL} (h : rSym st = (x, some r)) : st = some (encSym x ++ r) ∧ SymFit x := by
  obtain ⟨e1, e2⟩ := Prod.mk.inj h
  generalize ha : rText st = a at e1 e2
  obtain ⟨a1, a2⟩ := a
  generalize hb : rNum 1 a2 = b at e1 e2
  obtain ⟨b1, b2⟩ := b
  generalize hc : rNum 1 b2 = c at e1 e2
  obtain ⟨c1, c2⟩ := c
  generalize hd : rNum 4 c2 = d at e1 e2
  obtain ⟨d1, d2⟩ := d
  generalize he : rText d2 = e at e1 e2
  obtain ⟨f1, f2⟩ := e
  generalize hn : rNum 2 f2 = n at e1 e2
  obtain ⟨n1, n2⟩ := n
  simp only [] at e1 e2
  generalize hr : rMany rRel n1.toNat n2 = rr at e1 e2
  obtain ⟨r1, r2⟩ := rr
  generalize hk : rNum 1 r2 = k at e1 e2
  obtain ⟨k1, k2⟩ := k
  simp only [] at e1 e2
  generalize ht : rMany rNote k1.toNat k2 = t at e1 e2
  obtain ⟨t1, t2⟩ := t
  simp only [] at e1 e2
  subst e2; subst e1
  obtain ⟨rfl, q1, q2⟩ := rMany_some (fun _ _ _ => rNote_some) ht
  obtain ⟨rfl, q3⟩ := rNum_some hk
  obtain ⟨rfl, q4, q5⟩ := rMany_some (fun _ _ _ => rRel_some) hr
  obtain ⟨rfl, q6⟩ := rNum_some hn
  obtain ⟨rfl, q7⟩ := rText_some he
  obtain ⟨rfl, q8⟩ := rNum_some hd
  obtain ⟨rfl, q9⟩ := rNum_some hc
  obtain ⟨rfl, q10⟩ := rNum_some hb
  obtain ⟨rfl, q11⟩ := rText_some ha
  rw [p1] at q3 q9 q10; rw [p2] at q6; rw [p4] at q8
  have m1 : (t1.length : Int) = k1 := by omega
  have m2 : (r1.length : Int) = n1 := by omega
  exact ⟨by simp only [encSym, List.append_assoc, m1, m2], q11, q10, q9, q8, q7, by simp only []; omega, q5, by simp only []; omega, q2⟩
theorem getB_some {s : BL} {o : GObj} (h : getB s = some o) : encObj o = s ∧ ObjFit o ∧ mayP o = true := by
  unfold getB at h
  split at h
  · rename_i hc
    cases h
    obtain ⟨h1, h2, h3⟩ := hc
    refine ⟨?_, ?_, h3⟩
    all_goals
      unfold rObj at h1 h2 ⊢
      simp only [] at h1 h2 ⊢
      generalize ha : rTake 4 (some s) = a at h1 h2 ⊢
      obtain ⟨a1, a2⟩ := a
      generalize hb : rText a2 = b at h1 ⊢
      obtain ⟨b1, b2⟩ := b
      generalize hn : rNum 2 b2 = n at h1 ⊢
      obtain ⟨n1, n2⟩ := n
      simp only [] at h1 h2 ⊢
      generalize hr : rMany rSym n1.toNat n2 = rr at h1 ⊢
      obtain ⟨r1, r2⟩ := rr
      simp only [] at h1 h2 ⊢
      subst h1; subst h2
      obtain ⟨rfl, q1, q2⟩ := rMany_some (fun _ _ _ => rSym_some) hr
      obtain ⟨rfl, q3⟩ := rNum_some hn
      obtain ⟨rfl, q4⟩ := rText_some hb
      obtain ⟨q5, -⟩ := rTake_some ha
      rw [p2] at q3
      have m1 : (r1.length : Int) = n1 := by omega
    · rw [Option.some.inj q5]; simp [encObj, m1]
    · exact ⟨q4, by simp only []; omega, q2⟩
  · cases h
theorem getB_enc {o : GObj} (h : ObjFit o) (hm : mayP o = true) : getB (encObj o) = some o := by
  unfold getB
  rw [rObj_enc h]
  simp [hm]
theorem encObj_inj {o p : GObj} (ho : ObjFit o) (hp : ObjFit p) (h : encObj o = encObj p) : o = p := by
  have h1 := rObj_enc ho
  rw [h, rObj_enc hp] at h1
  exact ((Prod.mk.inj (Prod.mk.inj h1).2).1).symm
theorem pow256_mono : ∀ {n m : Nat}, n ≤ m → pow256 n ≤ pow256 m
  | 0, m, _ => by have := pow256_pos m; simp only [pow256]; omega
  | n + 1, m + 1, h => by have := pow256_mono (n := n) (m := m) (by omega); simp only [pow256]; omega
theorem rNum_bd (n : Nat) (st : RS) : 0 ≤ (rNum n st).1 ∧ (rNum n st).1 < pow256 n := by
  have h := leV_bd (rTake n st).1
  have hl : (rTake n st).1.length ≤ n := by
    cases st with
    | none => simp [rTake]
    | some r => unfold rTake; simp only []; split <;> simp; omega
  have := pow256_mono hl
  exact ⟨h.1, Int.lt_of_lt_of_le h.2 this⟩
theorem rText_bd (st : RS) : (rText st).1.size ≤ 65535 := by
  have h := rNum_bd 2 st
  rw [p2] at h
  unfold rText
  rw [bsOf_size]
  cases hs : (rNum 2 st).2 with
  | none => simp [rTake]
  | some r => unfold rTake; simp only []; split <;> simp; omega
theorem rTake_len (n : Nat) (st : RS) : (rTake n st).1.length ≤ n := by
  cases st with
  | none => simp [rTake]
  | some r => unfold rTake; simp only []; split <;> simp; omega
end Go.Proofs.YtghopakbefageaaGreat
namespace Go.Proofs.YtghopakbefageaaGreat
open Go.RowKit
theorem info_byte : (Tryz.prog.info? 5).map (fun i => (i.zero, i.size, i.bytes)) = some (some (.int .u8 0), 1, 1) := by kernel_rfl
set_option maxHeartbeats 400000 in
theorem wtext_any (b o : Nat) (l : BL) (cap : Nat) (w : World) (hc : ∀ j (hj : j < l.length), w.cell? ⟨b, o + j, none⟩ = some (.int .u8 (l[j].toNat : Int))) :
    Calls Tryz.prog 102 #[.slice (some ⟨b, o, none⟩) l.length cap] w fun e w' => e = .returned (.string (bsOf l)) ∧ w = w' := by
  have hk := run_convert_bytes_back (P := Tryz.prog) w 31 9 5 ⟨b, o, none⟩ cap l Tryz.underlying31 Tryz.underlying5 Tryz.underlying9 (fun j hj => by rw [add_at]; exact hc j hj)
  clear hc
  go_enter Tryz.func102, Tryz.ntmps102
  go_wp2
  go_ret
  exact ⟨rfl, rfl⟩
theorem leB_get {n : Nat} {v : Int} {j : Nat} (hn : n ≤ 4) (hj : j < (leB n v).length) : ((leB n v)[j].toNat : Int) = ([v % 256, v / 256 % 256, v / 65536 % 256, v / 16777216 % 256] : List Int).getD j 0 := by
  have hj' : j < n := by rw [leB_length] at hj; exact hj
  have b1 : (v / 256 % 256).toNat < 256 := by omega
  have b0 : (v % 256).toNat < 256 := by omega
  have b2 : (v / 256 / 256 % 256).toNat < 256 := by omega
  have b3 : (v / 256 / 256 / 256 % 256).toNat < 256 := by omega
  match n, hn, j, hj' with
  | 1, _, 0, _ => simp only [leB, List.getElem_cons_zero, u8_ofNat _ b0, List.getD_cons_zero]; omega
  | 2, _, 0, _ => simp only [leB, List.getElem_cons_zero, u8_ofNat _ b0, List.getD_cons_zero]; omega
  | 3, _, 0, _ => simp only [leB, List.getElem_cons_zero, u8_ofNat _ b0, List.getD_cons_zero]; omega
  | 4, _, 0, _ => simp only [leB, List.getElem_cons_zero, u8_ofNat _ b0, List.getD_cons_zero]; omega
  | 2, _, 1, _ => simp only [leB, List.getElem_cons_zero, List.getElem_cons_succ, u8_ofNat _ b1, List.getD_cons_zero, List.getD_cons_succ]; omega
  | 3, _, 1, _ => simp only [leB, List.getElem_cons_zero, List.getElem_cons_succ, u8_ofNat _ b1, List.getD_cons_zero, List.getD_cons_succ]; omega
  | 4, _, 1, _ => simp only [leB, List.getElem_cons_zero, List.getElem_cons_succ, u8_ofNat _ b1, List.getD_cons_zero, List.getD_cons_succ]; omega
  | 3, _, 2, _ => simp only [leB, List.getElem_cons_zero, List.getElem_cons_succ, u8_ofNat _ b2, List.getD_cons_zero, List.getD_cons_succ]; omega
  | 4, _, 2, _ => simp only [leB, List.getElem_cons_zero, List.getElem_cons_succ, u8_ofNat _ b2, List.getD_cons_zero, List.getD_cons_succ]; omega
  | 4, _, 3, _ => simp only [leB, List.getElem_cons_zero, List.getElem_cons_succ, u8_ofNat _ b3, List.getD_cons_zero, List.getD_cons_succ]; omega
theorem put_cells {w : World} {n : Nat} {v x0 x1 x2 x3 : Int} (hn : n ≤ 4) (h : ∀ j, j < n → ([x0, x1, x2, x3] : List Int).getD j 0 = ([v % 256, v / 256 % 256, v / 65536 % 256, v / 16777216 % 256] : List Int).getD j 0) (t : TypeId) :
    ∀ j (hj : j < (leB n v).length), (w.alloc (.cells #[.int .u8 x0, .int .u8 x1, .int .u8 x2, .int .u8 x3] t)).cell? ⟨w.heap.size, 0 + j, none⟩ = some (.int .u8 ((leB n v)[j].toNat : Int)) := by
  intro j hj
  rw [leB_get hn hj]
  rw [leB_length] at hj
  rw [← h j hj]
  have h4 : j = 0 ∨ j = 1 ∨ j = 2 ∨ j = 3 := by omega
  rcases h4 with rfl | rfl | rfl | rfl <;> simp [go_sem]
set_option maxHeartbeats 400000 in
set_option maxRecDepth 100000 in
theorem wput1 (v : Int) (w : World) (h0 : 0 ≤ v) (h1 : v < 256) : Calls Tryz.prog 83 #[.int .u32 v, .int .i64 1] w fun e w' => e = .returned (.tuple #[.string (bsOf (leB 1 v)), .int .i64 0]) ∧ Below w.heap.size w w' := by
  have hz : (v / 256 != 0) = false := by simp; omega
  go_enter Tryz.func83, Tryz.ntmps83
  go_wp2_with fail
  refine (wtext_any w.heap.size 0 (leB 1 v) 4 _ (put_cells (by omega) ?_ _)).mono ?_
  · intro j hj
    have h4 : j = 0 := by omega
    rcases h4 with rfl <;> (simp only [List.getD_cons_zero]; try omega)
  rintro e w' ⟨rfl, rfl⟩
  go_wp2
  go_ret2
  exact ⟨rfl, alloc_old w _⟩
set_option maxHeartbeats 400000 in
set_option maxRecDepth 100000 in
theorem wput2 (v : Int) (w : World) (h0 : 0 ≤ v) (h1 : v < 65536) : Calls Tryz.prog 83 #[.int .u32 v, .int .i64 2] w fun e w' => e = .returned (.tuple #[.string (bsOf (leB 2 v)), .int .i64 0]) ∧ Below w.heap.size w w' := by
  have hz : (v / 65536 != 0) = false := by simp; omega
  go_enter Tryz.func83, Tryz.ntmps83
  go_wp2_with fail
  refine (wtext_any w.heap.size 0 (leB 2 v) 4 _ (put_cells (by omega) ?_ _)).mono ?_
  · intro j hj
    have h4 : j = 0 ∨ j = 1 := by omega
    rcases h4 with rfl | rfl <;> (simp only [List.getD_cons_zero, List.getD_cons_succ]; try omega)
  rintro e w' ⟨rfl, rfl⟩
  go_wp2
  go_ret2
  exact ⟨rfl, alloc_old w _⟩
set_option maxHeartbeats 400000 in
set_option maxRecDepth 100000 in
theorem wput4 (v : Int) (w : World) (h0 : 0 ≤ v) (h1 : v < 4294967296) : Calls Tryz.prog 83 #[.int .u32 v, .int .i64 4] w fun e w' => e = .returned (.tuple #[.string (bsOf (leB 4 v)), .int .i64 0]) ∧ Below w.heap.size w w' := by
  go_enter Tryz.func83, Tryz.ntmps83
  go_wp2_with fail
  refine (wtext_any w.heap.size 0 (leB 4 v) 4 _ (put_cells (by omega) ?_ _)).mono ?_
  · intro j hj
    have h4 : j = 0 ∨ j = 1 ∨ j = 2 ∨ j = 3 := by omega
    rcases h4 with rfl | rfl | rfl | rfl <;> (simp only [List.getD_cons_zero, List.getD_cons_succ]; try omega)
  rintro e w' ⟨rfl, rfl⟩
  go_wp2
  go_ret2
  exact ⟨rfl, alloc_old w _⟩
theorem bsOf_app (a : BL) (s : ByteArray) : bsOf a ++ s = bsOf (a ++ s.data.toList) := by
  apply ByteArray.ext; simp [bsOf]
end Go.Proofs.YtghopakbefageaaGreat
namespace Go.Proofs.YtghopakbefageaaGreat
open Go.RowKit
theorem size_builder : (Tryz.prog.info? 104).map (·.size) = some 2 := by kernel_rfl
theorem lies_builder : liesAt Tryz.prog Tryz.prog.depth 104 (2 / Tryz.prog.cellsOf 104) 0 104 1 = true := by kernel_rfl
abbrev WrAt (B b : Nat) (p : Value) (l : BL) (w : World) : Prop := Lib.BuilderAt 104 5 B b p (Lib.byteCells l) w
/-- a writer that holds these bytes -/
def IsWr (B b : Nat) (l : BL) (w : World) : Prop := WrAt B b (.pointer none) l w ∨ WrAt B b (.pointer (some ⟨b, 0, none⟩)) l w
/-- a block that is no row of bytes -/
def NB (w : World) (g : Nat) : Prop := ∀ cur fr, w.heap[g]? ≠ some (.cells cur 5 fr)
/-- all blocks but b and rows of bytes are as they were -/
structure KN (b : Nat) (w w' : World) : Prop where
  size : w.heap.size ≤ w'.heap.size
  block : ∀ g, g < w.heap.size → g ≠ b → NB w g → w'.heap[g]? = w.heap[g]?
theorem KN.refl (b : Nat) (w : World) : KN b w w := ⟨Nat.le_refl _, fun _ _ _ _ => rfl⟩
theorem KN.trans {b : Nat} {w w' w'' : World} (h : KN b w w') (k : KN b w' w'') : KN b w w'' :=
  ⟨Nat.le_trans h.size k.size, fun g hg hb hn => by
    have h1 := h.block g hg hb hn
    rw [k.block g (Nat.lt_of_lt_of_le hg h.size) hb (fun cur fr => by rw [h1]; exact hn cur fr), h1]⟩
theorem KN.of_below {b : Nat} {w w' : World} (h : Below w.heap.size w w') : KN b w w' := ⟨h.size, fun g hg _ _ => h.block g hg⟩
/-- a block of this type with these cells -/
def BX (b : Nat) (w : World) (g : Nat) (t : TypeId) (cs : Array Value) : Prop := g ≠ b ∧ t ≠ 5 ∧ w.heap[g]? = some (.cells cs t (0, 0))
theorem BX.lt {b : Nat} {w : World} {g : Nat} {t : TypeId} {cs : Array Value} (h : BX b w g t cs) : g < w.heap.size := by
  rcases Nat.lt_or_ge g w.heap.size with h' | h'
  · exact h'
  · have := h.2.2; simp [Array.getElem?_eq_none h'] at this
theorem BX.keep {b : Nat} {w w' : World} {g : Nat} {t : TypeId} {cs : Array Value} (h : BX b w g t cs) (k : KN b w w') : BX b w' g t cs := by
  refine ⟨h.1, h.2.1, ?_⟩
  rw [k.block g h.lt h.1 (fun cur fr e => by have := h.2.2; rw [this] at e; injection e with e; injection e with _ e2 _; exact h.2.1 e2)]
  exact h.2.2
theorem BX.cell {b : Nat} {w : World} {g : Nat} {t : TypeId} {cs : Array Value} (h : BX b w g t cs) (j : Nat) : w.cell? ⟨g, j, none⟩ = cs[j]? := Lib.cell_of_heap h.2.2 j
theorem BX.new {b : Nat} {w : World} {t : TypeId} {cs : Array Value} (hb : b < w.heap.size) (ht : t ≠ 5) : BX b (w.alloc (.cells cs t)) w.heap.size t cs := ⟨by omega, ht, heap_alloc_new w _⟩
set_option maxHeartbeats 1000000 in
set_option maxRecDepth 100000 in
theorem copyCheck_used (b : Nat) (w : World) (h0 : w.cell? ⟨b, 0, none⟩ = some (.pointer (some ⟨b, 0, none⟩))) :
    Calls Tryz.prog 84 #[.pointer (some ⟨b, 0, none⟩)] w fun e w' => e = .returned (.tuple #[]) ∧ w' = w := by
  obtain ⟨j, hj, _⟩ := Option.map_eq_some_iff.1 size_builder
  go_enter Tryz.func84, Tryz.ntmps84
  go_wp2
  rw [Lib.run_neq_ptr_same w _ Tryz.underlying102 hj]
  go_wp2
  go_end0
  exact ⟨rfl, rfl⟩
set_option maxHeartbeats 1000000 in
set_option maxRecDepth 100000 in
theorem copyCheck_fresh (b : Nat) (w : World) (h0 : w.cell? ⟨b, 0, none⟩ = some (.pointer none)) (hsh : w.shape? b = some (104, 2)) (hfz : w.frozen? ⟨b, 0, none⟩ = false) :
    Calls Tryz.prog 84 #[.pointer (some ⟨b, 0, none⟩)] w fun e w' => e = .returned (.tuple #[]) ∧ w' = w.setCell ⟨b, 0, none⟩ (.pointer (some ⟨b, 0, none⟩)) := by
  obtain ⟨j, hj, hjs⟩ := Option.map_eq_some_iff.1 size_builder
  go_enter Tryz.func84, Tryz.ntmps84
  go_wp2
  rw [Lib.run_to_unsafe w ⟨b, 0, none⟩ Tryz.underlying102 Tryz.underlying153 hj (by rw [hjs]; decide) hsh (Nat.zero_lt_succ 1)]
  simp only [Result.andThen]
  rw [Oper.upon_value]
  go_wp2
  rw [run_callFunc_extern Tryz.func103 (by kernel_rfl) (by kernel_rfl) (by kernel_rfl) (e := Extern.AbiNoEscape.same) (by kernel_rfl)]
  rw [Lib.run_noEscape]
  simp only [Result.andThen]
  rw [Oper.upon_value]
  go_wp2
  rw [Lib.run_from_unsafe w ⟨b, 0, none⟩ Tryz.underlying153 Tryz.underlying102 hj hsh lies_builder]
  simp only [Result.andThen]
  rw [Oper.upon_value]
  go_wp2
  go_end0
  exact ⟨rfl, rfl⟩
theorem copyCheck_any (B b : Nat) (l : BL) (w : World) (h : IsWr B b l w) :
    Calls Tryz.prog 84 #[.pointer (some ⟨b, 0, none⟩)] w fun e w' => e = .returned (.tuple #[]) ∧ (WrAt B b (.pointer (some ⟨b, 0, none⟩)) l w' ∧ Below B w w' ∧ KN b w w') := by
  rcases h with h | h
  · refine (copyCheck_fresh b w h.cell0 h.shape h.frozen0).mono ?_
    rintro e w' ⟨rfl, rfl⟩
    exact ⟨rfl, h.used _, (Below.refl B w).setCell (p := ⟨b, 0, none⟩) h.1 _, by simp, fun g _ hb _ => Below.heap_setCell _ _ _ _ (by simpa using hb)⟩
  · refine (copyCheck_used b w h.cell0).mono ?_
    rintro e w' ⟨rfl, rfl⟩
    exact ⟨rfl, h, Below.refl B _, KN.refl _ _⟩
/-- behind a call of the writer's -/
def WPost (B b : Nat) (l : BL) (w w' : World) : Prop := IsWr B b l w' ∧ Below B w w' ∧ KN b w w'
theorem IsWr.keep {B b : Nat} {l : BL} {w w' : World} (h : IsWr B b l w) (k : Below w.heap.size w w') : IsWr B b l w' := by
  rcases h with ⟨h0, v, h1, h2, h3⟩ | ⟨h0, v, h1, h2, h3⟩
  · have hlt : b < w.heap.size := Lib.BuilderAt.lt ⟨h0, v, h1, h2, h3⟩
    exact .inl ⟨h0, v, by rw [k.block b hlt]; exact h1, by
      refine ⟨h2.1, ?_⟩
      rcases h2.2 with hn | ⟨g, cap, cur, rfl, hb, hg, rest⟩
      · exact .inl hn
      · exact .inr ⟨g, cap, cur, rfl, hb, by rw [k.block g (Array.getElem?_eq_some_iff.1 hg).1]; exact hg, rest⟩, h3⟩
  · have hlt : b < w.heap.size := Lib.BuilderAt.lt ⟨h0, v, h1, h2, h3⟩
    exact .inr ⟨h0, v, by rw [k.block b hlt]; exact h1, by
      refine ⟨h2.1, ?_⟩
      rcases h2.2 with hn | ⟨g, cap, cur, rfl, hb, hg, rest⟩
      · exact .inl hn
      · exact .inr ⟨g, cap, cur, rfl, hb, by rw [k.block g (Array.getElem?_eq_some_iff.1 hg).1]; exact hg, rest⟩, h3⟩
theorem IsWr.lt {B b : Nat} {l : BL} {w : World} (h : IsWr B b l w) : b < w.heap.size := h.elim Lib.BuilderAt.lt Lib.BuilderAt.lt
theorem IsWr.le {B b : Nat} {l : BL} {w : World} (h : IsWr B b l w) : B ≤ b := h.elim (·.1) (·.1)
theorem WPost.trans {B b : Nat} {l l' : BL} {w w' w'' : World} (h : WPost B b l w w') (k : WPost B b l' w' w'') : WPost B b l' w w'' := ⟨k.1, h.2.1.trans k.2.1, h.2.2.trans k.2.2⟩
theorem WPost.keep {B b : Nat} {l : BL} {w w' w'' : World} (h : WPost B b l w w') (k : Below w'.heap.size w' w'') (hB : B ≤ w.heap.size) : WPost B b l w w'' := ⟨h.1.keep k, h.2.1.trans (k.mono (Nat.le_trans hB h.2.1.size)), h.2.2.trans (KN.of_below k)⟩
theorem strCells_bytes (s : ByteArray) : Lib.strCells s = Lib.byteCells s.data.toList := by
  simp [Lib.strCells, Lib.byteCells]
set_option maxHeartbeats 2000000 in
set_option maxRecDepth 100000 in
theorem writeString_any (B b : Nat) (l : BL) (s : ByteArray) (w : World) (h : IsWr B b l w) (hlen : l.length + s.size ≤ 140737488355328) (hBw : B ≤ w.heap.size) :
    Calls Tryz.prog 59 #[.pointer (some ⟨b, 0, none⟩), .string s] w fun e w' => e = .returned (.tuple #[.int .i64 s.size, .nilIface]) ∧ WPost B b (l ++ s.data.toList) w w' := by
  obtain ⟨i0, hi, hz0, hz1, hz2⟩ := info_parts info_byte
  have HI := Lib.hid (And.intro hi (And.intro hz0 (And.intro hz1 hz2)))
  clear hi hz0 hz1 hz2
  have HC := Lib.hid (copyCheck_any B b l w h); clear h
  go_enter Tryz.func59, Tryz.ntmps59
  go_wp2_with (go_at_call 84; refine HC.out.mono ?_)
  rintro e w1 ⟨rfl, h1, hb1, hkn1⟩
  obtain ⟨hB, v, hbk, hown, hne⟩ := h1
  have HKN1 := Lib.hid hkn1; clear hkn1
  have c0 : w1.cell? ⟨b, 0, none⟩ = some (.pointer (some ⟨b, 0, none⟩)) := by rw [Lib.cell_of_heap hbk]; rfl
  have c1 : w1.cell? ⟨b, 1, none⟩ = some v := by rw [Lib.cell_of_heap hbk]; rfl
  rw [Lib.byteCells_length] at hown
  have HOWN := Lib.hid hown
  have HNE := Lib.hid hne
  have HBK := Lib.hid hbk
  have HB1 := Lib.hid hb1
  clear hown hne hbk hb1
  go_wp2_with (at_builtin; refine Lib.wpList_append_own_string _ rfl _ _ 31 9 rfl B 5 i0 Tryz.underlying31 Tryz.underlying9 HI.out.1 HI.out.2.1 HI.out.2.2.1 HI.out.2.2.2 _ _ _ rfl HOWN.out s rfl ?c3 ?c4 ?c5 ?_)
  case c3 => unfold maxLen; omega
  case c4 => omega
  case c5 => have := HB1.out.size; omega
  intro v' w2 hown' hgrow _
  have hlt : b < w1.heap.size := by
    rcases Nat.lt_or_ge b w1.heap.size with h' | h'
    · exact h'
    · have hbk := HBK.out; simp [Array.getElem?_eq_none h'] at hbk
  have hb2 : w2.heap[b]? = some (.cells #[.pointer (some ⟨b, 0, none⟩), v] 104 (0, 0)) := by
    rw [hgrow.block b hlt (fun e => HNE.out e.symm)]
    exact HBK.out
  have d0 : w2.cell? ⟨b, 0, none⟩ = some (.pointer (some ⟨b, 0, none⟩)) := by rw [Lib.cell_of_heap hb2]; rfl
  have d1 : w2.cell? ⟨b, 1, none⟩ = some v := by rw [Lib.cell_of_heap hb2]; rfl
  have f1 : w2.frozen? ⟨b, 1, none⟩ = false := Lib.frozen_of_heap hb2 1
  obtain ⟨ao, n', cap, rfl⟩ : ∃ ao n' cap, v' = .slice ao n' cap := by
    rcases hown'.2 with ⟨hv, _⟩ | ⟨g, cap, cur, hv, _⟩
    · exact ⟨_, _, _, hv⟩
    · exact ⟨_, _, _, hv⟩
  have HE1 := Lib.hid (Lib.BuilderAt.put (T := 104) (e := 5) hB hb2 (bs' := Lib.byteCells (l ++ s.data.toList)) (by rw [strCells_bytes] at hown'; simpa [Lib.byteCells] using hown') (by decide))
  have HE2 := Lib.hid ((HB1.out.grown hgrow (by have := HB1.out.size; omega) (fun k hk => (HOWN.out.lt k hk).1)).setCell (p := ⟨b, 1, none⟩) hB (.slice ao n' cap))
  have HKN : Hid (KN b w (w2.setCell ⟨b, 1, none⟩ (.slice ao n' cap))) := by
    refine HKN1.out.trans ⟨by simpa using hgrow.size, fun g hg hgb hn => ?_⟩
    rw [Below.heap_setCell _ _ _ _ (by simpa using hgb), hgrow.block g hg (fun e => ?_)]
    rcases HOWN.out.2 with ⟨hv, _⟩ | ⟨g', cap', cur, hv, _, hg', _⟩
    · rw [hv] at e; cases e
    · rw [hv] at e; cases e; exact hn _ _ hg'
  clear hown' hgrow hb2 c0 c1
  go_wp2
  go_ret2
  exact ⟨rfl, .inr HE1.out, HE2.out, HKN.out⟩
set_option maxHeartbeats 1000000 in
set_option maxRecDepth 100000 in
theorem string_any (B b : Nat) (l : BL) (w : World) (h : IsWr B b l w) (h0 : l ≠ []) :
    Calls Tryz.prog 60 #[.pointer (some ⟨b, 0, none⟩)] w fun e w' => e = .returned (.string (bsOf l)) ∧ Below B w w' := by
  obtain ⟨p, hB, v, hbk, hown, hne⟩ : ∃ p, WrAt B b p l w := by
    rcases h with h | h
    · exact ⟨_, h⟩
    · exact ⟨_, h⟩
  have hl0 : l.length ≠ 0 := by simpa using h0
  rw [Lib.byteCells_length] at hown
  obtain ⟨g, cap, cur, rfl, hbg, hg, hnc, hcm, hcs, htake⟩ : ∃ g cap cur, v = .slice (some ⟨g, 0, none⟩) l.length cap ∧ B ≤ g ∧ w.heap[g]? = some (.cells cur 5 (0, 0)) ∧ l.length ≤ cap ∧ cap ≤ maxLen ∧ cur.size = cap * 1 ∧ cur.toList.take (l.length * 1) = Lib.byteCells l := by
    rcases hown.2 with ⟨_, hz⟩ | ⟨g, cap, cur, hv, r⟩
    · exact absurd hz hl0
    · exact ⟨g, cap, cur, hv, r⟩
  have c1 : w.drew.cell? ⟨b, 1, none⟩ = some (.slice (some ⟨g, 0, none⟩) l.length cap) := by
    have : w.drew.heap[b]? = some (.cells #[p, .slice (some ⟨g, 0, none⟩) l.length cap] 104 (0, 0)) := hbk
    rw [Lib.cell_of_heap this]; rfl
  have hSD : (Builtin.unsafeSliceData_ #[31] 134 #[.slice (some ⟨g, 0, none⟩) l.length cap]).run Tryz.prog w.drew = .ok (.pointer (some ⟨g, 0, none⟩)) w.drew :=
    Lib.run_unsafeSliceData_row _ _ _ _ _ _ (by omega)
  have hUS : (Builtin.unsafeString_ #[134, 3] 9 #[.pointer (some ⟨g, 0, none⟩), .int .i64 l.length]).run Tryz.prog w.drew = .ok (.string (bsOf l)) (w.drew.freeze ⟨g, 0, none⟩ l.length) := by
    refine Lib.run_unsafeString_row w.drew 134 3 9 5 Tryz.underlying134 (by kernel_rfl) g cur.size (by have hg' : w.drew.heap[g]? = some (.cells cur 5 (0, 0)) := hg; simp [World.shape?, hg']) l h0 (by omega) (by unfold maxLen at hcm; omega) ?_
    intro j x hx
    have := hown.cells (g := g) rfl j (.int .u8 x.toNat) (by simp [Lib.byteCells, hx])
    exact this
  have HH := Lib.hid hbg
  clear hown hne hbk hg htake hcs hcm hl0 h0 h
  go_enter Tryz.func60, Tryz.ntmps60
  go_wp2
  go_region
  all_goals (go_wp2; go_ret; exact ⟨rfl, Lib.below_freeze (Below.drew (Below.refl B w)) (p := ⟨g, 0, none⟩) HH.out _⟩)
end Go.Proofs.YtghopakbefageaaGreat
namespace Go.Proofs.YtghopakbefageaaGreat
def codeLines (l : List GSeg) : List GLn := (l.filter fun s => decide (s.perm = 5)).flatMap linesSeg
theorem codeLines_cons (s : GSeg) (r : List GSeg) : codeLines (s :: r) = (if s.perm = 5 then linesSeg s else []) ++ codeLines r := by
  unfold codeLines
  by_cases h : s.perm = 5
  · rw [List.filter_cons_of_pos (by simpa using h), List.flatMap_cons, if_pos h]
  · rw [List.filter_cons_of_neg (by simpa using h), if_neg h]; rfl
theorem codeLines_append (a b : List GSeg) : codeLines (a ++ b) = codeLines a ++ codeLines b := by
  unfold codeLines
  rw [List.filter_append, List.flatMap_append]
theorem linesX_eq (x : GImg) : linesX x = if imgOkB x = true then codeLines x.segs else [] := rfl
theorem linesX_yes {x : GImg} (h : imgOkB x = true) : linesX x = codeLines x.segs := by rw [linesX_eq, if_pos h]
theorem linesX_no {x : GImg} (h : imgOkB x = false) : linesX x = [] := by rw [linesX_eq, h]; rfl
theorem lnOf_addr (a : Int) (s : List UInt8) : (lnOf a s).addr = a := by
  unfold lnOf; split <;> rfl
theorem lnAt_addr (s : GSeg) (k : Nat) : (lnAt s k).addr = s.addr + 8 * k := lnOf_addr _ _
theorem segOkP_parts {fr : Int} {s : GSeg} (h : segOkP fr s = true) : (s.perm = 1 ∨ s.perm = 3 ∨ s.perm = 5) ∧ s.addr % 256 = 0 ∧ fr ≤ s.addr ∧ 1 ≤ s.bytes.size ∧ s.addr + s.bytes.size ≤ 131072 := by
  unfold segOkP permOk endOf at h
  simp only [Bool.and_eq_true, Bool.or_eq_true, decide_eq_true_eq] at h
  omega
theorem segsGo_cons {fr : Int} {s : GSeg} {r : List GSeg} (h : segsOkGo fr (s :: r) = true) : segOkP fr s = true ∧ segsOkGo (roundP (endOf s)) r = true := by
  rw [segsOkGo, Bool.and_eq_true] at h; exact h
theorem round_ge (e : Int) : e ≤ roundP e ∧ roundP e % 256 = 0 := by unfold roundP; omega
/-- which addresses a segment's lines have -/
theorem linesSeg_mem {s : GSeg} {y : GLn} (h : y ∈ linesSeg s) : ∃ k : Nat, 8 * k + 8 ≤ s.bytes.size ∧ y = lnAt s k ∧ y.addr = s.addr + 8 * k := by
  unfold linesSeg at h
  obtain ⟨k, hk, rfl⟩ := List.mem_map.1 h
  have := List.mem_range.1 hk
  exact ⟨k, by omega, rfl, lnAt_addr s k⟩
theorem linesSeg_up (s : GSeg) : (linesSeg s).Pairwise fun a b => a.addr < b.addr := by
  unfold linesSeg
  rw [List.pairwise_map]
  refine List.Pairwise.imp ?_ (List.pairwise_lt_range (n := s.bytes.size / 8))
  intro a b h
  rw [lnAt_addr, lnAt_addr]; omega
theorem codeLines_ge : ∀ (l : List GSeg) (fr : Int), segsOkGo fr l = true → ∀ y ∈ codeLines l, fr ≤ y.addr ∧ y.addr + 8 ≤ 131072
  | [], _, _, y, hy => by cases hy
  | s :: r, fr, h, y, hy => by
    obtain ⟨h1, h2⟩ := segsGo_cons h
    obtain ⟨-, -, h3, h4, h5⟩ := segOkP_parts h1
    rw [codeLines_cons] at hy
    rcases List.mem_append.1 hy with hy | hy
    · split at hy
      · obtain ⟨k, hk, -, ha⟩ := linesSeg_mem hy
        omega
      · cases hy
    · have ih := codeLines_ge r _ h2 y hy
      have := (round_ge (endOf s)).1
      unfold endOf at this ih
      omega
theorem codeLines_up : ∀ (l : List GSeg) (fr : Int), segsOkGo fr l = true → (codeLines l).Pairwise fun a b => a.addr < b.addr
  | [], _, _ => List.Pairwise.nil
  | s :: r, fr, h => by
    obtain ⟨h1, h2⟩ := segsGo_cons h
    rw [codeLines_cons, List.pairwise_append]
    refine ⟨?_, codeLines_up r _ h2, fun a ha b hb => ?_⟩
    · split
      · exact linesSeg_up s
      · exact List.Pairwise.nil
    · split at ha
      · obtain ⟨k, hk, -, he⟩ := linesSeg_mem ha
        have := (codeLines_ge r _ h2 b hb).1
        have hr := (round_ge (endOf s)).1
        unfold endOf at hr this
        omega
      · cases ha
theorem imgOk_parts {x : GImg} (h : imgOkB x = true) : x.segs.length ≤ 8 ∧ 1 ≤ x.segs.length ∧ x.entry % 8 = 0 ∧ segsOkGo 256 x.segs = true ∧ x.segs.any (begP x.entry) = true := by
  unfold imgOkB at h
  simp only [Bool.and_eq_true, decide_eq_true_eq] at h
  exact ⟨h.1.1.1.2, h.1.1.1.1.2, h.1.1.2, h.1.2, h.2⟩
theorem linesX_up (x : GImg) : (linesX x).Pairwise fun a b => a.addr < b.addr := by
  rw [linesX_eq]
  split
  · rename_i h; exact codeLines_up _ _ (imgOk_parts h).2.2.2.1
  · exact List.Pairwise.nil
theorem linesX_bd {x : GImg} {y : GLn} (h : y ∈ linesX x) : 256 ≤ y.addr ∧ y.addr + 8 ≤ 131072 := by
  rw [linesX_eq] at h
  split at h
  · rename_i h1; exact codeLines_ge _ _ (imgOk_parts h1).2.2.2.1 y h
  · cases h
theorem codeLines_len : ∀ (l : List GSeg) (fr : Int), 0 ≤ fr → segsOkGo fr l = true → (codeLines l).length ≤ l.length * 16384
  | [], _, _, _ => by simp [codeLines]
  | s :: r, fr, h0, h => by
    obtain ⟨h1, h2⟩ := segsGo_cons h
    obtain ⟨-, -, h3, h4, h5⟩ := segOkP_parts h1
    have hr := (round_ge (endOf s)).1
    unfold endOf at hr
    have ih := codeLines_len r _ (by unfold endOf; omega) h2
    rw [codeLines_cons, List.length_append, List.length_cons]
    have : (if s.perm = 5 then linesSeg s else []).length ≤ 16384 := by
      split
      · unfold linesSeg; rw [List.length_map, List.length_range]; omega
      · simp
    omega
theorem linesX_len (x : GImg) : (linesX x).length ≤ 131072 := by
  rw [linesX_eq]
  split
  · rename_i h
    have h1 := imgOk_parts h
    have := codeLines_len x.segs 256 (by omega) h1.2.2.2.1
    omega
  · simp
/-- the first j lines of a segment -/
def linesTo (s : GSeg) (j : Nat) : List GLn := (List.range j).map (lnAt s)
theorem linesTo_succ (s : GSeg) (j : Nat) : linesTo s (j + 1) = linesTo s j ++ [lnAt s j] := by
  unfold linesTo; rw [List.range_succ]; simp
theorem linesTo_all (s : GSeg) : linesTo s (s.bytes.size / 8) = linesSeg s := rfl
theorem linesTo_len (s : GSeg) (j : Nat) : (linesTo s j).length = j := by simp [linesTo]
theorem linesTo_pre (s : GSeg) (j : Nat) (h : j ≤ s.bytes.size / 8) : linesTo s j <+: linesSeg s := by
  rw [← linesTo_all]
  unfold linesTo
  refine ⟨((List.range (s.bytes.size / 8)).drop j).map (lnAt s), ?_⟩
  rw [← List.map_append]
  have e : List.range j = (List.range (s.bytes.size / 8)).take j := by rw [List.take_range]; congr 1; omega
  rw [e, List.take_append_drop]
theorem codeLines_take {l : List GSeg} {k : Nat} (h : k < l.length) : codeLines (l.take (k + 1)) = codeLines (l.take k) ++ (if l[k].perm = 5 then linesSeg l[k] else []) := by
  rw [List.take_succ_eq_append_getElem h, codeLines_append]
  congr 1
  rw [codeLines_cons]; simp [codeLines]
theorem code_pre {l : List GSeg} {k j : Nat} (h : k < l.length) (h5 : l[k].perm = 5) (hj : j ≤ l[k].bytes.size / 8) : codeLines (l.take k) ++ linesTo l[k] j <+: codeLines l := by
  have h1 : codeLines l = codeLines (l.take (k + 1)) ++ codeLines (l.drop (k + 1)) := by rw [← codeLines_append, List.take_append_drop]
  rw [h1, codeLines_take h, if_pos h5]
  obtain ⟨t, ht⟩ := linesTo_pre l[k] j hj
  exact ⟨t ++ codeLines (l.drop (k + 1)), by rw [← ht]; simp [List.append_assoc]⟩
/-- a new line has an address of its own -/
theorem code_new {l : List GSeg} {fr : Int} {k j : Nat} (hs : segsOkGo fr l = true) (h : k < l.length) (h5 : l[k].perm = 5) (hj : j < l[k].bytes.size / 8) : ∀ z ∈ codeLines (l.take k) ++ linesTo l[k] j, z.addr ≠ (lnAt l[k] j).addr := by
  have hp := code_pre h h5 (show j + 1 ≤ _ by omega)
  rw [linesTo_succ, ← List.append_assoc] at hp
  have hu := (codeLines_up l fr hs).sublist hp.sublist
  rw [List.pairwise_append] at hu
  intro z hz
  have := hu.2.2 z hz (lnAt l[k] j) (by simp)
  omega
theorem code_len {l : List GSeg} {k j : Nat} (hs : segsOkGo 256 l = true) (hl : l.length ≤ 8) (h : k < l.length) (h5 : l[k].perm = 5) (hj : j ≤ l[k].bytes.size / 8) : (codeLines (l.take k) ++ linesTo l[k] j).length ≤ 131072 := by
  have h1 := (code_pre h h5 hj).length_le
  have := codeLines_len l 256 (by omega) hs
  omega
theorem segsGo_each : ∀ {l : List GSeg} {fr : Int} {k : Nat}, segsOkGo fr l = true → ∀ (h : k < l.length), 256 ≤ fr → (l[k].perm = 1 ∨ l[k].perm = 3 ∨ l[k].perm = 5) ∧ 256 ≤ l[k].addr ∧ l[k].addr + l[k].bytes.size ≤ 131072
  | s :: r, fr, 0, hs, h, h0 => by
    obtain ⟨h1, -, h3, -, h5⟩ := segOkP_parts (segsGo_cons hs).1
    simp only [List.getElem_cons_zero]
    exact ⟨h1, by omega, h5⟩
  | s :: r, fr, k + 1, hs, h, h0 => by
    have hs2 := segsGo_cons hs
    obtain ⟨-, -, h3, h4, -⟩ := segOkP_parts hs2.1
    have hr := (round_ge (endOf s)).1
    have he : endOf s = s.addr + s.bytes.size := rfl
    simp only [List.getElem_cons_succ]
    exact segsGo_each hs2.2 (by simpa using h) (by omega)
theorem segsGo_align : ∀ {l : List GSeg} {fr : Int} {k : Nat}, segsOkGo fr l = true → ∀ (h : k < l.length), l[k].addr % 256 = 0
  | s :: r, fr, 0, hs, h => (segOkP_parts (segsGo_cons hs).1).2.1
  | s :: r, fr, k + 1, hs, h => by
    simp only [List.getElem_cons_succ]
    exact segsGo_align (segsGo_cons hs).2 (by simpa using h)
end Go.Proofs.YtghopakbefageaaGreat
namespace Go.Proofs.YtghopakbefageaaGreat
open Go.RowKit
def NumR (w : World) (b o : Nat) (x : Int) : Prop := b < w.heap.size ∧ w.cell? ⟨b, o, none⟩ = some (.int .u32 x) ∧ 0 ≤ x ∧ x ≤ 4294967295
theorem numR_keeps : Keeps NumR := fun _ _ _ _ _ hb ⟨h0, h1, r⟩ => ⟨size_keep hb h0, cell_keep hb h0 h1, r⟩
theorem map_flat1 {α : Type} (f : α → Value) : ∀ l : List α, l.map f = l.flatMap fun x => [f x]
  | [] => rfl
  | a :: r => by rw [List.map_cons, map_flat1 f r]; rfl
/-- a row of one's own, as a row of numbers -/
theorem num_back {w : World} {v : Value} {base : Nat} {e : TypeId} {l : List Int} (h : w.ownsRow base e 1 v l.length (l.map (Value.int .u32))) (hl : l.length ≤ 140737488355328) (hb : ∀ x ∈ l, 0 ≤ x ∧ x ≤ 4294967295) : RowAt 1 NumR w v l := by
  rw [map_flat1] at h
  exact owned_row (f := fun x => [Value.int .u32 x]) (k := 1) (fun _ => rfl) h hl fun g o i hi hg hc => ⟨hg, hc 0 _ (by omega) rfl, hb _ (List.getElem_mem hi)⟩
theorem one_news {w : World} {g : Nat} {u : Value} (h0 : w.cell? ⟨g, 0, none⟩ = some u) : ∀ j x, [u][j]? = some x → w.cell? ((⟨g, 0, none⟩ : Addr).add j) = some x := by
  intro j x hx
  match j, hx with
  | 0, hx => simp at hx; subst hx; simpa [Addr.add] using h0
theorem one_u32 {a : Int} : ∀ u ∈ [Value.int .u32 a], u.oneCell' = true := by
  intro u hu
  simp at hu
  subst hu; rfl
end Go.Proofs.YtghopakbefageaaGreat
namespace Go.Proofs.YtghopakbefageaaGreat
/-- divided by 256 so often -/
def dv : Nat → Int → Int
  | 0, v => v
  | i + 1, v => dv i (v / 256)
theorem dv_succ : ∀ (i : Nat) (v : Int), dv (i + 1) v = dv i v / 256
  | 0, _ => rfl
  | i + 1, v => by rw [dv, dv_succ i, dv]
theorem dv_zero : ∀ (n : Nat) (v : Int), 0 ≤ v → v < pow256 n → dv n v = 0
  | 0, v, h0, h1 => by simp only [pow256] at h1; simp only [dv]; omega
  | n + 1, v, h0, h1 => by simp only [pow256] at h1; simp only [dv]; exact dv_zero n _ (by omega) (by omega)
theorem dv_bd : ∀ (i : Nat) (v : Int), 0 ≤ v → 0 ≤ dv i v ∧ dv i v ≤ v
  | 0, v, h => ⟨h, Int.le_refl _⟩
  | i + 1, v, h => by have := dv_bd i (v / 256) (by omega); simp only [dv]; omega
theorem leB_snoc : ∀ (i : Nat) (v : Int), leB (i + 1) v = leB i v ++ [UInt8.ofNat (dv i v % 256).toNat]
  | 0, _ => rfl
  | i + 1, v => by
    rw [leB, leB_snoc i (v / 256)]; rfl
end Go.Proofs.YtghopakbefageaaGreat
