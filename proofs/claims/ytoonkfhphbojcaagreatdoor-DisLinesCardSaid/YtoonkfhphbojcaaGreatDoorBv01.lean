/- Numbers, texts, places, notes, symbols and objects as bytes (layers 7 and 9), in plain words: what is put, what is read, and that the one is the other's inverse. No program in sight. Tables of symbols (layer 34): what may be, bytes, which symbol has an address, names, moves. No program in sight. -/
import Derived.Test.YtoonkfhphbojcaaGreatDoorBv04
namespace Go.Proofs.YtoonkfhphbojcaaGreatDoor
abbrev BL := List UInt8
def bsOf (l : BL) : ByteArray := ⟨l.toArray⟩
theorem bsOf_list (l : BL) : (bsOf l).data.toList = l := rfl
theorem bsOf_of (s : ByteArray) : bsOf s.data.toList = s := rfl
theorem bsOf_size (l : BL) : (bsOf l).size = l.length := by unfold bsOf ByteArray.size; simp
theorem len_list (s : ByteArray) : s.data.toList.length = s.size := by unfold ByteArray.size; simp
/-- a number's bytes, the lowest first -/
def leB : Nat → Int → BL
  | 0, _ => []
  | n + 1, v => UInt8.ofNat (v % 256).toNat :: leB n (v / 256)
def leV : BL → Int
  | [] => 0
  | b :: r => b.toNat + 256 * leV r
theorem leB_length : ∀ (n : Nat) (v : Int), (leB n v).length = n
  | 0, _ => rfl
  | n + 1, v => by simp [leB, leB_length n]
def pow256 : Nat → Int | 0 => 1 | n + 1 => 256 * pow256 n
theorem pow256_pos : ∀ n, 0 < pow256 n | 0 => by decide | n + 1 => by have := pow256_pos n; simp only [pow256]; omega
theorem leV_bd : ∀ l : BL, 0 ≤ leV l ∧ leV l < pow256 l.length
  | [] => by simp [leV, pow256]
  | b :: r => by
    have := leV_bd r
    have hb := b.toNat_lt
    simp only [leV, List.length_cons, pow256]
    omega
theorem u8_ofNat (k : Nat) (h : k < 256) : (UInt8.ofNat k).toNat = k := by simp; omega
theorem leV_leB : ∀ (n : Nat) (v : Int), 0 ≤ v → v < pow256 n → leV (leB n v) = v
  | 0, v, h0, h1 => by simp only [pow256] at h1; simp only [leB, leV]; omega
  | n + 1, v, h0, h1 => by
    simp only [pow256] at h1
    simp only [leB, leV, leV_leB n (v / 256) (by omega) (by omega), u8_ofNat (v % 256).toNat (by omega)]
    omega
theorem leB_leV : ∀ l : BL, leB l.length (leV l) = l
  | [] => rfl
  | b :: r => by
    have hb := b.toNat_lt
    have h1 : (b.toNat + 256 * leV r : Int) % 256 = b.toNat := by omega
    have h2 : (b.toNat + 256 * leV r : Int) / 256 = leV r := by omega
    simp only [leV, List.length_cons, leB, h1, h2, leB_leV r]
    simp
/-- a text's bytes -/
def encText (s : ByteArray) : BL := leB 2 s.size ++ s.data.toList
def encRel (x : GRel) : BL := leB 4 x.off ++ leB 1 x.kind ++ encText x.name ++ leB 4 x.add
def encNote (x : GNote) : BL := leB 1 x.kind ++ leB 4 x.n ++ leB 4 x.m
def encSym (s : GSym) : BL := encText s.name ++ leB 1 s.bind ++ leB 1 s.kind ++ leB 4 s.size ++ encText s.bytes ++ leB 2 s.rels.length ++ s.rels.flatMap encRel ++ leB 1 s.notes.length ++ s.notes.flatMap encNote
def magicB : BL := [65, 79, 66, 49]
def encObj (o : GObj) : BL := magicB ++ encText o.name ++ leB 2 o.syms.length ++ o.syms.flatMap encSym
/-- what is left to read; none: spoilt -/
abbrev RS := Option BL
def rTake (n : Nat) : RS → BL × RS
  | none => ([], none)
  | some r => if n ≤ r.length then (r.take n, some (r.drop n)) else ([], none)
def rNum (n : Nat) (st : RS) : Int × RS := (leV (rTake n st).1, (rTake n st).2)
def rText (st : RS) : ByteArray × RS := (bsOf (rTake (rNum 2 st).1.toNat (rNum 2 st).2).1, (rTake (rNum 2 st).1.toNat (rNum 2 st).2).2)
def rRel (st : RS) : GRel × RS :=
  let a := rNum 4 st
  let b := rNum 1 a.2
  let c := rText b.2
  let d := rNum 4 c.2
  (⟨a.1, b.1, c.1, d.1⟩, d.2)
def rNote (st : RS) : GNote × RS :=
  let a := rNum 1 st
  let b := rNum 4 a.2
  let c := rNum 4 b.2
  (⟨a.1, b.1, c.1⟩, c.2)
def rMany {α : Type} (f : RS → α × RS) : Nat → RS → List α × RS
  | 0, st => ([], st)
  | _ + 1, none => ([], none)
  | n + 1, some r => ((f (some r)).1 :: (rMany f n (f (some r)).2).1, (rMany f n (f (some r)).2).2)
def rSym (st : RS) : GSym × RS :=
  let a := rText st
  let b := rNum 1 a.2
  let c := rNum 1 b.2
  let d := rNum 4 c.2
  let e := rText d.2
  let n := rNum 2 e.2
  let rs := rMany rRel n.1.toNat n.2
  let k := rNum 1 rs.2
  let ts := rMany rNote k.1.toNat k.2
  (⟨a.1, b.1, c.1, d.1, e.1, rs.1, ts.1⟩, ts.2)
def rObj (s : BL) : BL × GObj × RS :=
  let m := rTake 4 (some s)
  let a := rText m.2
  let n := rNum 2 a.2
  let ss := rMany rSym n.1.toNat n.2
  (m.1, ⟨a.1, ss.1⟩, ss.2)
/-- the object of bytes -/
def getB (s : BL) : Option GObj := if (rObj s).2.2 = some [] ∧ (rObj s).1 = magicB ∧ mayP (rObj s).2.1 = true then some (rObj s).2.1 else none
/-! ### what was put is read -/
theorem rTake_app (l r : BL) : rTake l.length (some (l ++ r)) = (l, some r) := by simp [rTake]
theorem rTake_app' {n : Nat} {l r : BL} (h : l.length = n) : rTake n (some (l ++ r)) = (l, some r) := by subst h; exact rTake_app l r
theorem rNum_enc {n : Nat} {v : Int} (r : BL) (h0 : 0 ≤ v) (h1 : v < pow256 n) : rNum n (some (leB n v ++ r)) = (v, some r) := by
  simp only [rNum, rTake_app' (leB_length n v), leV_leB n v h0 h1]
theorem rText_enc {s : ByteArray} (r : BL) (h : s.size < 65536) : rText (some (encText s ++ r)) = (s, some r) := by
  have h2 : (pow256 2 : Int) = 65536 := rfl
  have h1 : rNum 2 (some (encText s ++ r)) = ((s.size : Int), some (s.data.toList ++ r)) := by
    rw [encText, List.append_assoc]; exact rNum_enc _ (by omega) (by omega)
  simp only [rText, h1, Int.toNat_natCast, rTake_app' (len_list s), bsOf_of]
def RelFit (x : GRel) : Prop := (0 ≤ x.off ∧ x.off < 4294967296) ∧ (0 ≤ x.kind ∧ x.kind < 256) ∧ x.name.size < 65536 ∧ (0 ≤ x.add ∧ x.add < 4294967296)
def NoteFit (x : GNote) : Prop := (0 ≤ x.kind ∧ x.kind < 256) ∧ (0 ≤ x.n ∧ x.n < 4294967296) ∧ (0 ≤ x.m ∧ x.m < 4294967296)
def SymFit (s : GSym) : Prop := s.name.size < 65536 ∧ (0 ≤ s.bind ∧ s.bind < 256) ∧ (0 ≤ s.kind ∧ s.kind < 256) ∧ (0 ≤ s.size ∧ s.size < 4294967296) ∧ s.bytes.size < 65536 ∧ s.rels.length < 65536 ∧ (∀ x ∈ s.rels, RelFit x) ∧ s.notes.length < 256 ∧ (∀ x ∈ s.notes, NoteFit x)
def ObjFit (o : GObj) : Prop := o.name.size < 65536 ∧ o.syms.length < 65536 ∧ ∀ s ∈ o.syms, SymFit s
theorem p1 : (pow256 1 : Int) = 256 := rfl
theorem p2 : (pow256 2 : Int) = 65536 := rfl
theorem p4 : (pow256 4 : Int) = 4294967296 := rfl
theorem rRel_enc {x : GRel} (r : BL) (h : RelFit x) : rRel (some (encRel x ++ r)) = (x, some r) := by
  obtain ⟨h1, h2, h3, h4⟩ := h
  unfold rRel encRel
  simp only [List.append_assoc, rNum_enc _ h1.1 (by rw [p4]; exact h1.2), rNum_enc _ h2.1 (by rw [p1]; exact h2.2), rText_enc _ h3, rNum_enc _ h4.1 (by rw [p4]; exact h4.2)]
theorem rNote_enc {x : GNote} (r : BL) (h : NoteFit x) : rNote (some (encNote x ++ r)) = (x, some r) := by
  obtain ⟨h1, h2, h3⟩ := h
  unfold rNote encNote
  simp only [List.append_assoc, rNum_enc _ h1.1 (by rw [p1]; exact h1.2), rNum_enc _ h2.1 (by rw [p4]; exact h2.2), rNum_enc _ h3.1 (by rw [p4]; exact h3.2)]
theorem rMany_enc {α : Type} {f : RS → α × RS} {enc : α → BL} : ∀ (l : List α) (r : BL), (∀ x ∈ l, ∀ r, f (some (enc x ++ r)) = (x, some r)) → rMany f l.length (some (l.flatMap enc ++ r)) = (l, some r)
  | [], r, _ => by simp [rMany]
  | x :: l, r, h => by
    have ih := rMany_enc l r fun y hy => h y (List.mem_cons_of_mem _ hy)
    simp only [List.length_cons, List.flatMap_cons, List.append_assoc, rMany, h x (List.mem_cons_self ..), ih]
theorem rSym_enc {s : GSym} (r : BL) (h : SymFit s) : rSym (some (encSym s ++ r)) = (s, some r) := by
  obtain ⟨h1, h2, h3, h4, h5, h6, h7, h8, h9⟩ := h
  unfold rSym encSym
  simp only [List.append_assoc, rText_enc _ h1, rNum_enc _ h2.1 (by rw [p1]; exact h2.2), rNum_enc _ h3.1 (by rw [p1]; exact h3.2), rNum_enc _ h4.1 (by rw [p4]; exact h4.2), rText_enc _ h5, rNum_enc (n := 2) (v := (s.rels.length : Int)) _ (by omega) (by rw [p2]; omega),
    rNum_enc (n := 1) (v := (s.notes.length : Int)) _ (by omega) (by rw [p1]; omega), Int.toNat_natCast, rMany_enc s.rels _ (fun x hx r => rRel_enc r (h7 x hx)), rMany_enc s.notes _ (fun x hx r => rNote_enc r (h9 x hx))]
theorem rObj_enc {o : GObj} (h : ObjFit o) : rObj (encObj o) = (magicB, o, some []) := by
  obtain ⟨h1, h2, h3⟩ := h
  have hm : ∀ r, rTake 4 (some (magicB ++ r)) = (magicB, some r) := fun r => rTake_app' rfl
  have hs := rMany_enc o.syms [] (fun x hx r => rSym_enc r (h3 x hx))
  rw [List.append_nil] at hs
  unfold rObj encObj
  simp only [List.append_assoc, hm, rText_enc _ h1, rNum_enc (n := 2) (v := (o.syms.length : Int)) _ (by omega) (by rw [p2]; omega), Int.toNat_natCast, hs]
/-! ### of what was read the bytes are those that it was read of -/
theorem rTake_some {n : Nat} {st : RS} {l r : BL} (h : rTake n st = (l, some r)) : st = some (l ++ r) ∧ l.length = n := by
  cases st with
  | none => simp [rTake] at h
  | some q =>
    unfold rTake at h
    simp only [] at h
    split at h
    · cases h; rename_i hn; exact ⟨by simp, by simp; omega⟩
    · cases h
theorem rNum_some {n : Nat} {st : RS} {v : Int} {r : BL} (h : rNum n st = (v, some r)) : st = some (leB n v ++ r) ∧ 0 ≤ v ∧ v < pow256 n := by
  have h2 := (Prod.mk.inj h).2
  have h1 := (Prod.mk.inj h).1
  obtain ⟨hs, hl⟩ := rTake_some (n := n) (st := st) (l := (rTake n st).1) (r := r) (by rw [← h2])
  have hb := leV_bd (rTake n st).1
  rw [hl] at hb
  rw [← h1]
  refine ⟨?_, hb⟩
  have := leB_leV (rTake n st).1
  rw [hl] at this
  rw [this]; exact hs
theorem rText_some {st : RS} {s : ByteArray} {r : BL} (h : rText st = (s, some r)) : st = some (encText s ++ r) ∧ s.size < 65536 := by
  have h2 := (Prod.mk.inj h).2
  have h1 := (Prod.mk.inj h).1
  obtain ⟨hs, hl⟩ := rTake_some (n := (rNum 2 st).1.toNat) (st := (rNum 2 st).2) (l := (rTake (rNum 2 st).1.toNat (rNum 2 st).2).1) (r := r) (by rw [← h2])
  obtain ⟨ht, h0, h3⟩ := rNum_some (n := 2) (st := st) (v := (rNum 2 st).1) (r := (rTake (rNum 2 st).1.toNat (rNum 2 st).2).1 ++ r) (by rw [← hs])
  rw [p2] at h3
  have hz : s.size = (rNum 2 st).1.toNat := by rw [← h1, bsOf_size, hl]
  refine ⟨?_, by omega⟩
  rw [ht, encText, List.append_assoc]
  congr 2
  · rw [hz]; congr 1; omega
  · rw [← h1, bsOf_list]
theorem rRel_some {st : RS} {x : GRel} {r : BL} (h : rRel st = (x, some r)) : st = some (encRel x ++ r) ∧ RelFit x := by
  obtain ⟨e1, e2⟩ := Prod.mk.inj h
  generalize ha : rNum 4 st = a at e1 e2
  obtain ⟨a1, a2⟩ := a
  generalize hb : rNum 1 a2 = b at e1 e2
  obtain ⟨b1, b2⟩ := b
  generalize hc : rText b2 = c at e1 e2
  obtain ⟨c1, c2⟩ := c
  generalize hd : rNum 4 c2 = d at e1 e2
  obtain ⟨d1, d2⟩ := d
  simp only [] at e1 e2
  subst e2; subst e1
  obtain ⟨rfl, k4⟩ := rNum_some hd
  obtain ⟨rfl, k3⟩ := rText_some hc
  obtain ⟨rfl, k2⟩ := rNum_some hb
  obtain ⟨rfl, k1⟩ := rNum_some ha
  rw [p4] at k4 k1; rw [p1] at k2
  exact ⟨by simp only [encRel, List.append_assoc], k1, k2, k3, k4⟩
theorem rNote_some {st : RS} {x : GNote} {r : BL} (h : rNote st = (x, some r)) : st = some (encNote x ++ r) ∧ NoteFit x := by
  obtain ⟨e1, e2⟩ := Prod.mk.inj h
  generalize ha : rNum 1 st = a at e1 e2
  obtain ⟨a1, a2⟩ := a
  generalize hb : rNum 4 a2 = b at e1 e2
  obtain ⟨b1, b2⟩ := b
  generalize hd : rNum 4 b2 = d at e1 e2
  obtain ⟨d1, d2⟩ := d
  simp only [] at e1 e2
  subst e2; subst e1
  obtain ⟨rfl, k4⟩ := rNum_some hd
  obtain ⟨rfl, k2⟩ := rNum_some hb
  obtain ⟨rfl, k1⟩ := rNum_some ha
  rw [p4] at k4 k2; rw [p1] at k1
  exact ⟨by simp only [encNote, List.append_assoc], k1, k2, k4⟩
theorem rMany_some {α : Type} {f : RS → α × RS} {enc : α → BL} {Fit : α → Prop} (hf : ∀ st x r, f st = (x, some r) → st = some (enc x ++ r) ∧ Fit x) : ∀ {n : Nat} {st : RS} {l : List α} {r : BL}, rMany f n st = (l, some r) → st = some (l.flatMap enc ++ r) ∧ l.length = n ∧ ∀ x ∈ l, Fit x
  | 0, st, l, r, h => by
    simp only [rMany] at h
    obtain ⟨rfl, rfl⟩ := Prod.mk.inj h
    exact ⟨by simp, rfl, fun x hx => by cases hx⟩
  | n + 1, none, l, r, h => by simp [rMany] at h
  | n + 1, some q, l, r, h => by
    simp only [rMany] at h
    generalize ha : f (some q) = a at h
    obtain ⟨x, st⟩ := a
    simp only [] at h
    generalize hb : rMany f n st = b at h
    obtain ⟨l', st'⟩ := b
    obtain ⟨rfl, rfl⟩ := Prod.mk.inj h
    obtain ⟨rfl, k2, k3⟩ := rMany_some hf hb
    obtain ⟨k4, k5⟩ := hf _ _ _ ha
    refine ⟨by rw [k4]; simp, by simp [k2], fun y hy => ?_⟩
    rcases List.mem_cons.1 hy with rfl | hy
    · exact k5
    · exact k3 y hy
theorem rSym_some {st : RS} {x : GSym} {r : BL} (h : rSym st = (x, some r)) : st = some (encSym x ++ r) ∧ SymFit x := by
  obtain ⟨e1, e2⟩ := Prod.mk.inj h
  generalize ha : rText st = a at e1 e2
  obtain ⟨a1, a2⟩ := a
  generalize hb : rNum 1 a2 = b at e1 e2
  obtain ⟨b1, b2⟩ := b
  generalize hc : rNum 1 b2 = c at e1 e2
  obtain ⟨c1, c2⟩ := c
  generalize hd : rNum 4 c2 = d at e1 e2
  obtain ⟨d1, d2⟩ := d
  generalize he : rText d2 = e at e1 e2
  obtain ⟨f1, f2⟩ := e
  generalize hn : rNum 2 f2 = n at e1 e2
  obtain ⟨n1, n2⟩ := n
  simp only [] at e1 e2
  generalize hr : rMany rRel n1.toNat n2 = rr at e1 e2
  obtain ⟨r1, r2⟩ := rr
  generalize hk : rNum 1 r2 = k at e1 e2
  obtain ⟨k1, k2⟩ := k
  simp only [] at e1 e2
  generalize ht : rMany rNote k1.toNat k2 = t at e1 e2
  obtain ⟨t1, t2⟩ := t
  simp only [] at e1 e2
  subst e2; subst e1
  obtain ⟨rfl, q1, q2⟩ := rMany_some (fun _ _ _ => rNote_some) ht
  obtain ⟨rfl, q3⟩ := rNum_some hk
  obtain ⟨rfl, q4, q5⟩ := rMany_some (fun _ _ _ => rRel_some) hr
  obtain ⟨rfl, q6⟩ := rNum_some hn
  obtain ⟨rfl, q7⟩ := rText_some he
  obtain ⟨rfl, q8⟩ := rNum_some hd
  obtain ⟨rfl, q9⟩ := rNum_some hc
  obtain ⟨rfl, q10⟩ := rNum_some hb
  obtain ⟨rfl, q11⟩ := rText_some ha
  rw [p1] at q3 q9 q10; rw [p2] at q6; rw [p4] at q8
  have m1 : (t1.length : Int) = k1 := by omega
  have m2 : (r1.length : Int) = n1 := by omega
  exact ⟨by simp only [encSym, List.append_assoc, m1, m2], q11, q10, q9, q8, q7, by simp only []; omega, q5, by simp only []; omega, q2⟩
theorem getB_some {s : BL} {o : GObj} (h : getB s = some o) : encObj o = s ∧ ObjFit o ∧ mayP o = true := by
  unfold getB at h
  split at h
  · rename_i hc
    cases h
    obtain ⟨h1, h2, h3⟩ := hc
    refine ⟨?_, ?_, h3⟩
    all_goals
      unfold rObj at h1 h2 ⊢
      simp only [] at h1 h2 ⊢
      generalize ha : rTake 4 (some s) = a at h1 h2 ⊢
      obtain ⟨a1, a2⟩ := a
      generalize hb : rText a2 = b at h1 ⊢
      obtain ⟨b1, b2⟩ := b
      generalize hn : rNum 2 b2 = n at h1 ⊢
      obtain ⟨n1, n2⟩ := n
      simp only [] at h1 h2 ⊢
      generalize hr : rMany rSym n1.toNat n2 = rr at h1 ⊢
      obtain ⟨r1, r2⟩ := rr
      simp only [] at h1 h2 ⊢
      subst h1; subst h2
      obtain ⟨rfl, q1, q2⟩ := rMany_some (fun _ _ _ => rSym_some) hr
      obtain ⟨rfl, q3⟩ := rNum_some hn
      obtain ⟨rfl, q4⟩ := rText_some hb
      obtain ⟨q5, -⟩ := rTake_some ha
      rw [p2] at q3
      have m1 : (r1.length : Int) = n1 := by omega
    · rw [Option.some.inj q5]; simp [encObj, m1]
    · exact ⟨q4, by simp only []; omega, q2⟩
  · cases h
theorem getB_enc {o : GObj} (h : ObjFit o) (hm : mayP o = true) : getB (encObj o) = some o := by
  unfold getB
  rw [rObj_enc h]
  simp [hm]
theorem encObj_inj {o p : GObj} (ho : ObjFit o) (hp : ObjFit p) (h : encObj o = encObj p) : o = p := by
  have h1 := rObj_enc ho
  rw [h, rObj_enc hp] at h1
  exact ((Prod.mk.inj (Prod.mk.inj h1).2).1).symm
theorem pow256_mono : ∀ {n m : Nat}, n ≤ m → pow256 n ≤ pow256 m
  | 0, m, _ => by have := pow256_pos m; simp only [pow256]; omega
  | n + 1, m + 1, h => by have := pow256_mono (n := n) (m := m) (by omega); simp only [pow256]; omega
theorem rNum_bd (n : Nat) (st : RS) : 0 ≤ (rNum n st).1 ∧ (rNum n st).1 < pow256 n := by
  have h := leV_bd (rTake n st).1
  have hl : (rTake n st).1.length ≤ n := by
    cases st with
    | none => simp [rTake]
    | some r => unfold rTake; simp only []; split <;> simp; omega
  have := pow256_mono hl
  exact ⟨h.1, Int.lt_of_lt_of_le h.2 this⟩
theorem rText_bd (st : RS) : (rText st).1.size ≤ 65535 := by
  have h := rNum_bd 2 st
  rw [p2] at h
  unfold rText
  rw [bsOf_size]
  cases hs : (rNum 2 st).2 with
  | none => simp [rTake]
  | some r => unfold rTake; simp only []; split <;> simp; omega
theorem rTake_len (n : Nat) (st : RS) : (rTake n st).1.length ≤ n := by
  cases st with
  | none => simp [rTake]
  | some r => unfold rTake; simp only []; split <;> simp; omega
end Go.Proofs.YtoonkfhphbojcaaGreatDoor
namespace Go.Proofs.YtoonkfhphbojcaaGreatDoor
structure GTs where
  name : ByteArray
  object : ByteArray
  addr : Int
  size : Int
  kind : Int
def tsOk (e : Int) (s : GTs) : Bool :=
  isName s.name && isName s.object && decide (1 ≤ s.kind) && decide (s.kind ≤ 3) && decide (1 ≤ s.size) && decide (s.size ≤ 8192) && decide (e ≤ s.addr) && decide (s.addr ≤ 131072) && decide (s.addr + s.size ≤ 131072)
def tabGo : Int → List GTs → Bool
  | _, [] => true
  | e, s :: r => tsOk e s && tabGo (s.addr + s.size) r
def tabOk (t : List GTs) : Bool := tabGo 256 t && decide (t.length ≤ 1024)
theorem tabGo_yes {t : List GTs} {i : Nat} {e : Int} (hlt : i < t.length) (hgo : tabGo e (t.drop i) = tabGo 256 t) (h : tsOk e t[i] = true) : tabGo (t[i].addr + t[i].size) (t.drop (i + 1)) = tabGo 256 t := by
  rw [← hgo, List.drop_eq_getElem_cons hlt, tabGo, h]; simp
theorem tabOk_no {t : List GTs} {i : Nat} {e : Int} (hlt : i < t.length) (hgo : tabGo e (t.drop i) = tabGo 256 t) (h : tsOk e t[i] = false) : tabOk t = false := by
  rw [List.drop_eq_getElem_cons hlt, tabGo, h] at hgo
  simp [tabOk, ← hgo]
theorem tabOk_end {t : List GTs} {i : Nat} {e : Int} (hlt : ¬ i < t.length) (hgo : tabGo e (t.drop i) = tabGo 256 t) : tabOk t = decide (t.length ≤ 1024) := by
  rw [List.drop_of_length_le (by omega), tabGo] at hgo
  simp [tabOk, ← hgo]
theorem tabGo_at : ∀ {t : List GTs} {e : Int}, tabGo e t = true → ∀ i (h : i < t.length), e ≤ t[i].addr ∧ 1 ≤ t[i].size ∧ t[i].size ≤ 8192 ∧ t[i].addr + t[i].size ≤ 131072 ∧ isName t[i].name = true ∧ isName t[i].object = true ∧ 1 ≤ t[i].kind ∧ t[i].kind ≤ 3
  | s :: r, e, h, i, hi => by
    simp only [tabGo, tsOk, Bool.and_eq_true, decide_eq_true_eq] at h
    obtain ⟨⟨⟨⟨⟨⟨⟨⟨⟨h1, h2⟩, h3⟩, h4⟩, h5⟩, h6⟩, h7⟩, h8⟩, h9⟩, hr⟩ := h
    cases i with
    | zero => exact ⟨h7, h5, h6, h9, h1, h2, h3, h4⟩
    | succ i =>
      have := tabGo_at hr i (by simpa using hi)
      simp only [List.getElem_cons_succ]
      exact ⟨by omega, this.2⟩
theorem tabGo_lt : ∀ {t : List GTs} {e : Int}, tabGo e t = true → ∀ i j (h : i < j) (hj : j < t.length), t[i].addr + t[i].size ≤ t[j].addr
  | s :: r, e, h, i, j, hij, hj => by
    simp only [tabGo, Bool.and_eq_true] at h
    match i, j, hij with
    | 0, j + 1, _ => exact (tabGo_at h.2 j (by simpa using hj)).1
    | i + 1, j + 1, hij =>
      simp only [List.getElem_cons_succ]
      exact tabGo_lt h.2 i j (by omega) (by simpa using hj)
/-- which symbol has an address: where in the row, how far in it -/
def findT (t : List GTs) (a : Int) : Nat × Int × Bool :=
  if tabOk t = true then (match t.findIdx? (fun (s : GTs) => decide (s.addr ≤ a) && decide (a < s.addr + s.size)) with | some i => (i, a - (t[i]?.map GTs.addr).getD 0, true) | none => (0, 0, false)) else (0, 0, false)
theorem findT_bad {t : List GTs} {a : Int} (h : tabOk t = false) : findT t a = (0, 0, false) := by simp [findT, h]
theorem findT_at {t : List GTs} {a : Int} {i : Nat} (hok : tabOk t = true) (hi : i < t.length) (h1 : t[i].addr ≤ a) (h2 : a < t[i].addr + t[i].size) (hb : ∀ j (hj : j < i), ¬ (t[j].addr ≤ a ∧ a < t[j].addr + t[j].size)) : findT t a = (i, a - t[i].addr, true) := by
  have : t.findIdx? (fun (s : GTs) => decide (s.addr ≤ a) && decide (a < s.addr + s.size)) = some i := by
    rw [List.findIdx?_eq_some_iff_getElem]
    refine ⟨hi, by simp [h1, h2], fun j hj => ?_⟩
    have := hb j hj
    simp only [Bool.and_eq_true, decide_eq_true_eq]
    exact this
  simp [findT, hok, this, List.getElem?_eq_getElem hi]
theorem findT_none {t : List GTs} {a : Int} (hb : ∀ j (hj : j < t.length), ¬ (t[j].addr ≤ a ∧ a < t[j].addr + t[j].size)) : findT t a = (0, 0, false) := by
  have : t.findIdx? (fun (s : GTs) => decide (s.addr ≤ a) && decide (a < s.addr + s.size)) = none := by
    rw [List.findIdx?_eq_none_iff]
    intro x hx
    obtain ⟨j, hj, rfl⟩ := List.mem_iff_getElem.1 hx
    have := hb j hj
    simp only [Bool.and_eq_false_iff, decide_eq_false_iff_not]
    omega
  simp [findT, this]
theorem tabOk_go {t : List GTs} (h : tabOk t = true) : tabGo 256 t = true := by
  simp only [tabOk, Bool.and_eq_true] at h; exact h.1
/-- the first whose end lies behind an address -/
theorem findT_first {t : List GTs} {a : Int} {m : Nat} (hok : tabOk t = true) (hm : m ≤ t.length) (h0 : ∀ (h : 0 < m), t[m - 1].addr + t[m - 1].size ≤ a) (h1 : ∀ (h : m < t.length), a < t[m].addr + t[m].size) :
    findT t a = if h : m < t.length then (if t[m].addr ≤ a then (m, a - t[m].addr, true) else (0, 0, false)) else (0, 0, false) := by
  have hgo := tabOk_go hok
  have hbe : ∀ j (hj : j < t.length), j < m → t[j].addr + t[j].size ≤ a := fun j hj hjm => by
    by_cases hjl : j = m - 1
    · subst hjl; exact h0 (by omega)
    · have := tabGo_lt hgo j (m - 1) (by omega) (by omega)
      have := h0 (by omega)
      have := (tabGo_at hgo (m - 1) (by omega)).2.1
      omega
  by_cases hml : m < t.length
  · rw [dif_pos hml]
    by_cases ha : t[m].addr ≤ a
    · rw [if_pos ha]
      exact findT_at hok hml ha (h1 hml) fun j hj hc => by have := hbe j (by omega) hj; omega
    · rw [if_neg ha]
      refine findT_none fun j hj hc => ?_
      rcases Nat.lt_trichotomy j m with hjm | rfl | hjm
      · have := hbe j hj hjm; omega
      · exact ha hc.1
      · have := tabGo_lt hgo m j hjm hj; have := (tabGo_at hgo m hml).2.1; omega
  · rw [dif_neg hml]
    exact findT_none fun j hj hc => by have := hbe j hj (by omega); omega
/-- bytes -/
def encTs (s : GTs) : BL := encText s.name ++ encText s.object ++ leB 4 s.addr ++ leB 2 s.size ++ leB 1 s.kind
def magicT : BL := [65, 83, 84, 49]
def encTab (t : List GTs) : BL := magicT ++ leB 2 t.length ++ t.flatMap encTs
def rTs (st : RS) : GTs × RS :=
  let a := rText st
  let b := rText a.2
  let c := rNum 4 b.2
  let d := rNum 2 c.2
  let e := rNum 1 d.2
  (⟨a.1, b.1, c.1, d.1, e.1⟩, e.2)
def rTab (s : BL) : BL × List GTs × RS :=
  let m := rTake 4 (some s)
  let n := rNum 2 m.2
  let ss := rMany rTs n.1.toNat n.2
  (m.1, ss.1, ss.2)
def getT (s : BL) : Option (List GTs) := if (rTab s).2.2 = some [] ∧ (rTab s).1 = magicT ∧ tabOk (rTab s).2.1 = true then some (rTab s).2.1 else none
/-- digits -/
def hexD (v : Int) : UInt8 := if v < 10 then UInt8.ofNat (48 + v.toNat) else UInt8.ofNat (87 + v.toNat)
def hexS : Nat → Int → BL
  | 0, _ => []
  | n + 1, v => hexS n (v / 16) ++ [hexD (v % 16)]
def nameOf (t : List GTs) (a : Int) : ByteArray :=
  match findT t a with
  | (_, _, false) => bsOf (64 :: hexS 8 a)
  | (i, off, true) => if off = 0 then (t[i]?.map GTs.name).getD ⟨#[]⟩ else bsOf (((t[i]?.map GTs.name).getD ⟨#[]⟩).data.toList ++ 43 :: hexS 4 off)
def namedOf (t : List GTs) (n : ByteArray) : List GTs := if tabOk t = true then t.filter (fun (s : GTs) => decide (s.name = n)) else []
structure GMv where
  name : ByteArray
  object : ByteArray
  fro : Int
  to : Int
def ofT (t : List GTs) (s : GTs) : Int := ((t.find? (fun (x : GTs) => decide (x.name = s.name) && decide (x.object = s.object))).map GTs.addr).getD 0
def movesOf (a b : List GTs) : List GMv :=
  if tabOk a = true ∧ tabOk b = true then (a.filter (fun (s : GTs) => decide (ofT b s ≠ s.addr))).map (fun (s : GTs) => (⟨s.name, s.object, s.addr, ofT b s⟩ : GMv)) ++ (b.filter (fun (s : GTs) => decide (ofT a s = 0))).map (fun (s : GTs) => (⟨s.name, s.object, 0, s.addr⟩ : GMv)) else []
end Go.Proofs.YtoonkfhphbojcaaGreatDoor
