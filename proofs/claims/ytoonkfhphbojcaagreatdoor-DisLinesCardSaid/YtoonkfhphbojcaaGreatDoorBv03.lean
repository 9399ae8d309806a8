/- The plain notion of a name (layer 8): bytes of a small alphabet, 1 to 32 of them. No program in sight. Plain data of layer 8 (notes, places, symbols, objects) and how a world holds them. No program in sight. -/
import Derived.WalkKit
import Derived.WalkSpells
namespace Go.Proofs.YtoonkfhphbojcaaGreatDoor
/-- a byte of a name -/
def nameByte (c : UInt8) : Bool := (97 ≤ c && c ≤ 122) || (48 ≤ c && c ≤ 57) || c == 46 || c == 95
/-- the plain test -/
def isName (s : ByteArray) : Bool := s.data.toList.all nameByte && decide (1 ≤ s.size) && decide (s.size ≤ 32)
theorem take_snoc (s : ByteArray) (k : Nat) (h : k < s.size) : s.data.toList.take (k + 1) = s.data.toList.take k ++ [s[k]] := by
  rw [List.take_succ_eq_append_getElem (by simpa using h)]; rfl
theorem nameByte_int (c : UInt8) : nameByte c = (decide (97 ≤ (c.toNat : Int)) && decide ((c.toNat : Int) ≤ 122) || decide (48 ≤ (c.toNat : Int)) && decide ((c.toNat : Int) ≤ 57) || decide ((c.toNat : Int) = 46) || decide ((c.toNat : Int) = 95)) := by
  unfold nameByte
  rw [Bool.eq_iff_iff]
  simp [UInt8.le_iff_toNat_le, ← UInt8.toNat_inj]
  omega
theorem all_take_snoc {s : ByteArray} {k : Nat} (h : k < s.size) (ha : (s.data.toList.take k).all nameByte = true) (hb : nameByte s[k] = true) : (s.data.toList.take (k + 1)).all nameByte = true := by
  rw [take_snoc s k h, List.all_append, ha]; simp [hb]
theorem isName_bad {s : ByteArray} {k : Nat} (h : k < s.size) (hb : nameByte s[k] = false) : isName s = false := by
  have hm : s[k] ∈ s.data.toList := by
    have h2 : k < s.data.toList.length := by simpa using h
    have : s.data.toList[k] = s[k] := rfl
    rw [← this]; exact List.getElem_mem h2
  have : s.data.toList.all nameByte = false := by
    rw [List.all_eq_false]; exact ⟨s[k], hm, by simp [hb]⟩
  simp [isName, this]
theorem isName_end {s : ByteArray} {k : Nat} (h : ¬ k < s.size) (ha : (s.data.toList.take k).all nameByte = true) : isName s = (decide (1 ≤ s.size) && decide (s.size ≤ 32)) := by
  rw [List.take_of_length_le (by simpa using h)] at ha
  simp [isName, ha]
theorem isName_end' {s : ByteArray} {k : Nat} {b : Bool} (h : ¬ k < s.size) (ha : (s.data.toList.take k).all nameByte = true) (hb : (1 ≤ s.size ∧ s.size ≤ 32) ↔ b = true) : b = isName s := by
  rw [isName_end h ha, Bool.eq_iff_iff, ← hb]; simp
theorem toList_nil {s : ByteArray} (h : s.size = 0) : s.toList = [] := by
  rw [ByteArray.toList_eq]
  exact List.eq_nil_of_length_eq_zero (by simpa using h)
theorem toList_not_nil {s : ByteArray} (h : 1 ≤ s.size) : ¬ s.toList = [] := by
  rw [ByteArray.toList_eq]
  intro h2
  have := congrArg List.length h2
  simp at this
  rw [this] at h; simp at h
theorem toList_isEmpty {s : ByteArray} (h : 1 ≤ s.size) : s.toList.isEmpty = false := by simpa using toList_not_nil h
theorem mk_toList_isEmpty (r : List UInt8) : (ByteArray.mk r.toArray).toList.isEmpty = r.isEmpty := by rw [ByteArray.toList_eq]
end Go.Proofs.YtoonkfhphbojcaaGreatDoor
namespace Go.Proofs.YtoonkfhphbojcaaGreatDoor
open Go.RowKit
structure GNote where
  kind : Int
  n : Int
  m : Int
structure GRel where
  off : Int
  kind : Int
  name : ByteArray
  add : Int
structure GSym where
  name : ByteArray
  bind : Int
  kind : Int
  size : Int
  bytes : ByteArray
  rels : List GRel
  notes : List GNote
structure GObj where
  name : ByteArray
  syms : List GSym
/-- a slice of elements of k cells -/
def RowAt {α : Type} (k : Nat) (R : World → Nat → Nat → α → Prop) (w : World) (v : Value) (l : List α) : Prop :=
  ∃ (p : Option Addr) (cap b o : Nat), v = .slice p l.length cap ∧ l.length ≤ cap ∧ l.length ≤ 140737488355328 ∧ (0 < l.length → p = some ⟨b, o, none⟩) ∧ ∀ i (h : i < l.length), R w b (o + i * k) l[i]
def NoteR (w : World) (b o : Nat) (x : GNote) : Prop :=
  b < w.heap.size ∧ w.cell? ⟨b, o, none⟩ = some (.int .u8 x.kind) ∧ w.cell? ⟨b, o + 1, none⟩ = some (.int .u32 x.n) ∧ w.cell? ⟨b, o + 2, none⟩ = some (.int .u32 x.m) ∧
  (0 ≤ x.kind ∧ x.kind ≤ 255) ∧ (0 ≤ x.n ∧ x.n ≤ 4294967295) ∧ (0 ≤ x.m ∧ x.m ≤ 4294967295)
def RelR (w : World) (b o : Nat) (x : GRel) : Prop :=
  b < w.heap.size ∧ w.cell? ⟨b, o, none⟩ = some (.int .u32 x.off) ∧ w.cell? ⟨b, o + 1, none⟩ = some (.int .u8 x.kind) ∧ w.cell? ⟨b, o + 2, none⟩ = some (.string x.name) ∧ w.cell? ⟨b, o + 3, none⟩ = some (.int .u32 x.add) ∧
  (0 ≤ x.off ∧ x.off ≤ 4294967295) ∧ (0 ≤ x.kind ∧ x.kind ≤ 255) ∧ (0 ≤ x.add ∧ x.add ≤ 4294967295) ∧ x.name.size ≤ 140737488355328
/-- a symbol's rows -/
def SymIn (w : World) (s : GSym) (vr vn : Value) : Prop :=
  RowAt 4 RelR w vr s.rels ∧ RowAt 3 NoteR w vn s.notes ∧
  (0 ≤ s.bind ∧ s.bind ≤ 255) ∧ (0 ≤ s.kind ∧ s.kind ≤ 255) ∧ (0 ≤ s.size ∧ s.size ≤ 4294967295) ∧ s.name.size ≤ 140737488355328 ∧ s.bytes.size ≤ 140737488355328
theorem SymIn.shape {w : World} {s : GSym} {vr vn : Value} (h : SymIn w s vr vn) : ∃ (p1 : Option Addr) (c1 : Nat) (p2 : Option Addr) (c2 : Nat), vr = .slice p1 s.rels.length c1 ∧ vn = .slice p2 s.notes.length c2 := by
  obtain ⟨⟨p1, c1, _, _, h1, _⟩, ⟨p2, c2, _, _, h2, _⟩, _⟩ := h
  exact ⟨p1, c1, p2, c2, h1, h2⟩
def SymR (w : World) (b o : Nat) (s : GSym) : Prop :=
  ∃ vr vn, b < w.heap.size ∧ w.cell? ⟨b, o, none⟩ = some (.string s.name) ∧ w.cell? ⟨b, o + 1, none⟩ = some (.int .u8 s.bind) ∧ w.cell? ⟨b, o + 2, none⟩ = some (.int .u8 s.kind) ∧ w.cell? ⟨b, o + 3, none⟩ = some (.int .u32 s.size) ∧
    w.cell? ⟨b, o + 4, none⟩ = some (.string s.bytes) ∧ w.cell? ⟨b, o + 5, none⟩ = some vr ∧ w.cell? ⟨b, o + 6, none⟩ = some vn ∧ SymIn w s vr vn
def ObjIn (w : World) (x : GObj) (vs : Value) : Prop := RowAt 7 SymR w vs x.syms ∧ x.name.size ≤ 140737488355328
def ObjR (w : World) (b o : Nat) (x : GObj) : Prop :=
  ∃ vs, b < w.heap.size ∧ w.cell? ⟨b, o, none⟩ = some (.string x.name) ∧ w.cell? ⟨b, o + 1, none⟩ = some vs ∧ ObjIn w x vs
/-- objects, as a slice -/
def ObjsAt (w : World) (v : Value) (l : List GObj) : Prop := RowAt 2 ObjR w v l
/-- what a world that keeps w's blocks keeps -/
def Keeps {α : Type} (R : World → Nat → Nat → α → Prop) : Prop := ∀ (w w' : World) b o x, Below w.heap.size w w' → R w b o x → R w' b o x
theorem RowAt.keep {α : Type} {k : Nat} {R : World → Nat → Nat → α → Prop} (hR : Keeps R) {w w' : World} {v : Value} {l : List α} (hb : Below w.heap.size w w') (h : RowAt k R w v l) : RowAt k R w' v l := by
  obtain ⟨p, cap, b, o, h1, h2, h3, h4, h5⟩ := h
  exact ⟨p, cap, b, o, h1, h2, h3, h4, fun i hi => hR w w' _ _ _ hb (h5 i hi)⟩
theorem cell_keep {w w' : World} {b o : Nat} {v : Value} (hb : Below w.heap.size w w') (h0 : b < w.heap.size) (h : w.cell? ⟨b, o, none⟩ = some v) : w'.cell? ⟨b, o, none⟩ = some v := by
  rw [hb.cell (p := ⟨b, o, none⟩) h0]; exact h
theorem size_keep {w w' : World} {b : Nat} (hb : Below w.heap.size w w') (h0 : b < w.heap.size) : b < w'.heap.size := Nat.lt_of_lt_of_le h0 hb.size
theorem noteR_keeps : Keeps NoteR := fun _ _ _ _ _ hb ⟨h0, h1, h2, h3, r⟩ => ⟨size_keep hb h0, cell_keep hb h0 h1, cell_keep hb h0 h2, cell_keep hb h0 h3, r⟩
theorem relR_keeps : Keeps RelR := fun _ _ _ _ _ hb ⟨h0, h1, h2, h3, h4, r⟩ => ⟨size_keep hb h0, cell_keep hb h0 h1, cell_keep hb h0 h2, cell_keep hb h0 h3, cell_keep hb h0 h4, r⟩
theorem SymIn.keep {w w' : World} {s : GSym} {vr vn : Value} (hb : Below w.heap.size w w') (h : SymIn w s vr vn) : SymIn w' s vr vn := ⟨h.1.keep relR_keeps hb, h.2.1.keep noteR_keeps hb, h.2.2⟩
theorem symR_keeps : Keeps SymR := fun _ _ _ _ _ hb ⟨vr, vn, h0, h1, h2, h3, h4, h5, h6, h7, r⟩ => ⟨vr, vn, size_keep hb h0, cell_keep hb h0 h1, cell_keep hb h0 h2, cell_keep hb h0 h3, cell_keep hb h0 h4, cell_keep hb h0 h5, cell_keep hb h0 h6, cell_keep hb h0 h7, r.keep hb⟩
theorem ObjIn.keep {w w' : World} {x : GObj} {vs : Value} (hb : Below w.heap.size w w') (h : ObjIn w x vs) : ObjIn w' x vs := ⟨h.1.keep symR_keeps hb, h.2⟩
theorem objR_keeps : Keeps ObjR := fun _ _ _ _ _ hb ⟨vs, h0, h1, h2, r⟩ => ⟨vs, size_keep hb h0, cell_keep hb h0 h1, cell_keep hb h0 h2, r.keep hb⟩
theorem ObjsAt.keep {w w' : World} {v : Value} {l : List GObj} (hb : Below w.heap.size w w') (h : ObjsAt w v l) : ObjsAt w' v l := RowAt.keep objR_keeps hb h
/-- old cells and marks in a later world, as rules for the walk -/
theorem bcell {B : Nat} {W w1 : World} (hb : Below B W w1) : (∀ b o, b < B → w1.cell? ⟨b, o, none⟩ = W.cell? ⟨b, o, none⟩) ∧ (∀ b o, b < B → w1.frozen? ⟨b, o, none⟩ = W.frozen? ⟨b, o, none⟩) :=
  ⟨fun b o h => hb.cell (p := ⟨b, o, none⟩) h, fun b o h => hb.frozen (p := ⟨b, o, none⟩) h⟩
theorem ret_bool {a b : Bool} (h : a = b) : Ending.returned (.bool a) = .returned (.bool b) := by rw [h]
theorem ret_int {k : IntKind} {a b : Int} (h : a = b) : Ending.returned (.int k a) = .returned (.int k b) := by rw [h]
theorem alloc_old (w : World) (ob : Obj) : Below w.heap.size w (w.alloc ob) := (Below.refl _ _).alloc (Nat.le_refl _) ob
/-- how many bytes a place has -/
def widthOf (k : Int) : Int := if k = 1 then 4 else if k = 2 then 2 else 0
def relsGo (n : Int) : Int → List GRel → Bool
  | _, [] => true
  | e, x :: r => decide (widthOf x.kind ≠ 0) && isName x.name && decide (x.off ≤ 8192) && decide (e ≤ x.off) && decide (x.off + widthOf x.kind ≤ n) && relsGo n (x.off + widthOf x.kind) r
def relsOk (s : GSym) : Bool := relsGo s.bytes.size 0 s.rels && decide (s.rels.length ≤ 1024)
theorem relsOk_no {s : GSym} {k : Nat} {e : Int} {x : GRel} (hlt : k < s.rels.length) (hx : s.rels[k] = x) (hgo : relsGo s.bytes.size e (s.rels.drop k) = relsGo s.bytes.size 0 s.rels)
    (h : (decide (widthOf x.kind ≠ 0) && isName x.name && decide (x.off ≤ 8192) && decide (e ≤ x.off) && decide (x.off + widthOf x.kind ≤ s.bytes.size)) = false) : false = relsOk s := by
  rw [List.drop_eq_getElem_cons hlt, hx, relsGo, h] at hgo
  simp [relsOk, ← hgo]
theorem relsGo_yes {n : Int} {l : List GRel} {k : Nat} {e g : Int} {x : GRel} (hlt : k < l.length) (hx : l[k] = x) (hgo : relsGo n e (l.drop k) = relsGo n 0 l)
    (h : (decide (widthOf x.kind ≠ 0) && isName x.name && decide (x.off ≤ 8192) && decide (e ≤ x.off) && decide (x.off + widthOf x.kind ≤ n)) = true) (hg : g = x.off + widthOf x.kind) : relsGo n g (l.drop (k + 1)) = relsGo n 0 l := by
  rw [← hgo, List.drop_eq_getElem_cons hlt, hx, relsGo, h, hg]; simp
theorem relsOk_end {s : GSym} {k : Nat} {e : Int} (hlt : ¬ k < s.rels.length) (hgo : relsGo s.bytes.size e (s.rels.drop k) = relsGo s.bytes.size 0 s.rels) : decide ((s.rels.length : Int) ≤ 1024) = relsOk s := by
  rw [List.drop_of_length_le (by omega), relsGo] at hgo
  simp [relsOk, ← hgo]; omega
theorem widthOf_bd (k : Int) : 0 ≤ widthOf k ∧ widthOf k ≤ 4 := by unfold widthOf; split <;> (try split) <;> omega
theorem drop_cons {α : Type} {l : List α} {k : Nat} (h : k < l.length) : l.drop k = l[k] :: l.drop (k + 1) := List.drop_eq_getElem_cons h
theorem new_block (w : World) (o : Obj) : (w.alloc o).heap[w.heap.size]? = some o := by
  show (w.heap.push o)[w.heap.size]? = _
  exact Array.getElem?_push_size
end Go.Proofs.YtoonkfhphbojcaaGreatDoor
