/- The plain notion of a name (layer 8): bytes of a small alphabet, 1 to 32 of them. No program in sight. Plain data of layer 8 (notes, places, symbols, objects) and how a world holds them. No program in. -/
import Derived.WalkKit
import Derived.WalkSpells
import Derived.Lib.SlTrimSet
import Derived.Test.YtboegjdkedjhcaaGreatDoorRows
import Derived.Test.YtboegjdkedjhcaaGreatDoorTrimLay
import Derived.WalkLawsBesides
import Derived.Lib.Hide
namespace Go.Proofs.YtboegjdkedjhcaaGreatDoor
section
def nameByte (c : UInt8) : Bool := (97 ≤ c && c ≤ 122) || (48 ≤ c && c ≤ 57) || c == 46 || c == 95
def isName (s : ByteArray) : Bool := s.data.toList.all nameByte && decide (1 ≤ s.size) && decide (s.size ≤ 32)
theorem toList_nil {s : ByteArray} (h : s.size = 0) : s.toList = [] := by
 rw [ByteArray.toList_eq]; exact List.eq_nil_of_length_eq_zero (by simpa using h)
theorem toList_not_nil {s : ByteArray} (h : 1 ≤ s.size) : ¬ s.toList = [] := by
 rw [ByteArray.toList_eq]; intro h2; have := congrArg List.length h2; simp at this; rw [this] at h; simp at h
theorem toList_isEmpty {s : ByteArray} (h : 1 ≤ s.size) : s.toList.isEmpty = false := by simpa using toList_not_nil h
end
section
open Go.RowKit
structure GNote where
 kind : Int
 n : Int
 m : Int
structure GRel where
 off : Int
 kind : Int
 name : ByteArray
 add : Int
structure GSym where
 name : ByteArray
 bind : Int
 kind : Int
 size : Int
 bytes : ByteArray
 rels : List GRel
 notes : List GNote
structure GObj where
 name : ByteArray
 syms : List GSym
def RowAt {α : Type} (k : Nat) (R : World → Nat → Nat → α → Prop) (w : World) (v : Value) (l : List α) : Prop :=
 ∃ (p : Option Addr) (cap b o : Nat), v = .slice p l.length cap ∧ l.length ≤ cap ∧ l.length ≤ 140737488355328 ∧ (0 < l.length → p = some ⟨b, o, none⟩) ∧ ∀ i (h : i < l.length), R w b (o + i * k) l[i]
def NoteR (w : World) (b o : Nat) (x : GNote) : Prop :=
 b < w.heap.size ∧ w.cell? ⟨b, o, none⟩ = some (.int .u8 x.kind) ∧ w.cell? ⟨b, o + 1, none⟩ = some (.int .u32 x.n) ∧ w.cell? ⟨b, o + 2, none⟩ = some (.int .u32 x.m) ∧
 (0 ≤ x.kind ∧ x.kind ≤ 255) ∧ (0 ≤ x.n ∧ x.n ≤ 4294967295) ∧ (0 ≤ x.m ∧ x.m ≤ 4294967295)
def RelR (w : World) (b o : Nat) (x : GRel) : Prop :=
 b < w.heap.size ∧ w.cell? ⟨b, o, none⟩ = some (.int .u32 x.off) ∧ w.cell? ⟨b, o + 1, none⟩ = some (.int .u8 x.kind) ∧ w.cell? ⟨b, o + 2, none⟩ = some (.string x.name) ∧ w.cell? ⟨b, o + 3, none⟩ = some (.int .u32 x.add) ∧
 (0 ≤ x.off ∧ x.off ≤ 4294967295) ∧ (0 ≤ x.kind ∧ x.kind ≤ 255) ∧ (0 ≤ x.add ∧ x.add ≤ 4294967295) ∧ x.name.size ≤ 140737488355328
def SymIn (w : World) (s : GSym) (vr vn : Value) : Prop :=
 RowAt 4 RelR w vr s.rels ∧ RowAt 3 NoteR w vn s.notes ∧
 (0 ≤ s.bind ∧ s.bind ≤ 255) ∧ (0 ≤ s.kind ∧ s.kind ≤ 255) ∧ (0 ≤ s.size ∧ s.size ≤ 4294967295) ∧ s.name.size ≤ 140737488355328 ∧ s.bytes.size ≤ 140737488355328
theorem SymIn.shape {w : World} {s : GSym} {vr vn : Value} (h : SymIn w s vr vn) : ∃ (p1 : Option Addr) (c1 : Nat) (p2 : Option Addr) (c2 : Nat), vr = .slice p1 s.rels.length c1 ∧ vn = .slice p2 s.notes.length c2 := by
 obtain ⟨⟨p1, c1, _, _, h1, _⟩, ⟨p2, c2, _, _, h2, _⟩, _⟩ := h; exact ⟨p1, c1, p2, c2, h1, h2⟩
def SymR (w : World) (b o : Nat) (s : GSym) : Prop :=
 ∃ vr vn, b < w.heap.size ∧ w.cell? ⟨b, o, none⟩ = some (.string s.name) ∧ w.cell? ⟨b, o + 1, none⟩ = some (.int .u8 s.bind) ∧ w.cell? ⟨b, o + 2, none⟩ = some (.int .u8 s.kind) ∧ w.cell? ⟨b, o + 3, none⟩ = some (.int .u32 s.size) ∧
   w.cell? ⟨b, o + 4, none⟩ = some (.string s.bytes) ∧ w.cell? ⟨b, o + 5, none⟩ = some vr ∧ w.cell? ⟨b, o + 6, none⟩ = some vn ∧ SymIn w s vr vn
def ObjIn (w : World) (x : GObj) (vs : Value) : Prop := RowAt 7 SymR w vs x.syms ∧ x.name.size ≤ 140737488355328
def ObjR (w : World) (b o : Nat) (x : GObj) : Prop :=
 ∃ vs, b < w.heap.size ∧ w.cell? ⟨b, o, none⟩ = some (.string x.name) ∧ w.cell? ⟨b, o + 1, none⟩ = some vs ∧ ObjIn w x vs
def ObjsAt (w : World) (v : Value) (l : List GObj) : Prop := RowAt 2 ObjR w v l
def Keeps {α : Type} (R : World → Nat → Nat → α → Prop) : Prop := ∀ (w w' : World) b o x, Below w.heap.size w w' → R w b o x → R w' b o x
theorem RowAt.keep {α : Type} {k : Nat} {R : World → Nat → Nat → α → Prop} (hR : Keeps R) {w w' : World} {v : Value} {l : List α} (hb : Below w.heap.size w w') (h : RowAt k R w v l) : RowAt k R w' v l := by
 obtain ⟨p, cap, b, o, h1, h2, h3, h4, h5⟩ := h; exact ⟨p, cap, b, o, h1, h2, h3, h4, fun i hi => hR w w' _ _ _ hb (h5 i hi)⟩
theorem cell_keep {w w' : World} {b o : Nat} {v : Value} (hb : Below w.heap.size w w') (h0 : b < w.heap.size) (h : w.cell? ⟨b, o, none⟩ = some v) : w'.cell? ⟨b, o, none⟩ = some v := by
 rw [hb.cell (p := ⟨b, o, none⟩) h0]; exact h
theorem size_keep {w w' : World} {b : Nat} (hb : Below w.heap.size w w') (h0 : b < w.heap.size) : b < w'.heap.size := Nat.lt_of_lt_of_le h0 hb.size
theorem noteR_keeps : Keeps NoteR := fun _ _ _ _ _ hb ⟨h0, h1, h2, h3, r⟩ => ⟨size_keep hb h0, cell_keep hb h0 h1, cell_keep hb h0 h2, cell_keep hb h0 h3, r⟩
theorem relR_keeps : Keeps RelR := fun _ _ _ _ _ hb ⟨h0, h1, h2, h3, h4, r⟩ => ⟨size_keep hb h0, cell_keep hb h0 h1, cell_keep hb h0 h2, cell_keep hb h0 h3, cell_keep hb h0 h4, r⟩
theorem SymIn.keep {w w' : World} {s : GSym} {vr vn : Value} (hb : Below w.heap.size w w') (h : SymIn w s vr vn) : SymIn w' s vr vn := ⟨h.1.keep relR_keeps hb, h.2.1.keep noteR_keeps hb, h.2.2⟩
theorem symR_keeps : Keeps SymR := fun _ _ _ _ _ hb ⟨vr, vn, h0, h1, h2, h3, h4, h5, h6, h7, r⟩ => ⟨vr, vn, size_keep hb h0, cell_keep hb h0 h1, cell_keep hb h0 h2, cell_keep hb h0 h3, cell_keep hb h0 h4, cell_keep hb h0 h5, cell_keep hb h0 h6, cell_keep hb h0 h7, r.keep hb⟩
theorem ObjIn.keep {w w' : World} {x : GObj} {vs : Value} (hb : Below w.heap.size w w') (h : ObjIn w x vs) : ObjIn w' x vs := ⟨h.1.keep symR_keeps hb, h.2⟩
theorem objR_keeps : Keeps ObjR := fun _ _ _ _ _ hb ⟨vs, h0, h1, h2, r⟩ => ⟨vs, size_keep hb h0, cell_keep hb h0 h1, cell_keep hb h0 h2, r.keep hb⟩
theorem ObjsAt.keep {w w' : World} {v : Value} {l : List GObj} (hb : Below w.heap.size w w') (h : ObjsAt w v l) : ObjsAt w' v l := RowAt.keep objR_keeps hb h
theorem bcell {B : Nat} {W w1 : World} (hb : Below B W w1) : (∀ b o, b < B → w1.cell? ⟨b, o, none⟩ = W.cell? ⟨b, o, none⟩) ∧ (∀ b o, b < B → w1.frozen? ⟨b, o, none⟩ = W.frozen? ⟨b, o, none⟩) :=
 ⟨fun b o h => hb.cell (p := ⟨b, o, none⟩) h, fun b o h => hb.frozen (p := ⟨b, o, none⟩) h⟩
theorem ret_bool {a b : Bool} (h : a = b) : Ending.returned (.bool a) = .returned (.bool b) := by rw [h]
theorem ret_int {k : IntKind} {a b : Int} (h : a = b) : Ending.returned (.int k a) = .returned (.int k b) := by rw [h]
theorem alloc_old (w : World) (ob : Obj) : Below w.heap.size w (w.alloc ob) := (Below.refl _ _).alloc (Nat.le_refl _) ob
def widthOf (k : Int) : Int := if k = 1 then 4 else if k = 2 then 2 else 0
def relsGo (n : Int) : Int → List GRel → Bool
 | _, [] => true
 | e, x :: r => decide (widthOf x.kind ≠ 0) && isName x.name && decide (x.off ≤ 8192) && decide (e ≤ x.off) && decide (x.off + widthOf x.kind ≤ n) && relsGo n (x.off + widthOf x.kind) r
def relsOk (s : GSym) : Bool := relsGo s.bytes.size 0 s.rels && decide (s.rels.length ≤ 1024)
theorem relsGo_yes {n : Int} {l : List GRel} {k : Nat} {e g : Int} {x : GRel} (hlt : k < l.length) (hx : l[k] = x) (hgo : relsGo n e (l.drop k) = relsGo n 0 l)
 (h : (decide (widthOf x.kind ≠ 0) && isName x.name && decide (x.off ≤ 8192) && decide (e ≤ x.off) && decide (x.off + widthOf x.kind ≤ n)) = true) (hg : g = x.off + widthOf x.kind) : relsGo n g (l.drop (k + 1)) = relsGo n 0 l := by
 rw [← hgo, List.drop_eq_getElem_cons hlt, hx, relsGo, h, hg]; simp
theorem widthOf_bd (k : Int) : 0 ≤ widthOf k ∧ widthOf k ≤ 4 := by unfold widthOf; split <;> (try split) <;> omega
end
section
theorem ibeq (a b : Int) : (a == b) = decide (a = b) := rfl
def errB (b : Bool) : Int := if b then 0 else 2
def noteOk (x : GNote) : Bool :=
 if x.kind = 1 then decide (x.n ≤ 1024) && decide (x.m = 0)
 else if x.kind = 2 then decide (x.n < 16) && decide (1 ≤ x.m) && decide (x.m ≤ 1024)
 else if x.kind = 3 then decide (1 ≤ x.n) && decide (x.n ≤ 65535) && decide (x.m = 0)
 else if x.kind = 4 then decide (x.n = 0) && decide (x.m = 0)
 else false
def len32 (s : ByteArray) : Int := (s.size : Int) % 4294967296
def sizedB (kind size n : Int) : Bool := decide (1 ≤ size) && decide (size ≤ 8192) && decide (n ≤ size) && (decide (kind ≠ 1) || (decide (n = size) && decide (n % 8 = 0)))
def sizedOk (s : GSym) : Bool := sizedB s.kind s.size (len32 s.bytes)
theorem sizedB_eq {kind size n : Int} {b : Bool} (h : b = true ↔ (1 ≤ size ∧ size ≤ 8192 ∧ n ≤ size ∧ (kind ≠ 1 ∨ (n = size ∧ n % 8 = 0)))) : b = sizedB kind size n := by
 rw [Bool.eq_iff_iff, h]; simp [sizedB, and_assoc]
def placesOk (s : GSym) : Bool := relsGo (len32 s.bytes) 0 s.rels && decide (s.rels.length ≤ 1024)
def symOkP (s : GSym) : Bool :=
 isName s.name && decide (s.bind ≤ 2) && decide (1 ≤ s.kind) && decide (s.kind ≤ 3) && sizedOk s && placesOk s && decide (s.notes.length ≤ 8) && s.notes.all noteOk
def symOk (s : GSym) : Bool :=
 isName s.name && decide (s.bind ≤ 2) && decide (1 ≤ s.kind) && decide (s.kind ≤ 3) && decide (1 ≤ s.size) && decide (s.size ≤ 8192) && decide ((s.bytes.size : Int) ≤ s.size) &&
  (decide (s.kind ≠ 1) || (decide ((s.bytes.size : Int) = s.size) && decide (s.size % 8 = 0))) && s.notes.all noteOk && relsOk s && decide (s.notes.length ≤ 8)
def hasName (l : List GSym) (n : List UInt8) : Bool := l.any fun t => t.name.data.toList == n
def symsGo : List GSym → List GSym → Bool
 | _, [] => true
 | seen, s :: r => !hasName seen s.name.data.toList && symOkP s && symsGo (seen ++ [s]) r
theorem hasName_snoc (l : List GSym) (s : GSym) (n : List UInt8) : hasName (l ++ [s]) n = (hasName l n || s.name.data.toList == n) := by simp [hasName]
def mayP (o : GObj) : Bool := symsGo [] o.syms && isName o.name && decide (o.syms.length ≤ 64)
theorem mayP_no {o : GObj} {k : Nat} {x : GSym} (hlt : k < o.syms.length) (hx : o.syms[k] = x) (hgo : symsGo (o.syms.take k) (o.syms.drop k) = symsGo [] o.syms)
 (h : hasName (o.syms.take k) x.name.data.toList = true ∨ symOkP x = false) : false = mayP o := by
 rw [List.drop_eq_getElem_cons hlt, hx, symsGo] at hgo; rcases h with h | h <;> simp [mayP, ← hgo, h]
theorem symsGo_yes {l : List GSym} {k : Nat} {x : GSym} (hlt : k < l.length) (hx : l[k] = x) (hgo : symsGo (l.take k) (l.drop k) = symsGo [] l)
 (h1 : hasName (l.take k) x.name.data.toList = false) (h2 : symOkP x = true) : symsGo (l.take (k + 1)) (l.drop (k + 1)) = symsGo [] l := by
 rw [← hgo, List.drop_eq_getElem_cons hlt, hx, symsGo, h1, h2, List.take_succ_eq_append_getElem hlt, hx]; simp
theorem mayP_end {o : GObj} {k : Nat} (hlt : ¬ k < o.syms.length) (hgo : symsGo (o.syms.take k) (o.syms.drop k) = symsGo [] o.syms) : mayP o = (isName o.name && decide (o.syms.length ≤ 64)) := by
 rw [List.drop_of_length_le (by omega), symsGo] at hgo
 simp [mayP, ← hgo]
def seenFn (l : List GSym) (n : List UInt8) : Option Value := if hasName l n then some (.int .i64 1) else none
theorem seenFn_snoc {l : List GSym} {k : Nat} {x : GSym} (hlt : k < l.length) (hx : l[k] = x) : (fun n => if n = x.name.data.toList then some (Value.int .i64 1) else seenFn (l.take k) n) = seenFn (l.take (k + 1)) := by
 funext n
 simp only [seenFn]; rw [List.take_succ_eq_append_getElem hlt, hx, hasName_snoc]
 by_cases h : n = x.name.data.toList
 ·simp [h]
 ·have h2 : (x.name.data.toList == n) = false := by simp; exact fun e => h e.symm
  simp [h, h2]
theorem seenFn_nil : (fun _ => none) = seenFn [] := by funext n; simp [seenFn, hasName]
theorem seenFn_yes {l : List GSym} {n : List UInt8} (h : hasName l n = true) : (seenFn l n).getD (.int .i64 0) = .int .i64 1 := by simp [seenFn, h]
theorem seenFn_no {l : List GSym} {n : List UInt8} (h : hasName l n = false) : (seenFn l n).getD (.int .i64 0) = .int .i64 0 := by simp [seenFn, h]
theorem take_all_snoc {α : Type} {p : α → Bool} {l : List α} {k : Nat} {x : α} (h : k < l.length) (hx : l[k] = x) (ha : (l.take k).all p = true) (hb : p x = true) : (l.take (k + 1)).all p = true := by
 rw [List.take_succ_eq_append_getElem h, List.all_append, ha, hx]; simp [hb]
theorem all_bad {α : Type} {p : α → Bool} {l : List α} {k : Nat} {x : α} (h : k < l.length) (hx : l[k] = x) (hb : p x = false) : l.all p = false := by
 rw [List.all_eq_false]; exact ⟨x, hx ▸ List.getElem_mem h, by simp [hb]⟩
theorem all_end {α : Type} {p : α → Bool} {l : List α} {k : Nat} (h : ¬ k < l.length) (ha : (l.take k).all p = true) : l.all p = true := by
 rwa [List.take_of_length_le (by omega)] at ha
end
section
structure Spot where
 obj : Nat
 sym : Nat
 it : GSym
def symsFrom (i : Nat) : Nat → List GSym → List Spot
 | _, [] => []
 | k, s :: r => ⟨i, k, s⟩ :: symsFrom i (k + 1) r
def objsFrom : Nat → List GObj → List Spot
 | _, [] => []
 | i, o :: r => symsFrom i 0 o.syms ++ objsFrom (i + 1) r
def flat (l : List GObj) : List Spot := objsFrom 0 l
def hits (n : List UInt8) (bind : Int) (x : Spot) : Bool := x.it.name.data.toList == n && decide (x.it.bind = bind)
def firstBy (l : List Spot) (n : List UInt8) (bind : Int) : Option (Nat × Nat) := (l.find? (hits n bind)).map fun x => (x.obj, x.sym)
def winnerIn (l : List Spot) (n : List UInt8) : Option (Nat × Nat) := match firstBy l n 1 with | some p => some p | none => firstBy l n 2
def dupGo : List Spot → List Spot → Option ByteArray
 | _, [] => none
 | pre, x :: r => if x.it.bind = 1 ∧ (firstBy pre x.it.name.data.toList 1).isSome = true then some x.it.name else dupGo (pre ++ [x]) r
def mayAll (l : List GObj) : Bool := decide (l.length ≤ 16) && l.all mayP
def emptyB : ByteArray := ⟨#[]⟩
def beginR (l : List GObj) : ByteArray × Int :=
 if mayAll l then (match dupGo [] (flat l) with | some n => (n, 120) | none => (emptyB, 0)) else (emptyB, 2)
def placeV (p : Nat × Nat) : Value := .agg #[.int .i64 p.1, .int .i64 p.2]
def tabFn (l : List Spot) (n : List UInt8) : Option Value := (winnerIn l n).map placeV
def strongFn (l : List Spot) (n : List UInt8) : Option Value := if (firstBy l n 1).isSome then some (.int .i64 1) else none
def isLocal (n : List UInt8) (s : GSym) : Bool := s.name.data.toList == n && decide (s.bind = 0)
def localAt (l : List GObj) (i : Nat) (n : List UInt8) : Option (Nat × Nat) := match l[i]? with | some o => (o.syms.findIdx? (isLocal n)).map (fun k => (i, k)) | none => none
def findR (l : List GObj) (i : Int) (n : List UInt8) : Option (Nat × Nat) :=
 match (if 0 ≤ i then localAt l i.toNat n else none) with | some p => some p | none => winnerIn (flat l) n
def findAll (l : List GObj) (i : Int) (n : List UInt8) : (Nat × Nat) × Int :=
 if (beginR l).2 ≠ 0 then ((0, 0), (beginR l).2) else if i < -1 ∨ (l.length : Int) ≤ i then ((0, 0), 2) else match findR l i n with | some p => (p, 0) | none => ((0, 0), 121)
theorem findIdx_none {α : Type} {p : α → Bool} {l : List α} (h : l.all (fun x => !p x) = true) : l.findIdx? p = none := by
 rw [List.findIdx?_eq_none_iff]; intro x hx; simpa using List.all_eq_true.1 h x hx
theorem findIdx_some {α : Type} {p : α → Bool} {l : List α} {k : Nat} {x : α} (h : k < l.length) (hx : l[k] = x) (hp : p x = true) (ha : (l.take k).all (fun x => !p x) = true) : l.findIdx? p = some k := by
 rw [List.findIdx?_eq_some_iff_getElem]; refine ⟨h, by rw [hx]; exact hp, fun j hj => ?_⟩
 have : l[j] ∈ l.take k := by
  rw [List.mem_take_iff_getElem]; exact ⟨j, by omega, by simp⟩
 have := List.all_eq_true.1 ha _ this; simpa using this
theorem firstBy_snoc (l : List Spot) (x : Spot) (n : List UInt8) (b : Int) : firstBy (l ++ [x]) n b = match firstBy l n b with | some p => some p | none => if hits n b x then some (x.obj, x.sym) else none := by
 unfold firstBy; rw [List.find?_append]; cases h : l.find? (hits n b) with
 | some y => simp
 | none => by_cases h2 : hits n b x <;> simp [h2]
theorem tabFn_nil : (fun _ => none) = tabFn [] := by funext n; rfl
theorem strongFn_nil : (fun _ => none) = strongFn [] := by funext n; rfl
theorem hits_other {n : List UInt8} {b : Int} {x : Spot} (h : ¬ n = x.it.name.data.toList) : hits n b x = false := by
 simp [hits]; intro e; exact absurd e.symm h
theorem hits_bind {n : List UInt8} {b : Int} {x : Spot} (h : ¬ x.it.bind = b) : hits n b x = false := by simp [hits, h]
theorem hits_self {b : Int} {x : Spot} (h : x.it.bind = b) : hits x.it.name.data.toList b x = true := by simp [hits, h]
theorem winnerIn_snoc_other (l : List Spot) (x : Spot) {n : List UInt8} (h : ¬ n = x.it.name.data.toList) : winnerIn (l ++ [x]) n = winnerIn l n := by
 unfold winnerIn; rw [firstBy_snoc, firstBy_snoc, hits_other h, hits_other h]; cases firstBy l n 1 <;> cases firstBy l n 2 <;> rfl
theorem tab_strong {l : List Spot} {x : Spot} (hb : x.it.bind = 1) (hn : (firstBy l x.it.name.data.toList 1).isSome = false) :
 (fun n => if n = x.it.name.data.toList then some (placeV (x.obj, x.sym)) else tabFn l n) = tabFn (l ++ [x]) := by
 funext n
 unfold tabFn
 by_cases h : n = x.it.name.data.toList
 ·subst h; simp only [if_true]; have : firstBy l x.it.name.data.toList 1 = none := by simpa using hn
  unfold winnerIn; rw [firstBy_snoc, this, hits_self hb]; rfl
 ·rw [if_neg h, winnerIn_snoc_other l x h]
theorem tab_weak {l : List Spot} {x : Spot} (hb : x.it.bind = 2) (hn : (winnerIn l x.it.name.data.toList).isSome = false) :
 (fun n => if n = x.it.name.data.toList then some (placeV (x.obj, x.sym)) else tabFn l n) = tabFn (l ++ [x]) := by
 funext n
 unfold tabFn
 by_cases h : n = x.it.name.data.toList
 ·subst h; simp only [if_true]; have h0 : winnerIn l x.it.name.data.toList = none := by simpa using hn
  unfold winnerIn at h0 ⊢; rw [firstBy_snoc, firstBy_snoc]; cases h1 : firstBy l x.it.name.data.toList 1 with
  | some p => rw [h1] at h0; cases h0
  | none =>
    rw [h1] at h0; simp only at h0; rw [h0, hits_bind (by omega), hits_self hb]; rfl
 ·rw [if_neg h, winnerIn_snoc_other l x h]
theorem tab_same {l : List Spot} {x : Spot} (hb : ¬ x.it.bind = 1) (hn : ¬ x.it.bind = 2 ∨ (winnerIn l x.it.name.data.toList).isSome = true) : tabFn l = tabFn (l ++ [x]) := by
 funext n
 unfold tabFn
 congr 1
 by_cases h : n = x.it.name.data.toList
 ·subst h; unfold winnerIn at hn ⊢; rw [firstBy_snoc, firstBy_snoc, hits_bind hb]; cases h1 : firstBy l x.it.name.data.toList 1 with
  | some p => rfl
  | none =>
    rw [h1] at hn; simp only at hn ⊢; cases h2 : firstBy l x.it.name.data.toList 2 with
    | some p => rfl
    | none =>
      rw [h2] at hn; rcases hn with hn | hn
      ·rw [hits_bind hn]; rfl
      ·cases hn
 ·rw [winnerIn_snoc_other l x h]
theorem strong_yes {l : List Spot} {x : Spot} (hb : x.it.bind = 1) : (fun n => if n = x.it.name.data.toList then some (Value.int .i64 1) else strongFn l n) = strongFn (l ++ [x]) := by
 funext n
 unfold strongFn; rw [firstBy_snoc]
 by_cases h : n = x.it.name.data.toList
 ·subst h; rw [if_pos rfl, hits_self hb]; cases firstBy l x.it.name.data.toList 1 <;> rfl
 ·rw [if_neg h, hits_other h]; cases firstBy l n 1 <;> rfl
theorem strong_same {l : List Spot} {x : Spot} (hb : ¬ x.it.bind = 1) : strongFn l = strongFn (l ++ [x]) := by
 funext n
 unfold strongFn; rw [firstBy_snoc, hits_bind hb]; cases firstBy l n 1 <;> rfl
theorem strongFn_val_yes {l : List Spot} {n : List UInt8} (h : (firstBy l n 1).isSome = true) : (strongFn l n).getD (.int .i64 0) = .int .i64 1 := by simp [strongFn, h]
theorem strongFn_val_no {l : List Spot} {n : List UInt8} (h : (firstBy l n 1).isSome = false) : (strongFn l n).getD (.int .i64 0) = .int .i64 0 := by simp [strongFn, h]
theorem tabFn_val (l : List Spot) (n : List UInt8) : ∃ a b : Int, (tabFn l n).getD (.agg #[.int .i64 0, .int .i64 0]) = .agg #[.int .i64 a, .int .i64 b] := by
 cases h : winnerIn l n with
 | none => exact ⟨0, 0, by simp [tabFn, h]⟩
 | some p => exact ⟨p.1, p.2, by simp [tabFn, h, placeV]⟩
theorem tabFn_isSome (l : List Spot) (n : List UInt8) : (tabFn l n).isSome = (winnerIn l n).isSome := by simp [tabFn]
theorem symsFrom_drop {i k : Nat} {l : List GSym} (h : k < l.length) : symsFrom i k (l.drop k) = ⟨i, k, l[k]⟩ :: symsFrom i (k + 1) (l.drop (k + 1)) := by
 rw [List.drop_eq_getElem_cons h, symsFrom]
theorem objsFrom_drop {i : Nat} {l : List GObj} (h : i < l.length) : objsFrom i (l.drop i) = symsFrom i 0 l[i].syms ++ objsFrom (i + 1) (l.drop (i + 1)) := by
 rw [List.drop_eq_getElem_cons h, objsFrom]
theorem cat_step {pre rest fl : List Spot} {i k : Nat} {xs : List GSym} {y : GSym} (hk : k < xs.length) (hy : xs[k] = y) (h : pre ++ (symsFrom i k (xs.drop k) ++ rest) = fl) :
 (pre ++ [⟨i, k, y⟩]) ++ (symsFrom i (k + 1) (xs.drop (k + 1)) ++ rest) = fl := by
 rw [← h, symsFrom_drop hk, hy]; simp
theorem dup_step {pre rest : List Spot} {d : Option ByteArray} {i k : Nat} {xs : List GSym} {y : GSym} (hk : k < xs.length) (hy : xs[k] = y) (h : dupGo pre (symsFrom i k (xs.drop k) ++ rest) = d)
 (hb : ¬ (y.bind = 1 ∧ (firstBy pre y.name.data.toList 1).isSome = true)) : dupGo (pre ++ [⟨i, k, y⟩]) (symsFrom i (k + 1) (xs.drop (k + 1)) ++ rest) = d := by
 rw [← h, symsFrom_drop hk, hy, List.cons_append, dupGo, if_neg hb]
theorem symsFrom_length (i : Nat) : ∀ (k : Nat) (l : List GSym), (symsFrom i k l).length = l.length
 | _, [] => rfl
 | k, _ :: r => by simp [symsFrom, symsFrom_length i (k + 1) r]
theorem objsFrom_length_le : ∀ (i : Nat) (l : List GObj), l.all mayP = true → (objsFrom i l).length ≤ 64 * l.length
 | _, [], _ => by simp [objsFrom]
 | i, o :: r, h => by
   simp only [List.all_cons, Bool.and_eq_true] at h; have h1 := objsFrom_length_le (i + 1) r h.2; have h2 : o.syms.length ≤ 64 := by have := h.1; simp [mayP] at this; omega
   simp [objsFrom, symsFrom_length]; omega
theorem flat_length_le {l : List GObj} (h : mayAll l = true) : (flat l).length ≤ 1024 := by
 simp only [mayAll, Bool.and_eq_true, decide_eq_true_eq] at h; have := objsFrom_length_le 0 l h.2; unfold flat; omega
end
section
def cntBy (l : List Spot) (n : List UInt8) (b : Int) : Nat := (l.filter (hits n b)).length
theorem cntBy_snoc (l : List Spot) (x : Spot) (n : List UInt8) (b : Int) : cntBy (l ++ [x]) n b = cntBy l n b + if hits n b x then 1 else 0 := by
 unfold cntBy; rw [List.filter_append, List.length_append]
 by_cases h : hits n b x <;> simp [h]
theorem cnt_zero {l : List Spot} {n : List UInt8} {b : Int} (h : firstBy l n b = none) : cntBy l n b = 0 := by
 unfold firstBy at h; simp only [Option.map_eq_none_iff, List.find?_eq_none] at h; unfold cntBy; rw [List.filter_eq_nil_iff.2 (fun x hx => h x hx)]; rfl
theorem cnt_of_dup (n : List UInt8) : ∀ (rest pre : List Spot), dupGo pre rest = none → cntBy pre n 1 ≤ 1 → cntBy (pre ++ rest) n 1 ≤ 1
 | [], pre, _, h => by simpa using h
 | x :: r, pre, hd, h => by
   unfold dupGo at hd; split at hd
   ·cases hd
   ·rename_i hno
    have := cnt_of_dup n r (pre ++ [x]) hd (by
     rw [cntBy_snoc]
     by_cases hx : hits n 1 x = true
     ·rw [if_pos hx]; have hx' := hx; simp only [hits, Bool.and_eq_true, beq_iff_eq, decide_eq_true_eq] at hx'
      have hf : (firstBy pre n 1).isSome = false := by
       rw [← hx'.1]; cases h3 : (firstBy pre x.it.name.data.toList 1).isSome with
       | false => rfl
       | true => exact absurd ⟨hx'.2, h3⟩ hno
      rw [cnt_zero (by simpa using hf)]; omega
     ·rw [if_neg hx]; omega)
    simpa using this
theorem symsFrom_mem (i : Nat) : ∀ (k : Nat) (l : List GSym) (x : Spot), x ∈ symsFrom i k l → x.obj = i ∧ k ≤ x.sym ∧ l[x.sym - k]? = some x.it
 | k, [], x, h => by simp [symsFrom] at h
 | k, s :: r, x, h => by
   simp only [symsFrom, List.mem_cons] at h; rcases h with rfl | h
   ·simp
   ·obtain ⟨h1, h2, h3⟩ := symsFrom_mem i (k + 1) r x h; refine ⟨h1, by omega, ?_⟩
    rw [show x.sym - k = (x.sym - (k + 1)) + 1 by omega, List.getElem?_cons_succ]; exact h3
theorem symsFrom_of_get (i : Nat) : ∀ (k : Nat) (l : List GSym) (j : Nat) (s : GSym), l[j]? = some s → (⟨i, k + j, s⟩ : Spot) ∈ symsFrom i k l
 | k, [], j, s, h => by simp at h
 | k, a :: r, 0, s, h => by simp at h; subst h; simp [symsFrom]
 | k, a :: r, j + 1, s, h => by
   simp only [symsFrom, List.mem_cons]; right; have := symsFrom_of_get i (k + 1) r j s (by simpa using h)
   rwa [show k + 1 + j = k + (j + 1) by omega] at this
theorem objsFrom_mem : ∀ (i : Nat) (l : List GObj) (x : Spot), x ∈ objsFrom i l → i ≤ x.obj ∧ ∃ o, l[x.obj - i]? = some o ∧ o.syms[x.sym]? = some x.it
 | i, [], x, h => by simp [objsFrom] at h
 | i, o :: r, x, h => by
   simp only [objsFrom, List.mem_append] at h; rcases h with h | h
   ·obtain ⟨h1, _, h3⟩ := symsFrom_mem i 0 o.syms x h; exact ⟨by omega, o, by simp [h1], by simpa using h3⟩
   ·obtain ⟨h1, o', h2, h3⟩ := objsFrom_mem (i + 1) r x h; refine ⟨by omega, o', ?_, h3⟩
    rw [show x.obj - i = (x.obj - (i + 1)) + 1 by omega, List.getElem?_cons_succ]; exact h2
theorem objsFrom_of_get : ∀ (i : Nat) (l : List GObj) (j : Nat) (o : GObj) (k : Nat) (s : GSym), l[j]? = some o → o.syms[k]? = some s → (⟨i + j, k, s⟩ : Spot) ∈ objsFrom i l
 | i, [], j, o, k, s, h, _ => by simp at h
 | i, a :: r, 0, o, k, s, h, h2 => by
   simp at h; subst h; simp only [objsFrom, List.mem_append]; left; have := symsFrom_of_get i 0 a.syms k s h2; simpa using this
 | i, a :: r, j + 1, o, k, s, h, h2 => by
   simp only [objsFrom, List.mem_append]; right; have := objsFrom_of_get (i + 1) r j o k s (by simpa using h) h2
   rwa [show i + 1 + j = i + (j + 1) by omega] at this
theorem flat_mem {l : List GObj} {x : Spot} (h : x ∈ flat l) : ∃ o, l[x.obj]? = some o ∧ o.syms[x.sym]? = some x.it := by
 obtain ⟨_, o, h1, h2⟩ := objsFrom_mem 0 l x h; exact ⟨o, by simpa using h1, h2⟩
theorem mem_flat {l : List GObj} {j k : Nat} {o : GObj} {s : GSym} (h : l[j]? = some o) (h2 : o.syms[k]? = some s) : (⟨j, k, s⟩ : Spot) ∈ flat l := by
 have := objsFrom_of_get 0 l j o k s h h2; simpa [flat] using this
theorem firstBy_mem {l : List GObj} {n : List UInt8} {b : Int} {p : Nat × Nat} (h : firstBy (flat l) n b = some p) : ∃ o s, l[p.1]? = some o ∧ o.syms[p.2]? = some s ∧ s.name.data.toList = n ∧ s.bind = b := by
 unfold firstBy at h; simp only [Option.map_eq_some_iff] at h; obtain ⟨x, hx, rfl⟩ := h; obtain ⟨o, h1, h2⟩ := flat_mem (List.mem_of_find?_eq_some hx); have h3 := List.find?_some hx; simp only [hits, Bool.and_eq_true, beq_iff_eq, decide_eq_true_eq] at h3; exact ⟨o, x.it, h1, h2, h3.1, h3.2⟩
theorem beginR_zero {l : List GObj} (h : (beginR l).2 = 0) : mayAll l = true ∧ dupGo [] (flat l) = none := by
 unfold beginR at h; split at h
 ·rename_i hm; refine ⟨hm, ?_⟩; cases hd : dupGo [] (flat l) with
  | none => rfl
  | some n => rw [hd] at h; cases h
 ·cases h
end
section
def symsGoR : List GSym → List GSym → Bool
 | _, [] => true
 | seen, s :: r => symOk s && !hasName seen s.name.data.toList && symsGoR (seen ++ [s]) r
def mayOk (o : GObj) : Bool := symsGoR [] o.syms && isName o.name && decide (o.syms.length ≤ 64)
end
section
def before (x y : Spot) : Prop := x.obj < y.obj ∨ (x.obj = y.obj ∧ x.sym < y.sym)
theorem symsFrom_sorted (i : Nat) : ∀ (k : Nat) (l : List GSym), (symsFrom i k l).Pairwise before
 | _, [] => List.Pairwise.nil
 | k, s :: r => by
   simp only [symsFrom]; refine List.Pairwise.cons (fun y hy => ?_) (symsFrom_sorted i (k + 1) r)
   obtain ⟨h1, h2, _⟩ := symsFrom_mem i (k + 1) r y hy; exact .inr ⟨h1.symm, by simp only; omega⟩
theorem objsFrom_sorted : ∀ (i : Nat) (l : List GObj), (objsFrom i l).Pairwise before
 | _, [] => List.Pairwise.nil
 | i, o :: r => by
   simp only [objsFrom]; refine List.pairwise_append.2 ⟨symsFrom_sorted i 0 o.syms, objsFrom_sorted (i + 1) r, fun x hx y hy => ?_⟩
   obtain ⟨h1, _⟩ := symsFrom_mem i 0 o.syms x hx; obtain ⟨h2, _⟩ := objsFrom_mem (i + 1) r y hy; exact .inl (by omega)
end
section
theorem symsGo_each : ∀ (l seen : List GSym), symsGo seen l = true → ∀ s ∈ l, symOkP s = true
 | [], _, _, s, hs => by simp at hs
 | x :: r, seen, h, s, hs => by
   simp only [symsGo, Bool.and_eq_true] at h; rcases List.mem_cons.1 hs with rfl | hs
   ·exact h.1.2
   ·exact symsGo_each r _ h.2 s hs
theorem relsP_le {l : List GObj} (h : mayAll l = true) {i k : Nat} (hi : i < l.length) (hk : k < l[i].syms.length) : l[i].syms[k].rels.length ≤ 1024 := by
 simp only [mayAll, Bool.and_eq_true] at h; have h1 := List.all_eq_true.1 h.2 l[i] (List.getElem_mem hi); simp only [mayP, Bool.and_eq_true] at h1; have h2 := symsGo_each _ _ h1.1.1 _ (List.getElem_mem hk); simp only [symOkP, placesOk, Bool.and_eq_true, decide_eq_true_eq] at h2; exact h2.1.1.2.2
def refsGo (l : List GObj) (a : Int) : List (Nat × Nat) → List GRel → List (Nat × Nat) × ByteArray × Int
 | acc, [] => (acc, emptyB, 0)
 | acc, x :: r => match findR l a x.name.data.toList with | some p => refsGo l a (acc ++ [p]) r | none => ([], x.name, 121)
def relsAt (l : List GObj) (a b : Nat) : List GRel := match l[a]? with | some o => (match o.syms[b]? with | some s => s.rels | none => []) | none => []
theorem relsAt_eq {l : List GObj} {a b : Nat} (ha : a < l.length) (hb : b < l[a].syms.length) : relsAt l a b = l[a].syms[b].rels := by
 simp [relsAt, List.getElem?_eq_getElem ha, List.getElem?_eq_getElem hb]
theorem refsGo_yes {l : List GObj} {a : Int} {acc : List (Nat × Nat)} {rs : List GRel} {j : Nat} {x : GRel} {p : Nat × Nat} {t : List (Nat × Nat) × ByteArray × Int} (hj : j < rs.length) (hx : rs[j] = x) (h : refsGo l a acc (rs.drop j) = t)
 (hf : findR l a x.name.data.toList = some p) : refsGo l a (acc ++ [p]) (rs.drop (j + 1)) = t := by
 rw [List.drop_eq_getElem_cons hj, hx, refsGo, hf] at h; exact h
theorem refsGo_no {l : List GObj} {a : Int} {acc : List (Nat × Nat)} {rs : List GRel} {j : Nat} {x : GRel} {t : List (Nat × Nat) × ByteArray × Int} (hj : j < rs.length) (hx : rs[j] = x) (h : refsGo l a acc (rs.drop j) = t)
 (hf : findR l a x.name.data.toList = none) : t = ([], x.name, 121) := by
 rw [List.drop_eq_getElem_cons hj, hx, refsGo, hf] at h; exact h.symm
theorem refsGo_end {l : List GObj} {a : Int} {acc : List (Nat × Nat)} {rs : List GRel} {j : Nat} {t : List (Nat × Nat) × ByteArray × Int} (hj : ¬ j < rs.length) (h : refsGo l a acc (rs.drop j) = t) : t = (acc, emptyB, 0) := by
 rw [List.drop_of_length_le (by omega), refsGo] at h
 exact h.symm
end
section
open Go.RowKit
def sumI {α : Type} (f : α → Int) : List α → Int
 | [] => 0
 | a :: l => f a + sumI f l
theorem sumI_append {α : Type} (f : α → Int) : ∀ a b : List α, sumI f (a ++ b) = sumI f a + sumI f b
 | [], b => by simp [sumI]
 | x :: a, b => by simp [sumI, sumI_append f a b]; omega
theorem sumI_take_succ {α : Type} (f : α → Int) {l : List α} {k : Nat} {x : α} (h : k < l.length) (hx : l[k] = x) : sumI f (l.take (k + 1)) = sumI f (l.take k) + f x := by
 rw [List.take_succ_eq_append_getElem h, sumI_append, hx]; simp [sumI]
def relS (x : GRel) : Int := (x.name.size : Int) / 64
def symS (s : GSym) : Int := (s.rels.length : Int) / 4 + (s.notes.length : Int) / 4 + (s.bytes.size : Int) / 64 + (s.name.size : Int) / 16 + sumI relS (s.rels.take 1100)
def objS (o : GObj) : Int := (o.syms.length : Int) + sumI symS (o.syms.take 200)
def largeSum (l : List GObj) : Int := sumI objS (l.take 40)
def largeB (l : List GObj) : Bool := decide ((20 : Int) < (l.length : Int)) || decide ((2000 : Int) < wrap64 (largeSum l))
theorem take_end {α : Type} {l : List α} {k c : Nat} (hk : k ≤ l.length) (hc : k ≤ c) (h : ¬ (k < l.length ∧ k < c)) : l.take k = l.take c := by
 by_cases h2 : k = c
 ·rw [h2]
 ·have : k = l.length := by omega
  subst this; rw [List.take_of_length_le (Nat.le_refl _), List.take_of_length_le (by omega)]
theorem wrap64_add_left (a b : Int) : wrap64 (wrap64 a + b) = wrap64 (a + b) := by
 unfold wrap64; omega
theorem wrap5 (s a b c d : Int) : wrap64 (wrap64 (wrap64 (wrap64 (wrap64 s + a) + b) + c) + d) = wrap64 (s + a + b + c + d) := by
 unfold wrap64; omega
end
section
def upTo (n k : Int) : Int := (n + (k - 1)) / k * k
theorem and_mask (a k m : Nat) (hkm : k + m = 32) (h : a < 4294967296) : a &&& ((2 ^ m - 1) <<< k) = a / 2 ^ k * 2 ^ k := by
 apply Nat.eq_of_testBit_eq; intro i; rw [Nat.testBit_and, Nat.testBit_shiftLeft, Nat.testBit_two_pow_sub_one, ← Nat.shiftRight_eq_div_pow, ← Nat.shiftLeft_eq, Nat.testBit_shiftLeft, Nat.testBit_shiftRight]
 by_cases hi : k ≤ i
 ·rw [show k + (i - k) = i by omega]
  by_cases hi2 : i < 32
  ·simp [hi, show i - k < m by omega]
  ·rw [Nat.testBit_lt_two_pow (i := i) (x := a) (Nat.lt_of_lt_of_le h (by rw [show (4294967296 : Nat) = 2 ^ 32 from rfl]; exact Nat.pow_le_pow_right (by omega) (by omega)))]; simp
 ·simp [hi]
theorem mask256 (a : Nat) (h : a < 4294967296) : a &&& 4294967040 = a / 256 * 256 := and_mask a 8 24 rfl h
theorem mask8 (a : Nat) (h : a < 4294967296) : a &&& 4294967288 = a / 8 * 8 := and_mask a 3 29 rfl h
abbrev GP := Int × Int
structure GAddr where
 obj : Int
 sym : Int
 at_ : Int
structure GSpan where
 kind : Int
 at_ : Int
 size : Int
def addr0 : GAddr := ⟨0, 0, 0⟩
def symAt (l : List GObj) (p : GP) : Option GSym := if 0 ≤ p.1 ∧ 0 ≤ p.2 then (match l[p.1.toNat]? with | some o => o.syms[p.2.toNat]? | none => none) else none
def ordP (p q : GP) : Bool := !(decide (q.1 < p.1) || (decide (q.1 = p.1) && decide (q.2 ≤ p.2)))
def ordO (pr : Option GP) (p : GP) : Bool := match pr with | none => true | some q => ordP q p
def mayGo (l : List GObj) : Option GP → List GP → Bool
 | _, [] => true
 | pr, p :: r => (symAt l p).isSome && ordO pr p && mayGo l (some p) r
def laySyms (l : List GObj) (kind : Int) : List GP → Nat → List GAddr → Int → Option (List GAddr × Int)
 | [], _, out, e => some (out, e)
 | p :: r, k, out, e =>
   match symAt l p with
   | some s => if s.kind = kind then (if 131072 < upTo e 8 + s.size then none else laySyms l kind r (k + 1) (out.set k ⟨p.1, p.2, upTo e 8⟩) (upTo e 8 + s.size)) else laySyms l kind r (k + 1) out e
   | none => laySyms l kind r (k + 1) out e
def layKinds (l : List GObj) (some_ : List GP) : List Int → List GAddr → List GSpan → Int → Option (List GAddr × List GSpan)
 | [], out, spans, _ => some (out, spans)
 | kind :: ks, out, spans, e =>
   match laySyms l kind some_ 0 out (upTo e 256) with
   | none => none
   | some (out', e') => layKinds l some_ ks out' (if 0 < e' - upTo e 256 then spans ++ [⟨kind, upTo e 256, e' - upTo e 256⟩] else spans) e'
def layMay (l : List GObj) (some_ : List GP) : Bool := mayAll l && mayGo l none some_
def layOf (l : List GObj) (some_ : List GP) : List GAddr × List GSpan × Int :=
 if layMay l some_ then (match layKinds l some_ [1, 3, 2] (List.replicate some_.length addr0) [] 256 with | some (a, s) => (a, s, 0) | none => ([], [], 140)) else ([], [], 2)
def layFind (l : List GAddr) (p : GP) : Int × Bool := match l.find? (fun a => decide (a.obj = p.1) && decide (a.sym = p.2)) with | some a => (a.at_, true) | none => (0, false)
theorem symAt_nat {l : List GObj} {a b : Nat} (ha : a < l.length) : symAt l ((a : Int), (b : Int)) = l[a].syms[b]? := by
 simp [symAt, List.getElem?_eq_getElem ha]
theorem symAt_some {l : List GObj} {p : GP} {s : GSym} (h : symAt l p = some s) : ∃ (a b : Nat) (ha : a < l.length) (hb : b < l[a].syms.length), p = ((a : Int), (b : Int)) ∧ l[a].syms[b] = s := by
 obtain ⟨x, y⟩ := p; unfold symAt at h; split at h
 ·rename_i h0; obtain ⟨a, rfl⟩ := Int.eq_ofNat_of_zero_le h0.1; obtain ⟨b, rfl⟩ := Int.eq_ofNat_of_zero_le h0.2; simp only [Int.toNat_natCast] at h; cases ho : l[a]? with
  | none => rw [ho] at h; cases h
  | some o =>
    rw [ho] at h; obtain ⟨ha, hoe⟩ := List.getElem?_eq_some_iff.1 ho; subst hoe; obtain ⟨hb, hbe⟩ := List.getElem?_eq_some_iff.1 h; exact ⟨a, b, ha, hb, rfl, hbe⟩
 ·cases h
theorem symAt_none {l : List GObj} {p : GP} (h : symAt l p = none) : p.1 < 0 ∨ (l.length : Int) ≤ p.1 ∨ p.2 < 0 ∨ ∃ (a b : Nat) (ha : a < l.length), p = ((a : Int), (b : Int)) ∧ l[a].syms.length ≤ b := by
 obtain ⟨x, y⟩ := p
 by_cases h1 : x < 0
 ·exact .inl h1
 by_cases h2 : (l.length : Int) ≤ x
 ·exact .inr (.inl h2)
 by_cases h3 : y < 0
 ·exact .inr (.inr (.inl h3))
 obtain ⟨a, rfl⟩ := Int.eq_ofNat_of_zero_le (show 0 ≤ x by omega)
 obtain ⟨b, rfl⟩ := Int.eq_ofNat_of_zero_le (show 0 ≤ y by omega)
 have ha : a < l.length := by omega
 rw [symAt_nat ha] at h; exact .inr (.inr (.inr ⟨a, b, ha, rfl, by simpa using h⟩))
end
section
def nameSet : List UInt8 := [97, 98, 99, 100, 101, 102, 103, 104, 105, 106, 107, 108, 109, 110, 111, 112, 113, 114, 115, 116, 117, 118, 119, 120, 121, 122, 48, 49, 50, 51, 52, 53, 54, 55, 56, 57, 46, 95]
theorem nameSet_all : ∀ n : Fin 256, nameSet.contains (UInt8.ofNat n.val) = nameByte (UInt8.ofNat n.val) := by decide +kernel
theorem nameSet_contains (b : UInt8) : nameSet.contains b = nameByte b := by
 have := nameSet_all ⟨b.toNat, b.toNat_lt⟩; simpa using this
theorem dropWhile_nil {α : Type} (p : α → Bool) : ∀ l : List α, l.dropWhile p = [] ↔ l.all p = true
 | [] => by simp
 | a :: l => by
   by_cases h : p a = true
   ·simp [h, dropWhile_nil p l]
   ·simp [h]
theorem trimS_nil (l : List UInt8) : Lib.trimS l nameSet = [] ↔ l.all nameByte = true := by
 have e : (fun b => nameSet.contains b) = nameByte := funext nameSet_contains
 unfold Lib.trimS Lib.trimLeftS Lib.trimRightS; simp only [e]; rw [dropWhile_nil]; simp only [List.all_reverse]; constructor
 ·intro h
  by_cases h2 : l.all nameByte = true
  ·exact h2
  ·exfalso; have h3 : ¬ (l.reverse.dropWhile nameByte = []) := by rw [dropWhile_nil, List.all_reverse]; exact h2
   obtain ⟨a, t, hat⟩ := List.exists_cons_of_ne_nil h3
   have h4 : nameByte a = false := by
    have := List.head?_dropWhile_not nameByte l.reverse; rw [hat] at this; simpa using this
   rw [hat] at h; simp [h4] at h
 ·intro h; have h3 : l.reverse.dropWhile nameByte = [] := by rw [dropWhile_nil, List.all_reverse]; exact h
  simp [h3]
theorem trim_isName (s : ByteArray) (h0 : 1 ≤ s.size) (h1 : s.size ≤ 32) : (Lib.trimS s.data.toList nameSet).isEmpty = isName s := by
 rw [Bool.eq_iff_iff, List.isEmpty_iff, trimS_nil]; simp [isName, h0, h1]
end
section
open Go.RowKit Go.Shelf Go.Lib
theorem trim_any (s : ByteArray) (w : World) (hs : s.size ≤ 9223372036854775807) :
 Calls Tryz.prog 176 #[.string s, .string ⟨#[97, 98, 99, 100, 101, 102, 103, 104, 105, 106, 107, 108, 109, 110, 111, 112, 113, 114, 115, 116, 117, 118, 119, 120, 121, 122, 48, 49, 50, 51, 52, 53, 54, 55, 56, 57, 46, 95]⟩] w fun e w' => e = .returned (.string ⟨(Lib.trimS s.data.toList nameSet).toArray⟩) ∧ Below w.heap.size w w' :=
 Any.strings_Trim_laid Tryz.lays160 (by kernel_rfl) s ⟨#[97, 98, 99, 100, 101, 102, 103, 104, 105, 106, 107, 108, 109, 110, 111, 112, 113, 114, 115, 116, 117, 118, 119, 120, 121, 122, 48, 49, 50, 51, 52, 53, 54, 55, 56, 57, 46, 95]⟩ w hs (by decide) (ascii_of_all (by decide))
set_option maxHeartbeats 400000 in
theorem objName_any (s : ByteArray) (w : World) (hs : s.size ≤ 140737488355328) :
 Calls Tryz.prog 125 #[.string s] w fun e w' => e = .returned (.bool (isName s)) ∧ Below w.heap.size w w' := by
 by_cases h0 : s.size = 0
 ·have hn : isName s = false := by simp [isName, h0]
  rw [hn]; clear hn; have hl := toList_nil h0; clear h0; go_enter Tryz.func125, Tryz.ntmps125; go_wp2; go_ret; exact ⟨rfl, Below.refl _ _⟩
 ·have h1 : 1 ≤ s.size := by omega
  have hl := toList_not_nil h1; have hl' := toList_isEmpty h1; clear h0
  by_cases h2 : s.size ≤ 32
  ·have HN := Lib.hid (trim_isName s h1 h2); have hcon := trim_any s w (by omega)
   generalize Lib.trimS s.data.toList nameSet = r at hcon HN; have HCON := Lib.hid hcon; clear hcon; go_enter Tryz.func125, Tryz.ntmps125; go_wp2_with (go_at_call 176; refine HCON.out.mono ?_; rintro e w' ⟨rfl, hB⟩); go_ret; exact ⟨ret_bool HN.out, hB⟩
  ·have hn : isName s = false := by simp [isName, h2]
   rw [hn]; clear hn; go_enter Tryz.func125, Tryz.ntmps125; go_wp2; go_ret; exact ⟨rfl, Below.refl _ _⟩
end
end Go.Proofs.YtboegjdkedjhcaaGreatDoor
