/- The plain notion of a name (layer 8): bytes of a small alphabet, 1 to 32 of them. No program in sight. Plain data of layer 8 (notes, places, symbols, objects) and how a world holds them. No program in sight. Arguments opened: rows and fields, whatever the program. No program in sight. What joins a law's contract to its card, for every law. Arguments opened: a reading of objects is a list of objects that the world holds. Arguments opened, with how many bytes each row has. A symbol among a law's arguments. A card's closed facts one by one: each is asked of the kernel alone, for a program that is large. -/
import Derived.WalkKit
import Derived.WalkSpells
import Derived.ProofKit
import Derived.Deep.Slices
import Derived.Deep.Fields
import Derived.SizedLaws
import Derived.OpenShut
import Derived.Test.YtboegjdkedjhcaaGreatDoorRows
import Derived.Deep.DeepHandedRow
import Derived.Lay
import Derived.LaidMore
import Derived.Stop.Joined
import Derived.Carry
import Derived.Lib.SmallJoins
import Derived.JoinedCond
namespace Go.Proofs.YtboegjdkedjhcaaGreatDoor
/-- a byte of a name -/
def nameByte (c : UInt8) : Bool := (97 ≤ c && c ≤ 122) || (48 ≤ c && c ≤ 57) || c == 46 || c == 95
/-- the plain test -/
def isName (s : ByteArray) : Bool := s.data.toList.all nameByte && decide (1 ≤ s.size) && decide (s.size ≤ 32)
theorem take_snoc (s : ByteArray) (k : Nat) (h : k < s.size) : s.data.toList.take (k + 1) = s.data.toList.take k ++ [s[k]] := by
  rw [List.take_succ_eq_append_getElem (by simpa using h)]; rfl
theorem nameByte_int (c : UInt8) : nameByte c = (decide (97 ≤ (c.toNat : Int)) && decide ((c.toNat : Int) ≤ 122) || decide (48 ≤ (c.toNat : Int)) && decide ((c.toNat : Int) ≤ 57) || decide ((c.toNat : Int) = 46) || decide ((c.toNat : Int) = 95)) := by
  unfold nameByte
  rw [Bool.eq_iff_iff]
  simp [UInt8.le_iff_toNat_le, ← UInt8.toNat_inj]
  omega
theorem all_take_snoc {s : ByteArray} {k : Nat} (h : k < s.size) (ha : (s.data.toList.take k).all nameByte = true) (hb : nameByte s[k] = true) : (s.data.toList.take (k + 1)).all nameByte = true := by
  rw [take_snoc s k h, List.all_append, ha]; simp [hb]
theorem isName_bad {s : ByteArray} {k : Nat} (h : k < s.size) (hb : nameByte s[k] = false) : isName s = false := by
  have hm : s[k] ∈ s.data.toList := by
    have h2 : k < s.data.toList.length := by simpa using h
    have : s.data.toList[k] = s[k] := rfl
    rw [← this]; exact List.getElem_mem h2
  have : s.data.toList.all nameByte = false := by
    rw [List.all_eq_false]; exact ⟨s[k], hm, by simp [hb]⟩
  simp [isName, this]
theorem isName_end {s : ByteArray} {k : Nat} (h : ¬ k < s.size) (ha : (s.data.toList.take k).all nameByte = true) : isName s = (decide (1 ≤ s.size) && decide (s.size ≤ 32)) := by
  rw [List.take_of_length_le (by simpa using h)] at ha
  simp [isName, ha]
theorem isName_end' {s : ByteArray} {k : Nat} {b : Bool} (h : ¬ k < s.size) (ha : (s.data.toList.take k).all nameByte = true) (hb : (1 ≤ s.size ∧ s.size ≤ 32) ↔ b = true) : b = isName s := by
  rw [isName_end h ha, Bool.eq_iff_iff, ← hb]; simp
theorem toList_nil {s : ByteArray} (h : s.size = 0) : s.toList = [] := by
  rw [ByteArray.toList_eq]
  exact List.eq_nil_of_length_eq_zero (by simpa using h)
theorem toList_not_nil {s : ByteArray} (h : 1 ≤ s.size) : ¬ s.toList = [] := by
  rw [ByteArray.toList_eq]
  intro h2
  have := congrArg List.length h2
  simp at this
  rw [this] at h; simp at h
theorem toList_isEmpty {s : ByteArray} (h : 1 ≤ s.size) : s.toList.isEmpty = false := by simpa using toList_not_nil h
end Go.Proofs.YtboegjdkedjhcaaGreatDoor
namespace Go.Proofs.YtboegjdkedjhcaaGreatDoor
open Go.RowKit
structure GNote where
  kind : Int
  n : Int
  m : Int
structure GRel where
  off : Int
  kind : Int
  name : ByteArray
  add : Int
structure GSym where
  name : ByteArray
  bind : Int
  kind : Int
  size : Int
  bytes : ByteArray
  rels : List GRel
  notes : List GNote
structure GObj where
  name : ByteArray
  syms : List GSym
/-- a slice of elements of k cells -/
def RowAt {α : Type} (k : Nat) (R : World → Nat → Nat → α → Prop) (w : World) (v : Value) (l : List α) : Prop :=
  ∃ (p : Option Addr) (cap b o : Nat), v = .slice p l.length cap ∧ l.length ≤ cap ∧ l.length ≤ 140737488355328 ∧ (0 < l.length → p = some ⟨b, o, none⟩) ∧ ∀ i (h : i < l.length), R w b (o + i * k) l[i]
def NoteR (w : World) (b o : Nat) (x : GNote) : Prop :=
  b < w.heap.size ∧ w.cell? ⟨b, o, none⟩ = some (.int .u8 x.kind) ∧ w.cell? ⟨b, o + 1, none⟩ = some (.int .u32 x.n) ∧ w.cell? ⟨b, o + 2, none⟩ = some (.int .u32 x.m) ∧
  (0 ≤ x.kind ∧ x.kind ≤ 255) ∧ (0 ≤ x.n ∧ x.n ≤ 4294967295) ∧ (0 ≤ x.m ∧ x.m ≤ 4294967295)
def RelR (w : World) (b o : Nat) (x : GRel) : Prop :=
  b < w.heap.size ∧ w.cell? ⟨b, o, none⟩ = some (.int .u32 x.off) ∧ w.cell? ⟨b, o + 1, none⟩ = some (.int .u8 x.kind) ∧ w.cell? ⟨b, o + 2, none⟩ = some (.string x.name) ∧ w.cell? ⟨b, o + 3, none⟩ = some (.int .u32 x.add) ∧
  (0 ≤ x.off ∧ x.off ≤ 4294967295) ∧ (0 ≤ x.kind ∧ x.kind ≤ 255) ∧ (0 ≤ x.add ∧ x.add ≤ 4294967295) ∧ x.name.size ≤ 140737488355328
/-- a symbol's rows -/
def SymIn (w : World) (s : GSym) (vr vn : Value) : Prop :=
  RowAt 4 RelR w vr s.rels ∧ RowAt 3 NoteR w vn s.notes ∧
  (0 ≤ s.bind ∧ s.bind ≤ 255) ∧ (0 ≤ s.kind ∧ s.kind ≤ 255) ∧ (0 ≤ s.size ∧ s.size ≤ 4294967295) ∧ s.name.size ≤ 140737488355328 ∧ s.bytes.size ≤ 140737488355328
theorem SymIn.shape {w : World} {s : GSym} {vr vn : Value} (h : SymIn w s vr vn) : ∃ (p1 : Option Addr) (c1 : Nat) (p2 : Option Addr) (c2 : Nat), vr = .slice p1 s.rels.length c1 ∧ vn = .slice p2 s.notes.length c2 := by
  obtain ⟨⟨p1, c1, _, _, h1, _⟩, ⟨p2, c2, _, _, h2, _⟩, _⟩ := h
  exact ⟨p1, c1, p2, c2, h1, h2⟩
def SymR (w : World) (b o : Nat) (s : GSym) : Prop :=
  ∃ vr vn, b < w.heap.size ∧ w.cell? ⟨b, o, none⟩ = some (.string s.name) ∧ w.cell? ⟨b, o + 1, none⟩ = some (.int .u8 s.bind) ∧ w.cell? ⟨b, o + 2, none⟩ = some (.int .u8 s.kind) ∧ w.cell? ⟨b, o + 3, none⟩ = some (.int .u32 s.size) ∧
    w.cell? ⟨b, o + 4, none⟩ = some (.string s.bytes) ∧ w.cell? ⟨b, o + 5, none⟩ = some vr ∧ w.cell? ⟨b, o + 6, none⟩ = some vn ∧ SymIn w s vr vn
def ObjIn (w : World) (x : GObj) (vs : Value) : Prop := RowAt 7 SymR w vs x.syms ∧ x.name.size ≤ 140737488355328
def ObjR (w : World) (b o : Nat) (x : GObj) : Prop :=
  ∃ vs, b < w.heap.size ∧ w.cell? ⟨b, o, none⟩ = some (.string x.name) ∧ w.cell? ⟨b, o + 1, none⟩ = some vs ∧ ObjIn w x vs
/-- objects, as a slice -/
def ObjsAt (w : World) (v : Value) (l : List GObj) : Prop := RowAt 2 ObjR w v l
/-- what a world that keeps w's blocks keeps -/
def Keeps {α : Type} (R : World → Nat → Nat → α → Prop) : Prop := ∀ (w w' : World) b o x, Below w.heap.size w w' → R w b o x → R w' b o x
theorem RowAt.keep {α : Type} {k : Nat} {R : World → Nat → Nat → α → Prop} (hR : Keeps R) {w w' : World} {v : Value} {l : List α} (hb : Below w.heap.size w w') (h : RowAt k R w v l) : RowAt k R w' v l := by
  obtain ⟨p, cap, b, o, h1, h2, h3, h4, h5⟩ := h
  exact ⟨p, cap, b, o, h1, h2, h3, h4, fun i hi => hR w w' _ _ _ hb (h5 i hi)⟩
theorem cell_keep {w w' : World} {b o : Nat} {v : Value} (hb : Below w.heap.size w w') (h0 : b < w.heap.size) (h : w.cell? ⟨b, o, none⟩ = some v) : w'.cell? ⟨b, o, none⟩ = some v := by
  rw [hb.cell (p := ⟨b, o, none⟩) h0]; exact h
theorem size_keep {w w' : World} {b : Nat} (hb : Below w.heap.size w w') (h0 : b < w.heap.size) : b < w'.heap.size := Nat.lt_of_lt_of_le h0 hb.size
theorem noteR_keeps : Keeps NoteR := fun _ _ _ _ _ hb ⟨h0, h1, h2, h3, r⟩ => ⟨size_keep hb h0, cell_keep hb h0 h1, cell_keep hb h0 h2, cell_keep hb h0 h3, r⟩
theorem relR_keeps : Keeps RelR := fun _ _ _ _ _ hb ⟨h0, h1, h2, h3, h4, r⟩ => ⟨size_keep hb h0, cell_keep hb h0 h1, cell_keep hb h0 h2, cell_keep hb h0 h3, cell_keep hb h0 h4, r⟩
theorem SymIn.keep {w w' : World} {s : GSym} {vr vn : Value} (hb : Below w.heap.size w w') (h : SymIn w s vr vn) : SymIn w' s vr vn := ⟨h.1.keep relR_keeps hb, h.2.1.keep noteR_keeps hb, h.2.2⟩
theorem symR_keeps : Keeps SymR := fun _ _ _ _ _ hb ⟨vr, vn, h0, h1, h2, h3, h4, h5, h6, h7, r⟩ => ⟨vr, vn, size_keep hb h0, cell_keep hb h0 h1, cell_keep hb h0 h2, cell_keep hb h0 h3, cell_keep hb h0 h4, cell_keep hb h0 h5, cell_keep hb h0 h6, cell_keep hb h0 h7, r.keep hb⟩
theorem ObjIn.keep {w w' : World} {x : GObj} {vs : Value} (hb : Below w.heap.size w w') (h : ObjIn w x vs) : ObjIn w' x vs := ⟨h.1.keep symR_keeps hb, h.2⟩
theorem objR_keeps : Keeps ObjR := fun _ _ _ _ _ hb ⟨vs, h0, h1, h2, r⟩ => ⟨vs, size_keep hb h0, cell_keep hb h0 h1, cell_keep hb h0 h2, r.keep hb⟩
theorem ObjsAt.keep {w w' : World} {v : Value} {l : List GObj} (hb : Below w.heap.size w w') (h : ObjsAt w v l) : ObjsAt w' v l := RowAt.keep objR_keeps hb h
/-- old cells and marks in a later world, as rules for the walk -/
theorem bcell {B : Nat} {W w1 : World} (hb : Below B W w1) : (∀ b o, b < B → w1.cell? ⟨b, o, none⟩ = W.cell? ⟨b, o, none⟩) ∧ (∀ b o, b < B → w1.frozen? ⟨b, o, none⟩ = W.frozen? ⟨b, o, none⟩) :=
  ⟨fun b o h => hb.cell (p := ⟨b, o, none⟩) h, fun b o h => hb.frozen (p := ⟨b, o, none⟩) h⟩
theorem ret_bool {a b : Bool} (h : a = b) : Ending.returned (.bool a) = .returned (.bool b) := by rw [h]
theorem ret_int {k : IntKind} {a b : Int} (h : a = b) : Ending.returned (.int k a) = .returned (.int k b) := by rw [h]
theorem alloc_old (w : World) (ob : Obj) : Below w.heap.size w (w.alloc ob) := (Below.refl _ _).alloc (Nat.le_refl _) ob
/-- how many bytes a place has -/
def widthOf (k : Int) : Int := if k = 1 then 4 else if k = 2 then 2 else 0
def relsGo (n : Int) : Int → List GRel → Bool
  | _, [] => true
  | e, x :: r => decide (widthOf x.kind ≠ 0) && isName x.name && decide (x.off ≤ 8192) && decide (e ≤ x.off) && decide (x.off + widthOf x.kind ≤ n) && relsGo n (x.off + widthOf x.kind) r
def relsOk (s : GSym) : Bool := relsGo s.bytes.size 0 s.rels && decide (s.rels.length ≤ 1024)
theorem relsOk_no {s : GSym} {k : Nat} {e : Int} {x : GRel} (hlt : k < s.rels.length) (hx : s.rels[k] = x) (hgo : relsGo s.bytes.size e (s.rels.drop k) = relsGo s.bytes.size 0 s.rels)
    (h : (decide (widthOf x.kind ≠ 0) && isName x.name && decide (x.off ≤ 8192) && decide (e ≤ x.off) && decide (x.off + widthOf x.kind ≤ s.bytes.size)) = false) : false = relsOk s := by
  rw [List.drop_eq_getElem_cons hlt, hx, relsGo, h] at hgo
  simp [relsOk, ← hgo]
theorem relsGo_yes {n : Int} {l : List GRel} {k : Nat} {e g : Int} {x : GRel} (hlt : k < l.length) (hx : l[k] = x) (hgo : relsGo n e (l.drop k) = relsGo n 0 l)
    (h : (decide (widthOf x.kind ≠ 0) && isName x.name && decide (x.off ≤ 8192) && decide (e ≤ x.off) && decide (x.off + widthOf x.kind ≤ n)) = true) (hg : g = x.off + widthOf x.kind) : relsGo n g (l.drop (k + 1)) = relsGo n 0 l := by
  rw [← hgo, List.drop_eq_getElem_cons hlt, hx, relsGo, h, hg]; simp
theorem relsOk_end {s : GSym} {k : Nat} {e : Int} (hlt : ¬ k < s.rels.length) (hgo : relsGo s.bytes.size e (s.rels.drop k) = relsGo s.bytes.size 0 s.rels) : decide ((s.rels.length : Int) ≤ 1024) = relsOk s := by
  rw [List.drop_of_length_le (by omega), relsGo] at hgo
  simp [relsOk, ← hgo]; omega
theorem widthOf_bd (k : Int) : 0 ≤ widthOf k ∧ widthOf k ≤ 4 := by unfold widthOf; split <;> (try split) <;> omega
end Go.Proofs.YtboegjdkedjhcaaGreatDoor
namespace Go.Proofs.YtboegjdkedjhcaaGreatDoor
open Go.ChangeShapes Go.WideShapes Go.ChangeAt Go.RowKit Go.Deep
section
variable {H : Type} {enc : TypeId × Value → H} {w : World} {base : Nat} {spare : Nat → Bool} {held : Bool}
def Small (P : Program) (t : TypeId) (d : DataW H) : Prop := (d.weights P t).all (· ≤ reachBytes) = true
theorem small_all {P : Program} {e : TypeId} : ∀ {l : List (DataW H)}, (DataW.weightsAll P e l).all (· ≤ reachBytes) = true → ∀ d ∈ l, Small P e d
  | [], _, d, hd => by cases hd
  | a :: r, h, d, hd => by
    simp only [DataW.weightsAll, List.all_append, Bool.and_eq_true] at h
    rcases List.mem_cons.1 hd with rfl | hd
    · exact h.1
    · exact small_all h.2 d hd
theorem small_each {P : Program} : ∀ {ts : List TypeId} {l : List (DataW H)}, (DataW.weightsEach P ts l).all (· ≤ reachBytes) = true → ∀ (j : Nat) (t : TypeId) (d : DataW H), ts[j]? = some t → l[j]? = some d → Small P t d := by
  intro ts l h j t d ht hd
  unfold Small
  rw [List.all_eq_true] at h ⊢
  exact fun n hn => h n (DataW.weights_mem_each ht hd n hn)
theorem add_eq (b o i : Nat) : (⟨b, o, none⟩ : Addr).add i = ⟨b, o + i, none⟩ := by
  unfold Addr.add
  by_cases h : i = 0 <;> simp [h]
theorem spot_none {a : Addr} {v : Value} (h : w.cell? a = some v) : a.spot = none := by
  unfold World.cell? at h
  split at h
  · split at h
    · cases h
    · rename_i hs; simpa using hs
  · cases h
theorem add_zero (a : Addr) : a.add 0 = a := by simp [Addr.add]
/-- a slice: if each of its elements is held as R says, the slice is a row of them -/
theorem open_row {α : Type} {P : Program} {t e : TypeId} {k : Nat} {R : World → Nat → Nat → α → Prop} (ht : P.underlying t = some (.slice e)) (hk : P.cellsOf e = k) (hk0 : 0 < k) (hby : 1 ≤ P.bytesOf e)
    (hel : ∀ (b o : Nat) (cs : List Value) (n : Nat) (d : DataW H × List MemPlace), b < w.heap.size → cs.length = k → (∀ j, j < k → w.cell? ⟨b, o + j, none⟩ = cs[j]?) → DataW.trod enc P w base spare held n e cs = some d → Small P e d.1 → ∃ y, R w b o y)
    {fuel : Nat} {cs : List Value} {x : DataW H × List MemPlace} (h : DataW.trod enc P w base spare held fuel t cs = some x) (hs : Small P t x.1) : ∃ v l, cs = [v] ∧ RowAt k R w v l := by
  subst hk
  rcases open_slice ht h with ⟨rfl, rfl⟩ | ⟨a, len, cap, m, n, D, Pl, rfl, hb, hl, hm, hmm, rfl, hi⟩
  · exact ⟨_, [], rfl, none, 0, 0, 0, rfl, Nat.le_refl _, by simp, fun h => by simp at h, fun i h => by simp at h⟩
  have hlm : len ≤ m := by rw [hmm]; split <;> omega
  unfold Small at hs
  simp only [DataW.weights, ht, List.all_cons, List.all_append, Bool.and_eq_true, decide_eq_true_eq, List.length_map, List.length_range] at hs
  obtain ⟨hs1, hs2, _⟩ := hs
  have hsz : ∀ i, i < len → Small P e (D i) := fun i hi => small_all hs2 (D i) (List.mem_map.2 ⟨i, List.mem_range.2 hi, rfl⟩)
  have hlen : len ≤ 140737488355328 := by
    have h1 : len ≤ (len + (m - len)) * P.bytesOf e := Nat.le_trans (by omega) (Nat.le_mul_of_pos_right _ hby)
    have := reachBytes_lt
    omega
  by_cases h0 : len = 0
  · subst h0
    exact ⟨_, [], rfl, some a, cap, 0, 0, rfl, hl, by simp, fun h => by simp at h, fun i h => by simp at h⟩
  obtain ⟨c0, hc0, _⟩ := hi 0 (by omega)
  obtain ⟨_, hcl0, hat0⟩ := World.cells?_some hc0
  have hsp : a.spot = none := by
    have h1 := hat0 0 hk0
    rw [Nat.zero_mul, add_zero, add_zero] at h1
    exact spot_none (h1.trans (List.getElem?_eq_getElem (by omega)))
  obtain ⟨b, o, sp⟩ := a
  simp only at hsp
  subst hsp
  have hblk : b < w.heap.size := by
    have h1 := hat0 0 hk0
    rw [Nat.zero_mul, add_zero, add_zero] at h1
    exact World.block_lt_of_cell? w ⟨b, o, none⟩ (h1.trans (List.getElem?_eq_getElem (by omega)))
  have hall : ∀ i : Fin len, ∃ y, R w b (o + i.val * P.cellsOf e) y := fun i => by
    obtain ⟨cs', hc, htr⟩ := hi i.val (by omega)
    obtain ⟨_, hcl, hat⟩ := World.cells?_some hc
    refine hel b _ cs' n _ hblk hcl (fun j hj => ?_) htr (hsz i.val i.isLt)
    have := hat j hj
    rwa [add_eq, add_eq] at this
  have hch := Classical.axiomOfChoice hall
  obtain ⟨f, hf⟩ := hch
  refine ⟨_, List.ofFn f, rfl, some ⟨b, o, none⟩, cap, b, o, by simp, by simpa using hl, by simpa using hlen, fun _ => rfl, fun i h => ?_⟩
  have := hf ⟨i, by simpa using h⟩
  simpa using this
/-- a struct of one-cell fields: its cells, and the reading of each -/
theorem open_fields {P : Program} {t : TypeId} {fs : Array Field} {n : Nat} {cs : List Value} {d : DataW H × List MemPlace} (ht : P.underlying t = some (.struct fs)) (hone : oneCellFields P fs = true)
    (h : DataW.trod enc P w base spare held n t cs = some d) (hs : Small P t d.1) (hlen : cs.length = fs.size) :
    ∃ m, ∀ (j : Nat) (f : Field), fs[j]? = some f → ∃ (v : Value) (y : DataW H × List MemPlace), cs[j]? = some v ∧ DataW.trod enc P w base spare held m f.type [v] = some y ∧ Small P f.type y.1 := by
  obtain ⟨xs, m, _, rfl, _, hxl, hf⟩ := DataW.trod_struct ht h
  unfold Small at hs
  simp only [DataW.weights, ht] at hs
  refine ⟨m, fun j f hj => ?_⟩
  obtain ⟨ho, hk⟩ := hone_of hone j f hj
  have hjl : j < fs.size := (Array.getElem?_eq_some_iff.1 hj).1
  have h1 := hf j f hj
  rw [ho, hk] at h1
  have hone' : (cs.drop j).take 1 = [cs[j]'(by omega)] := by rw [List.drop_eq_getElem_cons (by omega)]; rfl
  rw [hone', List.getElem?_eq_getElem (by omega)] at h1
  refine ⟨_, _, List.getElem?_eq_getElem (by omega), h1, ?_⟩
  refine small_each hs j f.type _ ?_ ?_
  · simp [hj]
  · simp [List.getElem?_eq_getElem (show j < xs.length by omega)]
theorem small_string {P : Program} {t : TypeId} {l : List UInt8} (h : Small (H := H) P t (.lit (.string l))) : l.length ≤ 140737488355328 := by
  unfold Small at h
  simp [DataW.weights] at h
  have := reachBytes_lt
  omega
theorem small_bytes {P : Program} {t : TypeId} {s : ByteArray} (h : Small (H := H) P t (.lit (.string s.data.toList))) : s.size ≤ 140737488355328 := by
  have := small_string h
  simpa using this
end
/-- arguments read as they did in a world that keeps all that there was -/
theorem trodAll_below {H : Type} {enc : TypeId × Value → H} {P : Program} (hl : laidOutB P = true) {W W' : World} (hb : Below W.heap.size W W') : ∀ {ts : List TypeId} {vs : List Value} {ds : List (DataW H)} {ps : List MemPlace},
    (ts.all fun t => P.readableRec t && decide (t < P.types.size)) = true → DataW.TrodAll enc P W 0 (fun _ => true) true ts vs ds ps → (∀ x ∈ ps, x.block < W.heap.size) →
    DataW.TrodAll enc P W' 0 (fun b => decide (b < W.heap.size)) true ts vs ds ps
  | [], [], [], ps, _, h, _ => h
  | t :: ts, v :: vs, d :: ds, ps, hr, h, hlt => by
    obtain ⟨p, q, h1, h2, rfl⟩ := h
    simp only [List.all_cons, Bool.and_eq_true, decide_eq_true_eq] at hr
    exact ⟨p, q, Below.trod hl hr.1.1 hr.1.2 h1 hb (fun x hx => hlt x (List.mem_append.2 (.inl hx))), trodAll_below hl hb (by simpa using hr.2) h2 (fun x hx => hlt x (List.mem_append.2 (.inr hx))), rfl⟩
  | [], _ :: _, _, _, _, h, _ => h.elim
  | [], [], _ :: _, _, _, h, _ => h.elim
  | _ :: _, [], _, _, _, h, _ => h.elim
  | _ :: _, _ :: _, [], _, _, h, _ => h.elim
theorem RowAt.split {α : Type} {k : Nat} {R : World → Nat → Nat → α → Prop} {B : α → Prop} {w : World} {v : Value} {l : List α} (h : RowAt k (fun w b o y => R w b o y ∧ B y) w v l) : RowAt k R w v l ∧ ∀ y ∈ l, B y := by
  obtain ⟨p, cap, b, o, h1, h2, h3, h4, h5⟩ := h
  refine ⟨⟨p, cap, b, o, h1, h2, h3, h4, fun i hi => (h5 i hi).1⟩, fun y hy => ?_⟩
  obtain ⟨i, hi, rfl⟩ := List.mem_iff_getElem.1 hy
  exact (h5 i hi).2
section
variable {H : Type} {enc : TypeId × Value → H} {w : World} {base : Nat} {spare : Nat → Bool} {held : Bool}
theorem slice_bytes {P : Program} {t e : TypeId} (ht : P.underlying t = some (.slice e)) {p : Option Addr} {n cap fuel : Nat} {x : DataW H × List MemPlace} (h : DataW.trod enc P w base spare held fuel t [.slice p n cap] = some x) (hs : Small P t x.1) : n * P.bytesOf e ≤ 140737488351232 := by
  rcases open_slice ht h with ⟨hcs, rfl⟩ | ⟨a, len, cap', m, n', D, Pl, hcs, hb, hl, hm, hmm, rfl, hi⟩
  · cases hcs; simp
  · cases hcs
    unfold Small at hs
    simp only [DataW.weights, ht, List.all_cons, List.all_append, Bool.and_eq_true, decide_eq_true_eq, List.length_map, List.length_range] at hs
    have h1 : n * P.bytesOf e ≤ (n + (m - n)) * P.bytesOf e := Nat.mul_le_mul_right _ (by omega)
    have h9 : reachBytes = 140737488351232 := rfl
    omega
theorem row_bytes {α : Type} {P : Program} {t e : TypeId} {k by' : Nat} {R : World → Nat → Nat → α → Prop} (ht : P.underlying t = some (.slice e)) (hby : P.bytesOf e = by') {v : Value} {l : List α} {fuel : Nat} {x : DataW H × List MemPlace}
    (h : DataW.trod enc P w base spare held fuel t [v] = some x) (hs : Small P t x.1) (hr : RowAt k R w v l) : l.length * by' ≤ 140737488351232 := by
  obtain ⟨p, cap, b, o, rfl, -⟩ := hr
  rw [← hby]
  exact slice_bytes ht h hs
end
end Go.Proofs.YtboegjdkedjhcaaGreatDoor
namespace Go.Proofs.YtboegjdkedjhcaaGreatDoor
open Go.ChangeShapes Go.WideShapes Go.ChangeAt Go.RowKit
open Go.ChangeMaps (open_string)
theorem own : ownKnob Tryz.prog.godebug = none := by kernel_rfl
theorem laidOut : laidOutB Tryz.prog = true := by kernel_rfl
/-- a law's post: it answers true and keeps all that there was -/
theorem law_post {H : Type} {enc : TypeId × Value → H} {f : Func} {s : ChangeSpec} {W W' : World} {args : Array Value} {ds : List (DataW H)} {before : List MemPlace}
    (hres : f.resultTypes.toList = [4]) (hvars : s.vars = []) (hr : (f.params.toList.all fun t => Tryz.prog.readableRec t && decide (t < Tryz.prog.types.size)) = true)
    (hW : DataW.Whole enc Tryz.prog f.params.toList s.vars false W args.toList ds [] before) (hs : s.fn H (ds ++ []) = { results := [.lit (.bool true)], args := ds }) (hb : Below W.heap.size W W') :
    s.post enc Tryz.prog f false true false false W args (.bool true) W' := by
  have hlt : ∀ x ∈ before, x.block < W.heap.size := fun x hx => hW.lt x hx
  have hW0 := hW
  obtain ⟨p, q, hA, hV, rfl, -, -⟩ := hW0
  refine ⟨ds, [], p ++ q, [], p, q, hW, ?_, ?_, ?_, hb.frame _, fun h => by cases h⟩
  · rw [hs, hres]
    have : f.resultTypes.size = 1 := by rw [← Array.length_toList, hres]; rfl
    rw [this]
    exact ⟨[], [], shut_bool Tryz.underlying4 true, rfl, rfl⟩
  · rw [hs]
    exact trodAll_below laidOut hb hr hA (fun x hx => hlt x (List.mem_append.2 (.inl hx)))
  · rw [hs, hvars]
    rw [hvars] at hV
    exact hV
end Go.Proofs.YtboegjdkedjhcaaGreatDoor
namespace Go.Proofs.YtboegjdkedjhcaaGreatDoor
open Go.ChangeShapes Go.WideShapes Go.ChangeAt Go.RowKit Go.Deep
section
variable {H : Type} {enc : TypeId × Value → H} {w : World} {base : Nat} {spare : Nat → Bool} {held : Bool}
theorem open_note (b o : Nat) (cs : List Value) (n : Nat) (d : DataW H × List MemPlace) (hb : b < w.heap.size) (hl : cs.length = 3) (hc : ∀ j, j < 3 → w.cell? ⟨b, o + j, none⟩ = cs[j]?)
    (h : DataW.trod enc Tryz.prog w base spare held n 155 cs = some d) (hs : Small Tryz.prog 155 d.1) : ∃ y, NoteR w b o y := by
  obtain ⟨m, hf⟩ := open_fields Tryz.underlying155 (by kernel_rfl) h hs hl
  obtain ⟨v0, y0, e0, t0, _⟩ := hf 0 _ rfl
  obtain ⟨v1, y1, e1, t1, _⟩ := hf 1 _ rfl
  obtain ⟨v2, y2, e2, t2, _⟩ := hf 2 _ rfl
  obtain ⟨n0, c0, -, w0⟩ := DataW.trod_int Tryz.underlying5 t0
  obtain ⟨n1, c1, -, w1⟩ := DataW.trod_int Tryz.underlying51 t1
  obtain ⟨n2, c2, -, w2⟩ := DataW.trod_int Tryz.underlying51 t2
  cases c0; cases c1; cases c2
  exact ⟨⟨n0, n1, n2⟩, hb, (hc 0 (by omega)).trans e0, (hc 1 (by omega)).trans e1, (hc 2 (by omega)).trans e2, bounds_u8 w0, bounds_u32 w1, bounds_u32 w2⟩
theorem open_rel (b o : Nat) (cs : List Value) (n : Nat) (d : DataW H × List MemPlace) (hb : b < w.heap.size) (hl : cs.length = 4) (hc : ∀ j, j < 4 → w.cell? ⟨b, o + j, none⟩ = cs[j]?)
    (h : DataW.trod enc Tryz.prog w base spare held n 133 cs = some d) (hs : Small Tryz.prog 133 d.1) : ∃ y, RelR w b o y := by
  obtain ⟨m, hf⟩ := open_fields Tryz.underlying133 (by kernel_rfl) h hs hl
  obtain ⟨v0, y0, e0, t0, _⟩ := hf 0 _ rfl
  obtain ⟨v1, y1, e1, t1, _⟩ := hf 1 _ rfl
  obtain ⟨v2, y2, e2, t2, s2⟩ := hf 2 _ rfl
  obtain ⟨v3, y3, e3, t3, _⟩ := hf 3 _ rfl
  obtain ⟨n0, c0, -, w0⟩ := DataW.trod_int Tryz.underlying51 t0
  obtain ⟨n1, c1, -, w1⟩ := DataW.trod_int Tryz.underlying5 t1
  obtain ⟨n2, c2, rfl, w2⟩ := DataW.trod_string Tryz.underlying9 t2
  obtain ⟨n3, c3, -, w3⟩ := DataW.trod_int Tryz.underlying51 t3
  cases c0; cases c1; cases c2; cases c3
  exact ⟨⟨n0, n1, n2, n3⟩, hb, (hc 0 (by omega)).trans e0, (hc 1 (by omega)).trans e1, (hc 2 (by omega)).trans e2, (hc 3 (by omega)).trans e3, bounds_u32 w0, bounds_u8 w1, bounds_u32 w3, small_bytes s2⟩
theorem open_rels {fuel : Nat} {cs : List Value} {x : DataW H × List MemPlace} (h : DataW.trod enc Tryz.prog w base spare held fuel 52 cs = some x) (hs : Small Tryz.prog 52 x.1) : ∃ v l, cs = [v] ∧ RowAt 4 RelR w v l :=
  open_row Tryz.underlying52 (by kernel_rfl) (by omega) (of_decide_eq_true (by kernel_rfl)) open_rel h hs
theorem open_notes {fuel : Nat} {cs : List Value} {x : DataW H × List MemPlace} (h : DataW.trod enc Tryz.prog w base spare held fuel 53 cs = some x) (hs : Small Tryz.prog 53 x.1) : ∃ v l, cs = [v] ∧ RowAt 3 NoteR w v l :=
  open_row Tryz.underlying53 (by kernel_rfl) (by omega) (of_decide_eq_true (by kernel_rfl)) open_note h hs
/-- a symbol's cells -/
theorem open_symCells (cs : List Value) (n : Nat) (d : DataW H × List MemPlace) (hl : cs.length = 7)
    (h : DataW.trod enc Tryz.prog w base spare held n 55 cs = some d) (hs : Small Tryz.prog 55 d.1) :
    ∃ (s : GSym) (vr vn : Value), cs = [.string s.name, .int .u8 s.bind, .int .u8 s.kind, .int .u32 s.size, .string s.bytes, vr, vn] ∧ SymIn w s vr vn := by
  obtain ⟨m, hf⟩ := open_fields Tryz.underlying55 (by kernel_rfl) h hs hl
  obtain ⟨v0, y0, e0, t0, s0⟩ := hf 0 _ rfl
  obtain ⟨v1, y1, e1, t1, _⟩ := hf 1 _ rfl
  obtain ⟨v2, y2, e2, t2, _⟩ := hf 2 _ rfl
  obtain ⟨v3, y3, e3, t3, _⟩ := hf 3 _ rfl
  obtain ⟨v4, y4, e4, t4, s4⟩ := hf 4 _ rfl
  obtain ⟨v5, y5, e5, t5, s5⟩ := hf 5 _ rfl
  obtain ⟨v6, y6, e6, t6, s6⟩ := hf 6 _ rfl
  obtain ⟨n0, c0, rfl, w0⟩ := DataW.trod_string Tryz.underlying9 t0
  obtain ⟨n1, c1, -, w1⟩ := DataW.trod_int Tryz.underlying5 t1
  obtain ⟨n2, c2, -, w2⟩ := DataW.trod_int Tryz.underlying5 t2
  obtain ⟨n3, c3, -, w3⟩ := DataW.trod_int Tryz.underlying51 t3
  obtain ⟨n4, c4, rfl, w4⟩ := DataW.trod_string Tryz.underlying9 t4
  obtain ⟨u5, l5, c5, r5⟩ := open_rels t5 s5
  obtain ⟨u6, l6, c6, r6⟩ := open_notes t6 s6
  cases c0; cases c1; cases c2; cases c3; cases c4; cases c5; cases c6
  refine ⟨⟨n0, n1, n2, n3, n4, l5, l6⟩, v5, v6, ?_, r5, r6, bounds_u8 w1, bounds_u8 w2, bounds_u32 w3, small_bytes s0, small_bytes s4⟩
  match cs, hl, e0, e1, e2, e3, e4, e5, e6 with
  | [a0, a1, a2, a3, a4, a5, a6], _, e0, e1, e2, e3, e4, e5, e6 => simp at e0 e1 e2 e3 e4 e5 e6; simp [e0, e1, e2, e3, e4, e5, e6]
end
end Go.Proofs.YtboegjdkedjhcaaGreatDoor
namespace Go.Proofs.YtboegjdkedjhcaaGreatDoor
open Go.ChangeShapes Go.WideShapes Go.ChangeAt Go.RowKit Go.Deep
def SymBd (s : GSym) : Prop := s.rels.length * 32 ≤ 140737488351232 ∧ s.notes.length * 12 ≤ 140737488351232
def ObjBd (o : GObj) : Prop := o.syms.length * 88 ≤ 140737488351232 ∧ ∀ s ∈ o.syms, SymBd s
def ObjsBd (l : List GObj) : Prop := l.length * 40 ≤ 140737488351232 ∧ ∀ o ∈ l, ObjBd o
section
variable {H : Type} {enc : TypeId × Value → H} {w : World} {base : Nat} {spare : Nat → Bool} {held : Bool}
theorem open_symB (b o : Nat) (cs : List Value) (n : Nat) (d : DataW H × List MemPlace) (hb : b < w.heap.size) (hl : cs.length = 7) (hc : ∀ j, j < 7 → w.cell? ⟨b, o + j, none⟩ = cs[j]?)
    (h : DataW.trod enc Tryz.prog w base spare held n 55 cs = some d) (hs : Small Tryz.prog 55 d.1) : ∃ y, SymR w b o y ∧ SymBd y := by
  obtain ⟨s, vr, vn, rfl, hin⟩ := open_symCells cs n d hl h hs
  obtain ⟨m, hf⟩ := open_fields Tryz.underlying55 (by kernel_rfl) h hs hl
  obtain ⟨v5, y5, e5, t5, s5⟩ := hf 5 _ rfl
  obtain ⟨v6, y6, e6, t6, s6⟩ := hf 6 _ rfl
  cases e5; cases e6
  exact ⟨s, ⟨vr, vn, hb, hc 0 (by omega), hc 1 (by omega), hc 2 (by omega), hc 3 (by omega), hc 4 (by omega), hc 5 (by omega), hc 6 (by omega), hin⟩,
    row_bytes Tryz.underlying52 (by kernel_rfl) t5 s5 hin.1, row_bytes Tryz.underlying53 (by kernel_rfl) t6 s6 hin.2.1⟩
theorem open_objB (b o : Nat) (cs : List Value) (n : Nat) (d : DataW H × List MemPlace) (hb : b < w.heap.size) (hl : cs.length = 2) (hc : ∀ j, j < 2 → w.cell? ⟨b, o + j, none⟩ = cs[j]?)
    (h : DataW.trod enc Tryz.prog w base spare held n 50 cs = some d) (hs : Small Tryz.prog 50 d.1) : ∃ y, ObjR w b o y ∧ ObjBd y := by
  obtain ⟨m, hf⟩ := open_fields Tryz.underlying50 (by kernel_rfl) h hs hl
  obtain ⟨v0, y0, e0, t0, s0⟩ := hf 0 _ rfl
  obtain ⟨v1, y1, e1, t1, s1⟩ := hf 1 _ rfl
  obtain ⟨n0, c0, rfl, w0⟩ := DataW.trod_string Tryz.underlying9 t0
  obtain ⟨u1, l1, c1, r1⟩ := open_row (R := fun w b o y => SymR w b o y ∧ SymBd y) Tryz.underlying48 (by kernel_rfl) (by omega) (of_decide_eq_true (by kernel_rfl)) open_symB t1 s1
  cases c0; cases c1
  obtain ⟨r2, r3⟩ := r1.split
  exact ⟨⟨n0, l1⟩, ⟨v1, hb, (hc 0 (by omega)).trans e0, (hc 1 (by omega)).trans e1, r2, small_bytes s0⟩, row_bytes Tryz.underlying48 (by kernel_rfl) t1 s1 r2, r3⟩
theorem open_objsB {v : Value} {d : DataW H} {p : List MemPlace} (h : DataW.Trod enc Tryz.prog w base spare held 22 v d p) (hsl : ∃ a n c, v = .slice a n c) (hs : Small Tryz.prog 22 d) : ∃ l, ObjsAt w v l ∧ ObjsBd l := by
  obtain ⟨fuel, hf⟩ := h
  obtain ⟨a, n, c, rfl⟩ := hsl
  obtain ⟨v', l, hv, hr⟩ := open_row (x := (d, p)) (R := fun w b o y => ObjR w b o y ∧ ObjBd y) Tryz.underlying22 (by kernel_rfl) (by omega) (of_decide_eq_true (by kernel_rfl)) open_objB hf hs
  have : v' = .slice a n c := by simpa [Value.cells] using hv.symm
  subst this
  obtain ⟨r2, r3⟩ := hr.split
  exact ⟨l, r2, row_bytes (x := (d, p)) Tryz.underlying22 (by kernel_rfl) (by simpa [Value.cells] using hf) hs r2, r3⟩
end
end Go.Proofs.YtboegjdkedjhcaaGreatDoor
namespace Go.Proofs.YtboegjdkedjhcaaGreatDoor
open Go.ChangeShapes Go.WideShapes Go.ChangeAt Go.RowKit
open Go.ChangeMaps (open_string)
section
variable {H : Type} {enc : TypeId × Value → H} {w : World} {base : Nat} {spare : Nat → Bool} {held : Bool}
end
end Go.Proofs.YtboegjdkedjhcaaGreatDoor
namespace Go.Proofs.YtboegjdkedjhcaaGreatDoor
theorem joined_split {P : Program} {f : FuncId} {fn : Func} {s : ChangeSpec} {c : OpenClaim} (h1 : c.wf (OpenSpec.ofChange s) = true) (h2 : laidOutB P = true) (h3 : mapsRowed P = true)
    (h4 : (fn.params.all (P.readableRec ·) && namedTie P c.named s.vars) = true) (h5 : ((c.stops == []) && (P.stops == []) && (c.knobs == []) && (P.stopKnobs == [])) = true)
    (h6 : (c.inPlace == P.inPlace f) = true) (h7 : (c.unfollowed == P.unfollowed f) = true) (h8 : (c.recurses == P.recurses f) = true) (h9 : (c.named == P.varsNamed f) = true)
    (h10 : ((c.maps == (fn.params.toList ++ s.plain.varTypes P).any (P.mapsRec ·)) && (c.ifaces == (fn.params.toList ++ s.plain.varTypes P).any (P.ifacesRec ·)) && (c.mapsOut == P.mapsAmong fn.resultTypes.toList)) = true)
    (h11 : ((c.loops == (fn.params.toList ++ s.plain.varTypes P).any (P.loopsFrom ·)) && (c.wideKeys == (fn.params.toList ++ s.plain.varTypes P ++ fn.resultTypes.toList).any (P.wideKeysFrom ·))) = true)
    (h12 : (s.vars.all (P.varReadable ·) && fn.resultTypes.all (fun t => P.readableRec t && decide (t < P.types.size)) && (c.ifacesOut == fn.resultTypes.toList.any (P.ifacesRec ·)) && (c.loopsOut == fn.resultTypes.toList.any (P.loopsFrom ·))) = true)
    (h13 : (c.plainKeys == P.plainKeys) = true) (h14 : c.shortTexts.isNone = true) (h15 : P.stopsHeard = true) (h16 : P.mayEnter = true) (h17 : (c.lifted == P.liftsFinal) = true) (h18 : (P.make == some c.make) = true)
    (h19 : (c.kinds == (if c.domain.isEmpty then [] else fn.params.toList.map fun t => match P.underlying t with | some (.int k) => some k | _ => none)) = true) (h20 : (c.pinned == c.pinnedBy) = true)
    (h21 : (c.veiled == (fn.params.toList ++ s.plain.varTypes P ++ fn.resultTypes.toList).any (P.veiledRec ·)) = true) (h22 : c.veiledFits P fn.params.toList (fn.params.toList ++ s.plain.varTypes P ++ fn.resultTypes.toList) = true) : joinedFacts P f fn s c = true := by
  unfold joinedFacts
  simp only [Bool.and_eq_true] at h4 h5 h10 h11 h12 ⊢
  obtain ⟨a1, a2⟩ := h4
  obtain ⟨⟨⟨b1, b2⟩, b3⟩, b4⟩ := h5
  obtain ⟨⟨c1, c2⟩, c3⟩ := h10
  obtain ⟨d1, d2⟩ := h11
  obtain ⟨⟨⟨e1, e2⟩, e3⟩, e4⟩ := h12
  refine ⟨⟨⟨⟨⟨⟨⟨⟨⟨⟨⟨⟨⟨⟨⟨⟨⟨⟨⟨⟨⟨⟨⟨⟨⟨⟨⟨⟨⟨⟨⟨?_, ?_⟩, ?_⟩, ?_⟩, ?_⟩, ?_⟩, ?_⟩, ?_⟩, ?_⟩, ?_⟩, ?_⟩, ?_⟩, ?_⟩, ?_⟩, ?_⟩, ?_⟩, ?_⟩, ?_⟩, ?_⟩, ?_⟩, ?_⟩, ?_⟩, ?_⟩, ?_⟩, ?_⟩, ?_⟩, ?_⟩, ?_⟩, ?_⟩, ?_⟩, ?_⟩, ?_⟩
  all_goals assumption
theorem jp_maps : mapsRowed Tryz.prog = true := by kernel_rfl
theorem jp_heard : Tryz.prog.stopsHeard = true := by kernel_rfl
theorem jp_enter : Tryz.prog.mayEnter = true := by kernel_rfl
end Go.Proofs.YtboegjdkedjhcaaGreatDoor
