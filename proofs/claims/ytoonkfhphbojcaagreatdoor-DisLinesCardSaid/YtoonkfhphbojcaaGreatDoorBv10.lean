/- A map with string keys as a function from texts to values, over the kit's word ownsMap. No program in sight. A map with keys of any kind as a function, over the kit's word ownsMap. No program in sight. The bytes of a text as a row of cells. The walk of word.Get. A text is a name just if trimming the name bytes leaves nothing of it. No program in sight. The walk of obj.name: it returns isName. A number divided by 256 again and again: its bytes. No program in sight. -/
import Derived.WalkKit
import Derived.WalkSpells
import Derived.Maps.OwnSet
import Derived.Maps.Views
import Derived.StringKeys
import Derived.DeepKeys4
import Derived.Test.YtoonkfhphbojcaaGreatDoorBv09
import Derived.Sort.WalkB12
import Derived.Deep.LoopGhost
import Derived.Lib.SlicesMore
import Derived.Lib.ConvBytes
import Derived.Test.YtoonkfhphbojcaaGreatDoorRows
import Derived.Test.YtoonkfhphbojcaaGreatDoorBv01
import Derived.Lib.Hide
import Derived.Laws.BitsAllLaws
import Derived.Test.YtoonkfhphbojcaaGreatDoorBv03
import Derived.Lib.SlTrimSet
import Derived.Test.YtoonkfhphbojcaaGreatDoorTrimLay
import Derived.WalkLawsBesides
namespace Go.Proofs.YtoonkfhphbojcaaGreatDoor
open Go.RowKit Go.Maps Go.WideMaps
def mapR (v : Value) : Option (DataW Value × List MemPlace) := some (.held v, [])
/-- block b is a map of at most n entries: a text's value is f's -/
def MapFn (P : Program) (k : TypeId) (w : World) (b n : Nat) (f : List UInt8 → Option Value) : Prop :=
  ∃ D : DataW Value, w.ownsMap P k mapR b n D ∧ ∀ l, (∀ v, f l = some v → ∀ z, D.atKey (.string l) z = .held v) ∧ (f l = none → ∀ z, D.atKey (.string l) z = z)
section
variable {P : Program} {k : TypeId} {w : World} {b n : Nat} {f : List UInt8 → Option Value}
theorem MapFn.made (P : Program) (k : TypeId) (w : World) : MapFn P k (w.alloc (.map #[] 0)) w.heap.size 0 (fun _ => none) :=
  ⟨_, World.ownsMap_made w P k mapR, fun _ => ⟨fun _ h => (by cases h), fun _ _ => rfl⟩⟩
theorem MapFn.lt (h : MapFn P k w b n f) : b < w.heap.size := by obtain ⟨D, hD, _⟩ := h; exact hD.lt
theorem MapFn.kept {w' : World} (h : MapFn P k w b n f) (hb : w'.heap[b]? = w.heap[b]?) : MapFn P k w' b n f := by
  obtain ⟨D, ⟨es, clock, h1, h2⟩, hf⟩ := h
  exact ⟨D, ⟨es, clock, hb.trans h1, h2⟩, hf⟩
theorem MapFn.below {w' : World} {B : Nat} (h : MapFn P k w b n f) (hb : Below B w w') (hB : b < B) : MapFn P k w' b n f := h.kept (hb.block b hB)
theorem MapFn.alloc (h : MapFn P k w b n f) (o : Obj) : MapFn P k (w.alloc o) b n f := h.kept (Below.heap_alloc w o b h.lt)
theorem MapFn.drew (h : MapFn P k w b n f) : MapFn P k w.drew b n f := h.kept rfl
theorem MapFn.mono (h : MapFn P k w b n f) {n' : Nat} (hn : n ≤ n') : MapFn P k w b n' f := by
  obtain ⟨D, hD, hf⟩ := h; exact ⟨D, hD.mono hn, hf⟩
theorem MapFn.setCell (h : MapFn P k w b n f) {a : Addr} (ha : b ≠ a.block) (u : Value) : MapFn P k (w.setCell a u) b n f := h.kept (Below.heap_setCell w a u b ha)
theorem MapFn.grown {w' : World} {r : Nat} (h : MapFn P k w b n f) (hg : w.grownBy w' (some r)) (hne : b ≠ r) : MapFn P k w' b n f := h.kept (hg.block b h.lt (by simpa using hne))
/-- 'm[key]' -/
theorem MapFn.look {t e : TypeId} (h : MapFn P k w b n f) (K : Keyed P k) (ht : P.underlying t = some (.map k e)) (hk : P.underlying k = some .string) {z : Value} (hz : (zeroValue e).run P w = .ok z w) {s : ByteArray} (hs : s.size ≤ maxLen) :
    (Instr.lookup t (.map (some b)) (.string s) false).run P w = .ok ((f s.data.toList).getD z) w := by
  obtain ⟨D, hD, hf⟩ := h
  obtain ⟨v, ps, hrun, hR⟩ := hD.lookup K ht hz (zd := .held z) (zp := []) rfl (keyOf_string_mk hk hs)
  rw [hrun]
  obtain ⟨h1, h2⟩ := hf s.data.toList
  cases hfs : f s.data.toList with
  | none =>
    rw [h2 hfs] at hR
    simp [mapR] at hR
    rw [hR.1]; rfl
  | some u =>
    rw [h1 u hfs] at hR
    simp [mapR] at hR
    rw [hR.1]; rfl
/-- 'v, ok := m[key]' -/
theorem MapFn.look_ok {t e : TypeId} (h : MapFn P k w b n f) (K : Keyed P k) (ht : P.underlying t = some (.map k e)) (hk : P.underlying k = some .string) {z : Value} (hz : (zeroValue e).run P w = .ok z w) {s : ByteArray} (hs : s.size ≤ maxLen) :
    (Instr.lookup t (.map (some b)) (.string s) true).run P w = .ok (.tuple #[(f s.data.toList).getD z, .bool (f s.data.toList).isSome]) w := by
  obtain ⟨D, hD, hf⟩ := h
  obtain ⟨v, ps, hrun, hR⟩ := hD.look_ok K ht hz (zd := .held z) (zp := []) rfl (keyOf_string_mk hk hs)
  rw [hrun]
  obtain ⟨h1, h2⟩ := hf s.data.toList
  cases hfs : f s.data.toList with
  | none =>
    rw [Maps.has_false_of_atKey (h2 hfs)]
    rw [h2 hfs] at hR
    simp [mapR] at hR
    rw [hR.1]; rfl
  | some u =>
    rw [Maps.has_true_of_atKey (h1 u hfs)]
    rw [h1 u hfs] at hR
    simp [mapR] at hR
    rw [hR.1]; rfl
/-- 'm[key] = v' -/
theorem MapFn.put {t e : TypeId} (h : MapFn P k w b n f) (K : Keyed P k) (ht : P.underlying t = some (.map k e)) (hk : P.underlying k = some .string) (hn : n < maxLen) {s : ByteArray} (hs : s.size ≤ maxLen) (v : Value) :
    ∃ w', (Instr.mapUpdate t (.map (some b)) (.string s) v).run P w = .ok () w' ∧ MapFn P k w' b (n + 1) (fun l => if l = s.data.toList then some v else f l) ∧ w.grownBy w' (some b) := by
  obtain ⟨D, hD, hf⟩ := h
  obtain ⟨w', hrun, hD', hg⟩ := hD.update K ht hn (keyOf_string_mk hk hs) (val := v) (d := .held v) (ps := []) rfl
  refine ⟨w', hrun, ⟨_, hD', fun l => ?_⟩, hg⟩
  obtain ⟨h1, h2⟩ := hf l
  by_cases hl : l = s.data.toList
  · subst hl
    refine ⟨fun u hu z => ?_, fun hu => by simp at hu⟩
    simp at hu
    subst hu
    exact Maps.atKey_put_same hD.isMap (by simp [WideAt.IsKeyLit]) _ _
  · have hne : (Lit.string l) ≠ .string s.data.toList := fun e => hl (by cases e; rfl)
    refine ⟨fun u hu z => ?_, fun hu z => ?_⟩
    · rw [Maps.atKey_put_other hne]; simp [hl] at hu; exact h1 u hu z
    · rw [Maps.atKey_put_other hne]; simp [hl] at hu; exact h2 hu z
end
theorem cell_grown {w w' : World} {b o r : Nat} {v : Value} (hg : w.grownBy w' (some r)) (hlt : b < w.heap.size) (hne : b ≠ r) (h : w.cell? ⟨b, o, none⟩ = some v) : w'.cell? ⟨b, o, none⟩ = some v := by
  rw [World.cell?_of_block (w := w) (a := ⟨b, o, none⟩) (hg.block b hlt (by simpa using hne))]; exact h
/-- the look-up, at the operation -/
theorem wpList_look {P : Program} (w : World) {ops : Array Oper} {rest : List Oper} {o : Oper} {a : Act} {Q : Exit → Act → World → Prop} {b n : Nat} {f : List UInt8 → Option Value}
    (hg : o.guard = none) (m x : Operand) (t : TypeId) (hop : o.op = Op.lookup t m x false)
    (k e : TypeId) (K : Keyed P k) (ht : P.underlying t = some (.map k e)) (hk : P.underlying k = some .string) {z : Value} (hz : (zeroValue e).run P w = .ok z w)
    (hm : a.eval m = .map (some b)) (hown : MapFn P k w b n f) (s : ByteArray) (hx : a.eval x = .string s) (hs : s.size ≤ maxLen) {v : Value} (hv : (f s.data.toList).getD z = v)
    (hK : wpList P ops Q rest (a.put o.dst v) w) :
    wpList P ops Q (o :: rest) a w := by
  refine wpList_plain hg fun K' hK' => ?_
  have hrun := hown.look K ht hk hz hs
  rw [hv] at hrun
  unfold Oper.wp
  simp [execOp, hop, hm, hx, hrun, Result.andThen]
  exact hK' _ _ hK
theorem wpList_look_ok {P : Program} (w : World) {ops : Array Oper} {rest : List Oper} {o : Oper} {a : Act} {Q : Exit → Act → World → Prop} {b n : Nat} {f : List UInt8 → Option Value}
    (hg : o.guard = none) (m x : Operand) (t : TypeId) (hop : o.op = Op.lookup t m x true)
    (k e : TypeId) (K : Keyed P k) (ht : P.underlying t = some (.map k e)) (hk : P.underlying k = some .string) {z : Value} (hz : (zeroValue e).run P w = .ok z w)
    (hm : a.eval m = .map (some b)) (hown : MapFn P k w b n f) (s : ByteArray) (hx : a.eval x = .string s) (hs : s.size ≤ maxLen) {v : Value} (hv : (f s.data.toList).getD z = v) {is : Bool} (hi : (f s.data.toList).isSome = is)
    (hK : wpList P ops Q rest (a.put o.dst (.tuple #[v, .bool is])) w) :
    wpList P ops Q (o :: rest) a w := by
  refine wpList_plain hg fun K' hK' => ?_
  have hrun := hown.look_ok K ht hk hz hs
  rw [hv, hi] at hrun
  unfold Oper.wp
  simp [execOp, hop, hm, hx, hrun, Result.andThen]
  exact hK' _ _ hK
/-- the store, at the operation -/
theorem wpList_put {P : Program} (w : World) {ops : Array Oper} {rest : List Oper} {o : Oper} {a : Act} {Q : Exit → Act → World → Prop} {b n : Nat} {f : List UInt8 → Option Value}
    (hg : o.guard = none) (m x v : Operand) (t : TypeId) (hop : o.op = Op.mapUpdate t m x v)
    (k e : TypeId) (K : Keyed P k) (ht : P.underlying t = some (.map k e)) (hk : P.underlying k = some .string)
    (hm : a.eval m = .map (some b)) (hown : MapFn P k w b n f) (hn : n < maxLen) (s : ByteArray) (val : Value) (hx : a.eval x = .string s) (hv : a.eval v = val) (hs : s.size ≤ maxLen)
    (hK : ∀ w', MapFn P k w' b (n + 1) (fun l => if l = s.data.toList then some val else f l) → w.grownBy w' (some b) → wpList P ops Q rest (a.put o.dst undef) w') :
    wpList P ops Q (o :: rest) a w := by
  refine wpList_plain hg fun K' hK' => ?_
  obtain ⟨w', hrun, r1, r2⟩ := hown.put K ht hk hn hs val
  unfold Oper.wp
  simp [execOp, hop, hm, hx, hv, hrun, Result.andThen]
  exact hK' _ _ (hK w' r1 r2)
end Go.Proofs.YtoonkfhphbojcaaGreatDoor
namespace Go.Proofs.YtoonkfhphbojcaaGreatDoor
open Go.RowKit Go.Maps Go.WideMaps
/-- how keys are laid as values -/
structure KeyEnc (P : Program) (k : TypeId) (α : Type) where
  enc : α → Value
  lit : α → Lit
  ok : α → Prop
  key : ∀ a, ok a → keyOf P k (enc a) = some (lit a)
  inj : ∀ a b, enc a = enc b → a = b
/-- block b is a map of at most n entries: a key's value is f's -/
def MapKFn {P : Program} {k : TypeId} {α : Type} (E : KeyEnc P k α) (w : World) (b n : Nat) (f : α → Option Value) : Prop :=
  ∃ D : DataW Value, w.ownsMap P k mapR b n D ∧ ∀ a, E.ok a → (∀ v, f a = some v → ∀ z, D.atKey (E.lit a) z = .held v) ∧ (f a = none → ∀ z, D.atKey (E.lit a) z = z)
section
variable {P : Program} {k : TypeId} {α : Type} {E : KeyEnc P k α} {w : World} {b n : Nat} {f : α → Option Value}
theorem MapKFn.made (E : KeyEnc P k α) (w : World) : MapKFn E (w.alloc (.map #[] 0)) w.heap.size 0 (fun _ => none) :=
  ⟨_, World.ownsMap_made w P k mapR, fun _ _ => ⟨fun _ h => (by cases h), fun _ _ => rfl⟩⟩
theorem MapKFn.lt (h : MapKFn E w b n f) : b < w.heap.size := by obtain ⟨D, hD, _⟩ := h; exact hD.lt
theorem MapKFn.kept {w' : World} (h : MapKFn E w b n f) (hb : w'.heap[b]? = w.heap[b]?) : MapKFn E w' b n f := by
  obtain ⟨D, ⟨es, clock, h1, h2⟩, hf⟩ := h
  exact ⟨D, ⟨es, clock, hb.trans h1, h2⟩, hf⟩
theorem MapKFn.below {w' : World} {B : Nat} (h : MapKFn E w b n f) (hb : Below B w w') (hB : b < B) : MapKFn E w' b n f := h.kept (hb.block b hB)
theorem MapKFn.alloc (h : MapKFn E w b n f) (o : Obj) : MapKFn E (w.alloc o) b n f := h.kept (Below.heap_alloc w o b h.lt)
theorem MapKFn.drew (h : MapKFn E w b n f) : MapKFn E w.drew b n f := h.kept rfl
theorem MapKFn.mono (h : MapKFn E w b n f) {n' : Nat} (hn : n ≤ n') : MapKFn E w b n' f := by
  obtain ⟨D, hD, hf⟩ := h; exact ⟨D, hD.mono hn, hf⟩
theorem MapKFn.setCell (h : MapKFn E w b n f) {a : Addr} (ha : b ≠ a.block) (u : Value) : MapKFn E (w.setCell a u) b n f := h.kept (Below.heap_setCell w a u b ha)
theorem MapKFn.grown {w' : World} {r : Nat} (h : MapKFn E w b n f) (hg : w.grownBy w' (some r)) (hne : b ≠ r) : MapKFn E w' b n f := h.kept (hg.block b h.lt (by simpa using hne))
theorem MapKFn.look {t e : TypeId} (h : MapKFn E w b n f) (K : Keyed P k) (ht : P.underlying t = some (.map k e)) {z : Value} (hz : (zeroValue e).run P w = .ok z w) {a : α} (ha : E.ok a) :
    (Instr.lookup t (.map (some b)) (E.enc a) false).run P w = .ok ((f a).getD z) w := by
  obtain ⟨D, hD, hf⟩ := h
  obtain ⟨v, ps, hrun, hR⟩ := hD.lookup K ht hz (zd := .held z) (zp := []) rfl (E.key a ha)
  rw [hrun]
  obtain ⟨h1, h2⟩ := hf a ha
  cases hfs : f a with
  | none =>
    rw [h2 hfs] at hR
    simp [mapR] at hR
    rw [hR.1]; rfl
  | some u =>
    rw [h1 u hfs] at hR
    simp [mapR] at hR
    rw [hR.1]; rfl
theorem MapKFn.look_ok {t e : TypeId} (h : MapKFn E w b n f) (K : Keyed P k) (ht : P.underlying t = some (.map k e)) {z : Value} (hz : (zeroValue e).run P w = .ok z w) {a : α} (ha : E.ok a) :
    (Instr.lookup t (.map (some b)) (E.enc a) true).run P w = .ok (.tuple #[(f a).getD z, .bool (f a).isSome]) w := by
  obtain ⟨D, hD, hf⟩ := h
  obtain ⟨v, ps, hrun, hR⟩ := hD.look_ok K ht hz (zd := .held z) (zp := []) rfl (E.key a ha)
  rw [hrun]
  obtain ⟨h1, h2⟩ := hf a ha
  cases hfs : f a with
  | none =>
    rw [Maps.has_false_of_atKey (h2 hfs)]
    rw [h2 hfs] at hR
    simp [mapR] at hR
    rw [hR.1]; rfl
  | some u =>
    rw [Maps.has_true_of_atKey (h1 u hfs)]
    rw [h1 u hfs] at hR
    simp [mapR] at hR
    rw [hR.1]; rfl
theorem MapKFn.put [DecidableEq α] {t e : TypeId} (h : MapKFn E w b n f) (K : Keyed P k) (ht : P.underlying t = some (.map k e)) (hn : n < maxLen) {a : α} (ha : E.ok a) (v : Value) :
    ∃ w', (Instr.mapUpdate t (.map (some b)) (E.enc a) v).run P w = .ok () w' ∧ MapKFn E w' b (n + 1) (fun x => if x = a then some v else f x) ∧ w.grownBy w' (some b) := by
  obtain ⟨D, hD, hf⟩ := h
  obtain ⟨w', hrun, hD', hg⟩ := hD.update K ht hn (E.key a ha) (val := v) (d := .held v) (ps := []) rfl
  refine ⟨w', hrun, ⟨_, hD', fun l hl0 => ?_⟩, hg⟩
  obtain ⟨h1, h2⟩ := hf l hl0
  by_cases hl : l = a
  · subst hl
    refine ⟨fun u hu z => ?_, fun hu => by simp at hu⟩
    simp at hu
    subst hu
    exact Maps.atKey_put_same hD.isMap (K.key (E.key l ha)) _ _
  · have hne : E.lit l ≠ E.lit a := fun e => hl (E.inj _ _ (K.inj (E.key l hl0) (e ▸ E.key a ha)))
    refine ⟨fun u hu z => ?_, fun hu z => ?_⟩
    · rw [Maps.atKey_put_other hne]; simp [hl] at hu; exact h1 u hu z
    · rw [Maps.atKey_put_other hne]; simp [hl] at hu; exact h2 hu z
end
theorem wpList_lookK {P : Program} {α : Type} {k : TypeId} {E : KeyEnc P k α} (w : World) {ops : Array Oper} {rest : List Oper} {o : Oper} {a : Act} {Q : Exit → Act → World → Prop} {b n : Nat} {f : α → Option Value}
    (hg : o.guard = none) (m x : Operand) (t : TypeId) (hop : o.op = Op.lookup t m x false)
    (e : TypeId) (K : Keyed P k) (ht : P.underlying t = some (.map k e)) {z : Value} (hz : (zeroValue e).run P w = .ok z w)
    (hm : a.eval m = .map (some b)) (hown : MapKFn E w b n f) (s : α) (hx : a.eval x = E.enc s) (hs : E.ok s) {v : Value} (hv : (f s).getD z = v)
    (hK : wpList P ops Q rest (a.put o.dst v) w) :
    wpList P ops Q (o :: rest) a w := by
  refine wpList_plain hg fun K' hK' => ?_
  have hrun := hown.look K ht hz hs
  rw [hv] at hrun
  unfold Oper.wp
  simp [execOp, hop, hm, hx, hrun, Result.andThen]
  exact hK' _ _ hK
theorem wpList_lookK_ok {P : Program} {α : Type} {k : TypeId} {E : KeyEnc P k α} (w : World) {ops : Array Oper} {rest : List Oper} {o : Oper} {a : Act} {Q : Exit → Act → World → Prop} {b n : Nat} {f : α → Option Value}
    (hg : o.guard = none) (m x : Operand) (t : TypeId) (hop : o.op = Op.lookup t m x true)
    (e : TypeId) (K : Keyed P k) (ht : P.underlying t = some (.map k e)) {z : Value} (hz : (zeroValue e).run P w = .ok z w)
    (hm : a.eval m = .map (some b)) (hown : MapKFn E w b n f) (s : α) (hx : a.eval x = E.enc s) (hs : E.ok s) {v : Value} (hv : (f s).getD z = v) {is : Bool} (hi : (f s).isSome = is)
    (hK : wpList P ops Q rest (a.put o.dst (.tuple #[v, .bool is])) w) :
    wpList P ops Q (o :: rest) a w := by
  refine wpList_plain hg fun K' hK' => ?_
  have hrun := hown.look_ok K ht hz hs
  rw [hv, hi] at hrun
  unfold Oper.wp
  simp [execOp, hop, hm, hx, hrun, Result.andThen]
  exact hK' _ _ hK
theorem wpList_putK {P : Program} {α : Type} [DecidableEq α] {k : TypeId} {E : KeyEnc P k α} (w : World) {ops : Array Oper} {rest : List Oper} {o : Oper} {a : Act} {Q : Exit → Act → World → Prop} {b n : Nat} {f : α → Option Value}
    (hg : o.guard = none) (m x v : Operand) (t : TypeId) (hop : o.op = Op.mapUpdate t m x v)
    (e : TypeId) (K : Keyed P k) (ht : P.underlying t = some (.map k e))
    (hm : a.eval m = .map (some b)) (hown : MapKFn E w b n f) (hn : n < maxLen) (s : α) (val : Value) (hx : a.eval x = E.enc s) (hv : a.eval v = val) (hs : E.ok s)
    (hK : ∀ w', MapKFn E w' b (n + 1) (fun l => if l = s then some val else f l) → w.grownBy w' (some b) → wpList P ops Q rest (a.put o.dst undef) w') :
    wpList P ops Q (o :: rest) a w := by
  refine wpList_plain hg fun K' hK' => ?_
  obtain ⟨w', hrun, r1, r2⟩ := hown.put K ht hn hs val
  unfold Oper.wp
  simp [execOp, hop, hm, hx, hv, hrun, Result.andThen]
  exact hK' _ _ (hK w' r1 r2)
theorem wpList_insertK {P : Program} {α : Type} [DecidableEq α] {k : TypeId} {E : KeyEnc P k α} (w : World) {ops : Array Oper} {rest : List Oper} {o : Oper} {a : Act} {Q : Exit → Act → World → Prop} {b n : Nat} {f : α → Option Value}
    (hg : o.guard = none) (m x v : Operand) (t : TypeId) (hop : o.op = Op.insert t m x v)
    (e : TypeId) (K : Keyed P k) (ht : P.underlying t = some (.map k e))
    (hm : a.eval m = .map (some b)) (hown : MapKFn E w b n f) (hn : n < maxLen) (s : α) (val : Value) (hx : a.eval x = E.enc s) (hv : a.eval v = val) (hs : E.ok s)
    (hK : ∀ w', MapKFn E w' b (n + 1) (fun l => if l = s then some val else f l) → w.grownBy w' (some b) → wpList P ops Q rest (a.put o.dst undef) w') :
    wpList P ops Q (o :: rest) a w := by
  refine wpList_plain hg fun K' hK' => ?_
  obtain ⟨w', hrun, r1, r2⟩ := hown.put K ht hn hs val
  unfold Oper.wp
  simp [execOp, hop, hm, hx, hv, hrun, Result.andThen]
  exact hK' _ _ (hK w' r1 r2)
end Go.Proofs.YtoonkfhphbojcaaGreatDoor
namespace Go.Proofs.YtoonkfhphbojcaaGreatDoor
open Go.RowKit Go.Sort Go.Proofs
def encU : Int → Value := fun x => .int .u8 x
theorem below_putRow {B : Nat} {a w : World} {blk off n : Nat} {d : Array Int} (h : Below B a w) (hB : B ≤ blk) : Below B a (putRow encU (Sort.ahead w n) blk off d) := by
  refine h.trans ⟨rfl, rfl, rfl, by simp, fun k hk => ?_⟩
  simp only [putRow, mapBlock, Sort.ahead, Array.getElem?_modify]
  rw [if_neg (by omega)]
def natsOf (l : BL) : Array Int := (l.map fun b => (b.toNat : Int)).toArray
theorem natsOf_size (l : BL) : (natsOf l).size = l.length := by simp [natsOf]
theorem bytes_hold (w : World) (l : BL) : Holds encU (Lib.bytesWorld w 5 (bsOf l)) w.heap.size 0 (natsOf l) := by
  intro j hj
  rw [natsOf_size] at hj
  refine ⟨?_, ?_⟩
  · have h := Lib.bytesWorld_cell w 5 (bsOf l) j (by rw [bsOf_size]; exact hj)
    rw [Nat.zero_add, h]
    simp [encU, natsOf, bsOf, List.getD, hj]
  · unfold World.frozen?
    rw [Lib.bytesWorld_at_new]
    simp [Lib.bytesCells, bsOf]
    omega
theorem below_bytes (w : World) (s : ByteArray) : Below w.heap.size w (Lib.bytesWorld w 5 s) :=
  ⟨rfl, rfl, rfl, by rw [Lib.bytesWorld_size]; omega, fun k hk => Lib.bytesWorld_at_old w _ s k hk⟩
theorem bytes_read {w : World} {b cap : Nat} {l : BL} (n : Nat) (hH : Holds encU w b 0 (natsOf l)) :
    (convert 79 9 (.slice (some ⟨b, 0, none⟩) l.length cap)).run Tryz.prog (putRow encU (Sort.ahead w n) b 0 (natsOf l).reverse) = .ok (.string (bsOf l.reverse)) (putRow encU (Sort.ahead w n) b 0 (natsOf l).reverse) := by
  have h := run_convert_bytes_back (P := Tryz.prog) (putRow encU (Sort.ahead w n) b 0 (natsOf l).reverse) 79 9 5 ⟨b, 0, none⟩ cap l.reverse Tryz.underlying79 Tryz.underlying5 Tryz.underlying9 (fun j hj => by
    have h2 := holds_putRow encU (Sort.ahead w n) b 0 (natsOf l) (natsOf l).reverse (holds_ahead encU w n b 0 _ hH) (by simp) j (by rw [List.length_reverse] at hj; simpa [natsOf_size] using hj)
    rw [add_at, h2.1]
    rw [List.length_reverse] at hj
    have hj2 : j < (natsOf l).reverse.size := by simpa [natsOf_size] using hj
    rw [show (natsOf l).reverse[j]! = (natsOf l).reverse[j] from getElem!_pos (natsOf l).reverse j hj2]
    simp [encU, natsOf])
  rw [List.length_reverse] at h
  exact h
end Go.Proofs.YtoonkfhphbojcaaGreatDoor
namespace Go.Proofs.YtoonkfhphbojcaaGreatDoor
open Go.RowKit
theorem leV_snoc : ∀ (l : BL) (b : UInt8), leV (l ++ [b]) = leV l + b.toNat * pow256 l.length
  | [], b => by simp [leV, pow256]
  | x :: r, b => by
    rw [List.cons_append, leV, leV_snoc r b, leV, List.length_cons, pow256]
    rw [Int.mul_add, ← Int.add_assoc, Int.mul_left_comm]
theorem or_shift (a b k : Nat) (h : a < 2 ^ k) : a ||| b <<< k = a + b * 2 ^ k := by
  rw [Nat.or_comm, Nat.shiftLeft_eq, Nat.mul_comm b, ← Nat.two_pow_add_eq_or_of_lt h, Nat.add_comm]
theorem pow256_eq : ∀ k : Nat, pow256 k = ((2 ^ (8 * k) : Nat) : Int)
  | 0 => rfl
  | k + 1 => by rw [pow256, pow256_eq k, show 8 * (k + 1) = 8 * k + 8 by omega, Nat.pow_add]; simp; omega
theorem or_byte (l : BL) (b : UInt8) (hl : l.length < 4) : bits .or .u32 (leV l) ((b.toNat : Int) % 4294967296 * 2 ^ (8 * l.length) % 4294967296) = leV (l ++ [b]) := by
  have hv := leV_bd l
  have hb := b.toNat_lt
  rw [leV_snoc, pow256_eq]
  rw [pow256_eq] at hv
  have hp : (2 ^ (8 * l.length) : Nat) ≤ 16777216 := by
    have := Nat.pow_le_pow_right (n := 2) (by omega) (show 8 * l.length ≤ 24 by omega)
    exact this
  have hm : b.toNat * 2 ^ (8 * l.length) < 4294967296 := by
    have := Nat.mul_le_mul (show b.toNat ≤ 255 by omega) hp
    omega
  obtain ⟨a, ha⟩ := Int.eq_ofNat_of_zero_le hv.1
  have e1 : ((b.toNat : Int) % 4294967296 * 2 ^ (8 * l.length) % 4294967296) = ((b.toNat * 2 ^ (8 * l.length) : Nat) : Int) := by
    rw [Int.emod_eq_of_lt (a := (b.toNat : Int)) (by omega) (by omega)]
    rw [show (b.toNat : Int) * 2 ^ (8 * l.length) = ((b.toNat * 2 ^ (8 * l.length) : Nat) : Int) by simp]
    exact Int.emod_eq_of_lt (by omega) (by omega)
  rw [e1, ha]
  rw [ha] at hv
  have ha2 : a < 2 ^ (8 * l.length) := by omega
  rw [u32_or_nat a _ (by omega) hm, ← Nat.shiftLeft_eq, or_shift a b.toNat _ ha2]
  simp
set_option maxHeartbeats 1000000 in
set_option maxRecDepth 100000 in
theorem wordGet_any (s : ByteArray) (w : World) (h1 : 1 ≤ s.size) (h4 : s.size ≤ 4) :
    Calls Tryz.prog 98 #[.string s] w fun e w' => e = .returned (.tuple #[.int .u32 (leV s.data.toList), .int .i64 0]) ∧ w = w' := by
  have d1 : decide ((s.size : Int) < 1) = false := by simp; omega
  have d4 : decide ((4 : Int) < (s.size : Int)) = false := by simp; omega
  have d4' : decide (4 < s.size) = false := by simp; omega
  go_enter Tryz.func98, Tryz.ntmps98
  go_wp2
  go_loopw [2, 15] (fun v2 v15 wr => ∃ k : Nat, k ≤ s.size ∧ v15 = .int .i64 k ∧ v2 = .int .u32 (leV (s.data.toList.take k)) ∧ w = wr) (fun _ v15 _ => s.size - (intOf v15).toNat)
  case atStart => exact ⟨0, Nat.zero_le _, rfl, rfl, rfl⟩
  case round =>
    obtain ⟨k, hk, rfl, rfl, rfl⟩ := hrel
    by_cases hlt : k < s.size
    · have HE : Hid (bits .or .u32 (leV (s.data.toList.take k)) ((s[k].toNat : Int) % 4294967296 * 2 ^ (8 * k) % 4294967296) = leV (s.data.toList.take (k + 1))) := by
        have hl : (s.data.toList.take k).length = k := by rw [List.length_take, len_list]; omega
        have := or_byte (s.data.toList.take k) s[k] (by omega)
        rw [hl] at this
        rw [Hid, this, List.take_succ_eq_append_getElem (by rw [len_list]; exact hlt)]
        rfl
      go_wp2
      exact ⟨⟨k + 1, by omega, by go_num, by rw [HE.out], trivial⟩, by simp [intOf]; omega⟩
    · have HT : Hid (s.data.toList.take k = s.data.toList) := List.take_of_length_le (by rw [len_list]; omega)
      rw [HT.out]
      go_wp2
      go_ret2
      exact ⟨rfl, rfl⟩
end Go.Proofs.YtoonkfhphbojcaaGreatDoor
namespace Go.Proofs.YtoonkfhphbojcaaGreatDoor
def nameSet : List UInt8 := [97, 98, 99, 100, 101, 102, 103, 104, 105, 106, 107, 108, 109, 110, 111, 112, 113, 114, 115, 116, 117, 118, 119, 120, 121, 122, 48, 49, 50, 51, 52, 53, 54, 55, 56, 57, 46, 95]
theorem nameSet_all : ∀ n : Fin 256, nameSet.contains (UInt8.ofNat n.val) = nameByte (UInt8.ofNat n.val) := by decide +kernel
theorem nameSet_contains (b : UInt8) : nameSet.contains b = nameByte b := by
  have := nameSet_all ⟨b.toNat, b.toNat_lt⟩
  simpa using this
theorem dropWhile_nil {α : Type} (p : α → Bool) : ∀ l : List α, l.dropWhile p = [] ↔ l.all p = true
  | [] => by simp
  | a :: l => by
    by_cases h : p a = true
    · simp [h, dropWhile_nil p l]
    · simp [h]
theorem trimS_nil (l : List UInt8) : Lib.trimS l nameSet = [] ↔ l.all nameByte = true := by
  have e : (fun b => nameSet.contains b) = nameByte := funext nameSet_contains
  unfold Lib.trimS Lib.trimLeftS Lib.trimRightS
  simp only [e]
  rw [dropWhile_nil]
  simp only [List.all_reverse]
  constructor
  · intro h
    by_cases h2 : l.all nameByte = true
    · exact h2
    · exfalso
      have h3 : ¬ (l.reverse.dropWhile nameByte = []) := by rw [dropWhile_nil, List.all_reverse]; exact h2
      obtain ⟨a, t, hat⟩ := List.exists_cons_of_ne_nil h3
      have h4 : nameByte a = false := by
        have := List.head?_dropWhile_not nameByte l.reverse
        rw [hat] at this
        simpa using this
      rw [hat] at h
      simp [h4] at h
  · intro h
    have h3 : l.reverse.dropWhile nameByte = [] := by rw [dropWhile_nil, List.all_reverse]; exact h
    simp [h3]
theorem trim_isName (s : ByteArray) (h0 : 1 ≤ s.size) (h1 : s.size ≤ 32) : (Lib.trimS s.data.toList nameSet).isEmpty = isName s := by
  rw [Bool.eq_iff_iff, List.isEmpty_iff, trimS_nil]
  simp [isName, h0, h1]
end Go.Proofs.YtoonkfhphbojcaaGreatDoor
namespace Go.Proofs.YtoonkfhphbojcaaGreatDoor
open Go.RowKit Go.Shelf Go.Lib
theorem trim_any (s : ByteArray) (w : World) (hs : s.size ≤ 9223372036854775807) :
    Calls Tryz.prog 181 #[.string s, .string ⟨#[97, 98, 99, 100, 101, 102, 103, 104, 105, 106, 107, 108, 109, 110, 111, 112, 113, 114, 115, 116, 117, 118, 119, 120, 121, 122, 48, 49, 50, 51, 52, 53, 54, 55, 56, 57, 46, 95]⟩] w fun e w' => e = .returned (.string ⟨(Lib.trimS s.data.toList nameSet).toArray⟩) ∧ Below w.heap.size w w' :=
  Any.strings_Trim_laid Tryz.lays160 (by kernel_rfl) s ⟨#[97, 98, 99, 100, 101, 102, 103, 104, 105, 106, 107, 108, 109, 110, 111, 112, 113, 114, 115, 116, 117, 118, 119, 120, 121, 122, 48, 49, 50, 51, 52, 53, 54, 55, 56, 57, 46, 95]⟩ w hs (by decide) (ascii_of_all (by decide))
set_option maxHeartbeats 400000 in
theorem objName_any (s : ByteArray) (w : World) (hs : s.size ≤ 140737488355328) :
    Calls Tryz.prog 149 #[.string s] w fun e w' => e = .returned (.bool (isName s)) ∧ Below w.heap.size w w' := by
  by_cases h0 : s.size = 0
  · have hn : isName s = false := by simp [isName, h0]
    rw [hn]; clear hn
    have hl := toList_nil h0
    clear h0
    go_enter Tryz.func149, Tryz.ntmps149
    go_wp2
    go_ret
    exact ⟨rfl, Below.refl _ _⟩
  · have h1 : 1 ≤ s.size := by omega
    have hl := toList_not_nil h1
    have hl' := toList_isEmpty h1
    clear h0
    by_cases h2 : s.size ≤ 32
    · have HN := Lib.hid (trim_isName s h1 h2)
      have hcon := trim_any s w (by omega)
      generalize Lib.trimS s.data.toList nameSet = r at hcon HN
      have HCON := Lib.hid hcon; clear hcon
      go_enter Tryz.func149, Tryz.ntmps149
      go_wp2_with (go_at_call 181; refine HCON.out.mono ?_; rintro e w' ⟨rfl, hB⟩)
      go_ret
      exact ⟨ret_bool HN.out, hB⟩
    · have hn : isName s = false := by simp [isName, h2]
      rw [hn]; clear hn
      go_enter Tryz.func149, Tryz.ntmps149
      go_wp2
      go_ret
      exact ⟨rfl, Below.refl _ _⟩
end Go.Proofs.YtoonkfhphbojcaaGreatDoor
namespace Go.Proofs.YtoonkfhphbojcaaGreatDoor
/-- divided by 256 so often -/
def dv : Nat → Int → Int
  | 0, v => v
  | i + 1, v => dv i (v / 256)
theorem dv_succ : ∀ (i : Nat) (v : Int), dv (i + 1) v = dv i v / 256
  | 0, _ => rfl
  | i + 1, v => by rw [dv, dv_succ i, dv]
theorem dv_zero : ∀ (n : Nat) (v : Int), 0 ≤ v → v < pow256 n → dv n v = 0
  | 0, v, h0, h1 => by simp only [pow256] at h1; simp only [dv]; omega
  | n + 1, v, h0, h1 => by simp only [pow256] at h1; simp only [dv]; exact dv_zero n _ (by omega) (by omega)
theorem dv_bd : ∀ (i : Nat) (v : Int), 0 ≤ v → 0 ≤ dv i v ∧ dv i v ≤ v
  | 0, v, h => ⟨h, Int.le_refl _⟩
  | i + 1, v, h => by have := dv_bd i (v / 256) (by omega); simp only [dv]; omega
theorem leB_snoc : ∀ (i : Nat) (v : Int), leB (i + 1) v = leB i v ++ [UInt8.ofNat (dv i v % 256).toNat]
  | 0, _ => rfl
  | i + 1, v => by
    rw [leB, leB_snoc i (v / 256)]; rfl
end Go.Proofs.YtoonkfhphbojcaaGreatDoor
