/- A map from places to places as a function. A map with keys of any kind as a function, over the kit's word ownsMap. No program in sight. -/
import Derived.Test.YtboegjdkedjhcaaGreatDoorBd02
import Derived.Test.YtboegjdkedjhcaaGreatDoorProg
import Derived.DeepKeys4
import Derived.Test.YtboegjdkedjhcaaGreatDoorBd07
namespace Go.Proofs.YtboegjdkedjhcaaGreatDoor
open Go.RowKit Go.Maps Go.WideMaps
/-- how keys are laid as values -/
structure KeyEnc (P : Program) (k : TypeId) (α : Type) where
  enc : α → Value
  lit : α → Lit
  ok : α → Prop
  key : ∀ a, ok a → keyOf P k (enc a) = some (lit a)
  inj : ∀ a b, enc a = enc b → a = b
/-- block b is a map of at most n entries: a key's value is f's -/
def MapKFn {P : Program} {k : TypeId} {α : Type} (E : KeyEnc P k α) (w : World) (b n : Nat) (f : α → Option Value) : Prop :=
  ∃ D : DataW Value, w.ownsMap P k mapR b n D ∧ ∀ a, E.ok a → (∀ v, f a = some v → ∀ z, D.atKey (E.lit a) z = .held v) ∧ (f a = none → ∀ z, D.atKey (E.lit a) z = z)
section
variable {P : Program} {k : TypeId} {α : Type} {E : KeyEnc P k α} {w : World} {b n : Nat} {f : α → Option Value}
theorem MapKFn.made (E : KeyEnc P k α) (w : World) : MapKFn E (w.alloc (.map #[] 0)) w.heap.size 0 (fun _ => none) :=
  ⟨_, World.ownsMap_made w P k mapR, fun _ _ => ⟨fun _ h => (by cases h), fun _ _ => rfl⟩⟩
theorem MapKFn.lt (h : MapKFn E w b n f) : b < w.heap.size := by obtain ⟨D, hD, _⟩ := h; exact hD.lt
theorem MapKFn.kept {w' : World} (h : MapKFn E w b n f) (hb : w'.heap[b]? = w.heap[b]?) : MapKFn E w' b n f := by
  obtain ⟨D, ⟨es, clock, h1, h2⟩, hf⟩ := h
  exact ⟨D, ⟨es, clock, hb.trans h1, h2⟩, hf⟩
theorem MapKFn.below {w' : World} {B : Nat} (h : MapKFn E w b n f) (hb : Below B w w') (hB : b < B) : MapKFn E w' b n f := h.kept (hb.block b hB)
theorem MapKFn.alloc (h : MapKFn E w b n f) (o : Obj) : MapKFn E (w.alloc o) b n f := h.kept (Below.heap_alloc w o b h.lt)
theorem MapKFn.drew (h : MapKFn E w b n f) : MapKFn E w.drew b n f := h.kept rfl
theorem MapKFn.setCell (h : MapKFn E w b n f) {a : Addr} (ha : b ≠ a.block) (u : Value) : MapKFn E (w.setCell a u) b n f := h.kept (Below.heap_setCell w a u b ha)
theorem MapKFn.look {t e : TypeId} (h : MapKFn E w b n f) (K : Keyed P k) (ht : P.underlying t = some (.map k e)) {z : Value} (hz : (zeroValue e).run P w = .ok z w) {a : α} (ha : E.ok a) :
    (Instr.lookup t (.map (some b)) (E.enc a) false).run P w = .ok ((f a).getD z) w := by
  obtain ⟨D, hD, hf⟩ := h
  obtain ⟨v, ps, hrun, hR⟩ := hD.lookup K ht hz (zd := .held z) (zp := []) rfl (E.key a ha)
  rw [hrun]
  obtain ⟨h1, h2⟩ := hf a ha
  cases hfs : f a with
  | none =>
    rw [h2 hfs] at hR
    simp [mapR] at hR
    rw [hR.1]; rfl
  | some u =>
    rw [h1 u hfs] at hR
    simp [mapR] at hR
    rw [hR.1]; rfl
theorem MapKFn.look_ok {t e : TypeId} (h : MapKFn E w b n f) (K : Keyed P k) (ht : P.underlying t = some (.map k e)) {z : Value} (hz : (zeroValue e).run P w = .ok z w) {a : α} (ha : E.ok a) :
    (Instr.lookup t (.map (some b)) (E.enc a) true).run P w = .ok (.tuple #[(f a).getD z, .bool (f a).isSome]) w := by
  obtain ⟨D, hD, hf⟩ := h
  obtain ⟨v, ps, hrun, hR⟩ := hD.look_ok K ht hz (zd := .held z) (zp := []) rfl (E.key a ha)
  rw [hrun]
  obtain ⟨h1, h2⟩ := hf a ha
  cases hfs : f a with
  | none =>
    rw [Maps.has_false_of_atKey (h2 hfs)]
    rw [h2 hfs] at hR
    simp [mapR] at hR
    rw [hR.1]; rfl
  | some u =>
    rw [Maps.has_true_of_atKey (h1 u hfs)]
    rw [h1 u hfs] at hR
    simp [mapR] at hR
    rw [hR.1]; rfl
theorem MapKFn.put [DecidableEq α] {t e : TypeId} (h : MapKFn E w b n f) (K : Keyed P k) (ht : P.underlying t = some (.map k e)) (hn : n < maxLen) {a : α} (ha : E.ok a) (v : Value) :
    ∃ w', (Instr.mapUpdate t (.map (some b)) (E.enc a) v).run P w = .ok () w' ∧ MapKFn E w' b (n + 1) (fun x => if x = a then some v else f x) ∧ w.grownBy w' (some b) := by
  obtain ⟨D, hD, hf⟩ := h
  obtain ⟨w', hrun, hD', hg⟩ := hD.update K ht hn (E.key a ha) (val := v) (d := .held v) (ps := []) rfl
  refine ⟨w', hrun, ⟨_, hD', fun l hl0 => ?_⟩, hg⟩
  obtain ⟨h1, h2⟩ := hf l hl0
  by_cases hl : l = a
  · subst hl
    refine ⟨fun u hu z => ?_, fun hu => by simp at hu⟩
    simp at hu
    subst hu
    exact Maps.atKey_put_same hD.isMap (K.key (E.key l ha)) _ _
  · have hne : E.lit l ≠ E.lit a := fun e => hl (E.inj _ _ (K.inj (E.key l hl0) (e ▸ E.key a ha)))
    refine ⟨fun u hu z => ?_, fun hu z => ?_⟩
    · rw [Maps.atKey_put_other hne]; simp [hl] at hu; exact h1 u hu z
    · rw [Maps.atKey_put_other hne]; simp [hl] at hu; exact h2 hu z
end
theorem wpList_lookK {P : Program} {α : Type} {k : TypeId} {E : KeyEnc P k α} (w : World) {ops : Array Oper} {rest : List Oper} {o : Oper} {a : Act} {Q : Exit → Act → World → Prop} {b n : Nat} {f : α → Option Value}
    (hg : o.guard = none) (m x : Operand) (t : TypeId) (hop : o.op = Op.lookup t m x false)
    (e : TypeId) (K : Keyed P k) (ht : P.underlying t = some (.map k e)) {z : Value} (hz : (zeroValue e).run P w = .ok z w)
    (hm : a.eval m = .map (some b)) (hown : MapKFn E w b n f) (s : α) (hx : a.eval x = E.enc s) (hs : E.ok s) {v : Value} (hv : (f s).getD z = v)
    (hK : wpList P ops Q rest (a.put o.dst v) w) :
    wpList P ops Q (o :: rest) a w := by
  refine wpList_plain hg fun K' hK' => ?_
  have hrun := hown.look K ht hz hs
  rw [hv] at hrun
  unfold Oper.wp
  simp [execOp, hop, hm, hx, hrun, Result.andThen]
  exact hK' _ _ hK
theorem wpList_putK {P : Program} {α : Type} [DecidableEq α] {k : TypeId} {E : KeyEnc P k α} (w : World) {ops : Array Oper} {rest : List Oper} {o : Oper} {a : Act} {Q : Exit → Act → World → Prop} {b n : Nat} {f : α → Option Value}
    (hg : o.guard = none) (m x v : Operand) (t : TypeId) (hop : o.op = Op.mapUpdate t m x v)
    (e : TypeId) (K : Keyed P k) (ht : P.underlying t = some (.map k e))
    (hm : a.eval m = .map (some b)) (hown : MapKFn E w b n f) (hn : n < maxLen) (s : α) (val : Value) (hx : a.eval x = E.enc s) (hv : a.eval v = val) (hs : E.ok s)
    (hK : ∀ w', MapKFn E w' b (n + 1) (fun l => if l = s then some val else f l) → w.grownBy w' (some b) → wpList P ops Q rest (a.put o.dst undef) w') :
    wpList P ops Q (o :: rest) a w := by
  refine wpList_plain hg fun K' hK' => ?_
  obtain ⟨w', hrun, r1, r2⟩ := hown.put K ht hn hs val
  unfold Oper.wp
  simp [execOp, hop, hm, hx, hv, hrun, Result.andThen]
  exact hK' _ _ (hK w' r1 r2)
end Go.Proofs.YtboegjdkedjhcaaGreatDoor
namespace Go.Proofs.YtboegjdkedjhcaaGreatDoor
open Go.RowKit Go.Maps Go.WideMaps
theorem placeOut : laidOutB Tryz.prog = true := by kernel_rfl
theorem placeRow : (185 : TypeId) < Tryz.prog.types.size := of_decide_eq_true (by kernel_rfl)
theorem placeWide : (match Tryz.prog.underlying 185 with | some (.array _ _) | some (.struct _) => true | _ => false) = true := by kernel_rfl
set_option maxRecDepth 100000 in
theorem placeKeyed : Keyed Tryz.prog 185 := Keyed.of_law (deep_law_laid placeOut (m := 2) (by omega) placeRow (by kernel_rfl) placeWide)
theorem placeKT : Tryz.prog.keyType 185 = true := by kernel_rfl
theorem placeCellsOf : Tryz.prog.cellsOf 185 = 2 := by kernel_rfl
theorem intCellsOf : Tryz.prog.cellsOf 3 = 1 := by kernel_rfl
def placeOkK (p : Nat × Nat) : Prop := p.1 ≤ 9223372036854775807 ∧ p.2 ≤ 9223372036854775807
theorem place_lits (n : Nat) (hn : 0 < n) (a b : Int) (h1 : (Lit.int .i64 a).wf = true) (h2 : (Lit.int .i64 b).wf = true) : Tryz.prog.keyLits (n + 1) 185 [.int .i64 a, .int .i64 b] = some [.int .i64 a, .int .i64 b] := by
  obtain ⟨n, rfl⟩ : ∃ m, n = m + 1 := ⟨n - 1, by omega⟩
  simp [Program.keyLits, Tryz.underlying185, Tryz.underlying3, placeCellsOf, intCellsOf, h1, h2]
theorem place_some (p : Nat × Nat) (h : placeOkK p) : (keyOf Tryz.prog 185 (placeV p)).isSome = true := by
  obtain ⟨a, b⟩ := p
  have h1 : (Lit.int .i64 (a : Int)).wf = true := WalkArith.wf_i64 (by unfold placeOkK at h; simp only [] at h; omega)
  have h2 : (Lit.int .i64 (b : Int)).wf = true := WalkArith.wf_i64 (by unfold placeOkK at h; simp only [] at h; omega)
  have hl := place_lits _ (Nat.lt_of_le_of_lt (Nat.zero_le _) placeRow) a b h1 h2
  have hf : (placeV (a, b)).formed Tryz.prog 185 = true := by simp [placeV, Value.formed, Tryz.underlying185, placeCellsOf]
  unfold keyOf
  rw [Tryz.underlying185]
  simp only []
  rw [placeKT, hf, show (placeV (a, b)).cells.toList = [.int .i64 (a : Int), .int .i64 (b : Int)] from rfl, hl]
  rfl
noncomputable def placeE : KeyEnc Tryz.prog 185 (Nat × Nat) where
  enc := placeV
  lit p := (keyOf Tryz.prog 185 (placeV p)).getD (.bool false)
  ok := placeOkK
  key p h := by
    have := place_some p h
    cases hk : keyOf Tryz.prog 185 (placeV p) with
    | none => rw [hk] at this; cases this
    | some l => rfl
  inj a b h := by
    obtain ⟨a1, a2⟩ := a
    obtain ⟨b1, b2⟩ := b
    simp [placeV] at h
    obtain ⟨h1, h2⟩ := h
    rw [Int.ofNat_inj.1 h1, Int.ofNat_inj.1 h2]
theorem zeroPl (w : World) : (zeroValue 185).run Tryz.prog w = .ok (placeV (0, 0)) w := by kernel_rfl
end Go.Proofs.YtboegjdkedjhcaaGreatDoor
