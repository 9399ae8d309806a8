/- A map from places to places as a function. A map with keys of any kind as a function, over the kit's word ownsMap. No program in sight. The walk of link.perm: a map literal. The walk of link's closed. An image linked of symbols (layer 18), in plain words. No program in sight. Fields of a symbol as a value. append onto a row of one's own, as one step of a region that draws its order. No program in sight. The walks of the gatherer of manifests (demand). -/
import Derived.Test.YtdjgkmpjhpnkeaaGreatDoorBd02
import Derived.Test.YtdjgkmpjhpnkeaaGreatDoorProg
import Derived.DeepKeys4
import Derived.Test.YtdjgkmpjhpnkeaaGreatDoorBd03
import Derived.Test.YtdjgkmpjhpnkeaaGreatDoorRows
import Derived.Maps.Keyed
import Derived.Lib.Hide
import Derived.Test.YtdjgkmpjhpnkeaaGreatDoorBd09
import Derived.Test.YtdjgkmpjhpnkeaaGreatDoorBd07
import Derived.Deep.RegionHeld3
import Derived.Deep.DeepCutAuto
import Derived.Test.YtdjgkmpjhpnkeaaGreatDoorBd04
import Derived.WalkKit
import Derived.OwnWalk
import Derived.Maps.AppendAt
import Derived.Deep.RegionLawGrows
import Derived.Test.YtdjgkmpjhpnkeaaGreatDoorBd05
namespace Go.Proofs.YtdjgkmpjhpnkeaaGreatDoor
open Go.RowKit Go.Maps Go.WideMaps
/-- how keys are laid as values -/
structure KeyEnc (P : Program) (k : TypeId) (α : Type) where
  enc : α → Value
  lit : α → Lit
  ok : α → Prop
  key : ∀ a, ok a → keyOf P k (enc a) = some (lit a)
  inj : ∀ a b, enc a = enc b → a = b
/-- block b is a map of at most n entries: a key's value is f's -/
def MapKFn {P : Program} {k : TypeId} {α : Type} (E : KeyEnc P k α) (w : World) (b n : Nat) (f : α → Option Value) : Prop :=
  ∃ D : DataW Value, w.ownsMap P k mapR b n D ∧ ∀ a, E.ok a → (∀ v, f a = some v → ∀ z, D.atKey (E.lit a) z = .held v) ∧ (f a = none → ∀ z, D.atKey (E.lit a) z = z)
section
variable {P : Program} {k : TypeId} {α : Type} {E : KeyEnc P k α} {w : World} {b n : Nat} {f : α → Option Value}
theorem MapKFn.made (E : KeyEnc P k α) (w : World) : MapKFn E (w.alloc (.map #[] 0)) w.heap.size 0 (fun _ => none) :=
  ⟨_, World.ownsMap_made w P k mapR, fun _ _ => ⟨fun _ h => (by cases h), fun _ _ => rfl⟩⟩
theorem MapKFn.lt (h : MapKFn E w b n f) : b < w.heap.size := by obtain ⟨D, hD, _⟩ := h; exact hD.lt
theorem MapKFn.kept {w' : World} (h : MapKFn E w b n f) (hb : w'.heap[b]? = w.heap[b]?) : MapKFn E w' b n f := by
  obtain ⟨D, ⟨es, clock, h1, h2⟩, hf⟩ := h
  exact ⟨D, ⟨es, clock, hb.trans h1, h2⟩, hf⟩
theorem MapKFn.below {w' : World} {B : Nat} (h : MapKFn E w b n f) (hb : Below B w w') (hB : b < B) : MapKFn E w' b n f := h.kept (hb.block b hB)
theorem MapKFn.alloc (h : MapKFn E w b n f) (o : Obj) : MapKFn E (w.alloc o) b n f := h.kept (Below.heap_alloc w o b h.lt)
theorem MapKFn.drew (h : MapKFn E w b n f) : MapKFn E w.drew b n f := h.kept rfl
theorem MapKFn.mono (h : MapKFn E w b n f) {n' : Nat} (hn : n ≤ n') : MapKFn E w b n' f := by
  obtain ⟨D, hD, hf⟩ := h; exact ⟨D, hD.mono hn, hf⟩
theorem MapKFn.setCell (h : MapKFn E w b n f) {a : Addr} (ha : b ≠ a.block) (u : Value) : MapKFn E (w.setCell a u) b n f := h.kept (Below.heap_setCell w a u b ha)
theorem MapKFn.grown {w' : World} {r : Nat} (h : MapKFn E w b n f) (hg : w.grownBy w' (some r)) (hne : b ≠ r) : MapKFn E w' b n f := h.kept (hg.block b h.lt (by simpa using hne))
theorem MapKFn.look {t e : TypeId} (h : MapKFn E w b n f) (K : Keyed P k) (ht : P.underlying t = some (.map k e)) {z : Value} (hz : (zeroValue e).run P w = .ok z w) {a : α} (ha : E.ok a) :
    (Instr.lookup t (.map (some b)) (E.enc a) false).run P w = .ok ((f a).getD z) w := by
  obtain ⟨D, hD, hf⟩ := h
  obtain ⟨v, ps, hrun, hR⟩ := hD.lookup K ht hz (zd := .held z) (zp := []) rfl (E.key a ha)
  rw [hrun]
  obtain ⟨h1, h2⟩ := hf a ha
  cases hfs : f a with
  | none =>
    rw [h2 hfs] at hR
    simp [mapR] at hR
    rw [hR.1]; rfl
  | some u =>
    rw [h1 u hfs] at hR
    simp [mapR] at hR
    rw [hR.1]; rfl
theorem MapKFn.look_ok {t e : TypeId} (h : MapKFn E w b n f) (K : Keyed P k) (ht : P.underlying t = some (.map k e)) {z : Value} (hz : (zeroValue e).run P w = .ok z w) {a : α} (ha : E.ok a) :
    (Instr.lookup t (.map (some b)) (E.enc a) true).run P w = .ok (.tuple #[(f a).getD z, .bool (f a).isSome]) w := by
  obtain ⟨D, hD, hf⟩ := h
  obtain ⟨v, ps, hrun, hR⟩ := hD.look_ok K ht hz (zd := .held z) (zp := []) rfl (E.key a ha)
  rw [hrun]
  obtain ⟨h1, h2⟩ := hf a ha
  cases hfs : f a with
  | none =>
    rw [Maps.has_false_of_atKey (h2 hfs)]
    rw [h2 hfs] at hR
    simp [mapR] at hR
    rw [hR.1]; rfl
  | some u =>
    rw [Maps.has_true_of_atKey (h1 u hfs)]
    rw [h1 u hfs] at hR
    simp [mapR] at hR
    rw [hR.1]; rfl
theorem MapKFn.put [DecidableEq α] {t e : TypeId} (h : MapKFn E w b n f) (K : Keyed P k) (ht : P.underlying t = some (.map k e)) (hn : n < maxLen) {a : α} (ha : E.ok a) (v : Value) :
    ∃ w', (Instr.mapUpdate t (.map (some b)) (E.enc a) v).run P w = .ok () w' ∧ MapKFn E w' b (n + 1) (fun x => if x = a then some v else f x) ∧ w.grownBy w' (some b) := by
  obtain ⟨D, hD, hf⟩ := h
  obtain ⟨w', hrun, hD', hg⟩ := hD.update K ht hn (E.key a ha) (val := v) (d := .held v) (ps := []) rfl
  refine ⟨w', hrun, ⟨_, hD', fun l hl0 => ?_⟩, hg⟩
  obtain ⟨h1, h2⟩ := hf l hl0
  by_cases hl : l = a
  · subst hl
    refine ⟨fun u hu z => ?_, fun hu => by simp at hu⟩
    simp at hu
    subst hu
    exact Maps.atKey_put_same hD.isMap (K.key (E.key l ha)) _ _
  · have hne : E.lit l ≠ E.lit a := fun e => hl (E.inj _ _ (K.inj (E.key l hl0) (e ▸ E.key a ha)))
    refine ⟨fun u hu z => ?_, fun hu z => ?_⟩
    · rw [Maps.atKey_put_other hne]; simp [hl] at hu; exact h1 u hu z
    · rw [Maps.atKey_put_other hne]; simp [hl] at hu; exact h2 hu z
end
theorem wpList_lookK {P : Program} {α : Type} {k : TypeId} {E : KeyEnc P k α} (w : World) {ops : Array Oper} {rest : List Oper} {o : Oper} {a : Act} {Q : Exit → Act → World → Prop} {b n : Nat} {f : α → Option Value}
    (hg : o.guard = none) (m x : Operand) (t : TypeId) (hop : o.op = Op.lookup t m x false)
    (e : TypeId) (K : Keyed P k) (ht : P.underlying t = some (.map k e)) {z : Value} (hz : (zeroValue e).run P w = .ok z w)
    (hm : a.eval m = .map (some b)) (hown : MapKFn E w b n f) (s : α) (hx : a.eval x = E.enc s) (hs : E.ok s) {v : Value} (hv : (f s).getD z = v)
    (hK : wpList P ops Q rest (a.put o.dst v) w) :
    wpList P ops Q (o :: rest) a w := by
  refine wpList_plain hg fun K' hK' => ?_
  have hrun := hown.look K ht hz hs
  rw [hv] at hrun
  unfold Oper.wp
  simp [execOp, hop, hm, hx, hrun, Result.andThen]
  exact hK' _ _ hK
theorem wpList_lookK_ok {P : Program} {α : Type} {k : TypeId} {E : KeyEnc P k α} (w : World) {ops : Array Oper} {rest : List Oper} {o : Oper} {a : Act} {Q : Exit → Act → World → Prop} {b n : Nat} {f : α → Option Value}
    (hg : o.guard = none) (m x : Operand) (t : TypeId) (hop : o.op = Op.lookup t m x true)
    (e : TypeId) (K : Keyed P k) (ht : P.underlying t = some (.map k e)) {z : Value} (hz : (zeroValue e).run P w = .ok z w)
    (hm : a.eval m = .map (some b)) (hown : MapKFn E w b n f) (s : α) (hx : a.eval x = E.enc s) (hs : E.ok s) {v : Value} (hv : (f s).getD z = v) {is : Bool} (hi : (f s).isSome = is)
    (hK : wpList P ops Q rest (a.put o.dst (.tuple #[v, .bool is])) w) :
    wpList P ops Q (o :: rest) a w := by
  refine wpList_plain hg fun K' hK' => ?_
  have hrun := hown.look_ok K ht hz hs
  rw [hv, hi] at hrun
  unfold Oper.wp
  simp [execOp, hop, hm, hx, hrun, Result.andThen]
  exact hK' _ _ hK
theorem wpList_putK {P : Program} {α : Type} [DecidableEq α] {k : TypeId} {E : KeyEnc P k α} (w : World) {ops : Array Oper} {rest : List Oper} {o : Oper} {a : Act} {Q : Exit → Act → World → Prop} {b n : Nat} {f : α → Option Value}
    (hg : o.guard = none) (m x v : Operand) (t : TypeId) (hop : o.op = Op.mapUpdate t m x v)
    (e : TypeId) (K : Keyed P k) (ht : P.underlying t = some (.map k e))
    (hm : a.eval m = .map (some b)) (hown : MapKFn E w b n f) (hn : n < maxLen) (s : α) (val : Value) (hx : a.eval x = E.enc s) (hv : a.eval v = val) (hs : E.ok s)
    (hK : ∀ w', MapKFn E w' b (n + 1) (fun l => if l = s then some val else f l) → w.grownBy w' (some b) → wpList P ops Q rest (a.put o.dst undef) w') :
    wpList P ops Q (o :: rest) a w := by
  refine wpList_plain hg fun K' hK' => ?_
  obtain ⟨w', hrun, r1, r2⟩ := hown.put K ht hn hs val
  unfold Oper.wp
  simp [execOp, hop, hm, hx, hv, hrun, Result.andThen]
  exact hK' _ _ (hK w' r1 r2)
end Go.Proofs.YtdjgkmpjhpnkeaaGreatDoor
namespace Go.Proofs.YtdjgkmpjhpnkeaaGreatDoor
open Go.RowKit Go.Maps Go.WideMaps
theorem placeOut : laidOutB Tryz.prog = true := by kernel_rfl
theorem placeRow : (63 : TypeId) < Tryz.prog.types.size := of_decide_eq_true (by kernel_rfl)
theorem placeWide : (match Tryz.prog.underlying 63 with | some (.array _ _) | some (.struct _) => true | _ => false) = true := by kernel_rfl
set_option maxRecDepth 100000 in
theorem placeKeyed : Keyed Tryz.prog 63 := Keyed.of_law (deep_law_laid placeOut (m := 2) (by omega) placeRow (by kernel_rfl) placeWide)
theorem placeKT : Tryz.prog.keyType 63 = true := by kernel_rfl
theorem placeCellsOf : Tryz.prog.cellsOf 63 = 2 := by kernel_rfl
theorem intCellsOf : Tryz.prog.cellsOf 3 = 1 := by kernel_rfl
def placeOkK (p : Nat × Nat) : Prop := p.1 ≤ 9223372036854775807 ∧ p.2 ≤ 9223372036854775807
theorem place_lits (n : Nat) (hn : 0 < n) (a b : Int) (h1 : (Lit.int .i64 a).wf = true) (h2 : (Lit.int .i64 b).wf = true) : Tryz.prog.keyLits (n + 1) 63 [.int .i64 a, .int .i64 b] = some [.int .i64 a, .int .i64 b] := by
  obtain ⟨n, rfl⟩ : ∃ m, n = m + 1 := ⟨n - 1, by omega⟩
  simp [Program.keyLits, Tryz.underlying63, Tryz.underlying3, placeCellsOf, intCellsOf, h1, h2]
theorem place_some (p : Nat × Nat) (h : placeOkK p) : (keyOf Tryz.prog 63 (placeV p)).isSome = true := by
  obtain ⟨a, b⟩ := p
  have h1 : (Lit.int .i64 (a : Int)).wf = true := WalkArith.wf_i64 (by unfold placeOkK at h; simp only [] at h; omega)
  have h2 : (Lit.int .i64 (b : Int)).wf = true := WalkArith.wf_i64 (by unfold placeOkK at h; simp only [] at h; omega)
  have hl := place_lits _ (Nat.lt_of_le_of_lt (Nat.zero_le _) placeRow) a b h1 h2
  have hf : (placeV (a, b)).formed Tryz.prog 63 = true := by simp [placeV, Value.formed, Tryz.underlying63, placeCellsOf]
  unfold keyOf
  rw [Tryz.underlying63]
  simp only []
  rw [placeKT, hf, show (placeV (a, b)).cells.toList = [.int .i64 (a : Int), .int .i64 (b : Int)] from rfl, hl]
  rfl
noncomputable def placeE : KeyEnc Tryz.prog 63 (Nat × Nat) where
  enc := placeV
  lit p := (keyOf Tryz.prog 63 (placeV p)).getD (.bool false)
  ok := placeOkK
  key p h := by
    have := place_some p h
    cases hk : keyOf Tryz.prog 63 (placeV p) with
    | none => rw [hk] at this; cases this
    | some l => rfl
  inj a b h := by
    obtain ⟨a1, a2⟩ := a
    obtain ⟨b1, b2⟩ := b
    simp [placeV] at h
    obtain ⟨h1, h2⟩ := h
    rw [Int.ofNat_inj.1 h1, Int.ofNat_inj.1 h2]
theorem zeroPl (w : World) : (zeroValue 63).run Tryz.prog w = .ok (placeV (0, 0)) w := by kernel_rfl
end Go.Proofs.YtdjgkmpjhpnkeaaGreatDoor
namespace Go.Proofs.YtdjgkmpjhpnkeaaGreatDoor
open Go.RowKit Go.Maps Go.WideMaps
def u8E : KeyEnc Tryz.prog 5 Int where
  enc := fun a => .int .u8 a
  lit := fun a => .int .u8 a
  ok := fun a => (Lit.int .u8 a).wf = true
  key := fun a h => Maps.keyOf_int_mk Tryz.underlying5 h
  inj := fun a b e => by cases e; rfl
theorem u8Keyed : Keyed Tryz.prog 5 := Maps.int_keyed Tryz.underlying5
def permK (k : Int) : Int := if k = 1 then 5 else if k = 3 then 1 else if k = 2 then 3 else 0
set_option maxHeartbeats 400000 in
set_option maxRecDepth 100000 in
theorem perm_any (k : Int) (w : World) (h0 : 0 ≤ k) (h1 : k ≤ 255) :
    Calls Tryz.prog 153 #[.int .u8 k] w fun e w' => e = .returned (.int .u8 (permK k)) ∧ Below w.heap.size w w' := by
  have hmm := @run_makeMap Tryz.prog
  have hw : u8E.ok k := WalkArith.wf_u8 (by omega)
  have ht := Tryz.underlying323
  obtain ⟨w1, r1, m1, g1⟩ := (MapKFn.made u8E w).put u8Keyed ht (by unfold maxLen; omega) (a := 1) (WalkArith.wf_u8 (by omega)) (.int .u8 5)
  obtain ⟨w2, r2, m2, g2⟩ := m1.put u8Keyed ht (by unfold maxLen; omega) (a := 3) (WalkArith.wf_u8 (by omega)) (.int .u8 1)
  obtain ⟨w3, r3, m3, g3⟩ := m2.put u8Keyed ht (by unfold maxLen; omega) (a := 2) (WalkArith.wf_u8 (by omega)) (.int .u8 3)
  have r4 := m3.look u8Keyed ht (z := .int .u8 0) (by kernel_rfl) hw
  have e4 : ((if k = 2 then some (Value.int .u8 3) else if k = 3 then some (.int .u8 1) else if k = 1 then some (.int .u8 5) else none).getD (.int .u8 0)) = .int .u8 (permK k) := by
    unfold permK; repeat' split
    all_goals first | rfl | omega
  rw [e4] at r4
  have hB : Below w.heap.size w w3 := (((alloc_old w _).grown g1 (by simp) (fun q e => by cases e; simp)).grown g2 (by have := g1.size; simp at this; omega) (fun q e => by cases e; simp)).grown g3 (by have := g1.size; have := g2.size; simp at *; omega) (fun q e => by cases e; simp)
  have HB := Lib.hid hB
  change (Instr.mapUpdate 323 (.map (some w.heap.size)) (.int .u8 1) (.int .u8 5)).run _ _ = _ at r1
  change (Instr.mapUpdate 323 (.map (some w.heap.size)) (.int .u8 3) (.int .u8 1)).run _ _ = _ at r2
  change (Instr.mapUpdate 323 (.map (some w.heap.size)) (.int .u8 2) (.int .u8 3)).run _ _ = _ at r3
  change (Instr.lookup 323 (.map (some w.heap.size)) (.int .u8 k) false).run _ _ = _ at r4
  clear hB m1 m2 m3 g1 g2 g3 ht e4 hw
  go_enter Tryz.func153, Tryz.ntmps153
  go_wp2
  go_ret
  exact ⟨rfl, HB.out⟩
end Go.Proofs.YtdjgkmpjhpnkeaaGreatDoor
namespace Go.Proofs.YtdjgkmpjhpnkeaaGreatDoor
open Go.RowKit Go.Maps Go.WideMaps
def closedP (l : List GObj) (ps : List GP) (p : GP) : Bool := decide ((refsV (beginR l) l p.1 p.2).2.2 = 0) && !outB ps (refsV (beginR l) l p.1 p.2).1
def closedB (l : List GObj) (ps : List GP) (m : GP) : Bool := inG ps m && ps.all (closedP l ps)
theorem closedB_no {l : List GObj} {ps : List GP} {m : GP} {k : Nat} {x : GP} (h : k < ps.length) (hx : ps[k] = x) (hc : closedP l ps x = false) : closedB l ps m = false := by
  have : ps.all (closedP l ps) = false := by
    rw [List.all_eq_false]
    exact ⟨x, by rw [← hx]; exact List.getElem_mem h, by simp [hc]⟩
  simp [closedB, this]
set_option maxRecDepth 100000 in
set_option maxHeartbeats 4000000 in
theorem closed_any (xb : Nat) (v : Value) (l : List GObj) (pv : Value) (ps : List GP) (m : GP) (w : World) (h : ObjsAt w v l) (hps : RowAt 2 PlcR w pv ps) (hx : xb < w.heap.size) (hx7 : w.cell? ⟨xb, 7, none⟩ = some v) (hx8 : w.cell? ⟨xb, 8, none⟩ = some pv) :
    Calls Tryz.prog 57 #[.pointer (some ⟨xb, 0, none⟩), .agg #[.int .i64 m.1, .int .i64 m.2]] w fun e w' => e = .returned (.bool (closedB l ps m)) ∧ Below w.heap.size w w' := by
  obtain ⟨m1, m2⟩ := m
  simp only []
  generalize hW : (w.alloc (.cells #[.pointer (some ⟨xb, 0, none⟩)] 114)).alloc (.cells #[.int .i64 m1, .int .i64 m2] 63) = w1
  have HB1 : Hid (Below w.heap.size w w1) := by subst hW; exact (alloc_old w _).alloc (by simp) _
  have z1 : w1.heap.size = w.heap.size + 2 := by subst hW; simp
  have n0 : w1.cell? ⟨w.heap.size, 0, none⟩ = some (.pointer (some ⟨xb, 0, none⟩)) := by subst hW; simp [go_sem]
  have n1 : w1.cell? ⟨w.heap.size + 1, 0, none⟩ = some (.int .i64 m1) := by subst hW; simp [go_sem]
  have n2 : w1.cell? ⟨w.heap.size + 1, 1, none⟩ = some (.int .i64 m2) := by subst hW; simp [go_sem]
  have HO := Lib.hid (h.keep HB1.out)
  have HPS := Lib.hid (hps.keep plcR_keeps HB1.out)
  have k7 := cell_keep HB1.out hx hx7
  have k8 := cell_keep HB1.out hx hx8
  have hx1 : xb < w1.heap.size := by omega
  have HCON : Hid (∀ x : BW w1, Calls Tryz.prog 148 #[pv, .agg #[.int .i64 m1, .int .i64 m2]] x.u fun e w' => e = .returned (.bool (inG ps (m1, m2))) ∧ ∃ y : BW w1, w' = y.u) :=
    fun x => calls_below (containsPlc_any pv ps (m1, m2) x.u (HPS.out.keep plcR_keeps x.b))
  have HIN : Hid (inG ps (m1, m2) = inG ps (m1, m2)) := rfl
  generalize hbi : inG ps (m1, m2) = bi at HCON HIN
  have HBI := Lib.hid hbi; clear hbi HIN
  obtain ⟨pp, cap, b, o, rfl, -⟩ := h
  obtain ⟨pq, capq, bq, oq, rfl, hcq, hmq, hpq, hrq⟩ := hps
  have HPQ := Lib.hid hpq; clear hpq
  have HRQ := Lib.hid (HPS.out); clear HPS
  clear hrq hx7 hx8
  go_enter Tryz.func57, Tryz.ntmps57
  go_wp2
  try rw [hW]
  clear hW
  have c0 := bw_cell (by omega) n0
  have c1 := bw_cell (by omega) n1
  have c2 := bw_cell (by omega) n2
  have c3 := bw_cell hx1 k7
  have c4 := bw_cell hx1 k8
  refine wp_region_below rfl (by kernel_rfl) ?_
  repeat (first | go_big_quiet_skip | quiet_step ((go_at_call 148; exact HCON.out _)))
  refine wpQuiet_nil ?_
  rintro w4 hx4; have hB4 : Below w1.heap.size w1 w4 := bw_of hx4; clear hx4
  clear c0 c1 c2 c3 c4
  replace n0 := cell_keep hB4 (by omega) n0
  replace k7 := cell_keep hB4 hx1 k7
  replace k8 := cell_keep hB4 hx1 k8
  have hx4 : xb < w4.heap.size := size_keep hB4 hx1
  have hz4 : w.heap.size < w4.heap.size := by have := hB4.size; omega
  replace HO := Lib.hid (HO.out.keep hB4)
  replace HRQ := Lib.hid (HRQ.out.keep plcR_keeps hB4)
  have HB4 : Hid (Below w.heap.size w w4) := HB1.out.trans (hB4.mono (by omega))
  clear hB4 HB1 n1 n2 z1 hx1 HCON
  cases hbi : bi with
  | false =>
    simp only [Bool.not_false]
    go_wp2
    go_ret
    exact ⟨ret_bool (by rw [closedB, HBI.out, hbi]; rfl), HB4.out⟩
  | true =>
    rw [hbi] at HBI
    clear hbi
    simp only [Bool.not_true]
    go_wp2
    generalize hW4 : w4 = w5 at *
    clear hW4
    go_loopw [22] (fun i wr => ∃ k : Nat, k ≤ ps.length ∧ i = .int .i64 k ∧ (ps.take k).all (closedP l ps) = true ∧ Below w5.heap.size w5 wr) (fun i _ => ps.length - (intOf i).toNat)
    case atStart => exact ⟨0, Nat.zero_le _, rfl, rfl, Below.refl _ _⟩
    case round =>
      obtain ⟨k, hk, rfl, hall, hbel⟩ := hrel
      have HA := Lib.hid hall; clear hall
      have HB := Lib.hid hbel; clear hbel
      by_cases hlt : k < ps.length
      · obtain rfl := HPQ.out (by omega)
        obtain ⟨p', cap', b', o', he, -, -, hp', hc'⟩ := HRQ.out
        cases he
        cases hp' (by omega)
        obtain ⟨g0, g1, g2⟩ := plcR_keeps _ _ _ _ _ HB.out (hc' k hlt)
        have d0 := cell_keep HB.out hz4 n0
        have d7 := cell_keep HB.out hx4 k7
        have d8 := cell_keep HB.out hx4 k8
        have hx5 : xb < wr.heap.size := size_keep HB.out hx4
        have hz5 : w.heap.size < wr.heap.size := size_keep HB.out hz4
        generalize hxk : ps[k] = x at g1 g2
        obtain ⟨x1, x2⟩ := x
        simp only [] at g1 g2
        have HX := Lib.hid hxk; clear hxk
        have HOR := Lib.hid (HO.out.keep HB.out)
        have HPR := Lib.hid (HRQ.out.keep plcR_keeps HB.out)
        have hq : Hid (closedP l ps (x1, x2) = (decide ((refsV (beginR l) l x1 x2).2.2 = 0) && !outB ps (refsV (beginR l) l x1 x2).1)) := rfl
        generalize hrv : refsV (beginR l) l x1 x2 = rv at hq
        obtain ⟨rl, rn, rc⟩ := rv
        have HCON : Hid (∀ W, Below wr.heap.size wr W → Calls Tryz.prog 149 #[.slice pp l.length cap, .agg #[.int .i64 x1, .int .i64 x2]] W (RefsPost W rl rn rc)) := fun W hB => by
          have := refs_any (.slice pp l.length cap) l x1 x2 W (HOR.out.keep hB)
          rw [hrv] at this; exact this
        clear hrv
        simp only [] at hq
        have hne : ¬ wr.heap.size = w.heap.size := by omega
        have hne2 : ¬ wr.heap.size = xb := by omega
        go_wp2
        go_cut [7, 9] (fun v7 v9 wx => v9 = .int .i64 rc ∧ RowAt 2 PlaceR wx v7 rl ∧ Below wr.heap.size wr wx)
        case first =>
          clear n0 k7 k8 HO HB4 HA HB HX HRQ hc' HPR HBI d8 hq
          go_region_with ((go_at_call 149; refine (HCON.out _ (by go_grown)).mono ?_; rintro e w' ⟨vo, rfl, hrow, hB⟩))
          all_goals (go_wp2_with fail)
          all_goals go_meet
          all_goals exact ⟨rfl, hrow, ((alloc_old wr _).drew.trans (hB.mono (by simp)))⟩
        case rest =>
          obtain ⟨rfl, hrow, hBc⟩ := hcut
          replace d0 := cell_keep hBc hz5 d0
          replace d8 := cell_keep hBc hx5 d8
          replace hz5 := size_keep hBc hz5
          replace hx5 := size_keep hBc hx5
          have HPC := Lib.hid (HPR.out.keep plcR_keeps hBc)
          have HBC : Hid (Below w5.heap.size w5 wc) := HB.out.trans (hBc.mono HB.out.size)
          have HCF := Lib.hid (containsFPlc_any _ rl _ ps w.heap.size xb wc hrow HPC.out hz5 d0 hx5 d8)
          obtain ⟨pr, capr, br, orr, rfl, -⟩ := hrow
          clear hBc d7 g1 g2
          by_cases hrc : rc = 0
          · subst hrc
            generalize hob : outB ps rl = ob at HCF hq
            cases ob with
            | true =>
              go_wp2_with (go_at_call 150; refine HCF.out.mono ?_; rintro e w' ⟨rfl, hB⟩)
              go_ret
              exact ⟨ret_bool (closedB_no hlt HX.out (by rw [hq.out]; rfl)).symm, HB4.out.trans ((HBC.out.trans (hB.mono HBC.out.size)).mono HB4.out.size)⟩
            | false =>
              go_wp2_with (go_at_call 150; refine HCF.out.mono ?_; rintro e w' ⟨rfl, hB⟩)
              go_roundw
              case rel => exact ⟨k + 1, by omega, by go_num, take_all_snoc hlt HX.out HA.out (by rw [hq.out]; rfl), HBC.out.trans (hB.mono HBC.out.size)⟩
              case measure => simp [intOf]; omega
          · have b1 : (rc != 0) = true := by simpa using hrc
            have HN : Hid (closedP l ps (x1, x2) = false) := by rw [Hid, hq.out]; simp [hrc]
            clear hrc
            go_wp2
            go_ret
            exact ⟨ret_bool (closedB_no hlt HX.out HN.out).symm, HB4.out.trans (HBC.out.mono HB4.out.size)⟩
      · go_wp2
        go_ret
        exact ⟨ret_bool (by rw [closedB, HBI.out, all_end hlt HA.out]; rfl), HB4.out.trans (HB.out.mono HB4.out.size)⟩
end Go.Proofs.YtdjgkmpjhpnkeaaGreatDoor
namespace Go.Proofs.YtdjgkmpjhpnkeaaGreatDoor
structure GSeg where
  addr : Int
  perm : Int
  bytes : ByteArray
structure GLink where
  man : GMan
  entry : Int
  segs : List GSeg
  addrs : List GAddr
def link0 : GLink := ⟨man0, 0, [], []⟩
/-- all symbols' bytes, each where it is laid; or the first one that can't be filled -/
def fillGo (l : List GObj) (wh : List GAddr) : List GP → List GAddr → BL → BL × ByteArray × Int
  | p :: r, a :: q, b =>
    match symAt l p with
    | some s => if (filledR l wh p s).2 = 0 then fillGo l wh r q (putB b (filledR l wh p s).1.data.toList a.at_.toNat) else (b, s.name, (filledR l wh p s).2)
    | none => (b, emptyB, 0)
  | _, _, b => (b, emptyB, 0)
def segOf (b : BL) (x : GSpan) : GSeg := ⟨x.at_, permK x.kind, bsOf ((b.drop x.at_.toNat).take x.size.toNat)⟩
def zeros18 : BL := List.replicate 131072 0
/-- what the walk asks of where symbols are laid -/
structure SegsOk (l : List GObj) (wh : List GAddr) (ps : List GP) (spans : List GSpan) : Prop where
  len : wh.length = ps.length
  sym : ∀ k (h : k < ps.length) (h2 : k < wh.length), ∃ s, symAt l ps[k] = some s ∧ s.bytes.size < 4294967296 ∧ (refsV (beginR l) l ps[k].1 ps[k].2).1.length ≤ 100000 ∧ 0 ≤ wh[k].at_ ∧ wh[k].at_ < 131072 ∧ ((filledR l wh ps[k] s).2 = 0 → wh[k].at_ + (filledR l wh ps[k] s).1.size ≤ 131072)
  spn : ∀ x ∈ spans, 0 ≤ x.at_ ∧ 1 ≤ x.size ∧ x.at_ + x.size ≤ 131072
  few : spans.length ≤ 3
theorem fillGo_step {l : List GObj} {wh : List GAddr} {ps : List GP} {k : Nat} {b : BL} {p : GP} {a : GAddr} {s : GSym} (h : k < ps.length) (h2 : k < wh.length) (hp : ps[k] = p) (ha : wh[k] = a) (hs : symAt l p = some s) :
    fillGo l wh (ps.drop k) (wh.drop k) b = if (filledR l wh p s).2 = 0 then fillGo l wh (ps.drop (k + 1)) (wh.drop (k + 1)) (putB b (filledR l wh p s).1.data.toList a.at_.toNat) else (b, s.name, (filledR l wh p s).2) := by
  rw [List.drop_eq_getElem_cons h, List.drop_eq_getElem_cons h2, hp, ha, fillGo, hs]
theorem fillGo_end {l : List GObj} {wh : List GAddr} {ps : List GP} {k : Nat} {b : BL} (h : ¬ k < ps.length) : fillGo l wh (ps.drop k) (wh.drop k) b = (b, emptyB, 0) := by
  rw [List.drop_of_length_le (by omega)]; cases wh.drop k <;> rfl
end Go.Proofs.YtdjgkmpjhpnkeaaGreatDoor
namespace Go.Proofs.YtdjgkmpjhpnkeaaGreatDoor
open Go.RowKit
theorem field_name (n y : ByteArray) (a b c : Int) (vr vn : Value) (w : World) : (Instr.field 72 (.agg #[.string n, .int .u8 a, .int .u8 b, .int .u32 c, .string y, vr, vn]) 0).run Tryz.prog w = .ok (.string n) w := by
  simp [Instr.field, asAgg, run_underlying Tryz.underlying72, part, go_sem]
theorem field_kind (n y : ByteArray) (a b c : Int) (vr vn : Value) (w : World) : (Instr.field 72 (.agg #[.string n, .int .u8 a, .int .u8 b, .int .u32 c, .string y, vr, vn]) 2).run Tryz.prog w = .ok (.int .u8 b) w := by
  simp [Instr.field, asAgg, run_underlying Tryz.underlying72, part, go_sem]
theorem field_notes (n y : ByteArray) (a b c : Int) (vr vn : Value) (w : World) : (Instr.field 72 (.agg #[.string n, .int .u8 a, .int .u8 b, .int .u32 c, .string y, vr, vn]) 6).run Tryz.prog w = .ok vn w := by
  simp [Instr.field, asAgg, run_underlying Tryz.underlying72, part, go_sem]
end Go.Proofs.YtdjgkmpjhpnkeaaGreatDoor
namespace Go.Proofs.YtdjgkmpjhpnkeaaGreatDoor
open Go.RowKit
/-- append onto a row of one's own, as one step of a region that draws -/
theorem step_append_own_at {P : Program} {ops : Array Oper} {o : Oper} {a : Act} {w : World} {K : Act → World → Prop} {Q : Exit → Act → World → Prop} {E : Prop}
    (hg : o.guard = none) (s x : Operand) (t : TypeId) (hop : o.op = Op.call { callee := Callee.builtin Builtin.append, args := #[s, x], argTypes := #[t, t] })
    (base : Nat) (e : TypeId) (i : TypeInfo) (z : Value) (size bytes : Nat) (h1 : P.underlying t = some (.slice e)) (h2 : P.info? e = some i) (h3 : i.zero = some z) (h4 : i.size = size) (h5 : i.bytes = bytes) (h6 : z.cells.size = size) (h7 : 0 < size)
    (v : Value) (n : Nat) (xs : List Value) (hs : a.eval s = v) (hown : w.ownsRow base e size v n xs)
    (ad : Addr) (m c : Nat) (news : List Value) (hx : a.eval x = .slice (some ad) m c) (hn : news.length = m * size) (hc : ∀ j u, news[j]? = some u → w.cell? (ad.add j) = some u) (h1c : ∀ u ∈ news, u.oneCell' = true)
    (b1 : n + m ≤ maxLen) (b2 : (n + m) * bytes ≤ 140737488355328) (hbase : base ≤ w.heap.size)
    (hK : ∀ v' w', w'.ownsRow base e size v' (n + m) (xs ++ news) → w.grownBy w' v.ownBlock → (v'.ownBlock = v.ownBlock ∨ v'.ownBlock = some w.heap.size) → K (a.put o.dst v') w') :
    if Region.wanted o (yielded ops a.tmps) = true then Oper.wp P o a w K Q else E := by
  have hw : Region.wanted o (yielded ops a.tmps) = true := by simp [Region.wanted, hg]
  rw [if_pos hw]
  obtain ⟨v', w', hrun, r1, r2, r3, r4⟩ := run_append_own_at (P := P) w base t o.type e i z size bytes h1 h2 h3 h4 h5 h6 h7 v n xs hown ad m c news hn hc h1c b1 b2 hbase
  unfold Oper.wp
  simp [execOp, hop, resolve, invoke, builtin, hs, hx, hrun, Result.andThen]
  exact hK v' w' r1 r2 r4
theorem run_call_go {P : Program} {w : World} {f : FuncId} {fn : Func} (hf : P.funcs[f]? = some fn) (hn : (fn.name == "runtime.NumGoroutine") = false) (hb : fn.body.isNone = false) (args : Array Value) :
    (callFunc f args).run P w = .ok (.enter f args) w := by
  have hn' : ¬ fn.name = "runtime.NumGoroutine" := by simpa using hn
  cases hbb : fn.body with
  | none => rw [hbb] at hb; cases hb
  | some c => simp [callFunc, go_sem, hf, hn', hbb]
/-- a call of a Go function, as one step of a region that draws -/
theorem step_call {P : Program} {ops : Array Oper} {o : Oper} {a : Act} {w : World} {K : Act → World → Prop} {Q : Exit → Act → World → Prop} {E : Prop}
    (hg : o.guard = none) (f : FuncId) (xs : Array Operand) (ats : Array TypeId) (hop : o.op = Op.call { callee := Callee.value (Operand.func f), args := xs, argTypes := ats })
    {fn : Func} (hf : P.funcs[f]? = some fn) (hn : (fn.name == "runtime.NumGoroutine") = false) (hb : fn.body.isNone = false)
    (vs : Array Value) (hv : xs.map a.eval = vs) {Post : Ending → World → Prop} (hC : Calls P f vs w Post) (hK : ∀ e w', Post e w' → ∃ v, e = .returned v ∧ K (a.put o.dst v) w') :
    if Region.wanted o (yielded ops a.tmps) = true then Oper.wp P o a w K Q else E := by
  have hw : Region.wanted o (yielded ops a.tmps) = true := by simp [Region.wanted, hg]
  rw [if_pos hw]
  obtain ⟨dst, op, ty, pos, after, guard⟩ := o
  simp only at hg hop
  subst hg; subst hop; subst hv
  unfold Oper.wp
  rw [execOp_call_go]
  have e : (#[] ++ xs.map a.eval ++ #[] : Array Value) = xs.map a.eval := by simp
  rw [e, run_call_go hf hn hb, Oper.upon_enter]
  refine Calls.mono hC fun e w' hp => ?_
  obtain ⟨v, rfl, hk⟩ := hK e w' hp
  exact hk
end Go.Proofs.YtdjgkmpjhpnkeaaGreatDoor
namespace Go.Proofs.YtdjgkmpjhpnkeaaGreatDoor
open Go.RowKit Go.Maps
def gatCells (g : Gat) (ve v : Value) : List Value := .int .u32 g.pages :: ve :: v :: .bool g.cons :: g.blocks.map (.int .u32)
structure GatSt (base gb : Nat) (g : Gat) (w : World) : Prop where
  bx : ∃ v, w.heap[gb]? = some (.cells (gatCells g (.slice none 0 0) v).toArray 254 (0, 0)) ∧ w.ownsRow base 60 1 v g.ports.length (g.ports.map (.int .u16))
  gle : base ≤ gb
theorem gatCells_block {g : Gat} {ve v : Value} {j : Nat} (h : j < g.blocks.length) : (gatCells g ve v).toArray[4 + j]? = some (.int .u32 g.blocks[j]) := by
  simp [gatCells, show 4 + j = j + 1 + 1 + 1 + 1 by omega, h]
theorem info_u16 : (Tryz.prog.info? 60).map (fun i => (i.zero, i.size, i.bytes)) = some (some (.int .u16 0), 1, 2) := by kernel_rfl
theorem one_news {w : World} {g : Nat} {a : Value} (h0 : w.cell? ⟨g, 0, none⟩ = some a) : ∀ j u, [a][j]? = some u → w.cell? ((⟨g, 0, none⟩ : Addr).add j) = some u := by
  intro j u hu
  match j, hu with
  | 0, hu => simp at hu; subst hu; simpa [Addr.add] using h0
theorem one_one' {n : Int} : ∀ u ∈ [Value.int .u16 n], u.oneCell' = true := by
  intro u hu
  simp at hu; subst hu; rfl
theorem GatSt.lt {base gb : Nat} {g : Gat} {w : World} (h : GatSt base gb g w) : gb < w.heap.size := by
  obtain ⟨v, hb, -⟩ := h.bx; exact (Array.getElem?_eq_some_iff.1 hb).1
theorem GatSt.below {base gb : Nat} {g : Gat} {w w' : World} (h : GatSt base gb g w) (hb : Below w.heap.size w w') : GatSt base gb g w' := by
  obtain ⟨v, h1, h2⟩ := h.bx
  exact ⟨⟨v, (hb.block _ h.lt).trans h1, own_congr h2 fun k hk => hb.block k (h2.lt k hk).2⟩, h.gle⟩
theorem GatSt.put {base gb : Nat} {g g' : Gat} {w : World} (h : GatSt base gb g w) (i : Nat) (u : Value) (hc : ∀ ve v, (gatCells g ve v).set i u = gatCells g' ve v) (hp : g'.ports = g.ports) : GatSt base gb g' (w.setCell ⟨gb, i, none⟩ u) := by
  obtain ⟨v, h1, h2⟩ := h.bx
  refine ⟨⟨v, ?_, ?_⟩, h.gle⟩
  · rw [heap_setCell_same _ _ _ _ _ _ h1, ← hc]
    simp
  · rw [hp]
    exact own_congr h2 fun k hk => Below.heap_setCell _ _ _ _ (fun e => own_ne_box h2 h1 (by decide) (hk.trans (congrArg some e)))
theorem below_put {base gb i : Nat} {w : World} {u : Value} {o : Obj} (h : base ≤ gb) (hb : gb < w.heap.size) : Below base w ((w.setCell ⟨gb, i, none⟩ u).alloc o) :=
  ((Below.refl base w).setCell (by exact h) u).trans ((alloc_old _ o).mono (by simp; omega))
set_option maxHeartbeats 1000000 in
set_option maxRecDepth 100000 in
theorem gnote_any (base gb : Nat) (g : Gat) (x : GNote) (w : World) (h : GatSt base gb g w) (hg : GatOk g) (hx : noteOk x = true) (h0 : 0 ≤ x.n) (hl : g.ports.length ≤ 100000) :
    Calls Tryz.prog 155 #[.pointer (some ⟨gb, 0, none⟩), .agg #[.int .u8 x.kind, .int .u32 x.n, .int .u32 x.m]] w fun e w' =>
      e = .returned (.tuple #[]) ∧ GatSt base gb (gatNote g x) w' ∧ Below base w w' := by
  obtain ⟨v, hb, ho⟩ := h.bx
  have hgl := h.gle
  have hlt : gb < w.heap.size := (Array.getElem?_eq_some_iff.1 hb).1
  obtain ⟨pv, cv, rfl⟩ := own_shape ho
  have c0 : w.cell? ⟨gb, 0, none⟩ = some (.int .u32 g.pages) := Lib.cell_of_heap hb 0
  have c2 : w.cell? ⟨gb, 2, none⟩ = some (.slice pv g.ports.length cv) := Lib.cell_of_heap hb 2
  have c3 : w.cell? ⟨gb, 3, none⟩ = some (.bool g.cons) := Lib.cell_of_heap hb 3
  have fz : ∀ j, w.frozen? ⟨gb, j, none⟩ = false := fun j => Lib.frozen_of_heap hb _
  have HB := Lib.hid hb; clear hb
  have HO := Lib.hid ho; clear ho
  have HG := Lib.hid hg; clear hg
  obtain ⟨k, n, m⟩ := x
  rcases noteOk_kinds hx with ⟨e, h1, h2⟩ | ⟨e, h1, h2, h3⟩ | ⟨e, h1, h2, h3⟩ | ⟨e, h1, h2⟩
  · simp only [] at e h1 h2 h0 ⊢
    subst e
    go_enter Tryz.func155, Tryz.ntmps155
    go_wp2
    go_region
    all_goals go_wp2_with fail
    go_end0
    have hst : GatSt base gb (gatNote g ⟨1, n, m⟩) (w.setCell ⟨gb, 0, none⟩ (.int .u32 (max g.pages n))) := h.put 0 _ (fun ve v => by simp [gatCells, gatNote]) (by simp [gatNote])
    exact ⟨rfl, (hst.below (alloc_old _ _)).below (Below.refl _ _).drew, (below_put hgl hlt).drew⟩
  · simp only [] at e h1 h2 h3 h0 ⊢
    subst e
    obtain ⟨n, rfl⟩ : ∃ k : Nat, n = k := ⟨n.toNat, by omega⟩
    have hn : n < g.blocks.length := by rw [HG.out.n]; omega
    have c4 : w.cell? ⟨gb, 4 + n, none⟩ = some (.int .u32 g.blocks[n]) := (Lib.cell_of_heap HB.out (4 + n)).trans (gatCells_block hn)
    have hset : (gatNote g ⟨2, n, m⟩) = { g with blocks := g.blocks.set n (max g.blocks[n] m) } := by
      simp [gatNote, hn]
    have HSET := Lib.hid hset; clear hset
    go_enter Tryz.func155, Tryz.ntmps155
    go_wp2
    go_region
    all_goals go_wp2_with fail
    go_end0
    have hst : GatSt base gb (gatNote g ⟨2, n, m⟩) (w.setCell ⟨gb, 4 + n, none⟩ (.int .u32 (max g.blocks[n] m))) := by
      rw [HSET.out]
      exact h.put (4 + n) _ (fun ve v => by simp [gatCells, show 4 + n = n + 1 + 1 + 1 + 1 by omega]) rfl
    exact ⟨rfl, (hst.below (alloc_old _ _)).below (Below.refl _ _).drew, (below_put hgl hlt).drew⟩
  · simp only [] at e h1 h2 h3 h0 ⊢
    subst e
    obtain rfl := h3
    obtain ⟨i16, s0, s1, s2, s3⟩ := info_parts info_u16
    have HI := Lib.hid (And.intro s0 (And.intro s1 (And.intro s2 s3)))
    clear s0 s1 s2 s3
    have hcv : IntKind.u16.wrap n = n := by rw [IntKind.wrap_u16]; omega
    go_enter Tryz.func155, Tryz.ntmps155
    go_wp2
    have hB0 := alloc_old w (.cells #[.int .u8 3, .int .u32 n, .int .u32 0] 219)
    have b1 : (w.alloc (.cells #[.int .u8 3, .int .u32 n, .int .u32 0] 219)).cell? ⟨w.heap.size, 1, none⟩ = some (.int .u32 n) := by simp [go_sem]
    have hz : (w.alloc (.cells #[.int .u8 3, .int .u32 n, .int .u32 0] 219)).heap.size = w.heap.size + 1 := by simp
    have HS := Lib.hid (h.below hB0); clear h
    generalize w.alloc (.cells #[.int .u8 3, .int .u32 n, .int .u32 0] 219) = wb at *
    obtain ⟨v9, hb9, ho9⟩ := HS.out.bx
    obtain rfl : v9 = .slice pv g.ports.length cv := by
      have e1 : wb.cell? ⟨gb, 2, none⟩ = some v9 := Lib.cell_of_heap hb9 2
      have e2 : wb.cell? ⟨gb, 2, none⟩ = some (.slice pv g.ports.length cv) := cell_keep hB0 hlt c2
      rw [e1] at e2; exact Option.some.inj e2
    have HB0 : Hid (Below w.heap.size w wb) := hB0; clear hB0
    have HB9 := Lib.hid hb9
    have f2 : wb.frozen? ⟨gb, 2, none⟩ = false := Lib.frozen_of_heap hb9 _
    have d2 : wb.cell? ⟨gb, 2, none⟩ = some (.slice pv g.ports.length cv) := Lib.cell_of_heap hb9 2
    have hlt9 : gb < wb.heap.size := by omega
    have HOWN : Hid ((wb.alloc (.cells #[.int .u16 n] 60)).drew.ownsRow base 60 1 (.slice pv g.ports.length cv) g.ports.length (g.ports.map (.int .u16))) := (ho9.alloc _).drew
    clear ho9 hb9 c0 c2 c3 HO HB
    go_region_law ((refine step_append_own_at rfl (.tmp 45) (.tmp 49) 29 rfl base 60 i16 _ 1 2 Tryz.underlying29 HI.out.1 HI.out.2.1 HI.out.2.2.1 HI.out.2.2.2 rfl (by decide) (.slice pv g.ports.length cv) g.ports.length (g.ports.map (.int .u16)) (by simp [Act.eval]) HOWN.out ⟨wb.heap.size, 0, none⟩ 1 1 [.int .u16 n] (by simp [Act.eval]) rfl (one_news (by simp [go_sem])) one_one' (by unfold maxLen; omega) (by omega) (by simp; omega) ?_; intro v' w5 hown hgrow hv; obtain ⟨pw, cw, rfl⟩ := own_shape hown; have HGR := Lib.hid (And.intro hown (And.intro hgrow hv)); have hb5 : w5.heap[gb]? = some (.cells (gatCells g (.slice none 0 0) (.slice pv g.ports.length cv)).toArray 254 (0, 0)) := (hgrow.block gb (by simp; omega) (fun e => own_ne_box HOWN.out ((Below.heap_alloc wb _ gb hlt9).trans HB9.out) (by decide) e.symm)).trans ((Below.heap_alloc wb _ gb hlt9).trans HB9.out); have e1 : w5.cell? ⟨gb, 2, none⟩ = some (.slice pv g.ports.length cv) := Lib.cell_of_heap hb5 2; have e2 : w5.frozen? ⟨gb, 2, none⟩ = false := Lib.frozen_of_heap hb5 _; have HB5 := Lib.hid hb5; clear hown hgrow hv hb5))
    all_goals
      go_wp2_with fail
      go_end0
      have hle : base ≤ wb.heap.size := by omega
      refine ⟨rfl, ⟨⟨.slice pw (g.ports.length + 1) cw, ?_, ?_⟩, hgl⟩, ?_⟩
      · rw [heap_setCell_same _ _ _ _ _ _ HB5.out]
        simp [gatCells, gatNote]
      · have hw := own_congr (w' := w5.setCell ⟨gb, 2, none⟩ (.slice pw (g.ports.length + 1) cw)) HGR.out.1 fun k hk => Below.heap_setCell _ _ _ _ (fun e => own_ne_box HGR.out.1 HB5.out (by decide) (hk.trans (congrArg some e)))
        simpa [gatNote] using hw
      · exact ((((HB0.out.mono (by omega)).alloc hle _).drew).grown HGR.out.2.1 (by simp; omega) (fun q e => (World.ownsRow.lt HOWN.out q e).1)).setCell (by exact hgl) _
  · simp only [] at e h1 h2 h0 ⊢
    subst e
    go_enter Tryz.func155, Tryz.ntmps155
    go_wp2
    go_end0
    have hst : GatSt base gb (gatNote g ⟨4, n, m⟩) (w.setCell ⟨gb, 3, none⟩ (.bool true)) := h.put 3 _ (fun ve v => by simp [gatCells, gatNote]) (by simp [gatNote])
    exact ⟨rfl, hst.below (alloc_old _ _), below_put hgl hlt⟩
end Go.Proofs.YtdjgkmpjhpnkeaaGreatDoor
