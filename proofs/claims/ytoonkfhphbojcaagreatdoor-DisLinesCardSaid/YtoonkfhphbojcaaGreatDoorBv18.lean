/- The walk of dis.turned: the map of ops' labels, turned round. The walk of what takes the next word of a line (dis.parsed's closure). -/
import Derived.Test.YtoonkfhphbojcaaGreatDoorBv13
import Derived.Maps.RangeWalk
import Derived.Maps.Ext
namespace Go.Proofs.YtoonkfhphbojcaaGreatDoor
open Go.RowKit Go.Maps Go.WideMaps
theorem labRow : (128 : TypeId) < Tryz.prog.types.size := of_decide_eq_true (by kernel_rfl)
theorem labWide : (match Tryz.prog.underlying 128 with | some (.array _ _) | some (.struct _) => true | _ => false) = true := by kernel_rfl
theorem labOut : laidOutB Tryz.prog = true := by kernel_rfl
set_option maxRecDepth 100000 in
theorem labKeyed : Keyed Tryz.prog 128 := Keyed.of_law (deep_law_laid labOut (m := 2) (by omega) labRow (by kernel_rfl) labWide)
theorem labKT : Tryz.prog.keyType 128 = true := by kernel_rfl
theorem labCells : Tryz.prog.cellsOf 128 = 1 := by kernel_rfl
theorem strCells33 : Tryz.prog.cellsOf 9 = 1 := by kernel_rfl
def labOkK (l : BL) : Prop := l.length ≤ 1000000
theorem lab_lits (n : Nat) (hn : 0 < n) (l : BL) (h : labOkK l) : (Tryz.prog.keyLits (n + 1) 128 [.string (bsOf l)]).isSome = true := by
  obtain ⟨n, rfl⟩ : ∃ m, n = m + 1 := ⟨n - 1, by omega⟩
  have hs : (bsOf l).size ≤ maxLen := by rw [bsOf_size]; unfold labOkK at h; unfold maxLen; omega
  simp [Program.keyLits, Tryz.underlying128, Tryz.underlying9, labCells, strCells33, hs]
theorem lab_some (l : BL) (h : labOkK l) : (keyOf Tryz.prog 128 (labV l)).isSome = true := by
  have hl := lab_lits _ (Nat.lt_of_le_of_lt (Nat.zero_le _) labRow) l h
  have hf : (labV l).formed Tryz.prog 128 = true := by simp [labV, Value.formed, Tryz.underlying128, labCells]
  obtain ⟨y, hy⟩ := Option.isSome_iff_exists.1 hl
  unfold keyOf
  rw [Tryz.underlying128]
  simp only []
  rw [labKT, hf, show (labV l).cells.toList = [.string (bsOf l)] from rfl, hy]
  rfl
noncomputable def labE : KeyEnc Tryz.prog 128 BL where
  enc := labV
  lit p := (keyOf Tryz.prog 128 (labV p)).getD (.bool false)
  ok := labOkK
  key p h := by
    have := lab_some p h
    cases hk : keyOf Tryz.prog 128 (labV p) with
    | none => rw [hk] at this; cases this
    | some l => rfl
  inj a b h := by
    simp [labV] at h
    exact bsOf_inj h
def entV (k : Int) : Value := .agg #[.int .u8 k]
theorem zeroEnt (w : World) : (zeroValue 144).run Tryz.prog w = .ok (entV 0) w := by kernel_rfl
def turnG : List (Int × BL) → BL → Option Value
  | [], _ => none
  | p :: r, l => if l = p.2 then some (entV p.1) else turnG r l
theorem namesF_mem {L : List (Int × BL)} {a : Int} {v : Value} (h : namesF L a = some v) : ∃ s, (a, s) ∈ L ∧ v = labV s := by
  induction L with
  | nil => cases h
  | cons p r ih =>
    unfold namesF at h
    split at h
    · rename_i he; cases h; exact ⟨p.2, by rw [he]; exact List.mem_cons_self, rfl⟩
    · obtain ⟨s, h1, h2⟩ := ih h; exact ⟨s, List.mem_cons_of_mem _ h1, h2⟩
theorem turnG_mem {L : List (Int × BL)} {l : BL} {v : Value} (h : turnG L l = some v) : ∃ k, (k, l) ∈ L ∧ v = entV k := by
  induction L with
  | nil => cases h
  | cons p r ih =>
    unfold turnG at h
    split at h
    · rename_i he; cases h; exact ⟨p.1, by rw [he]; exact List.mem_cons_self, rfl⟩
    · obtain ⟨s, h1, h2⟩ := ih h; exact ⟨s, List.mem_cons_of_mem _ h1, h2⟩
theorem turnG_none {L : List (Int × BL)} {l : BL} (h : turnG L l = none) : ∀ k, (k, l) ∉ L := by
  induction L with
  | nil => simp
  | cons p r ih =>
    unfold turnG at h
    split at h
    · cases h
    · rename_i he
      intro k hk
      rcases List.mem_cons.1 hk with e | e
      · exact he (by rw [← e])
      · exact ih h k e
theorem op_keys : ∀ p ∈ opL, ∀ q ∈ opL, p.1 = q.1 → p.2 = q.2 := by decide +kernel
theorem op_labs : ∀ p ∈ opL, ∀ q ∈ opL, p.2 = q.2 → p.1 = q.1 := by decide +kernel
theorem op_look : ∀ p ∈ opL, (0 ≤ p.1 ∧ p.1 ≤ 255) ∧ p.2.length ≤ 5 := by decide +kernel
theorem namesF_op : ∀ p ∈ opL, namesF opL p.1 = some (labV p.2) := by
  intro p hp
  cases h : namesF opL p.1 with
  | some v =>
    obtain ⟨s, h1, rfl⟩ := namesF_mem h
    exact congrArg (fun z => some (labV z)) (op_keys _ h1 _ hp rfl)
  | none =>
    exfalso
    have : ∀ L : List (Int × BL), p ∈ L → namesF L p.1 ≠ none := fun L => by
      induction L with
      | nil => intro h; cases h
      | cons q r ih =>
        intro hm
        unfold namesF
        split
        · simp
        · rename_i he
          rcases List.mem_cons.1 hm with e | e
          · exact absurd (by rw [e]) he
          · exact ih e
    exact this _ hp h
/-- the same pairs, in whatever order: the same map -/
theorem turnG_same {vs : List (Int × BL)} (h1 : ∀ p ∈ vs, p ∈ opL) (h2 : ∀ p ∈ opL, p ∈ vs) : turnG vs = turnG opL := by
  funext l
  cases ha : turnG vs l with
  | none =>
    cases hb : turnG opL l with
    | none => rfl
    | some v => obtain ⟨k, hk, -⟩ := turnG_mem hb; exact absurd (h2 _ hk) (turnG_none ha k)
  | some v =>
    obtain ⟨k, hk, rfl⟩ := turnG_mem ha
    cases hb : turnG opL l with
    | none => exact absurd (h1 _ hk) (turnG_none hb k)
    | some v => obtain ⟨j, hj, rfl⟩ := turnG_mem hb; exact congrArg (fun z => some (entV z)) (op_labs _ (h1 _ hk) _ hj rfl)
theorem ranges_le {H : Type} {P : Program} {k : TypeId} {R : Value → Option (DataW H × List MemPlace)} {w : World} {b r n : Nat} {D : DataW H} {left : Lit → Bool} {cnt : Nat} (h : w.ranges P k R b r n D left cnt) : cnt ≤ n := by
  obtain ⟨es, clock, since, seen, c0, _, _, h1, _, _, _, h2, _⟩ := h
  rw [← h2]
  refine Nat.le_trans ?_ h1
  unfold leftOf
  exact Array.size_filter_le
/-- the next of ops' labels -/
theorem wpList_next_names (w : World) {ops : Array Oper} {rest : List Oper} {o : Oper} {a : Act} {Q : Exit → Act → World → Prop} (hg : o.guard = none) (it : Operand) (hop : o.op = Op.next it false)
    (b r n : Nat) (D : DataW Value) (left : Lit → Bool) (cnt : Nat) (hit : a.eval it = .pointer (some ⟨r, 0, none⟩)) (h : w.ranges Tryz.prog 5 mapR b r n D left cnt)
    (hf : ∀ a, u8ok a → (∀ v, namesF opL a = some v → ∀ z, D.atKey (.int .u8 a) z = .held v) ∧ (namesF opL a = none → ∀ z, D.atKey (.int .u8 a) z = z))
    (hDone : (∀ kl, left kl = false) → wpList Tryz.prog ops Q rest (a.put o.dst (.tuple #[.bool false])) w)
    (hMore : ∀ (k : Int) (s : BL) (w' : World) (cnt' : Nat), (k, s) ∈ opL → w'.ranges Tryz.prog 5 mapR b r n D (fun z => left z && !z.sameKey (.int .u8 k)) cnt' → cnt' < cnt →
      w.grownBy w' (some r) → w'.heap.size = w.heap.size → (Instr.entry (.pointer (some ⟨r, 0, none⟩))).run Tryz.prog w' = .ok (.tuple #[.int .u8 k, .agg #[.string (bsOf s)]]) w' → wpList Tryz.prog ops Q rest (a.put o.dst (.tuple #[.bool true, .int .u8 k, .agg #[.string (bsOf s)]])) w') :
    wpList Tryz.prog ops Q (o :: rest) a w := by
  refine wpList_next_ranges w hg it hop 5 u8Keyed mapR (Value.int .u8) (fun v : Value => v) (fun key kl hkey => by obtain ⟨x, rfl, _⟩ := Maps.keyOf_int_inv Tryz.underlying5 hkey; exact ⟨x, rfl⟩) (fun v y _ => ⟨v, rfl⟩) b r n D left cnt hit h (fun _ hl => hDone hl) ?_
  intro x c kl y w' cnt' hkl hlx hy hat hrg hlt hgr hsz hen
  obtain ⟨x', hx, rfl, hwf⟩ := Maps.keyOf_int_inv Tryz.underlying5 hkl
  cases hx
  have hok : u8ok x := bounds_u8 hwf
  cases hy
  simp only [] at hat hen
  obtain ⟨h1, h2⟩ := hf x hok
  cases hv : namesF opL x with
  | none => have e1 := h2 hv .nil; rw [hat .nil] at e1; cases e1
  | some v =>
    have e1 := h1 v hv .nil
    rw [hat .nil] at e1
    cases e1
    obtain ⟨s, hs, rfl⟩ := namesF_mem hv
    exact hMore x s w' cnt' hs hrg hlt hgr hsz hen
set_option maxHeartbeats 4000000 in
set_option maxRecDepth 100000 in
theorem turned33 (b n : Nat) (w : World) (hm : MapKFn u8E w b n (namesF opL)) (hn : n ≤ 1000) :
    Calls Tryz.prog 92 #[.map (some b)] w fun e w' => ∃ o, e = .returned (.map (some o)) ∧ w.heap.size ≤ o ∧ MapKFn labE w' o 1000 (turnG opL) ∧ Below w.heap.size w w' := by
  have hmm := @run_makeMap Tryz.prog
  have HM0 : Hid (MapKFn labE (w.alloc (.map #[] 0)) w.heap.size 0 (turnG [])) := Lib.hid (MapKFn.made labE w)
  obtain ⟨D, hD, hf⟩ := hm
  have hbl := hD.lt
  have HF := Lib.hid hf
  clear hf
  have e1 : (w.alloc (.map #[] 0)).heap.size = w.heap.size + 1 := by simp
  go_enter Tryz.func92, Tryz.ntmps92
  go_wp2_with (first
    | (at_range; refine wpList_range_own _ rfl _ 129 rfl 5 128 u8Keyed Tryz.underlying129 _ b n _ rfl (hD.alloc _) ?_; intro w0 hrg0 hg0 hs0)
    | go_in)
  go_frame
  rw [e1] at hrg0 hs0 ⊢
  go_loopw [4] (fun _ wr => ∃ (vs : List (Int × BL)) (left : Lit → Bool) (cnt : Nat), wr.ranges Tryz.prog 5 mapR b (w.heap.size + 1) n D left cnt ∧ vs.length + cnt ≤ 1000 ∧ (∀ p ∈ vs, p ∈ opL) ∧ (∀ kl, Maps.has D kl = true → left kl = false → ∃ p ∈ vs, kl = .int .u8 p.1) ∧ MapKFn labE wr w.heap.size vs.length (turnG vs) ∧ Below w.heap.size w wr)
    (fun _ wr => wr.rangeLeft b (w.heap.size + 1))
  case atStart =>
    exact ⟨[], _, _, hrg0, by have := ranges_le hrg0; simp; omega, by simp, (fun kl h1 h2 => by rw [h1] at h2; cases h2), HM0.out.kept (hg0.block _ (by simp) (by simp)), ((Below.refl _ _).alloc (Nat.le_refl _) _).grown hg0 (by simp) (fun j hj => by cases hj)⟩
  case round =>
    obtain ⟨vs, left, cnt, hrg, hcs, hin, hcov, hout, hnx⟩ := hrel
    clear HM0 hrg0 hg0 hs0
    go_wp2_with (first
      | (at_next; refine wpList_next_names _ rfl _ rfl b (w.heap.size + 1) n _ _ _ rfl hrg HF.out (fun hl0 => ?_) (fun x s w1 cnt1 hxs hrg1 hlt hg1 hs1 hen => ?_))
      | go_in)
    · have hall : ∀ p ∈ opL, p ∈ vs := fun p hp => by
        obtain ⟨⟨h0, h1⟩, -⟩ := op_look p hp
        obtain ⟨q, hq, he⟩ := hcov (.int .u8 p.1) (Maps.has_true_of_atKey ((HF.out p.1 ⟨h0, h1⟩).1 _ (namesF_op p hp))) (hl0 _)
        have e1 : p.1 = q.1 := by injection he
        have e2 := op_keys p hp q (hin q hq) e1
        rw [show p = q from Prod.ext e1 e2]; exact hq
      have HT := Lib.hid (turnG_same hin hall)
      have HO := Lib.hid hout
      clear hall hin hcov hl0 hout
      go_wp2
      go_ret
      exact ⟨_, rfl, Nat.le_refl _, by have := HO.out; rw [HT.out] at this; exact this.mono (by omega), hnx⟩
    · obtain ⟨⟨h0, h1⟩, hsl⟩ := op_look _ hxs
      simp only [] at h0 h1 hsl
      have hout1 := hout.kept (hg1.block _ hout.lt (by simp))
      have hz : w.heap.size < w1.heap.size := hout1.lt
      have hnx1 : Below w.heap.size w w1 := hnx.grown hg1 hnx.size (fun j hj => by cases hj; exact Nat.le_succ _)
      have hout2 := hout1.alloc (.cells #[.string (bsOf s)] 128)
      have hrg2 := hrg1.alloc (.cells #[.string (bsOf s)] 128)
      have hnx2 := hnx1.alloc hnx1.size (.cells #[.string (bsOf s)] 128)
      clear hout1 hg1 hs1 hnx1 hen hnx hout
      generalize (w1.alloc (.cells #[.string (bsOf s)] 128)) = w2 at *
      obtain ⟨w3, hrun0, hM3, hg3⟩ := hout2.put labKeyed Tryz.underlying146 (by unfold maxLen; omega) (a := s) (by unfold labE labOkK; simp only []; omega) (entV x)
      have hrun : (Instr.mapUpdate 146 (.map (some w.heap.size)) (.agg #[.string (bsOf s)]) (.agg #[.int .u8 x])).run Tryz.prog w2 = .ok () w3 := hrun0
      clear hrun0
      have hrg3 := hrg2.kept hg3 (fun e => by have := Option.some.inj e; omega) (fun e => by have := Option.some.inj e; omega)
      have hnx3 : Below w.heap.size w w3 := hnx2.grown hg3 hnx2.size (fun j hj => by cases hj; exact Nat.le_refl _)
      have hM3' : MapKFn labE w3 w.heap.size ((x, s) :: vs).length (turnG ((x, s) :: vs)) := hM3
      have hin3 : ∀ p ∈ (x, s) :: vs, p ∈ opL := fun p hp => by
        rcases List.mem_cons.1 hp with rfl | hp
        · exact hxs
        · exact hin p hp
      have hcov3 : ∀ kl, Maps.has D kl = true → (left kl && !kl.sameKey (.int .u8 x)) = false → ∃ p ∈ (x, s) :: vs, kl = .int .u8 p.1 := fun kl h1 h2 => by
        cases hl : left kl with
        | false => obtain ⟨p, hp, he⟩ := hcov kl h1 hl; exact ⟨p, List.mem_cons_of_mem _ hp, he⟩
        | true =>
          rw [hl] at h2
          simp only [Bool.true_and, Bool.not_eq_false'] at h2
          exact ⟨(x, s), List.mem_cons_self, WideAt.sameKey_eq h2⟩
      have hlen : ((x, s) :: vs).length + cnt1 ≤ 1000 := by rw [List.length_cons]; omega
      have hlt' : w3.rangeLeft b (w.heap.size + 1) < wr.rangeLeft b (w.heap.size + 1) := by rw [hrg3.left_eq, hrg.left_eq]; exact hlt
      clear hM3 hg3 hrg2 hnx2 hout2 hrg1 hcov hin hcs
      rw [hrun]
      go_simp
      go_wp2
      go_roundw
      case rel => exact ⟨(x, s) :: vs, _, cnt1, hrg3, hlen, hin3, hcov3, hM3', hnx3⟩
      case measure => exact hlt'
end Go.Proofs.YtoonkfhphbojcaaGreatDoor
namespace Go.Proofs.YtoonkfhphbojcaaGreatDoor
open Go.RowKit Go.Maps
/-- block lb is a variable that holds the words ps from number j on; block g holds all of them -/
structure LSt (lb g : Nat) (ps : List BL) (j : Nat) (w : World) : Prop where
  box : ∃ p, w.heap[lb]? = some (.cells #[.slice (some p) (ps.length - j) (ps.length - j)] 93 (0, 0)) ∧ (j < ps.length → p = ⟨g, j, none⟩)
  row : w.heap[g]? = some (.cells (ps.map fun s => Value.string (bsOf s)).toArray 9 (0, 0))
  ne : g ≠ lb
theorem LSt.keep {lb g j : Nat} {ps : List BL} {w w' : World} (h : LSt lb g ps j w) (hb : Below w.heap.size w w') : LSt lb g ps j w' := by
  obtain ⟨⟨p, h1, h2⟩, h3, h4⟩ := h
  exact ⟨⟨p, (hb.block lb (Array.getElem?_eq_some_iff.1 h1).1).trans h1, h2⟩, (hb.block g (Array.getElem?_eq_some_iff.1 h3).1).trans h3, h4⟩
theorem LSt.cell {lb g j : Nat} {ps : List BL} {w : World} (h : LSt lb g ps j w) (hj : j < ps.length) : w.cell? ⟨g, j, none⟩ = some (.string (bsOf (ps.getD j []))) := by
  rw [Lib.cell_of_heap h.row j]
  simp [List.getD, hj]
theorem LSt.next {lb g j : Nat} {ps : List BL} {w : World} (h : LSt lb g ps j w) (p : Addr) (n : Nat) (hn : n = ps.length - (j + 1)) (hp : j + 1 < ps.length → p = ⟨g, j + 1, none⟩) : LSt lb g ps (j + 1) (w.setCell ⟨lb, 0, none⟩ (.slice (some p) n n)) := by
  obtain ⟨⟨q, h1, h2⟩, h3, h4⟩ := h
  subst hn
  exact ⟨⟨p, set33 h1 0 _, hp⟩, (Below.heap_setCell _ _ _ _ (by simpa using h4)).trans h3, h4⟩
set_option maxHeartbeats 2000000 in
set_option maxRecDepth 100000 in
theorem wtake_no (lb : Nat) (w : World) : Calls Tryz.prog 93 #[.bool false, .pointer (some ⟨lb, 0, none⟩)] w fun e w' => e = .returned (.string (bsOf [114, 48])) ∧ w' = w := by
  go_enter Tryz.func93, Tryz.ntmps93
  go_wp2
  go_ret
  exact ⟨rfl, rfl⟩
set_option maxHeartbeats 2000000 in
set_option maxRecDepth 100000 in
theorem wtake_end (lb g j : Nat) (ps : List BL) (w : World) (h : LSt lb g ps j w) (hj : ¬ j < ps.length) : Calls Tryz.prog 93 #[.bool true, .pointer (some ⟨lb, 0, none⟩)] w fun e w' => e = wrongE ∧ w' = w := by
  obtain ⟨⟨p, h1, -⟩, -, -⟩ := h
  have hz : ps.length - j = 0 := by omega
  rw [hz] at h1
  have c0 := Lib.cell_of_heap h1 0
  clear h1
  have c0' : w.cell? ⟨lb, 0, none⟩ = some (.slice (some p) 0 0) := c0
  clear c0
  go_enter Tryz.func93, Tryz.ntmps93
  go_wp2_with fail
  refine (need_no _).mono ?_
  rintro e w2 ⟨rfl, rfl⟩
  go_wp2
  exact ⟨rfl, rfl, rfl⟩
set_option maxHeartbeats 2000000 in
set_option maxRecDepth 100000 in
theorem wtake_yes (lb g j : Nat) (ps : List BL) (w : World) (h : LSt lb g ps j w) (hj : j < ps.length) (hm : ps.length ≤ 140737488355328) : Calls Tryz.prog 93 #[.bool true, .pointer (some ⟨lb, 0, none⟩)] w fun e w' => e = .returned (.string (bsOf (ps.getD j []))) ∧ ∃ v, w' = w.setCell ⟨lb, 0, none⟩ v ∧ LSt lb g ps (j + 1) w' := by
  have hc := h.cell hj
  have HN := Lib.hid (fun p n => h.next p n)
  obtain ⟨⟨p, h1, hp⟩, -, -⟩ := h
  obtain rfl := hp hj
  clear hp
  obtain ⟨n, hn⟩ : ∃ n, n = ps.length - j := ⟨_, rfl⟩
  rw [← hn] at h1
  have c0 : w.cell? ⟨lb, 0, none⟩ = some (.slice (some ⟨g, j, none⟩) n n) := Lib.cell_of_heap h1 0
  have f0 := Lib.frozen_of_heap h1 0
  have HE := Lib.hid hn
  have hn1 : 1 ≤ n := by omega
  have hn2 : n ≤ 140737488355328 := by omega
  clear h1 hn hj
  have e1 : decide (0 < n) = true := by simp; omega
  generalize ps.getD j [] = s at *
  go_enter Tryz.func93, Tryz.ntmps93
  go_wp2_with fail
  refine (need_yes _).mono ?_
  rintro e w2 ⟨rfl, rfl⟩
  go_wp2
  · go_ret
    exact ⟨rfl, ⟨_, rfl⟩, HN.out _ _ (by have := HE.out; omega) (fun h => absurd h (by have := HE.out; omega))⟩
  · go_ret
    exact ⟨rfl, ⟨_, rfl⟩, HN.out _ _ (by have := HE.out; omega) (fun _ => rfl)⟩
end Go.Proofs.YtoonkfhphbojcaaGreatDoor
