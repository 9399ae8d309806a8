/- What image.Check calls: perms, end; slices.Contains at bytes. A map with string keys as a function from texts to values, over the kit's word ownsMap. No program in sight. A row of integers of one's own under slices.Sort and slices.Compact. No program in sight but its types. slices.Compact at a row of uint32 of one's own, and what is asked of slices.Sort. -/
import Derived.Test.YtghopakbefageaaGreatBt16
import Derived.Test.YtghopakbefageaaGreatProg
import Derived.Test.YtghopakbefageaaGreatEqLay
import Derived.Test.YtghopakbefageaaGreatBt01
import Derived.Lib.Hide
import Derived.IntWalk
import Derived.WalkKit
import Derived.WalkSpells
import Derived.Maps.OwnSet
import Derived.Maps.Views
import Derived.StringKeys
import Derived.Test.YtghopakbefageaaGreatBt15
import Derived.Test.YtghopakbefageaaGreatBt18
import Derived.Lib.Builder
import Derived.Lib.SlicesCompact
import Derived.Sort.Row
import Derived.Sort.Walk13
namespace Go.Proofs.YtghopakbefageaaGreat
open Go.RowKit Go.Maps Go.Shelf
theorem contains8_any (b o n c : Nat) (l : List Int) (x : Int) (w : World) (h : ∀ j, j < l.length → w.cell? ⟨b, o + j, none⟩ = some (.int .u8 l[j]!)) (hn : n = l.length) (hl : l.length ≤ 100) :
    Calls Tryz.prog 39 #[.slice (some ⟨b, o, none⟩) n c, .int .u8 x] w fun e w' => e = .returned (.bool (l.any fun y => decide (x = y))) ∧ w' = w := by
  subst hn
  have := Go.Proofs.AnyE.slices_Contains Tryz.contains8 (Value.int .u8) (fun x y => decide (x = y)) (EqlAt.intD _ _ .u8) b o l.length c l x w (Nat.le_refl _) (by omega) h
  rw [List.take_length] at this
  exact this
set_option maxHeartbeats 400000 in
theorem perms_any (p : Int) (w : World) : Calls Tryz.prog 62 #[.int .u8 p] w fun e w' => e = .returned (.bool (decide (p = 1) || (decide (p = 3) || decide (p = 5)))) ∧ Below w.heap.size w w' := by
  have HC := Lib.hid (contains8_any w.heap.size 0 3 3 [1, 3, 5] p (w.alloc (.cells #[.int .u8 1, .int .u8 3, .int .u8 5] 5)) (fun j hj => by
    match j, hj with
    | 0, _ => simp [go_sem]
    | 1, _ => simp [go_sem]
    | 2, _ => simp [go_sem]) rfl (by simp))
  go_enter Tryz.func62, Tryz.ntmps62
  go_wp2_with fail
  refine HC.out.mono ?_
  rintro e w2 ⟨rfl, rfl⟩
  go_wp2
  go_ret
  exact ⟨ret_bool (by simp), alloc_old w _⟩
set_option maxHeartbeats 400000 in
theorem iend_any (a p : Int) (s : ByteArray) (w : World) (h0 : 0 ≤ a) (h1 : a ≤ 4294967295) (hs : s.size ≤ 140737488355328) : Calls Tryz.prog 63 #[.agg #[.int .u32 a, .int .u8 p, .string s]] w fun e w' => e = .returned (.int .u64 (a + s.size)) ∧ Below w.heap.size w w' := by
  have w1 : IntKind.u64.wrap a = a := IntWalk.u64_in _ (by omega)
  have w2 : IntKind.u64.wrap (s.size : Int) = (s.size : Int) := IntWalk.u64_in _ (by omega)
  have w3 : IntKind.u64.wrap (a + s.size) = a + s.size := IntWalk.u64_in _ (by omega)
  go_enter Tryz.func63, Tryz.ntmps63
  go_wp2
  go_ret
  exact ⟨rfl, alloc_old w _⟩
end Go.Proofs.YtghopakbefageaaGreat
namespace Go.Proofs.YtghopakbefageaaGreat
open Go.RowKit Go.Maps Go.WideMaps
def mapR (v : Value) : Option (DataW Value × List MemPlace) := some (.held v, [])
/-- block b is a map of at most n entries: a text's value is f's -/
def MapFn (P : Program) (k : TypeId) (w : World) (b n : Nat) (f : List UInt8 → Option Value) : Prop :=
  ∃ D : DataW Value, w.ownsMap P k mapR b n D ∧ ∀ l, (∀ v, f l = some v → ∀ z, D.atKey (.string l) z = .held v) ∧ (f l = none → ∀ z, D.atKey (.string l) z = z)
section
variable {P : Program} {k : TypeId} {w : World} {b n : Nat} {f : List UInt8 → Option Value}
theorem MapFn.made (P : Program) (k : TypeId) (w : World) : MapFn P k (w.alloc (.map #[] 0)) w.heap.size 0 (fun _ => none) :=
  ⟨_, World.ownsMap_made w P k mapR, fun _ => ⟨fun _ h => (by cases h), fun _ _ => rfl⟩⟩
theorem MapFn.lt (h : MapFn P k w b n f) : b < w.heap.size := by obtain ⟨D, hD, _⟩ := h; exact hD.lt
theorem MapFn.kept {w' : World} (h : MapFn P k w b n f) (hb : w'.heap[b]? = w.heap[b]?) : MapFn P k w' b n f := by
  obtain ⟨D, ⟨es, clock, h1, h2⟩, hf⟩ := h
  exact ⟨D, ⟨es, clock, hb.trans h1, h2⟩, hf⟩
theorem MapFn.below {w' : World} {B : Nat} (h : MapFn P k w b n f) (hb : Below B w w') (hB : b < B) : MapFn P k w' b n f := h.kept (hb.block b hB)
theorem MapFn.alloc (h : MapFn P k w b n f) (o : Obj) : MapFn P k (w.alloc o) b n f := h.kept (Below.heap_alloc w o b h.lt)
theorem MapFn.drew (h : MapFn P k w b n f) : MapFn P k w.drew b n f := h.kept rfl
theorem MapFn.mono (h : MapFn P k w b n f) {n' : Nat} (hn : n ≤ n') : MapFn P k w b n' f := by
  obtain ⟨D, hD, hf⟩ := h; exact ⟨D, hD.mono hn, hf⟩
theorem MapFn.setCell (h : MapFn P k w b n f) {a : Addr} (ha : b ≠ a.block) (u : Value) : MapFn P k (w.setCell a u) b n f := h.kept (Below.heap_setCell w a u b ha)
theorem MapFn.grown {w' : World} {r : Nat} (h : MapFn P k w b n f) (hg : w.grownBy w' (some r)) (hne : b ≠ r) : MapFn P k w' b n f := h.kept (hg.block b h.lt (by simpa using hne))
/-- 'm[key]' -/
theorem MapFn.look {t e : TypeId} (h : MapFn P k w b n f) (K : Keyed P k) (ht : P.underlying t = some (.map k e)) (hk : P.underlying k = some .string) {z : Value} (hz : (zeroValue e).run P w = .ok z w) {s : ByteArray} (hs : s.size ≤ maxLen) :
    (Instr.lookup t (.map (some b)) (.string s) false).run P w = .ok ((f s.data.toList).getD z) w := by
  obtain ⟨D, hD, hf⟩ := h
  obtain ⟨v, ps, hrun, hR⟩ := hD.lookup K ht hz (zd := .held z) (zp := []) rfl (keyOf_string_mk hk hs)
  rw [hrun]
  obtain ⟨h1, h2⟩ := hf s.data.toList
  cases hfs : f s.data.toList with
  | none =>
    rw [h2 hfs] at hR
    simp [mapR] at hR
    rw [hR.1]; rfl
  | some u =>
    rw [h1 u hfs] at hR
    simp [mapR] at hR
    rw [hR.1]; rfl
/-- 'v, ok := m[key]' -/
theorem MapFn.look_ok {t e : TypeId} (h : MapFn P k w b n f) (K : Keyed P k) (ht : P.underlying t = some (.map k e)) (hk : P.underlying k = some .string) {z : Value} (hz : (zeroValue e).run P w = .ok z w) {s : ByteArray} (hs : s.size ≤ maxLen) :
    (Instr.lookup t (.map (some b)) (.string s) true).run P w = .ok (.tuple #[(f s.data.toList).getD z, .bool (f s.data.toList).isSome]) w := by
  obtain ⟨D, hD, hf⟩ := h
  obtain ⟨v, ps, hrun, hR⟩ := hD.look_ok K ht hz (zd := .held z) (zp := []) rfl (keyOf_string_mk hk hs)
  rw [hrun]
  obtain ⟨h1, h2⟩ := hf s.data.toList
  cases hfs : f s.data.toList with
  | none =>
    rw [Maps.has_false_of_atKey (h2 hfs)]
    rw [h2 hfs] at hR
    simp [mapR] at hR
    rw [hR.1]; rfl
  | some u =>
    rw [Maps.has_true_of_atKey (h1 u hfs)]
    rw [h1 u hfs] at hR
    simp [mapR] at hR
    rw [hR.1]; rfl
/-- 'm[key] = v' -/
theorem MapFn.put {t e : TypeId} (h : MapFn P k w b n f) (K : Keyed P k) (ht : P.underlying t = some (.map k e)) (hk : P.underlying k = some .string) (hn : n < maxLen) {s : ByteArray} (hs : s.size ≤ maxLen) (v : Value) :
    ∃ w', (Instr.mapUpdate t (.map (some b)) (.string s) v).run P w = .ok () w' ∧ MapFn P k w' b (n + 1) (fun l => if l = s.data.toList then some v else f l) ∧ w.grownBy w' (some b) := by
  obtain ⟨D, hD, hf⟩ := h
  obtain ⟨w', hrun, hD', hg⟩ := hD.update K ht hn (keyOf_string_mk hk hs) (val := v) (d := .held v) (ps := []) rfl
  refine ⟨w', hrun, ⟨_, hD', fun l => ?_⟩, hg⟩
  obtain ⟨h1, h2⟩ := hf l
  by_cases hl : l = s.data.toList
  · subst hl
    refine ⟨fun u hu z => ?_, fun hu => by simp at hu⟩
    simp at hu
    subst hu
    exact Maps.atKey_put_same hD.isMap (by simp [WideAt.IsKeyLit]) _ _
  · have hne : (Lit.string l) ≠ .string s.data.toList := fun e => hl (by cases e; rfl)
    refine ⟨fun u hu z => ?_, fun hu z => ?_⟩
    · rw [Maps.atKey_put_other hne]; simp [hl] at hu; exact h1 u hu z
    · rw [Maps.atKey_put_other hne]; simp [hl] at hu; exact h2 hu z
end
theorem cell_grown {w w' : World} {b o r : Nat} {v : Value} (hg : w.grownBy w' (some r)) (hlt : b < w.heap.size) (hne : b ≠ r) (h : w.cell? ⟨b, o, none⟩ = some v) : w'.cell? ⟨b, o, none⟩ = some v := by
  rw [World.cell?_of_block (w := w) (a := ⟨b, o, none⟩) (hg.block b hlt (by simpa using hne))]; exact h
/-- the look-up, at the operation -/
theorem wpList_look {P : Program} (w : World) {ops : Array Oper} {rest : List Oper} {o : Oper} {a : Act} {Q : Exit → Act → World → Prop} {b n : Nat} {f : List UInt8 → Option Value}
    (hg : o.guard = none) (m x : Operand) (t : TypeId) (hop : o.op = Op.lookup t m x false)
    (k e : TypeId) (K : Keyed P k) (ht : P.underlying t = some (.map k e)) (hk : P.underlying k = some .string) {z : Value} (hz : (zeroValue e).run P w = .ok z w)
    (hm : a.eval m = .map (some b)) (hown : MapFn P k w b n f) (s : ByteArray) (hx : a.eval x = .string s) (hs : s.size ≤ maxLen) {v : Value} (hv : (f s.data.toList).getD z = v)
    (hK : wpList P ops Q rest (a.put o.dst v) w) :
    wpList P ops Q (o :: rest) a w := by
  refine wpList_plain hg fun K' hK' => ?_
  have hrun := hown.look K ht hk hz hs
  rw [hv] at hrun
  unfold Oper.wp
  simp [execOp, hop, hm, hx, hrun, Result.andThen]
  exact hK' _ _ hK
theorem wpList_look_ok {P : Program} (w : World) {ops : Array Oper} {rest : List Oper} {o : Oper} {a : Act} {Q : Exit → Act → World → Prop} {b n : Nat} {f : List UInt8 → Option Value}
    (hg : o.guard = none) (m x : Operand) (t : TypeId) (hop : o.op = Op.lookup t m x true)
    (k e : TypeId) (K : Keyed P k) (ht : P.underlying t = some (.map k e)) (hk : P.underlying k = some .string) {z : Value} (hz : (zeroValue e).run P w = .ok z w)
    (hm : a.eval m = .map (some b)) (hown : MapFn P k w b n f) (s : ByteArray) (hx : a.eval x = .string s) (hs : s.size ≤ maxLen) {v : Value} (hv : (f s.data.toList).getD z = v) {is : Bool} (hi : (f s.data.toList).isSome = is)
    (hK : wpList P ops Q rest (a.put o.dst (.tuple #[v, .bool is])) w) :
    wpList P ops Q (o :: rest) a w := by
  refine wpList_plain hg fun K' hK' => ?_
  have hrun := hown.look_ok K ht hk hz hs
  rw [hv, hi] at hrun
  unfold Oper.wp
  simp [execOp, hop, hm, hx, hrun, Result.andThen]
  exact hK' _ _ hK
/-- the store, at the operation -/
theorem wpList_put {P : Program} (w : World) {ops : Array Oper} {rest : List Oper} {o : Oper} {a : Act} {Q : Exit → Act → World → Prop} {b n : Nat} {f : List UInt8 → Option Value}
    (hg : o.guard = none) (m x v : Operand) (t : TypeId) (hop : o.op = Op.mapUpdate t m x v)
    (k e : TypeId) (K : Keyed P k) (ht : P.underlying t = some (.map k e)) (hk : P.underlying k = some .string)
    (hm : a.eval m = .map (some b)) (hown : MapFn P k w b n f) (hn : n < maxLen) (s : ByteArray) (val : Value) (hx : a.eval x = .string s) (hv : a.eval v = val) (hs : s.size ≤ maxLen)
    (hK : ∀ w', MapFn P k w' b (n + 1) (fun l => if l = s.data.toList then some val else f l) → w.grownBy w' (some b) → wpList P ops Q rest (a.put o.dst undef) w') :
    wpList P ops Q (o :: rest) a w := by
  refine wpList_plain hg fun K' hK' => ?_
  obtain ⟨w', hrun, r1, r2⟩ := hown.put K ht hk hn hs val
  unfold Oper.wp
  simp [execOp, hop, hm, hx, hv, hrun, Result.andThen]
  exact hK' _ _ (hK w' r1 r2)
end Go.Proofs.YtghopakbefageaaGreat
namespace Go.Proofs.YtghopakbefageaaGreat
open Go.RowKit Go.Sort Go.Lib
variable {K : IntKind} {e : TypeId}
def cellsU (K : IntKind) (l : List Int) : List Value := l.map (.int K)
def URow (K : IntKind) (e : TypeId) (base : Nat) (w : World) (v : Value) (l : List Int) : Prop := w.ownsRow base e 1 v l.length (cellsU K l)
theorem cellsU_length (l : List Int) : (cellsU K l).length = l.length := by simp [cellsU]
theorem URow.holds {base : Nat} {w : World} {l : List Int} {g cap : Nat} (h : URow K e base w (.slice (some ⟨g, 0, none⟩) l.length cap) l) : Holds (Value.int K) w g 0 l.toArray := by
  intro j hj
  have hj' : j < l.length := by simpa using hj
  have h1 : (cellsU K l)[j]? = some (.int K l[j]) := by simp [cellsU, hj']
  have h2 := World.ownsRow.cells h (g := g) rfl j _ h1
  rw [show ((⟨g, 0, none⟩ : Addr).add j) = ⟨g, j, none⟩ by unfold Addr.add; by_cases hz : j = 0 <;> simp [hz]] at h2
  refine ⟨by rw [Nat.zero_add]; simpa [hj'] using h2, ?_⟩
  rcases h.2 with ⟨h3, -⟩ | ⟨g', cap', cur, h3, -, h4, -⟩
  · cases h3
  · cases h3; exact Lib.frozen_of_heap h4 _
theorem putRow_block {w : World} {g n : Nat} {D : Array Int} {os : Array Obj} {cur : Array Value} (h : w.heap[g]? = some (.cells cur e (0, 0))) :
    (grow (putRow (Value.int K) (Sort.ahead w n) g 0 D) os).heap[g]? = some (.cells (putCells (Value.int K) 0 D cur) e (0, 0)) := by
  have hlt := (Array.getElem?_eq_some_iff.1 h).1
  unfold putRow grow mapBlock Sort.ahead
  rw [Array.getElem?_append_left (by simpa using hlt), Array.getElem?_modify]
  simp only [if_true]
  rw [h]
  rfl
theorem putRow_far {w : World} {g n : Nat} {D : Array Int} {os : Array Obj} {k : Nat} (hk : k < w.heap.size) (hne : k ≠ g) : (grow (putRow (Value.int K) (Sort.ahead w n) g 0 D) os).heap[k]? = w.heap[k]? := by
  unfold putRow grow mapBlock Sort.ahead
  rw [Array.getElem?_append_left (by simpa using hk), Array.getElem?_modify, if_neg (fun e => hne e.symm)]
theorem putRow_size {w : World} {g n : Nat} {D : Array Int} {os : Array Obj} : w.heap.size ≤ (grow (putRow (Value.int K) (Sort.ahead w n) g 0 D) os).heap.size := by
  unfold putRow grow mapBlock Sort.ahead
  simp
/-- the row behind the writing: its first part -/
theorem URow.put {base : Nat} {w : World} {l D l' : List Int} {g cap n : Nat} {os : Array Obj} (h : URow K e base w (.slice (some ⟨g, 0, none⟩) l.length cap) l) (hD : D.length = l.length) (hl : l' = D.take l'.length) :
    URow K e base (grow (putRow (Value.int K) (Sort.ahead w n) g 0 D.toArray) os) (.slice (some ⟨g, 0, none⟩) l'.length cap) l' := by
  have hle : l'.length ≤ D.length := by
    have := congrArg List.length hl
    rw [List.length_take] at this; omega
  refine ⟨by rw [cellsU_length]; omega, ?_⟩
  rcases h.2 with ⟨h3, -⟩ | ⟨g', cap', cur, h3, hb, h4, h5, h6, h7, h8⟩
  · cases h3
  · cases h3
    refine .inr ⟨g, cap, putCells (Value.int K) 0 D.toArray cur, rfl, hb, putRow_block h4, by omega, h6, by simp [putCells, h7], ?_⟩
    apply List.ext_getElem?
    intro t
    by_cases ht : t < l'.length
    · have hc : t < cur.size := by omega
      have ht2 : t < D.length := by omega
      have e1 : l'[t]? = some D[t] := by rw [hl, List.getElem?_take, if_pos (by omega)]; simp [ht2]
      rw [List.getElem?_take, if_pos (by omega)]
      simp [putCells, hc, cellsU, e1, ht2]
    · rw [List.getElem?_eq_none (by simp; omega), List.getElem?_eq_none (by rw [cellsU_length]; omega)]
theorem putRow_kb {w : World} {g n : Nat} {D : Array Int} {os : Array Obj} {cap m : Nat} : KB (fun k => (Value.slice (some ⟨g, 0, none⟩) m cap).ownBlock = some k) w (grow (putRow (Value.int K) (Sort.ahead w n) g 0 D) os) :=
  ⟨rfl, rfl, rfl, putRow_size, fun k hk hne => putRow_far hk fun e => hne (by rw [e]; rfl)⟩
end Go.Proofs.YtghopakbefageaaGreat
namespace Go.Proofs.YtghopakbefageaaGreat
open Go.RowKit Go.Sort Go.Lib
theorem sortI_length (l : List Int) : (sortI l).length = l.length := by simp [sortI]
/-- what slices.Sort does to a row of uint32 of one's own -/
def S32 (l : List Int) : Prop := ∀ (base : Nat) (v : Value) (w : World), URow .u32 22 base w v l → l.length ≤ 200000 →
    Calls Tryz.prog 28 #[v] w fun e w' => e = .returned (.tuple #[]) ∧ URow .u32 22 base w' v (sortI l) ∧ KB (fun k => v.ownBlock = some k) w w'
theorem compactUpTo_le (d : Array Int) : (compactUpTo d d.size).length ≤ d.size := by
  unfold compactUpTo
  rw [List.length_map]
  exact Nat.le_trans (List.length_filter_le _ _) (by simp)
theorem onceI_nil : onceI [] = [] := rfl
set_option maxRecDepth 200000 in
theorem compact32_row (base : Nat) (v : Value) (l : List Int) (w : World) (h : URow .u32 22 base w v l) (hl : l.length ≤ 200000) :
    Calls Tryz.prog 29 #[v] w fun e w' => ∃ v', e = .returned v' ∧ URow .u32 22 base w' v' (onceI l) ∧ v'.ownBlock = v.ownBlock ∧ KB (fun k => v.ownBlock = some k) w w' := by
  by_cases h0 : l.length = 0
  · obtain ⟨p, c, rfl⟩ := own_shape h
    obtain rfl : l = [] := List.eq_nil_of_length_eq_zero h0
    have HH := Lib.hid h; clear h
    go_enter Tryz.func29, Tryz.ntmps29
    go_wp2
    go_ret
    exact ⟨_, rfl, HH.out, rfl, KB.refl _ _⟩
  · obtain ⟨g, cap, rfl, hbg, hgl⟩ := World.ownsRow.form h (by omega)
    have hsz : l.toArray.size = l.length := by simp
    have hcap : l.length ≤ cap := by
      rcases h.2 with ⟨h3, -⟩ | ⟨g', cap', cur, h3, -, -, h5, -⟩
      · cases h3
      · cases h3; exact h5
    have hcon := Go.Proofs.AnyE.slices_Compact Tryz.compact32 (Value.int .u32) (fun _ => rfl) (EqlAt.intD _ _ .u32) (NeqAt.intD _ _ .u32) 0 Tryz.zeroValue22 g 0 cap l.toArray w h.holds (by rw [hsz]; omega) (by rw [hsz]; exact hcap)
    change Calls Tryz.prog 29 _ _ _ at hcon
    have hle := compactUpTo_le l.toArray
    have he : compactUpTo l.toArray l.toArray.size = onceI l := by rw [hsz]; rfl
    rw [he, hsz] at hcon
    rw [he, hsz] at hle
    refine hcon.mono ?_
    rintro e w' ⟨rfl, n, rfl⟩
    have hp := URow.put (n := n) (os := #[]) (D := onceI l ++ List.replicate (l.length - (onceI l).length) 0) (l' := onceI l) h (by simp; omega) (by rw [List.take_append_of_le_length (Nat.le_refl _), List.take_length])
    have hk := putRow_kb (K := .u32) (w := w) (g := g) (n := n) (D := (onceI l ++ List.replicate (l.length - (onceI l).length) 0).toArray) (os := #[]) (cap := cap) (m := l.length)
    rw [grow_empty] at hp hk
    exact ⟨_, rfl, hp, rfl, hk⟩
end Go.Proofs.YtghopakbefageaaGreat
