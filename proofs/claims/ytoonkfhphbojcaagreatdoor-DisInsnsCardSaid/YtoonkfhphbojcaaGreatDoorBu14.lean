/- At a box that embeds one (dis.teller): the walks of strings.Builder's copyCheck, WriteString and String at a builder. A map with string keys as a function from texts to values, over the kit's word ownsMap. No program in sight. A map with keys of any kind as a function, over the kit's word ownsMap. No program in sight. The walk of obj.name: it returns isName. The walks of obj.told, obj.Note and the search over notes. -/
import Derived.Test.YtoonkfhphbojcaaGreatDoorBu12
import Derived.Lib.Builder
import Derived.Lib.AppendStr
import Derived.Lib.UnsafeStr
import Derived.Lib.Hide
import Derived.Laws.Externs
import Derived.RegionTactic
import Derived.OwnWalk
import Derived.WalkKit
import Derived.WalkSpells
import Derived.Maps.OwnSet
import Derived.Maps.Views
import Derived.StringKeys
import Derived.DeepKeys4
import Derived.Test.YtoonkfhphbojcaaGreatDoorRows
import Derived.Test.YtoonkfhphbojcaaGreatDoorBu02
import Derived.Test.YtoonkfhphbojcaaGreatDoorTrimLay
import Derived.WalkLawsBesides
import Derived.Test.YtoonkfhphbojcaaGreatDoorBu03
import Derived.Deep.Light
import Derived.Handy
namespace Go.Proofs.YtoonkfhphbojcaaGreatDoor
open Go.RowKit
theorem size_builder : (Tryz.prog.info? 81).map (·.size) = some 2 := by kernel_rfl
theorem lies_builder : liesAt Tryz.prog Tryz.prog.depth 83 (2 / Tryz.prog.cellsOf 83) 0 81 1 = true := by kernel_rfl
abbrev WrAt (B b : Nat) (p : Value) (l : BL) (w : World) : Prop := Lib.BuilderAt 83 5 B b p (Lib.byteCells l) w
/-- a writer that holds these bytes -/
def IsWr (B b : Nat) (l : BL) (w : World) : Prop := WrAt B b (.pointer none) l w ∨ WrAt B b (.pointer (some ⟨b, 0, none⟩)) l w
/-- a block that is no row of bytes -/
def NB (w : World) (g : Nat) : Prop := ∀ cur fr, w.heap[g]? ≠ some (.cells cur 5 fr)
/-- all blocks but b and rows of bytes are as they were -/
structure KN (b : Nat) (w w' : World) : Prop where
  size : w.heap.size ≤ w'.heap.size
  block : ∀ g, g < w.heap.size → g ≠ b → NB w g → w'.heap[g]? = w.heap[g]?
theorem KN.refl (b : Nat) (w : World) : KN b w w := ⟨Nat.le_refl _, fun _ _ _ _ => rfl⟩
theorem KN.trans {b : Nat} {w w' w'' : World} (h : KN b w w') (k : KN b w' w'') : KN b w w'' :=
  ⟨Nat.le_trans h.size k.size, fun g hg hb hn => by
    have h1 := h.block g hg hb hn
    rw [k.block g (Nat.lt_of_lt_of_le hg h.size) hb (fun cur fr => by rw [h1]; exact hn cur fr), h1]⟩
theorem KN.of_below {b : Nat} {w w' : World} (h : Below w.heap.size w w') : KN b w w' := ⟨h.size, fun g hg _ _ => h.block g hg⟩
/-- a block of this type with these cells -/
def BX (b : Nat) (w : World) (g : Nat) (t : TypeId) (cs : Array Value) : Prop := g ≠ b ∧ t ≠ 5 ∧ w.heap[g]? = some (.cells cs t (0, 0))
theorem BX.lt {b : Nat} {w : World} {g : Nat} {t : TypeId} {cs : Array Value} (h : BX b w g t cs) : g < w.heap.size := by
  rcases Nat.lt_or_ge g w.heap.size with h' | h'
  · exact h'
  · have := h.2.2; simp [Array.getElem?_eq_none h'] at this
theorem BX.keep {b : Nat} {w w' : World} {g : Nat} {t : TypeId} {cs : Array Value} (h : BX b w g t cs) (k : KN b w w') : BX b w' g t cs := by
  refine ⟨h.1, h.2.1, ?_⟩
  rw [k.block g h.lt h.1 (fun cur fr e => by have := h.2.2; rw [this] at e; injection e with e; injection e with _ e2 _; exact h.2.1 e2)]
  exact h.2.2
theorem BX.cell {b : Nat} {w : World} {g : Nat} {t : TypeId} {cs : Array Value} (h : BX b w g t cs) (j : Nat) : w.cell? ⟨g, j, none⟩ = cs[j]? := Lib.cell_of_heap h.2.2 j
theorem BX.new {b : Nat} {w : World} {t : TypeId} {cs : Array Value} (hb : b < w.heap.size) (ht : t ≠ 5) : BX b (w.alloc (.cells cs t)) w.heap.size t cs := ⟨by omega, ht, heap_alloc_new w _⟩
set_option maxHeartbeats 1000000 in
set_option maxRecDepth 100000 in
theorem copyCheck_used (b : Nat) (w : World) (h0 : w.cell? ⟨b, 0, none⟩ = some (.pointer (some ⟨b, 0, none⟩))) :
    Calls Tryz.prog 99 #[.pointer (some ⟨b, 0, none⟩)] w fun e w' => e = .returned (.tuple #[]) ∧ w' = w := by
  obtain ⟨j, hj, _⟩ := Option.map_eq_some_iff.1 size_builder
  go_enter Tryz.func99, Tryz.ntmps99
  go_wp2
  rw [Lib.run_neq_ptr_same w _ Tryz.underlying78 hj]
  go_wp2
  go_end0
  exact ⟨rfl, rfl⟩
set_option maxHeartbeats 1000000 in
set_option maxRecDepth 100000 in
theorem copyCheck_fresh (b : Nat) (w : World) (h0 : w.cell? ⟨b, 0, none⟩ = some (.pointer none)) (hsh : w.shape? b = some (83, 2)) (hfz : w.frozen? ⟨b, 0, none⟩ = false) :
    Calls Tryz.prog 99 #[.pointer (some ⟨b, 0, none⟩)] w fun e w' => e = .returned (.tuple #[]) ∧ w' = w.setCell ⟨b, 0, none⟩ (.pointer (some ⟨b, 0, none⟩)) := by
  obtain ⟨j, hj, hjs⟩ := Option.map_eq_some_iff.1 size_builder
  go_enter Tryz.func99, Tryz.ntmps99
  go_wp2
  rw [Lib.run_to_unsafe w ⟨b, 0, none⟩ Tryz.underlying78 Tryz.underlying188 hj (by rw [hjs]; decide) hsh (Nat.zero_lt_succ 1)]
  simp only [Result.andThen]
  rw [Oper.upon_value]
  go_wp2
  rw [run_callFunc_extern Tryz.func135 (by kernel_rfl) (by kernel_rfl) (by kernel_rfl) (e := Extern.AbiNoEscape.same) (by kernel_rfl)]
  rw [Lib.run_noEscape]
  simp only [Result.andThen]
  rw [Oper.upon_value]
  go_wp2
  rw [Lib.run_from_unsafe w ⟨b, 0, none⟩ Tryz.underlying188 Tryz.underlying78 hj hsh lies_builder]
  simp only [Result.andThen]
  rw [Oper.upon_value]
  go_wp2
  go_end0
  exact ⟨rfl, rfl⟩
theorem copyCheck_any (B b : Nat) (l : BL) (w : World) (h : IsWr B b l w) :
    Calls Tryz.prog 99 #[.pointer (some ⟨b, 0, none⟩)] w fun e w' => e = .returned (.tuple #[]) ∧ (WrAt B b (.pointer (some ⟨b, 0, none⟩)) l w' ∧ Below B w w' ∧ KN b w w') := by
  rcases h with h | h
  · refine (copyCheck_fresh b w h.cell0 h.shape h.frozen0).mono ?_
    rintro e w' ⟨rfl, rfl⟩
    exact ⟨rfl, h.used _, (Below.refl B w).setCell (p := ⟨b, 0, none⟩) h.1 _, by simp, fun g _ hb _ => Below.heap_setCell _ _ _ _ (by simpa using hb)⟩
  · refine (copyCheck_used b w h.cell0).mono ?_
    rintro e w' ⟨rfl, rfl⟩
    exact ⟨rfl, h, Below.refl B _, KN.refl _ _⟩
/-- behind a call of the writer's -/
def WPost (B b : Nat) (l : BL) (w w' : World) : Prop := IsWr B b l w' ∧ Below B w w' ∧ KN b w w'
theorem IsWr.keep {B b : Nat} {l : BL} {w w' : World} (h : IsWr B b l w) (k : Below w.heap.size w w') : IsWr B b l w' := by
  rcases h with ⟨h0, v, h1, h2, h3⟩ | ⟨h0, v, h1, h2, h3⟩
  · have hlt : b < w.heap.size := Lib.BuilderAt.lt ⟨h0, v, h1, h2, h3⟩
    exact .inl ⟨h0, v, by rw [k.block b hlt]; exact h1, by
      refine ⟨h2.1, ?_⟩
      rcases h2.2 with hn | ⟨g, cap, cur, rfl, hb, hg, rest⟩
      · exact .inl hn
      · exact .inr ⟨g, cap, cur, rfl, hb, by rw [k.block g (Array.getElem?_eq_some_iff.1 hg).1]; exact hg, rest⟩, h3⟩
  · have hlt : b < w.heap.size := Lib.BuilderAt.lt ⟨h0, v, h1, h2, h3⟩
    exact .inr ⟨h0, v, by rw [k.block b hlt]; exact h1, by
      refine ⟨h2.1, ?_⟩
      rcases h2.2 with hn | ⟨g, cap, cur, rfl, hb, hg, rest⟩
      · exact .inl hn
      · exact .inr ⟨g, cap, cur, rfl, hb, by rw [k.block g (Array.getElem?_eq_some_iff.1 hg).1]; exact hg, rest⟩, h3⟩
theorem IsWr.lt {B b : Nat} {l : BL} {w : World} (h : IsWr B b l w) : b < w.heap.size := h.elim Lib.BuilderAt.lt Lib.BuilderAt.lt
theorem IsWr.le {B b : Nat} {l : BL} {w : World} (h : IsWr B b l w) : B ≤ b := h.elim (·.1) (·.1)
theorem WPost.trans {B b : Nat} {l l' : BL} {w w' w'' : World} (h : WPost B b l w w') (k : WPost B b l' w' w'') : WPost B b l' w w'' := ⟨k.1, h.2.1.trans k.2.1, h.2.2.trans k.2.2⟩
theorem WPost.keep {B b : Nat} {l : BL} {w w' w'' : World} (h : WPost B b l w w') (k : Below w'.heap.size w' w'') (hB : B ≤ w.heap.size) : WPost B b l w w'' := ⟨h.1.keep k, h.2.1.trans (k.mono (Nat.le_trans hB h.2.1.size)), h.2.2.trans (KN.of_below k)⟩
theorem strCells_bytes (s : ByteArray) : Lib.strCells s = Lib.byteCells s.data.toList := by
  simp [Lib.strCells, Lib.byteCells]
set_option maxHeartbeats 2000000 in
set_option maxRecDepth 100000 in
theorem writeString_any (B b : Nat) (l : BL) (s : ByteArray) (w : World) (h : IsWr B b l w) (hlen : l.length + s.size ≤ 140737488355328) (hBw : B ≤ w.heap.size) :
    Calls Tryz.prog 47 #[.pointer (some ⟨b, 0, none⟩), .string s] w fun e w' => e = .returned (.tuple #[.int .i64 s.size, .nilIface]) ∧ WPost B b (l ++ s.data.toList) w w' := by
  obtain ⟨i0, hi, hz0, hz1, hz2⟩ := info_parts info_byte
  have HI := Lib.hid (And.intro hi (And.intro hz0 (And.intro hz1 hz2)))
  clear hi hz0 hz1 hz2
  have HC := Lib.hid (copyCheck_any B b l w h); clear h
  go_enter Tryz.func47, Tryz.ntmps47
  go_wp2_with (go_at_call 99; refine HC.out.mono ?_)
  rintro e w1 ⟨rfl, h1, hb1, hkn1⟩
  obtain ⟨hB, v, hbk, hown, hne⟩ := h1
  have HKN1 := Lib.hid hkn1; clear hkn1
  have c0 : w1.cell? ⟨b, 0, none⟩ = some (.pointer (some ⟨b, 0, none⟩)) := by rw [Lib.cell_of_heap hbk]; rfl
  have c1 : w1.cell? ⟨b, 1, none⟩ = some v := by rw [Lib.cell_of_heap hbk]; rfl
  rw [Lib.byteCells_length] at hown
  have HOWN := Lib.hid hown
  have HNE := Lib.hid hne
  have HBK := Lib.hid hbk
  have HB1 := Lib.hid hb1
  clear hown hne hbk hb1
  go_wp2_with (at_builtin; refine Lib.wpList_append_own_string _ rfl _ _ 79 9 rfl B 5 i0 Tryz.underlying79 Tryz.underlying9 HI.out.1 HI.out.2.1 HI.out.2.2.1 HI.out.2.2.2 _ _ _ rfl HOWN.out s rfl ?c3 ?c4 ?c5 ?_)
  case c3 => unfold maxLen; omega
  case c4 => omega
  case c5 => have := HB1.out.size; omega
  intro v' w2 hown' hgrow _
  have hlt : b < w1.heap.size := by
    rcases Nat.lt_or_ge b w1.heap.size with h' | h'
    · exact h'
    · have hbk := HBK.out; simp [Array.getElem?_eq_none h'] at hbk
  have hb2 : w2.heap[b]? = some (.cells #[.pointer (some ⟨b, 0, none⟩), v] 83 (0, 0)) := by
    rw [hgrow.block b hlt (fun e => HNE.out e.symm)]
    exact HBK.out
  have d0 : w2.cell? ⟨b, 0, none⟩ = some (.pointer (some ⟨b, 0, none⟩)) := by rw [Lib.cell_of_heap hb2]; rfl
  have d1 : w2.cell? ⟨b, 1, none⟩ = some v := by rw [Lib.cell_of_heap hb2]; rfl
  have f1 : w2.frozen? ⟨b, 1, none⟩ = false := Lib.frozen_of_heap hb2 1
  obtain ⟨ao, n', cap, rfl⟩ : ∃ ao n' cap, v' = .slice ao n' cap := by
    rcases hown'.2 with ⟨hv, _⟩ | ⟨g, cap, cur, hv, _⟩
    · exact ⟨_, _, _, hv⟩
    · exact ⟨_, _, _, hv⟩
  have HE1 := Lib.hid (Lib.BuilderAt.put (T := 83) (e := 5) hB hb2 (bs' := Lib.byteCells (l ++ s.data.toList)) (by rw [strCells_bytes] at hown'; simpa [Lib.byteCells] using hown') (by decide))
  have HE2 := Lib.hid ((HB1.out.grown hgrow (by have := HB1.out.size; omega) (fun k hk => (HOWN.out.lt k hk).1)).setCell (p := ⟨b, 1, none⟩) hB (.slice ao n' cap))
  have HKN : Hid (KN b w (w2.setCell ⟨b, 1, none⟩ (.slice ao n' cap))) := by
    refine HKN1.out.trans ⟨by simpa using hgrow.size, fun g hg hgb hn => ?_⟩
    rw [Below.heap_setCell _ _ _ _ (by simpa using hgb), hgrow.block g hg (fun e => ?_)]
    rcases HOWN.out.2 with ⟨hv, _⟩ | ⟨g', cap', cur, hv, _, hg', _⟩
    · rw [hv] at e; cases e
    · rw [hv] at e; cases e; exact hn _ _ hg'
  clear hown' hgrow hb2 c0 c1
  go_wp2
  go_ret2
  exact ⟨rfl, .inr HE1.out, HE2.out, HKN.out⟩
set_option maxHeartbeats 1000000 in
set_option maxRecDepth 100000 in
theorem string_any (B b : Nat) (l : BL) (w : World) (h : IsWr B b l w) (h0 : l ≠ []) :
    Calls Tryz.prog 48 #[.pointer (some ⟨b, 0, none⟩)] w fun e w' => e = .returned (.string (bsOf l)) ∧ Below B w w' := by
  obtain ⟨p, hB, v, hbk, hown, hne⟩ : ∃ p, WrAt B b p l w := by
    rcases h with h | h
    · exact ⟨_, h⟩
    · exact ⟨_, h⟩
  have hl0 : l.length ≠ 0 := by simpa using h0
  rw [Lib.byteCells_length] at hown
  obtain ⟨g, cap, cur, rfl, hbg, hg, hnc, hcm, hcs, htake⟩ : ∃ g cap cur, v = .slice (some ⟨g, 0, none⟩) l.length cap ∧ B ≤ g ∧ w.heap[g]? = some (.cells cur 5 (0, 0)) ∧ l.length ≤ cap ∧ cap ≤ maxLen ∧ cur.size = cap * 1 ∧ cur.toList.take (l.length * 1) = Lib.byteCells l := by
    rcases hown.2 with ⟨_, hz⟩ | ⟨g, cap, cur, hv, r⟩
    · exact absurd hz hl0
    · exact ⟨g, cap, cur, hv, r⟩
  have c1 : w.drew.cell? ⟨b, 1, none⟩ = some (.slice (some ⟨g, 0, none⟩) l.length cap) := by
    have : w.drew.heap[b]? = some (.cells #[p, .slice (some ⟨g, 0, none⟩) l.length cap] 83 (0, 0)) := hbk
    rw [Lib.cell_of_heap this]; rfl
  have hSD : (Builtin.unsafeSliceData_ #[79] 158 #[.slice (some ⟨g, 0, none⟩) l.length cap]).run Tryz.prog w.drew = .ok (.pointer (some ⟨g, 0, none⟩)) w.drew :=
    Lib.run_unsafeSliceData_row _ _ _ _ _ _ (by omega)
  have hUS : (Builtin.unsafeString_ #[158, 3] 9 #[.pointer (some ⟨g, 0, none⟩), .int .i64 l.length]).run Tryz.prog w.drew = .ok (.string (bsOf l)) (w.drew.freeze ⟨g, 0, none⟩ l.length) := by
    refine Lib.run_unsafeString_row w.drew 158 3 9 5 Tryz.underlying158 (by kernel_rfl) g cur.size (by have hg' : w.drew.heap[g]? = some (.cells cur 5 (0, 0)) := hg; simp [World.shape?, hg']) l h0 (by omega) (by unfold maxLen at hcm; omega) ?_
    intro j x hx
    have := hown.cells (g := g) rfl j (.int .u8 x.toNat) (by simp [Lib.byteCells, hx])
    exact this
  have HH := Lib.hid hbg
  clear hown hne hbk hg htake hcs hcm hl0 h0 h
  go_enter Tryz.func48, Tryz.ntmps48
  go_wp2
  go_region
  all_goals (go_wp2; go_ret; exact ⟨rfl, Lib.below_freeze (Below.drew (Below.refl B w)) (p := ⟨g, 0, none⟩) HH.out _⟩)
end Go.Proofs.YtoonkfhphbojcaaGreatDoor
namespace Go.Proofs.YtoonkfhphbojcaaGreatDoor
open Go.RowKit Go.Maps Go.WideMaps
def mapR (v : Value) : Option (DataW Value × List MemPlace) := some (.held v, [])
/-- block b is a map of at most n entries: a text's value is f's -/
def MapFn (P : Program) (k : TypeId) (w : World) (b n : Nat) (f : List UInt8 → Option Value) : Prop :=
  ∃ D : DataW Value, w.ownsMap P k mapR b n D ∧ ∀ l, (∀ v, f l = some v → ∀ z, D.atKey (.string l) z = .held v) ∧ (f l = none → ∀ z, D.atKey (.string l) z = z)
section
variable {P : Program} {k : TypeId} {w : World} {b n : Nat} {f : List UInt8 → Option Value}
theorem MapFn.made (P : Program) (k : TypeId) (w : World) : MapFn P k (w.alloc (.map #[] 0)) w.heap.size 0 (fun _ => none) :=
  ⟨_, World.ownsMap_made w P k mapR, fun _ => ⟨fun _ h => (by cases h), fun _ _ => rfl⟩⟩
theorem MapFn.lt (h : MapFn P k w b n f) : b < w.heap.size := by obtain ⟨D, hD, _⟩ := h; exact hD.lt
theorem MapFn.kept {w' : World} (h : MapFn P k w b n f) (hb : w'.heap[b]? = w.heap[b]?) : MapFn P k w' b n f := by
  obtain ⟨D, ⟨es, clock, h1, h2⟩, hf⟩ := h
  exact ⟨D, ⟨es, clock, hb.trans h1, h2⟩, hf⟩
theorem MapFn.below {w' : World} {B : Nat} (h : MapFn P k w b n f) (hb : Below B w w') (hB : b < B) : MapFn P k w' b n f := h.kept (hb.block b hB)
theorem MapFn.alloc (h : MapFn P k w b n f) (o : Obj) : MapFn P k (w.alloc o) b n f := h.kept (Below.heap_alloc w o b h.lt)
theorem MapFn.drew (h : MapFn P k w b n f) : MapFn P k w.drew b n f := h.kept rfl
theorem MapFn.mono (h : MapFn P k w b n f) {n' : Nat} (hn : n ≤ n') : MapFn P k w b n' f := by
  obtain ⟨D, hD, hf⟩ := h; exact ⟨D, hD.mono hn, hf⟩
theorem MapFn.setCell (h : MapFn P k w b n f) {a : Addr} (ha : b ≠ a.block) (u : Value) : MapFn P k (w.setCell a u) b n f := h.kept (Below.heap_setCell w a u b ha)
theorem MapFn.grown {w' : World} {r : Nat} (h : MapFn P k w b n f) (hg : w.grownBy w' (some r)) (hne : b ≠ r) : MapFn P k w' b n f := h.kept (hg.block b h.lt (by simpa using hne))
/-- 'm[key]' -/
theorem MapFn.look {t e : TypeId} (h : MapFn P k w b n f) (K : Keyed P k) (ht : P.underlying t = some (.map k e)) (hk : P.underlying k = some .string) {z : Value} (hz : (zeroValue e).run P w = .ok z w) {s : ByteArray} (hs : s.size ≤ maxLen) :
    (Instr.lookup t (.map (some b)) (.string s) false).run P w = .ok ((f s.data.toList).getD z) w := by
  obtain ⟨D, hD, hf⟩ := h
  obtain ⟨v, ps, hrun, hR⟩ := hD.lookup K ht hz (zd := .held z) (zp := []) rfl (keyOf_string_mk hk hs)
  rw [hrun]
  obtain ⟨h1, h2⟩ := hf s.data.toList
  cases hfs : f s.data.toList with
  | none =>
    rw [h2 hfs] at hR
    simp [mapR] at hR
    rw [hR.1]; rfl
  | some u =>
    rw [h1 u hfs] at hR
    simp [mapR] at hR
    rw [hR.1]; rfl
/-- 'v, ok := m[key]' -/
theorem MapFn.look_ok {t e : TypeId} (h : MapFn P k w b n f) (K : Keyed P k) (ht : P.underlying t = some (.map k e)) (hk : P.underlying k = some .string) {z : Value} (hz : (zeroValue e).run P w = .ok z w) {s : ByteArray} (hs : s.size ≤ maxLen) :
    (Instr.lookup t (.map (some b)) (.string s) true).run P w = .ok (.tuple #[(f s.data.toList).getD z, .bool (f s.data.toList).isSome]) w := by
  obtain ⟨D, hD, hf⟩ := h
  obtain ⟨v, ps, hrun, hR⟩ := hD.look_ok K ht hz (zd := .held z) (zp := []) rfl (keyOf_string_mk hk hs)
  rw [hrun]
  obtain ⟨h1, h2⟩ := hf s.data.toList
  cases hfs : f s.data.toList with
  | none =>
    rw [Maps.has_false_of_atKey (h2 hfs)]
    rw [h2 hfs] at hR
    simp [mapR] at hR
    rw [hR.1]; rfl
  | some u =>
    rw [Maps.has_true_of_atKey (h1 u hfs)]
    rw [h1 u hfs] at hR
    simp [mapR] at hR
    rw [hR.1]; rfl
/-- 'm[key] = v' -/
theorem MapFn.put {t e : TypeId} (h : MapFn P k w b n f) (K : Keyed P k) (ht : P.underlying t = some (.map k e)) (hk : P.underlying k = some .string) (hn : n < maxLen) {s : ByteArray} (hs : s.size ≤ maxLen) (v : Value) :
    ∃ w', (Instr.mapUpdate t (.map (some b)) (.string s) v).run P w = .ok () w' ∧ MapFn P k w' b (n + 1) (fun l => if l = s.data.toList then some v else f l) ∧ w.grownBy w' (some b) := by
  obtain ⟨D, hD, hf⟩ := h
  obtain ⟨w', hrun, hD', hg⟩ := hD.update K ht hn (keyOf_string_mk hk hs) (val := v) (d := .held v) (ps := []) rfl
  refine ⟨w', hrun, ⟨_, hD', fun l => ?_⟩, hg⟩
  obtain ⟨h1, h2⟩ := hf l
  by_cases hl : l = s.data.toList
  · subst hl
    refine ⟨fun u hu z => ?_, fun hu => by simp at hu⟩
    simp at hu
    subst hu
    exact Maps.atKey_put_same hD.isMap (by simp [WideAt.IsKeyLit]) _ _
  · have hne : (Lit.string l) ≠ .string s.data.toList := fun e => hl (by cases e; rfl)
    refine ⟨fun u hu z => ?_, fun hu z => ?_⟩
    · rw [Maps.atKey_put_other hne]; simp [hl] at hu; exact h1 u hu z
    · rw [Maps.atKey_put_other hne]; simp [hl] at hu; exact h2 hu z
end
theorem cell_grown {w w' : World} {b o r : Nat} {v : Value} (hg : w.grownBy w' (some r)) (hlt : b < w.heap.size) (hne : b ≠ r) (h : w.cell? ⟨b, o, none⟩ = some v) : w'.cell? ⟨b, o, none⟩ = some v := by
  rw [World.cell?_of_block (w := w) (a := ⟨b, o, none⟩) (hg.block b hlt (by simpa using hne))]; exact h
/-- the look-up, at the operation -/
theorem wpList_look {P : Program} (w : World) {ops : Array Oper} {rest : List Oper} {o : Oper} {a : Act} {Q : Exit → Act → World → Prop} {b n : Nat} {f : List UInt8 → Option Value}
    (hg : o.guard = none) (m x : Operand) (t : TypeId) (hop : o.op = Op.lookup t m x false)
    (k e : TypeId) (K : Keyed P k) (ht : P.underlying t = some (.map k e)) (hk : P.underlying k = some .string) {z : Value} (hz : (zeroValue e).run P w = .ok z w)
    (hm : a.eval m = .map (some b)) (hown : MapFn P k w b n f) (s : ByteArray) (hx : a.eval x = .string s) (hs : s.size ≤ maxLen) {v : Value} (hv : (f s.data.toList).getD z = v)
    (hK : wpList P ops Q rest (a.put o.dst v) w) :
    wpList P ops Q (o :: rest) a w := by
  refine wpList_plain hg fun K' hK' => ?_
  have hrun := hown.look K ht hk hz hs
  rw [hv] at hrun
  unfold Oper.wp
  simp [execOp, hop, hm, hx, hrun, Result.andThen]
  exact hK' _ _ hK
theorem wpList_look_ok {P : Program} (w : World) {ops : Array Oper} {rest : List Oper} {o : Oper} {a : Act} {Q : Exit → Act → World → Prop} {b n : Nat} {f : List UInt8 → Option Value}
    (hg : o.guard = none) (m x : Operand) (t : TypeId) (hop : o.op = Op.lookup t m x true)
    (k e : TypeId) (K : Keyed P k) (ht : P.underlying t = some (.map k e)) (hk : P.underlying k = some .string) {z : Value} (hz : (zeroValue e).run P w = .ok z w)
    (hm : a.eval m = .map (some b)) (hown : MapFn P k w b n f) (s : ByteArray) (hx : a.eval x = .string s) (hs : s.size ≤ maxLen) {v : Value} (hv : (f s.data.toList).getD z = v) {is : Bool} (hi : (f s.data.toList).isSome = is)
    (hK : wpList P ops Q rest (a.put o.dst (.tuple #[v, .bool is])) w) :
    wpList P ops Q (o :: rest) a w := by
  refine wpList_plain hg fun K' hK' => ?_
  have hrun := hown.look_ok K ht hk hz hs
  rw [hv, hi] at hrun
  unfold Oper.wp
  simp [execOp, hop, hm, hx, hrun, Result.andThen]
  exact hK' _ _ hK
/-- the store, at the operation -/
theorem wpList_put {P : Program} (w : World) {ops : Array Oper} {rest : List Oper} {o : Oper} {a : Act} {Q : Exit → Act → World → Prop} {b n : Nat} {f : List UInt8 → Option Value}
    (hg : o.guard = none) (m x v : Operand) (t : TypeId) (hop : o.op = Op.mapUpdate t m x v)
    (k e : TypeId) (K : Keyed P k) (ht : P.underlying t = some (.map k e)) (hk : P.underlying k = some .string)
    (hm : a.eval m = .map (some b)) (hown : MapFn P k w b n f) (hn : n < maxLen) (s : ByteArray) (val : Value) (hx : a.eval x = .string s) (hv : a.eval v = val) (hs : s.size ≤ maxLen)
    (hK : ∀ w', MapFn P k w' b (n + 1) (fun l => if l = s.data.toList then some val else f l) → w.grownBy w' (some b) → wpList P ops Q rest (a.put o.dst undef) w') :
    wpList P ops Q (o :: rest) a w := by
  refine wpList_plain hg fun K' hK' => ?_
  obtain ⟨w', hrun, r1, r2⟩ := hown.put K ht hk hn hs val
  unfold Oper.wp
  simp [execOp, hop, hm, hx, hv, hrun, Result.andThen]
  exact hK' _ _ (hK w' r1 r2)
end Go.Proofs.YtoonkfhphbojcaaGreatDoor
namespace Go.Proofs.YtoonkfhphbojcaaGreatDoor
open Go.RowKit Go.Maps Go.WideMaps
/-- how keys are laid as values -/
structure KeyEnc (P : Program) (k : TypeId) (α : Type) where
  enc : α → Value
  lit : α → Lit
  ok : α → Prop
  key : ∀ a, ok a → keyOf P k (enc a) = some (lit a)
  inj : ∀ a b, enc a = enc b → a = b
/-- block b is a map of at most n entries: a key's value is f's -/
def MapKFn {P : Program} {k : TypeId} {α : Type} (E : KeyEnc P k α) (w : World) (b n : Nat) (f : α → Option Value) : Prop :=
  ∃ D : DataW Value, w.ownsMap P k mapR b n D ∧ ∀ a, E.ok a → (∀ v, f a = some v → ∀ z, D.atKey (E.lit a) z = .held v) ∧ (f a = none → ∀ z, D.atKey (E.lit a) z = z)
section
variable {P : Program} {k : TypeId} {α : Type} {E : KeyEnc P k α} {w : World} {b n : Nat} {f : α → Option Value}
theorem MapKFn.made (E : KeyEnc P k α) (w : World) : MapKFn E (w.alloc (.map #[] 0)) w.heap.size 0 (fun _ => none) :=
  ⟨_, World.ownsMap_made w P k mapR, fun _ _ => ⟨fun _ h => (by cases h), fun _ _ => rfl⟩⟩
theorem MapKFn.lt (h : MapKFn E w b n f) : b < w.heap.size := by obtain ⟨D, hD, _⟩ := h; exact hD.lt
theorem MapKFn.kept {w' : World} (h : MapKFn E w b n f) (hb : w'.heap[b]? = w.heap[b]?) : MapKFn E w' b n f := by
  obtain ⟨D, ⟨es, clock, h1, h2⟩, hf⟩ := h
  exact ⟨D, ⟨es, clock, hb.trans h1, h2⟩, hf⟩
theorem MapKFn.below {w' : World} {B : Nat} (h : MapKFn E w b n f) (hb : Below B w w') (hB : b < B) : MapKFn E w' b n f := h.kept (hb.block b hB)
theorem MapKFn.alloc (h : MapKFn E w b n f) (o : Obj) : MapKFn E (w.alloc o) b n f := h.kept (Below.heap_alloc w o b h.lt)
theorem MapKFn.drew (h : MapKFn E w b n f) : MapKFn E w.drew b n f := h.kept rfl
theorem MapKFn.mono (h : MapKFn E w b n f) {n' : Nat} (hn : n ≤ n') : MapKFn E w b n' f := by
  obtain ⟨D, hD, hf⟩ := h; exact ⟨D, hD.mono hn, hf⟩
theorem MapKFn.setCell (h : MapKFn E w b n f) {a : Addr} (ha : b ≠ a.block) (u : Value) : MapKFn E (w.setCell a u) b n f := h.kept (Below.heap_setCell w a u b ha)
theorem MapKFn.grown {w' : World} {r : Nat} (h : MapKFn E w b n f) (hg : w.grownBy w' (some r)) (hne : b ≠ r) : MapKFn E w' b n f := h.kept (hg.block b h.lt (by simpa using hne))
theorem MapKFn.look {t e : TypeId} (h : MapKFn E w b n f) (K : Keyed P k) (ht : P.underlying t = some (.map k e)) {z : Value} (hz : (zeroValue e).run P w = .ok z w) {a : α} (ha : E.ok a) :
    (Instr.lookup t (.map (some b)) (E.enc a) false).run P w = .ok ((f a).getD z) w := by
  obtain ⟨D, hD, hf⟩ := h
  obtain ⟨v, ps, hrun, hR⟩ := hD.lookup K ht hz (zd := .held z) (zp := []) rfl (E.key a ha)
  rw [hrun]
  obtain ⟨h1, h2⟩ := hf a ha
  cases hfs : f a with
  | none =>
    rw [h2 hfs] at hR
    simp [mapR] at hR
    rw [hR.1]; rfl
  | some u =>
    rw [h1 u hfs] at hR
    simp [mapR] at hR
    rw [hR.1]; rfl
theorem MapKFn.look_ok {t e : TypeId} (h : MapKFn E w b n f) (K : Keyed P k) (ht : P.underlying t = some (.map k e)) {z : Value} (hz : (zeroValue e).run P w = .ok z w) {a : α} (ha : E.ok a) :
    (Instr.lookup t (.map (some b)) (E.enc a) true).run P w = .ok (.tuple #[(f a).getD z, .bool (f a).isSome]) w := by
  obtain ⟨D, hD, hf⟩ := h
  obtain ⟨v, ps, hrun, hR⟩ := hD.look_ok K ht hz (zd := .held z) (zp := []) rfl (E.key a ha)
  rw [hrun]
  obtain ⟨h1, h2⟩ := hf a ha
  cases hfs : f a with
  | none =>
    rw [Maps.has_false_of_atKey (h2 hfs)]
    rw [h2 hfs] at hR
    simp [mapR] at hR
    rw [hR.1]; rfl
  | some u =>
    rw [Maps.has_true_of_atKey (h1 u hfs)]
    rw [h1 u hfs] at hR
    simp [mapR] at hR
    rw [hR.1]; rfl
theorem MapKFn.put [DecidableEq α] {t e : TypeId} (h : MapKFn E w b n f) (K : Keyed P k) (ht : P.underlying t = some (.map k e)) (hn : n < maxLen) {a : α} (ha : E.ok a) (v : Value) :
    ∃ w', (Instr.mapUpdate t (.map (some b)) (E.enc a) v).run P w = .ok () w' ∧ MapKFn E w' b (n + 1) (fun x => if x = a then some v else f x) ∧ w.grownBy w' (some b) := by
  obtain ⟨D, hD, hf⟩ := h
  obtain ⟨w', hrun, hD', hg⟩ := hD.update K ht hn (E.key a ha) (val := v) (d := .held v) (ps := []) rfl
  refine ⟨w', hrun, ⟨_, hD', fun l hl0 => ?_⟩, hg⟩
  obtain ⟨h1, h2⟩ := hf l hl0
  by_cases hl : l = a
  · subst hl
    refine ⟨fun u hu z => ?_, fun hu => by simp at hu⟩
    simp at hu
    subst hu
    exact Maps.atKey_put_same hD.isMap (K.key (E.key l ha)) _ _
  · have hne : E.lit l ≠ E.lit a := fun e => hl (E.inj _ _ (K.inj (E.key l hl0) (e ▸ E.key a ha)))
    refine ⟨fun u hu z => ?_, fun hu z => ?_⟩
    · rw [Maps.atKey_put_other hne]; simp [hl] at hu; exact h1 u hu z
    · rw [Maps.atKey_put_other hne]; simp [hl] at hu; exact h2 hu z
end
theorem wpList_lookK {P : Program} {α : Type} {k : TypeId} {E : KeyEnc P k α} (w : World) {ops : Array Oper} {rest : List Oper} {o : Oper} {a : Act} {Q : Exit → Act → World → Prop} {b n : Nat} {f : α → Option Value}
    (hg : o.guard = none) (m x : Operand) (t : TypeId) (hop : o.op = Op.lookup t m x false)
    (e : TypeId) (K : Keyed P k) (ht : P.underlying t = some (.map k e)) {z : Value} (hz : (zeroValue e).run P w = .ok z w)
    (hm : a.eval m = .map (some b)) (hown : MapKFn E w b n f) (s : α) (hx : a.eval x = E.enc s) (hs : E.ok s) {v : Value} (hv : (f s).getD z = v)
    (hK : wpList P ops Q rest (a.put o.dst v) w) :
    wpList P ops Q (o :: rest) a w := by
  refine wpList_plain hg fun K' hK' => ?_
  have hrun := hown.look K ht hz hs
  rw [hv] at hrun
  unfold Oper.wp
  simp [execOp, hop, hm, hx, hrun, Result.andThen]
  exact hK' _ _ hK
theorem wpList_lookK_ok {P : Program} {α : Type} {k : TypeId} {E : KeyEnc P k α} (w : World) {ops : Array Oper} {rest : List Oper} {o : Oper} {a : Act} {Q : Exit → Act → World → Prop} {b n : Nat} {f : α → Option Value}
    (hg : o.guard = none) (m x : Operand) (t : TypeId) (hop : o.op = Op.lookup t m x true)
    (e : TypeId) (K : Keyed P k) (ht : P.underlying t = some (.map k e)) {z : Value} (hz : (zeroValue e).run P w = .ok z w)
    (hm : a.eval m = .map (some b)) (hown : MapKFn E w b n f) (s : α) (hx : a.eval x = E.enc s) (hs : E.ok s) {v : Value} (hv : (f s).getD z = v) {is : Bool} (hi : (f s).isSome = is)
    (hK : wpList P ops Q rest (a.put o.dst (.tuple #[v, .bool is])) w) :
    wpList P ops Q (o :: rest) a w := by
  refine wpList_plain hg fun K' hK' => ?_
  have hrun := hown.look_ok K ht hz hs
  rw [hv, hi] at hrun
  unfold Oper.wp
  simp [execOp, hop, hm, hx, hrun, Result.andThen]
  exact hK' _ _ hK
theorem wpList_putK {P : Program} {α : Type} [DecidableEq α] {k : TypeId} {E : KeyEnc P k α} (w : World) {ops : Array Oper} {rest : List Oper} {o : Oper} {a : Act} {Q : Exit → Act → World → Prop} {b n : Nat} {f : α → Option Value}
    (hg : o.guard = none) (m x v : Operand) (t : TypeId) (hop : o.op = Op.mapUpdate t m x v)
    (e : TypeId) (K : Keyed P k) (ht : P.underlying t = some (.map k e))
    (hm : a.eval m = .map (some b)) (hown : MapKFn E w b n f) (hn : n < maxLen) (s : α) (val : Value) (hx : a.eval x = E.enc s) (hv : a.eval v = val) (hs : E.ok s)
    (hK : ∀ w', MapKFn E w' b (n + 1) (fun l => if l = s then some val else f l) → w.grownBy w' (some b) → wpList P ops Q rest (a.put o.dst undef) w') :
    wpList P ops Q (o :: rest) a w := by
  refine wpList_plain hg fun K' hK' => ?_
  obtain ⟨w', hrun, r1, r2⟩ := hown.put K ht hn hs val
  unfold Oper.wp
  simp [execOp, hop, hm, hx, hv, hrun, Result.andThen]
  exact hK' _ _ (hK w' r1 r2)
theorem wpList_insertK {P : Program} {α : Type} [DecidableEq α] {k : TypeId} {E : KeyEnc P k α} (w : World) {ops : Array Oper} {rest : List Oper} {o : Oper} {a : Act} {Q : Exit → Act → World → Prop} {b n : Nat} {f : α → Option Value}
    (hg : o.guard = none) (m x v : Operand) (t : TypeId) (hop : o.op = Op.insert t m x v)
    (e : TypeId) (K : Keyed P k) (ht : P.underlying t = some (.map k e))
    (hm : a.eval m = .map (some b)) (hown : MapKFn E w b n f) (hn : n < maxLen) (s : α) (val : Value) (hx : a.eval x = E.enc s) (hv : a.eval v = val) (hs : E.ok s)
    (hK : ∀ w', MapKFn E w' b (n + 1) (fun l => if l = s then some val else f l) → w.grownBy w' (some b) → wpList P ops Q rest (a.put o.dst undef) w') :
    wpList P ops Q (o :: rest) a w := by
  refine wpList_plain hg fun K' hK' => ?_
  obtain ⟨w', hrun, r1, r2⟩ := hown.put K ht hn hs val
  unfold Oper.wp
  simp [execOp, hop, hm, hx, hv, hrun, Result.andThen]
  exact hK' _ _ (hK w' r1 r2)
end Go.Proofs.YtoonkfhphbojcaaGreatDoor
namespace Go.Proofs.YtoonkfhphbojcaaGreatDoor
open Go.RowKit Go.Shelf Go.Lib
theorem trim_any (s : ByteArray) (w : World) (hs : s.size ≤ 9223372036854775807) :
    Calls Tryz.prog 181 #[.string s, .string ⟨#[97, 98, 99, 100, 101, 102, 103, 104, 105, 106, 107, 108, 109, 110, 111, 112, 113, 114, 115, 116, 117, 118, 119, 120, 121, 122, 48, 49, 50, 51, 52, 53, 54, 55, 56, 57, 46, 95]⟩] w fun e w' => e = .returned (.string ⟨(Lib.trimS s.data.toList nameSet).toArray⟩) ∧ Below w.heap.size w w' :=
  Any.strings_Trim_laid Tryz.lays160 (by kernel_rfl) s ⟨#[97, 98, 99, 100, 101, 102, 103, 104, 105, 106, 107, 108, 109, 110, 111, 112, 113, 114, 115, 116, 117, 118, 119, 120, 121, 122, 48, 49, 50, 51, 52, 53, 54, 55, 56, 57, 46, 95]⟩ w hs (by decide) (ascii_of_all (by decide))
set_option maxHeartbeats 400000 in
theorem objName_any (s : ByteArray) (w : World) (hs : s.size ≤ 140737488355328) :
    Calls Tryz.prog 149 #[.string s] w fun e w' => e = .returned (.bool (isName s)) ∧ Below w.heap.size w w' := by
  by_cases h0 : s.size = 0
  · have hn : isName s = false := by simp [isName, h0]
    rw [hn]; clear hn
    have hl := toList_nil h0
    clear h0
    go_enter Tryz.func149, Tryz.ntmps149
    go_wp2
    go_ret
    exact ⟨rfl, Below.refl _ _⟩
  · have h1 : 1 ≤ s.size := by omega
    have hl := toList_not_nil h1
    have hl' := toList_isEmpty h1
    clear h0
    by_cases h2 : s.size ≤ 32
    · have HN := Lib.hid (trim_isName s h1 h2)
      have hcon := trim_any s w (by omega)
      generalize Lib.trimS s.data.toList nameSet = r at hcon HN
      have HCON := Lib.hid hcon; clear hcon
      go_enter Tryz.func149, Tryz.ntmps149
      go_wp2_with (go_at_call 181; refine HCON.out.mono ?_; rintro e w' ⟨rfl, hB⟩)
      go_ret
      exact ⟨ret_bool HN.out, hB⟩
    · have hn : isName s = false := by simp [isName, h2]
      rw [hn]; clear hn
      go_enter Tryz.func149, Tryz.ntmps149
      go_wp2
      go_ret
      exact ⟨rfl, Below.refl _ _⟩
end Go.Proofs.YtoonkfhphbojcaaGreatDoor
namespace Go.Proofs.YtoonkfhphbojcaaGreatDoor
open Go.RowKit
theorem told_any (b : Bool) (w : World) : Calls Tryz.prog 109 #[.bool b] w fun e w' => e = .returned (.int .i64 (errB b)) ∧ w = w' := by
  cases b <;>
  (go_enter Tryz.func109, Tryz.ntmps109
   go_wp2
   go_ret
   exact ⟨rfl, rfl⟩)
theorem or_zero {n m : Int} (h2 : 0 ≤ n ∧ n ≤ 4294967295) (h3 : 0 ≤ m ∧ m ≤ 4294967295) : (bits .or .u32 n m == 0) = (decide (n = 0) && decide (m = 0)) := by
  rw [u32_or n m h2.1 (by omega) h3.1 (by omega), Bool.eq_iff_iff]
  simp
  omega
set_option maxHeartbeats 1000000 in
theorem note_any (x : GNote) (w : World) (h1 : 0 ≤ x.kind ∧ x.kind ≤ 255) (h2 : 0 ≤ x.n ∧ x.n ≤ 4294967295) (h3 : 0 ≤ x.m ∧ x.m ≤ 4294967295) :
    Calls Tryz.prog 154 #[.agg #[.int .u8 x.kind, .int .u32 x.n, .int .u32 x.m]] w fun e w' => e = .returned (.int .i64 (errB (noteOk x))) ∧ Below w.heap.size w w' := by
  obtain ⟨k, n, m⟩ := x
  simp only [] at *
  go_enter Tryz.func154, Tryz.ntmps154
  go_wp2_with (go_at_call 109; refine (told_any _ _).mono ?_; rintro e w' ⟨rfl, rfl⟩)
  all_goals
    go_ret
    first
    | exact ⟨ret_int (congrArg errB (by go_light; first | (simp_all [noteOk, ibeq]; done) | (simp_all [noteOk]; omega) | (simp_all [noteOk, or_zero]; done))), alloc_old w _⟩
    | exact ⟨ret_int (show errB false = _ from congrArg errB (by go_light; simp_all [noteOk])), alloc_old w _⟩
set_option maxHeartbeats 400000 in
theorem mayNote_any (x : GNote) (w : World) (h1 : 0 ≤ x.kind ∧ x.kind ≤ 255) (h2 : 0 ≤ x.n ∧ x.n ≤ 4294967295) (h3 : 0 ≤ x.m ∧ x.m ≤ 4294967295) :
    Calls Tryz.prog 153 #[.agg #[.int .u8 x.kind, .int .u32 x.n, .int .u32 x.m]] w fun e w' => e = .returned (.bool (!noteOk x)) ∧ Below w.heap.size w w' := by
  go_enter Tryz.func153, Tryz.ntmps153
  go_wp2_with (go_at_call 154; refine (note_any _ _ h1 h2 h3).mono ?_; rintro e w' ⟨rfl, hB⟩)
  go_ret
  exact ⟨ret_bool (by cases noteOk x <;> rfl), (alloc_old w _).trans (hB.mono (by simp))⟩
set_option maxHeartbeats 400000 in
theorem indexNote_any (v : Value) (l : List GNote) (w : World) (h : RowAt 3 NoteR w v l) :
    Calls Tryz.prog 182 #[v, .func (.func 153) #[] #[]] w fun e w' => (∃ n : Int, e = .returned (.int .i64 n) ∧ decide (0 ≤ n) = !l.all noteOk) ∧ Below w.heap.size w w' := by
  obtain ⟨p, cap, b, o, rfl, hcap, hmax, hp, hc⟩ := h
  have HC := Lib.hid hc; clear hc
  have HP := Lib.hid hp; clear hp
  go_enter Tryz.func182, Tryz.ntmps182
  go_wp2
  go_loopw [8] (fun i wr => ∃ k : Nat, k ≤ l.length ∧ i = .int .i64 k ∧ (l.take k).all noteOk = true ∧ Below w.heap.size w wr) (fun i _ => l.length - (intOf i).toNat)
  case atStart => exact ⟨0, Nat.zero_le _, rfl, rfl, Below.refl _ _⟩
  case round =>
    obtain ⟨k, hk, rfl, hall, hbel⟩ := hrel
    have HA := Lib.hid hall; clear hall
    have HB := Lib.hid hbel; clear hbel
    by_cases hlt : k < l.length
    · obtain rfl := HP.out (by omega)
      obtain ⟨g0, g1, g2, g3, g5, g6, g7⟩ := noteR_keeps _ _ _ _ _ HB.out (HC.out k hlt)
      have HCON := Lib.hid (mayNote_any l[k] wr g5 g6 g7)
      generalize hx : l[k] = x at *
      obtain ⟨xk, xn, xm⟩ := x
      simp only [] at *
      have HX := Lib.hid hx; clear hx
      go_wp2_with (go_at_call 153; refine HCON.out.mono ?_; rintro e w' ⟨rfl, hB⟩)
      · have hbad : (!noteOk ⟨xk, xn, xm⟩) = true := by assumption
        go_ret
        exact ⟨⟨k, rfl, by rw [all_bad hlt HX.out (by simpa using hbad)]; simp⟩, HB.out.trans (hB.mono HB.out.size)⟩
      · have hok : (!noteOk ⟨xk, xn, xm⟩) = false := by assumption
        go_roundw
        case rel => exact ⟨k + 1, by omega, by go_num, take_all_snoc hlt HX.out HA.out (by simpa using hok), HB.out.trans (hB.mono HB.out.size)⟩
        case measure => simp [intOf]; omega
    · go_wp2
      go_ret
      exact ⟨⟨-1, rfl, by rw [all_end hlt HA.out]; rfl⟩, HB.out⟩
set_option maxHeartbeats 400000 in
theorem containsNote_any (v : Value) (l : List GNote) (w : World) (h : RowAt 3 NoteR w v l) :
    Calls Tryz.prog 152 #[v, .func (.func 153) #[] #[]] w fun e w' => e = .returned (.bool (!l.all noteOk)) ∧ Below w.heap.size w w' := by
  have HCON := Lib.hid (indexNote_any v l w h); clear h
  go_enter Tryz.func152, Tryz.ntmps152
  go_wp2_with (go_at_call 182; refine HCON.out.mono ?_; rintro e w' ⟨⟨n, rfl, hn⟩, hB⟩; have HN := Lib.hid hn; clear hn)
  go_ret
  exact ⟨ret_bool HN.out, hB⟩
end Go.Proofs.YtoonkfhphbojcaaGreatDoor
