/- The walks of aediculeref34.Same and SameMoves, of any two rows. The walks of pack.Num and pack.Text. The walks of strings.Builder's copyCheck, WriteString and String at a builder. The walk of where.Put. The one table of the law's aliveness, in plain Lean. No program in sight. The walks of slices.Reverse at []byte, word.turned and word.PutHigh. -/
import Derived.Test.YtdjgkmpjhpnkeaaGreatDoorBd28
import Derived.Test.YtdjgkmpjhpnkeaaGreatDoorBd08
import Derived.Test.YtdjgkmpjhpnkeaaGreatDoorRows
import Derived.Lib.Builder
import Derived.Lib.AppendStr
import Derived.Lib.UnsafeStr
import Derived.Lib.Hide
import Derived.Laws.Externs
import Derived.RegionTactic
import Derived.OwnWalk
import Derived.Test.YtdjgkmpjhpnkeaaGreatDoorBd26
import Derived.Sort.WalkB12
import Derived.Deep.LoopGhost
import Derived.Lib.SlicesMore
import Derived.Lib.ConvBytes
namespace Go.Proofs.YtdjgkmpjhpnkeaaGreatDoor
open Go.RowKit
def SamePost {α : Type} (x y : α) (w : World) (e : Ending) (w' : World) : Prop := ∃ b : Bool, e = .returned (.bool b) ∧ (b = true ↔ x = y) ∧ Below w.heap.size w w'
theorem take_same {α : Type} {l m : List α} {i : Nat} (h : l.take i = m.take i) (hl : i < l.length) (hm : i < m.length) (he : l[i] = m[i]) : l.take (i + 1) = m.take (i + 1) := by
  rw [List.take_succ_eq_append_getElem hl, List.take_succ_eq_append_getElem hm, h, he]
theorem take_done {α : Type} {l m : List α} {i : Nat} (h : l.take i = m.take i) (hl : ¬ i < l.length) (hm : l.length = m.length) : l = m := by
  rw [List.take_of_length_le (by omega), List.take_of_length_le (by omega)] at h; exact h
set_option maxRecDepth 100000 in
set_option maxHeartbeats 2000000 in
theorem tabSame_two (v u : Value) (l m : List GTs) (w : World) (h1 : RowAt 5 TsR w v l) (h2 : RowAt 5 TsR w u m) :
    Calls Tryz.prog 30 #[v, u] w (SamePost l m w) := by
  obtain ⟨p1, c1, b1, o1, rfl, hc1, hm1, hp1, hr1⟩ := h1
  obtain ⟨p2, c2, b2, o2, rfl, hc2, hm2, hp2, hr2⟩ := h2
  have HP1 := Lib.hid hp1; clear hp1
  have HP2 := Lib.hid hp2; clear hp2
  have HR1 := Lib.hid hr1; clear hr1
  have HR2 := Lib.hid hr2; clear hr2
  by_cases q1 : l.length = m.length
  case neg =>
    have n1 : ((l.length : Int) == (m.length : Int)) = false := by simp; omega
    have n2 : ((l.length : Int) != (m.length : Int)) = true := by simp; omega
    have n3 : (l.length == m.length) = false := by simp; omega
    have n4 : (l.length != m.length) = true := by simp; omega
    have HN : Hid (¬ l = m) := fun e => q1 (by rw [e])
    clear q1
    go_enter Tryz.func30, Tryz.ntmps30
    go_wp2
    go_ret
    exact ⟨false, rfl, by simp [HN.out], Below.refl _ _⟩
  rw [← q1]
  have HQ := Lib.hid q1; clear q1
  go_enter Tryz.func30, Tryz.ntmps30
  go_wp2
  go_loopw [5] (fun v5 wr => ∃ i : Nat, i ≤ l.length ∧ v5 = .int .i64 i ∧ l.take i = m.take i ∧ Below w.heap.size w wr) (fun v5 _ => l.length - (intOf v5).toNat)
  case atStart => exact ⟨0, Nat.zero_le _, rfl, rfl, Below.refl _ _⟩
  case round =>
    obtain ⟨i, hi, rfl, htk, hbel⟩ := hrel
    have HTK := Lib.hid htk; clear htk
    have HB := Lib.hid hbel; clear hbel
    by_cases hlt : i < l.length
    · obtain rfl := HP1.out (by omega)
      obtain rfl := HP2.out (by have := HQ.out; omega)
      have hlt2 : i < m.length := by have := HQ.out; omega
      obtain ⟨g0, g1, g2, g3, g4, g5, -⟩ := tsR_keeps _ _ _ _ _ HB.out (HR1.out i hlt)
      obtain ⟨k0, k1, k2, k3, k4, k5, -⟩ := tsR_keeps _ _ _ _ _ HB.out (HR2.out i hlt2)
      have HTN : Hid (l[i] = m[i] → l.take (i + 1) = m.take (i + 1)) := take_same HTK.out hlt hlt2
      have HNE : Hid (¬ l[i] = m[i] → ¬ l = m) := fun h e => h (by simp only [e])
      generalize l[i] = x at g1 g2 g3 g4 g5 HTN HNE
      generalize m[i] = y at k1 k2 k3 k4 k5 HTN HNE
      obtain ⟨x1, x2, x3, x4, x5⟩ := x
      obtain ⟨y1, y2, y3, y4, y5⟩ := y
      simp only [] at g1 g2 g3 g4 g5 k1 k2 k3 k4 k5 HTN HNE
      clear hlt2
      by_cases e1 : x1 = y1
      case neg =>
        have n0 := toList_ne e1
        have HN := Lib.hid (HNE.out (by simp [e1]))
        clear HNE HTN
        go_wp2
        go_quiet (fail)
        go_wp2
        go_ret
        exact ⟨false, rfl, by simp [HN.out], below_drewN HB.out _⟩
      subst e1
      by_cases e2 : x2 = y2
      case neg =>
        have n0 := toList_ne e2
        have HN := Lib.hid (HNE.out (by simp [e2]))
        clear HNE HTN
        go_wp2
        go_quiet (fail)
        go_wp2
        go_ret
        exact ⟨false, rfl, by simp [HN.out], below_drewN HB.out _⟩
      subst e2
      by_cases e3 : x3 = y3
      case neg =>
        have n1 : (x3 == y3) = false := by simpa using e3
        have n2 : (x3 != y3) = true := by simpa using e3
        have HN := Lib.hid (HNE.out (by simp [e3]))
        clear HNE HTN e3
        go_wp2
        go_quiet (fail)
        go_wp2
        go_ret
        exact ⟨false, rfl, by simp [HN.out], below_drewN HB.out _⟩
      subst e3
      by_cases e4 : x4 = y4
      case neg =>
        have n1 : (x4 == y4) = false := by simpa using e4
        have n2 : (x4 != y4) = true := by simpa using e4
        have HN := Lib.hid (HNE.out (by simp [e4]))
        clear HNE HTN e4
        go_wp2
        go_quiet (fail)
        go_wp2
        go_ret
        exact ⟨false, rfl, by simp [HN.out], below_drewN HB.out _⟩
      subst e4
      by_cases e5 : x5 = y5
      case neg =>
        have n1 : (x5 == y5) = false := by simpa using e5
        have n2 : (x5 != y5) = true := by simpa using e5
        have HN := Lib.hid (HNE.out (by simp [e5]))
        clear HNE HTN e5
        go_wp2
        go_quiet (fail)
        go_wp2
        go_ret
        exact ⟨false, rfl, by simp [HN.out], below_drewN HB.out _⟩
      subst e5
      have HT2 := Lib.hid (HTN.out rfl)
      clear HNE HTN
      go_wp2
      go_quiet (fail)
      go_wp2
      go_roundw
      case rel => exact ⟨i + 1, by omega, by go_num, HT2.out, below_drewN HB.out _⟩
      case measure => simp [intOf]; omega
    · have HTE : Hid (l = m) := take_done HTK.out hlt HQ.out
      go_wp2
      go_ret
      exact ⟨true, rfl, by simp [HTE.out], HB.out⟩
end Go.Proofs.YtdjgkmpjhpnkeaaGreatDoor
namespace Go.Proofs.YtdjgkmpjhpnkeaaGreatDoor
open Go.RowKit
set_option maxHeartbeats 400000 in
set_option maxRecDepth 100000 in
theorem pnum1 (v : Int) (w : World) (h0 : 0 ≤ v) (h1 : v < 256) : Calls Tryz.prog 88 #[.int .u32 v, .int .i64 1] w fun e w' => e = .returned (.tuple #[.string (bsOf (leB 1 v)), .int .i64 0]) ∧ Below w.heap.size w w' := by
  have hz : (v / 256 != 0) = false := by simp; omega
  have HC := Lib.hid (wput1 v w h0 h1)
  go_enter Tryz.func88, Tryz.ntmps88
  go_wp2_with (go_at_call 181; refine HC.out.mono ?_; rintro e w' ⟨rfl, hB⟩)
  go_ret2
  exact ⟨rfl, hB⟩
set_option maxHeartbeats 400000 in
set_option maxRecDepth 100000 in
theorem pnum2 (v : Int) (w : World) (h0 : 0 ≤ v) (h1 : v < 65536) : Calls Tryz.prog 88 #[.int .u32 v, .int .i64 2] w fun e w' => e = .returned (.tuple #[.string (bsOf (leB 2 v)), .int .i64 0]) ∧ Below w.heap.size w w' := by
  have hz : (v / 65536 != 0) = false := by simp; omega
  have HC := Lib.hid (wput2 v w h0 h1)
  go_enter Tryz.func88, Tryz.ntmps88
  go_wp2_with (go_at_call 181; refine HC.out.mono ?_; rintro e w' ⟨rfl, hB⟩)
  go_ret2
  exact ⟨rfl, hB⟩
set_option maxHeartbeats 400000 in
set_option maxRecDepth 100000 in
theorem pnum4 (v : Int) (w : World) (h0 : 0 ≤ v) (h1 : v < 4294967296) : Calls Tryz.prog 88 #[.int .u32 v, .int .i64 4] w fun e w' => e = .returned (.tuple #[.string (bsOf (leB 4 v)), .int .i64 0]) ∧ Below w.heap.size w w' := by
  have HC := Lib.hid (wput4 v w h0 h1)
  go_enter Tryz.func88, Tryz.ntmps88
  go_wp2_with (go_at_call 181; refine HC.out.mono ?_; rintro e w' ⟨rfl, hB⟩)
  go_ret2
  exact ⟨rfl, hB⟩
set_option maxHeartbeats 400000 in
set_option maxRecDepth 100000 in
theorem ptext_any (s : ByteArray) (w : World) (hs : s.size < 65536) : Calls Tryz.prog 89 #[.string s] w fun e w' => e = .returned (.tuple #[.string (bsOf (encText s)), .int .i64 0]) ∧ Below w.heap.size w w' := by
  have HC := Lib.hid (pnum2 s.size w (by omega) (by omega))
  have hmin : min (s.size : Int) 65536 = s.size := by omega
  go_enter Tryz.func89, Tryz.ntmps89
  go_wp2_with fail
  refine HC.out.mono ?_
  rintro e w' ⟨rfl, hB⟩
  clear hmin
  have hcat : ¬ 9223372036854775807 < (bsOf (leB 2 s.size)).size + s.size := by rw [bsOf_size, leB_length]; omega
  go_wp2
  go_ret2
  exact ⟨by rw [bsOf_app]; rfl, hB⟩
end Go.Proofs.YtdjgkmpjhpnkeaaGreatDoor
namespace Go.Proofs.YtdjgkmpjhpnkeaaGreatDoor
open Go.RowKit
theorem size_builder : (Tryz.prog.info? 156).map (·.size) = some 2 := by kernel_rfl
theorem lies_builder : liesAt Tryz.prog Tryz.prog.depth 156 (2 / Tryz.prog.cellsOf 156) 0 156 1 = true := by kernel_rfl
abbrev WrAt (B b : Nat) (p : Value) (l : BL) (w : World) : Prop := Lib.BuilderAt 156 5 B b p (Lib.byteCells l) w
/-- a writer that holds these bytes -/
def IsWr (B b : Nat) (l : BL) (w : World) : Prop := WrAt B b (.pointer none) l w ∨ WrAt B b (.pointer (some ⟨b, 0, none⟩)) l w
/-- a block that is no row of bytes -/
def NB (w : World) (g : Nat) : Prop := ∀ cur fr, w.heap[g]? ≠ some (.cells cur 5 fr)
/-- all blocks but b and rows of bytes are as they were -/
structure KN (b : Nat) (w w' : World) : Prop where
  size : w.heap.size ≤ w'.heap.size
  block : ∀ g, g < w.heap.size → g ≠ b → NB w g → w'.heap[g]? = w.heap[g]?
theorem KN.refl (b : Nat) (w : World) : KN b w w := ⟨Nat.le_refl _, fun _ _ _ _ => rfl⟩
theorem KN.trans {b : Nat} {w w' w'' : World} (h : KN b w w') (k : KN b w' w'') : KN b w w'' :=
  ⟨Nat.le_trans h.size k.size, fun g hg hb hn => by
    have h1 := h.block g hg hb hn
    rw [k.block g (Nat.lt_of_lt_of_le hg h.size) hb (fun cur fr => by rw [h1]; exact hn cur fr), h1]⟩
theorem KN.of_below {b : Nat} {w w' : World} (h : Below w.heap.size w w') : KN b w w' := ⟨h.size, fun g hg _ _ => h.block g hg⟩
/-- a block of this type with these cells -/
def BX (b : Nat) (w : World) (g : Nat) (t : TypeId) (cs : Array Value) : Prop := g ≠ b ∧ t ≠ 5 ∧ w.heap[g]? = some (.cells cs t (0, 0))
theorem BX.lt {b : Nat} {w : World} {g : Nat} {t : TypeId} {cs : Array Value} (h : BX b w g t cs) : g < w.heap.size := by
  rcases Nat.lt_or_ge g w.heap.size with h' | h'
  · exact h'
  · have := h.2.2; simp [Array.getElem?_eq_none h'] at this
theorem BX.keep {b : Nat} {w w' : World} {g : Nat} {t : TypeId} {cs : Array Value} (h : BX b w g t cs) (k : KN b w w') : BX b w' g t cs := by
  refine ⟨h.1, h.2.1, ?_⟩
  rw [k.block g h.lt h.1 (fun cur fr e => by have := h.2.2; rw [this] at e; injection e with e; injection e with _ e2 _; exact h.2.1 e2)]
  exact h.2.2
theorem BX.cell {b : Nat} {w : World} {g : Nat} {t : TypeId} {cs : Array Value} (h : BX b w g t cs) (j : Nat) : w.cell? ⟨g, j, none⟩ = cs[j]? := Lib.cell_of_heap h.2.2 j
theorem BX.new {b : Nat} {w : World} {t : TypeId} {cs : Array Value} (hb : b < w.heap.size) (ht : t ≠ 5) : BX b (w.alloc (.cells cs t)) w.heap.size t cs := ⟨by omega, ht, heap_alloc_new w _⟩
set_option maxHeartbeats 1000000 in
set_option maxRecDepth 100000 in
theorem copyCheck_used (b : Nat) (w : World) (h0 : w.cell? ⟨b, 0, none⟩ = some (.pointer (some ⟨b, 0, none⟩))) :
    Calls Tryz.prog 180 #[.pointer (some ⟨b, 0, none⟩)] w fun e w' => e = .returned (.tuple #[]) ∧ w' = w := by
  obtain ⟨j, hj, _⟩ := Option.map_eq_some_iff.1 size_builder
  go_enter Tryz.func180, Tryz.ntmps180
  go_wp2
  rw [Lib.run_neq_ptr_same w _ Tryz.underlying154 hj]
  go_wp2
  go_end0
  exact ⟨rfl, rfl⟩
set_option maxHeartbeats 1000000 in
set_option maxRecDepth 100000 in
theorem copyCheck_fresh (b : Nat) (w : World) (h0 : w.cell? ⟨b, 0, none⟩ = some (.pointer none)) (hsh : w.shape? b = some (156, 2)) (hfz : w.frozen? ⟨b, 0, none⟩ = false) :
    Calls Tryz.prog 180 #[.pointer (some ⟨b, 0, none⟩)] w fun e w' => e = .returned (.tuple #[]) ∧ w' = w.setCell ⟨b, 0, none⟩ (.pointer (some ⟨b, 0, none⟩)) := by
  obtain ⟨j, hj, hjs⟩ := Option.map_eq_some_iff.1 size_builder
  go_enter Tryz.func180, Tryz.ntmps180
  go_wp2
  rw [Lib.run_to_unsafe w ⟨b, 0, none⟩ Tryz.underlying154 Tryz.underlying343 hj (by rw [hjs]; decide) hsh (Nat.zero_lt_succ 1)]
  simp only [Result.andThen]
  rw [Oper.upon_value]
  go_wp2
  rw [run_callFunc_extern Tryz.func248 (by kernel_rfl) (by kernel_rfl) (by kernel_rfl) (e := Extern.AbiNoEscape.same) (by kernel_rfl)]
  rw [Lib.run_noEscape]
  simp only [Result.andThen]
  rw [Oper.upon_value]
  go_wp2
  rw [Lib.run_from_unsafe w ⟨b, 0, none⟩ Tryz.underlying343 Tryz.underlying154 hj hsh lies_builder]
  simp only [Result.andThen]
  rw [Oper.upon_value]
  go_wp2
  go_end0
  exact ⟨rfl, rfl⟩
theorem copyCheck_any (B b : Nat) (l : BL) (w : World) (h : IsWr B b l w) :
    Calls Tryz.prog 180 #[.pointer (some ⟨b, 0, none⟩)] w fun e w' => e = .returned (.tuple #[]) ∧ (WrAt B b (.pointer (some ⟨b, 0, none⟩)) l w' ∧ Below B w w' ∧ KN b w w') := by
  rcases h with h | h
  · refine (copyCheck_fresh b w h.cell0 h.shape h.frozen0).mono ?_
    rintro e w' ⟨rfl, rfl⟩
    exact ⟨rfl, h.used _, (Below.refl B w).setCell (p := ⟨b, 0, none⟩) h.1 _, by simp, fun g _ hb _ => Below.heap_setCell _ _ _ _ (by simpa using hb)⟩
  · refine (copyCheck_used b w h.cell0).mono ?_
    rintro e w' ⟨rfl, rfl⟩
    exact ⟨rfl, h, Below.refl B _, KN.refl _ _⟩
/-- behind a call of the writer's -/
def WPost (B b : Nat) (l : BL) (w w' : World) : Prop := IsWr B b l w' ∧ Below B w w' ∧ KN b w w'
theorem IsWr.keep {B b : Nat} {l : BL} {w w' : World} (h : IsWr B b l w) (k : Below w.heap.size w w') : IsWr B b l w' := by
  rcases h with ⟨h0, v, h1, h2, h3⟩ | ⟨h0, v, h1, h2, h3⟩
  · have hlt : b < w.heap.size := Lib.BuilderAt.lt ⟨h0, v, h1, h2, h3⟩
    exact .inl ⟨h0, v, by rw [k.block b hlt]; exact h1, by
      refine ⟨h2.1, ?_⟩
      rcases h2.2 with hn | ⟨g, cap, cur, rfl, hb, hg, rest⟩
      · exact .inl hn
      · exact .inr ⟨g, cap, cur, rfl, hb, by rw [k.block g (Array.getElem?_eq_some_iff.1 hg).1]; exact hg, rest⟩, h3⟩
  · have hlt : b < w.heap.size := Lib.BuilderAt.lt ⟨h0, v, h1, h2, h3⟩
    exact .inr ⟨h0, v, by rw [k.block b hlt]; exact h1, by
      refine ⟨h2.1, ?_⟩
      rcases h2.2 with hn | ⟨g, cap, cur, rfl, hb, hg, rest⟩
      · exact .inl hn
      · exact .inr ⟨g, cap, cur, rfl, hb, by rw [k.block g (Array.getElem?_eq_some_iff.1 hg).1]; exact hg, rest⟩, h3⟩
theorem IsWr.lt {B b : Nat} {l : BL} {w : World} (h : IsWr B b l w) : b < w.heap.size := h.elim Lib.BuilderAt.lt Lib.BuilderAt.lt
theorem IsWr.le {B b : Nat} {l : BL} {w : World} (h : IsWr B b l w) : B ≤ b := h.elim (·.1) (·.1)
theorem WPost.trans {B b : Nat} {l l' : BL} {w w' w'' : World} (h : WPost B b l w w') (k : WPost B b l' w' w'') : WPost B b l' w w'' := ⟨k.1, h.2.1.trans k.2.1, h.2.2.trans k.2.2⟩
theorem WPost.keep {B b : Nat} {l : BL} {w w' w'' : World} (h : WPost B b l w w') (k : Below w'.heap.size w' w'') (hB : B ≤ w.heap.size) : WPost B b l w w'' := ⟨h.1.keep k, h.2.1.trans (k.mono (Nat.le_trans hB h.2.1.size)), h.2.2.trans (KN.of_below k)⟩
theorem strCells_bytes (s : ByteArray) : Lib.strCells s = Lib.byteCells s.data.toList := by
  simp [Lib.strCells, Lib.byteCells]
set_option maxHeartbeats 2000000 in
set_option maxRecDepth 100000 in
theorem writeString_any (B b : Nat) (l : BL) (s : ByteArray) (w : World) (h : IsWr B b l w) (hlen : l.length + s.size ≤ 140737488355328) (hBw : B ≤ w.heap.size) :
    Calls Tryz.prog 87 #[.pointer (some ⟨b, 0, none⟩), .string s] w fun e w' => e = .returned (.tuple #[.int .i64 s.size, .nilIface]) ∧ WPost B b (l ++ s.data.toList) w w' := by
  obtain ⟨i0, hi, hz0, hz1, hz2⟩ := info_parts info_byte
  have HI := Lib.hid (And.intro hi (And.intro hz0 (And.intro hz1 hz2)))
  clear hi hz0 hz1 hz2
  have HC := Lib.hid (copyCheck_any B b l w h); clear h
  go_enter Tryz.func87, Tryz.ntmps87
  go_wp2_with (go_at_call 180; refine HC.out.mono ?_)
  rintro e w1 ⟨rfl, h1, hb1, hkn1⟩
  obtain ⟨hB, v, hbk, hown, hne⟩ := h1
  have HKN1 := Lib.hid hkn1; clear hkn1
  have c0 : w1.cell? ⟨b, 0, none⟩ = some (.pointer (some ⟨b, 0, none⟩)) := by rw [Lib.cell_of_heap hbk]; rfl
  have c1 : w1.cell? ⟨b, 1, none⟩ = some v := by rw [Lib.cell_of_heap hbk]; rfl
  rw [Lib.byteCells_length] at hown
  have HOWN := Lib.hid hown
  have HNE := Lib.hid hne
  have HBK := Lib.hid hbk
  have HB1 := Lib.hid hb1
  clear hown hne hbk hb1
  go_wp2_with (at_builtin; refine Lib.wpList_append_own_string _ rfl _ _ 130 9 rfl B 5 i0 Tryz.underlying130 Tryz.underlying9 HI.out.1 HI.out.2.1 HI.out.2.2.1 HI.out.2.2.2 _ _ _ rfl HOWN.out s rfl ?c3 ?c4 ?c5 ?_)
  case c3 => unfold maxLen; omega
  case c4 => omega
  case c5 => have := HB1.out.size; omega
  intro v' w2 hown' hgrow _
  have hlt : b < w1.heap.size := by
    rcases Nat.lt_or_ge b w1.heap.size with h' | h'
    · exact h'
    · have hbk := HBK.out; simp [Array.getElem?_eq_none h'] at hbk
  have hb2 : w2.heap[b]? = some (.cells #[.pointer (some ⟨b, 0, none⟩), v] 156 (0, 0)) := by
    rw [hgrow.block b hlt (fun e => HNE.out e.symm)]
    exact HBK.out
  have d0 : w2.cell? ⟨b, 0, none⟩ = some (.pointer (some ⟨b, 0, none⟩)) := by rw [Lib.cell_of_heap hb2]; rfl
  have d1 : w2.cell? ⟨b, 1, none⟩ = some v := by rw [Lib.cell_of_heap hb2]; rfl
  have f1 : w2.frozen? ⟨b, 1, none⟩ = false := Lib.frozen_of_heap hb2 1
  obtain ⟨ao, n', cap, rfl⟩ : ∃ ao n' cap, v' = .slice ao n' cap := by
    rcases hown'.2 with ⟨hv, _⟩ | ⟨g, cap, cur, hv, _⟩
    · exact ⟨_, _, _, hv⟩
    · exact ⟨_, _, _, hv⟩
  have HE1 := Lib.hid (Lib.BuilderAt.put (T := 156) (e := 5) hB hb2 (bs' := Lib.byteCells (l ++ s.data.toList)) (by rw [strCells_bytes] at hown'; simpa [Lib.byteCells] using hown') (by decide))
  have HE2 := Lib.hid ((HB1.out.grown hgrow (by have := HB1.out.size; omega) (fun k hk => (HOWN.out.lt k hk).1)).setCell (p := ⟨b, 1, none⟩) hB (.slice ao n' cap))
  have HKN : Hid (KN b w (w2.setCell ⟨b, 1, none⟩ (.slice ao n' cap))) := by
    refine HKN1.out.trans ⟨by simpa using hgrow.size, fun g hg hgb hn => ?_⟩
    rw [Below.heap_setCell _ _ _ _ (by simpa using hgb), hgrow.block g hg (fun e => ?_)]
    rcases HOWN.out.2 with ⟨hv, _⟩ | ⟨g', cap', cur, hv, _, hg', _⟩
    · rw [hv] at e; cases e
    · rw [hv] at e; cases e; exact hn _ _ hg'
  clear hown' hgrow hb2 c0 c1
  go_wp2
  go_ret2
  exact ⟨rfl, .inr HE1.out, HE2.out, HKN.out⟩
set_option maxHeartbeats 1000000 in
set_option maxRecDepth 100000 in
theorem string_any (B b : Nat) (l : BL) (w : World) (h : IsWr B b l w) (h0 : l ≠ []) :
    Calls Tryz.prog 90 #[.pointer (some ⟨b, 0, none⟩)] w fun e w' => e = .returned (.string (bsOf l)) ∧ Below B w w' := by
  obtain ⟨p, hB, v, hbk, hown, hne⟩ : ∃ p, WrAt B b p l w := by
    rcases h with h | h
    · exact ⟨_, h⟩
    · exact ⟨_, h⟩
  have hl0 : l.length ≠ 0 := by simpa using h0
  rw [Lib.byteCells_length] at hown
  obtain ⟨g, cap, cur, rfl, hbg, hg, hnc, hcm, hcs, htake⟩ : ∃ g cap cur, v = .slice (some ⟨g, 0, none⟩) l.length cap ∧ B ≤ g ∧ w.heap[g]? = some (.cells cur 5 (0, 0)) ∧ l.length ≤ cap ∧ cap ≤ maxLen ∧ cur.size = cap * 1 ∧ cur.toList.take (l.length * 1) = Lib.byteCells l := by
    rcases hown.2 with ⟨_, hz⟩ | ⟨g, cap, cur, hv, r⟩
    · exact absurd hz hl0
    · exact ⟨g, cap, cur, hv, r⟩
  have c1 : w.drew.cell? ⟨b, 1, none⟩ = some (.slice (some ⟨g, 0, none⟩) l.length cap) := by
    have : w.drew.heap[b]? = some (.cells #[p, .slice (some ⟨g, 0, none⟩) l.length cap] 156 (0, 0)) := hbk
    rw [Lib.cell_of_heap this]; rfl
  have hSD : (Builtin.unsafeSliceData_ #[130] 277 #[.slice (some ⟨g, 0, none⟩) l.length cap]).run Tryz.prog w.drew = .ok (.pointer (some ⟨g, 0, none⟩)) w.drew :=
    Lib.run_unsafeSliceData_row _ _ _ _ _ _ (by omega)
  have hUS : (Builtin.unsafeString_ #[277, 3] 9 #[.pointer (some ⟨g, 0, none⟩), .int .i64 l.length]).run Tryz.prog w.drew = .ok (.string (bsOf l)) (w.drew.freeze ⟨g, 0, none⟩ l.length) := by
    refine Lib.run_unsafeString_row w.drew 277 3 9 5 Tryz.underlying277 (by kernel_rfl) g cur.size (by have hg' : w.drew.heap[g]? = some (.cells cur 5 (0, 0)) := hg; simp [World.shape?, hg']) l h0 (by omega) (by unfold maxLen at hcm; omega) ?_
    intro j x hx
    have := hown.cells (g := g) rfl j (.int .u8 x.toNat) (by simp [Lib.byteCells, hx])
    exact this
  have HH := Lib.hid hbg
  clear hown hne hbk hg htake hcs hcm hl0 h0 h
  go_enter Tryz.func90, Tryz.ntmps90
  go_wp2
  go_region
  all_goals (go_wp2; go_ret; exact ⟨rfl, Lib.below_freeze (Below.drew (Below.refl B w)) (p := ⟨g, 0, none⟩) HH.out _⟩)
end Go.Proofs.YtdjgkmpjhpnkeaaGreatDoor
namespace Go.Proofs.YtdjgkmpjhpnkeaaGreatDoor
open Go.RowKit
set_option maxHeartbeats 400000 in
theorem lay_any (B b : Nat) (l : BL) (s : ByteArray) (c : Int) (w : World) (h : IsWr B b l w) (hlen : l.length + s.size ≤ 140737488355328) (hBw : B ≤ w.heap.size) :
    Calls Tryz.prog 86 #[.string s, .int .i64 c, .pointer (some ⟨b, 0, none⟩)] w fun e w' => e = .returned (.tuple #[]) ∧ WPost B b (l ++ s.data.toList) w w' := by
  have HC := Lib.hid (writeString_any B b l s w h hlen hBw)
  clear h
  go_enter Tryz.func86, Tryz.ntmps86
  go_wp2_with fail
  refine HC.out.mono ?_
  rintro e w1 ⟨rfl, hw⟩
  have HW := Lib.hid hw; clear hw HC
  go_wp2
  go_end0
  exact ⟨rfl, HW.out⟩
theorem encTx_len (s : ByteArray) : (encText s).length = 2 + s.size := by simp [encText, leB_length]
theorem encTs_len {s : GTs} (h1 : s.name.size ≤ 32) (h2 : s.object.size ≤ 32) : (encTs s).length ≤ 75 := by
  simp only [encTs, encText, List.length_append, leB_length, len_list]; omega
theorem encTab_le {t : List GTs} (h : ∀ s ∈ t, s.name.size ≤ 32 ∧ s.object.size ≤ 32) : (t.flatMap encTs).length ≤ t.length * 75 := by
  induction t with
  | nil => simp
  | cons a r ih =>
    have h1 := encTs_len (h a (by simp)).1 (h a (by simp)).2
    have h2 := ih fun s hs => h s (List.mem_cons_of_mem a hs)
    rw [List.flatMap_cons, List.length_append, List.length_cons, Nat.succ_mul]; omega
theorem isName_sz {s : ByteArray} (h : isName s = true) : s.size ≤ 32 := by
  simp only [isName, Bool.and_eq_true, decide_eq_true_eq] at h
  exact h.2
/-- what Put answers -/
def putT (t : List GTs) : ByteArray × Int := if tabOk t then (bsOf (encTab t), 0) else (⟨#[]⟩, 2)
theorem bs_data (l : BL) : (bsOf l).data.toList = l := rfl
set_option maxRecDepth 100000 in
set_option maxHeartbeats 4000000 in
theorem whPut_ok (v : Value) (t : List GTs) (w : World) (h : TabAt w v t) (hok : tabOk t = true) :
    Calls Tryz.prog 28 #[v] w fun e w' => e = .returned (.tuple #[.string (bsOf (encTab t)), .int .i64 0]) ∧ Below w.heap.size w w' := by
  have HCK := Lib.hid (whCheck_any v t w h)
  rw [hok] at HCK
  simp only [errB, if_true] at HCK
  have HT := Lib.hid h
  have HAT := Lib.hid (tabGo_at (tabOk_go hok))
  have hlen : t.length ≤ 1024 := by simp only [tabOk, Bool.and_eq_true, decide_eq_true_eq] at hok; exact hok.2
  obtain ⟨p, cap, b0, o, rfl, hcap, hmax, -, -⟩ := h
  clear hok
  go_enter Tryz.func28, Tryz.ntmps28
  go_wp2_with fail
  refine HCK.out.mono ?_
  rintro e w1 ⟨rfl, hB1⟩
  have HB1 := Lib.hid hB1
  clear hB1 HCK
  go_upto_region 5 with fail
  have HW0 : Hid (IsWr w1.heap.size w1.heap.size [] (w1.alloc (.cells #[.pointer none, .slice none 0 0] 156))) := Lib.fresh_isBuilder _ _ w1
  have HB2 : Hid (Below w1.heap.size w1 (w1.alloc (.cells #[.pointer none, .slice none 0 0] 156))) := alloc_old _ _
  generalize w1.alloc (.cells #[.pointer none, .slice none 0 0] 156) = w2 at HW0 HB2 ⊢
  generalize hbe : w1.heap.size = b at *
  have HBE := Lib.hid hbe; clear hbe
  have hB0 : b ≤ w2.heap.size := by have := HB2.out.size; rw [HBE.out] at this; exact this
  have HWB : Hid (w.heap.size ≤ b) := by have := HB1.out.size; rw [HBE.out] at this; exact this
  go_wp2_with fail
  refine (writeString_any b b [] ⟨#[65, 83, 84, 49]⟩ w2 HW0.out (by simp; decide) hB0).mono ?_
  rintro e w3 ⟨rfl, hw3⟩
  have HW : Hid (WPost b b magicT w2 w3) := hw3
  clear hw3 HW0
  have HK : Hid (∀ wk l, WPost b b l w2 wk → Below w.heap.size w wk) := fun wk l h => HB1.out.trans ((HB2.out.trans h.2.1).mono HWB.out)
  go_wp2_with fail
  refine (pnum2 (t.length : Int) w3 (by omega) (by omega)).mono ?_
  rintro e w4 ⟨rfl, hb⟩
  replace HW := Lib.hid (HW.out.keep hb hB0)
  clear hb
  go_wp2_with fail
  refine (lay_any b b magicT (bsOf (leB 2 t.length)) 0 w4 HW.out.1 (by rw [bsOf_size, leB_length]; decide) (Nat.le_trans hB0 HW.out.2.1.size)).mono ?_
  rintro e w5 ⟨rfl, hw⟩
  rw [bs_data] at hw
  replace HW := Lib.hid (HW.out.trans hw)
  clear hw
  have HW1 : Hid (WPost b b ((magicT ++ leB 2 t.length) ++ (t.take 0).flatMap encTs) w2 w5) := by simpa [Hid] using HW.out
  have HL1 : Hid ((magicT ++ leB 2 t.length).length ≤ 6) := by rw [Hid, List.length_append, leB_length]; decide
  have HE : Hid ((magicT ++ leB 2 t.length) ++ t.flatMap encTs = encTab t) := by simp only [Hid, encTab]
  generalize magicT ++ leB 2 t.length = l1 at HW1 HL1 HE
  clear HW
  go_wp2
  go_loopw [26] (fun v26 wr => ∃ i : Nat, i ≤ t.length ∧ v26 = .int .i64 i ∧ WPost b b (l1 ++ (t.take i).flatMap encTs) w2 wr) (fun v26 _ => t.length - (intOf v26).toNat)
  case atStart => exact ⟨0, Nat.zero_le _, rfl, HW1.out⟩
  case round =>
    obtain ⟨i, hi, rfl, hw⟩ := hrel
    clear HW1
    have HW := Lib.hid hw; clear hw
    have HBW := Lib.hid (HK.out _ _ HW.out)
    by_cases hlt : i < t.length
    · obtain ⟨p', cap', b', o', e', -, -, q1, q2⟩ := (HT.out).keep' HBW.out
      injection e' with e1 e2 e3
      subst e1; subst e3; clear e2
      obtain rfl := q1 (by omega)
      obtain ⟨g0, g1, g2, g3, g4, g5, ⟨r1, r2, r3, -, -⟩⟩ := q2 i hlt
      clear q1 q2
      obtain ⟨a1, a2, a3, a4, a5, a6, a7, a8⟩ := HAT.out i hlt
      have n1 := isName_sz a5
      have n2 := isName_sz a6
      have HTK : Hid (t.take (i + 1) = t.take i ++ [t[i]]) := List.take_succ_eq_append_getElem hlt
      have HL0 : Hid ((l1 ++ (t.take i).flatMap encTs).length ≤ 100000) := by
        have h1 := encTab_le (t := t.take i) fun s hs => by
          obtain ⟨k, hk, rfl⟩ := List.mem_iff_getElem.1 (List.mem_of_mem_take hs)
          exact ⟨isName_sz (HAT.out k hk).2.2.2.2.1, isName_sz (HAT.out k hk).2.2.2.2.2.1⟩
        have h2 : (t.take i).length ≤ 1024 := by simp; omega
        have h3 := HL1.out
        rw [Hid, List.length_append]; omega
      have HEN : Hid (l1 ++ (t.take (i + 1)).flatMap encTs = (l1 ++ (t.take i).flatMap encTs) ++ encTs t[i]) := by rw [Hid, HTK.out, List.flatMap_append, List.flatMap_singleton, List.append_assoc]
      generalize t[i] = x at g1 g2 g3 g4 g5 r1 r2 r3 a1 a2 a3 a4 a7 a8 n1 n2 HEN
      obtain ⟨xn, xo, xa, xs, xk⟩ := x
      simp only [] at g1 g2 g3 g4 g5 r1 r2 r3 a1 a2 a3 a4 a7 a8 n1 n2 HEN
      generalize l1 ++ (t.take i).flatMap encTs = l0 at HW HL0 HEN
      clear a5 a6 HTK HL1 HE
      go_upto_region 11 with fail
      have HX : Hid (BX b (wr.alloc (.cells #[.string xn, .string xo, .int .u32 xa, .int .u32 xs, .int .u8 xk] 56)) wr.heap.size 56 #[.string xn, .string xo, .int .u32 xa, .int .u32 xs, .int .u8 xk]) := BX.new HW.out.1.lt (by decide)
      replace HW := Lib.hid (HW.out.keep (alloc_old wr (.cells #[.string xn, .string xo, .int .u32 xa, .int .u32 xs, .int .u8 xk] 56)) hB0)
      generalize wr.alloc (.cells #[.string xn, .string xo, .int .u32 xa, .int .u32 xs, .int .u8 xk] 56) = wk at HX HW ⊢
      generalize wr.heap.size = xb at HX ⊢
      have c : wk.cell? ⟨xb, 0, none⟩ = some (.string xn) := HX.out.cell 0
      go_wp2_with fail
      refine (ptext_any xn _ (by omega)).mono ?_
      rintro e wa ⟨rfl, hb⟩
      replace HX := Lib.hid (HX.out.keep (KN.of_below hb))
      replace HW := Lib.hid (HW.out.keep hb hB0)
      clear hb c wk
      go_wp2_with fail
      refine (lay_any b b (l0) (bsOf (encText xn)) 0 wa HW.out.1 (by have := HL0.out; rw [bsOf_size]; simp only [encTx_len]; omega) (Nat.le_trans hB0 HW.out.2.1.size)).mono ?_
      rintro e wk ⟨rfl, hw⟩
      rw [bs_data] at hw
      replace HX := Lib.hid (HX.out.keep hw.2.2)
      replace HW := Lib.hid (HW.out.trans hw)
      clear hw
      have c : wk.cell? ⟨xb, 1, none⟩ = some (.string xo) := HX.out.cell 1
      go_wp2_with fail
      refine (ptext_any xo _ (by omega)).mono ?_
      rintro e wa ⟨rfl, hb⟩
      replace HX := Lib.hid (HX.out.keep (KN.of_below hb))
      replace HW := Lib.hid (HW.out.keep hb hB0)
      clear hb c wk
      go_wp2_with fail
      refine (lay_any b b (l0 ++ encText xn) (bsOf (encText xo)) 0 wa HW.out.1 (by have := HL0.out; rw [bsOf_size]; simp only [List.length_append, encTx_len]; omega) (Nat.le_trans hB0 HW.out.2.1.size)).mono ?_
      rintro e wk ⟨rfl, hw⟩
      rw [bs_data] at hw
      replace HX := Lib.hid (HX.out.keep hw.2.2)
      replace HW := Lib.hid (HW.out.trans hw)
      clear hw
      have c : wk.cell? ⟨xb, 2, none⟩ = some (.int .u32 xa) := HX.out.cell 2
      go_wp2_with fail
      refine (pnum4 xa _ (by omega) (by omega)).mono ?_
      rintro e wa ⟨rfl, hb⟩
      replace HX := Lib.hid (HX.out.keep (KN.of_below hb))
      replace HW := Lib.hid (HW.out.keep hb hB0)
      clear hb c wk
      go_wp2_with fail
      refine (lay_any b b (l0 ++ encText xn ++ encText xo) (bsOf (leB 4 xa)) 0 wa HW.out.1 (by have := HL0.out; rw [bsOf_size]; simp only [List.length_append, encTx_len, leB_length]; omega) (Nat.le_trans hB0 HW.out.2.1.size)).mono ?_
      rintro e wk ⟨rfl, hw⟩
      rw [bs_data] at hw
      replace HX := Lib.hid (HX.out.keep hw.2.2)
      replace HW := Lib.hid (HW.out.trans hw)
      clear hw
      have c : wk.cell? ⟨xb, 3, none⟩ = some (.int .u32 xs) := HX.out.cell 3
      go_wp2_with fail
      refine (pnum2 xs _ (by omega) (by omega)).mono ?_
      rintro e wa ⟨rfl, hb⟩
      replace HX := Lib.hid (HX.out.keep (KN.of_below hb))
      replace HW := Lib.hid (HW.out.keep hb hB0)
      clear hb c wk
      go_wp2_with fail
      refine (lay_any b b (l0 ++ encText xn ++ encText xo ++ leB 4 xa) (bsOf (leB 2 xs)) 0 wa HW.out.1 (by have := HL0.out; rw [bsOf_size]; simp only [List.length_append, encTx_len, leB_length]; omega) (Nat.le_trans hB0 HW.out.2.1.size)).mono ?_
      rintro e wk ⟨rfl, hw⟩
      rw [bs_data] at hw
      replace HX := Lib.hid (HX.out.keep hw.2.2)
      replace HW := Lib.hid (HW.out.trans hw)
      clear hw
      have c : wk.cell? ⟨xb, 4, none⟩ = some (.int .u8 xk) := HX.out.cell 4
      go_wp2_with fail
      refine (pnum1 xk _ (by omega) (by omega)).mono ?_
      rintro e wa ⟨rfl, hb⟩
      replace HX := Lib.hid (HX.out.keep (KN.of_below hb))
      replace HW := Lib.hid (HW.out.keep hb hB0)
      clear hb c wk
      go_wp2_with fail
      refine (lay_any b b (l0 ++ encText xn ++ encText xo ++ leB 4 xa ++ leB 2 xs) (bsOf (leB 1 xk)) 0 wa HW.out.1 (by have := HL0.out; rw [bsOf_size]; simp only [List.length_append, encTx_len, leB_length]; omega) (Nat.le_trans hB0 HW.out.2.1.size)).mono ?_
      rintro e wk ⟨rfl, hw⟩
      rw [bs_data] at hw
      replace HX := Lib.hid (HX.out.keep hw.2.2)
      replace HW := Lib.hid (HW.out.trans hw)
      clear hw
      have HW2 : Hid (WPost b b (l1 ++ (t.take (i + 1)).flatMap encTs) w2 wk) := by rw [HEN.out, Hid]; simpa only [encTs, List.append_assoc] using HW.out
      clear HW HX
      go_wp2
      go_roundw
      case rel => exact ⟨i + 1, by omega, by go_num, HW2.out⟩
      case measure => simp [intOf]; omega
    · have HF : Hid (l1 ++ (t.take i).flatMap encTs = encTab t) := by rw [Hid, List.take_of_length_le (by omega)]; exact HE.out
      have hw := HW.out
      rw [HF.out] at hw
      have HST := Lib.hid (string_any b b _ wr hw.1 (by simp [encTab, magicT]))
      clear hw
      go_wp2_with fail
      refine HST.out.mono ?_
      rintro e w9 ⟨rfl, hB9⟩
      have HB9 := Lib.hid hB9; clear hB9 HST
      go_wp2
      go_ret2
      exact ⟨rfl, HBW.out.trans (HB9.out.mono HWB.out)⟩
theorem whPut_any (v : Value) (t : List GTs) (w : World) (h : TabAt w v t) :
    Calls Tryz.prog 28 #[v] w fun e w' => e = .returned (.tuple #[.string (putT t).1, .int .i64 (putT t).2]) ∧ Below w.heap.size w w' := by
  by_cases hm : tabOk t = true
  · have := whPut_ok v t w h hm
    rw [show putT t = (bsOf (encTab t), 0) by simp [putT, hm]]
    exact this
  · have hm' : tabOk t = false := by simpa using hm
    have HV : Hid (putT t = (⟨#[]⟩, 2)) := by simp [Hid, putT, hm']
    have HCK := Lib.hid (whCheck_any v t w h)
    rw [hm'] at HCK
    simp only [errB, Bool.false_eq_true, if_false] at HCK
    obtain ⟨p, cap, b0, o, rfl, -⟩ := h
    clear hm hm'
    go_enter Tryz.func28, Tryz.ntmps28
    go_wp2_with fail
    refine HCK.out.mono ?_
    rintro e w1 ⟨rfl, hB1⟩
    clear HCK
    go_wp2
    go_ret2
    rw [HV.out]
    exact ⟨rfl, hB1⟩
end Go.Proofs.YtdjgkmpjhpnkeaaGreatDoor
namespace Go.Proofs.YtdjgkmpjhpnkeaaGreatDoor
open Go.RowKit
def ts34 : GTs := ⟨⟨#[109, 97, 105, 110]⟩, ⟨#[111]⟩, 256, 24, 1⟩
def tab34 : List GTs := [ts34]
def bytes34 : ByteArray := ⟨#[65, 83, 84, 49, 1, 0, 4, 0, 109, 97, 105, 110, 1, 0, 111, 0, 1, 0, 0, 24, 0, 1]⟩
theorem ok34 : tabOk tab34 = true := by kernel_rfl
theorem put34 : putT tab34 = (bytes34, 0) := by kernel_rfl
theorem get34 : getTV bytes34 = (tab34, 0) := by kernel_rfl
theorem getx34 : getTV (bytes34 ++ ⟨#[120]⟩) = ([], 7) := by kernel_rfl
theorem find34 : findT tab34 264 = (0, 8, true) := by kernel_rfl
theorem name34a : nameOf tab34 256 = ⟨#[109, 97, 105, 110]⟩ := by kernel_rfl
theorem name34b : nameOf tab34 264 = ⟨#[109, 97, 105, 110, 43, 48, 48, 48, 56]⟩ := by kernel_rfl
theorem name34c : nameOf tab34 280 = ⟨#[64, 48, 48, 48, 48, 48, 49, 49, 56]⟩ := by kernel_rfl
theorem named34 : namedOf tab34 ⟨#[109, 97, 105, 110]⟩ = tab34 := by kernel_rfl
theorem moves34 : movesOf tab34 [] = [⟨⟨#[109, 97, 105, 110]⟩, ⟨#[111]⟩, 256, 0⟩] := by kernel_rfl
theorem bad34 : tabOk [⟨⟨#[]⟩, ⟨#[]⟩, 0, 0, 0⟩] = false := by kernel_rfl
end Go.Proofs.YtdjgkmpjhpnkeaaGreatDoor
namespace Go.Proofs.YtdjgkmpjhpnkeaaGreatDoor
open Go.RowKit Go.Sort Go.Proofs
def encU : Int → Value := fun x => .int .u8 x
theorem below_putRow {B : Nat} {a w : World} {blk off n : Nat} {d : Array Int} (h : Below B a w) (hB : B ≤ blk) : Below B a (putRow encU (Sort.ahead w n) blk off d) := by
  refine h.trans ⟨rfl, rfl, rfl, by simp, fun k hk => ?_⟩
  simp only [putRow, mapBlock, Sort.ahead, Array.getElem?_modify]
  rw [if_neg (by omega)]
set_option maxHeartbeats 1600000 in
set_option maxRecDepth 1000000 in
theorem rev_any (blk off cap : Nat) (d : Array Int) (w : World) (hH : Holds encU w blk off d) (hsz : d.size ≤ 9223372036854775807) :
    Calls Tryz.prog 282 #[.slice (some ⟨blk, off, none⟩) d.size cap] w fun e w' => e = .returned (.tuple #[]) ∧ ∃ n, w' = putRow encU (Sort.ahead w n) blk off d.reverse := by
  go_enter Tryz.func282, Tryz.ntmps282
  go_wp2
  go_loopg [2, 3] d.size (fun k s2 s3 wr => ∃ (i jn : Nat) (jz : Int) (dk : Array Int) (n : Nat), s2 = .int .i64 i ∧ s3 = .int .i64 jz ∧ ((i : Int) < jz → jz = jn ∧ jn < d.size) ∧ (¬ (i : Int) < jz → ¬ i < jn) ∧ jn - i ≤ k ∧
    dk.size = d.size ∧ wr = putRow encU (Sort.ahead w n) blk off dk ∧ reverseLoop i jn dk = reverseLoop 0 (d.size - 1) d)
  case atStart => exact ⟨0, d.size - 1, (d.size : Int) - 1, d, 0, rfl, rfl, fun h => ⟨by omega, by omega⟩, fun h => by omega, by omega, rfl, (putRow_self encU w blk off d hH).symm, rfl⟩
  case round =>
    obtain ⟨i, jn, jz, dk, n, rfl, rfl, h1, h2, hk, hds, hwr, heq⟩ := hrel
    by_cases hlt : (i : Int) < jz
    · obtain ⟨rfl, hjn⟩ := h1 hlt
      have hij : i < jn := by omega
      have hHk : Holds encU wr blk off dk := by rw [hwr]; exact holds_putRow encU _ blk off d dk (holds_ahead encU w n blk off d hH) hds
      obtain ⟨ci, fi⟩ := hHk i (by omega)
      obtain ⟨cj, fj⟩ := hHk jn (by omega)
      simp only [encU] at ci cj
      have A : Aside (wr = putRow encU (Sort.ahead w n) blk off dk) := hwr
      clear hwr hHk hH h1 h2
      go_wp2_with fail
      go_region
      go_wp2
      go_roundg (jn - 1 - (i + 1))
      case measure => omega
      case rel =>
        rw [reverseLoop, if_pos hij] at heq
        exact ⟨i + 1, jn - 1, (jn : Int) - 1, swp dk i jn, n + 1, by simp, rfl, fun h => ⟨by omega, by omega⟩, fun h => by omega, Nat.le_refl _, by rw [size_swp]; exact hds,
          swap_world encU (by omega) (by omega) A.out (by first | rfl | simp [encU, getElem!_pos, show jn < dk.size by omega]) (by first | rfl | simp [encU, getElem!_pos, show i < dk.size by omega]), heq⟩
    · have hnot := h2 hlt
      go_wp2
      go_end0
      refine ⟨rfl, n, ?_⟩
      rw [reverseLoop, if_neg hnot] at heq
      rw [← Lib.reverseLoop_reverse, ← heq]
/-- the bytes of a list as numbers -/
def natsOf (l : BL) : Array Int := (l.map fun b => (b.toNat : Int)).toArray
theorem natsOf_size (l : BL) : (natsOf l).size = l.length := by simp [natsOf]
theorem bytes_hold (w : World) (l : BL) : Holds encU (Lib.bytesWorld w 5 (bsOf l)) w.heap.size 0 (natsOf l) := by
  intro j hj
  rw [natsOf_size] at hj
  refine ⟨?_, ?_⟩
  · have h := Lib.bytesWorld_cell w 5 (bsOf l) j (by rw [bsOf_size]; exact hj)
    rw [Nat.zero_add, h]
    simp [encU, natsOf, bsOf, List.getD, hj]
  · unfold World.frozen?
    rw [Lib.bytesWorld_at_new]
    simp [Lib.bytesCells, bsOf]
    omega
theorem below_bytes (w : World) (s : ByteArray) : Below w.heap.size w (Lib.bytesWorld w 5 s) :=
  ⟨rfl, rfl, rfl, by rw [Lib.bytesWorld_size]; omega, fun k hk => Lib.bytesWorld_at_old w _ s k hk⟩
theorem bytes_read {w : World} {b cap : Nat} {l : BL} (n : Nat) (hH : Holds encU w b 0 (natsOf l)) :
    (convert 130 9 (.slice (some ⟨b, 0, none⟩) l.length cap)).run Tryz.prog (putRow encU (Sort.ahead w n) b 0 (natsOf l).reverse) = .ok (.string (bsOf l.reverse)) (putRow encU (Sort.ahead w n) b 0 (natsOf l).reverse) := by
  have h := run_convert_bytes_back (P := Tryz.prog) (putRow encU (Sort.ahead w n) b 0 (natsOf l).reverse) 130 9 5 ⟨b, 0, none⟩ cap l.reverse Tryz.underlying130 Tryz.underlying5 Tryz.underlying9 (fun j hj => by
    have h2 := holds_putRow encU (Sort.ahead w n) b 0 (natsOf l) (natsOf l).reverse (holds_ahead encU w n b 0 _ hH) (by simp) j (by rw [List.length_reverse] at hj; simpa [natsOf_size] using hj)
    rw [add_at, h2.1]
    rw [List.length_reverse] at hj
    have hj2 : j < (natsOf l).reverse.size := by simpa [natsOf_size] using hj
    rw [show (natsOf l).reverse[j]! = (natsOf l).reverse[j] from getElem!_pos (natsOf l).reverse j hj2]
    simp [encU, natsOf])
  rw [List.length_reverse] at h
  exact h
set_option maxHeartbeats 1600000 in
set_option maxRecDepth 1000000 in
theorem turned_any (l : BL) (w : World) (hl : l.length ≤ 9223372036854775807) : Calls Tryz.prog 236 #[.string (bsOf l)] w fun e w' => e = .returned (.string (bsOf l.reverse)) ∧ Below w.heap.size w w' := by
  have hcv := Lib.run_convert_string_bytes (P := Tryz.prog) w 9 130 5 (bsOf l) Tryz.underlying9 Tryz.underlying130 Tryz.underlying5
  rw [bsOf_size] at hcv
  have HH := Lib.hid (bytes_hold w l)
  have HB := Lib.hid (below_bytes w (bsOf l))
  have HR := Lib.hid (fun cap => rev_any w.heap.size 0 cap (natsOf l) _ (bytes_hold w l) (by rw [natsOf_size]; exact hl))
  have HC := Lib.hid (fun cap n => bytes_read (cap := cap) n (bytes_hold w l))
  rw [natsOf_size] at HR
  generalize Lib.bytesWorld w 5 (bsOf l) = w1 at hcv HH HB HR HC
  generalize grownCap w l.length 0 5 = cap at hcv
  go_enter Tryz.func236, Tryz.ntmps236
  go_wp2_with fail
  refine (HR.out cap).mono ?_
  rintro e w' ⟨rfl, n, rfl⟩
  have hcc := HC.out cap n
  have HB2 := Lib.hid (below_putRow (n := n) (off := 0) (d := (natsOf l).reverse) HB.out (Nat.le_refl _))
  generalize putRow encU (Sort.ahead w1 n) w.heap.size 0 (natsOf l).reverse = w2 at hcc HB2 ⊢
  clear HR HC hcv HH HB
  go_wp2
  go_ret
  exact ⟨rfl, HB2.out⟩
def leR (n : Nat) (v : Int) : BL := (leB n v).reverse
set_option maxHeartbeats 400000 in
set_option maxRecDepth 100000 in
theorem high4 (v : Int) (w : World) (h0 : 0 ≤ v) (h1 : v < 4294967296) : Calls Tryz.prog 170 #[.int .u32 v, .int .i64 4] w fun e w' => e = .returned (.tuple #[.string (bsOf (leR 4 v)), .int .i64 0]) ∧ Below w.heap.size w w' := by
  have HC := Lib.hid (wput4 v w h0 h1)
  go_enter Tryz.func170, Tryz.ntmps170
  go_wp2_with (go_at_call 181; refine HC.out.mono ?_; rintro e w1 ⟨rfl, hB⟩)
  have HB := Lib.hid hB
  have HT := Lib.hid (turned_any (leB 4 v) w1 (by rw [leB_length]; omega))
  clear hB HC
  go_wp2_with (go_at_call 236; refine HT.out.mono ?_; rintro e w2 ⟨rfl, hB2⟩)
  go_ret2
  exact ⟨rfl, HB.out.trans (hB2.mono HB.out.size)⟩
set_option maxHeartbeats 400000 in
set_option maxRecDepth 100000 in
theorem high2 (v : Int) (w : World) (h0 : 0 ≤ v) (h1 : v < 65536) : Calls Tryz.prog 170 #[.int .u32 v, .int .i64 2] w fun e w' => e = .returned (.tuple #[.string (bsOf (leR 2 v)), .int .i64 0]) ∧ Below w.heap.size w w' := by
  have HC := Lib.hid (wput2 v w h0 h1)
  go_enter Tryz.func170, Tryz.ntmps170
  go_wp2_with (go_at_call 181; refine HC.out.mono ?_; rintro e w1 ⟨rfl, hB⟩)
  have HB := Lib.hid hB
  have HT := Lib.hid (turned_any (leB 2 v) w1 (by rw [leB_length]; omega))
  clear hB HC
  go_wp2_with (go_at_call 236; refine HT.out.mono ?_; rintro e w2 ⟨rfl, hB2⟩)
  go_ret2
  exact ⟨rfl, HB.out.trans (hB2.mono HB.out.size)⟩
end Go.Proofs.YtdjgkmpjhpnkeaaGreatDoor
