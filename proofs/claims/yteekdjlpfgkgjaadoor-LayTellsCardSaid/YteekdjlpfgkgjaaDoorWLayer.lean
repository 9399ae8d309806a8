/- The walks of lay's layer: begin and lay. -/
import Derived.Test.YteekdjlpfgkgjaaDoorWLayUp
import Derived.RegionTactic
import Derived.ChangeAlike
import Derived.BigRegion
import Derived.Deep.AppendLies
namespace Go.Proofs.YteekdjlpfgkgjaaDoor
open Go.RowKit Go.Maps Go.WideMaps
/-- a layer in a block of its own -/
structure LayerAt (w : World) (b : Nat) (k a s e : Int) : Prop where
  lt : b < w.heap.size
  c0 : w.cell? ⟨b, 0, none⟩ = some (.int .u8 k)
  c1 : w.cell? ⟨b, 1, none⟩ = some (.int .u32 a)
  c2 : w.cell? ⟨b, 2, none⟩ = some (.int .u32 s)
  c3 : w.cell? ⟨b, 3, none⟩ = some (.int .u32 e)
  f0 : w.frozen? ⟨b, 0, none⟩ = false
  f1 : w.frozen? ⟨b, 1, none⟩ = false
  f2 : w.frozen? ⟨b, 2, none⟩ = false
  f3 : w.frozen? ⟨b, 3, none⟩ = false
theorem LayerAt.kept {w w' : World} {b : Nat} {k a s e : Int} (h : LayerAt w b k a s e) (hb : w'.heap[b]? = w.heap[b]?) (hs : w.heap.size ≤ w'.heap.size) : LayerAt w' b k a s e := by
  obtain ⟨h0, h1, h2, h3, h4, h5, h6, h7, h8⟩ := h
  refine ⟨Nat.lt_of_lt_of_le h0 hs, ?_, ?_, ?_, ?_, ?_, ?_, ?_, ?_⟩
  all_goals first | (rw [World.cell?_of_block (w := w) hb]; assumption) | (rw [World.frozen?_of_block (w := w) hb]; assumption)
theorem grown_setCell (w : World) (b o : Nat) (v : Value) : w.grownBy (w.setCell ⟨b, o, none⟩ v) (some b) :=
  ⟨rfl, rfl, rfl, by simp, fun k _ hk => Below.heap_setCell _ _ _ _ (fun e => hk (by rw [e]))⟩
theorem grown_trans {w w1 w2 : World} {r : Option Nat} (h : w.grownBy w1 r) (h' : w1.grownBy w2 r) : w.grownBy w2 r :=
  ⟨h'.os.trans h.os, h'.tape.trans h.tape, h'.output.trans h.output, Nat.le_trans h.size h'.size, fun k hk hne => (h'.block k (Nat.lt_of_lt_of_le hk h.size) hne).trans (h.block k hk hne)⟩
theorem grown_drew {w w1 : World} {r : Option Nat} (h : w.grownBy w1 r) : w.grownBy w1.drew r := ⟨h.os, h.tape, h.output, h.size, h.block⟩
set_option maxHeartbeats 1000000 in
theorem begin14_any (b : Nat) (kd k a s e : Int) (w : World) (h : LayerAt w b k a s e) (h0 : 0 ≤ e) (h1 : e ≤ 200000) :
    Calls Tryd.prog 23 #[.pointer (some ⟨b, 0, none⟩), .int .u8 kd] w fun en w' => en = .returned (.tuple #[]) ∧ LayerAt w' b kd (upTo e 256) 0 (upTo e 256) ∧ w.grownBy w' (some b) := by
  obtain ⟨hb, c0, c1, c2, c3, f0, f1, f2, f3⟩ := h
  go_enter Tryd.func23, Tryd.ntmps23
  go_wp2_with (go_at_call 33; refine (up_256 _ _ h0 h1).mono ?_; rintro en w' ⟨rfl, rfl⟩)
  go_end0
  refine ⟨rfl, ?_, ?_⟩
  · refine ⟨by simpa using hb, ?_, ?_, ?_, ?_, ?_, ?_, ?_, ?_⟩ <;> simp [go_sem, *]
  · exact grown_trans (grown_trans (grown_trans (grown_setCell _ _ _ _) (grown_setCell _ _ _ _)) (grown_setCell _ _ _ _)) (grown_setCell _ _ _ _)
set_option maxHeartbeats 1000000 in
theorem lay14_any (b : Nat) (k a s e z : Int) (w : World) (h : LayerAt w b k a s e) (h0 : 0 ≤ e) (h1 : e ≤ 200000) (ha : 0 ≤ a) (hae : a ≤ e) (hz : 0 ≤ z) (hz1 : z ≤ 100000) :
    Calls Tryd.prog 25 #[.pointer (some ⟨b, 0, none⟩), .int .u32 z] w fun en w' => en = .returned (.int .u32 (upTo e 8)) ∧ LayerAt w' b k a (upTo e 8 + z - a) (upTo e 8 + z) ∧ w.grownBy w' (some b) := by
  obtain ⟨hb, c0, c1, c2, c3, f0, f1, f2, f3⟩ := h
  have hu : e ≤ upTo e 8 ∧ upTo e 8 ≤ e + 7 := by unfold upTo; omega
  go_enter Tryd.func25, Tryd.ntmps25
  go_wp2_with (go_at_call 33; refine (up_8 _ _ h0 h1).mono ?_; rintro en w' ⟨rfl, rfl⟩)
  generalize hu0 : upTo e 8 = u at *
  have HU := Lib.hid hu0; clear hu0
  generalize hw1 : w.setCell ⟨b, 3, none⟩ (.int .u32 (u + z)) = w1
  have g0 : w1.cell? ⟨b, 0, none⟩ = some (.int .u8 k) := by subst hw1; simp [go_sem, *]
  have g1 : w1.cell? ⟨b, 1, none⟩ = some (.int .u32 a) := by subst hw1; simp [go_sem, *]
  have g2 : w1.cell? ⟨b, 2, none⟩ = some (.int .u32 s) := by subst hw1; simp [go_sem, *]
  have g3 : w1.cell? ⟨b, 3, none⟩ = some (.int .u32 (u + z)) := by subst hw1; simp [go_sem, *]
  have e0 : w1.frozen? ⟨b, 0, none⟩ = false := by subst hw1; simp [go_sem, *]
  have e1 : w1.frozen? ⟨b, 1, none⟩ = false := by subst hw1; simp [go_sem, *]
  have e2 : w1.frozen? ⟨b, 2, none⟩ = false := by subst hw1; simp [go_sem, *]
  have e3 : w1.frozen? ⟨b, 3, none⟩ = false := by subst hw1; simp [go_sem, *]
  have hb1 : b < w1.heap.size := by subst hw1; simpa using hb
  have HG : Hid (w.grownBy w1 (some b)) := by subst hw1; exact grown_setCell _ _ _ _
  clear hw1 c0 c1 c2 c3 f0 f1 f2 f3
  go_region
  all_goals
    go_wp2
    go_ret
    obtain rfl := HU.out
    refine ⟨rfl, ?_, ?_⟩
    · refine ⟨by simpa using hb1, ?_, ?_, ?_, ?_, ?_, ?_, ?_, ?_⟩ <;> simp [go_sem, *]
    · exact grown_drew (grown_trans HG.out (grown_setCell _ _ _ _))
end Go.Proofs.YteekdjlpfgkgjaaDoor
