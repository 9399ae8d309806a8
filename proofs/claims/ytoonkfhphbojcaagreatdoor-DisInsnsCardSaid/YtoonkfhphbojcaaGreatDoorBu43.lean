/- The walk of dis.ReadLines. -/
import Derived.Test.YtoonkfhphbojcaaGreatDoorBu42
import Derived.Test.YtoonkfhphbojcaaGreatDoorBu22
namespace Go.Proofs.YtoonkfhphbojcaaGreatDoor
open Go.RowKit Go.Maps
def RLPost (r : Option (List GLine)) (w : World) (e : Ending) (w' : World) : Prop := Below w.heap.size w w' ∧ match r with
  | some l => ∃ v B, e = .returned (.tuple #[v, .int .i64 0]) ∧ w.heap.size ≤ B ∧ w'.ownsRow B 59 8 v l.length (l.flatMap lineC) ∧ ∀ y ∈ l, LineB y
  | none => e = .returned (.tuple #[.slice none 0 0, .int .i64 7])
set_option maxHeartbeats 4000000 in
set_option maxRecDepth 100000 in
theorem readLines33 (s : BL) (w : World) (hL : Lib33 w) (hs : s.length ≤ 100000) :
    Calls Tryz.prog 17 #[.string (bsOf s)] w (RLPost (readLinesL s) w) := by
  have HB2 : Below w.heap.size w ((w.alloc (.cells #[.string (bsOf s)] 9)).alloc (.cells #[.slice none 0 0] 33)) := (alloc_old w _).alloc (by simp) _
  have hX2 : ((w.alloc (.cells #[.string (bsOf s)] 9)).alloc (.cells #[.slice none 0 0] 33)).heap[w.heap.size + 1]? = some (.cells #[.slice none 0 0] 33 (0, 0)) := by
    have := new_block (w.alloc (.cells #[.string (bsOf s)] 9)) (.cells #[.slice none 0 0] 33)
    simpa using this
  have hS2 : ((w.alloc (.cells #[.string (bsOf s)] 9)).alloc (.cells #[.slice none 0 0] 33)).heap[w.heap.size]? = some (.cells #[.string (bsOf s)] 9 (0, 0)) := (Below.heap_alloc _ _ _ (by simp)).trans (new_block w _)
  have hmf : ∀ (fn : Fn) (first cap : Array Value) (w : World), (Instr.makeFunc fn first cap).run Tryz.prog w = .ok (.func fn first cap) w := fun _ _ _ _ => rfl
  have HL := Lib.hid hL
  clear hL
  go_enter Tryz.func17, Tryz.ntmps17
  go_upto_region 1 with fail
  change Code.wp _ _ _ _ ((w.alloc (.cells #[.string (bsOf s)] 9)).alloc (.cells #[.slice none 0 0] 33))
  generalize ((w.alloc (.cells #[.string (bsOf s)] 9)).alloc (.cells #[.slice none 0 0] 33)) = w2 at *
  obtain ⟨lb, hlb⟩ : ∃ lb, lb = w.heap.size + 1 := ⟨_, rfl⟩
  rw [← hlb] at hX2 ⊢
  have hx2 := (Array.getElem?_eq_some_iff.1 hX2).1
  have hbb := new_block w2 (.cells #[.bool false] 4)
  have HB3 : Below w.heap.size w (w2.alloc (.cells #[.bool false] 4)) := HB2.alloc HB2.size _
  have hX3 : (w2.alloc (.cells #[.bool false] 4)).heap[lb]? = some (.cells #[.slice none 0 0] 33 (0, 0)) := (Below.heap_alloc _ _ _ hx2).trans hX2
  have hS3 : (w2.alloc (.cells #[.bool false] 4)).heap[w.heap.size]? = some (.cells #[.string (bsOf s)] 9 (0, 0)) := (Below.heap_alloc _ _ _ (Array.getElem?_eq_some_iff.1 hS2).1).trans hS2
  have HD := doLines33 s w.heap.size lb w (w2.alloc (.cells #[.bool false] 4)) HL.out HB3 (by omega) hs (Lib.cell_of_heap hS3 0) hX3
  have HC := Lib.hid (caught33 56 #[.pointer (some ⟨w.heap.size, 0, none⟩), .pointer (some ⟨lb, 0, none⟩)]
    (fun w' => ∃ l, readLinesL s = some l ∧ LinesAt (w2.alloc (.cells #[.bool false] 4)).heap.size lb l w' ∧ KB (fun k => k = lb) (w2.alloc (.cells #[.bool false] 4)) w')
    (fun w' => readLinesL s = none ∧ (∃ v, w'.heap[lb]? = some (.cells #[v] 33 (0, 0))) ∧ KB (fun k => k = lb) (w2.alloc (.cells #[.bool false] 4)) w') w2
    (fun args W => run_call_go Tryz.func56 (by kernel_rfl) (by kernel_rfl) args)
    (HD.mono fun e w' h => by
      unfold DoLPost at h
      cases hr : readLinesL s with
      | some l => rw [hr] at h; exact .inl ⟨h.2.1, l, rfl, h.2.2, h.1⟩
      | none => rw [hr] at h; exact .inr ⟨h.2.1, rfl, h.2.2, h.1⟩)
    (fun w' ⟨x, _, _, hk⟩ => (hk.block w2.heap.size (by simp) (by omega)).trans hbb)
    (fun w' ⟨_, _, hk⟩ => (hk.block w2.heap.size (by simp) (by omega)).trans hbb))
  unfold CaughtPost at HC
  have HXB := Lib.hid hlb
  clear HD hX3 hS3 hbb hS2 hX2 hlb
  go_wp2_with fail
  refine HC.out.mono ?_
  rintro e w5 (⟨rfl, w4, ⟨l, hr, ⟨v, hX4, hrow, hlB⟩, hk4⟩, rfl⟩ | ⟨rfl, w4, ⟨hr, ⟨v, hX4⟩, hk4⟩, rfl⟩)
  · obtain ⟨pv, cv, rfl⟩ := own_shape hrow
    have hx5 : (w4.setCell ⟨w2.heap.size, 0, none⟩ (.bool false)).heap[lb]? = some (.cells #[.slice pv l.length cv] 33 (0, 0)) := (Below.heap_setCell _ _ _ _ (by simp; omega)).trans hX4
    have HB5 : Hid (Below w.heap.size w (w4.setCell ⟨w2.heap.size, 0, none⟩ (.bool false))) := Lib.hid ((HB3.trans (hk4.below HB3.size (fun k hk e => by have := HXB.out; omega))).setCell (p := ⟨w2.heap.size, 0, none⟩) HB2.size _)
    have hbx4 := (hk4.block w2.heap.size (by simp) (by omega)).trans (new_block w2 (.cells #[.bool false] 4))
    have HRW := Lib.hid (own_congr (w' := w4.setCell ⟨w2.heap.size, 0, none⟩ (.bool false)) hrow fun q hq => Below.heap_setCell _ _ _ _ (fun e => own_ne_box hrow hbx4 (by decide) (by rw [hq, e])))
    have HR := Lib.hid hr
    have HLB := Lib.hid hlB
    clear hX4 hk4 hr HC HB3 hx2 hrow hlB hbx4
    generalize (w4.setCell ⟨w2.heap.size, 0, none⟩ (.bool false)) = w6 at *
    have z0 : w6.cell? ⟨lb, 0, none⟩ = some (.slice pv l.length cv) := Lib.cell_of_heap hx5 0
    have f0 := Lib.frozen_of_heap hx5 0
    have s0 := setCell_self z0
    go_wp2
    refine bodyPost_ret (v := .tuple #[.slice pv l.length cv, .int .i64 0]) (by simp [results, Tryz.results17, go_sem, z0]) rfl ?_
    rw [HR.out]
    exact ⟨HB5.out, _, _, rfl, by simp; have := HB2.size; omega, HRW.out, HLB.out⟩
  · have hx5 : (w4.setCell ⟨w2.heap.size, 0, none⟩ (.bool true)).heap[lb]? = some (.cells #[v] 33 (0, 0)) := (Below.heap_setCell _ _ _ _ (by simp; omega)).trans hX4
    have HB5 : Hid (Below w.heap.size w (w4.setCell ⟨w2.heap.size, 0, none⟩ (.bool true))) := Lib.hid ((HB3.trans (hk4.below HB3.size (fun k hk e => by have := HXB.out; omega))).setCell (p := ⟨w2.heap.size, 0, none⟩) HB2.size _)
    have HR := Lib.hid hr
    clear hX4 hk4 hr HC HB3 hx2
    generalize (w4.setCell ⟨w2.heap.size, 0, none⟩ (.bool true)) = w6 at *
    have z0 : w6.cell? ⟨lb, 0, none⟩ = some v := Lib.cell_of_heap hx5 0
    have f0 := Lib.frozen_of_heap hx5 0
    have hx7 := set33 hx5 0 (.slice none 0 0)
    have HB7 := Lib.hid (HB5.out.setCell (p := ⟨lb, 0, none⟩) (by show w.heap.size ≤ lb; have := HXB.out; omega) (.slice none 0 0))
    go_wp2
    generalize (w6.setCell ⟨lb, 0, none⟩ (.slice none 0 0)) = w7 at *
    have z0 : w7.cell? ⟨lb, 0, none⟩ = some (.slice none 0 0) := Lib.cell_of_heap hx7 0
    refine bodyPost_ret (v := .tuple #[.slice none 0 0, .int .i64 7]) (by simp [results, Tryz.results17, go_sem, z0]) rfl ?_
    rw [HR.out]
    exact ⟨HB7.out, rfl⟩
end Go.Proofs.YtoonkfhphbojcaaGreatDoor
