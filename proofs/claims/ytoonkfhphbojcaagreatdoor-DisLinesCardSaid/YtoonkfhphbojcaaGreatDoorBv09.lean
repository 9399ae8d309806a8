/- The walks of word.text and word.Put. -/
import Derived.Test.YtoonkfhphbojcaaGreatDoorRows
import Derived.Test.YtoonkfhphbojcaaGreatDoorBv01
import Derived.Test.YtoonkfhphbojcaaGreatDoorBv06
import Derived.Laws.IdiomStrings
import Derived.Outline
import Derived.Lib.Hide
namespace Go.Proofs.YtoonkfhphbojcaaGreatDoor
open Go.RowKit
theorem info_byte : (Tryz.prog.info? 5).map (fun i => (i.zero, i.size, i.bytes)) = some (some (.int .u8 0), 1, 1) := by kernel_rfl
set_option maxHeartbeats 400000 in
theorem wtext_any (b o : Nat) (l : BL) (cap : Nat) (w : World) (hc : ∀ j (hj : j < l.length), w.cell? ⟨b, o + j, none⟩ = some (.int .u8 (l[j].toNat : Int))) :
    Calls Tryz.prog 205 #[.slice (some ⟨b, o, none⟩) l.length cap] w fun e w' => e = .returned (.string (bsOf l)) ∧ w = w' := by
  have hk := run_convert_bytes_back (P := Tryz.prog) w 79 9 5 ⟨b, o, none⟩ cap l Tryz.underlying79 Tryz.underlying5 Tryz.underlying9 (fun j hj => by rw [add_at]; exact hc j hj)
  clear hc
  go_enter Tryz.func205, Tryz.ntmps205
  go_wp2
  go_ret
  exact ⟨rfl, rfl⟩
theorem leB_get {n : Nat} {v : Int} {j : Nat} (hn : n ≤ 4) (hj : j < (leB n v).length) : ((leB n v)[j].toNat : Int) = ([v % 256, v / 256 % 256, v / 65536 % 256, v / 16777216 % 256] : List Int).getD j 0 := by
  have hj' : j < n := by rw [leB_length] at hj; exact hj
  have b1 : (v / 256 % 256).toNat < 256 := by omega
  have b0 : (v % 256).toNat < 256 := by omega
  have b2 : (v / 256 / 256 % 256).toNat < 256 := by omega
  have b3 : (v / 256 / 256 / 256 % 256).toNat < 256 := by omega
  match n, hn, j, hj' with
  | 1, _, 0, _ => simp only [leB, List.getElem_cons_zero, u8_ofNat _ b0, List.getD_cons_zero]; omega
  | 2, _, 0, _ => simp only [leB, List.getElem_cons_zero, u8_ofNat _ b0, List.getD_cons_zero]; omega
  | 3, _, 0, _ => simp only [leB, List.getElem_cons_zero, u8_ofNat _ b0, List.getD_cons_zero]; omega
  | 4, _, 0, _ => simp only [leB, List.getElem_cons_zero, u8_ofNat _ b0, List.getD_cons_zero]; omega
  | 2, _, 1, _ => simp only [leB, List.getElem_cons_zero, List.getElem_cons_succ, u8_ofNat _ b1, List.getD_cons_zero, List.getD_cons_succ]; omega
  | 3, _, 1, _ => simp only [leB, List.getElem_cons_zero, List.getElem_cons_succ, u8_ofNat _ b1, List.getD_cons_zero, List.getD_cons_succ]; omega
  | 4, _, 1, _ => simp only [leB, List.getElem_cons_zero, List.getElem_cons_succ, u8_ofNat _ b1, List.getD_cons_zero, List.getD_cons_succ]; omega
  | 3, _, 2, _ => simp only [leB, List.getElem_cons_zero, List.getElem_cons_succ, u8_ofNat _ b2, List.getD_cons_zero, List.getD_cons_succ]; omega
  | 4, _, 2, _ => simp only [leB, List.getElem_cons_zero, List.getElem_cons_succ, u8_ofNat _ b2, List.getD_cons_zero, List.getD_cons_succ]; omega
  | 4, _, 3, _ => simp only [leB, List.getElem_cons_zero, List.getElem_cons_succ, u8_ofNat _ b3, List.getD_cons_zero, List.getD_cons_succ]; omega
theorem put_cells {w : World} {n : Nat} {v x0 x1 x2 x3 : Int} (hn : n ≤ 4) (h : ∀ j, j < n → ([x0, x1, x2, x3] : List Int).getD j 0 = ([v % 256, v / 256 % 256, v / 65536 % 256, v / 16777216 % 256] : List Int).getD j 0) (t : TypeId) :
    ∀ j (hj : j < (leB n v).length), (w.alloc (.cells #[.int .u8 x0, .int .u8 x1, .int .u8 x2, .int .u8 x3] t)).cell? ⟨w.heap.size, 0 + j, none⟩ = some (.int .u8 ((leB n v)[j].toNat : Int)) := by
  intro j hj
  rw [leB_get hn hj]
  rw [leB_length] at hj
  rw [← h j hj]
  have h4 : j = 0 ∨ j = 1 ∨ j = 2 ∨ j = 3 := by omega
  rcases h4 with rfl | rfl | rfl | rfl <;> simp [go_sem]
set_option maxHeartbeats 400000 in
set_option maxRecDepth 100000 in
theorem wput1 (v : Int) (w : World) (h0 : 0 ≤ v) (h1 : v < 256) : Calls Tryz.prog 183 #[.int .u32 v, .int .i64 1] w fun e w' => e = .returned (.tuple #[.string (bsOf (leB 1 v)), .int .i64 0]) ∧ Below w.heap.size w w' := by
  have hz : (v / 256 != 0) = false := by simp; omega
  go_enter Tryz.func183, Tryz.ntmps183
  go_wp2_with fail
  refine (wtext_any w.heap.size 0 (leB 1 v) 4 _ (put_cells (by omega) ?_ _)).mono ?_
  · intro j hj
    have h4 : j = 0 := by omega
    rcases h4 with rfl <;> (simp only [List.getD_cons_zero]; try omega)
  rintro e w' ⟨rfl, rfl⟩
  go_wp2
  go_ret2
  exact ⟨rfl, alloc_old w _⟩
set_option maxHeartbeats 400000 in
set_option maxRecDepth 100000 in
theorem wput2 (v : Int) (w : World) (h0 : 0 ≤ v) (h1 : v < 65536) : Calls Tryz.prog 183 #[.int .u32 v, .int .i64 2] w fun e w' => e = .returned (.tuple #[.string (bsOf (leB 2 v)), .int .i64 0]) ∧ Below w.heap.size w w' := by
  have hz : (v / 65536 != 0) = false := by simp; omega
  go_enter Tryz.func183, Tryz.ntmps183
  go_wp2_with fail
  refine (wtext_any w.heap.size 0 (leB 2 v) 4 _ (put_cells (by omega) ?_ _)).mono ?_
  · intro j hj
    have h4 : j = 0 ∨ j = 1 := by omega
    rcases h4 with rfl | rfl <;> (simp only [List.getD_cons_zero, List.getD_cons_succ]; try omega)
  rintro e w' ⟨rfl, rfl⟩
  go_wp2
  go_ret2
  exact ⟨rfl, alloc_old w _⟩
set_option maxHeartbeats 400000 in
set_option maxRecDepth 100000 in
theorem wput4 (v : Int) (w : World) (h0 : 0 ≤ v) (h1 : v < 4294967296) : Calls Tryz.prog 183 #[.int .u32 v, .int .i64 4] w fun e w' => e = .returned (.tuple #[.string (bsOf (leB 4 v)), .int .i64 0]) ∧ Below w.heap.size w w' := by
  go_enter Tryz.func183, Tryz.ntmps183
  go_wp2_with fail
  refine (wtext_any w.heap.size 0 (leB 4 v) 4 _ (put_cells (by omega) ?_ _)).mono ?_
  · intro j hj
    have h4 : j = 0 ∨ j = 1 ∨ j = 2 ∨ j = 3 := by omega
    rcases h4 with rfl | rfl | rfl | rfl <;> (simp only [List.getD_cons_zero, List.getD_cons_succ]; try omega)
  rintro e w' ⟨rfl, rfl⟩
  go_wp2
  go_ret2
  exact ⟨rfl, alloc_old w _⟩
theorem bsOf_app (a : BL) (s : ByteArray) : bsOf a ++ s = bsOf (a ++ s.data.toList) := by
  apply ByteArray.ext; simp [bsOf]
end Go.Proofs.YtoonkfhphbojcaaGreatDoor
