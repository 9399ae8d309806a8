/- The walks of objfile.writer's text and nums. -/
import Derived.Test.YtfmmfbijkklceaaDoorWWriter
import Derived.Test.YtfmmfbijkklceaaDoorWPackNum
namespace Go.Proofs.YtfmmfbijkklceaaDoor
open Go.RowKit
theorem pnum_any (n : Nat) (v : Int) (w : World) (hn : n = 1 ∨ n = 2 ∨ n = 4) (h0 : 0 ≤ v) (h1 : v < pow256 n) : Calls Tryd.prog 43 #[.int .u32 v, .int .i64 n] w fun e w' => e = .returned (.tuple #[.string (bsOf (leB n v)), .int .i64 0]) ∧ Below w.heap.size w w' := by
  rcases hn with rfl | rfl | rfl
  · exact pnum1 v w h0 (by rw [p1] at h1; exact h1)
  · exact pnum2 v w h0 (by rw [p2] at h1; exact h1)
  · exact pnum4 v w h0 (by rw [p4] at h1; exact h1)
set_option maxHeartbeats 400000 in
set_option maxRecDepth 100000 in
theorem wrText_any (B b : Nat) (l : BL) (s : ByteArray) (w : World) (h : IsWr B b l w) (hs : s.size < 65536) (hlen : l.length ≤ 1000000000) (hB : B ≤ w.heap.size) :
    Calls Tryd.prog 18 #[.pointer (some ⟨b, 0, none⟩), .string s] w fun e w' => e = .returned (.tuple #[]) ∧ WPost B b (l ++ encText s) w w' := by
  have HC := Lib.hid (ptext_any s w hs)
  have HW := Lib.hid h; clear h
  have HZ : Hid ((bsOf (encText s)).size ≤ 65537) := by rw [Hid, bsOf_size, encText, List.length_append, leB_length, len_list]; omega
  go_enter Tryd.func18, Tryd.ntmps18
  go_wp2_with fail
  refine HC.out.mono ?_
  rintro e w1 ⟨rfl, hB1⟩
  have HS := Lib.hid (writeString_any B b l (bsOf (encText s)) w1 (HW.out.keep hB1) (by have := HZ.out; omega) (Nat.le_trans hB hB1.size))
  have HB1 := Lib.hid hB1; clear hB1 HC
  go_wp2_with fail
  refine HS.out.mono ?_
  rintro e w2 ⟨rfl, h2⟩
  have H2 := Lib.hid h2; clear h2 HS
  go_wp2
  go_end0
  exact ⟨rfl, H2.out.1, (HB1.out.mono hB).trans H2.out.2.1, (KN.of_below HB1.out).trans H2.out.2.2⟩
set_option maxHeartbeats 1000000 in
set_option maxRecDepth 100000 in
theorem nums_any (B b g n : Nat) (xs : List Int) (l : BL) (w : World) (h : IsWr B b l w) (hg : BX b w g 43 (xs.map (Value.int .u32)).toArray) (hn : n = 1 ∨ n = 2 ∨ n = 4) (hx : ∀ x ∈ xs, 0 ≤ x ∧ x < pow256 n) (hxl : xs.length ≤ 2) (hlen : l.length ≤ 1000000000) (hB : B ≤ w.heap.size) :
    Calls Tryd.prog 19 #[.pointer (some ⟨b, 0, none⟩), .int .i64 n, .slice (some ⟨g, 0, none⟩) xs.length xs.length] w fun e w' => e = .returned (.tuple #[]) ∧ WPost B b (l ++ xs.flatMap (leB n)) w w' := by
  have HW : Hid (WPost B b (l ++ (xs.take 0).flatMap (leB n)) w w) := ⟨by simpa using h, Below.refl _ _, KN.refl _ _⟩
  have HG := Lib.hid hg
  have HX := Lib.hid hx
  have HN := Lib.hid hn
  have hn4 : n ≤ 4 := by omega
  clear h hg hx hn
  go_enter Tryd.func19, Tryd.ntmps19
  go_wp2
  go_loopw [12] (fun v12 wr => ∃ i : Nat, i ≤ xs.length ∧ v12 = .int .i64 i ∧ WPost B b (l ++ (xs.take i).flatMap (leB n)) w wr) (fun v12 _ => xs.length - (intOf v12).toNat)
  case atStart => exact ⟨0, Nat.zero_le _, rfl, HW.out⟩
  case round =>
    obtain ⟨i, hi, rfl, hw⟩ := hrel
    clear HW
    have HW := Lib.hid hw; clear hw
    have hBr : B ≤ wr.heap.size := Nat.le_trans hB HW.out.2.1.size
    by_cases hlt : i < xs.length
    · have c := (HG.out.keep HW.out.2.2).cell i
      rw [List.getElem?_toArray, List.getElem?_map, List.getElem?_eq_getElem hlt, Option.map_some] at c
      have hb := HX.out _ (List.getElem_mem hlt)
      have HL : Hid (((xs.take i).flatMap (leB n)).length ≤ 8) := by
        rw [Hid, show ((xs.take i).flatMap (leB n)).length = (xs.take i).length * n from ?_]
        · rw [List.length_take]
          have h1 : min i xs.length ≤ 2 := by omega
          have h2 : n ≤ 4 := by rcases HN.out with h | h | h <;> omega
          exact Nat.le_trans (Nat.mul_le_mul h1 h2) (by omega)
        · induction xs.take i with
          | nil => simp
          | cons a r ih => rw [List.flatMap_cons, List.length_append, ih, leB_length, List.length_cons, Nat.succ_mul]; omega
      have HT : Hid (l ++ (xs.take (i + 1)).flatMap (leB n) = (l ++ (xs.take i).flatMap (leB n)) ++ leB n xs[i]) := by
        rw [Hid, List.take_succ_eq_append_getElem hlt, List.flatMap_append, List.flatMap_singleton, List.append_assoc]
      generalize xs[i] = x at c hb HT
      have HC := Lib.hid (pnum_any n x wr HN.out hb.1 hb.2)
      clear hb
      go_wp2_with fail
      refine HC.out.mono ?_
      rintro e w1 ⟨rfl, hB1⟩
      have HS := Lib.hid (writeString_any B b (l ++ (xs.take i).flatMap (leB n)) (bsOf (leB n x)) w1 (HW.out.1.keep hB1) (by rw [bsOf_size, leB_length, List.length_append]; have := HL.out; omega) (Nat.le_trans hBr hB1.size))
      have HB1 := Lib.hid hB1; clear hB1 HC c
      go_wp2_with fail
      refine HS.out.mono ?_
      rintro e w2 ⟨rfl, h2⟩
      have H2 := Lib.hid h2; clear h2 HS
      go_wp2
      go_roundw
      case rel => exact ⟨i + 1, by omega, by go_num, by rw [HT.out]; exact (HW.out.keep HB1.out hB).trans H2.out⟩
      case measure => simp [intOf]; omega
    · have HE : Hid (xs.take i = xs) := List.take_of_length_le (by omega)
      have hw := HW.out
      rw [HE.out] at hw
      have HW2 := Lib.hid hw; clear hw HE
      go_wp2
      go_end0
      exact ⟨rfl, HW2.out⟩
end Go.Proofs.YtfmmfbijkklceaaDoor
