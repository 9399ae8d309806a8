/- The walks of aediculeref15.Same and aediculeref36.Same, at one row twice. The walk of law36.alive. -/
import Derived.Test.YtghopakbefageaaGreatBt31
import Derived.Test.YtghopakbefageaaGreatBt19
import Derived.Test.YtghopakbefageaaGreatBt01
import Derived.Test.YtghopakbefageaaGreatBt42
import Derived.Test.YtghopakbefageaaGreatBt33
import Derived.Test.YtghopakbefageaaGreatBt39
namespace Go.Proofs.YtghopakbefageaaGreat
open Go.RowKit Go.Maps
set_option maxHeartbeats 2000000 in
theorem same15n_any (v v' : Value) (l : List Int) (w : World) (h1 : RowAt 1 NumR w v l) (h2 : RowAt 1 NumR w v' l) :
    Calls Tryz.prog 10 #[v, v'] w fun e w' => e = .returned (.bool true) ∧ Below w.heap.size w w' := by
  obtain ⟨p5, c5, b5, o5, rfl, -, hm5, hp5, hc5⟩ := h1
  obtain ⟨p6, c6, b6, o6, rfl, -, hm6, hp6, hc6⟩ := h2
  have HC5 := Lib.hid hc5; clear hc5
  have HC6 := Lib.hid hc6; clear hc6
  have HP5 := Lib.hid hp5; clear hp5
  have HP6 := Lib.hid hp6; clear hp6
  go_enter Tryz.func10, Tryz.ntmps10
  go_wp2_with fail
  go_loopw [5] (fun v5 wr => ∃ k : Nat, v5 = .int .i64 k ∧ k ≤ l.length ∧ Below w.heap.size w wr) (fun v5 _ => l.length - (intOf v5).toNat)
  case atStart => exact ⟨0, by go_num, Nat.zero_le _, Below.refl _ _⟩
  case round =>
    obtain ⟨k, rfl, hk, hB⟩ := hrel
    have HB := Lib.hid hB; clear hB
    by_cases hlt : k < l.length
    · obtain rfl := HP5.out (by omega)
      obtain rfl := HP6.out (by omega)
      obtain ⟨g0, g1, -⟩ := numR_keeps _ _ _ _ _ HB.out (HC5.out k hlt)
      obtain ⟨f0, f1, -⟩ := numR_keeps _ _ _ _ _ HB.out (HC6.out k hlt)
      rw [Nat.mul_one] at g1 f1
      generalize l[k] = x at g1 f1
      go_wp2
      go_region
      all_goals
        go_wp2_with fail
        go_roundw
        case rel => exact ⟨k + 1, by go_num, by omega, HB.out.drew⟩
        case measure => simp [intOf]; omega
    · go_wp2
      go_ret
      exact ⟨rfl, HB.out⟩
set_option maxHeartbeats 2000000 in
theorem same36_any (v v' : Value) (l : List Fd) (w : World) (h1 : RowAt 2 FindR w v l) (h2 : RowAt 2 FindR w v' l) :
    Calls Tryz.prog 7 #[v, v'] w fun e w' => e = .returned (.bool true) ∧ Below w.heap.size w w' := by
  obtain ⟨p5, c5, b5, o5, rfl, -, hm5, hp5, hc5⟩ := h1
  obtain ⟨p6, c6, b6, o6, rfl, -, hm6, hp6, hc6⟩ := h2
  have HC5 := Lib.hid hc5; clear hc5
  have HC6 := Lib.hid hc6; clear hc6
  have HP5 := Lib.hid hp5; clear hp5
  have HP6 := Lib.hid hp6; clear hp6
  go_enter Tryz.func7, Tryz.ntmps7
  go_wp2_with fail
  go_loopw [5] (fun v5 wr => ∃ k : Nat, v5 = .int .i64 k ∧ k ≤ l.length ∧ Below w.heap.size w wr) (fun v5 _ => l.length - (intOf v5).toNat)
  case atStart => exact ⟨0, by go_num, Nat.zero_le _, Below.refl _ _⟩
  case round =>
    obtain ⟨k, rfl, hk, hB⟩ := hrel
    have HB := Lib.hid hB; clear hB
    by_cases hlt : k < l.length
    · obtain rfl := HP5.out (by omega)
      obtain rfl := HP6.out (by omega)
      obtain ⟨g0, g1, g2, -⟩ := findR_keeps _ _ _ _ _ HB.out (HC5.out k hlt)
      obtain ⟨f0, f1, f2, -⟩ := findR_keeps _ _ _ _ _ HB.out (HC6.out k hlt)
      generalize l[k] = x at g1 g2 f1 f2
      obtain ⟨x1, x2⟩ := x
      simp only [] at g1 g2 f1 f2
      go_wp2
      go_region
      all_goals
        go_wp2_with fail
        go_roundw
        case rel => exact ⟨k + 1, by go_num, by omega, HB.out.drew⟩
        case measure => simp [intOf]; omega
    · go_wp2
      go_ret
      exact ⟨rfl, HB.out⟩
end Go.Proofs.YtghopakbefageaaGreat
namespace Go.Proofs.YtghopakbefageaaGreat
open Go.RowKit Go.Maps
theorem build_ins36 (W : World) (o m : Int) : (Instr.build 49 #[(0, .int .u8 o), (4, .int .u32 m)]).run Tryz.prog W = .ok (.agg #[.int .u8 o, .int .u8 0, .int .u8 0, .int .u8 0, .int .u32 m]) W := run_build W 49 #[(0, .int .u8 o), (4, .int .u32 m)] #[.int .u8 o, .int .u8 0, .int .u8 0, .int .u8 0, .int .u32 m] (by kernel_rfl)
theorem build_insD36 (W : World) (o d : Int) : (Instr.build 49 #[(0, .int .u8 o), (1, .int .u8 d)]).run Tryz.prog W = .ok (.agg #[.int .u8 o, .int .u8 d, .int .u8 0, .int .u8 0, .int .u32 0]) W := run_build W 49 #[(0, .int .u8 o), (1, .int .u8 d)] #[.int .u8 o, .int .u8 d, .int .u8 0, .int .u8 0, .int .u32 0] (by kernel_rfl)
theorem one_find (w : World) (a k : Int) (ha : 0 ≤ a ∧ a ≤ 4294967295) (hk : 0 ≤ k ∧ k ≤ 255) : RowAt 2 FindR (w.alloc (.cells #[.int .u32 a, .int .u8 k] 51)) (.slice (some ⟨w.heap.size, 0, none⟩) 1 1) [(a, k)] :=
  find_back (base := w.heap.size) (World.ownsRow_lit w #[.int .u32 a, .int .u8 k] 1 (Nat.le_refl _) (by unfold maxLen; omega) rfl) (by simp) (fun z hz => by simp at hz; subst hz; exact ⟨ha, hk⟩)
theorem one_num36 (w : World) (a : Int) (ha : 0 ≤ a ∧ a ≤ 4294967295) : RowAt 1 NumR (w.alloc (.cells #[.int .u32 a] 22)) (.slice (some ⟨w.heap.size, 0, none⟩) 1 1) [a] :=
  num_back (base := w.heap.size) (World.ownsRow_lit w #[.int .u32 a] 1 (Nat.le_refl _) (by unfold maxLen; omega) rfl) (by simp) (fun z hz => by simp at hz; subst hz; exact ha)
theorem of36v {L : BL} {w : World} {e : Ending} {w' : World} (h : CopyPost (imgOne L) w e w') : ∃ p1 c1 p2 c2 p3 c3, e = .returned (.agg #[.int .u32 0, .slice p1 0 c1, .slice p2 0 c2, .bool false, .int .u32 256, .slice p3 1 c3]) ∧ ImgAt w' (imgOne L) (.slice p1 0 c1) (.slice p2 0 c2) (.slice p3 1 c3) ∧ Below w.heap.size w w' := by
  obtain ⟨ve, vp, vs, rfl, hi, hb⟩ := h
  have hi2 := hi
  obtain ⟨⟨⟨p1, c1, _, _, rfl, -⟩, ⟨p2, c2, _, _, rfl, -⟩, -⟩, ⟨p3, c3, _, _, rfl, -⟩, -⟩ := hi
  exact ⟨p1, c1, p2, c2, p3, c3, rfl, hi2, hb⟩
set_option maxHeartbeats 1000000 in
set_option maxRecDepth 20000 in
theorem alive36 (w : World) : Calls Tryz.prog 5 #[] w fun e w' => e = .returned (.bool true) ∧ Below w.heap.size w w' := by
  have HB1 : Hid (Below w.heap.size w (w.alloc (.cells (ins5 ⟨40, 0, 0, 0, 256⟩) 49))) := alloc_old w _
  have HO1 := Lib.hid (of36 ⟨40, 0, 0, 0, 256⟩ enc36aL enc36a rfl w.heap.size _ (new_block w (.cells (ins5 ⟨40, 0, 0, 0, 256⟩) 49)))
  go_enter Tryz.func5, Tryz.ntmps5
  go_wp2_with (refine wpList_build36 rfl (v := .agg #[.int .u8 40, .int .u8 0, .int .u8 0, .int .u8 0, .int .u32 256]) (t := 49) (parts := #[(0, .const (.int .u8 40)), (4, .const (.int .u32 256))]) (vs := #[(0, .int .u8 40), (4, .int .u32 256)]) rfl (by simp [Act.eval]) (build_ins36 _ _ _) ?_)
  refine HO1.out.mono ?_
  intro e w2 hp
  obtain ⟨p1, c1, p2, c2, p3, c3, rfl, hi1, hB2⟩ := of36v hp
  have HI1 := Lib.hid hi1
  have HB2 : Hid (Below w.heap.size w w2) := HB1.out.trans (hB2.mono HB1.out.size)
  clear HO1 HB1 hB2 hi1 hp
  have HB3 : Hid (Below w.heap.size w ((w2.alloc (.cells #[.int .u32 0, .slice p1 0 c1, .slice p2 0 c2, .bool false, .int .u32 256, .slice p3 1 c3] 29)).alloc (.cells (ins5 ⟨40, 0, 0, 0, 264⟩) 49))) := (HB2.out.alloc HB2.out.size _).alloc (by have := HB2.out.size; simp; omega) _
  have HO2 := Lib.hid (of36 ⟨40, 0, 0, 0, 264⟩ enc36bL enc36b rfl (w2.heap.size + 1) ((w2.alloc (.cells #[.int .u32 0, .slice p1 0 c1, .slice p2 0 c2, .bool false, .int .u32 256, .slice p3 1 c3] 29)).alloc (.cells (ins5 ⟨40, 0, 0, 0, 264⟩) 49)) (by
    have := new_block (w2.alloc (.cells #[.int .u32 0, .slice p1 0 c1, .slice p2 0 c2, .bool false, .int .u32 256, .slice p3 1 c3] 29)) (.cells (ins5 ⟨40, 0, 0, 0, 264⟩) 49)
    simpa using this))
  go_wp2_with (refine wpList_build36 rfl (v := .agg #[.int .u8 40, .int .u8 0, .int .u8 0, .int .u8 0, .int .u32 264]) (t := 49) (parts := #[(0, .const (.int .u8 40)), (4, .const (.int .u32 264))]) (vs := #[(0, .int .u8 40), (4, .int .u32 264)]) rfl (by simp [Act.eval]) (build_ins36 _ _ _) ?_)
  have HX3 : Hid (((w2.alloc (.cells #[.int .u32 0, .slice p1 0 c1, .slice p2 0 c2, .bool false, .int .u32 256, .slice p3 1 c3] 29)).alloc (.cells (ins5 ⟨40, 0, 0, 0, 264⟩) 49)).heap[w2.heap.size]? = some (.cells #[.int .u32 0, .slice p1 0 c1, .slice p2 0 c2, .bool false, .int .u32 256, .slice p3 1 c3] 29 (0, 0))) := Lib.hid ((Below.heap_alloc _ _ _ (by simp)).trans (new_block w2 _))
  have hz3 : w2.heap.size < ((w2.alloc (.cells #[.int .u32 0, .slice p1 0 c1, .slice p2 0 c2, .bool false, .int .u32 256, .slice p3 1 c3] 29)).alloc (.cells (ins5 ⟨40, 0, 0, 0, 264⟩) 49)).heap.size := by simp; omega
  have HI3 := Lib.hid (HI1.out.keep ((alloc_old w2 (.cells #[.int .u32 0, .slice p1 0 c1, .slice p2 0 c2, .bool false, .int .u32 256, .slice p3 1 c3] 29)).alloc (by simp) (.cells (ins5 ⟨40, 0, 0, 0, 264⟩) 49)))
  refine HO2.out.mono ?_
  intro e w4 hp
  obtain ⟨q1, d1, q2, d2, q3, d3, rfl, hi1, hB2⟩ := of36v hp
  have HI4a := Lib.hid (HI3.out.keep hB2)
  have HX4 := Lib.hid ((hB2.block _ hz3).trans HX3.out)
  have HI4b := Lib.hid hi1
  have HB4 : Hid (Below w.heap.size w w4) := HB3.out.trans (hB2.mono HB3.out.size)
  have hz4 : w2.heap.size < w4.heap.size := by have := hB2.size; omega
  clear HO2 HB3 hB2 hi1 hp HX3 HI3 HB2 HI1 hz3
  have HB5 : Hid (Below w.heap.size w ((w4.alloc (.cells #[.int .u32 0, .slice q1 0 d1, .slice q2 0 d2, .bool false, .int .u32 256, .slice q3 1 d3] 29)).alloc (.cells (ins5 ⟨32, 1, 0, 0, 0⟩) 49))) := (HB4.out.alloc HB4.out.size _).alloc (by have := HB4.out.size; simp; omega) _
  have HO3 := Lib.hid (of36 ⟨32, 1, 0, 0, 0⟩ enc36cL enc36c rfl (w4.heap.size + 1) ((w4.alloc (.cells #[.int .u32 0, .slice q1 0 d1, .slice q2 0 d2, .bool false, .int .u32 256, .slice q3 1 d3] 29)).alloc (.cells (ins5 ⟨32, 1, 0, 0, 0⟩) 49)) (by
    have := new_block (w4.alloc (.cells #[.int .u32 0, .slice q1 0 d1, .slice q2 0 d2, .bool false, .int .u32 256, .slice q3 1 d3] 29)) (.cells (ins5 ⟨32, 1, 0, 0, 0⟩) 49)
    simpa using this))
  go_wp2_with (refine wpList_build36 rfl (v := .agg #[.int .u8 32, .int .u8 1, .int .u8 0, .int .u8 0, .int .u32 0]) (t := 49) (parts := #[(0, .const (.int .u8 32)), (1, .const (.int .u8 1))]) (vs := #[(0, .int .u8 32), (1, .int .u8 1)]) rfl (by simp [Act.eval]) (build_insD36 _ _ _) ?_)
  have HK5 := Lib.hid ((alloc_old w4 (.cells #[.int .u32 0, .slice q1 0 d1, .slice q2 0 d2, .bool false, .int .u32 256, .slice q3 1 d3] 29)).alloc (by simp) (.cells (ins5 ⟨32, 1, 0, 0, 0⟩) 49))
  have HX5a : Hid (((w4.alloc (.cells #[.int .u32 0, .slice q1 0 d1, .slice q2 0 d2, .bool false, .int .u32 256, .slice q3 1 d3] 29)).alloc (.cells (ins5 ⟨32, 1, 0, 0, 0⟩) 49)).heap[w2.heap.size]? = some (.cells #[.int .u32 0, .slice p1 0 c1, .slice p2 0 c2, .bool false, .int .u32 256, .slice p3 1 c3] 29 (0, 0))) := Lib.hid ((HK5.out.block _ hz4).trans HX4.out)
  have HX5b : Hid (((w4.alloc (.cells #[.int .u32 0, .slice q1 0 d1, .slice q2 0 d2, .bool false, .int .u32 256, .slice q3 1 d3] 29)).alloc (.cells (ins5 ⟨32, 1, 0, 0, 0⟩) 49)).heap[w4.heap.size]? = some (.cells #[.int .u32 0, .slice q1 0 d1, .slice q2 0 d2, .bool false, .int .u32 256, .slice q3 1 d3] 29 (0, 0))) := Lib.hid ((Below.heap_alloc _ _ _ (by simp)).trans (new_block w4 _))
  have hz5 : w4.heap.size < ((w4.alloc (.cells #[.int .u32 0, .slice q1 0 d1, .slice q2 0 d2, .bool false, .int .u32 256, .slice q3 1 d3] 29)).alloc (.cells (ins5 ⟨32, 1, 0, 0, 0⟩) 49)).heap.size := by simp; omega
  have HI5a := Lib.hid (HI4a.out.keep HK5.out)
  have HI5b := Lib.hid (HI4b.out.keep HK5.out)
  refine HO3.out.mono ?_
  intro e w6 hp
  obtain ⟨r1, f1, r2, f2, r3, f3, rfl, hi1, hB2⟩ := of36v hp
  have HK6 := Lib.hid (hB2.trans ((alloc_old w6 (.cells #[.int .u32 0, .slice r1 0 f1, .slice r2 0 f2, .bool false, .int .u32 256, .slice r3 1 f3] 29)).mono hB2.size))
  have HX7a : Hid ((w6.alloc (.cells #[.int .u32 0, .slice r1 0 f1, .slice r2 0 f2, .bool false, .int .u32 256, .slice r3 1 f3] 29)).heap[w2.heap.size]? = some (.cells #[.int .u32 0, .slice p1 0 c1, .slice p2 0 c2, .bool false, .int .u32 256, .slice p3 1 c3] 29 (0, 0))) := Lib.hid ((HK6.out.block _ (by omega)).trans HX5a.out)
  have HX7b : Hid ((w6.alloc (.cells #[.int .u32 0, .slice r1 0 f1, .slice r2 0 f2, .bool false, .int .u32 256, .slice r3 1 f3] 29)).heap[w4.heap.size]? = some (.cells #[.int .u32 0, .slice q1 0 d1, .slice q2 0 d2, .bool false, .int .u32 256, .slice q3 1 d3] 29 (0, 0))) := Lib.hid ((HK6.out.block _ hz5).trans HX5b.out)
  have HX7c : Hid ((w6.alloc (.cells #[.int .u32 0, .slice r1 0 f1, .slice r2 0 f2, .bool false, .int .u32 256, .slice r3 1 f3] 29)).heap[w6.heap.size]? = some (.cells #[.int .u32 0, .slice r1 0 f1, .slice r2 0 f2, .bool false, .int .u32 256, .slice r3 1 f3] 29 (0, 0))) := Lib.hid (new_block w6 _)
  have HI7a := Lib.hid (HI5a.out.keep HK6.out)
  have HI7b := Lib.hid (HI5b.out.keep HK6.out)
  have HI7c := Lib.hid (hi1.keep (alloc_old w6 (.cells #[.int .u32 0, .slice r1 0 f1, .slice r2 0 f2, .bool false, .int .u32 256, .slice r3 1 f3] 29)))
  have HB7 : Hid (Below w.heap.size w (w6.alloc (.cells #[.int .u32 0, .slice r1 0 f1, .slice r2 0 f2, .bool false, .int .u32 256, .slice r3 1 f3] 29))) := HB5.out.trans (HK6.out.mono HB5.out.size)
  have hz46 : w4.heap.size < w6.heap.size := by have := hB2.size; omega
  clear HO3 HB5 hB2 hi1 hp HX5a HX5b HI5a HI5b HK5 HK6 hz5 HX4 HI4a HI4b HB4
  go_upto_region 4 with fail
  have hz7 : w6.heap.size < (w6.alloc (.cells #[.int .u32 0, .slice r1 0 f1, .slice r2 0 f2, .bool false, .int .u32 256, .slice r3 1 f3] 29)).heap.size := by simp
  generalize w6.alloc (.cells #[.int .u32 0, .slice r1 0 f1, .slice r2 0 f2, .bool false, .int .u32 256, .slice r3 1 f3] 29) = w7 at *
  have a0 : w7.cell? ⟨w2.heap.size, 0, none⟩ = some (.int .u32 0) := Lib.cell_of_heap HX7a.out 0
  have a1 : w7.cell? ⟨w2.heap.size, 1, none⟩ = some (.slice p1 0 c1) := Lib.cell_of_heap HX7a.out 1
  have a2 : w7.cell? ⟨w2.heap.size, 2, none⟩ = some (.slice p2 0 c2) := Lib.cell_of_heap HX7a.out 2
  have a3 : w7.cell? ⟨w2.heap.size, 3, none⟩ = some (.bool false) := Lib.cell_of_heap HX7a.out 3
  have a4 : w7.cell? ⟨w2.heap.size, 4, none⟩ = some (.int .u32 256) := Lib.cell_of_heap HX7a.out 4
  have a5 : w7.cell? ⟨w2.heap.size, 5, none⟩ = some (.slice p3 1 c3) := Lib.cell_of_heap HX7a.out 5
  have b0 : w7.cell? ⟨w4.heap.size, 0, none⟩ = some (.int .u32 0) := Lib.cell_of_heap HX7b.out 0
  have b1 : w7.cell? ⟨w4.heap.size, 1, none⟩ = some (.slice q1 0 d1) := Lib.cell_of_heap HX7b.out 1
  have b2 : w7.cell? ⟨w4.heap.size, 2, none⟩ = some (.slice q2 0 d2) := Lib.cell_of_heap HX7b.out 2
  have b3 : w7.cell? ⟨w4.heap.size, 3, none⟩ = some (.bool false) := Lib.cell_of_heap HX7b.out 3
  have b4 : w7.cell? ⟨w4.heap.size, 4, none⟩ = some (.int .u32 256) := Lib.cell_of_heap HX7b.out 4
  have b5 : w7.cell? ⟨w4.heap.size, 5, none⟩ = some (.slice q3 1 d3) := Lib.cell_of_heap HX7b.out 5
  have k0 : w7.cell? ⟨w6.heap.size, 0, none⟩ = some (.int .u32 0) := Lib.cell_of_heap HX7c.out 0
  have k1 : w7.cell? ⟨w6.heap.size, 1, none⟩ = some (.slice r1 0 f1) := Lib.cell_of_heap HX7c.out 1
  have k2 : w7.cell? ⟨w6.heap.size, 2, none⟩ = some (.slice r2 0 f2) := Lib.cell_of_heap HX7c.out 2
  have k3 : w7.cell? ⟨w6.heap.size, 3, none⟩ = some (.bool false) := Lib.cell_of_heap HX7c.out 3
  have k4 : w7.cell? ⟨w6.heap.size, 4, none⟩ = some (.int .u32 256) := Lib.cell_of_heap HX7c.out 4
  have k5 : w7.cell? ⟨w6.heap.size, 5, none⟩ = some (.slice r3 1 f3) := Lib.cell_of_heap HX7c.out 5
  have HC1 := Lib.hid (audImage36 (imgOne enc36aL) _ _ _ w7 HI7a.out)
  unfold ImgPost imgV at HC1
  rw [aliveA] at HC1
  simp only [imgOne] at HC1
  go_wp2_with fail
  refine HC1.out.mono ?_
  rintro e w8 ⟨v8, rfl, hr8, hB8⟩
  obtain ⟨p8, c8, _, _, rfl, -⟩ := hr8
  have HB8 : Hid (Below w.heap.size w w8) := HB7.out.trans (hB8.mono HB7.out.size)
  have HI8a := Lib.hid (HI7a.out.keep hB8)
  have HI8b := Lib.hid (HI7b.out.keep hB8)
  have HI8c := Lib.hid (HI7c.out.keep hB8)
  replace b0 := cell_keep hB8 (by omega) b0
  replace k0 := cell_keep hB8 (by omega) k0
  replace a0 := cell_keep hB8 (by omega) a0
  replace b1 := cell_keep hB8 (by omega) b1
  replace k1 := cell_keep hB8 (by omega) k1
  replace a1 := cell_keep hB8 (by omega) a1
  replace b2 := cell_keep hB8 (by omega) b2
  replace k2 := cell_keep hB8 (by omega) k2
  replace a2 := cell_keep hB8 (by omega) a2
  replace b3 := cell_keep hB8 (by omega) b3
  replace k3 := cell_keep hB8 (by omega) k3
  replace a3 := cell_keep hB8 (by omega) a3
  replace b4 := cell_keep hB8 (by omega) b4
  replace k4 := cell_keep hB8 (by omega) k4
  replace a4 := cell_keep hB8 (by omega) a4
  replace b5 := cell_keep hB8 (by omega) b5
  replace k5 := cell_keep hB8 (by omega) k5
  replace a5 := cell_keep hB8 (by omega) a5
  have hz8 : w6.heap.size < w8.heap.size := by have := hB8.size; omega
  clear hB8 HC1 HI7a HI7b HI7c HX7a HX7b HX7c HB7 hz7
  have HC2 := Lib.hid (audImage36 (imgOne enc36bL) _ _ _ w8 HI8b.out)
  unfold ImgPost imgV at HC2
  rw [aliveB] at HC2
  simp only [imgOne] at HC2
  go_wp2_with fail
  refine HC2.out.mono ?_
  rintro e w9 ⟨v9, rfl, hr9, hB9⟩
  have HB9 : Hid (Below w.heap.size w w9) := HB8.out.trans (hB9.mono HB8.out.size)
  have HI9a := Lib.hid (HI8a.out.keep hB9)
  have HI9b := Lib.hid (HI8b.out.keep hB9)
  have HI9c := Lib.hid (HI8c.out.keep hB9)
  replace b0 := cell_keep hB9 (by omega) b0
  replace k0 := cell_keep hB9 (by omega) k0
  replace a0 := cell_keep hB9 (by omega) a0
  replace b1 := cell_keep hB9 (by omega) b1
  replace k1 := cell_keep hB9 (by omega) k1
  replace a1 := cell_keep hB9 (by omega) a1
  replace b2 := cell_keep hB9 (by omega) b2
  replace k2 := cell_keep hB9 (by omega) k2
  replace a2 := cell_keep hB9 (by omega) a2
  replace b3 := cell_keep hB9 (by omega) b3
  replace k3 := cell_keep hB9 (by omega) k3
  replace a3 := cell_keep hB9 (by omega) a3
  replace b4 := cell_keep hB9 (by omega) b4
  replace k4 := cell_keep hB9 (by omega) k4
  replace a4 := cell_keep hB9 (by omega) a4
  replace b5 := cell_keep hB9 (by omega) b5
  replace k5 := cell_keep hB9 (by omega) k5
  replace a5 := cell_keep hB9 (by omega) a5
  have hz9 : w6.heap.size < w9.heap.size := by have := hB9.size; omega
  have HS2 := Lib.hid (same36_any _ _ [(256, 2)] (w9.alloc (.cells #[.int .u32 256, .int .u8 2] 51)) (hr9.keep findR_keeps (alloc_old w9 _)) (one_find w9 256 2 (by omega) (by omega)))
  obtain ⟨p9, c9, _, _, rfl, -⟩ := hr9
  simp only [List.length_singleton] at HS2
  clear hB9 HC2 HI8a HI8b HI8c HB8 hz8
  go_wp2_with fail
  refine HS2.out.mono ?_
  rintro e w10 ⟨rfl, hB10⟩
  have hK10 : Below w9.heap.size w9 w10 := Below.trans (alloc_old w9 (.cells #[.int .u32 256, .int .u8 2] 51)) (hB10.mono (by simp))
  have HB10 : Hid (Below w.heap.size w w10) := HB9.out.trans (hK10.mono HB9.out.size)
  have HI10a := Lib.hid (HI9a.out.keep hK10)
  have HI10b := Lib.hid (HI9b.out.keep hK10)
  have HI10c := Lib.hid (HI9c.out.keep hK10)
  replace b0 := cell_keep hK10 (by omega) b0
  replace k0 := cell_keep hK10 (by omega) k0
  replace a0 := cell_keep hK10 (by omega) a0
  replace b1 := cell_keep hK10 (by omega) b1
  replace k1 := cell_keep hK10 (by omega) k1
  replace a1 := cell_keep hK10 (by omega) a1
  replace b2 := cell_keep hK10 (by omega) b2
  replace k2 := cell_keep hK10 (by omega) k2
  replace a2 := cell_keep hK10 (by omega) a2
  replace b3 := cell_keep hK10 (by omega) b3
  replace k3 := cell_keep hK10 (by omega) k3
  replace a3 := cell_keep hK10 (by omega) a3
  replace b4 := cell_keep hK10 (by omega) b4
  replace k4 := cell_keep hK10 (by omega) k4
  replace a4 := cell_keep hK10 (by omega) a4
  replace b5 := cell_keep hK10 (by omega) b5
  replace k5 := cell_keep hK10 (by omega) k5
  replace a5 := cell_keep hK10 (by omega) a5
  have hz10 : w6.heap.size < w10.heap.size := by have := hK10.size; omega
  clear hB10 hK10 HS2 HI9a HI9b HI9c HB9 hz9
  have HC3 := Lib.hid (audImage36 (imgOne enc36cL) _ _ _ w10 HI10c.out)
  unfold ImgPost imgV at HC3
  rw [aliveC] at HC3
  simp only [imgOne] at HC3
  go_wp2_with fail
  refine HC3.out.mono ?_
  rintro e w11 ⟨v11, rfl, hr11, hB11⟩
  have HB11 : Hid (Below w.heap.size w w11) := HB10.out.trans (hB11.mono HB10.out.size)
  have HI11a := Lib.hid (HI10a.out.keep hB11)
  have HI11b := Lib.hid (HI10b.out.keep hB11)
  replace b0 := cell_keep hB11 (by omega) b0
  replace a0 := cell_keep hB11 (by omega) a0
  replace b1 := cell_keep hB11 (by omega) b1
  replace a1 := cell_keep hB11 (by omega) a1
  replace b2 := cell_keep hB11 (by omega) b2
  replace a2 := cell_keep hB11 (by omega) a2
  replace b3 := cell_keep hB11 (by omega) b3
  replace a3 := cell_keep hB11 (by omega) a3
  replace b4 := cell_keep hB11 (by omega) b4
  replace a4 := cell_keep hB11 (by omega) a4
  replace b5 := cell_keep hB11 (by omega) b5
  replace a5 := cell_keep hB11 (by omega) a5
  have hz11 : w6.heap.size < w11.heap.size := by have := hB11.size; omega
  have HS3 := Lib.hid (same36_any _ _ [(256, 3)] (w11.alloc (.cells #[.int .u32 256, .int .u8 3] 51)) (hr11.keep findR_keeps (alloc_old w11 _)) (one_find w11 256 3 (by omega) (by omega)))
  obtain ⟨p11, c11, _, _, rfl, -⟩ := hr11
  simp only [List.length_singleton] at HS3
  clear hB11 HC3 HI10a HI10b HI10c HB10 hz10 k0 k1 k2 k3 k4 k5
  go_wp2_with fail
  refine HS3.out.mono ?_
  rintro e w12 ⟨rfl, hB12⟩
  have hK12 : Below w11.heap.size w11 w12 := Below.trans (alloc_old w11 (.cells #[.int .u32 256, .int .u8 3] 51)) (hB12.mono (by simp))
  have HB12 : Hid (Below w.heap.size w w12) := HB11.out.trans (hK12.mono HB11.out.size)
  have HI12a := Lib.hid (HI11a.out.keep hK12)
  have HI12b := Lib.hid (HI11b.out.keep hK12)
  replace b0 := cell_keep hK12 (by omega) b0
  replace a0 := cell_keep hK12 (by omega) a0
  replace b1 := cell_keep hK12 (by omega) b1
  replace a1 := cell_keep hK12 (by omega) a1
  replace b2 := cell_keep hK12 (by omega) b2
  replace a2 := cell_keep hK12 (by omega) a2
  replace b3 := cell_keep hK12 (by omega) b3
  replace a3 := cell_keep hK12 (by omega) a3
  replace b4 := cell_keep hK12 (by omega) b4
  replace a4 := cell_keep hK12 (by omega) a4
  replace b5 := cell_keep hK12 (by omega) b5
  replace a5 := cell_keep hK12 (by omega) a5
  have hz12 : w6.heap.size < w12.heap.size := by have := hK12.size; omega
  clear hB12 hK12 HS3 HI11a HI11b HB11 hz11
  have HC4 := Lib.hid (audFlow36 (imgOne enc36aL) _ _ _ w12 HI12a.out)
  unfold imgV at HC4
  simp only [imgOne] at HC4
  go_wp2_with fail
  refine HC4.out.mono ?_
  rintro e w13 ⟨v13, l13, rfl, hl13, hr13, hB13⟩
  have hl := flowIs_eq hl13 aliveF
  subst hl
  have HB13 : Hid (Below w.heap.size w w13) := HB12.out.trans (hB13.mono HB12.out.size)
  have HI13a := Lib.hid (HI12a.out.keep hB13)
  have HI13b := Lib.hid (HI12b.out.keep hB13)
  replace b0 := cell_keep hB13 (by omega) b0
  replace a0 := cell_keep hB13 (by omega) a0
  replace b1 := cell_keep hB13 (by omega) b1
  replace a1 := cell_keep hB13 (by omega) a1
  replace b2 := cell_keep hB13 (by omega) b2
  replace a2 := cell_keep hB13 (by omega) a2
  replace b3 := cell_keep hB13 (by omega) b3
  replace a3 := cell_keep hB13 (by omega) a3
  replace b4 := cell_keep hB13 (by omega) b4
  replace a4 := cell_keep hB13 (by omega) a4
  replace b5 := cell_keep hB13 (by omega) b5
  replace a5 := cell_keep hB13 (by omega) a5
  have hz13 : w6.heap.size < w13.heap.size := by have := hB13.size; omega
  have HS4 := Lib.hid (same15n_any _ _ [256] (w13.alloc (.cells #[.int .u32 256] 22)) (hr13.keep numR_keeps (alloc_old w13 _)) (one_num36 w13 256 (by omega)))
  obtain ⟨p13, c13, _, _, rfl, -⟩ := hr13
  simp only [List.length_singleton] at HS4
  clear hB13 HC4 HI12a HI12b HB12 hz12 hl13
  go_wp2_with fail
  refine HS4.out.mono ?_
  rintro e w14 ⟨rfl, hB14⟩
  have hK14 : Below w13.heap.size w13 w14 := Below.trans (alloc_old w13 (.cells #[.int .u32 256] 22)) (hB14.mono (by simp))
  have HB14 : Hid (Below w.heap.size w w14) := HB13.out.trans (hK14.mono HB13.out.size)
  have HI14a := Lib.hid (HI13a.out.keep hK14)
  have HI14b := Lib.hid (HI13b.out.keep hK14)
  replace b0 := cell_keep hK14 (by omega) b0
  replace a0 := cell_keep hK14 (by omega) a0
  replace b1 := cell_keep hK14 (by omega) b1
  replace a1 := cell_keep hK14 (by omega) a1
  replace b2 := cell_keep hK14 (by omega) b2
  replace a2 := cell_keep hK14 (by omega) a2
  replace b3 := cell_keep hK14 (by omega) b3
  replace a3 := cell_keep hK14 (by omega) a3
  replace b4 := cell_keep hK14 (by omega) b4
  replace a4 := cell_keep hK14 (by omega) a4
  replace b5 := cell_keep hK14 (by omega) b5
  replace a5 := cell_keep hK14 (by omega) a5
  have hz14 : w6.heap.size < w14.heap.size := by have := hK14.size; omega
  clear hB14 hK14 HS4 HI13a HI13b HB13 hz13
  have HC5 := Lib.hid (audInd36 (imgOne enc36aL) _ _ _ w14 HI14a.out)
  unfold imgV at HC5
  simp only [imgOne] at HC5
  go_wp2_with fail
  refine HC5.out.mono ?_
  rintro e w15 ⟨bi, rfl, hi15, hB15⟩
  obtain rfl := aliveI hi15
  have HB15 : Hid (Below w.heap.size w w15) := HB14.out.trans (hB15.mono HB14.out.size)
  have HI15b := Lib.hid (HI14b.out.keep hB15)
  replace b0 := cell_keep hB15 (by omega) b0
  replace b1 := cell_keep hB15 (by omega) b1
  replace b2 := cell_keep hB15 (by omega) b2
  replace b3 := cell_keep hB15 (by omega) b3
  replace b4 := cell_keep hB15 (by omega) b4
  replace b5 := cell_keep hB15 (by omega) b5
  have hz15 : w6.heap.size < w15.heap.size := by have := hB15.size; omega
  have HC6 := Lib.hid (audClean36 (.slice none 0 0) (.slice none 0 0) [] [] w15 rowAt_nil rowAt_nil)
  rw [aliveK] at HC6
  clear hB15 HC5 HI14a HI14b HB14 hz14 a0 a1 a2 a3 a4 a5 hi15
  go_wp2_with fail
  refine HC6.out.mono ?_
  rintro e w16 ⟨rfl, hB16⟩
  have HB16 : Hid (Below w.heap.size w w16) := HB15.out.trans (hB16.mono HB15.out.size)
  have HI16b := Lib.hid (HI15b.out.keep hB16)
  replace b0 := cell_keep hB16 (by omega) b0
  replace b1 := cell_keep hB16 (by omega) b1
  replace b2 := cell_keep hB16 (by omega) b2
  replace b3 := cell_keep hB16 (by omega) b3
  replace b4 := cell_keep hB16 (by omega) b4
  replace b5 := cell_keep hB16 (by omega) b5
  have HC7 := Lib.hid (audImage36 (imgOne enc36bL) _ _ _ w16 HI16b.out)
  unfold ImgPost imgV at HC7
  rw [aliveB] at HC7
  simp only [imgOne] at HC7
  clear hB16 HC6 HI15b HB15 hz15
  go_wp2_with fail
  refine HC7.out.mono ?_
  rintro e w17 ⟨v17, rfl, hr17, hB17⟩
  have HB17 : Hid (Below w.heap.size w w17) := HB16.out.trans (hB17.mono HB16.out.size)
  have HC8 := Lib.hid (audClean36 _ (.slice (some ⟨w17.heap.size, 0, none⟩) 1 1) [(256, 2)] [2] (w17.alloc (.cells #[.int .u8 2] 5)) (hr17.keep findR_keeps (alloc_old w17 _)) (owned_row (k := 1) (f := fun x => [Value.int .u8 x]) (base := w17.heap.size) (fun _ => rfl) (World.ownsRow_lit w17 #[.int .u8 2] 1 (Nat.le_refl _) (by unfold maxLen; omega) rfl) (by simp) (fun g o i hi hg hc => ⟨hg, hc 0 _ (by omega) rfl, by have : i = 0 := (by simpa using hi); subst this; simp, by have : i = 0 := (by simpa using hi); subst this; simp⟩)))
  rw [aliveM] at HC8
  obtain ⟨p17, c17, _, _, rfl, -⟩ := hr17
  simp only [List.length_singleton] at HC8
  have HB18 : Hid (Below w.heap.size w (w17.alloc (.cells #[.int .u8 2] 5))) := HB17.out.alloc HB17.out.size _
  clear hB17 HC7 HI16b HB16 b0 b1 b2 b3 b4 b5
  go_wp2_with fail
  refine HC8.out.mono ?_
  rintro e w18 ⟨rfl, hB19⟩
  have HB19 : Hid (Below w.heap.size w w18) := HB18.out.trans (hB19.mono HB18.out.size)
  clear hB19 HC8
  go_wp2
  go_ret
  exact ⟨rfl, HB19.out⟩
end Go.Proofs.YtghopakbefageaaGreat
