/- The walks of insn.Encode, at the instructions of the law's aliveness. What is amiss in an image, segment by segment. No program in sight. A map with keys of any kind as a function, over the kit's word ownsMap. No program in sight. The walk of word.Get. The walk of insn.Decode. What audit.look keeps: a box, a row of addresses, a map from addresses to lines. An image's flow: what a search finds. No program in sight. The lines of an image that lie in a segment. No program in sight. -/
import Derived.Test.YtghopakbefageaaGreatBt20
import Derived.Test.YtghopakbefageaaGreatBt19
import Derived.DeepKeys4
import Derived.Test.YtghopakbefageaaGreatBt21
import Derived.Test.YtghopakbefageaaGreatRows
import Derived.Lib.Hide
import Derived.Laws.BitsAllLaws
import Derived.Lib.Strings
import Derived.Test.YtghopakbefageaaGreatBt23
namespace Go.Proofs.YtghopakbefageaaGreat
open Go.RowKit Go.Maps
theorem conv4 (l : BL) (W : World) (g : Nat) (hc : ∀ j (hj : j < l.length), W.cell? ⟨g, j, none⟩ = some (.int .u8 (l[j].toNat : Int))) : (convert 31 9 (.slice (some ⟨g, 0, none⟩) l.length 4)).run Tryz.prog W = .ok (.string (bsOf l)) W :=
  run_convert_bytes_back (P := Tryz.prog) W 31 9 5 ⟨g, 0, none⟩ 4 l Tryz.underlying31 Tryz.underlying5 Tryz.underlying9 (fun j hj => by rw [add_at, Nat.zero_add]; exact hc j hj)
def enc36aL : BL := [40, 0, 0, 0] ++ leB 4 256
set_option maxHeartbeats 2000000 in
set_option maxRecDepth 20000 in
theorem enc36a (w : World) : Calls Tryz.prog 58 #[.agg #[.int .u8 40, .int .u8 0, .int .u8 0, .int .u8 0, .int .u32 256]] w fun e w' => e = .returned (.tuple #[.string (bsOf enc36aL), .int .i64 0]) ∧ Below w.heap.size w w' := by
  have HS : Hid (¬ 9223372036854775807 < (bsOf [40, 0, 0, 0]).size + (bsOf (leB 4 256)).size) := Lib.hid (by rw [bsOf_size, bsOf_size, leB_length]; simp)
  have HE : Hid (bsOf [40, 0, 0, 0] ++ bsOf (leB 4 256) = bsOf enc36aL) := Lib.hid (by rw [bsOf_app]; rfl)
  have HC : Hid (∀ W, Calls Tryz.prog 65 #[.agg #[.int .u8 40, .int .u8 0, .int .u8 0, .int .u8 0, .int .u32 256]] W fun e w' => e = .returned (.int .i64 0) ∧ Below W.heap.size W w') := Lib.hid fun W => by
    have := insCheck_any ⟨40, 0, 0, 0, 256⟩ W (by unfold InsB; simp)
    rw [show insOk ⟨40, 0, 0, 0, 256⟩ = true by decide] at this
    exact this
  have HW := Lib.hid (fun W => wput4 256 W (by omega) (by omega))
  generalize hW : (w.alloc (.cells #[.int .u8 40, .int .u8 0, .int .u8 0, .int .u8 0, .int .u32 256] 49)) = w1
  have b0 : w1.cell? ⟨w.heap.size, 0, none⟩ = some (.int .u8 40) := by subst hW; simp [go_sem]
  have b1 : w1.cell? ⟨w.heap.size, 1, none⟩ = some (.int .u8 0) := by subst hW; simp [go_sem]
  have b2 : w1.cell? ⟨w.heap.size, 2, none⟩ = some (.int .u8 0) := by subst hW; simp [go_sem]
  have b3 : w1.cell? ⟨w.heap.size, 3, none⟩ = some (.int .u8 0) := by subst hW; simp [go_sem]
  have b4 : w1.cell? ⟨w.heap.size, 4, none⟩ = some (.int .u32 256) := by subst hW; simp [go_sem]
  have HB1 : Hid (Below w.heap.size w w1) := by subst hW; exact alloc_old w _
  have hz1 : w.heap.size < w1.heap.size := by subst hW; simp
  subst hW
  go_enter Tryz.func58, Tryz.ntmps58
  go_wp2_with fail
  refine (HC.out _).mono ?_
  rintro e w2 ⟨rfl, hB⟩
  replace b0 := cell_keep hB hz1 b0
  replace b1 := cell_keep hB hz1 b1
  replace b2 := cell_keep hB hz1 b2
  replace b3 := cell_keep hB hz1 b3
  replace b4 := cell_keep hB hz1 b4
  have HB2 : Hid (Below w.heap.size w w2) := HB1.out.trans (hB.mono HB1.out.size)
  have hz2 : w.heap.size < w2.heap.size := by have := hB.size; omega
  clear hB HB1 hz1 HC
  go_wp2_with fail
  refine (HW.out _).mono ?_
  rintro e w3 ⟨rfl, hB⟩
  replace b0 := cell_keep hB hz2 b0
  replace b1 := cell_keep hB hz2 b1
  replace b2 := cell_keep hB hz2 b2
  replace b3 := cell_keep hB hz2 b3
  have HB3 : Hid (Below w.heap.size w w3) := HB2.out.trans (hB.mono HB2.out.size)
  clear hB HB2 b4
  have hcv := conv4 [40, 0, 0, 0] (w3.alloc (.cells #[.int .u8 40, .int .u8 0, .int .u8 0, .int .u8 0] 5)) w3.heap.size (fun j hj => by
    match j, hj with
    | 0, _ => simp [go_sem]
    | 1, _ => simp [go_sem]
    | 2, _ => simp [go_sem]
    | 3, _ => simp [go_sem])
  have hor : bits BinOp.or IntKind.u8 0 0 = 0 := by decide +kernel
  have hs := HS.out
  have he := HE.out
  simp only [List.length_cons, List.length_nil, Nat.zero_add, Nat.reduceAdd] at hcv
  generalize bsOf [40, 0, 0, 0] = S0 at hs he hcv
  generalize bsOf (leB 4 256) = S1 at hs he
  have HE2 := Lib.hid he; clear he
  have HB4 : Hid (Below w.heap.size w (w3.alloc (.cells #[.int .u8 40, .int .u8 0, .int .u8 0, .int .u8 0] 5))) := HB3.out.alloc HB3.out.size _
  go_wp2
  go_ret2
  rw [← HE2.out]
  exact ⟨rfl, HB4.out⟩
def enc36bL : BL := [40, 0, 0, 0] ++ leB 4 264
set_option maxHeartbeats 2000000 in
set_option maxRecDepth 20000 in
theorem enc36b (w : World) : Calls Tryz.prog 58 #[.agg #[.int .u8 40, .int .u8 0, .int .u8 0, .int .u8 0, .int .u32 264]] w fun e w' => e = .returned (.tuple #[.string (bsOf enc36bL), .int .i64 0]) ∧ Below w.heap.size w w' := by
  have HS : Hid (¬ 9223372036854775807 < (bsOf [40, 0, 0, 0]).size + (bsOf (leB 4 264)).size) := Lib.hid (by rw [bsOf_size, bsOf_size, leB_length]; simp)
  have HE : Hid (bsOf [40, 0, 0, 0] ++ bsOf (leB 4 264) = bsOf enc36bL) := Lib.hid (by rw [bsOf_app]; rfl)
  have HC : Hid (∀ W, Calls Tryz.prog 65 #[.agg #[.int .u8 40, .int .u8 0, .int .u8 0, .int .u8 0, .int .u32 264]] W fun e w' => e = .returned (.int .i64 0) ∧ Below W.heap.size W w') := Lib.hid fun W => by
    have := insCheck_any ⟨40, 0, 0, 0, 264⟩ W (by unfold InsB; simp)
    rw [show insOk ⟨40, 0, 0, 0, 264⟩ = true by decide] at this
    exact this
  have HW := Lib.hid (fun W => wput4 264 W (by omega) (by omega))
  generalize hW : (w.alloc (.cells #[.int .u8 40, .int .u8 0, .int .u8 0, .int .u8 0, .int .u32 264] 49)) = w1
  have b0 : w1.cell? ⟨w.heap.size, 0, none⟩ = some (.int .u8 40) := by subst hW; simp [go_sem]
  have b1 : w1.cell? ⟨w.heap.size, 1, none⟩ = some (.int .u8 0) := by subst hW; simp [go_sem]
  have b2 : w1.cell? ⟨w.heap.size, 2, none⟩ = some (.int .u8 0) := by subst hW; simp [go_sem]
  have b3 : w1.cell? ⟨w.heap.size, 3, none⟩ = some (.int .u8 0) := by subst hW; simp [go_sem]
  have b4 : w1.cell? ⟨w.heap.size, 4, none⟩ = some (.int .u32 264) := by subst hW; simp [go_sem]
  have HB1 : Hid (Below w.heap.size w w1) := by subst hW; exact alloc_old w _
  have hz1 : w.heap.size < w1.heap.size := by subst hW; simp
  subst hW
  go_enter Tryz.func58, Tryz.ntmps58
  go_wp2_with fail
  refine (HC.out _).mono ?_
  rintro e w2 ⟨rfl, hB⟩
  replace b0 := cell_keep hB hz1 b0
  replace b1 := cell_keep hB hz1 b1
  replace b2 := cell_keep hB hz1 b2
  replace b3 := cell_keep hB hz1 b3
  replace b4 := cell_keep hB hz1 b4
  have HB2 : Hid (Below w.heap.size w w2) := HB1.out.trans (hB.mono HB1.out.size)
  have hz2 : w.heap.size < w2.heap.size := by have := hB.size; omega
  clear hB HB1 hz1 HC
  go_wp2_with fail
  refine (HW.out _).mono ?_
  rintro e w3 ⟨rfl, hB⟩
  replace b0 := cell_keep hB hz2 b0
  replace b1 := cell_keep hB hz2 b1
  replace b2 := cell_keep hB hz2 b2
  replace b3 := cell_keep hB hz2 b3
  have HB3 : Hid (Below w.heap.size w w3) := HB2.out.trans (hB.mono HB2.out.size)
  clear hB HB2 b4
  have hcv := conv4 [40, 0, 0, 0] (w3.alloc (.cells #[.int .u8 40, .int .u8 0, .int .u8 0, .int .u8 0] 5)) w3.heap.size (fun j hj => by
    match j, hj with
    | 0, _ => simp [go_sem]
    | 1, _ => simp [go_sem]
    | 2, _ => simp [go_sem]
    | 3, _ => simp [go_sem])
  have hor : bits BinOp.or IntKind.u8 0 0 = 0 := by decide +kernel
  have hs := HS.out
  have he := HE.out
  simp only [List.length_cons, List.length_nil, Nat.zero_add, Nat.reduceAdd] at hcv
  generalize bsOf [40, 0, 0, 0] = S0 at hs he hcv
  generalize bsOf (leB 4 264) = S1 at hs he
  have HE2 := Lib.hid he; clear he
  have HB4 : Hid (Below w.heap.size w (w3.alloc (.cells #[.int .u8 40, .int .u8 0, .int .u8 0, .int .u8 0] 5))) := HB3.out.alloc HB3.out.size _
  go_wp2
  go_ret2
  rw [← HE2.out]
  exact ⟨rfl, HB4.out⟩
def enc36cL : BL := [32, 1, 0, 0] ++ leB 4 0
set_option maxHeartbeats 2000000 in
set_option maxRecDepth 20000 in
theorem enc36c (w : World) : Calls Tryz.prog 58 #[.agg #[.int .u8 32, .int .u8 1, .int .u8 0, .int .u8 0, .int .u32 0]] w fun e w' => e = .returned (.tuple #[.string (bsOf enc36cL), .int .i64 0]) ∧ Below w.heap.size w w' := by
  have HS : Hid (¬ 9223372036854775807 < (bsOf [32, 1, 0, 0]).size + (bsOf (leB 4 0)).size) := Lib.hid (by rw [bsOf_size, bsOf_size, leB_length]; simp)
  have HE : Hid (bsOf [32, 1, 0, 0] ++ bsOf (leB 4 0) = bsOf enc36cL) := Lib.hid (by rw [bsOf_app]; rfl)
  have HC : Hid (∀ W, Calls Tryz.prog 65 #[.agg #[.int .u8 32, .int .u8 1, .int .u8 0, .int .u8 0, .int .u32 0]] W fun e w' => e = .returned (.int .i64 0) ∧ Below W.heap.size W w') := Lib.hid fun W => by
    have := insCheck_any ⟨32, 1, 0, 0, 0⟩ W (by unfold InsB; simp)
    rw [show insOk ⟨32, 1, 0, 0, 0⟩ = true by decide] at this
    exact this
  have HW := Lib.hid (fun W => wput4 0 W (by omega) (by omega))
  generalize hW : (w.alloc (.cells #[.int .u8 32, .int .u8 1, .int .u8 0, .int .u8 0, .int .u32 0] 49)) = w1
  have b0 : w1.cell? ⟨w.heap.size, 0, none⟩ = some (.int .u8 32) := by subst hW; simp [go_sem]
  have b1 : w1.cell? ⟨w.heap.size, 1, none⟩ = some (.int .u8 1) := by subst hW; simp [go_sem]
  have b2 : w1.cell? ⟨w.heap.size, 2, none⟩ = some (.int .u8 0) := by subst hW; simp [go_sem]
  have b3 : w1.cell? ⟨w.heap.size, 3, none⟩ = some (.int .u8 0) := by subst hW; simp [go_sem]
  have b4 : w1.cell? ⟨w.heap.size, 4, none⟩ = some (.int .u32 0) := by subst hW; simp [go_sem]
  have HB1 : Hid (Below w.heap.size w w1) := by subst hW; exact alloc_old w _
  have hz1 : w.heap.size < w1.heap.size := by subst hW; simp
  subst hW
  go_enter Tryz.func58, Tryz.ntmps58
  go_wp2_with fail
  refine (HC.out _).mono ?_
  rintro e w2 ⟨rfl, hB⟩
  replace b0 := cell_keep hB hz1 b0
  replace b1 := cell_keep hB hz1 b1
  replace b2 := cell_keep hB hz1 b2
  replace b3 := cell_keep hB hz1 b3
  replace b4 := cell_keep hB hz1 b4
  have HB2 : Hid (Below w.heap.size w w2) := HB1.out.trans (hB.mono HB1.out.size)
  have hz2 : w.heap.size < w2.heap.size := by have := hB.size; omega
  clear hB HB1 hz1 HC
  go_wp2_with fail
  refine (HW.out _).mono ?_
  rintro e w3 ⟨rfl, hB⟩
  replace b0 := cell_keep hB hz2 b0
  replace b1 := cell_keep hB hz2 b1
  replace b2 := cell_keep hB hz2 b2
  replace b3 := cell_keep hB hz2 b3
  have HB3 : Hid (Below w.heap.size w w3) := HB2.out.trans (hB.mono HB2.out.size)
  clear hB HB2 b4
  have hcv := conv4 [32, 1, 0, 0] (w3.alloc (.cells #[.int .u8 32, .int .u8 1, .int .u8 0, .int .u8 0] 5)) w3.heap.size (fun j hj => by
    match j, hj with
    | 0, _ => simp [go_sem]
    | 1, _ => simp [go_sem]
    | 2, _ => simp [go_sem]
    | 3, _ => simp [go_sem])
  have hor : bits BinOp.or IntKind.u8 1 0 = 1 := by decide +kernel
  have hs := HS.out
  have he := HE.out
  simp only [List.length_cons, List.length_nil, Nat.zero_add, Nat.reduceAdd] at hcv
  generalize bsOf [32, 1, 0, 0] = S0 at hs he hcv
  generalize bsOf (leB 4 0) = S1 at hs he
  have HE2 := Lib.hid he; clear he
  have HB4 : Hid (Below w.heap.size w (w3.alloc (.cells #[.int .u8 32, .int .u8 1, .int .u8 0, .int .u8 0] 5))) := HB3.out.alloc HB3.out.size _
  go_wp2
  go_ret2
  rw [← HE2.out]
  exact ⟨rfl, HB4.out⟩
end Go.Proofs.YtghopakbefageaaGreat
namespace Go.Proofs.YtghopakbefageaaGreat
def fdSeg (m : GMan) (L : List GLn) (s : GSeg) : List (Int × Int) := if s.perm = 5 then (linesSeg s).flatMap (findsL m L) ++ restL s else []
def fdSegs (m : GMan) (L : List GLn) (l : List GSeg) : List (Int × Int) := l.flatMap (fdSeg m L)
def fdTo (m : GMan) (L : List GLn) (s : GSeg) (j : Nat) : List (Int × Int) := (linesTo s j).flatMap (findsL m L)
theorem imageL_yes {x : GImg} (h : imgOkB x = true) : imageL x = fdSegs x.man (linesX x) x.segs := by
  unfold imageL
  rw [if_pos h]
  unfold codeSegs fdSegs
  generalize x.segs = l
  induction l with
  | nil => rfl
  | cons s r ih =>
    rw [List.flatMap_cons]
    unfold fdSeg
    by_cases h5 : s.perm = 5
    · rw [List.filter_cons_of_pos (by simpa using h5), List.flatMap_cons, ih, if_pos h5]; rfl
    · rw [List.filter_cons_of_neg (by simpa using h5), ih, if_neg h5]; rfl
theorem imageL_no {x : GImg} (h : imgOkB x = false) : imageL x = [] := by unfold imageL; rw [h]; rfl
theorem fdSegs_take {m : GMan} {L : List GLn} {l : List GSeg} {k : Nat} (h : k < l.length) : fdSegs m L (l.take (k + 1)) = fdSegs m L (l.take k) ++ fdSeg m L l[k] := by
  unfold fdSegs
  rw [List.take_succ_eq_append_getElem h, List.flatMap_append]
  simp
theorem fdTo_succ (m : GMan) (L : List GLn) (s : GSeg) (j : Nat) : fdTo m L s (j + 1) = fdTo m L s j ++ findsL m L (lnAt s j) := by
  unfold fdTo; rw [linesTo_succ, List.flatMap_append]; simp
theorem fdTo_all (m : GMan) (L : List GLn) (s : GSeg) : fdTo m L s (s.bytes.size / 8) = (linesSeg s).flatMap (findsL m L) := rfl
theorem findsL_len (m : GMan) (L : List GLn) (y : GLn) : (findsL m L y).length ≤ 4 := by
  unfold findsL
  split
  · have h (c : Prop) [Decidable c] (z : Int × Int) : (if c then [z] else []).length ≤ 1 := by split <;> simp
    simp only [List.length_append]
    have h1 := h ((jumpsB y.ins && !hasA L y.ins.imm) = true) (y.addr, 2)
    have h2 := h ((goesB y.ins && !hasA L (w32 (y.addr + 8))) = true) (y.addr, 3)
    have h3 := h (y.ins.op = 50 ∧ (y.ins.imm < 1 ∨ 10 < y.ins.imm)) (y.addr, 4)
    have h4 := h (y.ins.op = 50 ∧ deniedB m y.ins.imm = true) (y.addr, 5)
    omega
  · simp
theorem flat_findsL_len (m : GMan) (L : List GLn) : ∀ l : List GLn, (l.flatMap (findsL m L)).length ≤ 4 * l.length
  | [] => by simp
  | y :: r => by
    have := flat_findsL_len m L r
    have := findsL_len m L y
    rw [List.flatMap_cons, List.length_append, List.length_cons]; omega
theorem restL_len (s : GSeg) : (restL s).length ≤ 1 := by unfold restL; split <;> simp
theorem fdSegs_len (m : GMan) (L : List GLn) : ∀ l : List GSeg, (fdSegs m L l).length ≤ 4 * (codeLines l).length + l.length
  | [] => by simp [fdSegs]
  | s :: r => by
    have ih := fdSegs_len m L r
    unfold fdSegs at ih ⊢
    rw [List.flatMap_cons, codeLines_cons, List.length_append, List.length_append, List.length_cons]
    unfold fdSeg at ih ⊢
    have h1 := flat_findsL_len m L (linesSeg s)
    have h2 := restL_len s
    split
    · rw [List.length_append]; omega
    · simp only [List.length_nil]; omega
theorem findsL_bd {m : GMan} {L : List GLn} {y : GLn} (hy : 0 ≤ y.addr ∧ y.addr ≤ 4294967295) : ∀ z ∈ findsL m L y, (0 ≤ z.1 ∧ z.1 ≤ 4294967295) ∧ (0 ≤ z.2 ∧ z.2 ≤ 255) := by
  intro z hz
  have hk : z.1 = y.addr ∧ 1 ≤ z.2 ∧ z.2 ≤ 5 := by
    unfold findsL at hz
    split at hz
    · have h (c : Prop) [Decidable c] (a k : Int) (h : z ∈ (if c then [(a, k)] else [])) : z.1 = a ∧ z.2 = k := by
        split at h
        · simp at h; subst h; exact ⟨rfl, rfl⟩
        · cases h
      simp only [List.mem_append] at hz
      rcases hz with ((hz | hz) | hz) | hz
      · have := h _ _ _ hz; omega
      · have := h _ _ _ hz; omega
      · have := h _ _ _ hz; omega
      · have := h _ _ _ hz; omega
    · simp at hz; subst hz; exact ⟨rfl, by omega, by omega⟩
  omega
theorem fdSegs_bd {m : GMan} {L : List GLn} : ∀ (l : List GSeg) (fr : Int), 0 ≤ fr → segsOkGo fr l = true → ∀ z ∈ fdSegs m L l, (0 ≤ z.1 ∧ z.1 ≤ 4294967295) ∧ (0 ≤ z.2 ∧ z.2 ≤ 255)
  | [], _, _, _, z, hz => by cases hz
  | s :: r, fr, h0, h, z, hz => by
    obtain ⟨h1, h2⟩ := segsGo_cons h
    obtain ⟨-, -, h3, h4, h5⟩ := segOkP_parts h1
    have hr := (round_ge (endOf s)).1
    have he : endOf s = s.addr + s.bytes.size := rfl
    have ih := fdSegs_bd (m := m) (L := L) r _ (by omega) h2
    unfold fdSegs at hz
    rw [List.flatMap_cons] at hz
    rcases List.mem_append.1 hz with hz | hz
    · unfold fdSeg at hz
      split at hz
      · rcases List.mem_append.1 hz with hz | hz
        · obtain ⟨y, hy, hz⟩ := List.mem_flatMap.1 hz
          obtain ⟨k, hk, -, ha⟩ := linesSeg_mem hy
          exact findsL_bd (by omega) z hz
        · unfold restL at hz
          split at hz
          · cases hz
          · simp at hz; subst hz; simp only []; omega
      · cases hz
    · exact ih z hz
def findA (L : List GLn) (a : Int) : Option GLn := L.find? fun y => decide (y.addr = a)
theorem findA_mem : ∀ {L : List GLn}, (L.Pairwise fun a b => a.addr < b.addr) → ∀ {y : GLn}, y ∈ L → findA L y.addr = some y
  | [], _, y, h => by cases h
  | z :: r, hu, y, h => by
    have hu' := List.pairwise_cons.1 hu
    unfold findA
    rw [List.find?_cons]
    rcases List.mem_cons.1 h with rfl | h
    · simp
    · have := hu'.1 y h
      rw [show decide (z.addr = y.addr) = false by simp; omega]
      exact findA_mem hu'.2 h
theorem lnAt_mem {x : GImg} (h : imgOkB x = true) {k j : Nat} (hk : k < x.segs.length) (h5 : x.segs[k].perm = 5) (hj : j < x.segs[k].bytes.size / 8) : lnAt x.segs[k] j ∈ linesX x := by
  rw [linesX_yes h]
  have hp := code_pre hk h5 (show j + 1 ≤ _ by omega)
  rw [linesTo_succ] at hp
  exact hp.subset (by simp)
end Go.Proofs.YtghopakbefageaaGreat
namespace Go.Proofs.YtghopakbefageaaGreat
open Go.RowKit Go.Maps Go.WideMaps
/-- how keys are laid as values -/
structure KeyEnc (P : Program) (k : TypeId) (α : Type) where
  enc : α → Value
  lit : α → Lit
  ok : α → Prop
  key : ∀ a, ok a → keyOf P k (enc a) = some (lit a)
  inj : ∀ a b, enc a = enc b → a = b
/-- block b is a map of at most n entries: a key's value is f's -/
def MapKFn {P : Program} {k : TypeId} {α : Type} (E : KeyEnc P k α) (w : World) (b n : Nat) (f : α → Option Value) : Prop :=
  ∃ D : DataW Value, w.ownsMap P k mapR b n D ∧ ∀ a, E.ok a → (∀ v, f a = some v → ∀ z, D.atKey (E.lit a) z = .held v) ∧ (f a = none → ∀ z, D.atKey (E.lit a) z = z)
section
variable {P : Program} {k : TypeId} {α : Type} {E : KeyEnc P k α} {w : World} {b n : Nat} {f : α → Option Value}
theorem MapKFn.made (E : KeyEnc P k α) (w : World) : MapKFn E (w.alloc (.map #[] 0)) w.heap.size 0 (fun _ => none) :=
  ⟨_, World.ownsMap_made w P k mapR, fun _ _ => ⟨fun _ h => (by cases h), fun _ _ => rfl⟩⟩
theorem MapKFn.lt (h : MapKFn E w b n f) : b < w.heap.size := by obtain ⟨D, hD, _⟩ := h; exact hD.lt
theorem MapKFn.kept {w' : World} (h : MapKFn E w b n f) (hb : w'.heap[b]? = w.heap[b]?) : MapKFn E w' b n f := by
  obtain ⟨D, ⟨es, clock, h1, h2⟩, hf⟩ := h
  exact ⟨D, ⟨es, clock, hb.trans h1, h2⟩, hf⟩
theorem MapKFn.below {w' : World} {B : Nat} (h : MapKFn E w b n f) (hb : Below B w w') (hB : b < B) : MapKFn E w' b n f := h.kept (hb.block b hB)
theorem MapKFn.alloc (h : MapKFn E w b n f) (o : Obj) : MapKFn E (w.alloc o) b n f := h.kept (Below.heap_alloc w o b h.lt)
theorem MapKFn.drew (h : MapKFn E w b n f) : MapKFn E w.drew b n f := h.kept rfl
theorem MapKFn.mono (h : MapKFn E w b n f) {n' : Nat} (hn : n ≤ n') : MapKFn E w b n' f := by
  obtain ⟨D, hD, hf⟩ := h; exact ⟨D, hD.mono hn, hf⟩
theorem MapKFn.setCell (h : MapKFn E w b n f) {a : Addr} (ha : b ≠ a.block) (u : Value) : MapKFn E (w.setCell a u) b n f := h.kept (Below.heap_setCell w a u b ha)
theorem MapKFn.grown {w' : World} {r : Nat} (h : MapKFn E w b n f) (hg : w.grownBy w' (some r)) (hne : b ≠ r) : MapKFn E w' b n f := h.kept (hg.block b h.lt (by simpa using hne))
theorem MapKFn.look {t e : TypeId} (h : MapKFn E w b n f) (K : Keyed P k) (ht : P.underlying t = some (.map k e)) {z : Value} (hz : (zeroValue e).run P w = .ok z w) {a : α} (ha : E.ok a) :
    (Instr.lookup t (.map (some b)) (E.enc a) false).run P w = .ok ((f a).getD z) w := by
  obtain ⟨D, hD, hf⟩ := h
  obtain ⟨v, ps, hrun, hR⟩ := hD.lookup K ht hz (zd := .held z) (zp := []) rfl (E.key a ha)
  rw [hrun]
  obtain ⟨h1, h2⟩ := hf a ha
  cases hfs : f a with
  | none =>
    rw [h2 hfs] at hR
    simp [mapR] at hR
    rw [hR.1]; rfl
  | some u =>
    rw [h1 u hfs] at hR
    simp [mapR] at hR
    rw [hR.1]; rfl
theorem MapKFn.look_ok {t e : TypeId} (h : MapKFn E w b n f) (K : Keyed P k) (ht : P.underlying t = some (.map k e)) {z : Value} (hz : (zeroValue e).run P w = .ok z w) {a : α} (ha : E.ok a) :
    (Instr.lookup t (.map (some b)) (E.enc a) true).run P w = .ok (.tuple #[(f a).getD z, .bool (f a).isSome]) w := by
  obtain ⟨D, hD, hf⟩ := h
  obtain ⟨v, ps, hrun, hR⟩ := hD.look_ok K ht hz (zd := .held z) (zp := []) rfl (E.key a ha)
  rw [hrun]
  obtain ⟨h1, h2⟩ := hf a ha
  cases hfs : f a with
  | none =>
    rw [Maps.has_false_of_atKey (h2 hfs)]
    rw [h2 hfs] at hR
    simp [mapR] at hR
    rw [hR.1]; rfl
  | some u =>
    rw [Maps.has_true_of_atKey (h1 u hfs)]
    rw [h1 u hfs] at hR
    simp [mapR] at hR
    rw [hR.1]; rfl
theorem MapKFn.put [DecidableEq α] {t e : TypeId} (h : MapKFn E w b n f) (K : Keyed P k) (ht : P.underlying t = some (.map k e)) (hn : n < maxLen) {a : α} (ha : E.ok a) (v : Value) :
    ∃ w', (Instr.mapUpdate t (.map (some b)) (E.enc a) v).run P w = .ok () w' ∧ MapKFn E w' b (n + 1) (fun x => if x = a then some v else f x) ∧ w.grownBy w' (some b) := by
  obtain ⟨D, hD, hf⟩ := h
  obtain ⟨w', hrun, hD', hg⟩ := hD.update K ht hn (E.key a ha) (val := v) (d := .held v) (ps := []) rfl
  refine ⟨w', hrun, ⟨_, hD', fun l hl0 => ?_⟩, hg⟩
  obtain ⟨h1, h2⟩ := hf l hl0
  by_cases hl : l = a
  · subst hl
    refine ⟨fun u hu z => ?_, fun hu => by simp at hu⟩
    simp at hu
    subst hu
    exact Maps.atKey_put_same hD.isMap (K.key (E.key l ha)) _ _
  · have hne : E.lit l ≠ E.lit a := fun e => hl (E.inj _ _ (K.inj (E.key l hl0) (e ▸ E.key a ha)))
    refine ⟨fun u hu z => ?_, fun hu z => ?_⟩
    · rw [Maps.atKey_put_other hne]; simp [hl] at hu; exact h1 u hu z
    · rw [Maps.atKey_put_other hne]; simp [hl] at hu; exact h2 hu z
end
theorem wpList_lookK {P : Program} {α : Type} {k : TypeId} {E : KeyEnc P k α} (w : World) {ops : Array Oper} {rest : List Oper} {o : Oper} {a : Act} {Q : Exit → Act → World → Prop} {b n : Nat} {f : α → Option Value}
    (hg : o.guard = none) (m x : Operand) (t : TypeId) (hop : o.op = Op.lookup t m x false)
    (e : TypeId) (K : Keyed P k) (ht : P.underlying t = some (.map k e)) {z : Value} (hz : (zeroValue e).run P w = .ok z w)
    (hm : a.eval m = .map (some b)) (hown : MapKFn E w b n f) (s : α) (hx : a.eval x = E.enc s) (hs : E.ok s) {v : Value} (hv : (f s).getD z = v)
    (hK : wpList P ops Q rest (a.put o.dst v) w) :
    wpList P ops Q (o :: rest) a w := by
  refine wpList_plain hg fun K' hK' => ?_
  have hrun := hown.look K ht hz hs
  rw [hv] at hrun
  unfold Oper.wp
  simp [execOp, hop, hm, hx, hrun, Result.andThen]
  exact hK' _ _ hK
theorem wpList_lookK_ok {P : Program} {α : Type} {k : TypeId} {E : KeyEnc P k α} (w : World) {ops : Array Oper} {rest : List Oper} {o : Oper} {a : Act} {Q : Exit → Act → World → Prop} {b n : Nat} {f : α → Option Value}
    (hg : o.guard = none) (m x : Operand) (t : TypeId) (hop : o.op = Op.lookup t m x true)
    (e : TypeId) (K : Keyed P k) (ht : P.underlying t = some (.map k e)) {z : Value} (hz : (zeroValue e).run P w = .ok z w)
    (hm : a.eval m = .map (some b)) (hown : MapKFn E w b n f) (s : α) (hx : a.eval x = E.enc s) (hs : E.ok s) {v : Value} (hv : (f s).getD z = v) {is : Bool} (hi : (f s).isSome = is)
    (hK : wpList P ops Q rest (a.put o.dst (.tuple #[v, .bool is])) w) :
    wpList P ops Q (o :: rest) a w := by
  refine wpList_plain hg fun K' hK' => ?_
  have hrun := hown.look_ok K ht hz hs
  rw [hv, hi] at hrun
  unfold Oper.wp
  simp [execOp, hop, hm, hx, hrun, Result.andThen]
  exact hK' _ _ hK
theorem wpList_putK {P : Program} {α : Type} [DecidableEq α] {k : TypeId} {E : KeyEnc P k α} (w : World) {ops : Array Oper} {rest : List Oper} {o : Oper} {a : Act} {Q : Exit → Act → World → Prop} {b n : Nat} {f : α → Option Value}
    (hg : o.guard = none) (m x v : Operand) (t : TypeId) (hop : o.op = Op.mapUpdate t m x v)
    (e : TypeId) (K : Keyed P k) (ht : P.underlying t = some (.map k e))
    (hm : a.eval m = .map (some b)) (hown : MapKFn E w b n f) (hn : n < maxLen) (s : α) (val : Value) (hx : a.eval x = E.enc s) (hv : a.eval v = val) (hs : E.ok s)
    (hK : ∀ w', MapKFn E w' b (n + 1) (fun l => if l = s then some val else f l) → w.grownBy w' (some b) → wpList P ops Q rest (a.put o.dst undef) w') :
    wpList P ops Q (o :: rest) a w := by
  refine wpList_plain hg fun K' hK' => ?_
  obtain ⟨w', hrun, r1, r2⟩ := hown.put K ht hn hs val
  unfold Oper.wp
  simp [execOp, hop, hm, hx, hv, hrun, Result.andThen]
  exact hK' _ _ (hK w' r1 r2)
end Go.Proofs.YtghopakbefageaaGreat
namespace Go.Proofs.YtghopakbefageaaGreat
open Go.RowKit
theorem leV_snoc : ∀ (l : BL) (b : UInt8), leV (l ++ [b]) = leV l + b.toNat * pow256 l.length
  | [], b => by simp [leV, pow256]
  | x :: r, b => by
    rw [List.cons_append, leV, leV_snoc r b, leV, List.length_cons, pow256]
    rw [Int.mul_add, ← Int.add_assoc, Int.mul_left_comm]
theorem or_shift (a b k : Nat) (h : a < 2 ^ k) : a ||| b <<< k = a + b * 2 ^ k := by
  rw [Nat.or_comm, Nat.shiftLeft_eq, Nat.mul_comm b, ← Nat.two_pow_add_eq_or_of_lt h, Nat.add_comm]
theorem pow256_eq : ∀ k : Nat, pow256 k = ((2 ^ (8 * k) : Nat) : Int)
  | 0 => rfl
  | k + 1 => by rw [pow256, pow256_eq k, show 8 * (k + 1) = 8 * k + 8 by omega, Nat.pow_add]; simp; omega
theorem or_byte (l : BL) (b : UInt8) (hl : l.length < 4) : bits .or .u32 (leV l) ((b.toNat : Int) % 4294967296 * 2 ^ (8 * l.length) % 4294967296) = leV (l ++ [b]) := by
  have hv := leV_bd l
  have hb := b.toNat_lt
  rw [leV_snoc, pow256_eq]
  rw [pow256_eq] at hv
  have hp : (2 ^ (8 * l.length) : Nat) ≤ 16777216 := by
    have := Nat.pow_le_pow_right (n := 2) (by omega) (show 8 * l.length ≤ 24 by omega)
    exact this
  have hm : b.toNat * 2 ^ (8 * l.length) < 4294967296 := by
    have := Nat.mul_le_mul (show b.toNat ≤ 255 by omega) hp
    omega
  obtain ⟨a, ha⟩ := Int.eq_ofNat_of_zero_le hv.1
  have e1 : ((b.toNat : Int) % 4294967296 * 2 ^ (8 * l.length) % 4294967296) = ((b.toNat * 2 ^ (8 * l.length) : Nat) : Int) := by
    rw [Int.emod_eq_of_lt (a := (b.toNat : Int)) (by omega) (by omega)]
    rw [show (b.toNat : Int) * 2 ^ (8 * l.length) = ((b.toNat * 2 ^ (8 * l.length) : Nat) : Int) by simp]
    exact Int.emod_eq_of_lt (by omega) (by omega)
  rw [e1, ha]
  rw [ha] at hv
  have ha2 : a < 2 ^ (8 * l.length) := by omega
  rw [u32_or_nat a _ (by omega) hm, ← Nat.shiftLeft_eq, or_shift a b.toNat _ ha2]
  simp
set_option maxHeartbeats 1000000 in
set_option maxRecDepth 100000 in
theorem wordGet_any (s : ByteArray) (w : World) (h1 : 1 ≤ s.size) (h4 : s.size ≤ 4) :
    Calls Tryz.prog 64 #[.string s] w fun e w' => e = .returned (.tuple #[.int .u32 (leV s.data.toList), .int .i64 0]) ∧ w = w' := by
  have d1 : decide ((s.size : Int) < 1) = false := by simp; omega
  have d4 : decide ((4 : Int) < (s.size : Int)) = false := by simp; omega
  have d4' : decide (4 < s.size) = false := by simp; omega
  go_enter Tryz.func64, Tryz.ntmps64
  go_wp2
  go_loopw [2, 15] (fun v2 v15 wr => ∃ k : Nat, k ≤ s.size ∧ v15 = .int .i64 k ∧ v2 = .int .u32 (leV (s.data.toList.take k)) ∧ w = wr) (fun _ v15 _ => s.size - (intOf v15).toNat)
  case atStart => exact ⟨0, Nat.zero_le _, rfl, rfl, rfl⟩
  case round =>
    obtain ⟨k, hk, rfl, rfl, rfl⟩ := hrel
    by_cases hlt : k < s.size
    · have HE : Hid (bits .or .u32 (leV (s.data.toList.take k)) ((s[k].toNat : Int) % 4294967296 * 2 ^ (8 * k) % 4294967296) = leV (s.data.toList.take (k + 1))) := by
        have hl : (s.data.toList.take k).length = k := by rw [List.length_take, len_list]; omega
        have := or_byte (s.data.toList.take k) s[k] (by omega)
        rw [hl] at this
        rw [Hid, this, List.take_succ_eq_append_getElem (by rw [len_list]; exact hlt)]
        rfl
      go_wp2
      exact ⟨⟨k + 1, by omega, by go_num, by rw [HE.out], trivial⟩, by simp [intOf]; omega⟩
    · have HT : Hid (s.data.toList.take k = s.data.toList) := List.take_of_length_le (by rw [len_list]; omega)
      rw [HT.out]
      go_wp2
      go_ret2
      exact ⟨rfl, rfl⟩
end Go.Proofs.YtghopakbefageaaGreat
namespace Go.Proofs.YtghopakbefageaaGreat
open Go.RowKit
def insOf (s : List UInt8) : GIns := (decI s).getD ins0
theorem list8 {s : List UInt8} (h : s.length = 8) : ∃ o r b z i0 i1 i2 i3, s = [o, r, b, z, i0, i1, i2, i3] := by
  match s, h with
  | [o, r, b, z, i0, i1, i2, i3], _ => exact ⟨o, r, b, z, i0, i1, i2, i3, rfl⟩
theorem raw_le (i0 i1 i2 i3 : UInt8) : leV [i0, i1, i2, i3] = i0.toNat + 256 * i1.toNat + 65536 * i2.toNat + 16777216 * i3.toNat := by
  simp only [leV]; omega
theorem rawB {s : List UInt8} : InsB (rawI s) := by
  unfold rawI
  split
  · rename_i o r b z i0 i1 i2 i3
    have h0 := o.toNat_lt; have h1 := r.toNat_lt; have h2 := b.toNat_lt; have h4 := i0.toNat_lt; have h5 := i1.toNat_lt; have h6 := i2.toNat_lt; have h7 := i3.toNat_lt
    refine ⟨?_, ?_, ?_, ?_, ?_⟩ <;> simp only [] <;> omega
  · unfold InsB ins0; simp
theorem and15 (r : UInt8) : bits .and .u8 (r.toNat : Int) 15 = (r.toNat : Int) % 16 := by
  have h : ∀ k : Fin 256, bits .and .u8 ((k.val : Nat) : Int) 15 = ((k.val : Nat) : Int) % 16 := by decide +kernel
  exact h ⟨r.toNat, r.toNat_lt⟩
theorem extract8 {s e : ByteArray} {o r b z i0 i1 i2 i3 : UInt8} (hl : s.data.toList = [o, r, b, z, i0, i1, i2, i3]) (he : s.extract 4 8 = e) : e.data.toList = [i0, i1, i2, i3] := by
  subst he
  rw [Lib.extract_data, hl]
  rfl
theorem byteB {s : ByteArray} {k : Nat} (h : k < s.size) {c : UInt8} (hl : s.data.toList[k]? = some c) : s[k] = c := by
  have h2 : s.data.toList[k]? = some s[k] := by
    rw [List.getElem?_eq_getElem (by rw [len_list]; exact h)]; rfl
  rw [hl] at h2
  exact (Option.some.inj h2).symm
theorem dec_bad {s : List UInt8} (h : ¬ (s.length = 8 ∧ (s.getD 3 0).toNat = 0)) : decI s = none := by
  unfold decI
  rw [if_neg fun ⟨h1, h2, _⟩ => h ⟨h1, h2⟩]
theorem dec_at {s : List UInt8} (h1 : s.length = 8) (h2 : (s.getD 3 0).toNat = 0) : insOf s = (if insOk (rawI s) = true then rawI s else ins0) ∧ (decI s).isSome = insOk (rawI s) := by
  unfold insOf decI
  by_cases h : insOk (rawI s) = true
  · rw [if_pos ⟨h1, h2, h⟩, if_pos h, h]; exact ⟨rfl, rfl⟩
  · rw [if_neg fun hh => h hh.2.2, if_neg h]
    refine ⟨rfl, ?_⟩
    cases hh : insOk (rawI s) with
    | true => exact absurd hh h
    | false => rfl
set_option maxHeartbeats 1000000 in
set_option maxRecDepth 100000 in
theorem insDec_any (s : ByteArray) (w : World) : Calls Tryz.prog 43 #[.string s] w fun e w' => e = .returned (.tuple #[insV (insOf s.data.toList), .int .i64 (erI (decI s.data.toList).isSome 7)]) ∧ Below w.heap.size w w' := by
  by_cases h8 : s.size = 8
  · obtain ⟨o, r, b, z, i0, i1, i2, i3, hl⟩ := list8 (s := s.data.toList) (by simpa using h8)
    have HL := Lib.hid hl
    have HRB := Lib.hid (rawB (s := s.data.toList))
    obtain ⟨e4, he⟩ : ∃ e4, s.extract 4 8 = e4 := ⟨_, rfl⟩
    have HE := Lib.hid (extract8 hl he)
    have he4 : e4.size = 4 := by rw [← len_list, HE.out]; rfl
    have HWG := Lib.hid (fun W => wordGet_any e4 W (by omega) (by omega))
    rw [HE.out, raw_le] at HWG
    have g0 : s[0] = o := byteB (by omega) (by rw [hl]; rfl)
    have g1 : s[1] = r := byteB (by omega) (by rw [hl]; rfl)
    have g2 : s[2] = b := byteB (by omega) (by rw [hl]; rfl)
    have g3 : s[3] = z := byteB (by omega) (by rw [hl]; rfl)
    have HRW : Hid (rawI s.data.toList = ⟨o.toNat, r.toNat % 16, r.toNat / 16, b.toNat, i0.toNat + 256 * i1.toNat + 65536 * i2.toNat + 16777216 * i3.toNat⟩) := Lib.hid (by rw [hl]; rfl)
    have HD := Lib.hid (fun (hz : z.toNat = 0) => dec_at (s := s.data.toList) (by rw [hl]; rfl) (by rw [hl]; exact hz))
    have HN := Lib.hid (fun (hz : ¬ z.toNat = 0) => dec_bad (s := s.data.toList) (by rw [hl]; intro h; exact hz h.2))
    clear hl
    have a15 := and15 r
    generalize (i0.toNat : Int) + 256 * i1.toNat + 65536 * i2.toNat + 16777216 * i3.toNat = im at *
    by_cases hz : z.toNat = 0
    · have hz' : ((z.toNat : Int) != 0) = false := by simp [hz]
      obtain ⟨HD1, HD2⟩ := HD.out hz
      have HD1' := Lib.hid HD1; clear HD1
      have HD2' := Lib.hid HD2; clear HD2 HD HN hz
      go_enter Tryz.func43, Tryz.ntmps43
      go_wp2_with (go_at_call 64; refine (HWG.out _).mono ?_; rintro e w' ⟨rfl, rfl⟩)
      haveI : Nonempty (HW fun _ => True) := ⟨⟨w, trivial⟩⟩
      refine wp_region_marks (fun _ => True) [.r, .r, .r, .r, .r, .r, .r, .r, .r, .r, .r, .r, .u, .p] rfl (by kernel_rfl) trivial ?_
      repeat (refine wpReads_step (fun K hK => ?_); go_simp; refine hK _ ?_; clear hK K)
      refine wpReads_nil ?_
      refine wpTurns_step fun K hK => ?_
      go_simp
      refine hK _ _ trivial ?_
      clear hK K
      refine wpTurns_nil ?_
      simp only [pickP]
      go_wp2
      refine NoPanic.normal ?_
      have HCK := Lib.hid (fun W => insCheck_any (rawI s.data.toList) W HRB.out)
      rw [HRW.out] at HCK HD1' HD2'
      unfold insV at HCK
      simp only [] at HCK
      clear g0 g1 g2 g3 a15 he he4 h8
      generalize (o.toNat : Int) = vo at *
      generalize (r.toNat : Int) % 16 = vd at *
      generalize (r.toNat : Int) / 16 = va at *
      generalize (b.toNat : Int) = vb at *
      clear HWG HRW HRB HL HE
      cases hk : insOk ⟨vo, vd, va, vb, im⟩ with
      | true =>
        rw [hk] at HCK HD1' HD2'
        have HK := Lib.hid hk; clear hk
        simp only [erI] at HCK
        go_wp2_with (go_at_call 65; refine (HCK.out _).mono ?_; rintro e w' ⟨rfl, hB⟩; obtain ⟨hc, hf⟩ := bcell hB; have hzz := hB.size; simp at hzz)
        have HBW : Below w.heap.size w w' := Below.trans (by go_grown) (hB.mono (by simp; omega))
        have q0 : w'.cell? ⟨w.heap.size, 0, none⟩ = some (.int .u8 0) := by rw [hB.cell (by simp; omega)]; simp [go_sem]
        have q1 : w'.cell? ⟨w.heap.size, 1, none⟩ = some (.int .u8 0) := by rw [hB.cell (by simp; omega)]; simp [go_sem]
        have q2 : w'.cell? ⟨w.heap.size, 2, none⟩ = some (.int .u8 0) := by rw [hB.cell (by simp; omega)]; simp [go_sem]
        have q3 : w'.cell? ⟨w.heap.size, 3, none⟩ = some (.int .u8 0) := by rw [hB.cell (by simp; omega)]; simp [go_sem]
        have q4 : w'.cell? ⟨w.heap.size, 4, none⟩ = some (.int .u32 0) := by rw [hB.cell (by simp; omega)]; simp [go_sem]
        exact bodyPost_ret (v := .tuple #[insV ⟨vo, vd, va, vb, im⟩, .int .i64 0]) (by simp [results, Tryz.results43, go_sem, insV, q0, q1, q2, q3, q4]) rfl ⟨by rw [HD1'.out, HD2'.out]; simp [erI], by go_grown⟩
      | false =>
        rw [hk] at HCK HD1' HD2'
        have HK := Lib.hid hk; clear hk
        simp only [erI] at HCK
        go_wp2_with (go_at_call 65; refine (HCK.out _).mono ?_; rintro e w' ⟨rfl, hB⟩; obtain ⟨hc, hf⟩ := bcell hB; have hzz := hB.size; simp at hzz)
        have HBW : Below w.heap.size w w' := Below.trans (by go_grown) (hB.mono (by simp; omega))
        have q0 : w'.cell? ⟨w.heap.size, 0, none⟩ = some (.int .u8 0) := by rw [hB.cell (by simp; omega)]; simp [go_sem]
        have q1 : w'.cell? ⟨w.heap.size, 1, none⟩ = some (.int .u8 0) := by rw [hB.cell (by simp; omega)]; simp [go_sem]
        have q2 : w'.cell? ⟨w.heap.size, 2, none⟩ = some (.int .u8 0) := by rw [hB.cell (by simp; omega)]; simp [go_sem]
        have q3 : w'.cell? ⟨w.heap.size, 3, none⟩ = some (.int .u8 0) := by rw [hB.cell (by simp; omega)]; simp [go_sem]
        have q4 : w'.cell? ⟨w.heap.size, 4, none⟩ = some (.int .u32 0) := by rw [hB.cell (by simp; omega)]; simp [go_sem]
        exact bodyPost_ret (v := .tuple #[insV ins0, .int .i64 7]) (by simp [results, Tryz.results43, go_sem, insV, ins0, q0, q1, q2, q3, q4]) rfl ⟨by rw [HD1'.out, HD2'.out]; simp [erI], by go_grown⟩
    · have hz' : ((z.toNat : Int) != 0) = true := by simp [hz]
      have HD1 := Lib.hid (HN.out hz); clear HD HN hz
      go_enter Tryz.func43, Tryz.ntmps43
      go_wp2
      exact bodyPost_ret (v := .tuple #[insV ins0, .int .i64 7]) (by simp [results, Tryz.results43, go_sem, insV, ins0]) rfl ⟨by unfold insOf; rw [HD1.out]; rfl, by go_grown⟩
  · have HN := Lib.hid (dec_bad (s := s.data.toList) (fun h => h8 (by simpa using h.1)))
    have h8' : ((s.size : Int) != 8) = true := by simp; omega
    clear h8
    go_enter Tryz.func43, Tryz.ntmps43
    go_wp2
    exact bodyPost_ret (v := .tuple #[insV ins0, .int .i64 7]) (by simp [results, Tryz.results43, go_sem, insV, ins0]) rfl ⟨by unfold insOf; rw [HN.out]; rfl, by go_grown⟩
end Go.Proofs.YtghopakbefageaaGreat
namespace Go.Proofs.YtghopakbefageaaGreat
open Go.RowKit Go.Maps
def lineV (y : GLn) : Value := .agg #[.int .u8 y.ins.op, .int .u8 y.ins.d, .int .u8 y.ins.a, .int .u8 y.ins.b, .int .u32 y.ins.imm, .int .u32 y.addr, .bool y.is]
theorem u32Keyed : Keyed Tryz.prog 22 := int_keyed Tryz.underlying22
def u32ok (a : Int) : Prop := 0 ≤ a ∧ a ≤ 4294967295
noncomputable def u32E : KeyEnc Tryz.prog 22 Int where
  enc k := .int .u32 k
  lit k := .int .u32 k
  ok := u32ok
  key k h := keyOf_int_mk Tryz.underlying22 (by unfold u32ok at h; simp [Lit.wf]; exact h)
  inj a b h := by simp at h; exact h
def ln0 : GLn := ⟨0, ins0, false⟩
theorem zeroLine (w : World) : (zeroValue 60).run Tryz.prog w = .ok (lineV ln0) w := by kernel_rfl
def linesF (L : List GLn) (a : Int) : Option Value := (findA L a).map lineV
theorem linesF_put {L : List GLn} {y : GLn} (h : ∀ z ∈ L, z.addr ≠ y.addr) : (fun a => if a = y.addr then some (lineV y) else linesF L a) = linesF (L ++ [y]) := by
  funext a
  unfold linesF findA
  rw [List.find?_append]
  by_cases ha : a = y.addr
  · subst ha
    have hn : L.find? (fun z => decide (z.addr = y.addr)) = none := by
      rw [List.find?_eq_none]
      intro z hz
      simpa using h z hz
    rw [if_pos rfl, hn]
    simp
  · rw [if_neg ha]
    have hn : [y].find? (fun z => decide (z.addr = a)) = none := by
      rw [List.find?_eq_none]
      intro z hz
      simp at hz
      subst hz
      simpa using fun e => ha e.symm
    rw [hn, Option.or_none]
theorem linesF_get (L : List GLn) (a : Int) : (linesF L a).getD (lineV ln0) = lineV ((findA L a).getD ln0) := by
  unfold linesF; cases findA L a <;> rfl
theorem linesF_is (L : List GLn) (a : Int) : (linesF L a).isSome = hasA L a := by
  unfold linesF findA hasA
  rw [Option.isSome_map, List.isSome_find?]
/-- the head of the box: the image's own fields -/
structure CodeH where
  pg : Int
  ve : Value
  vp : Value
  co : Bool
  en : Int
  vs : Value
def codeArr (c : CodeH) (mb : Nat) (v : Value) : Array Value := #[.int .u32 c.pg, c.ve, c.vp, .bool c.co, .int .u32 c.en, c.vs, .map (some mb), v]
structure LookSt (base cb mb : Nat) (c : CodeH) (v : Value) (L : List GLn) (w : World) : Prop where
  box : w.heap[cb]? = some (.cells (codeArr c mb v) 57 (0, 0))
  row : w.ownsRow base 22 1 v L.length (L.map fun y => .int .u32 y.addr)
  map : MapKFn u32E w mb L.length (linesF L)
  cbl : base ≤ cb
  mbl : base ≤ mb
variable {base cb mb : Nat} {c : CodeH} {v : Value} {L : List GLn} {w w' : World}
theorem LookSt.lt (h : LookSt base cb mb c v L w) : cb < w.heap.size := (Array.getElem?_eq_some_iff.1 h.box).1
theorem LookSt.keep (h : LookSt base cb mb c v L w) (hb : Below w.heap.size w w') : LookSt base cb mb c v L w' :=
  ⟨(hb.block _ h.lt).trans h.box, ownsRow_below hb h.row, h.map.below hb h.map.lt, h.cbl, h.mbl⟩
theorem LookSt.ne (h : LookSt base cb mb c v L w) : cb ≠ mb := by
  obtain ⟨D, ⟨es, clock, h1, _⟩, _⟩ := h.map
  have h2 := h.box
  intro e
  rw [e, h1] at h2
  cases h2
theorem LookSt.nev (h : LookSt base cb mb c v L w) : v.ownBlock ≠ some cb := own_ne_box h.row h.box (by decide)
theorem LookSt.nem (h : LookSt base cb mb c v L w) : v.ownBlock ≠ some mb := fun e => by
  obtain ⟨D, ⟨es, clock, h1, _⟩, _⟩ := h.map
  obtain ⟨cur, h2⟩ := own_type h.row e
  rw [h1] at h2
  cases h2
theorem LookSt.box4 {wc w4 : World} (h : LookSt base cb mb c v L w) (hb : Below w.heap.size w wc) (hg : wc.grownBy w4 (some mb)) : w4.heap[cb]? = some (.cells (codeArr c mb v) 57 (0, 0)) :=
  (hg.block cb (by have := hb.size; have := h.lt; omega) (fun e => by cases e; exact h.ne rfl)).trans ((hb.block _ h.lt).trans h.box)
theorem LookSt.row4 {wc w4 : World} (h : LookSt base cb mb c v L w) (hb : Below w.heap.size w wc) (hg : wc.grownBy w4 (some mb)) : w4.ownsRow base 22 1 v L.length (L.map fun y => .int .u32 y.addr) :=
  own_congr h.row fun g hgv => (hg.block g (by have := hb.size; have := (h.row.lt g hgv).2; omega) (fun e => by cases e; exact h.nem hgv)).trans (hb.block _ (h.row.lt g hgv).2)
/-- a line goes into the map, its address onto the row -/
theorem LookSt.add {w0 wc w4 w5 : World} {y : GLn} {v' : Value} {X : Obj} (h : LookSt base cb mb c v L w) (hz : base ≤ w.heap.size) (hn : ∀ z ∈ L, z.addr ≠ y.addr) (hb : Below w.heap.size w wc) (hb0 : Below base w0 w)
    (hM : MapKFn u32E w4 mb (L.length + 1) (fun a => if a = y.addr then some (lineV y) else linesF L a)) (hg : wc.grownBy w4 (some mb))
    (hown : w5.ownsRow base 22 1 v' (L.length + 1) ((L.map fun y => .int .u32 y.addr) ++ [.int .u32 y.addr])) (hg5 : (w4.alloc X).grownBy w5 v.ownBlock) :
    LookSt base cb mb c v' (L ++ [y]) (w5.setCell ⟨cb, 7, none⟩ v') ∧ Below base w0 (w5.setCell ⟨cb, 7, none⟩ v') := by
  have hz4 : w.heap.size ≤ w4.heap.size := by have := hb.size; have := hg.size; omega
  have hb4 := h.box4 hb hg
  have hr4 := h.row4 hb hg
  have hsl := h.lt
  have hml := h.map.lt
  have hb5 : w5.heap[cb]? = some (.cells (codeArr c mb v) 57 (0, 0)) :=
    (hg5.block cb (by simp; omega) (fun e => own_ne_box hr4 hb4 (by decide) e.symm)).trans ((Below.heap_alloc w4 X cb (by omega)).trans hb4)
  have hset : ∀ g, g ≠ cb → (w5.setCell ⟨cb, 7, none⟩ v').heap[g]? = w5.heap[g]? := fun g hgs => Below.heap_setCell _ _ _ _ (by simpa using hgs)
  rw [linesF_put hn] at hM
  have hcbl := h.cbl
  have hmbl := h.mbl
  refine ⟨⟨?_, ?_, ?_, h.cbl, h.mbl⟩, ?_⟩
  · simp [World.setCell, Array.getElem?_modify, hb5, codeArr]
  · rw [List.length_append, List.map_append]
    exact own_congr hown fun g hg' => hset g fun e => own_ne_box hown (e ▸ hb5) (by decide) hg'
  · rw [List.length_append]
    exact ((hM.alloc X).kept (hg5.block mb (by simp; omega) (fun e => h.nem e.symm))).setCell (fun e => h.ne e.symm) _
  · have k1 : Below base w0 wc := hb0.trans (hb.mono (by omega))
    have k2 : Below base w0 w4 := k1.grown hg (by have := hb.size; omega) (fun k hk => by cases hk; exact hmbl)
    have k3 : Below base w0 (w4.alloc X) := k2.alloc (by omega) X
    have k4 : Below base w0 w5 := k3.grown hg5 (by simp; omega) (fun k hk => (h.row.lt k hk).1)
    exact k4.setCell (by exact hcbl) _
theorem look_far {wc w4 w5 : World} {u : Value} {X : Obj} {g : Nat} (hb : Below w.heap.size w wc) (hg : wc.grownBy w4 (some mb)) (hg5 : (w4.alloc X).grownBy w5 v.ownBlock)
    (hgl : g < w.heap.size) (h1 : g ≠ cb) (h2 : g ≠ mb) (h3 : v.ownBlock ≠ some g) : (w5.setCell ⟨cb, 7, none⟩ u).heap[g]? = w.heap[g]? := by
  have hz := hb.size
  have hz4 := hg.size
  rw [Below.heap_setCell _ _ _ _ (by simpa using h1), hg5.block g (by simp; omega) (fun e => h3 e.symm), Below.heap_alloc w4 X g (by omega), hg.block g (by omega) (by simpa using h2), hb.block g hgl]
theorem lnOf_eq (a : Int) (s : List UInt8) : lnOf a s = ⟨a, insOf s, (decI s).isSome⟩ := by
  unfold lnOf insOf
  cases decI s <;> rfl
theorem LookSt.apart {g : Nat} {cs : Array Value} {t : TypeId} (h : LookSt base cb mb c v L w) (hs : w.heap[g]? = some (.cells cs t (0, 0))) (h1 : t ≠ 57) (h2 : 22 ≠ t) : g ≠ cb ∧ g ≠ mb ∧ v.ownBlock ≠ some g := by
  refine ⟨fun e => ?_, fun e => ?_, own_ne_box h.row hs h2⟩
  · have hb := h.box
    rw [← e, hs] at hb
    injection hb with hb; injection hb with _ hb _; exact h1 hb
  · obtain ⟨D, ⟨es, clock, hm, _⟩, _⟩ := h.map
    rw [← e, hs] at hm
    cases hm
end Go.Proofs.YtghopakbefageaaGreat
namespace Go.Proofs.YtghopakbefageaaGreat
def lineOf (L : List GLn) (a : Int) : GLn := (findA L a).getD ⟨0, ins0, false⟩
/-- a row is the flow: it rises, and has just what is reached -/
def InFlow (L : List GLn) (e a : Int) : Prop := hasA L e = true ∧ FlowR L e a
def FlowIs (L : List GLn) (e : Int) (l : List Int) : Prop := l.Pairwise (· < ·) ∧ ∀ a, a ∈ l ↔ InFlow L e a
theorem flowIs_eq {L : List GLn} {e : Int} {a b : List Int} (ha : FlowIs L e a) (hb : FlowIs L e b) : a = b :=
  up_eq a b ha.1 hb.1 fun x => (ha.2 x).trans (hb.2 x).symm
theorem hasA_mem {L : List GLn} {a : Int} : hasA L a = true ↔ ∃ y ∈ L, y.addr = a := by
  unfold hasA
  rw [List.any_eq_true]
  constructor
  · rintro ⟨y, h1, h2⟩; exact ⟨y, h1, of_decide_eq_true h2⟩
  · rintro ⟨y, h1, h2⟩; exact ⟨y, h1, decide_eq_true h2⟩
theorem FlowR.has {L : List GLn} {e a : Int} (h : FlowR L e a) (he : hasA L e = true) : hasA L a = true := by
  cases h with
  | refl => exact he
  | step _ h2 => exact h2.1
structure Bfs (L : List GLn) (e : Int) (q : List Int) (n : Nat) : Prop where
  nd : q.Nodup
  hd : e ∈ q
  mem : ∀ a ∈ q, hasA L a = true ∧ FlowR L e a
  cl : ∀ i (h : i < q.length), i < n → ∀ b ∈ behindL (lineOf L q[i]), hasA L b = true → b ∈ q
theorem Bfs.start {L : List GLn} {e : Int} (h : hasA L e = true) : Bfs L e [e] 0 :=
  ⟨by simp, by simp, fun a ha => by simp at ha; subst ha; exact ⟨h, .refl⟩, fun _ _ h => absurd h (by omega)⟩
theorem lineOf_mem {L : List GLn} {a : Int} (h : hasA L a = true) : lineOf L a ∈ L ∧ (lineOf L a).addr = a := by
  unfold lineOf
  cases hf : findA L a with
  | some y =>
    unfold findA at hf
    have h1 := List.mem_of_find?_eq_some hf
    have h2 := List.find?_some hf
    exact ⟨h1, by simpa using h2⟩
  | none =>
    unfold findA at hf
    obtain ⟨y, hy, he⟩ := hasA_mem.1 h
    have := List.find?_eq_none.1 hf y hy
    simp [he] at this
/-- one more address -/
theorem Bfs.add {L : List GLn} {e : Int} {q : List Int} {n : Nat} (h : Bfs L e q n) (hn : n < q.length) {b : Int} (hb : b ∈ behindL (lineOf L q[n])) (hh : hasA L b = true) (hq : b ∉ q) : Bfs L e (q ++ [b]) n := by
  refine ⟨?_, List.mem_append_left _ h.hd, fun a ha => ?_, fun i hi hin c hc hhc => ?_⟩
  · rw [List.nodup_append]
    refine ⟨h.nd, by simp, fun x hx y hy => ?_⟩
    simp at hy; subst hy
    exact fun e => hq (e ▸ hx)
  · rcases List.mem_append.1 ha with ha | ha
    · exact h.mem a ha
    · simp at ha; subst ha
      have hm := h.mem q[n] (List.getElem_mem hn)
      obtain ⟨h1, h2⟩ := lineOf_mem hm.1
      exact ⟨hh, hm.2.step ⟨hh, _, h1, h2, hb⟩⟩
  · have hil : i < q.length := by omega
    rw [List.getElem_append_left hil] at hc
    exact List.mem_append_left _ (h.cl i hil hin c hc hhc)
theorem Bfs.next {L : List GLn} {e : Int} {q : List Int} {n : Nat} (h : Bfs L e q n) (hn : n < q.length) (hc : ∀ b ∈ behindL (lineOf L q[n]), hasA L b = true → b ∈ q) : Bfs L e q (n + 1) :=
  ⟨h.nd, h.hd, h.mem, fun i hi hin b hb hh => by
    by_cases e : i = n
    · subst e; exact hc b hb hh
    · exact h.cl i hi (by omega) b hb hh⟩
theorem Bfs.all {L : List GLn} {e : Int} {q : List Int} (hu : L.Pairwise fun a b => a.addr < b.addr) (h : Bfs L e q q.length) : ∀ a, a ∈ q ↔ InFlow L e a := by
  have he : hasA L e = true := (h.mem e h.hd).1
  intro a
  constructor
  · intro ha; exact ⟨he, (h.mem a ha).2⟩
  · rintro ⟨-, hr⟩
    induction hr with
    | refl => exact h.hd
    | step h1 h2 ih =>
      obtain ⟨i, hi, rfl⟩ := List.mem_iff_getElem.1 ih
      obtain ⟨hh, y, hy, hya, hb⟩ := h2
      refine h.cl i hi hi _ ?_ hh
      unfold lineOf
      rw [← hya, findA_mem hu hy]
      exact hb
theorem nodup_len : ∀ (q l : List Int), q.Nodup → (∀ x ∈ q, x ∈ l) → q.length ≤ l.length
  | [], _, _, _ => by simp
  | x :: r, l, hn, hs => by
    have hn' := List.nodup_cons.1 hn
    have hx : x ∈ l := hs x (by simp)
    have h1 := nodup_len r (l.erase x) hn'.2 fun y hy => (List.mem_erase_of_ne (fun e => by subst e; exact hn'.1 hy)).2 (hs y (by simp [hy]))
    rw [List.length_erase_of_mem hx] at h1
    have : 0 < l.length := List.length_pos_of_mem hx
    rw [List.length_cons]; omega
theorem Bfs.len {L : List GLn} {e : Int} {q : List Int} {n : Nat} (h : Bfs L e q n) : q.length ≤ L.length := by
  have := nodup_len q (L.map fun y => y.addr) h.nd fun x hx => by
    obtain ⟨y, hy, he⟩ := hasA_mem.1 (h.mem x hx).1
    exact List.mem_map.2 ⟨y, hy, he⟩
  simpa using this
theorem sort_flow {L : List GLn} {e : Int} {q : List Int} (hn : q.Nodup) (h : ∀ a, a ∈ q ↔ InFlow L e a) : FlowIs L e (sortI q) := by
  refine ⟨?_, fun a => (sortI_mem q a).trans (h a)⟩
  have h1 := sortI_up q
  have h2 : (sortI q).Nodup := (List.mergeSort_perm q _).nodup_iff.2 hn
  rw [List.pairwise_iff_getElem] at h1 ⊢
  rw [List.nodup_iff_pairwise_ne, List.pairwise_iff_getElem] at h2
  intro i j hi hj hij
  have := h1 i j hi hj hij
  have := h2 i j hi hj hij
  omega
theorem entry_has {x : GImg} (h : imgOkB x = true) : hasA (linesX x) x.entry = true := by
  obtain ⟨-, -, h8, hsg, hbg⟩ := imgOk_parts h
  obtain ⟨s, hs, hb⟩ := List.any_eq_true.1 hbg
  unfold begP endOf at hb
  simp only [Bool.and_eq_true, decide_eq_true_eq] at hb
  obtain ⟨⟨h5, h1⟩, h2⟩ := hb
  obtain ⟨k, hk, rfl⟩ := List.mem_iff_getElem.1 hs
  have ha := segsGo_align hsg hk
  obtain ⟨j, hj⟩ : ∃ j : Nat, x.entry = x.segs[k].addr + 8 * j := ⟨((x.entry - x.segs[k].addr) / 8).toNat, by omega⟩
  exact hasA_mem.2 ⟨_, lnAt_mem h hk h5 (show j < _ by omega), by rw [lnAt_addr, hj]⟩
theorem flow_no {L : List GLn} {e : Int} (h : L = []) : FlowIs L e [] := by
  subst h
  exact ⟨List.Pairwise.nil, fun a => Iff.intro (fun h => by cases h) (fun h => by obtain ⟨h1, -⟩ := h; cases h1)⟩
end Go.Proofs.YtghopakbefageaaGreat
namespace Go.Proofs.YtghopakbefageaaGreat
def inSeg (s : GSeg) (y : GLn) : Bool := decide (s.addr ≤ y.addr) && decide (y.addr < s.addr + s.bytes.size)
theorem segsGo_lo : ∀ {l : List GSeg} {fr : Int} {k : Nat}, segsOkGo fr l = true → ∀ (h : k < l.length), fr ≤ l[k].addr
  | s :: r, fr, 0, hs, h => (segOkP_parts (segsGo_cons hs).1).2.2.1
  | s :: r, fr, k + 1, hs, h => by
    have hs2 := segsGo_cons hs
    obtain ⟨-, -, h3, h4, -⟩ := segOkP_parts hs2.1
    have hr := (round_ge (endOf s)).1
    have he : endOf s = s.addr + s.bytes.size := rfl
    simp only [List.getElem_cons_succ]
    have := segsGo_lo hs2.2 (k := k) (by simpa using h)
    omega
theorem range_seg : ∀ {l : List GSeg} {fr : Int} {k : Nat}, segsOkGo fr l = true → ∀ (h : k < l.length), (codeLines l).filter (inSeg l[k]) = if l[k].perm = 5 then linesSeg l[k] else []
  | s :: r, fr, 0, hs, h => by
    have hs2 := segsGo_cons hs
    have hr := (round_ge (endOf s)).1
    have he : endOf s = s.addr + s.bytes.size := rfl
    simp only [List.getElem_cons_zero]
    rw [codeLines_cons, List.filter_append]
    have e2 : (codeLines r).filter (inSeg s) = [] := by
      rw [List.filter_eq_nil_iff]
      intro y hy
      have := (codeLines_ge r _ hs2.2 y hy).1
      unfold inSeg
      simp
      omega
    rw [e2, List.append_nil]
    split
    · rw [List.filter_eq_self]
      intro y hy
      obtain ⟨k, hk, -, ha⟩ := linesSeg_mem hy
      unfold inSeg
      simp
      omega
    · rfl
  | s :: r, fr, k + 1, hs, h => by
    have hs2 := segsGo_cons hs
    have hr := (round_ge (endOf s)).1
    have he : endOf s = s.addr + s.bytes.size := rfl
    simp only [List.getElem_cons_succ]
    rw [codeLines_cons, List.filter_append]
    have hk : k < r.length := by simpa using h
    have hlo := segsGo_lo hs2.2 hk
    have e1 : (if s.perm = 5 then linesSeg s else []).filter (inSeg r[k]) = [] := by
      rw [List.filter_eq_nil_iff]
      intro y hy
      split at hy
      · obtain ⟨j, hj, -, ha⟩ := linesSeg_mem hy
        unfold inSeg
        simp
        omega
      · cases hy
    rw [e1, List.nil_append]
    exact range_seg hs2.2 hk
/-- what is amiss in the first j lines, as far as they lie in a segment -/
def fdIn (m : GMan) (L : List GLn) (s : GSeg) (j : Nat) : List (Int × Int) := ((L.take j).filter (inSeg s)).flatMap (findsL m L)
theorem fdIn_zero (m : GMan) (L : List GLn) (s : GSeg) : fdIn m L s 0 = [] := rfl
theorem fdIn_succ (m : GMan) (L : List GLn) (s : GSeg) {j : Nat} (h : j < L.length) : fdIn m L s (j + 1) = fdIn m L s j ++ (if inSeg s L[j] = true then findsL m L L[j] else []) := by
  unfold fdIn
  rw [List.take_succ_eq_append_getElem h, List.filter_append, List.flatMap_append]
  congr 1
  rw [List.filter_cons]
  split <;> simp
theorem fdIn_len (m : GMan) (L : List GLn) (s : GSeg) (j : Nat) : (fdIn m L s j).length ≤ 4 * L.length := by
  have h1 := flat_findsL_len m L ((L.take j).filter (inSeg s))
  have h2 := List.length_filter_le (inSeg s) (L.take j)
  have h3 : (L.take j).length ≤ L.length := by rw [List.length_take]; omega
  unfold fdIn
  omega
theorem fdIn_all {x : GImg} (h : imgOkB x = true) {k : Nat} (hk : k < x.segs.length) : fdIn x.man (linesX x) x.segs[k] (linesX x).length = if x.segs[k].perm = 5 then (linesSeg x.segs[k]).flatMap (findsL x.man (linesX x)) else [] := by
  unfold fdIn
  rw [List.take_length]
  have := range_seg (imgOk_parts h).2.2.2.1 hk
  rw [← linesX_yes h] at this
  rw [this]
  split <;> rfl
theorem fdSeg_rest {m : GMan} {L : List GLn} {s : GSeg} : fdSeg m L s = (if s.perm = 5 then (linesSeg s).flatMap (findsL m L) else []) ++ (if (decide (s.perm = 5) && decide (0 < s.bytes.size % 8)) = true then [(s.addr + (s.bytes.size / 8 * 8 : Nat), 1)] else []) := by
  unfold fdSeg restL
  by_cases h : s.perm = 5
  · by_cases h8 : s.bytes.size % 8 = 0
    · simp [h, h8]
    · have : 0 < s.bytes.size % 8 := by omega
      simp [h, h8, this]
  · simp [h]
theorem fdSegs_pre_len {x : GImg} (h : imgOkB x = true) (k : Nat) : (fdSegs x.man (linesX x) (x.segs.take k)).length ≤ 600000 := by
  have h1 := fdSegs_len x.man (linesX x) x.segs
  have h2 := linesX_len x
  rw [linesX_yes h] at h2
  have h3 := (imgOk_parts h).1
  have h4 : (fdSegs x.man (linesX x) (x.segs.take k)).length ≤ (fdSegs x.man (linesX x) x.segs).length := by
    have : x.segs = x.segs.take k ++ x.segs.drop k := (List.take_append_drop k x.segs).symm
    conv => rhs; rw [this]
    unfold fdSegs
    rw [List.flatMap_append, List.length_append]
    omega
  omega
end Go.Proofs.YtghopakbefageaaGreat
