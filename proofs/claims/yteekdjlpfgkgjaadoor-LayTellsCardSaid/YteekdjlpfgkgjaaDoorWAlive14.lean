/- The walks of aediculelaw14.three and alive. -/
import Derived.Test.YteekdjlpfgkgjaaDoorWLayFind
namespace Go.Proofs.YteekdjlpfgkgjaaDoor
open Go.RowKit Go.Maps Go.WideMaps
def emptyS : ByteArray := ⟨#[]⟩
def objs14 : List GObj := [⟨⟨#[111]⟩, [⟨⟨#[97]⟩, 0, 1, 8, ⟨#[49, 50, 51, 52, 53, 54, 55, 56]⟩, [], []⟩, ⟨⟨#[98]⟩, 0, 2, 4, ⟨#[]⟩, [], []⟩, ⟨⟨#[99]⟩, 0, 1, 16, ⟨#[49, 50, 51, 52, 53, 54, 55, 56, 49, 50, 51, 52, 53, 54, 55, 56]⟩, [], []⟩]⟩]
def ThreePost (w : World) (e : Ending) (w' : World) : Prop := ∃ g, e = .returned (.slice (some ⟨g, 0, none⟩) 1 1) ∧ ObjsAt w' (.slice (some ⟨g, 0, none⟩) 1 1) objs14 ∧ Below w.heap.size w w'
set_option maxHeartbeats 1000000 in
theorem three_any (w : World) : Calls Tryd.prog 20 #[] w (ThreePost w) := by
  go_enter Tryd.func20, Tryd.ntmps20
  go_wp2
  go_ret
  refine ⟨_, rfl, ?_, (alloc_old w _).alloc (by simp) _⟩
  have hs : ∀ (W : World) (n y : ByteArray) (bd kd sz : Int), (0 ≤ bd ∧ bd ≤ 255) → (0 ≤ kd ∧ kd ≤ 255) → (0 ≤ sz ∧ sz ≤ 4294967295) → n.size ≤ 140737488355328 → y.size ≤ 140737488355328 → SymIn W ⟨n, bd, kd, sz, y, [], []⟩ (.slice none 0 0) (.slice none 0 0) := fun W n y bd kd sz h1 h2 h3 h4 h5 => ⟨rowAt_nil, rowAt_nil, h1, h2, h3, h4, h5⟩
  refine rowAt_one ⟨_, by simp, by simp [go_sem], by simp [go_sem]; rfl, ?_, by decide⟩ (Nat.le_refl _)
  refine rowAt_three (o := 0) ?_ ?_ ?_ (Nat.le_refl _)
  · exact ⟨_, _, by simp; omega, by simp [go_sem], by simp [go_sem], by simp [go_sem], by simp [go_sem], by simp [go_sem], by simp [go_sem], by simp [go_sem], hs _ _ _ _ _ _ (by decide) (by decide) (by decide) (by decide) (by decide)⟩
  · exact ⟨_, _, by simp; omega, by simp [go_sem], by simp [go_sem], by simp [go_sem], by simp [go_sem], by simp [go_sem], by simp [go_sem], by simp [go_sem], hs _ _ _ _ _ _ (by decide) (by decide) (by decide) (by decide) (by decide)⟩
  · exact ⟨_, _, by simp; omega, by simp [go_sem], by simp [go_sem], by simp [go_sem], by simp [go_sem], by simp [go_sem], by simp [go_sem], by simp [go_sem], hs _ _ _ _ _ _ (by decide) (by decide) (by decide) (by decide) (by decide)⟩
theorem of14 : layOf objs14 [(0, 0), (0, 1), (0, 2)] = ([⟨0, 0, 256⟩, ⟨0, 1, 512⟩, ⟨0, 2, 264⟩], [⟨1, 256, 24⟩, ⟨2, 512, 4⟩], 0) := by kernel_rfl
theorem of14b : layOf objs14 [(0, 3)] = ([], [], 2) := by kernel_rfl
theorem find14 : layFind [⟨0, 0, 256⟩, ⟨0, 1, 512⟩, ⟨0, 2, 264⟩] (0, 2) = (264, true) := by kernel_rfl
theorem at14 : layAt objs14 [⟨0, 0, 256⟩, ⟨0, 1, 512⟩, ⟨0, 2, 264⟩] 515 = ((0, 1), 3, true) := by kernel_rfl
set_option maxRecDepth 100000 in
set_option maxHeartbeats 4000000 in
theorem alive14_any (w : World) : Calls Tryd.prog 6 #[] w fun e w' => e = .returned (.bool true) ∧ Below w.heap.size w w' := by
  go_enter Tryd.func6, Tryd.ntmps6
  go_wp2_with fail
  refine (three_any _).mono ?_
  rintro e w1 ⟨g1, rfl, hO, hB⟩
  have HW := Lib.hid hB; clear hB
  have HO := Lib.hid hO; clear hO
  go_wp2_with fail
  have hp3 : RowAt 2 PlcR (w1.alloc (.cells #[.int .i64 0, .int .i64 0, .int .i64 0, .int .i64 1, .int .i64 0, .int .i64 2] 26)) (.slice (some ⟨w1.heap.size, 0, none⟩) 3 3) [(0, 0), (0, 1), (0, 2)] := by
    refine rowAt_three (o := 0) ⟨?_, ?_, ?_⟩ ⟨?_, ?_, ?_⟩ ⟨?_, ?_, ?_⟩ (Nat.le_refl _) <;> simp [go_sem]
  refine (layOf_any _ _ objs14 [(0, 0), (0, 1), (0, 2)] _ (ObjsAt.keep (alloc_old w1 _) HO.out) hp3 (by decide)).mono ?_
  rw [of14]
  clear hp3 HO
  rintro e w2 ⟨va, vs, rfl, ha, hs, hB⟩
  replace HW := Lib.hid ((HW.out.alloc HW.out.size _).trans (hB.mono (by have := HW.out.size; simp; omega))); clear hB
  have HA := Lib.hid ha
  have HS := Lib.hid hs
  obtain ⟨pa, ca, ba, oa, rfl, hca, -, hpa, hra⟩ := ha
  obtain ⟨ps, cs, bs, os, rfl, hcs, -, hps, hrs⟩ := hs
  obtain rfl := hpa (by decide)
  obtain rfl := hps (by decide)
  clear hpa hps hra hrs
  simp only [List.length_cons, List.length_nil, Nat.zero_add, Nat.reduceAdd] at HA HS hca hcs ⊢
  go_wp2_with fail
  refine (layFind_any _ _ (0, 2) _ HA.out).mono ?_
  rw [find14]
  rintro e w3 ⟨rfl, hB⟩
  replace HW := Lib.hid (HW.out.trans (hB.mono HW.out.size)); replace HA := Lib.hid (RowAt.keep addrR_keeps hB HA.out); replace HS := Lib.hid (RowAt.keep spanR_keeps hB HS.out); clear hB
  go_wp2_with fail
  refine (three_any _).mono ?_
  rintro e w4 ⟨g4, rfl, hO, hB⟩
  have HO := Lib.hid hO; clear hO
  replace HW := Lib.hid (HW.out.trans (hB.mono HW.out.size)); replace HA := Lib.hid (RowAt.keep addrR_keeps hB HA.out); replace HS := Lib.hid (RowAt.keep spanR_keeps hB HS.out); clear hB
  go_wp2_with fail
  refine (layAt_any _ _ objs14 _ 515 _ HO.out HA.out (by omega) (by omega)).mono ?_
  rw [at14]
  rintro e w5 ⟨rfl, hB⟩
  have hpl : PlaceAt (w5.alloc (.cells #[.int .i64 0, .int .i64 1] 26)) w5.heap.size 0 1 := ⟨by simp, by simp [go_sem], by simp [go_sem]⟩
  have HPL := Lib.hid hpl; clear hpl
  replace HW := Lib.hid ((HW.out.trans (hB.mono HW.out.size)).alloc (Nat.le_trans HW.out.size hB.size) (.cells #[.int .i64 0, .int .i64 1] 26)); replace HA := Lib.hid (RowAt.keep addrR_keeps (hB.alloc hB.size (.cells #[.int .i64 0, .int .i64 1] 26)) HA.out); replace HS := Lib.hid (RowAt.keep spanR_keeps (hB.alloc hB.size (.cells #[.int .i64 0, .int .i64 1] 26)) HS.out); clear hB HO
  go_wp2_with fail
  refine (three_any _).mono ?_
  rintro e w6 ⟨g6, rfl, hO, hB⟩
  have HO := Lib.hid hO; clear hO
  replace HW := Lib.hid (HW.out.trans (hB.mono HW.out.size)); replace HA := Lib.hid (RowAt.keep addrR_keeps hB HA.out); replace HS := Lib.hid (RowAt.keep spanR_keeps hB HS.out); replace HPL := Lib.hid (placeAt_keep hB HPL.out); clear hB
  go_wp2_with fail
  have hp1 : RowAt 2 PlcR (w6.alloc (.cells #[.int .i64 0, .int .i64 3] 26)) (.slice (some ⟨w6.heap.size, 0, none⟩) 1 1) [(0, 3)] := by
    refine rowAt_one (o := 0) ⟨?_, ?_, ?_⟩ (Nat.le_refl _) <;> simp [go_sem]
  refine (layOf_any _ _ objs14 [(0, 3)] _ (ObjsAt.keep (alloc_old w6 _) HO.out) hp1 (by decide)).mono ?_
  rw [of14b]
  clear hp1 HO
  rintro e w7 ⟨va2, vs2, rfl, -, -, hB⟩
  have hB6 : Below w6.heap.size w6 w7 := (alloc_old w6 _).trans (hB.mono (by simp))
  replace HW := Lib.hid (HW.out.trans (hB6.mono HW.out.size)); replace HA := Lib.hid (RowAt.keep addrR_keeps hB6 HA.out); replace HS := Lib.hid (RowAt.keep spanR_keeps hB6 HS.out); replace HPL := Lib.hid (placeAt_keep hB6 HPL.out); clear hB hB6
  obtain ⟨_, _, _, _, e1, -, -, f1, hra⟩ := HA.out
  cases e1
  cases f1 (by decide)
  obtain ⟨_, _, _, _, e2, -, -, f2, hrs⟩ := HS.out
  cases e2
  cases f2 (by decide)
  obtain ⟨-, -, -, a0, -⟩ := hra 0 (by decide)
  obtain ⟨-, -, -, a1, -⟩ := hra 1 (by decide)
  obtain ⟨-, -, -, a2, -⟩ := hra 2 (by decide)
  obtain ⟨-, s0, s1, s2, -⟩ := hrs 0 (by decide)
  obtain ⟨-, t0, t1, t2, -⟩ := hrs 1 (by decide)
  obtain ⟨-, l0, l1⟩ := HPL.out
  simp only [List.getElem_cons_zero, List.getElem_cons_succ, Nat.zero_mul, Nat.one_mul, Nat.reduceMul, Nat.add_zero] at a0 a1 a2 s0 s1 s2 t0 t1 t2
  clear hra hrs f1 f2
  go_wp2
  go_ret
  exact ⟨rfl, HW.out⟩
end Go.Proofs.YteekdjlpfgkgjaaDoor
