/- The walk of aediculeref33.name. The walk of aediculeref33.told. The walk of aediculeref33.Insn. The walk of the document's cut: a text's pieces between bytes. The walks of the document's number and register; they say what dis.number and dis.register say. The walk of the document's register. -/
import Derived.Test.YtoonkfhphbojcaaGreatDoorBv22
import Derived.Test.YtoonkfhphbojcaaGreatDoorBv14
import Derived.Test.YtoonkfhphbojcaaGreatDoorBv20
import Derived.OwnWalk
namespace Go.Proofs.YtoonkfhphbojcaaGreatDoor
open Go.RowKit Go.Maps
def allN : List BL := [[], [97, 100, 100], [115, 117, 98], [109, 117, 108], [100, 105, 118, 117], [114, 101, 109, 117], [97, 110, 100], [111, 114], [120, 111, 114], [115, 104, 108], [115, 104, 114], [115, 97, 114], [115, 108, 116], [115, 108, 116, 117], [115, 101, 113], [], [], [97, 100, 100, 105], [], [109, 117, 108, 105], [], [], [97, 110, 100, 105], [111, 114, 105], [120, 111, 114, 105], [115, 104, 108, 105], [115, 104, 114, 105], [], [], [115, 108, 116, 117, 105], [115, 101, 113, 105], [], [108, 105], [108, 98], [108, 119], [115, 98], [115, 119], [], [], [], [106, 109, 112], [106, 97, 108], [106, 114], [98, 101, 113], [98, 110, 101], [98, 108, 116, 117], [98, 103, 101, 117], [], [], [], [115, 121, 115]]
theorem allN_name : ∀ k : Nat, k < 256 → allN.getD k [] = nameL (k : Int) := by decide +kernel
def allC : Array Value := (allN.map fun s => Value.string (bsOf s)).toArray
set_option maxHeartbeats 4000000 in
set_option maxRecDepth 100000 in
theorem rname33 (op : Int) (w : World) (h0 : 0 ≤ op) (h1 : op ≤ 255) : Calls Tryz.prog 89 #[.int .u8 op] w fun e w' => e = .returned (.string (bsOf (nameL op))) ∧ Below w.heap.size w w' := by
  obtain ⟨k, rfl⟩ : ∃ k : Nat, op = k := ⟨op.toNat, by omega⟩
  have HN := Lib.hid (allN_name k (by omega))
  have HB : Hid (Below w.heap.size w (w.alloc (.cells allC 9))) := alloc_old w _
  have hX : (w.alloc (.cells allC 9)).heap[w.heap.size]? = some (.cells allC 9 (0, 0)) := new_block w _
  have hw : (k : Int) % 18446744073709551616 = k := by omega
  go_enter Tryz.func89, Tryz.ntmps89
  go_upto_region 2 with fail
  change Code.wp _ _ _ _ (w.alloc (.cells allC 9))
  generalize (w.alloc (.cells allC 9)) = w2 at *
  by_cases hk : k < 51
  · have hc : w2.cell? ⟨w.heap.size, k, none⟩ = some (.string (bsOf (nameL (k : Int)))) := by
      rw [Lib.cell_of_heap hX k, ← HN.out]
      have hl : k < allN.length := hk
      simp [allC, List.getD, hl]
    have e1 : decide ((51 : Int) ≤ (k : Int)) = false := by simp; omega
    have e1' : decide (51 ≤ k) = false := by simp; omega
    have hwi : IntKind.i64.wrap (k : Int) = k := by rw [IntKind.wrap_i64]; omega
    clear hX
    go_wp2
    go_ret
    exact ⟨rfl, HB.out⟩
  · have hz : nameL (k : Int) = [] := by
      rw [← HN.out]
      have hl : ¬ k < allN.length := hk
      simp [List.getD, hl]
    have e1 : decide ((51 : Int) ≤ (k : Int)) = true := by simp; omega
    have e1' : decide (51 ≤ k) = true := by simp; omega
    have HZ := Lib.hid hz
    clear hX hz
    go_wp2
    go_ret
    exact ⟨by rw [HZ.out]; rfl, HB.out⟩
end Go.Proofs.YtoonkfhphbojcaaGreatDoor
namespace Go.Proofs.YtoonkfhphbojcaaGreatDoor
open Go.RowKit Go.Maps
set_option maxHeartbeats 8000000 in
set_option maxRecDepth 100000 in
theorem rtold33 (x : GIns) (imm : BL) (w : World) (hx : InsB x) (hn : useOf x.op ≠ 0) (hi : imm.length ≤ 1000000) :
    Calls Tryz.prog 36 #[insV x, .string (bsOf imm)] w fun e w' => e = .returned (.string (bsOf (toldL x imm))) ∧ Below w.heap.size w w' := by
  obtain ⟨⟨o0, o1⟩, ⟨d0, d1⟩, ⟨a0, a1⟩, ⟨b0, b1⟩, ⟨i0, i1⟩⟩ := hx
  have HNL := Lib.hid (nameL_len x.op)
  have hru : rowU x.op = useOf x.op := by unfold rowU; rw [if_neg hn]
  have hoi : opIs x.op = true := by unfold opIs; simp [hn]
  have HU := Lib.hid (fun W => ruses_any x.op W)
  unfold rowV at HU
  rw [hru, hoi] at HU
  clear hru hoi hn
  have HRN := Lib.hid (fun W => rname33 x.op W o0 o1)
  have HB1 : Hid (Below w.heap.size w (w.alloc (.cells (insA x) 24))) := alloc_old w _
  have hX1 : (w.alloc (.cells (insA x) 24)).heap[w.heap.size]? = some (.cells (insA x) 24 (0, 0)) := new_block w _
  unfold insV at *
  go_enter Tryz.func36, Tryz.ntmps36
  go_upto_region 1 with fail
  change Code.wp _ _ _ _ (w.alloc (.cells (insA x) 24))
  have hz1 : w.heap.size < (w.alloc (.cells (insA x) 24)).heap.size := by simp
  generalize (w.alloc (.cells (insA x) 24)) = w1 at *
  obtain ⟨xb, hxb⟩ : ∃ xb, xb = w.heap.size := ⟨_, rfl⟩
  rw [show (Value.pointer (some ⟨w.heap.size, 0, none⟩)) = .pointer (some ⟨xb, 0, none⟩) by rw [hxb]]
  rw [← hxb] at hX1 hz1
  clear hxb
  have q0 : w1.cell? ⟨xb, 0, none⟩ = some (.int .u8 x.op) := Lib.cell_of_heap hX1 0
  go_wp2_with fail
  refine (HU.out _).mono ?_
  rintro e w2 ⟨rfl, hB2⟩
  go_upto_region 2 with fail
  change Code.wp _ _ _ _ (w2.alloc (.cells (useA x.op) 136))
  have HU3 : (w2.alloc (.cells (useA x.op) 136)).heap[w2.heap.size]? = some (.cells (useA x.op) 136 (0, 0)) := new_block w2 _
  have HX3 : (w2.alloc (.cells (useA x.op) 136)).heap[xb]? = some (.cells (insA x) 24 (0, 0)) := (Below.heap_alloc _ _ _ (by have := hB2.size; omega)).trans ((hB2.block xb hz1).trans hX1)
  have HB3 : Hid (Below w.heap.size w (w2.alloc (.cells (useA x.op) 136))) := Lib.hid ((HB1.out.trans (hB2.mono HB1.out.size)).alloc (by have := HB1.out.size; have := hB2.size; omega) _)
  clear HU hX1 q0 hB2 hz1
  generalize (w2.alloc (.cells (useA x.op) 136)) = w3 at *
  generalize w2.heap.size = ub at *
  have hul := (Array.getElem?_eq_some_iff.1 HU3).1
  have hxl := (Array.getElem?_eq_some_iff.1 HX3).1
  have q0 : w3.cell? ⟨xb, 0, none⟩ = some (.int .u8 x.op) := Lib.cell_of_heap HX3 0
  go_wp2_with fail
  refine (HRN.out _).mono ?_
  rintro e w4 ⟨rfl, hK4⟩
  clear q0 HRN
  obtain ⟨c0, hc0⟩ : ∃ c0, c0 = nameL x.op := ⟨_, rfl⟩
  rw [← hc0]
  have hl0 : c0.length ≤ 5 := by rw [hc0]; exact HNL.out
  have HC0 := Lib.hid hc0
  clear hc0
  have y0 : w4.cell? ⟨ub, 0, none⟩ = some (.bool (bitOf (useOf x.op) 1)) := cell_keep hK4 hul (Lib.cell_of_heap HU3 0)
  go_upto_if 18 with fail
  go_cut [7] (fun v7 wy => v7 = .string (bsOf (c0 ++ if bitOf (useOf x.op) 1 then 32 :: 114 :: decD x.d.toNat else [])) ∧ Below w3.heap.size w3 wy)
  case first =>
    have z : w4.cell? ⟨xb, 1, none⟩ = some (.int .u8 x.d) := cell_keep hK4 hxl (Lib.cell_of_heap HX3 1)
    have hw : x.d % 4294967296 = x.d := by omega
    have HN := Lib.hid (rnum33 x.d d0 (by omega) w4)
    have hdl := (decD_len (u := x.d.toNat) (by omega)).2
    generalize decD x.d.toNat = dg at *
    have k1 : bsOf c0 ++ (⟨#[32, 114]⟩ : ByteArray) = bsOf (c0 ++ [32, 114]) := bsOf_cat _ [32, 114]
    have k2 : bsOf (c0 ++ [32, 114]) ++ bsOf dg = bsOf (c0 ++ 32 :: 114 :: dg) := by rw [bsOf_cat]; simp
    have q1 : ¬ 9223372036854775807 < (bsOf c0).size + 2 := by rw [bsOf_size]; omega
    have q2 : ¬ 9223372036854775807 < (bsOf (c0 ++ [32, 114])).size + (bsOf dg).size := by rw [bsOf_size, bsOf_size, List.length_append, List.length_cons, List.length_singleton]; omega
    clear hdl y0
    cases hb : bitOf (useOf x.op) 1 with
    | false =>
      go_wp2
      go_meet
      exact ⟨by rw [hb]; simp, hK4⟩
    | true =>
      go_wp2_with fail
      refine HN.out.mono ?_
      rintro e w9 ⟨rfl, hB⟩
      go_wp2
      go_meet
      exact ⟨by rw [hb]; simp, hK4.trans (hB.mono hK4.size)⟩
  case rest =>
  obtain ⟨rfl, hK5⟩ := hcut
  clear hK4
  obtain ⟨w5, hwq0⟩ : ∃ w5, w5 = wc := ⟨_, rfl⟩
  rw [← hwq0] at hK5 ⊢
  clear hwq0
  obtain ⟨c1, hc1⟩ : ∃ c1, c1 = (c0 ++ if bitOf (useOf x.op) 1 then 32 :: 114 :: decD x.d.toNat else []) := ⟨_, rfl⟩
  rw [← hc1]
  have hl1 : c1.length ≤ 27 := by rw [hc1]; have := tell_len c0 (114 :: decD x.d.toNat) (bitOf (useOf x.op) 1); rw [List.length_cons] at this; have := (decD_len (u := x.d.toNat) (by omega)).2; omega
  have HC1 := Lib.hid hc1
  clear hc1
  have y1 : w5.cell? ⟨ub, 1, none⟩ = some (.bool (bitOf (useOf x.op) 2)) := cell_keep hK5 hul (Lib.cell_of_heap HU3 1)
  go_upto_if 27 with fail
  go_cut [7] (fun v7 wy => v7 = .string (bsOf (c1 ++ if bitOf (useOf x.op) 2 then 32 :: 114 :: decD x.a.toNat else [])) ∧ Below w3.heap.size w3 wy)
  case first =>
    have z : w5.cell? ⟨xb, 2, none⟩ = some (.int .u8 x.a) := cell_keep hK5 hxl (Lib.cell_of_heap HX3 2)
    have hw : x.a % 4294967296 = x.a := by omega
    have HN := Lib.hid (rnum33 x.a a0 (by omega) w5)
    have hdl := (decD_len (u := x.a.toNat) (by omega)).2
    generalize decD x.a.toNat = dg at *
    have k1 : bsOf c1 ++ (⟨#[32, 114]⟩ : ByteArray) = bsOf (c1 ++ [32, 114]) := bsOf_cat _ [32, 114]
    have k2 : bsOf (c1 ++ [32, 114]) ++ bsOf dg = bsOf (c1 ++ 32 :: 114 :: dg) := by rw [bsOf_cat]; simp
    have q1 : ¬ 9223372036854775807 < (bsOf c1).size + 2 := by rw [bsOf_size]; omega
    have q2 : ¬ 9223372036854775807 < (bsOf (c1 ++ [32, 114])).size + (bsOf dg).size := by rw [bsOf_size, bsOf_size, List.length_append, List.length_cons, List.length_singleton]; omega
    clear hdl y1
    cases hb : bitOf (useOf x.op) 2 with
    | false =>
      go_wp2
      go_meet
      exact ⟨by rw [hb]; simp, hK5⟩
    | true =>
      go_wp2_with fail
      refine HN.out.mono ?_
      rintro e w9 ⟨rfl, hB⟩
      go_wp2
      go_meet
      exact ⟨by rw [hb]; simp, hK5.trans (hB.mono hK5.size)⟩
  case rest =>
  obtain ⟨rfl, hK6⟩ := hcut
  clear hK5
  obtain ⟨w6, hwq1⟩ : ∃ w6, w6 = wc := ⟨_, rfl⟩
  rw [← hwq1] at hK6 ⊢
  clear hwq1
  obtain ⟨c2, hc2⟩ : ∃ c2, c2 = (c1 ++ if bitOf (useOf x.op) 2 then 32 :: 114 :: decD x.a.toNat else []) := ⟨_, rfl⟩
  rw [← hc2]
  have hl2 : c2.length ≤ 49 := by rw [hc2]; have := tell_len c1 (114 :: decD x.a.toNat) (bitOf (useOf x.op) 2); rw [List.length_cons] at this; have := (decD_len (u := x.a.toNat) (by omega)).2; omega
  have HC2 := Lib.hid hc2
  clear hc2
  have y2 : w6.cell? ⟨ub, 2, none⟩ = some (.bool (bitOf (useOf x.op) 4)) := cell_keep hK6 hul (Lib.cell_of_heap HU3 2)
  go_upto_if 36 with fail
  go_cut [7] (fun v7 wy => v7 = .string (bsOf (c2 ++ if bitOf (useOf x.op) 4 then 32 :: 114 :: decD x.b.toNat else [])) ∧ Below w3.heap.size w3 wy)
  case first =>
    have z : w6.cell? ⟨xb, 3, none⟩ = some (.int .u8 x.b) := cell_keep hK6 hxl (Lib.cell_of_heap HX3 3)
    have hw : x.b % 4294967296 = x.b := by omega
    have HN := Lib.hid (rnum33 x.b b0 (by omega) w6)
    have hdl := (decD_len (u := x.b.toNat) (by omega)).2
    generalize decD x.b.toNat = dg at *
    have k1 : bsOf c2 ++ (⟨#[32, 114]⟩ : ByteArray) = bsOf (c2 ++ [32, 114]) := bsOf_cat _ [32, 114]
    have k2 : bsOf (c2 ++ [32, 114]) ++ bsOf dg = bsOf (c2 ++ 32 :: 114 :: dg) := by rw [bsOf_cat]; simp
    have q1 : ¬ 9223372036854775807 < (bsOf c2).size + 2 := by rw [bsOf_size]; omega
    have q2 : ¬ 9223372036854775807 < (bsOf (c2 ++ [32, 114])).size + (bsOf dg).size := by rw [bsOf_size, bsOf_size, List.length_append, List.length_cons, List.length_singleton]; omega
    clear hdl y2
    cases hb : bitOf (useOf x.op) 4 with
    | false =>
      go_wp2
      go_meet
      exact ⟨by rw [hb]; simp, hK6⟩
    | true =>
      go_wp2_with fail
      refine HN.out.mono ?_
      rintro e w9 ⟨rfl, hB⟩
      go_wp2
      go_meet
      exact ⟨by rw [hb]; simp, hK6.trans (hB.mono hK6.size)⟩
  case rest =>
  obtain ⟨rfl, hK7⟩ := hcut
  clear hK6
  obtain ⟨w7, hwq2⟩ : ∃ w7, w7 = wc := ⟨_, rfl⟩
  rw [← hwq2] at hK7 ⊢
  clear hwq2
  obtain ⟨c3, hc3⟩ : ∃ c3, c3 = (c2 ++ if bitOf (useOf x.op) 4 then 32 :: 114 :: decD x.b.toNat else []) := ⟨_, rfl⟩
  rw [← hc3]
  have hl3 : c3.length ≤ 71 := by rw [hc3]; have := tell_len c2 (114 :: decD x.b.toNat) (bitOf (useOf x.op) 4); rw [List.length_cons] at this; have := (decD_len (u := x.b.toNat) (by omega)).2; omega
  have HC3 := Lib.hid hc3
  clear hc3
  have y3 : w7.cell? ⟨ub, 3, none⟩ = some (.bool (bitOf (useOf x.op) 8)) := cell_keep hK7 hul (Lib.cell_of_heap HU3 3)
  have HR : Hid (toldL x imm = c3 ++ if bitOf (useOf x.op) 8 then 32 :: imm else []) := Lib.hid (by unfold toldL; rw [HC3.out, HC2.out, HC1.out, HC0.out])
  have HB7 : Hid (Below w.heap.size w w7) := Lib.hid (HB3.out.trans (hK7.mono HB3.out.size))
  have k1 : bsOf c3 ++ (⟨#[32]⟩ : ByteArray) = bsOf (c3 ++ [32]) := bsOf_cat _ [32]
  have k2 : bsOf (c3 ++ [32]) ++ bsOf imm = bsOf (c3 ++ 32 :: imm) := by rw [bsOf_cat]; simp
  have q1 : ¬ 9223372036854775807 < (bsOf c3).size + 1 := by rw [bsOf_size]; omega
  have q2 : ¬ 9223372036854775807 < (bsOf (c3 ++ [32])).size + (bsOf imm).size := by rw [bsOf_size, bsOf_size, List.length_append, List.length_singleton]; omega
  cases hb : bitOf (useOf x.op) 8 with
  | false =>
    rw [hb] at y3
    go_wp2
    go_ret
    exact ⟨by rw [HR.out, hb]; simp, HB7.out⟩
  | true =>
    rw [hb] at y3
    go_wp2
    go_ret
    exact ⟨by rw [HR.out, hb]; simp, HB7.out⟩
end Go.Proofs.YtoonkfhphbojcaaGreatDoor
namespace Go.Proofs.YtoonkfhphbojcaaGreatDoor
open Go.RowKit Go.Maps
set_option maxHeartbeats 2000000 in
set_option maxRecDepth 100000 in
theorem rInsn33 (x : GIns) (w : World) (hx : InsB x) :
    Calls Tryz.prog 9 #[insV x] w fun e w' => e = .returned (if insOk x then .tuple #[.string (bsOf (toldL x (decD x.imm.toNat))), .int .i64 0] else .tuple #[.string ⟨#[]⟩, .int .i64 2]) ∧ Below w.heap.size w w' := by
  have HI := Lib.hid hx
  have HC := Lib.hid (fun W => rmay04 x W)
  obtain ⟨⟨o0, o1⟩, ⟨d0, d1⟩, ⟨a0, a1⟩, ⟨b0, b1⟩, ⟨i0, i1⟩⟩ := hx
  have HD := Lib.hid (decD_len (u := x.imm.toNat) (by omega))
  clear d0 d1 a0 a1 b0 b1 o0 o1
  have HB1 : Hid (Below w.heap.size w (w.alloc (.cells (insA x) 24))) := alloc_old w _
  have hX1 : (w.alloc (.cells (insA x) 24)).heap[w.heap.size]? = some (.cells (insA x) 24 (0, 0)) := new_block w _
  have HT := Lib.hid (fun (W : World) (hn : insOk x = true) => rtold33 x (decD x.imm.toNat) W HI.out (insOk_use hn) (by have := HD.out.2; omega))
  unfold insV at *
  go_enter Tryz.func9, Tryz.ntmps9
  go_upto_region 1 with fail
  change Code.wp _ _ _ _ (w.alloc (.cells (insA x) 24))
  have hz1 : w.heap.size < (w.alloc (.cells (insA x) 24)).heap.size := by simp
  generalize (w.alloc (.cells (insA x) 24)) = w1 at *
  have q0 : w1.cell? ⟨w.heap.size, 0, none⟩ = some (.int .u8 x.op) := Lib.cell_of_heap hX1 0
  have q1 : w1.cell? ⟨w.heap.size, 1, none⟩ = some (.int .u8 x.d) := Lib.cell_of_heap hX1 1
  have q2 : w1.cell? ⟨w.heap.size, 2, none⟩ = some (.int .u8 x.a) := Lib.cell_of_heap hX1 2
  have q3 : w1.cell? ⟨w.heap.size, 3, none⟩ = some (.int .u8 x.b) := Lib.cell_of_heap hX1 3
  have q4 : w1.cell? ⟨w.heap.size, 4, none⟩ = some (.int .u32 x.imm) := Lib.cell_of_heap hX1 4
  clear hX1
  go_wp2_with fail
  refine (HC.out _).mono ?_
  rintro e w2 ⟨rfl, hB2⟩
  replace q0 := cell_keep hB2 hz1 q0
  replace q1 := cell_keep hB2 hz1 q1
  replace q2 := cell_keep hB2 hz1 q2
  replace q3 := cell_keep hB2 hz1 q3
  replace q4 := cell_keep hB2 hz1 q4
  have HB2 : Hid (Below w.heap.size w w2) := HB1.out.trans (hB2.mono HB1.out.size)
  have hz2 : w.heap.size < w2.heap.size := by have := hB2.size; omega
  clear HB1 hB2 hz1 HC
  cases hok : insOk x with
  | false =>
    clear q0 q1 q2 q3 q4
    go_wp2
    all_goals (go_ret2; exact ⟨rfl, HB2.out⟩)
  | true =>
    have HO := Lib.hid hok
    clear hok
    go_upto_region 3 with fail
    obtain ⟨S, HSD⟩ : ∃ S : World → Prop, ∀ w', S w' ↔ Below w2.heap.size w2 w' := ⟨_, fun _ => Iff.rfl⟩
    have c0 := fun u : HW S => cell_keep ((HSD _).1 u.h) hz2 q0
    have c1 := fun u : HW S => cell_keep ((HSD _).1 u.h) hz2 q1
    have c2 := fun u : HW S => cell_keep ((HSD _).1 u.h) hz2 q2
    have c3 := fun u : HW S => cell_keep ((HSD _).1 u.h) hz2 q3
    have c4 := fun u : HW S => cell_keep ((HSD _).1 u.h) hz2 q4
    haveI : Nonempty (HW S) := ⟨⟨_, (HSD _).2 (Below.refl _ _)⟩⟩
    clear q0 q1 q2 q3 q4
    refine wp_region_turn S rfl (n := 7) rfl rfl ?_
    have HW3 : Below w2.heap.size w2 w2.drew := below_drewN (Below.refl _ _) 1
    refine wpAnyS_take [0, 1, 2] (by kernel_rfl) (by kernel_rfl) (n := 4) rfl rfl rfl ((HSD _).2 HW3) ?_
    (refine wpReads_step (fun K hK => ?_); go_simp; refine hK _ ?_; clear hK K)
    (refine wpReads_step (fun K hK => ?_); go_simp; refine hK _ ?_; clear hK K)
    (refine wpReads_step (fun K hK => ?_); go_simp; refine hK _ ?_; clear hK K)
    refine wpReads_nil ?_
    refine wpAnyS_one (i := 3) (by kernel_rfl) rfl (fun K hK => ?_)
    refine step_callW rfl 37 #[.tmp 9] #[22] rfl Tryz.func37 (by kernel_rfl) (by kernel_rfl) #[.int .u32 x.imm] (by simp [Act.eval]) (rnum33 x.imm i0 i1 _) ?_
    rintro e w4 ⟨rfl, hB4⟩
    have HW4 : Below w2.heap.size w2 w4 := HW3.trans (hB4.mono HW3.size)
    refine ⟨_, rfl, hK _ _ ((HSD _).2 HW4) ?_⟩
    clear hK K
    simp only [Act.put, List.setIfInBounds_toArray, List.set_cons_zero, List.set_cons_succ]
    refine wpAnyS_one (i := 4) (by kernel_rfl) rfl (fun K hK => ?_)
    refine step_callW rfl 36 #[.tmp 7, .tmp 10] #[24, 9] rfl Tryz.func36 (by kernel_rfl) (by kernel_rfl) #[.agg #[.int .u8 x.op, .int .u8 x.d, .int .u8 x.a, .int .u8 x.b, .int .u32 x.imm], .string (bsOf (decD x.imm.toNat))] (by simp [Act.eval]) (HT.out _ HO.out) ?_
    rintro e w5 ⟨rfl, hB5⟩
    have HW5 : Below w2.heap.size w2 w5 := HW4.trans (hB5.mono HW4.size)
    refine ⟨_, rfl, hK _ _ ((HSD _).2 HW5) ?_⟩
    clear hK K
    simp only [Act.put, List.setIfInBounds_toArray, List.set_cons_zero, List.set_cons_succ]
    refine wpAnyS_one (i := 5) (by kernel_rfl) rfl (fun K hK => ?_)
    go_simp; refine hK _ _ ((HSD _).2 HW5) ?_; clear hK K
    refine wpAnyS_one (i := 6) (by kernel_rfl) rfl (fun K hK => ?_)
    go_simp; refine hK _ _ ((HSD _).2 HW5) ?_; clear hK K
    refine wpAnyS_done (by kernel_rfl) (NoPanic.normal ?_)
    go_wp2
    go_ret2
    exact ⟨rfl, HB2.out.trans (HW5.mono HB2.out.size)⟩
end Go.Proofs.YtoonkfhphbojcaaGreatDoor
namespace Go.Proofs.YtoonkfhphbojcaaGreatDoor
open Go.RowKit Go.Maps
/-- the pieces of what is left, where acc is read already -/
def cutW (c : UInt8) (acc : BL) : BL → List BL
  | [] => [acc]
  | x :: r => if x = c then acc :: cutW c [] r else cutW c (acc ++ [x]) r
theorem cutW_eq (c : UInt8) : ∀ (s acc : BL), ∃ p q, cutAt c s = p :: q ∧ cutW c acc s = (acc ++ p) :: q
  | [], acc => ⟨[], [], rfl, by simp [cutW]⟩
  | x :: r, acc => by
    by_cases hx : x = c
    · obtain ⟨p, q, h1, h2⟩ := cutW_eq c r []
      exact ⟨[], cutAt c r, by simp [cutAt, hx], by simp [cutW, hx, h1, h2]⟩
    · obtain ⟨p, q, h1, h2⟩ := cutW_eq c r (acc ++ [x])
      exact ⟨x :: p, q, by simp [cutAt, hx, h1], by simp [cutW, hx, h2]⟩
theorem cutW_no {c x : UInt8} {acc r : BL} (h : ¬ x = c) : cutW c acc (x :: r) = cutW c (acc ++ [x]) r := by rw [cutW, if_neg h]
theorem one_new33 {w : World} {g : Nat} {u : Value} (h0 : w.cell? ⟨g, 0, none⟩ = some u) : ∀ j x, [u][j]? = some x → w.cell? ((⟨g, 0, none⟩ : Addr).add j) = some x := by
  intro j x hx
  match j, hx with
  | 0, hx => simp at hx; subst hx; simpa [Addr.add] using h0
theorem cutW_all (c : UInt8) (s : BL) : cutW c [] s = cutAt c s := by
  obtain ⟨p, q, h1, h2⟩ := cutW_eq c s []
  rw [h1, h2]; rfl
theorem str_one (s : ByteArray) : ∀ u ∈ [Value.string s], u.oneCell' = true := by intro u hu; simp at hu; subst hu; rfl
def strCells (l : List BL) : List Value := l.map fun t => Value.string (bsOf t)
theorem bs_at (s : BL) (i : Nat) (h : i < s.length) : (bsOf s).data[i]? = some s[i] := by
  have : (bsOf s).data.toList[i]? = s[i]? := by rw [bsOf_list]
  rw [← Array.getElem?_toList, this]; simp [h]
theorem ext_any (s : BL) (f i : Nat) : (bsOf s).extract f i = bsOf ((s.drop f).take (i - f)) := by
  have h := Lib.extract_data (bsOf s) f i
  rw [bsOf_list] at h
  rw [← h]; rfl
theorem take_snoc33 (s : BL) (f i : Nat) (hf : f ≤ i) (h : i < s.length) : (s.drop f).take (i + 1 - f) = (s.drop f).take (i - f) ++ [s[i]] := by
  rw [show i + 1 - f = (i - f) + 1 by omega, List.take_succ_eq_append_getElem (by simp; omega)]
  congr 1
  simp [show f + (i - f) = i by omega]
set_option maxHeartbeats 4000000 in
set_option maxRecDepth 100000 in
theorem rcut33 (s : BL) (c : UInt8) (w : World) (hs : s.length ≤ 1000000) : Calls Tryz.prog 60 #[.string (bsOf s), .int .u8 (c.toNat : Int)] w fun e w' => ∃ v, e = .returned v ∧ w'.ownsRow w.heap.size 9 1 v (cutAt c s).length (strCells (cutAt c s)) ∧ Below w.heap.size w w' := by
  obtain ⟨iN, hi, hz0, hz1, hz2⟩ := info_parts info_str33
  have HI := Lib.hid (And.intro hi (And.intro hz0 (And.intro hz1 hz2)))
  clear hi hz0 hz1 hz2
  have hsz : (bsOf s).size = s.length := bsOf_size s
  go_enter Tryz.func60, Tryz.ntmps60
  go_wp2_with fail
  go_loopw [5, 6, 7] (fun v5 v6 v7 wr => ∃ (f i : Nat) (ps : List BL), v7 = .int .i64 i ∧ v6 = .int .i64 f ∧ f ≤ i ∧ i ≤ s.length ∧ ps.length ≤ f ∧ wr.ownsRow w.heap.size 9 1 v5 ps.length (strCells ps) ∧ cutAt c s = ps ++ cutW c ((s.drop f).take (i - f)) (s.drop i) ∧ Below w.heap.size w wr) (fun _ _ v7 _ => s.length - (intOf v7).toNat)
  case atStart => exact ⟨0, 0, [], by go_num, by go_num, Nat.le_refl _, Nat.zero_le _, Nat.le_refl _, World.ownsRow_nil _ _ _ _, by simp [cutW_all], Below.refl _ _⟩
  case round =>
    obtain ⟨f, i, ps, rfl, rfl, hf, hi, hpl, hown, heq, hB⟩ := hrel
    obtain ⟨pv, cv, rfl⟩ := own_shape hown
    have HOWN := Lib.hid hown; clear hown
    have HB := Lib.hid hB; clear hB
    have HEQ := Lib.hid heq; clear heq
    have hbz := HB.out.size
    by_cases hlt : i < s.length
    · have hsi : i < (bsOf s).size := by omega
      have hx : (bsOf s)[i] = s[i] := by
        have := bs_at s i hlt
        exact (Array.getElem?_eq_some_iff.1 this).2
      have HD : Hid (s.drop i = s[i] :: s.drop (i + 1)) := Lib.hid (List.drop_eq_getElem_cons hlt)
      have HT := Lib.hid (take_snoc33 s f i hf hlt)
      have hxe := ext_any s f i
      by_cases hc : s[i] = c
      · have e1 : (((bsOf s)[i].toNat : Int) == (c.toNat : Int)) = true := by rw [hx, hc]; simp
        have HN : Hid (cutAt c s = (ps ++ [(s.drop f).take (i - f)]) ++ cutW c ((s.drop (i + 1)).take (i + 1 - (i + 1))) (s.drop (i + 1))) := Lib.hid (by rw [HEQ.out, HD.out]; simp [cutW, hc])
        generalize (s.drop f).take (i - f) = t at HEQ HT HN hxe
        clear HD HT HEQ hx hc
        go_wp2_with (at_builtin; refine wpList_append_own _ rfl _ _ 93 rfl w.heap.size 9 iN (.string ByteArray.empty) 1 16 Tryz.underlying93 HI.out.1 HI.out.2.1 HI.out.2.2.1 HI.out.2.2.2 rfl (by decide) _ _ _ rfl (HOWN.out.alloc _) ⟨wr.heap.size, 0, none⟩ 1 1 [.string (bsOf t)] rfl rfl (one_new33 (by simp [go_sem])) (str_one _) (by unfold maxLen; omega) (by omega) (by simp; omega) ?_)
        intro v7 w7 hown7 hgrow7 _
        have HO7 : Hid (w7.ownsRow w.heap.size 9 1 v7 (ps ++ [t]).length (strCells (ps ++ [t]))) := Lib.hid (by unfold strCells; rw [List.length_append, List.map_append]; exact hown7)
        have HB7 : Hid (Below w.heap.size w w7) := (HB.out.alloc HB.out.size _).grown hgrow7 (by simp; omega) (fun g hg => (HOWN.out.lt g hg).1)
        clear hown7 hgrow7
        go_wp2
        go_roundw
        case rel => exact ⟨i + 1, i + 1, ps ++ [t], by go_num, by go_num, Nat.le_refl _, by omega, by simp; omega, HO7.out, HN.out, HB7.out⟩
        case measure => simp [intOf]; omega
      · have e1 : (((bsOf s)[i].toNat : Int) == (c.toNat : Int)) = false := by
          rw [hx]
          simp only [beq_eq_false_iff_ne, ne_eq]
          intro h
          exact hc (UInt8.toNat_inj.1 (by omega))
        have HN : Hid (cutAt c s = ps ++ cutW c ((s.drop f).take (i + 1 - f)) (s.drop (i + 1))) := Lib.hid (by rw [HEQ.out, HD.out, HT.out, cutW_no hc]; rfl)
        clear HD HT HEQ hx hc
        go_wp2
        go_roundw
        case rel => exact ⟨f, i + 1, ps, by go_num, rfl, by omega, by omega, hpl, HOWN.out, HN.out, HB.out⟩
        case measure => simp [intOf]; omega
    · obtain rfl : i = s.length := by omega
      have hxe := ext_drop s f
      have HN : Hid (cutAt c s = ps ++ [s.drop f]) := Lib.hid (by rw [HEQ.out, List.drop_length, cutW, List.take_of_length_le (by simp)])
      generalize s.drop f = t at hxe HN
      go_wp2_with (at_builtin; refine wpList_append_own _ rfl _ _ 93 rfl w.heap.size 9 iN (.string ByteArray.empty) 1 16 Tryz.underlying93 HI.out.1 HI.out.2.1 HI.out.2.2.1 HI.out.2.2.2 rfl (by decide) _ _ _ rfl (HOWN.out.alloc _) ⟨wr.heap.size, 0, none⟩ 1 1 [.string (bsOf t)] rfl rfl (one_new33 (by simp [go_sem])) (str_one _) (by unfold maxLen; omega) (by omega) (by simp; omega) ?_)
      intro v7 w7 hown7 hgrow7 _
      have HO7 : Hid (w7.ownsRow w.heap.size 9 1 v7 (cutAt c s).length (strCells (cutAt c s))) := Lib.hid (by rw [HN.out]; unfold strCells; rw [List.length_append, List.map_append]; exact hown7)
      have HB7 : Hid (Below w.heap.size w w7) := (HB.out.alloc HB.out.size _).grown hgrow7 (by simp; omega) (fun g hg => (HOWN.out.lt g hg).1)
      clear hown7 hgrow7
      go_wp2
      go_ret
      exact ⟨_, rfl, HO7.out, HB7.out⟩
end Go.Proofs.YtoonkfhphbojcaaGreatDoor
namespace Go.Proofs.YtoonkfhphbojcaaGreatDoor
open Go.RowKit Go.Maps
/-- the number that digits spell, behind v; none: another byte is among them -/
def digV (v : Nat) : BL → Option Nat
  | [] => some v
  | x :: r => if x.toNat < 48 ∨ 57 < x.toNat then none else digV (10 * v + (x.toNat - 48)) r
def numR (s : BL) : Nat × Bool := match digV 0 (s.take 11) with
  | some v => (v % 4294967296, decide (v < 4294967296) && decide (decD (v % 4294967296) = s))
  | none => (0, false)
theorem digV_cat (a b : BL) : ∀ v, digV v (a ++ b) = (digV v a).bind fun u => digV u b := by
  induction a with
  | nil => intro v; rfl
  | cons x r ih => intro v; simp only [List.cons_append, digV]; split; rfl; exact ih _
theorem dig_nat {d : Nat} (h : d < 10) : (UInt8.ofNat (48 + d)).toNat = 48 + d := by simp; omega
theorem digV_dec (n : Nat) : digV 0 (decD n) = some n := by
  induction n using Nat.strongRecOn with
  | ind n ih =>
    by_cases h : n < 10
    · rw [decD_small h]
      simp only [digV, dig_nat h]
      rw [if_neg (by omega)]; congr 1; omega
    · rw [decD_big h, digV_cat, ih (n / 10) (by omega)]
      simp only [Option.bind_some, digV, dig_nat (show n % 10 < 10 by omega)]
      rw [if_neg (by omega)]; congr 1; omega
theorem parseM_cat (M : Nat) (a b : BL) : ∀ v u, Lib.parseUintM M v a = .ok u → Lib.parseUintM M v (a ++ b) = Lib.parseUintM M u b := by
  induction a with
  | nil => intro v u h; simp only [Lib.parseUintM] at h; cases h; rfl
  | cons x r ih =>
    intro v u h
    simp only [List.cons_append, Lib.parseUintM] at h ⊢
    split at h
    · rename_i h1
      rw [if_pos h1]
      split at h
      · cases h
      · rename_i h2
        rw [if_neg h2]
        split at h
        · cases h
        · rename_i h3
          rw [if_neg h3]
          exact ih _ _ h
    · cases h
theorem parseM_dec (n : Nat) (hn : n ≤ 4294967295) : Lib.parseUintM 4294967295 0 (decD n) = .ok n := by
  induction n using Nat.strongRecOn with
  | ind n ih =>
    by_cases h : n < 10
    · rw [decD_small h]
      simp only [Lib.parseUintM, dig_nat h]
      rw [if_pos (by omega), if_neg (by omega), if_neg (by omega)]; congr 1; omega
    · rw [decD_big h, parseM_cat _ _ _ _ _ (ih (n / 10) (by omega) (by omega))]
      simp only [Lib.parseUintM, dig_nat (show n % 10 < 10 by omega)]
      rw [if_pos (by omega), if_neg (by omega), if_neg (by omega)]; congr 1; omega
theorem decD_ten (k : Nat) : ∀ n, n < 10 ^ (k + 1) → (decD n).length ≤ k + 1 := by
  induction k with
  | zero => intro n h; rw [decD_small (by simpa using h)]; simp
  | succ k ih =>
    intro n h
    by_cases h9 : n < 10
    · rw [decD_small h9]; simp
    · rw [decD_big h9, List.length_append]
      have := ih (n / 10) (by rw [Nat.pow_succ] at h; omega)
      simp; omega
theorem decD_len10 {n : Nat} (h : n < 4294967296) : (decD n).length ≤ 10 := decD_ten 9 n (by omega)
theorem decD_ne (n : Nat) : decD n ≠ [] := by
  by_cases h : n < 10
  · rw [decD_small h]; simp
  · rw [decD_big h]; simp
theorem numL_iff (s : BL) (n : Nat) : numL s = some n ↔ s = decD n ∧ n < 4294967296 := by
  constructor
  · intro h
    unfold numL at h
    split at h
    · rename_i v hv
      split at h
      · rename_i he
        cases h
        exact ⟨he.symm, by have := Lib.parseUintB_le hv; omega⟩
      · cases h
    · cases h
  · rintro ⟨rfl, h⟩
    have hp : Lib.parseUintB 32 (decD n) = .ok n := by
      unfold Lib.parseUintB
      rw [if_neg (decD_ne n)]
      exact parseM_dec n (by omega)
    unfold numL
    rw [hp]
    simp
theorem numR_iff (s : BL) (n : Nat) : numR s = (n, true) ↔ s = decD n ∧ n < 4294967296 := by
  constructor
  · intro h
    unfold numR at h
    split at h
    · rename_i v hv
      simp only [Prod.mk.injEq, Bool.and_eq_true, decide_eq_true_eq] at h
      obtain ⟨h1, h2, h3⟩ := h
      have : v = n := by omega
      subst this
      rw [Nat.mod_eq_of_lt h2] at h3
      exact ⟨h3.symm, h2⟩
    · simp at h
  · rintro ⟨rfl, h⟩
    unfold numR
    rw [List.take_of_length_le (by have := decD_len10 h; omega), digV_dec]
    simp [h, Nat.mod_eq_of_lt h]
theorem numR_lt (s : BL) : (numR s).1 < 4294967296 := by
  unfold numR
  split
  · simp; omega
  · simp
theorem numL_R (s : BL) : numL s = if (numR s).2 then some (numR s).1 else none := by
  cases hb : (numR s).2 with
  | true =>
    have h := (numR_iff s (numR s).1).1 (by rw [← hb])
    simpa using (numL_iff s _).2 h
  | false =>
    cases hl : numL s with
    | none => rfl
    | some v =>
      have := (numR_iff s v).2 ((numL_iff s v).1 hl)
      rw [this] at hb
      cases hb
theorem digV_take (s : BL) (i : Nat) (h : i < s.length) (m : Nat) (hm : digV 0 (s.take i) = some m) : digV 0 (s.take (i + 1)) = if s[i].toNat < 48 ∨ 57 < s[i].toNat then none else some (10 * m + (s[i].toNat - 48)) := by
  rw [List.take_succ_eq_append_getElem h, digV_cat, hm]
  rfl
theorem digV_none (s : BL) (i : Nat) (hi : i ≤ 11) (h : digV 0 (s.take i) = none) : numR s = (0, false) := by
  have : s.take 11 = s.take i ++ (s.drop i).take (11 - i) := by rw [← List.take_add]; congr 1; omega
  unfold numR
  rw [this, digV_cat, h]
  rfl
theorem digV_bd (l : BL) : ∀ v m, digV v l = some m → m < (v + 1) * 10 ^ l.length := by
  induction l with
  | nil => intro v m h; simp only [digV] at h; cases h; simp
  | cons x r ih =>
    intro v m h
    simp only [digV] at h
    split at h
    · cases h
    · rename_i hx
      have h1 := ih _ _ h
      have h2 : 10 * v + (x.toNat - 48) + 1 ≤ (v + 1) * 10 := by omega
      have h3 := Nat.mul_le_mul_right (10 ^ r.length) h2
      rw [List.length_cons, Nat.pow_succ, Nat.mul_comm (10 ^ r.length) 10, ← Nat.mul_assoc]
      omega
theorem digV_bd11 (s : BL) (i m : Nat) (hi : i ≤ 11) (h : digV 0 (s.take i) = some m) : m < 100000000000 := by
  have h1 := digV_bd _ _ _ h
  have h2 : (s.take i).length ≤ 11 := by rw [List.length_take]; omega
  have h3 := Nat.pow_le_pow_right (n := 10) (by decide) h2
  simp only [Nat.zero_add, Nat.one_mul] at h1
  omega
theorem digV_bd10 (s : BL) (i m : Nat) (hi : i < 11) (h : digV 0 (s.take i) = some m) : m < 10000000000 := by
  have h1 := digV_bd _ _ _ h
  have h2 : (s.take i).length ≤ 10 := by rw [List.length_take]; omega
  have h3 := Nat.pow_le_pow_right (n := 10) (by decide) h2
  simp only [Nat.zero_add, Nat.one_mul] at h1
  omega
theorem bs_ne (a b : BL) : ((bsOf a).toList == (bsOf b).toList) = decide (a = b) := by
  by_cases h : a = b
  · subst h; simp
  · rw [beq_ne h]; simp [h]
def numRV (s : BL) : Value := .tuple #[.int .u32 (numR s).1, .bool (numR s).2]
set_option maxHeartbeats 4000000 in
set_option maxRecDepth 100000 in
theorem rnumber33 (s : BL) (w : World) : Calls Tryz.prog 44 #[.string (bsOf s)] w fun e w' => e = .returned (numRV s) ∧ Below w.heap.size w w' := by
  have hsz : (bsOf s).size = s.length := bsOf_size s
  have HDEF : Hid (numRV s = .tuple #[.int .u32 (numR s).1, .bool (numR s).2]) := Lib.hid rfl
  go_enter Tryz.func44, Tryz.ntmps44
  go_wp2_with fail
  go_loopw [4, 5] (fun v4 v5 wr => ∃ (i m : Nat), v5 = .int .i64 i ∧ v4 = .int .u64 m ∧ i ≤ 11 ∧ i ≤ s.length ∧ digV 0 (s.take i) = some m ∧ Below w.heap.size w wr) (fun _ v5 _ => s.length - (intOf v5).toNat)
  case atStart => exact ⟨0, 0, by go_num, by go_num, by omega, Nat.zero_le _, by simp [digV], Below.refl _ _⟩
  case round =>
    obtain ⟨i, m, rfl, rfl, hi, hl, hd, hB⟩ := hrel
    have HB := Lib.hid hB; clear hB
    have hm := digV_bd11 s i m hi hd
    have HD := Lib.hid hd; clear hd
    by_cases hlt : i < s.length
    · by_cases h11 : i < 11
      · have hsi : i < (bsOf s).size := by omega
        have hx : (bsOf s)[i] = s[i] := by
          have := bs_at s i hlt
          exact (Array.getElem?_eq_some_iff.1 this).2
        have HN : Hid (digV 0 (s.take (i + 1)) = if (bsOf s)[i].toNat < 48 ∨ 57 < (bsOf s)[i].toNat then none else some (10 * m + ((bsOf s)[i].toNat - 48))) := Lib.hid (by rw [hx]; exact digV_take s i hlt m HD.out)
        have HZ := Lib.hid (digV_none s (i + 1) (by omega))
        have hm10 := digV_bd10 s i m h11 HD.out
        clear hx
        have hb : (bsOf s)[i].toNat < 256 := UInt8.toNat_lt _
        generalize hxx : (bsOf s)[i] = x at HN hb
        by_cases hlo : x.toNat < 48
        · have e1 : decide (((bsOf s)[i].toNat : Int) < 48) = true := by rw [hxx]; simp; omega
          have HE : Hid (numR s = (0, false)) := Lib.hid (HZ.out (by rw [HN.out, if_pos (.inl hlo)]))
          clear hxx
          go_wp2
          go_ret2
          exact ⟨by rw [HDEF.out, HE.out]; rfl, HB.out⟩
        · by_cases hhi : 57 < x.toNat
          · have e1 : decide (((bsOf s)[i].toNat : Int) < 48) = false := by rw [hxx]; simp; omega
            have e2 : decide ((57 : Int) < ((bsOf s)[i].toNat : Int)) = true := by rw [hxx]; simp; omega
            have HE : Hid (numR s = (0, false)) := Lib.hid (HZ.out (by rw [HN.out, if_pos (.inr hhi)]))
            clear hxx
            go_wp2
            go_ret2
            exact ⟨by rw [HDEF.out, HE.out]; rfl, HB.out⟩
          · have e1 : decide (((bsOf s)[i].toNat : Int) < 48) = false := by rw [hxx]; simp; omega
            have e2 : decide ((57 : Int) < ((bsOf s)[i].toNat : Int)) = false := by rw [hxx]; simp; omega
            have HE : Hid (digV 0 (s.take (i + 1)) = some (10 * m + (x.toNat - 48))) := Lib.hid (by rw [HN.out, if_neg (by omega)])
            have HV : Hid (10 * (m : Int) + (((bsOf s)[i].toNat : Int) - 48) % 256 = ((10 * m + (x.toNat - 48) : Nat) : Int)) := Lib.hid (by rw [hxx]; omega)
            clear hxx
            go_wp2
            go_roundw
            case rel => exact ⟨i + 1, 10 * m + (x.toNat - 48), by go_num, by rw [HV.out], by omega, by omega, HE.out, HB.out⟩
            case measure => simp [intOf]; omega
      · have e11 : decide ((i : Int) < 11) = false := by simp; omega
        have e11' : decide (i < 11) = false := by simp; omega
        have HE : Hid (numR s = (m % 4294967296, decide (m < 4294967296) && decide (decD (m % 4294967296) = s))) := Lib.hid (by
          have : s.take 11 = s.take i := by rw [show i = 11 by omega]
          unfold numR
          rw [this, HD.out])
        clear HD
        by_cases hmm : m < 4294967296
        · have hq : (m : Int) % 4294967296 = m := by omega
          have e1 : decide ((m : Int) < 4294967296) = true := by simp; omega
          have e1' : decide (m < 4294967296) = true := by simp; omega
          have HN := Lib.hid (rnum33 m (by omega) (by omega) wr)
          rw [Int.toNat_natCast] at HN
          have HF : Hid (numRV s = .tuple #[.int .u32 m, .bool (decide (decD m = s))]) := Lib.hid (by rw [HDEF.out, HE.out, Nat.mod_eq_of_lt hmm]; simp [hmm])
          have hbe := bs_ne (decD m) s
          clear HE HDEF
          generalize decide (decD m = s) = bb at hbe HF
          go_wp2_with fail
          refine HN.out.mono ?_
          rintro e w2 ⟨rfl, hB2⟩
          have HB2 := Lib.hid (HB.out.trans (hB2.mono HB.out.size))
          clear hB2
          go_wp2
          go_ret2
          exact ⟨by rw [HF.out]; rfl, HB2.out⟩
        · have e1 : decide ((m : Int) < 4294967296) = false := by simp; omega
          have e1' : decide (m < 4294967296) = false := by simp; omega
          have HF : Hid (numRV s = .tuple #[.int .u32 ((m : Int) % 4294967296), .bool false]) := Lib.hid (by rw [HDEF.out, HE.out]; simp [hmm])
          have hq : 0 ≤ (m : Int) % 4294967296 ∧ (m : Int) % 4294967296 < 4294967296 := by omega
          clear HE HDEF
          go_wp2
          go_ret2
          exact ⟨by rw [HF.out]; rfl, HB.out⟩
    · obtain rfl : i = s.length := by omega
      have HE : Hid (numR s = (m % 4294967296, decide (m < 4294967296) && decide (decD (m % 4294967296) = s))) := Lib.hid (by
        have : s.take 11 = s.take s.length := by rw [List.take_length, List.take_of_length_le (by omega)]
        unfold numR
        rw [this, HD.out])
      clear HD
      by_cases hmm : m < 4294967296
      · have hq : (m : Int) % 4294967296 = m := by omega
        have e1 : decide ((m : Int) < 4294967296) = true := by simp; omega
        have e1' : decide (m < 4294967296) = true := by simp; omega
        have HN := Lib.hid (rnum33 m (by omega) (by omega) wr)
        rw [Int.toNat_natCast] at HN
        have HF : Hid (numRV s = .tuple #[.int .u32 m, .bool (decide (decD m = s))]) := Lib.hid (by rw [HDEF.out, HE.out, Nat.mod_eq_of_lt hmm]; simp [hmm])
        have hbe := bs_ne (decD m) s
        clear HE HDEF
        generalize decide (decD m = s) = bb at hbe HF
        go_wp2_with fail
        refine HN.out.mono ?_
        rintro e w2 ⟨rfl, hB2⟩
        have HB2 := Lib.hid (HB.out.trans (hB2.mono HB.out.size))
        clear hB2
        go_wp2
        go_ret2
        exact ⟨by rw [HF.out]; rfl, HB2.out⟩
      · have e1 : decide ((m : Int) < 4294967296) = false := by simp; omega
        have e1' : decide (m < 4294967296) = false := by simp; omega
        have HF : Hid (numRV s = .tuple #[.int .u32 ((m : Int) % 4294967296), .bool false]) := Lib.hid (by rw [HDEF.out, HE.out]; simp [hmm])
        have hq : 0 ≤ (m : Int) % 4294967296 ∧ (m : Int) % 4294967296 < 4294967296 := by omega
        clear HE HDEF
        go_wp2
        go_ret2
        exact ⟨by rw [HF.out]; rfl, HB.out⟩
end Go.Proofs.YtoonkfhphbojcaaGreatDoor
namespace Go.Proofs.YtoonkfhphbojcaaGreatDoor
open Go.RowKit Go.Maps
/-- the register of a word; 16: it is none's -/
def regR (s : BL) : Nat := (regL s).getD 16
theorem regR_le (s : BL) : regR s ≤ 16 := by
  unfold regR regL
  split
  · split
    · split
      · simp; omega
      · simp
    · simp
  · simp
theorem regL_R (s : BL) : regL s = if regR s < 16 then some (regR s) else none := by
  unfold regR
  cases h : regL s with
  | none => simp
  | some v =>
    have : v < 16 := by
      unfold regL at h
      split at h
      · split at h
        · split at h
          · cases h; assumption
          · cases h
        · cases h
      · cases h
    simp [this]
set_option maxHeartbeats 4000000 in
set_option maxRecDepth 100000 in
theorem rregister33 (s : BL) (w : World) : Calls Tryz.prog 97 #[.string (bsOf s)] w fun e w' => e = .returned (.int .u8 (regR s)) ∧ Below w.heap.size w w' := by
  have hsz : (bsOf s).size = s.length := bsOf_size s
  by_cases h2 : s.length < 2
  · have e1 : decide ((s.length : Int) < 2) = true := by simp; omega
    have e1' : decide (s.length < 2) = true := by simp; omega
    have HE : Hid (regR s = 16) := Lib.hid (by
      unfold regR regL
      split
      · rename_i r
        have : r = [] := List.eq_nil_of_length_eq_zero (by rw [List.length_cons] at h2; omega)
        subst this
        have : numL [] = none := by
          cases hn : numL [] with
          | none => rfl
          | some v => exact absurd ((numL_iff _ _).1 hn).1.symm (decD_ne v)
        rw [this]; rfl
      · rfl)
    go_enter Tryz.func97, Tryz.ntmps97
    go_wp2
    go_ret
    exact ⟨by rw [HE.out]; rfl, Below.refl _ _⟩
  · have e1 : decide ((s.length : Int) < 2) = false := by simp; omega
    have e1' : decide (s.length < 2) = false := by simp; omega
    obtain ⟨x, r, rfl⟩ : ∃ x r, s = x :: r := by cases s with
      | nil => simp at h2
      | cons x r => exact ⟨x, r, rfl⟩
    have h0 : 0 < (bsOf (x :: r)).size := by omega
    rw [List.length_cons] at h2
    have hx : (bsOf (x :: r))[0] = x := by
      have := bs_at (x :: r) 0 (by simp)
      exact (Array.getElem?_eq_some_iff.1 this).2
    have hdr : (bsOf (x :: r)).extract 1 (r.length + 1) = bsOf r := ext_drop (x :: r) 1
    rw [List.length_cons] at hsz e1 e1'
    generalize hn : r.length + 1 = n at h0 hdr hsz e1 e1' h2
    clear hn
    generalize bsOf (x :: r) = S at h0 hx hdr hsz
    generalize hT : bsOf r = T at hdr
    have hxb : x.toNat < 256 := UInt8.toNat_lt _
    by_cases h114 : x = 114
    · subst h114
      have e2 : ((S[0].toNat : Int) != 114) = false := by rw [hx]; rfl
      have HN := Lib.hid (rnumber33 r w)
      rw [hT] at HN
      have hl := numL_R r
      unfold numRV at HN
      have hlt := numR_lt r
      have HR : Hid (regR (114 :: r) = (if (numR r).2 ∧ (numR r).1 < 16 then (numR r).1 else 16)) := Lib.hid (by
        unfold regR regL
        simp only []
        rw [hl]
        cases (numR r).2 <;> simp
        split <;> rfl)
      generalize (numR r).1 = m at HN HR hlt
      generalize (numR r).2 = b at HN HR
      clear hl hx
      cases b with
      | false =>
        have HR2 : Hid (regR (114 :: r) = 16) := Lib.hid (by rw [HR.out]; simp)
        go_enter Tryz.func97, Tryz.ntmps97
        go_wp2_with fail
        refine HN.out.mono ?_
        rintro e w2 ⟨rfl, hB⟩
        go_wp2
        go_ret
        exact ⟨by rw [HR2.out]; rfl, hB⟩
      | true =>
        by_cases hm : m < 16
        · have HR2 : Hid (regR (114 :: r) = m) := Lib.hid (by rw [HR.out]; simp [hm])
          have e3 : decide ((15 : Int) < (m : Int)) = false := by simp; omega
          have e3' : decide (15 < m) = false := by simp; omega
          have e4 : (m : Int) % 256 = m := by omega
          go_enter Tryz.func97, Tryz.ntmps97
          go_wp2_with fail
          refine HN.out.mono ?_
          rintro e w2 ⟨rfl, hB⟩
          go_wp2
          go_ret
          exact ⟨by rw [HR2.out]; rfl, hB⟩
        · have HR2 : Hid (regR (114 :: r) = 16) := Lib.hid (by rw [HR.out]; simp [hm])
          have e3 : decide ((15 : Int) < (m : Int)) = true := by simp; omega
          have e3' : decide (15 < m) = true := by simp; omega
          go_enter Tryz.func97, Tryz.ntmps97
          go_wp2_with fail
          refine HN.out.mono ?_
          rintro e w2 ⟨rfl, hB⟩
          go_wp2
          go_ret
          exact ⟨by rw [HR2.out]; rfl, hB⟩
    · have e2 : ((S[0].toNat : Int) != 114) = true := by
        rw [hx]
        simp only [bne_iff_ne, ne_eq]
        intro h
        exact h114 (UInt8.toNat_inj.1 (by simp; omega))
      have HR2 : Hid (regR (x :: r) = 16) := Lib.hid (by
        unfold regR
        rw [regL_no (fun r' h => h114 (by cases h; rfl))]; rfl)
      clear hx
      go_enter Tryz.func97, Tryz.ntmps97
      go_wp2
      go_ret
      exact ⟨by rw [HR2.out]; rfl, Below.refl _ _⟩
end Go.Proofs.YtoonkfhphbojcaaGreatDoor
