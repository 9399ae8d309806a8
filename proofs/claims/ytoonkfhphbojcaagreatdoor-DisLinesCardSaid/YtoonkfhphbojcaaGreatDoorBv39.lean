/- The walk of ref33.Line. -/
import Derived.Test.YtoonkfhphbojcaaGreatDoorBv33
import Derived.Test.YtoonkfhphbojcaaGreatDoorBv37
import Derived.Test.YtoonkfhphbojcaaGreatDoorBv24
namespace Go.Proofs.YtoonkfhphbojcaaGreatDoor
open Go.RowKit Go.Maps Go.WideMaps
set_option maxHeartbeats 8000000 in
set_option maxRecDepth 100000 in
theorem rline33 (x : GLine) (w : World) (hx : LineB x) (hok : lineOk x = true) : Calls Tryz.prog 55 #[lineV x] w fun e w' => e = .returned (.string (bsOf (lineL x))) ∧ Below w.heap.size w w' := by
  have hbn : x.dest = [] ∨ x.name = [] := by
    unfold lineOk at hok
    simp only [Bool.and_eq_true] at hok
    exact (tellMay_parts hok.2).1
  have hpl := (lineOk_len hx hok).1
  have hl1 := hx.label
  have hl2 := lineL_len hx
  have hd1 := hx.dest
  have hn1 := hx.name
  have hi0 := hx.x.2.2.2.2
  have hne := bs_nil33 x.label
  have hne1 := bs_nil33 x.dest
  have hne2 := bs_nil33 x.name
  have HTC := Lib.hid (fun W => rtold33 x.x (placeL x) W hx.x (lineOk_use hok) (by omega))
  have HLL : Hid (lineL x = (if x.label = [] then [] else x.label ++ [58, 32]) ++ toldL x.x (placeL x)) := Lib.hid rfl
  have HPL : Hid (placeL x = if x.dest = [] then (if x.name = [] then decD x.x.imm.toNat else 64 :: (x.name ++ 43 :: decD x.x.imm.toNat)) else 62 :: x.dest) := Lib.hid rfl
  generalize lineL x = LL at HLL ⊢
  generalize toldL x.x (placeL x) = T at *
  generalize placeL x = PL at *
  obtain ⟨lab, ⟨op, xd, xa, xb, xi⟩, dd, nn⟩ := x
  simp only [] at hl1 hl2 hne hne1 hne2 HLL HTC HPL hd1 hn1 hi0 hbn
  have hdl := (decD_len10 (n := xi.toNat) (by omega))
  have HNM := Lib.hid (fun W => rnum33 xi (by omega) (by omega) W)
  generalize decD xi.toNat = DG at HNM HPL hdl
  clear hx hok
  have c1 : ByteArray.mk #[62] ++ bsOf dd = bsOf (62 :: dd) := by rw [show ByteArray.mk #[62] = bsOf [62] from rfl, bsOf_cat]; rfl
  have c2 : ByteArray.mk #[64] ++ bsOf nn = bsOf (64 :: nn) := by rw [show ByteArray.mk #[64] = bsOf [64] from rfl, bsOf_cat]; rfl
  have c3 : bsOf (64 :: nn) ++ ByteArray.mk #[43] = bsOf (64 :: (nn ++ [43])) := by rw [show ByteArray.mk #[43] = bsOf [43] from rfl, bsOf_cat]; rfl
  have c4 : bsOf (64 :: (nn ++ [43])) ++ bsOf DG = bsOf (64 :: (nn ++ 43 :: DG)) := by rw [bsOf_cat]; simp
  have q1 : ¬ 9223372036854775807 < (ByteArray.mk #[62]).size + (bsOf dd).size := by rw [bsOf_size]; simp [ByteArray.size]; omega
  have q2 : ¬ 9223372036854775807 < (ByteArray.mk #[64]).size + (bsOf nn).size := by rw [bsOf_size]; simp [ByteArray.size]; omega
  have q3 : ¬ 9223372036854775807 < (bsOf (64 :: nn)).size + (ByteArray.mk #[43]).size := by rw [bsOf_size]; simp [ByteArray.size]; omega
  have q4 : ¬ 9223372036854775807 < (bsOf (64 :: (nn ++ [43]))).size + (bsOf DG).size := by rw [bsOf_size, bsOf_size]; simp; omega
  have q2' : ¬ 9223372036854775807 < 1 + (bsOf nn).size := by rw [bsOf_size]; omega
  have q3' : ¬ 9223372036854775807 < (bsOf (64 :: nn)).size + 1 := by rw [bsOf_size]; simp; omega
  have k1 : bsOf lab ++ ByteArray.mk #[58, 32] = bsOf (lab ++ [58, 32]) := by rw [show ByteArray.mk #[58, 32] = bsOf [58, 32] from rfl, bsOf_cat]
  have k2 : bsOf (lab ++ [58, 32]) ++ bsOf T = bsOf (lab ++ [58, 32] ++ T) := by rw [bsOf_cat]
  have p1 : ¬ 9223372036854775807 < (bsOf lab).size + (ByteArray.mk #[58, 32]).size := by rw [bsOf_size]; simp [ByteArray.size]; omega
  have p2 : ¬ 9223372036854775807 < (bsOf (lab ++ [58, 32])).size + (bsOf T).size := by rw [bsOf_size, bsOf_size]; simp; omega
  have HS1 : Hid (lab = [] → bsOf LL = bsOf T) := Lib.hid fun h => by rw [HLL.out, if_pos h, List.nil_append]
  have HS2 : Hid (lab ≠ [] → bsOf LL = bsOf (lab ++ [58, 32] ++ T)) := Lib.hid fun h => by rw [HLL.out, if_neg h]
  have HS5 : Hid (dd ≠ [] → bsOf PL = bsOf (62 :: dd)) := Lib.hid fun h => by rw [HPL.out, if_neg h]
  have HS6 : Hid (dd = [] → nn ≠ [] → bsOf PL = bsOf (64 :: (nn ++ 43 :: DG))) := Lib.hid fun h h2 => by rw [HPL.out, if_pos h, if_neg h2]
  have HS7 : Hid (dd = [] → nn = [] → bsOf PL = bsOf DG) := Lib.hid fun h h2 => by rw [HPL.out, if_pos h, if_pos h2]
  unfold insV at HTC
  simp only [] at HTC
  unfold lineV lineA
  simp only []
  generalize bsOf (lab ++ [58, 32] ++ T) = R4 at *
  generalize bsOf (lab ++ [58, 32]) = R3 at *
  generalize bsOf LL = SLL at *
  generalize bsOf T = ST at *
  generalize bsOf PL = SP at *
  generalize bsOf (62 :: dd) = S5 at *
  generalize bsOf (64 :: (nn ++ 43 :: DG)) = S6 at *
  generalize bsOf (64 :: (nn ++ [43])) = S4 at *
  generalize bsOf (64 :: nn) = S3 at *
  generalize bsOf DG = SG at *
  generalize bsOf dd = SD at *
  generalize bsOf nn = SN at *
  generalize bsOf lab = SL at *
  have HB1 := Lib.hid (alloc_old w (.cells #[.string SL, .int .u8 op, .int .u8 xd, .int .u8 xa, .int .u8 xb, .int .u32 xi, .string SD, .string SN] 59))
  have hX1 := new_block w (.cells #[.string SL, .int .u8 op, .int .u8 xd, .int .u8 xa, .int .u8 xb, .int .u32 xi, .string SD, .string SN] 59)
  go_enter Tryz.func55, Tryz.ntmps55
  go_upto_region 1 with fail
  generalize (w.alloc (.cells #[.string SL, .int .u8 op, .int .u8 xd, .int .u8 xa, .int .u8 xb, .int .u32 xi, .string SD, .string SN] 59)) = w1 at *
  have z5 : w1.cell? ⟨w.heap.size, 5, none⟩ = some (.int .u32 xi) := Lib.cell_of_heap hX1 5
  go_wp2_with fail
  refine (HNM.out _).mono ?_
  rintro e w2 ⟨rfl, hB⟩
  have hX2 := (hB.block w.heap.size (Array.getElem?_eq_some_iff.1 hX1).1).trans hX1
  have HB2 := Lib.hid (HB1.out.trans (hB.mono HB1.out.size))
  clear hB hX1 HB1 z5
  have z6 : w2.cell? ⟨w.heap.size, 6, none⟩ = some (.string SD) := Lib.cell_of_heap hX2 6
  have z7 : w2.cell? ⟨w.heap.size, 7, none⟩ = some (.string SN) := Lib.cell_of_heap hX2 7
  have hC : (dd = [] ∧ nn = []) ∨ (dd ≠ [] ∧ nn = []) ∨ (dd = [] ∧ nn ≠ []) := by
    by_cases h1 : dd = []
    · by_cases h2 : nn = []
      · exact .inl ⟨h1, h2⟩
      · exact .inr (.inr ⟨h1, h2⟩)
    · rcases hbn with h | h
      · exact absurd h h1
      · exact .inr (.inl ⟨h1, h⟩)
  clear hbn
  rcases hC with ⟨h1, h2⟩ | ⟨h1, h2⟩ | ⟨h1, h2⟩
  case' inl =>
    have e1 : SD.toList.isEmpty = true := by rw [hne1]; simp [h1]
    have e2 : SN.toList.isEmpty = true := by rw [hne2]; simp [h2]
    have HZ := Lib.hid (HS7.out h1 h2)
    clear h1 h2 hne1 hne2 HPL HS5 HS6 HS7
    rw [HZ.out] at HTC
    go_upto_region 6 with fail
    have hX3 := hX2
    have HB3 := HB2
    clear z6 z7 hX2 HB2
    generalize w2 = w3 at *
  case' inr.inl =>
    have e1 : SD.toList.isEmpty = false := by rw [hne1]; simp [h1]
    have e2 : SN.toList.isEmpty = true := by rw [hne2]; simp [h2]
    have HZ := Lib.hid (HS5.out h1)
    clear h1 h2 hne1 hne2 HPL HS5 HS6 HS7
    rw [HZ.out] at HTC
    go_upto_region 6 with fail
    have hX3 := hX2
    have HB3 := HB2
    clear z6 z7 hX2 HB2
    generalize w2 = w3 at *
  case' inr.inr =>
    have e1 : SD.toList.isEmpty = true := by rw [hne1]; simp [h1]
    have e2 : SN.toList.isEmpty = false := by rw [hne2]; simp [h2]
    have HZ := Lib.hid (HS6.out h1 h2)
    clear h1 h2 hne1 hne2 HPL HS5 HS6 HS7
    rw [HZ.out] at HTC
    go_upto_region 5 with fail
    obtain ⟨RS, HSD⟩ : ∃ RS : World → Prop, ∀ w', RS w' ↔ w'.heap[w.heap.size]? = some (.cells #[.string SL, .int .u8 op, .int .u8 xd, .int .u8 xa, .int .u8 xb, .int .u32 xi, .string SD, .string SN] 59 (0, 0)) := ⟨_, fun _ => Iff.rfl⟩
    have r5 : ∀ z : HW RS, z.u.cell? ⟨w.heap.size, 5, none⟩ = some (.int .u32 xi) := fun z => Lib.cell_of_heap ((HSD _).1 z.h) 5
    have r7 : ∀ z : HW RS, z.u.cell? ⟨w.heap.size, 7, none⟩ = some (.string SN) := fun z => Lib.cell_of_heap ((HSD _).1 z.h) 7
    have hS0 : RS w2.drew := (HSD _).2 hX2
    have HS := Lib.hid HSD; clear HSD
    haveI : Nonempty (HW RS) := ⟨⟨_, hS0⟩⟩
    refine wp_region_marks RS [.r, .r, .r, .r, .r, .r, .r, .u, .u, .p] rfl (by kernel_rfl) hS0 ?_
    repeat (refine wpReads_step (fun K hK => ?_); go_simp; refine hK _ ?_; clear hK K)
    refine wpReads_nil ?_
    refine wpTurns_step fun K hK => ?_
    refine step_call rfl 37 #[.tmp 24] #[22] rfl Tryz.func37 (by kernel_rfl) (by kernel_rfl) #[.int .u32 xi] (by simp [Act.eval]) (HNM.out _) ?_
    rintro e w3 ⟨rfl, hB⟩
    have hB' : Below w2.heap.size w2 w3 := (below_drewN (Below.refl _ _) 1).trans hB
    have HB3 := Lib.hid (HB2.out.trans (hB'.mono HB2.out.size))
    have hX3 := (hB'.block w.heap.size (Array.getElem?_eq_some_iff.1 hX2).1).trans hX2
    clear hB hB' r5 r7 hS0 z6 z7 hX2 HB2
    refine ⟨_, rfl, hK _ _ ((HS.out _).2 hX3) ?_⟩
    clear hK K
    simp only [Act.put, List.setIfInBounds_toArray, List.set_cons_zero, List.set_cons_succ]
    refine wpTurns_step fun K hK => ?_
    go_simp
    refine hK _ _ ((HS.out _).2 hX3) ?_
    clear hK K
    refine wpTurns_nil ?_
    simp only [pickP]
    go_wp2_with fail
    refine NoPanic.normal ?_
    go_upto_region 6 with fail
    clear HS
  all_goals
    clear e1 e2 HZ
    have z0 : w3.cell? ⟨w.heap.size, 0, none⟩ = some (.string SL) := Lib.cell_of_heap hX3 0
    have z1 : w3.cell? ⟨w.heap.size, 1, none⟩ = some (.int .u8 op) := Lib.cell_of_heap hX3 1
    have z2 : w3.cell? ⟨w.heap.size, 2, none⟩ = some (.int .u8 xd) := Lib.cell_of_heap hX3 2
    have z3 : w3.cell? ⟨w.heap.size, 3, none⟩ = some (.int .u8 xa) := Lib.cell_of_heap hX3 3
    have z4 : w3.cell? ⟨w.heap.size, 4, none⟩ = some (.int .u8 xb) := Lib.cell_of_heap hX3 4
    have z5 : w3.cell? ⟨w.heap.size, 5, none⟩ = some (.int .u32 xi) := Lib.cell_of_heap hX3 5
    have z6 : w3.cell? ⟨w.heap.size, 6, none⟩ = some (.string SD) := Lib.cell_of_heap hX3 6
    have z7 : w3.cell? ⟨w.heap.size, 7, none⟩ = some (.string SN) := Lib.cell_of_heap hX3 7
    go_wp2_with fail
    refine (HTC.out _).mono ?_
    rintro e w4 ⟨rfl, hB⟩
    have hX4 := (hB.block w.heap.size (Array.getElem?_eq_some_iff.1 hX3).1).trans hX3
    have HB4 := Lib.hid (HB3.out.trans (hB.mono HB3.out.size))
    clear hB z0 z1 z2 z3 z4 z5 z6 z7 hX3 HB3
    have z0 : w4.cell? ⟨w.heap.size, 0, none⟩ = some (.string SL) := Lib.cell_of_heap hX4 0
    by_cases hd : lab = []
    · have h1 : SL.toList.isEmpty = true := by rw [hne]; simp [hd]
      have HR := Lib.hid (HS1.out hd)
      clear hd hne HS1 HS2
      go_wp2
      go_ret
      exact ⟨by rw [HR.out]; rfl, HB4.out⟩
    · have h1 : SL.toList.isEmpty = false := by rw [hne]; simp [hd]
      have HR := Lib.hid (HS2.out hd)
      clear hd hne HS1 HS2
      go_wp2
      go_ret
      exact ⟨by rw [HR.out]; rfl, HB4.out⟩
end Go.Proofs.YtoonkfhphbojcaaGreatDoor
