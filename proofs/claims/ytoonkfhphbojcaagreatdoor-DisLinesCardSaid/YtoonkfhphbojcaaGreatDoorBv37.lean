/- The walk of dis.check. The walks of dis.place and dis.line. The walk of dis.Lines. -/
import Derived.Test.YtoonkfhphbojcaaGreatDoorBv36
import Derived.Test.YtoonkfhphbojcaaGreatDoorBv13
import Derived.Test.YtoonkfhphbojcaaGreatDoorBv22
namespace Go.Proofs.YtoonkfhphbojcaaGreatDoor
open Go.RowKit Go.Maps Go.WideMaps
theorem line_set0 {w : World} {b : Nat} {l : GLine} (h : LnAt b l w) (s : BL) : LnAt b { l with label := s } (w.setCell ⟨b, 0, none⟩ (.string (bsOf s))) := set33 h 0 _
theorem one_row33 {w : World} {b : Nat} {l : GLine} (h : LnAt b l w) (hl : LineB l) : RowAt 8 LineR w (.slice (some ⟨b, 0, none⟩) 1 1) [l] :=
  ⟨some ⟨b, 0, none⟩, 1, b, 0, rfl, by simp, by simp, fun _ => rfl, fun i hi => by
    obtain rfl : i = 0 := by simp at hi; omega
    have := h.rowR hl
    simpa using this⟩
set_option maxHeartbeats 4000000 in
set_option maxRecDepth 100000 in
theorem check33 (x : GLine) (w : World) (hx : LineB x) : Calls Tryz.prog 52 #[lineV x] w fun e w' => e = .returned (.bool (tellMay x)) ∧ Below w.heap.size w w' := by
  have HMO : Hid (decide ((makeR (bsOf [120]) 0 [checkLn x]).2 = 0) = lnMay (checkLn x)) := Lib.hid (makeR_one x hx)
  have HTM : Hid (tellMay x = (lnMay (checkLn x) && (decide (x.dest = []) || decide (x.x.imm = 0)))) := Lib.hid rfl
  have HCB : Hid (LineB (checkLn x)) := Lib.hid ⟨hx.x, hx.dest, hx.dest, hx.name⟩
  have HMK := Lib.hid (fun W vl (hl : RowAt 8 LineR W vl [checkLn x]) => make33 (bsOf [120]) 0 [checkLn x] vl W hl (by rw [bsOf_size]; simp) (by omega))
  have hne := bs_nil33 x.dest
  obtain ⟨lab, ⟨op, xd, xa, xb, xi⟩, dd, nn⟩ := x
  unfold checkLn at HCB HMO HTM HMK
  simp only [] at HMO HTM HCB HMK hne
  generalize lnMay ⟨dd, ⟨op, xd, xa, xb, xi⟩, dd, nn⟩ = ok at HMO HTM
  generalize makeR (bsOf [120]) 0 [⟨dd, ⟨op, xd, xa, xb, xi⟩, dd, nn⟩] = r at HMO HMK
  obtain ⟨⟨sn, sb, sk, sz, sy, sr, st⟩, er⟩ := r
  unfold MakePost symVal at HMK
  simp only [] at HMO HMK
  rw [show bsOf [120] = ⟨#[120]⟩ from rfl] at HMK
  unfold lineV lineA
  simp only []
  clear hx
  generalize hsd : bsOf dd = SD at hne ⊢
  generalize hsn : bsOf nn = SN
  generalize hsl : bsOf lab = SL
  have HLV : Hid (∀ W b, W.heap[b]? = some (.cells #[.string SD, .int .u8 op, .int .u8 xd, .int .u8 xa, .int .u8 xb, .int .u32 xi, .string SD, .string SN] 59 (0, 0)) → RowAt 8 LineR W (.slice (some ⟨b, 0, none⟩) 1 1) [⟨dd, ⟨op, xd, xa, xb, xi⟩, dd, nn⟩]) := Lib.hid fun W b h => by
    rw [← hsd, ← hsn] at h
    exact one_row33 h HCB.out
  have HS0 : Hid (dd = [] → SD = ⟨#[]⟩) := Lib.hid fun h => by rw [← hsd, h]; rfl
  clear hsd hsn hsl
  have HB1 := Lib.hid (alloc_old w (.cells #[.string SL, .int .u8 op, .int .u8 xd, .int .u8 xa, .int .u8 xb, .int .u32 xi, .string SD, .string SN] 59))
  have hX1 := new_block w (.cells #[.string SL, .int .u8 op, .int .u8 xd, .int .u8 xa, .int .u8 xb, .int .u32 xi, .string SD, .string SN] 59)
  go_enter Tryz.func52, Tryz.ntmps52
  go_upto_region 1 with fail
  generalize (w.alloc (.cells #[.string SL, .int .u8 op, .int .u8 xd, .int .u8 xa, .int .u8 xb, .int .u32 xi, .string SD, .string SN] 59)) = w1 at *
  have z0 := Lib.cell_of_heap hX1 0
  have f0 := Lib.frozen_of_heap hX1 0
  have hX2 := set33 hX1 0 (.string ⟨#[]⟩)
  have HB2 := Lib.hid (HB1.out.setCell (p := ⟨w.heap.size, 0, none⟩) (Nat.le_refl _) (.string ⟨#[]⟩))
  go_upto_region 2 with fail
  generalize (w1.setCell ⟨w.heap.size, 0, none⟩ (.string ⟨#[]⟩)) = w2 at *
  have hX2' : w2.heap[w.heap.size]? = some (.cells #[.string ⟨#[]⟩, .int .u8 op, .int .u8 xd, .int .u8 xa, .int .u8 xb, .int .u32 xi, .string SD, .string SN] 59 (0, 0)) := hX2
  clear hX1 hX2 z0 f0 HB1
  have z0 : w2.cell? ⟨w.heap.size, 0, none⟩ = some (.string ⟨#[]⟩) := Lib.cell_of_heap hX2' 0
  have z1 : w2.cell? ⟨w.heap.size, 1, none⟩ = some (.int .u8 op) := Lib.cell_of_heap hX2' 1
  have z2 : w2.cell? ⟨w.heap.size, 2, none⟩ = some (.int .u8 xd) := Lib.cell_of_heap hX2' 2
  have z3 : w2.cell? ⟨w.heap.size, 3, none⟩ = some (.int .u8 xa) := Lib.cell_of_heap hX2' 3
  have z4 : w2.cell? ⟨w.heap.size, 4, none⟩ = some (.int .u8 xb) := Lib.cell_of_heap hX2' 4
  have z5 : w2.cell? ⟨w.heap.size, 5, none⟩ = some (.int .u32 xi) := Lib.cell_of_heap hX2' 5
  have z6 : w2.cell? ⟨w.heap.size, 6, none⟩ = some (.string SD) := Lib.cell_of_heap hX2' 6
  have z7 : w2.cell? ⟨w.heap.size, 7, none⟩ = some (.string SN) := Lib.cell_of_heap hX2' 7
  have hlt2 : w.heap.size < w2.heap.size := (Array.getElem?_eq_some_iff.1 hX2').1
  have HX2 := Lib.hid hX2'
  clear hX2'
  have HB3 := Lib.hid (HB2.out.alloc HB2.out.size (.cells #[.string ⟨#[]⟩, .int .u8 op, .int .u8 xd, .int .u8 xa, .int .u8 xb, .int .u32 xi, .string SD, .string SN] 59))
  have hX3 := new_block w2 (.cells #[.string ⟨#[]⟩, .int .u8 op, .int .u8 xd, .int .u8 xa, .int .u8 xb, .int .u32 xi, .string SD, .string SN] 59)
  have hO3 := (Below.heap_alloc w2 (.cells #[.string ⟨#[]⟩, .int .u8 op, .int .u8 xd, .int .u8 xa, .int .u8 xb, .int .u32 xi, .string SD, .string SN] 59) w.heap.size hlt2).trans HX2.out
  go_upto_region 3 with fail
  generalize (w2.alloc (.cells #[.string ⟨#[]⟩, .int .u8 op, .int .u8 xd, .int .u8 xa, .int .u8 xb, .int .u32 xi, .string SD, .string SN] 59)) = w3 at *
  clear z0 z1 z2 z3 z4 z5 z6 z7 HX2 HB2
  have x5 : w3.cell? ⟨w.heap.size, 5, none⟩ = some (.int .u32 xi) := Lib.cell_of_heap hO3 5
  have x6 : w3.cell? ⟨w.heap.size, 6, none⟩ = some (.string SD) := Lib.cell_of_heap hO3 6
  have y0 : w3.cell? ⟨w2.heap.size, 0, none⟩ = some (.string ⟨#[]⟩) := Lib.cell_of_heap hX3 0
  have g0 := Lib.frozen_of_heap hX3 0
  have y1 : w3.cell? ⟨w2.heap.size, 1, none⟩ = some (.int .u8 op) := Lib.cell_of_heap hX3 1
  have y2 : w3.cell? ⟨w2.heap.size, 2, none⟩ = some (.int .u8 xd) := Lib.cell_of_heap hX3 2
  have y3 : w3.cell? ⟨w2.heap.size, 3, none⟩ = some (.int .u8 xa) := Lib.cell_of_heap hX3 3
  have y4 : w3.cell? ⟨w2.heap.size, 4, none⟩ = some (.int .u8 xb) := Lib.cell_of_heap hX3 4
  have y5 : w3.cell? ⟨w2.heap.size, 5, none⟩ = some (.int .u32 xi) := Lib.cell_of_heap hX3 5
  have y6 : w3.cell? ⟨w2.heap.size, 6, none⟩ = some (.string SD) := Lib.cell_of_heap hX3 6
  have y7 : w3.cell? ⟨w2.heap.size, 7, none⟩ = some (.string SN) := Lib.cell_of_heap hX3 7
  by_cases hd : dd = []
  case' pos =>
    have hS0 := HS0.out hd
    have hne2 : SD.toList.isEmpty = true := by rw [hne]; simp [hd]
    have HTM2 : Hid (tellMay ⟨lab, ⟨op, xd, xa, xb, xi⟩, dd, nn⟩ = (ok && true)) := Lib.hid (by rw [HTM.out]; simp [hd])
    have hX4 : w3.heap[w2.heap.size]? = some (.cells #[.string SD, .int .u8 op, .int .u8 xd, .int .u8 xa, .int .u8 xb, .int .u32 xi, .string SD, .string SN] 59 (0, 0)) := by rw [hX3, hS0]
    clear hne hS0 hd
    go_upto_region 5 with fail
    have HB4 := HB3
    have hO4 := hO3
    clear y0 y1 y2 y3 y4 y5 y6 y7 g0 x5 x6 hX3 HB3 hO3
    generalize w3 = w4 at *
    obtain ⟨bb, hbb⟩ : ∃ bb : Bool, Hid (true = bb) := ⟨_, Lib.hid rfl⟩
    rw [Hid, hbb.out] at HTM2
    replace HTM2 := Lib.hid HTM2
  case' neg =>
    have hne2 : SD.toList.isEmpty = false := by rw [hne]; simp [hd]
    have HTM2 : Hid (tellMay ⟨lab, ⟨op, xd, xa, xb, xi⟩, dd, nn⟩ = (ok && decide (xi = 0))) := Lib.hid (by rw [HTM.out]; simp [hd])
    have hX4 : (w3.setCell ⟨w2.heap.size, 0, none⟩ (.string SD)).heap[w2.heap.size]? = some (.cells #[.string SD, .int .u8 op, .int .u8 xd, .int .u8 xa, .int .u8 xb, .int .u32 xi, .string SD, .string SN] 59 (0, 0)) := set33 hX3 0 _
    have HB4 := Lib.hid (HB3.out.setCell (p := ⟨w2.heap.size, 0, none⟩) (by show w.heap.size ≤ w2.heap.size; omega) (.string SD))
    have hO4 := (Below.heap_setCell w3 ⟨w2.heap.size, 0, none⟩ (.string SD) w.heap.size (by simp; omega)).trans hO3
    clear hne
    go_upto_region 5 with fail
    clear y0 y1 y2 y3 y4 y5 y6 y7 g0 x5 x6 hX3 HB3 hO3
    generalize (w3.setCell ⟨w2.heap.size, 0, none⟩ (.string SD)) = w4 at *
    obtain ⟨bb, hbb⟩ : ∃ bb : Bool, Hid (decide (xi = 0) = bb) := ⟨_, Lib.hid rfl⟩
    rw [Hid, hbb.out] at HTM2
    replace HTM2 := Lib.hid HTM2
  all_goals
    have y0 : w4.cell? ⟨w2.heap.size, 0, none⟩ = some (.string SD) := Lib.cell_of_heap hX4 0
    have y1 : w4.cell? ⟨w2.heap.size, 1, none⟩ = some (.int .u8 op) := Lib.cell_of_heap hX4 1
    have y2 : w4.cell? ⟨w2.heap.size, 2, none⟩ = some (.int .u8 xd) := Lib.cell_of_heap hX4 2
    have y3 : w4.cell? ⟨w2.heap.size, 3, none⟩ = some (.int .u8 xa) := Lib.cell_of_heap hX4 3
    have y4 : w4.cell? ⟨w2.heap.size, 4, none⟩ = some (.int .u8 xb) := Lib.cell_of_heap hX4 4
    have y5 : w4.cell? ⟨w2.heap.size, 5, none⟩ = some (.int .u32 xi) := Lib.cell_of_heap hX4 5
    have y6 : w4.cell? ⟨w2.heap.size, 6, none⟩ = some (.string SD) := Lib.cell_of_heap hX4 6
    have y7 : w4.cell? ⟨w2.heap.size, 7, none⟩ = some (.string SN) := Lib.cell_of_heap hX4 7
    have hlt4 : w.heap.size < w4.heap.size := (Array.getElem?_eq_some_iff.1 hO4).1
    have HX4 := Lib.hid hX4
    have HRW := Lib.hid (HLV.out (w4.alloc (.cells #[.string SD, .int .u8 op, .int .u8 xd, .int .u8 xa, .int .u8 xb, .int .u32 xi, .string SD, .string SN] 59)) w4.heap.size (new_block _ _))
    have HB5 := Lib.hid (HB4.out.alloc HB4.out.size (.cells #[.string SD, .int .u8 op, .int .u8 xd, .int .u8 xa, .int .u8 xb, .int .u32 xi, .string SD, .string SN] 59))
    have hO5 := (Below.heap_alloc w4 (.cells #[.string SD, .int .u8 op, .int .u8 xd, .int .u8 xa, .int .u8 xb, .int .u32 xi, .string SD, .string SN] 59) w.heap.size hlt4).trans hO4
    clear hX4 hO4
    go_wp2_with fail
    refine (HMK.out _ _ HRW.out).mono ?_
    rintro e w6 ⟨vr, rfl, hrow, hB6⟩
    obtain ⟨pv, cv, rfl⟩ := own_shape hrow
    have hO6 := (hB6.block w.heap.size (by simp; omega)).trans hO5
    have HB6 := Lib.hid (HB5.out.trans (hB6.mono HB5.out.size))
    clear hrow hB6 HRW HB5 hO5 HMK HLV HX4 y0 y1 y2 y3 y4 y5 y6 y7 hlt4
    have hlt6 : w.heap.size < w6.heap.size := (Array.getElem?_eq_some_iff.1 hO6).1
    have HB7 := Lib.hid (HB6.out.alloc HB6.out.size (.cells #[.string sn, .int .u8 sb, .int .u8 sk, .int .u32 sz, .string sy, .slice pv sr.length cv, .slice none 0 0] 52))
    have hO7 := (Below.heap_alloc w6 (.cells #[.string sn, .int .u8 sb, .int .u8 sk, .int .u32 sz, .string sy, .slice pv sr.length cv, .slice none 0 0] 52) w.heap.size hlt6).trans hO6
    go_upto_region 6 with fail
    generalize (w6.alloc (.cells #[.string sn, .int .u8 sb, .int .u8 sk, .int .u32 sz, .string sy, .slice pv sr.length cv, .slice none 0 0] 52)) = w7 at *
    have x5 : w7.cell? ⟨w.heap.size, 5, none⟩ = some (.int .u32 xi) := Lib.cell_of_heap hO7 5
    have x6 : w7.cell? ⟨w.heap.size, 6, none⟩ = some (.string SD) := Lib.cell_of_heap hO7 6
    by_cases her : er = 0
    · have hok : ok = true := by rw [← HMO.out]; simp [her]
      subst hok
      subst her
      go_wp2
      go_ret
      exact ⟨by rw [HTM2.out]; simp [← hbb.out, ibeq], HB7.out⟩
    · have hok : ok = false := by rw [← HMO.out]; simp [her]
      subst hok
      go_wp2
      go_ret
      exact ⟨by rw [HTM2.out]; rfl, HB7.out⟩
end Go.Proofs.YtoonkfhphbojcaaGreatDoor
namespace Go.Proofs.YtoonkfhphbojcaaGreatDoor
open Go.RowKit Go.Maps Go.WideMaps
theorem placeL_len {x : GLine} (hx : LineB x) : (placeL x).length ≤ 1000022 := by
  have h1 := hx.dest
  have h2 := hx.name
  have h3 := hx.x.2.2.2.2
  have h4 := (decD_len (u := x.x.imm.toNat) (by omega)).2
  unfold placeL
  split
  · split
    · omega
    · simp; omega
  · simp; omega
set_option maxHeartbeats 4000000 in
set_option maxRecDepth 100000 in
theorem dplace33 (x : GLine) (w : World) (hL : Lib33 w) (hx : LineB x) : Calls Tryz.prog 104 #[lineV x] w fun e w' => e = .returned (.string (bsOf (placeL x))) ∧ Below w.heap.size w w' := by
  have hl1 := hx.dest
  have hl2 := hx.name
  have hi0 := hx.x.2.2.2.2
  have hne1 := bs_nil33 x.dest
  have hne2 := bs_nil33 x.name
  have HPL : Hid (placeL x = if x.dest = [] then (if x.name = [] then decD x.x.imm.toNat else 64 :: (x.name ++ 43 :: decD x.x.imm.toNat)) else 62 :: x.dest) := Lib.hid rfl
  generalize placeL x = PL at HPL ⊢
  obtain ⟨lab, ⟨op, xd, xa, xb, xi⟩, dd, nn⟩ := x
  simp only [] at hl1 hl2 hi0 hne1 hne2 HPL
  have hdl := decD_len (u := xi.toNat) (by omega)
  have HNM := Lib.hid (fun W (hW : Below w.heap.size w W) => num33 xi.toNat (by omega) W (hL.keep hW))
  rw [show ((xi.toNat : Nat) : Int) = xi by omega] at HNM
  generalize decD xi.toNat = DG at HNM HPL hdl
  clear hL hx
  have e1 : bsOf dd ++ ByteArray.mk #[] = bsOf dd := by rw [show ByteArray.mk #[] = bsOf [] from rfl, bsOf_cat]; simp
  clear e1
  have c1 : ByteArray.mk #[62] ++ bsOf dd = bsOf (62 :: dd) := by rw [show ByteArray.mk #[62] = bsOf [62] from rfl, bsOf_cat]; rfl
  have c2 : ByteArray.mk #[64] ++ bsOf nn = bsOf (64 :: nn) := by rw [show ByteArray.mk #[64] = bsOf [64] from rfl, bsOf_cat]; rfl
  have c3 : bsOf (64 :: nn) ++ ByteArray.mk #[43] = bsOf (64 :: (nn ++ [43])) := by rw [show ByteArray.mk #[43] = bsOf [43] from rfl, bsOf_cat]; rfl
  have c4 : bsOf (64 :: (nn ++ [43])) ++ bsOf DG = bsOf (64 :: (nn ++ 43 :: DG)) := by rw [bsOf_cat]; simp
  have q1 : ¬ 9223372036854775807 < (ByteArray.mk #[62]).size + (bsOf dd).size := by rw [bsOf_size]; simp [ByteArray.size]; omega
  have q2 : ¬ 9223372036854775807 < (ByteArray.mk #[64]).size + (bsOf nn).size := by rw [bsOf_size]; simp [ByteArray.size]; omega
  have q3 : ¬ 9223372036854775807 < (bsOf (64 :: nn)).size + (ByteArray.mk #[43]).size := by rw [bsOf_size]; simp [ByteArray.size]; omega
  have q4 : ¬ 9223372036854775807 < (bsOf (64 :: (nn ++ [43]))).size + (bsOf DG).size := by rw [bsOf_size, bsOf_size]; simp; omega
  have q2' : ¬ 9223372036854775807 < 1 + (bsOf nn).size := by rw [bsOf_size]; omega
  have q3' : ¬ 9223372036854775807 < (bsOf (64 :: nn)).size + 1 := by rw [bsOf_size]; simp; omega
  have HS5 : Hid (dd ≠ [] → bsOf PL = bsOf (62 :: dd)) := Lib.hid fun h => by rw [HPL.out, if_neg h]
  have HS6 : Hid (dd = [] → nn ≠ [] → bsOf PL = bsOf (64 :: (nn ++ 43 :: DG))) := Lib.hid fun h h2 => by rw [HPL.out, if_pos h, if_neg h2]
  have HS7 : Hid (dd = [] → nn = [] → bsOf PL = bsOf DG) := Lib.hid fun h h2 => by rw [HPL.out, if_pos h, if_pos h2]
  unfold lineV lineA
  simp only []
  generalize bsOf PL = SP at *
  generalize bsOf (62 :: dd) = S5 at *
  generalize bsOf (64 :: (nn ++ 43 :: DG)) = S6 at *
  generalize bsOf (64 :: (nn ++ [43])) = S4 at *
  generalize bsOf (64 :: nn) = S3 at *
  generalize bsOf DG = SG at *
  generalize bsOf dd = SD at *
  generalize bsOf nn = SN at *
  generalize bsOf lab = SL
  have HB1 := Lib.hid (alloc_old w (.cells #[.string SL, .int .u8 op, .int .u8 xd, .int .u8 xa, .int .u8 xb, .int .u32 xi, .string SD, .string SN] 59))
  have hX1 := new_block w (.cells #[.string SL, .int .u8 op, .int .u8 xd, .int .u8 xa, .int .u8 xb, .int .u32 xi, .string SD, .string SN] 59)
  go_enter Tryz.func104, Tryz.ntmps104
  go_upto_region 1 with fail
  generalize (w.alloc (.cells #[.string SL, .int .u8 op, .int .u8 xd, .int .u8 xa, .int .u8 xb, .int .u32 xi, .string SD, .string SN] 59)) = w1 at *
  have z5 : w1.cell? ⟨w.heap.size, 5, none⟩ = some (.int .u32 xi) := Lib.cell_of_heap hX1 5
  have z6 : w1.cell? ⟨w.heap.size, 6, none⟩ = some (.string SD) := Lib.cell_of_heap hX1 6
  have z7 : w1.cell? ⟨w.heap.size, 7, none⟩ = some (.string SN) := Lib.cell_of_heap hX1 7
  clear hX1
  by_cases hd : dd = []
  · by_cases hn : nn = []
    · have h1 : SD.toList.isEmpty = true := by rw [hne1]; simp [hd]
      have h2 : SN.toList.isEmpty = true := by rw [hne2]; simp [hn]
      have HR := Lib.hid (HS7.out hd hn)
      clear hd hn hne1 hne2 c1 c2 c3 c4 q1 q2 q3 q4 q2' q3' HS5 HS6 HS7 HPL
      go_wp2_with fail
      refine (HNM.out _ HB1.out).mono ?_
      rintro e w2 ⟨rfl, hB⟩
      go_wp2
      go_ret
      exact ⟨by rw [HR.out]; rfl, HB1.out.trans (hB.mono HB1.out.size)⟩
    · have h1 : SD.toList.isEmpty = true := by rw [hne1]; simp [hd]
      have h2 : SN.toList.isEmpty = false := by rw [hne2]; simp [hn]
      have HR := Lib.hid (HS6.out hd hn)
      clear hd hn hne1 hne2 c1 q1 HS5 HS6 HS7 HPL
      go_upto_region 4 with fail
      obtain ⟨RS, HSD⟩ : ∃ RS : World → Prop, ∀ w', RS w' ↔ (w'.cell? ⟨w.heap.size, 5, none⟩ = some (.int .u32 xi) ∧ w'.cell? ⟨w.heap.size, 7, none⟩ = some (.string SN)) := ⟨_, fun _ => Iff.rfl⟩
      have r5 : ∀ z : HW RS, z.u.cell? ⟨w.heap.size, 5, none⟩ = some (.int .u32 xi) := fun z => ((HSD _).1 z.h).1
      have r7 : ∀ z : HW RS, z.u.cell? ⟨w.heap.size, 7, none⟩ = some (.string SN) := fun z => ((HSD _).1 z.h).2
      have hS0 : RS w1.drew := (HSD _).2 ⟨z5, z7⟩
      have HS := Lib.hid HSD; clear HSD
      haveI : Nonempty (HW RS) := ⟨⟨_, hS0⟩⟩
      refine wp_region_marks RS [.r, .r, .r, .r, .r, .r, .r, .u, .u, .p] rfl (by kernel_rfl) hS0 ?_
      repeat (refine wpReads_step (fun K hK => ?_); go_simp; refine hK _ ?_; clear hK K)
      refine wpReads_nil ?_
      have hlt1 : w.heap.size < w1.heap.size := by
        rcases Nat.lt_or_ge w.heap.size w1.heap.size with h | h
        · exact h
        · unfold World.cell? at z5
          simp [Array.getElem?_eq_none h] at z5
      refine wpTurns_step fun K hK => ?_
      refine step_call rfl 34 #[.tmp 20] #[22] rfl Tryz.func34 (by kernel_rfl) (by kernel_rfl) #[.int .u32 xi] (by simp [Act.eval]) (HNM.out _ HB1.out.drew) ?_
      rintro e w2 ⟨rfl, hB⟩
      have hB' : Below w1.heap.size w1 w2 := (below_drewN (Below.refl _ _) 1).trans hB
      have HB2 := Lib.hid (HB1.out.trans (hB'.mono HB1.out.size))
      have hS2 : RS w2 := (HS.out _).2 ⟨cell_keep hB' hlt1 z5, cell_keep hB' hlt1 z7⟩
      clear hB hB' r5 r7 hS0 hlt1 z5 z6 z7
      refine ⟨_, rfl, hK _ _ hS2 ?_⟩
      clear hK K
      simp only [Act.put, List.setIfInBounds_toArray, List.set_cons_zero, List.set_cons_succ]
      refine wpTurns_step fun K hK => ?_
      go_simp
      refine hK _ _ hS2 ?_
      clear hK K
      refine wpTurns_nil ?_
      simp only [pickP]
      go_wp2
      refine NoPanic.normal ?_
      go_wp2
      go_ret
      exact ⟨by rw [HR.out]; rfl, HB2.out⟩
  · have h1 : SD.toList.isEmpty = false := by rw [hne1]; simp [hd]
    have HR := Lib.hid (HS5.out hd)
    clear hd hne1 hne2 c2 c3 c4 q2 q3 q4 q2' q3' HS5 HS6 HS7 HPL HNM
    go_wp2
    go_ret
    exact ⟨by rw [HR.out]; rfl, HB1.out⟩
theorem lineL_len {x : GLine} (hx : LineB x) : (toldL x.x (placeL x)).length ≤ 1000200 := by
  have h1 := placeL_len hx
  have h2 := nameL_len x.x.op
  obtain ⟨-, ⟨d0, d1⟩, ⟨a0, a1⟩, ⟨b0, b1⟩, -⟩ := hx.x
  have e1 := (decD_len (u := x.x.d.toNat) (by omega)).2
  have e2 := (decD_len (u := x.x.a.toNat) (by omega)).2
  have e3 := (decD_len (u := x.x.b.toNat) (by omega)).2
  unfold toldL
  simp only [List.length_append]
  split <;> split <;> split <;> split <;> simp <;> omega
set_option maxHeartbeats 4000000 in
set_option maxRecDepth 100000 in
theorem dline33 (x : GLine) (w : World) (hL : Lib33 w) (hx : LineB x) (hu : useOf x.x.op ≠ 0) (hpl : (placeL x).length ≤ 1000000) : Calls Tryz.prog 53 #[lineV x] w fun e w' => e = .returned (.string (bsOf (lineL x))) ∧ Below w.heap.size w w' := by
  have HPC := Lib.hid (fun W (hW : Below w.heap.size w W) => dplace33 x W (hL.keep hW) hx)
  have HTC := Lib.hid (fun W (hW : Below w.heap.size w W) => told33 x.x (placeL x) W (hL.keep hW) hx.x hu hpl)
  have hl1 := hx.label
  have hl2 := lineL_len hx
  have hne := bs_nil33 x.label
  have HLL : Hid (lineL x = (if x.label = [] then [] else x.label ++ [58, 32]) ++ toldL x.x (placeL x)) := Lib.hid rfl
  generalize lineL x = LL at HLL ⊢
  generalize toldL x.x (placeL x) = T at *
  generalize placeL x = PL at *
  obtain ⟨lab, ⟨op, xd, xa, xb, xi⟩, dd, nn⟩ := x
  simp only [] at hl1 hl2 hne HLL HTC
  clear hL hx hu
  have c1 : bsOf lab ++ ByteArray.mk #[58, 32] = bsOf (lab ++ [58, 32]) := by rw [show ByteArray.mk #[58, 32] = bsOf [58, 32] from rfl, bsOf_cat]
  have c2 : bsOf (lab ++ [58, 32]) ++ bsOf T = bsOf (lab ++ [58, 32] ++ T) := by rw [bsOf_cat]
  have q1 : ¬ 9223372036854775807 < (bsOf lab).size + (ByteArray.mk #[58, 32]).size := by rw [bsOf_size]; simp [ByteArray.size]; omega
  have q2 : ¬ 9223372036854775807 < (bsOf (lab ++ [58, 32])).size + (bsOf T).size := by rw [bsOf_size, bsOf_size]; simp; omega
  have HS1 : Hid (lab = [] → bsOf LL = bsOf T) := Lib.hid fun h => by rw [HLL.out, if_pos h, List.nil_append]
  have HS2 : Hid (lab ≠ [] → bsOf LL = bsOf (lab ++ [58, 32] ++ T)) := Lib.hid fun h => by rw [HLL.out, if_neg h]
  unfold insV at HTC
  simp only [] at HTC
  unfold lineV lineA at HPC ⊢
  simp only [] at HPC ⊢
  generalize bsOf (lab ++ [58, 32] ++ T) = S4 at *
  generalize bsOf (lab ++ [58, 32]) = S3 at *
  generalize bsOf LL = S5 at *
  generalize bsOf T = ST at *
  generalize bsOf PL = SP at *
  generalize bsOf dd = SD at *
  generalize bsOf nn = SN at *
  generalize bsOf lab = SL at *
  have HB1 := Lib.hid (alloc_old w (.cells #[.string SL, .int .u8 op, .int .u8 xd, .int .u8 xa, .int .u8 xb, .int .u32 xi, .string SD, .string SN] 59))
  have hX1 := new_block w (.cells #[.string SL, .int .u8 op, .int .u8 xd, .int .u8 xa, .int .u8 xb, .int .u32 xi, .string SD, .string SN] 59)
  go_enter Tryz.func53, Tryz.ntmps53
  go_upto_region 1 with fail
  generalize (w.alloc (.cells #[.string SL, .int .u8 op, .int .u8 xd, .int .u8 xa, .int .u8 xb, .int .u32 xi, .string SD, .string SN] 59)) = w1 at *
  have HX1 := Lib.hid hX1
  have hlt1 : w.heap.size < w1.heap.size := (Array.getElem?_eq_some_iff.1 hX1).1
  obtain ⟨RS, HSD⟩ : ∃ RS : World → Prop, ∀ w', RS w' ↔ w'.heap[w.heap.size]? = some (.cells #[.string SL, .int .u8 op, .int .u8 xd, .int .u8 xa, .int .u8 xb, .int .u32 xi, .string SD, .string SN] 59 (0, 0)) := ⟨_, fun _ => Iff.rfl⟩
  have r0 : ∀ z : HW RS, z.u.cell? ⟨w.heap.size, 0, none⟩ = some (.string SL) := fun z => Lib.cell_of_heap ((HSD _).1 z.h) 0
  have r1 : ∀ z : HW RS, z.u.cell? ⟨w.heap.size, 1, none⟩ = some (.int .u8 op) := fun z => Lib.cell_of_heap ((HSD _).1 z.h) 1
  have r2 : ∀ z : HW RS, z.u.cell? ⟨w.heap.size, 2, none⟩ = some (.int .u8 xd) := fun z => Lib.cell_of_heap ((HSD _).1 z.h) 2
  have r3 : ∀ z : HW RS, z.u.cell? ⟨w.heap.size, 3, none⟩ = some (.int .u8 xa) := fun z => Lib.cell_of_heap ((HSD _).1 z.h) 3
  have r4 : ∀ z : HW RS, z.u.cell? ⟨w.heap.size, 4, none⟩ = some (.int .u8 xb) := fun z => Lib.cell_of_heap ((HSD _).1 z.h) 4
  have r5 : ∀ z : HW RS, z.u.cell? ⟨w.heap.size, 5, none⟩ = some (.int .u32 xi) := fun z => Lib.cell_of_heap ((HSD _).1 z.h) 5
  have r6 : ∀ z : HW RS, z.u.cell? ⟨w.heap.size, 6, none⟩ = some (.string SD) := fun z => Lib.cell_of_heap ((HSD _).1 z.h) 6
  have r7 : ∀ z : HW RS, z.u.cell? ⟨w.heap.size, 7, none⟩ = some (.string SN) := fun z => Lib.cell_of_heap ((HSD _).1 z.h) 7
  have hS0 : RS w1.drew := (HSD _).2 hX1
  have HS := Lib.hid HSD; clear HSD hX1
  haveI : Nonempty (HW RS) := ⟨⟨_, hS0⟩⟩
  refine wp_region_marks RS [.r, .r, .r, .u, .u, .p] rfl (by kernel_rfl) hS0 ?_
  repeat (refine wpReads_step (fun K hK => ?_); go_simp; refine hK _ ?_; clear hK K)
  refine wpReads_nil ?_
  clear r0 r1 r2 r3 r4 r5 r6 r7 hS0
  refine wpTurns_step fun K hK => ?_
  refine step_call rfl 104 #[.tmp 6] #[59] rfl Tryz.func104 (by kernel_rfl) (by kernel_rfl) #[.agg #[.string SL, .int .u8 op, .int .u8 xd, .int .u8 xa, .int .u8 xb, .int .u32 xi, .string SD, .string SN]] (by simp [Act.eval]) (HPC.out _ HB1.out.drew) ?_
  rintro e w2 ⟨rfl, hB⟩
  have hB' : Below w1.heap.size w1 w2 := (below_drewN (Below.refl _ _) 1).trans hB
  have HB2 := Lib.hid (HB1.out.trans (hB'.mono HB1.out.size))
  have hX2 := (hB'.block w.heap.size hlt1).trans HX1.out
  clear hB hB' HX1
  refine ⟨_, rfl, hK _ _ ((HS.out _).2 hX2) ?_⟩
  clear hK K
  simp only [Act.put, List.setIfInBounds_toArray, List.set_cons_zero, List.set_cons_succ]
  refine wpTurns_step fun K hK => ?_
  refine step_call rfl 33 #[.tmp 5, .tmp 7] #[24, 9] rfl Tryz.func33 (by kernel_rfl) (by kernel_rfl) #[.agg #[.int .u8 op, .int .u8 xd, .int .u8 xa, .int .u8 xb, .int .u32 xi], .string SP] (by simp [Act.eval]) (HTC.out _ HB2.out) ?_
  rintro e w3 ⟨rfl, hB⟩
  have HB3 := Lib.hid (HB2.out.trans (hB.mono HB2.out.size))
  have hX3 := (hB.block w.heap.size (Array.getElem?_eq_some_iff.1 hX2).1).trans hX2
  clear hB hX2 hlt1
  refine ⟨_, rfl, hK _ _ ((HS.out _).2 hX3) ?_⟩
  clear hK K
  simp only [Act.put, List.setIfInBounds_toArray, List.set_cons_zero, List.set_cons_succ]
  refine wpTurns_nil ?_
  simp only [pickP]
  have z0 : w3.cell? ⟨w.heap.size, 0, none⟩ = some (.string SL) := Lib.cell_of_heap hX3 0
  clear hX3
  by_cases hd : lab = []
  · have h1 : SL.toList.isEmpty = true := by rw [hne]; simp [hd]
    have HR := Lib.hid (HS1.out hd)
    clear hd hne c1 c2 q1 q2 HS1 HS2
    go_wp2_with fail
    refine NoPanic.normal ?_
    go_wp2
    go_ret
    exact ⟨by rw [HR.out]; rfl, HB3.out⟩
  · have h1 : SL.toList.isEmpty = false := by rw [hne]; simp [hd]
    have HR := Lib.hid (HS2.out hd)
    clear hd hne HS1 HS2
    go_wp2_with fail
    refine NoPanic.normal ?_
    go_wp2
    go_ret
    exact ⟨by rw [HR.out]; rfl, HB3.out⟩
end Go.Proofs.YtoonkfhphbojcaaGreatDoor
namespace Go.Proofs.YtoonkfhphbojcaaGreatDoor
open Go.RowKit Go.Maps
def textL (l : List GLine) : BL := l.flatMap fun x => lineL x ++ [10]
theorem decD_fits {n : Int} (h : n < 16) : (decD n.toNat).length ≤ 10 := decD_len10 (by omega)
theorem lineOk_len {x : GLine} (hx : LineB x) (h : lineOk x = true) : (placeL x).length ≤ 44 ∧ (lineL x ++ [10]).length ≤ 200 := by
  unfold lineOk at h
  simp only [Bool.and_eq_true] at h
  obtain ⟨h0, ht⟩ := h
  obtain ⟨-, -, h3, h4, -⟩ := tellMay_parts ht
  have e0 := nameOk_len h0
  have e3 := nameOk_len h3
  have e4 := nameOk_len h4
  have e1 : (decD x.x.imm.toNat).length ≤ 10 := decD_len10 (by have := hx.x.2.2.2.2; omega)
  have hp : (placeL x).length ≤ 44 := by
    unfold placeL
    split
    · split
      · omega
      · simp; omega
    · simp; omega
  refine ⟨hp, ?_⟩
  have h2 := nameL_len x.x.op
  obtain ⟨-, ⟨d0, d1⟩, ⟨a0, a1⟩, ⟨b0, b1⟩, -⟩ := hx.x
  have k1 : (decD x.x.d.toNat).length ≤ 10 := decD_len10 (by omega)
  have k2 : (decD x.x.a.toNat).length ≤ 10 := decD_len10 (by omega)
  have k3 : (decD x.x.b.toNat).length ≤ 10 := decD_len10 (by omega)
  have kt : (toldL x.x (placeL x)).length ≤ 100 := by
    unfold toldL
    simp only [List.length_append]
    split <;> split <;> split <;> split <;> simp <;> omega
  unfold lineL
  simp only [List.length_append, List.length_singleton]
  split
  · simp; omega
  · simp; omega
theorem lineOk_use {x : GLine} (h : lineOk x = true) : useOf x.x.op ≠ 0 := by
  unfold lineOk at h
  simp only [Bool.and_eq_true] at h
  obtain ⟨-, -, -, -, h5⟩ := tellMay_parts h.2
  have hu : insOk x.x = true ∨ insOk (noImm x.x) = true := by
    rcases h5 with ⟨-, -, h5⟩ | ⟨-, -, h5⟩
    · exact .inl h5
    · exact .inr h5
  unfold insOk at hu
  simp only [Bool.and_eq_true, decide_eq_true_eq, noImm] at hu
  rcases hu with hu | hu
  · exact hu.1.1.1.1
  · exact of_decide_eq_true hu.1.1.1.1
def linesE (l : List GLine) : Ending := if l.all lineOk then .returned (.tuple #[.string (bsOf (textL l)), .int .i64 0]) else .returned (.tuple #[.string ⟨#[]⟩, .int .i64 2])
set_option maxHeartbeats 8000000 in
set_option maxRecDepth 100000 in
theorem dLines33 (l : List GLine) (vl : Value) (w : World) (hL : Lib33 w) (hl : RowAt 8 LineR w vl l) (hn : l.length ≤ 100000) :
    Calls Tryz.prog 15 #[vl] w fun e w' => e = linesE l ∧ Below w.heap.size w w' := by
  have HL := Lib.hid hL
  clear hL
  have HC0 : Hid (CodeSt w [] (w.alloc (.cells #[.pointer none, .slice none 0 0] 83))) := Lib.hid ⟨Lib.fresh_isBuilder _ _ w, alloc_old w _, fun _ => new_block w _⟩
  obtain ⟨p, cap, b, o, rfl, hcap, hmax, hp, hc⟩ := hl
  have HP := Lib.hid hp
  have HC := Lib.hid hc
  clear hp hc
  have HED : Hid (linesE l = if l.all lineOk then .returned (.tuple #[.string (bsOf (textL l)), .int .i64 0]) else .returned (.tuple #[.string ⟨#[]⟩, .int .i64 2])) := Lib.hid rfl
  generalize linesE l = EE at HED ⊢
  go_enter Tryz.func15, Tryz.ntmps15
  go_upto_region 3 with fail
  go_loopw [11] (fun v11 wr => ∃ k : Nat, k ≤ l.length ∧ v11 = .int .i64 k ∧ (l.take k).all lineOk = true ∧ (textL (l.take k)).length ≤ 200 * k ∧ CodeSt w (textL (l.take k)) wr) (fun v11 _ => l.length - (intOf v11).toNat)
  case atStart => exact ⟨0, Nat.zero_le _, rfl, rfl, by simp [textL], HC0.out⟩
  case round =>
    obtain ⟨k, hk, rfl, hall, hlen, hst⟩ := hrel
    have HALL := Lib.hid hall; clear hall
    have HST := Lib.hid hst; clear hst HC0
    by_cases hlt : k < l.length
    · obtain rfl := HP.out (by omega)
      obtain ⟨hb0, y0, y1, y2, y3, y4, y5, y6, y7, hlb⟩ := lineR_keeps _ _ _ _ _ HST.out.bel (HC.out k hlt)
      have HNO : Hid (lineOk l[k] = false → EE = .returned (.tuple #[.string ⟨#[]⟩, .int .i64 2])) := Lib.hid fun h => by
        rw [HED.out, if_neg (by
          intro ha
          rw [List.all_eq_true] at ha
          have := ha l[k] (List.getElem_mem hlt)
          rw [h] at this; cases this)]
      have HTK : Hid (l.take (k + 1) = l.take k ++ [l[k]]) := Lib.hid (by rw [List.take_succ_eq_append_getElem hlt])
      have HLO : Hid (lineOk l[k] = (nameOk l[k].label && tellMay l[k])) := Lib.hid rfl
      have HNM := Lib.hid (fun W => disName33 l[k].label W (by have := hlb.label; omega))
      have HCK := Lib.hid (fun W => check33 l[k] W hlb)
      generalize l[k] = x at *
      have HLB := Lib.hid hlb
      have HLN := Lib.hid (fun W (hW : Lib33 W) (hok : lineOk x = true) => dline33 x W hW hlb (lineOk_use hok) (by have := (lineOk_len hlb hok).1; omega))
      have HSZ := Lib.hid (fun hok : lineOk x = true => lineOk_len hlb hok)
      clear hlb
      generalize nameOk x.label = n1 at HNM HLO
      generalize tellMay x = n2 at HCK HLO
      have HST1 := Lib.hid (HST.out.keep (alloc_old wr (.cells (lineA x) 59)))
      have hX1 := new_block wr (.cells (lineA x) 59)
      generalize hLX : lineL x = LX at *
      have HTX : Hid (textL (l.take (k + 1)) = textL (l.take k) ++ (LX ++ [10])) := Lib.hid (by rw [HTK.out]; unfold textL; rw [List.flatMap_append]; simp [hLX])
      have HAX : Hid (lineOk x = true → (l.take (k + 1)).all lineOk = true) := Lib.hid fun h => by rw [HTK.out, List.all_append, HALL.out]; simp [h]
      clear hLX
      generalize textL (l.take k) = TK at *
      generalize lineOk x = okx at *
      unfold lineV lineA at HCK HLN
      unfold lineA at HST1 hX1
      obtain ⟨lab, ⟨op, xd, xa, xb, xi⟩, dd, nn⟩ := x
      simp only [] at y0 y1 y2 y3 y4 y5 y6 y7 HNM HCK HLN HST1 hX1
      have k1 : bsOf LX ++ ByteArray.mk #[10] = bsOf (LX ++ [10]) := bsOf_cat _ [10]
      generalize bsOf lab = SL at *
      generalize bsOf dd = SD at *
      generalize bsOf nn = SN at *
      go_upto_region 5 with fail
      generalize (wr.alloc (.cells #[.string SL, .int .u8 op, .int .u8 xd, .int .u8 xa, .int .u8 xb, .int .u32 xi, .string SD, .string SN] 59)) = w1 at *
      have z0 : w1.cell? ⟨wr.heap.size, 0, none⟩ = some (.string SL) := Lib.cell_of_heap hX1 0
      have hlt1 : wr.heap.size < w1.heap.size := (Array.getElem?_eq_some_iff.1 hX1).1
      clear y0 y1 y2 y3 y4 y5 y6 y7
      go_wp2_with fail
      refine (HNM.out _).mono ?_
      rintro e w2 ⟨rfl, hB⟩
      have HST2 := Lib.hid (HST1.out.keep hB)
      have hX2 := (hB.block wr.heap.size hlt1).trans hX1
      clear hB z0 hX1 HST1 hlt1
      cases n1 with
      | false =>
        have HR := Lib.hid (HNO.out (by rw [HLO.out]; rfl))
        go_wp2
        go_ret2
        exact ⟨by rw [HR.out]; rfl, HST2.out.bel⟩
      | true =>
        have z0 : w2.cell? ⟨wr.heap.size, 0, none⟩ = some (.string SL) := Lib.cell_of_heap hX2 0
        have z1 : w2.cell? ⟨wr.heap.size, 1, none⟩ = some (.int .u8 op) := Lib.cell_of_heap hX2 1
        have z2 : w2.cell? ⟨wr.heap.size, 2, none⟩ = some (.int .u8 xd) := Lib.cell_of_heap hX2 2
        have z3 : w2.cell? ⟨wr.heap.size, 3, none⟩ = some (.int .u8 xa) := Lib.cell_of_heap hX2 3
        have z4 : w2.cell? ⟨wr.heap.size, 4, none⟩ = some (.int .u8 xb) := Lib.cell_of_heap hX2 4
        have z5 : w2.cell? ⟨wr.heap.size, 5, none⟩ = some (.int .u32 xi) := Lib.cell_of_heap hX2 5
        have z6 : w2.cell? ⟨wr.heap.size, 6, none⟩ = some (.string SD) := Lib.cell_of_heap hX2 6
        have z7 : w2.cell? ⟨wr.heap.size, 7, none⟩ = some (.string SN) := Lib.cell_of_heap hX2 7
        go_wp2_with fail
        refine (HCK.out _).mono ?_
        rintro e w3 ⟨rfl, hB⟩
        have HST3 := Lib.hid (HST2.out.keep hB)
        have hX3 := (hB.block wr.heap.size (Array.getElem?_eq_some_iff.1 hX2).1).trans hX2
        clear hB z0 z1 z2 z3 z4 z5 z6 z7 hX2 HST2
        cases n2 with
        | false =>
          have HR := Lib.hid (HNO.out (by rw [HLO.out]; rfl))
          go_wp2
          go_ret2
          exact ⟨by rw [HR.out]; rfl, HST3.out.bel⟩
        | true =>
          have hokx : okx = true := by rw [HLO.out]; rfl
          subst hokx
          have HSZ2 := Lib.hid (HSZ.out rfl)
          have q1 : ¬ 9223372036854775807 < (bsOf LX).size + (ByteArray.mk #[10]).size := by rw [bsOf_size]; have := HSZ2.out.2; simp at this; simp [ByteArray.size]; omega
          have q2 : ¬ 9223372036854775807 < (bsOf LX).size + 1 := by rw [bsOf_size]; have := HSZ2.out.2; simp at this; omega
          go_upto_region 7 with fail
          obtain ⟨RS, HSD⟩ : ∃ RS : World → Prop, ∀ w', RS w' ↔ BX w.heap.size w' wr.heap.size 59 #[.string SL, .int .u8 op, .int .u8 xd, .int .u8 xa, .int .u8 xb, .int .u32 xi, .string SD, .string SN] := ⟨_, fun _ => Iff.rfl⟩
          have r0 : ∀ z : HW RS, z.u.cell? ⟨wr.heap.size, 0, none⟩ = some (.string SL) := fun z => ((HSD _).1 z.h).cell 0
          have r1 : ∀ z : HW RS, z.u.cell? ⟨wr.heap.size, 1, none⟩ = some (.int .u8 op) := fun z => ((HSD _).1 z.h).cell 1
          have r2 : ∀ z : HW RS, z.u.cell? ⟨wr.heap.size, 2, none⟩ = some (.int .u8 xd) := fun z => ((HSD _).1 z.h).cell 2
          have r3 : ∀ z : HW RS, z.u.cell? ⟨wr.heap.size, 3, none⟩ = some (.int .u8 xa) := fun z => ((HSD _).1 z.h).cell 3
          have r4 : ∀ z : HW RS, z.u.cell? ⟨wr.heap.size, 4, none⟩ = some (.int .u8 xb) := fun z => ((HSD _).1 z.h).cell 4
          have r5 : ∀ z : HW RS, z.u.cell? ⟨wr.heap.size, 5, none⟩ = some (.int .u32 xi) := fun z => ((HSD _).1 z.h).cell 5
          have r6 : ∀ z : HW RS, z.u.cell? ⟨wr.heap.size, 6, none⟩ = some (.string SD) := fun z => ((HSD _).1 z.h).cell 6
          have r7 : ∀ z : HW RS, z.u.cell? ⟨wr.heap.size, 7, none⟩ = some (.string SN) := fun z => ((HSD _).1 z.h).cell 7
          have hbx3 : BX w.heap.size w3.drew wr.heap.size 59 #[.string SL, .int .u8 op, .int .u8 xd, .int .u8 xa, .int .u8 xb, .int .u32 xi, .string SD, .string SN] := ⟨by have := HST.out.lt; omega, by decide, hX3⟩
          have hS0 : RS w3.drew := (HSD _).2 hbx3
          have HS := Lib.hid HSD; clear HSD
          haveI : Nonempty (HW RS) := ⟨⟨_, hS0⟩⟩
          refine wp_region_turn RS rfl (n := 7) rfl rfl ?_
          refine wpAnyS_take [0, 1, 2, 3] (by kernel_rfl) (by kernel_rfl) (n := 3) rfl rfl rfl hS0 ?_
          (refine wpReads_step (fun K hK => ?_); go_simp; refine hK _ ?_; clear hK K)
          (refine wpReads_step (fun K hK => ?_); go_simp; refine hK _ ?_; clear hK K)
          (refine wpReads_step (fun K hK => ?_); go_simp; refine hK _ ?_; clear hK K)
          (refine wpReads_step (fun K hK => ?_); go_simp; refine hK _ ?_; clear hK K)
          refine wpReads_nil ?_
          clear r0 r1 r2 r3 r4 r5 r6 r7 hS0
          refine wpAnyS_one (i := 4) (by kernel_rfl) rfl (fun K hK => ?_)
          refine step_callW rfl 53 #[.tmp 27] #[59] rfl Tryz.func53 (by kernel_rfl) (by kernel_rfl) #[.agg #[.string SL, .int .u8 op, .int .u8 xd, .int .u8 xa, .int .u8 xb, .int .u32 xi, .string SD, .string SN]] (by simp [Act.eval]) (HLN.out _ (HST3.out.drew.lib HL.out) (by trivial)) ?_
          rintro e w4 ⟨rfl, hB⟩
          have HST4 := Lib.hid (HST3.out.drew.keep hB)
          have hbx4 := hbx3.keep (KN.of_below hB)
          clear hB hX3 HST3 hbx3
          refine ⟨_, rfl, hK _ _ ((HS.out _).2 hbx4) ?_⟩
          clear hK K
          simp only [Act.put, List.setIfInBounds_toArray, List.set_cons_zero, List.set_cons_succ]
          refine wpAnyS_one (i := 5) (by kernel_rfl) rfl (fun K hK => ?_)
          go_simp; refine hK _ _ ((HS.out _).2 hbx4) ?_; clear hK K
          have HWS := Lib.hid (writeString_any w.heap.size w.heap.size TK (bsOf (LX ++ [10])) w4 HST4.out.wr (by rw [bsOf_size]; have := HSZ2.out.2; omega) (by have := HST4.out.bel.size; omega))
          clear q1 q2 k1
          generalize hSX : bsOf (LX ++ [10]) = SX at *
          refine wpAnyS_one (i := 6) (by kernel_rfl) rfl (fun K hK => ?_)
          refine step_callW rfl 47 #[.tmp 26, .tmp 29] #[81, 9] rfl Tryz.func47 (by kernel_rfl) (by kernel_rfl) #[.pointer (some ⟨w.heap.size, 0, none⟩), .string SX] (by simp [Act.eval]) HWS.out ?_
          rintro e w5 ⟨rfl, hP⟩
          have hbx5 := hbx4.keep hP.2.2
          have HST5 : Hid (CodeSt w (textL (l.take (k + 1))) w5) := Lib.hid (by
            rw [HTX.out]
            rw [← hSX, bsOf_list] at hP
            exact HST4.out.post (by simp) hP)
          have hlen5 : (textL (l.take (k + 1))).length ≤ 200 * (k + 1) := by rw [HTX.out, List.length_append]; have := HSZ2.out.2; omega
          clear hP hSX HWS HST4
          refine ⟨_, rfl, hK _ _ ((HS.out _).2 hbx5) ?_⟩
          clear hK K
          simp only [Act.put, List.setIfInBounds_toArray, List.set_cons_zero, List.set_cons_succ]
          refine wpAnyS_done (by kernel_rfl) (NoPanic.normal ?_)
          go_wp2
          go_roundw
          case rel => exact ⟨k + 1, by omega, by go_num, HAX.out (by trivial), hlen5, HST5.out⟩
          case measure => simp [intOf]; omega
    · obtain rfl : k = l.length := by omega
      rw [List.take_length] at HALL HST
      have HR : Hid (EE = .returned (.tuple #[.string (bsOf (textL l)), .int .i64 0])) := Lib.hid (by rw [HED.out, if_pos HALL.out])
      generalize textL l = TK at *
      by_cases hl0 : TK = []
      · have HS := Lib.hid (string_fresh w.heap.size wr (HST.out.nil hl0))
        subst hl0
        go_wp2_with fail
        refine HS.out.mono ?_
        rintro e w3 ⟨rfl, hB⟩
        go_wp2
        go_ret2
        exact ⟨by rw [HR.out]; rfl, HST.out.bel.trans (hB.mono HST.out.bel.size)⟩
      · have HS := Lib.hid (string_any w.heap.size w.heap.size TK wr HST.out.wr hl0)
        clear hl0
        go_wp2_with fail
        refine HS.out.mono ?_
        rintro e w3 ⟨rfl, hB⟩
        go_wp2
        go_ret2
        exact ⟨by rw [HR.out]; rfl, HST.out.bel.trans hB⟩
end Go.Proofs.YtoonkfhphbojcaaGreatDoor
