/- The walk of objfile.Put (printed by genput.py). objfile.Put, whatever it is given. The walk of archive.Put. -/
import Derived.Test.YtboegjdkedjhcaaGreatDoorBs14
import Derived.Test.YtboegjdkedjhcaaGreatDoorBs25
import Derived.Test.YtboegjdkedjhcaaGreatDoorBs06
import Derived.Test.YtboegjdkedjhcaaGreatDoorBs04
import Derived.Deep.Cut
import Derived.Test.YtboegjdkedjhcaaGreatDoorBs11
import Derived.Test.YtboegjdkedjhcaaGreatDoorBs27
namespace Go.Proofs.YtboegjdkedjhcaaGreatDoor
set_option maxRecDepth 100000
section
open Go.RowKit
theorem leB2_length (n : Nat) (x y : Int) : (leB n x ++ leB n y).length = n + n := by rw [List.length_append, leB_length, leB_length]
set_option maxHeartbeats 4000000 in
theorem objPut_ok (o : GObj) (vs : Value) (w : World) (h : ObjIn w o vs) (hm : mayP o = true) (hsm : ∀ s ∈ o.syms, s.bytes.size < 4294967296) :
 Calls Tryz.prog 35 #[.agg #[.string o.name, vs]] w fun e w' => e = .returned (.tuple #[.string (bsOf (encObj o)), .int .i64 0]) ∧ Below w.heap.size w w' := by
 have HCK := Lib.hid (objCheck_any o vs (w.alloc (.cells #[.string o.name, vs] 50)) (ObjIn.keep (alloc_old w _) h)); rw [hm] at HCK; have hSM := objSm_of hm (objNum_of h) hsm; have HSM := Lib.hid hSM.2.2; obtain ⟨hn1, hn2, -⟩ := hSM; obtain ⟨on, os⟩ := o; obtain ⟨⟨p, cap, b0, o0, rfl, hcap, hmax, hp, hc⟩, hnm⟩ := h; simp only [] at *; clear hm hsm; have HP := Lib.hid hp; clear hp; have HC := Lib.hid hc; clear hc; simp only [errB, if_true] at HCK; go_enter Tryz.func35, Tryz.ntmps35; go_wp2_with fail; refine HCK.out.mono ?_; rintro e w1 ⟨rfl, hB1⟩; clear HCK; have x0 : w1.cell? ⟨w.heap.size, 0, none⟩ = some (.string on) := by rw [hB1.cell (by simp)]; simp [go_sem]
 have x1 : w1.cell? ⟨w.heap.size, 1, none⟩ = some (.slice p os.length cap) := by rw [hB1.cell (by simp)]; simp [go_sem]
 have z1 : w.heap.size < w1.heap.size := by have := hB1.size; simp at this; omega
 have HB1 : Hid (Below w.heap.size w w1) := (alloc_old w _).trans (hB1.mono (by simp))
 have HX0 := Lib.hid x0; have HX1 := Lib.hid x1; clear hB1 x0 x1; have HW0 : Hid (IsWr w1.heap.size w1.heap.size [] (w1.alloc (.cells #[.pointer none, .slice none 0 0] 152))) := Lib.fresh_isBuilder _ _ w1; have HB2 : Hid (Below w1.heap.size w1 (w1.alloc (.cells #[.pointer none, .slice none 0 0] 152))) := alloc_old _ _; go_wp2_with fail; generalize w1.alloc (.cells #[.pointer none, .slice none 0 0] 152) = w2 at HW0 HB2 ⊢; generalize hbe : w1.heap.size = b at *; have HBE := Lib.hid hbe; clear hbe; have hB0 : b ≤ w2.heap.size := by have := HB2.out.size; rw [HBE.out] at this; exact this
 refine (writeString_any b b [] _ _ HW0.out (by simp; decide) hB0).mono ?_
 rintro e w3 ⟨rfl, hw3⟩; have HW : Hid (WPost b b magicB w2 w3) := hw3; clear hw3 HW0; have HK : Hid (∀ wk l, WPost b b l w2 wk → Below b w1 wk) := fun wk l h => HB2.out.trans h.2.1
 have HAB : Hid (∀ wk l, WPost b b l w2 wk → Below w.heap.size w wk) := fun wk l h => HB1.out.trans ((HK.out wk l h).mono (by omega))
 obtain ⟨wk, rfl⟩ : ∃ wk : World, wk = w3 := ⟨_, rfl⟩

 have hbz : w.heap.size < b := by have := z1; omega
 have hmg : magicB.length ≤ 4 := Nat.le_refl _; have c : wk.cell? ⟨w.heap.size, 0, none⟩ = some (.string on) := by rw [(HK.out _ _ HW.out).cell (p := ⟨w.heap.size, 0, none⟩) hbz]; exact HX0.out
 go_wp2_with fail; refine (wrText_any b b magicB on _ HW.out.1 (by omega) (by omega) (Nat.le_trans hB0 HW.out.2.1.size)).mono ?_
 rintro e wk ⟨rfl, h⟩; replace HW := Lib.hid (HW.out.trans h); clear h c; have hk1 : (magicB ++ encText on).length ≤ 10004 := by rw [List.length_append, encText_len]; omega
 have c : wk.cell? ⟨w.heap.size, 1, none⟩ = some (.slice p os.length cap) := by rw [(HK.out _ _ HW.out).cell (p := ⟨w.heap.size, 1, none⟩) hbz]; exact HX1.out
 go_wp2_with fail; refine (nums_any b b _ 2 [(os.length : Int)] (magicB ++ encText on) _ (HW.out.1.keep (alloc_old _ _)) (BX.new HW.out.1.lt (by decide)) (.inr (.inl rfl)) (by rw [p2]; intro x hx; simp only [List.mem_cons, List.not_mem_nil, or_false] at hx; obtain rfl := hx; omega) (by simp) (by omega) (by have := HW.out.2.1.size; simp; omega)).mono ?_
 rintro e wk ⟨rfl, h⟩; replace HW := Lib.hid ((HW.out.keep (alloc_old _ _) hB0).trans h); clear h c; rw [show [(os.length : Int)].flatMap (leB 2) = leB 2 ((os.length : Int)) by simp] at HW
 have hk2 : ((magicB ++ encText on) ++ (leB 2 ((os.length : Int)))).length ≤ 10012 := by rw [List.length_append, leB_length]; omega
 have hl1 : ((magicB ++ encText on) ++ (leB 2 ((os.length : Int)))).length ≤ 20000 := by omega
 have HL1 : Hid (((magicB ++ encText on) ++ (leB 2 ((os.length : Int)))) ++ os.flatMap encSym = encObj ⟨on, os⟩) := by simp only [Hid, encObj, List.append_assoc]
 generalize ((magicB ++ encText on) ++ (leB 2 ((os.length : Int)))) = l1 at HW hl1 HL1; have HW1 : Hid (WPost b b (l1 ++ (os.take 0).flatMap encSym) w2 wk) := by simpa [Hid] using HW.out
 clear HW; have c : wk.cell? ⟨w.heap.size, 1, none⟩ = some (.slice p os.length cap) := by rw [(HK.out _ _ HW1.out).cell (p := ⟨w.heap.size, 1, none⟩) hbz]; exact HX1.out
 go_wp2; clear c
 go_loopw [31] (fun v31 wr => ∃ i : Nat, i ≤ os.length ∧ v31 = .int .i64 i ∧ WPost b b (l1 ++ (os.take i).flatMap encSym) w2 wr) (fun v31 _ => os.length - (intOf v31).toNat)
 case atStart => exact ⟨0, Nat.zero_le _, rfl, HW1.out⟩
 case round =>
  clear HW1; obtain ⟨i, hi, rfl, hw⟩ := hrel; have HW := Lib.hid hw; clear hw
  by_cases hlt : i < os.length
  ·have dI : decide ((i : Int) < (os.length : Int)) = true := by simp; omega
   have dI' : decide (i < os.length) = true := by simpa using hlt
   obtain rfl := HP.out (by omega)
   obtain ⟨vr, vn, g0, g1, g2, g3, g4, g5, g6, g7, hin⟩ := HC.out i hlt; replace g1 := cell_keep (HAB.out wr _ HW.out) g0 g1; replace g2 := cell_keep (HAB.out wr _ HW.out) g0 g2; replace g3 := cell_keep (HAB.out wr _ HW.out) g0 g3; replace g4 := cell_keep (HAB.out wr _ HW.out) g0 g4; replace g5 := cell_keep (HAB.out wr _ HW.out) g0 g5; replace g6 := cell_keep (HAB.out wr _ HW.out) g0 g6; replace g7 := cell_keep (HAB.out wr _ HW.out) g0 g7; obtain ⟨hfit, hsn, hsb, hsr, hrn, hsnt⟩ := HSM.out _ (List.getElem_mem hlt); have HT : Hid (l1 ++ (os.take (i + 1)).flatMap encSym = (l1 ++ (os.take i).flatMap encSym) ++ encSym os[i]) := by rw [Hid, take_flat hlt, List.append_assoc]
   have hl0 : (l1 ++ (os.take i).flatMap encSym).length ≤ 4000000 := by
    have := take_flat_le (f := encSym) (c := 60000) (l := os) (fun x hx => encSym_len (HSM.out x hx)) i
    rw [List.length_append]; omega
   generalize hy : os[i] = y at g1 g2 g3 g4 g5 g6 g7 hin hfit hsn hsb hsr hrn hsnt HT; clear hy; obtain ⟨yn, yb, yk, ys, yy, yr, yt⟩ := y; obtain ⟨f1, f2, f3, f4, f5, f6, f7, f8, f9⟩ := hfit; obtain ⟨⟨pR, capR, bR, oR, rfl, hcapR, hmaxR, hpR, hcR⟩, ⟨pN, capN, bN, oN, rfl, hcapN, hmaxN, hpN, hcN⟩, -⟩ := hin; simp only [] at g1 g2 g3 g4 g5 g6 g7 f1 f2 f3 f4 f5 f6 f7 f8 f9 hsn hsb hsr hrn hsnt hcapR hmaxR hpR hcR hcapN hmaxN hpN hcN; have HPR := Lib.hid hpR; have HCR := Lib.hid hcR; have HPN := Lib.hid hpN; have HCN := Lib.hid hcN; have HF7 := Lib.hid f7; have HF9 := Lib.hid f9; have HRN := Lib.hid hrn; clear hpR hcR hpN hcN f7 f9 hrn; have HS0 : Hid (WPost b b (l1 ++ (os.take i).flatMap encSym) w2 wr) := HW.out; clear HW; generalize hl0e : l1 ++ (os.take i).flatMap encSym = l0 at HS0 HT hl0; have HL0E := Lib.hid hl0e; clear hl0e; obtain ⟨wo, rfl⟩ : ∃ wo : World, wo = wr := ⟨_, rfl⟩; have HW := Lib.hid (HS0.out.keep (alloc_old wo (.cells #[.string yn, .int .u8 yb, .int .u8 yk, .int .u32 ys, .string yy, .slice pR yr.length capR, .slice pN yt.length capN] 55)) hB0); have HX : Hid (BX b (wo.alloc (.cells #[.string yn, .int .u8 yb, .int .u8 yk, .int .u32 ys, .string yy, .slice pR yr.length capR, .slice pN yt.length capN] 55)) wo.heap.size 55 #[.string yn, .int .u8 yb, .int .u8 yk, .int .u32 ys, .string yy, .slice pR yr.length capR, .slice pN yt.length capN]) := BX.new HS0.out.1.lt (by decide)
   clear g0; go_wp2_with fail; refine (wrText_any b b l0 yn _ HW.out.1 (by omega) (by omega) (Nat.le_trans hB0 HW.out.2.1.size)).mono ?_
   rintro e wk ⟨rfl, h⟩; replace HX := Lib.hid (HX.out.keep h.2.2); replace HW := Lib.hid (HW.out.trans h); clear h; have hk3 : (l0 ++ encText yn).length ≤ 4010000 := by rw [List.length_append, encText_len]; omega
   generalize wo.heap.size = sb at HX ⊢; have c : wk.cell? ⟨sb, 1, none⟩ = some (.int .u8 yb) := HX.out.cell 1; have c' : wk.cell? ⟨sb, 2, none⟩ = some (.int .u8 yk) := HX.out.cell 2; go_wp2_with fail; refine (nums_any b b _ 1 [yb, yk] (l0 ++ encText yn) _ (HW.out.1.keep (alloc_old _ _)) (BX.new HW.out.1.lt (by decide)) (.inl rfl) (by rw [p1]; intro x hx; simp only [List.mem_cons, List.not_mem_nil, or_false] at hx; rcases hx with rfl | rfl <;> omega) (by simp) (by omega) (by have := HW.out.2.1.size; simp; omega)).mono ?_
   rintro e wk ⟨rfl, h⟩; replace HX := Lib.hid ((HX.out.keep (KN.of_below (alloc_old _ _))).keep h.2.2); replace HW := Lib.hid ((HW.out.keep (alloc_old _ _) hB0).trans h); clear h c c'; rw [show [yb, yk].flatMap (leB 1) = leB 1 (yb) ++ leB 1 (yk) by simp] at HW
   have hk4 : ((l0 ++ encText yn) ++ (leB 1 (yb) ++ leB 1 (yk))).length ≤ 4010008 := by rw [List.length_append, leB2_length]; omega
   have c : wk.cell? ⟨sb, 3, none⟩ = some (.int .u32 ys) := HX.out.cell 3; go_wp2_with fail; refine (nums_any b b _ 4 [ys] ((l0 ++ encText yn) ++ (leB 1 (yb) ++ leB 1 (yk))) _ (HW.out.1.keep (alloc_old _ _)) (BX.new HW.out.1.lt (by decide)) (.inr (.inr rfl)) (by rw [p4]; intro x hx; simp only [List.mem_cons, List.not_mem_nil, or_false] at hx; obtain rfl := hx; omega) (by simp) (by omega) (by have := HW.out.2.1.size; simp; omega)).mono ?_
   rintro e wk ⟨rfl, h⟩; replace HX := Lib.hid ((HX.out.keep (KN.of_below (alloc_old _ _))).keep h.2.2); replace HW := Lib.hid ((HW.out.keep (alloc_old _ _) hB0).trans h); clear h c; rw [show [ys].flatMap (leB 4) = leB 4 (ys) by simp] at HW
   have hk5 : (((l0 ++ encText yn) ++ (leB 1 (yb) ++ leB 1 (yk))) ++ (leB 4 (ys))).length ≤ 4010016 := by rw [List.length_append, leB_length]; omega
   have c : wk.cell? ⟨sb, 4, none⟩ = some (.string yy) := HX.out.cell 4; go_wp2_with fail; refine (wrText_any b b (((l0 ++ encText yn) ++ (leB 1 (yb) ++ leB 1 (yk))) ++ (leB 4 (ys))) yy _ HW.out.1 (by omega) (by omega) (Nat.le_trans hB0 HW.out.2.1.size)).mono ?_
   rintro e wk ⟨rfl, h⟩; replace HX := Lib.hid (HX.out.keep h.2.2); replace HW := Lib.hid (HW.out.trans h); clear h c; have hk6 : ((((l0 ++ encText yn) ++ (leB 1 (yb) ++ leB 1 (yk))) ++ (leB 4 (ys))) ++ encText yy).length ≤ 4020016 := by rw [List.length_append, encText_len]; omega
   have c : wk.cell? ⟨sb, 5, none⟩ = some (.slice pR yr.length capR) := HX.out.cell 5; go_wp2_with fail; refine (nums_any b b _ 2 [(yr.length : Int)] ((((l0 ++ encText yn) ++ (leB 1 (yb) ++ leB 1 (yk))) ++ (leB 4 (ys))) ++ encText yy) _ (HW.out.1.keep (alloc_old _ _)) (BX.new HW.out.1.lt (by decide)) (.inr (.inl rfl)) (by rw [p2]; intro x hx; simp only [List.mem_cons, List.not_mem_nil, or_false] at hx; obtain rfl := hx; omega) (by simp) (by omega) (by have := HW.out.2.1.size; simp; omega)).mono ?_
   rintro e wk ⟨rfl, h⟩; replace HX := Lib.hid ((HX.out.keep (KN.of_below (alloc_old _ _))).keep h.2.2); replace HW := Lib.hid ((HW.out.keep (alloc_old _ _) hB0).trans h); clear h c; rw [show [(yr.length : Int)].flatMap (leB 2) = leB 2 ((yr.length : Int)) by simp] at HW
   have hk7 : (((((l0 ++ encText yn) ++ (leB 1 (yb) ++ leB 1 (yk))) ++ (leB 4 (ys))) ++ encText yy) ++ (leB 2 ((yr.length : Int)))).length ≤ 4020024 := by rw [List.length_append, leB_length]; omega
   have hl2 : (((((l0 ++ encText yn) ++ (leB 1 (yb) ++ leB 1 (yk))) ++ (leB 4 (ys))) ++ encText yy) ++ (leB 2 ((yr.length : Int)))).length ≤ 5000000 := by omega
   have HL2 : Hid ((((((l0 ++ encText yn) ++ (leB 1 (yb) ++ leB 1 (yk))) ++ (leB 4 (ys))) ++ encText yy) ++ (leB 2 ((yr.length : Int)))) ++ yr.flatMap encRel ++ leB 1 yt.length ++ yt.flatMap encNote = l0 ++ encSym ⟨yn, yb, yk, ys, yy, yr, yt⟩) := by simp only [Hid, encSym, List.append_assoc]
   generalize (((((l0 ++ encText yn) ++ (leB 1 (yb) ++ leB 1 (yk))) ++ (leB 4 (ys))) ++ encText yy) ++ (leB 2 ((yr.length : Int)))) = l2 at HW hl2 HL2; have HW3 : Hid (WPost b b (l2 ++ (yr.take 0).flatMap encRel) w2 wk) := by simpa [Hid] using HW.out
   clear HW; have c : wk.cell? ⟨sb, 5, none⟩ = some (.slice pR yr.length capR) := HX.out.cell 5; go_wp2; clear c; have HX3 := HX; clear HX; obtain ⟨wo2, rfl⟩ : ∃ wo2 : World, wo2 = wk := ⟨_, rfl⟩
   go_loopw [62] (fun v62 wr => ∃ k : Nat, k ≤ yr.length ∧ v62 = .int .i64 k ∧ WPost b b (l2 ++ (yr.take k).flatMap encRel) w2 wr ∧ BX b wr sb 55 #[.string yn, .int .u8 yb, .int .u8 yk, .int .u32 ys, .string yy, .slice pR yr.length capR, .slice pN yt.length capN]) (fun v62 _ => yr.length - (intOf v62).toNat)
   case atStart => exact ⟨0, Nat.zero_le _, rfl, HW3.out, HX3.out⟩
   case round =>
    clear HW3 HX3; obtain ⟨k, hk, rfl, hw, hx⟩ := hrel; have HS := Lib.hid hw; have HX := Lib.hid hx; clear hw hx
    by_cases hkl : k < yr.length
    ·obtain rfl := HPR.out (by omega)
     have dK : decide ((k : Int) < (yr.length : Int)) = true := by simp; omega
     have dK' : decide (k < yr.length) = true := by simpa using hkl
     obtain ⟨q0, q1, q2, q3, q4, q5, q6, q7, q8⟩ := relR_keeps _ _ _ _ _ (HAB.out wr _ HS.out) (HCR.out k hkl); have hfx := HF7.out _ (List.getElem_mem hkl); have hnx := HRN.out _ (List.getElem_mem hkl); have HT2 : Hid (l2 ++ (yr.take (k + 1)).flatMap encRel = (l2 ++ (yr.take k).flatMap encRel) ++ encRel yr[k]) := by rw [Hid, take_flat hkl, List.append_assoc]
     have hl3 : (l2 ++ (yr.take k).flatMap encRel).length ≤ 6000000 := by
      have := take_flat_le (f := encRel) (c := 43) (l := yr) (fun x hx => by rw [encRel_len]; have := HRN.out x hx; omega) k
      rw [List.length_append]; omega
     generalize yr[k] = x at q1 q2 q3 q4 q5 q6 q7 q8 hfx hnx HT2; obtain ⟨xo, xk, xn, xa⟩ := x; obtain ⟨u1, u2, u3, u4⟩ := hfx; simp only [] at q1 q2 q3 q4 q5 q6 q7 q8 hnx u1 u2 u3 u4; generalize hl3e : l2 ++ (yr.take k).flatMap encRel = l3 at HS HT2 hl3; clear hl3e; obtain ⟨wi, rfl⟩ : ∃ wi : World, wi = wr := ⟨_, rfl⟩; have HW := Lib.hid (HS.out.keep (alloc_old wi (.cells #[.int .u32 xo, .int .u8 xk, .string xn, .int .u32 xa] 133)) hB0); have HY : Hid (BX b (wi.alloc (.cells #[.int .u32 xo, .int .u8 xk, .string xn, .int .u32 xa] 133)) wi.heap.size 133 #[.int .u32 xo, .int .u8 xk, .string xn, .int .u32 xa]) := BX.new HS.out.1.lt (by decide)
     replace HX := Lib.hid (HX.out.keep (KN.of_below (alloc_old wi (.cells #[.int .u32 xo, .int .u8 xk, .string xn, .int .u32 xa] 133)))); obtain ⟨wk, hwke⟩ : ∃ wk : World, wk = wi.alloc (.cells #[.int .u32 xo, .int .u8 xk, .string xn, .int .u32 xa] 133) := ⟨_, rfl⟩; rw [← hwke] at HW HY HX; have HWE := Lib.hid hwke; clear hwke; go_upto_region 19 with fail
     rw [← HWE.out]; generalize wi.heap.size = xb at HY ⊢; clear HWE; have c : wk.cell? ⟨xb, 0, none⟩ = some (.int .u32 xo) := HY.out.cell 0; go_wp2_with fail; refine (nums_any b b _ 4 [xo] l3 _ (HW.out.1.keep (alloc_old _ _)) (BX.new HW.out.1.lt (by decide)) (.inr (.inr rfl)) (by rw [p4]; intro x hx; simp only [List.mem_cons, List.not_mem_nil, or_false] at hx; obtain rfl := hx; omega) (by simp) (by omega) (by have := HW.out.2.1.size; simp; omega)).mono ?_
     rintro e wk ⟨rfl, h⟩; replace HX := Lib.hid ((HX.out.keep (KN.of_below (alloc_old _ _))).keep h.2.2); replace HY := Lib.hid ((HY.out.keep (KN.of_below (alloc_old _ _))).keep h.2.2); replace HW := Lib.hid ((HW.out.keep (alloc_old _ _) hB0).trans h); clear h c; rw [show [xo].flatMap (leB 4) = leB 4 (xo) by simp] at HW
     have hk8 : (l3 ++ (leB 4 (xo))).length ≤ 6000008 := by rw [List.length_append, leB_length]; omega
     have c : wk.cell? ⟨xb, 1, none⟩ = some (.int .u8 xk) := HY.out.cell 1; go_wp2_with fail; refine (nums_any b b _ 1 [xk] (l3 ++ (leB 4 (xo))) _ (HW.out.1.keep (alloc_old _ _)) (BX.new HW.out.1.lt (by decide)) (.inl rfl) (by rw [p1]; intro x hx; simp only [List.mem_cons, List.not_mem_nil, or_false] at hx; obtain rfl := hx; omega) (by simp) (by omega) (by have := HW.out.2.1.size; simp; omega)).mono ?_
     rintro e wk ⟨rfl, h⟩; replace HX := Lib.hid ((HX.out.keep (KN.of_below (alloc_old _ _))).keep h.2.2); replace HY := Lib.hid ((HY.out.keep (KN.of_below (alloc_old _ _))).keep h.2.2); replace HW := Lib.hid ((HW.out.keep (alloc_old _ _) hB0).trans h); clear h c; rw [show [xk].flatMap (leB 1) = leB 1 (xk) by simp] at HW
     have hk9 : ((l3 ++ (leB 4 (xo))) ++ (leB 1 (xk))).length ≤ 6000016 := by rw [List.length_append, leB_length]; omega
     have c : wk.cell? ⟨xb, 2, none⟩ = some (.string xn) := HY.out.cell 2; go_wp2_with fail; refine (wrText_any b b ((l3 ++ (leB 4 (xo))) ++ (leB 1 (xk))) xn _ HW.out.1 (by omega) (by omega) (Nat.le_trans hB0 HW.out.2.1.size)).mono ?_
     rintro e wk ⟨rfl, h⟩; replace HX := Lib.hid (HX.out.keep h.2.2); replace HY := Lib.hid (HY.out.keep h.2.2); replace HW := Lib.hid (HW.out.trans h); clear h c; have hk10 : (((l3 ++ (leB 4 (xo))) ++ (leB 1 (xk))) ++ encText xn).length ≤ 6010016 := by rw [List.length_append, encText_len]; omega
     have c : wk.cell? ⟨xb, 3, none⟩ = some (.int .u32 xa) := HY.out.cell 3; go_wp2_with fail; refine (nums_any b b _ 4 [xa] (((l3 ++ (leB 4 (xo))) ++ (leB 1 (xk))) ++ encText xn) _ (HW.out.1.keep (alloc_old _ _)) (BX.new HW.out.1.lt (by decide)) (.inr (.inr rfl)) (by rw [p4]; intro x hx; simp only [List.mem_cons, List.not_mem_nil, or_false] at hx; obtain rfl := hx; omega) (by simp) (by omega) (by have := HW.out.2.1.size; simp; omega)).mono ?_
     rintro e wk ⟨rfl, h⟩; replace HX := Lib.hid ((HX.out.keep (KN.of_below (alloc_old _ _))).keep h.2.2); replace HY := Lib.hid ((HY.out.keep (KN.of_below (alloc_old _ _))).keep h.2.2); replace HW := Lib.hid ((HW.out.keep (alloc_old _ _) hB0).trans h); clear h c; rw [show [xa].flatMap (leB 4) = leB 4 (xa) by simp] at HW
     have hk11 : ((((l3 ++ (leB 4 (xo))) ++ (leB 1 (xk))) ++ encText xn) ++ (leB 4 (xa))).length ≤ 6010024 := by rw [List.length_append, leB_length]; omega
     have HE : Hid (((((l3 ++ (leB 4 (xo))) ++ (leB 1 (xk))) ++ encText xn) ++ (leB 4 (xa))) = l3 ++ encRel ⟨xo, xk, xn, xa⟩) := by simp only [Hid, encRel, List.append_assoc]
     rw [HE.out, ← HT2.out] at HW; go_wp2; go_roundw
     case rel => exact ⟨k + 1, by omega, by go_num, HW.out, HX.out⟩
     case measure => simp [intOf]; omega
    ·have HE3 : Hid (yr.take k = yr) := List.take_of_length_le (by omega)
     rw [HE3.out] at HS
     have hl4 : (l2 ++ yr.flatMap encRel).length ≤ 6000000 := by
      have := flat_le (f := encRel) (c := 43) (l := yr) (fun x hx => by rw [encRel_len]; have := HRN.out x hx; omega)
      rw [List.length_append]; omega
     clear HE3; obtain ⟨wk, rfl⟩ : ∃ wk : World, wk = wr := ⟨_, rfl⟩; have HW := HS; clear HS; have c : wk.cell? ⟨sb, 6, none⟩ = some (.slice pN yt.length capN) := HX.out.cell 6; go_wp2_with fail; refine (nums_any b b _ 1 [(yt.length : Int)] (l2 ++ yr.flatMap encRel) _ (HW.out.1.keep (alloc_old _ _)) (BX.new HW.out.1.lt (by decide)) (.inl rfl) (by rw [p1]; intro x hx; simp only [List.mem_cons, List.not_mem_nil, or_false] at hx; obtain rfl := hx; omega) (by simp) (by omega) (by have := HW.out.2.1.size; simp; omega)).mono ?_
     rintro e wk ⟨rfl, h⟩; replace HX := Lib.hid ((HX.out.keep (KN.of_below (alloc_old _ _))).keep h.2.2); replace HW := Lib.hid ((HW.out.keep (alloc_old _ _) hB0).trans h); clear h c; rw [show [(yt.length : Int)].flatMap (leB 1) = leB 1 ((yt.length : Int)) by simp] at HW
     have hk12 : ((l2 ++ yr.flatMap encRel) ++ (leB 1 ((yt.length : Int)))).length ≤ 6000008 := by rw [List.length_append, leB_length]; omega
     have hl5 : ((l2 ++ yr.flatMap encRel) ++ (leB 1 ((yt.length : Int)))).length ≤ 6100000 := by omega
     have HL5 : Hid (((l2 ++ yr.flatMap encRel) ++ (leB 1 ((yt.length : Int)))) ++ yt.flatMap encNote = l0 ++ encSym ⟨yn, yb, yk, ys, yy, yr, yt⟩) := HL2.out; generalize ((l2 ++ yr.flatMap encRel) ++ (leB 1 ((yt.length : Int)))) = l5 at HW hl5 HL5; have HW5 : Hid (WPost b b (l5 ++ (yt.take 0).flatMap encNote) w2 wk) := by simpa [Hid] using HW.out
     clear HW; have c : wk.cell? ⟨sb, 6, none⟩ = some (.slice pN yt.length capN) := HX.out.cell 6; go_wp2; clear c HX; obtain ⟨wo3, rfl⟩ : ∃ wo3 : World, wo3 = wk := ⟨_, rfl⟩
     go_loopw [92] (fun v92 wr => ∃ j : Nat, j ≤ yt.length ∧ v92 = .int .i64 j ∧ WPost b b (l5 ++ (yt.take j).flatMap encNote) w2 wr) (fun v92 _ => yt.length - (intOf v92).toNat)
     case atStart => exact ⟨0, Nat.zero_le _, rfl, HW5.out⟩
     case round =>
      clear HW5; obtain ⟨j, hj, rfl, hw⟩ := hrel; have HS := Lib.hid hw; clear hw
      by_cases hjl : j < yt.length
      ·obtain rfl := HPN.out (by omega)
       obtain ⟨q0, q1, q2, q3, q4, q5, q6⟩ := noteR_keeps _ _ _ _ _ (HAB.out wr _ HS.out) (HCN.out j hjl); have HT2 : Hid (l5 ++ (yt.take (j + 1)).flatMap encNote = (l5 ++ (yt.take j).flatMap encNote) ++ encNote yt[j]) := by rw [Hid, take_flat hjl, List.append_assoc]
       have hl6 : (l5 ++ (yt.take j).flatMap encNote).length ≤ 7000000 := by
        have := take_flat_le (f := encNote) (c := 9) (l := yt) (fun x hx => by rw [encNote_len]; exact Nat.le_refl _) j
        rw [List.length_append]; omega
       generalize yt[j] = x at q1 q2 q3 q4 q5 q6 HT2; obtain ⟨xk, xn, xm⟩ := x; simp only [] at q1 q2 q3 q4 q5 q6; generalize hl6e : l5 ++ (yt.take j).flatMap encNote = l6 at HS HT2 hl6; clear hl6e; obtain ⟨wi, rfl⟩ : ∃ wi : World, wi = wr := ⟨_, rfl⟩; have HW := Lib.hid (HS.out.keep (alloc_old wi (.cells #[.int .u8 xk, .int .u32 xn, .int .u32 xm] 155)) hB0); have HY : Hid (BX b (wi.alloc (.cells #[.int .u8 xk, .int .u32 xn, .int .u32 xm] 155)) wi.heap.size 155 #[.int .u8 xk, .int .u32 xn, .int .u32 xm]) := BX.new HS.out.1.lt (by decide)
       obtain ⟨wk, hwke⟩ : ∃ wk : World, wk = wi.alloc (.cells #[.int .u8 xk, .int .u32 xn, .int .u32 xm] 155) := ⟨_, rfl⟩; rw [← hwke] at HW HY; have HWE := Lib.hid hwke; clear hwke; go_upto_region 28 with fail
       rw [← HWE.out]; generalize wi.heap.size = xb at HY ⊢; clear HWE; have c : wk.cell? ⟨xb, 0, none⟩ = some (.int .u8 xk) := HY.out.cell 0; go_wp2_with fail; refine (nums_any b b _ 1 [xk] l6 _ (HW.out.1.keep (alloc_old _ _)) (BX.new HW.out.1.lt (by decide)) (.inl rfl) (by rw [p1]; intro x hx; simp only [List.mem_cons, List.not_mem_nil, or_false] at hx; obtain rfl := hx; omega) (by simp) (by omega) (by have := HW.out.2.1.size; simp; omega)).mono ?_
       rintro e wk ⟨rfl, h⟩; replace HY := Lib.hid ((HY.out.keep (KN.of_below (alloc_old _ _))).keep h.2.2); replace HW := Lib.hid ((HW.out.keep (alloc_old _ _) hB0).trans h); clear h c; rw [show [xk].flatMap (leB 1) = leB 1 (xk) by simp] at HW
       have hk13 : (l6 ++ (leB 1 (xk))).length ≤ 7000008 := by rw [List.length_append, leB_length]; omega
       have c : wk.cell? ⟨xb, 1, none⟩ = some (.int .u32 xn) := HY.out.cell 1; have c' : wk.cell? ⟨xb, 2, none⟩ = some (.int .u32 xm) := HY.out.cell 2; go_wp2_with fail; refine (nums_any b b _ 4 [xn, xm] (l6 ++ (leB 1 (xk))) _ (HW.out.1.keep (alloc_old _ _)) (BX.new HW.out.1.lt (by decide)) (.inr (.inr rfl)) (by rw [p4]; intro x hx; simp only [List.mem_cons, List.not_mem_nil, or_false] at hx; rcases hx with rfl | rfl <;> omega) (by simp) (by omega) (by have := HW.out.2.1.size; simp; omega)).mono ?_
       rintro e wk ⟨rfl, h⟩; replace HY := Lib.hid ((HY.out.keep (KN.of_below (alloc_old _ _))).keep h.2.2); replace HW := Lib.hid ((HW.out.keep (alloc_old _ _) hB0).trans h); clear h c c'; rw [show [xn, xm].flatMap (leB 4) = leB 4 (xn) ++ leB 4 (xm) by simp] at HW
       have hk14 : ((l6 ++ (leB 1 (xk))) ++ (leB 4 (xn) ++ leB 4 (xm))).length ≤ 7000016 := by rw [List.length_append, leB2_length]; omega
       have HE : Hid (((l6 ++ (leB 1 (xk))) ++ (leB 4 (xn) ++ leB 4 (xm))) = l6 ++ encNote ⟨xk, xn, xm⟩) := by simp only [Hid, encNote, List.append_assoc]
       rw [HE.out, ← HT2.out] at HW; go_wp2; go_roundw
       case rel => exact ⟨j + 1, by omega, by go_num, HW.out⟩
       case measure => simp [intOf]; omega
      ·have HE3 : Hid (yt.take j = yt) := List.take_of_length_le (by omega)
       rw [HE3.out, HL5.out, ← HT.out] at HS; clear HE3; go_wp2; go_roundw
       case rel => exact ⟨i + 1, by omega, by go_num, HS.out⟩
       case measure => simp [intOf]; omega
  ·have HE : Hid (os.take i = os) := List.take_of_length_le (by omega)
   rw [HE.out, HL1.out] at HW; clear HE; have HST := Lib.hid (string_any b b (encObj ⟨on, os⟩) wr HW.out.1 (by rw [encObj]; simp [magicB]))
   go_wp2_with fail; refine HST.out.mono ?_; rintro e w9 ⟨rfl, hB9⟩; have HB9 := Lib.hid hB9; clear hB9 HST; go_wp2; go_ret2; exact ⟨rfl, (HAB.out wr _ HW.out).trans (HB9.out.mono (by omega))⟩
end
section
open Go.RowKit
end
section
open Go.RowKit
theorem encObj_le {o : GObj} {vs : Value} {w : World} (h : ObjIn w o vs) (hm : mayP o = true) (hsm : ∀ s ∈ o.syms, s.bytes.size < 4294967296) : (encObj o).length ≤ 4000000 := by
 obtain ⟨h1, h2, h3⟩ := objSm_of hm (objNum_of h) hsm; have h4 := flat_le (f := encSym) (c := 60000) (l := o.syms) (fun x hx => encSym_len (h3 x hx))
 have h5 : magicB.length = 4 := rfl; unfold encObj; rw [List.length_append, List.length_append, List.length_append, encText_len, leB_length, h5]; omega
set_option maxHeartbeats 1000000 in
theorem arcLay_any (B b : Nat) (l : BL) (s : ByteArray) (n : Int) (w : World) (h : AB.IsWr B b l w) (hlen : l.length + s.size ≤ 140737488355328) (hBw : B ≤ w.heap.size) :
 Calls Tryz.prog 31 #[.string s, .int .i64 n, .pointer (some ⟨b, 0, none⟩)] w fun e w' => e = .returned (.tuple #[]) ∧ AB.WPost B b (l ++ s.data.toList) w w' := by
 have HS := Lib.hid (AB.writeString_any B b l s w h hlen hBw); clear h; go_enter Tryz.func31, Tryz.ntmps31; go_wp2_with fail; refine HS.out.mono ?_; rintro e w2 ⟨rfl, h2⟩; have H2 := Lib.hid h2; clear h2 HS; go_wp2; go_end0; exact ⟨rfl, H2.out⟩
theorem encArc_ne (a : GArc) : encArc a ≠ [] := by simp [encArc, aMagic]
set_option maxHeartbeats 4000000 in
theorem arcPut_ok (a : GArc) (vs : Value) (w : World) (h : ArcIn w a vs) (hm : arcOk a = true) (hsm : ∀ o ∈ a.members, ∀ s ∈ o.syms, s.bytes.size < 4294967296) :
 Calls Tryz.prog 11 #[.agg #[.string a.name, vs]] w fun e w' => e = .returned (.tuple #[.string (bsOf (encArc a)), .int .i64 0]) ∧ Below w.heap.size w w' := by
 have HCK := Lib.hid (arcCheck_any a vs (w.alloc (.cells #[.string a.name, vs] 24)) (ArcIn.keep (alloc_old w _) h)); rw [hm] at HCK; have hm' := hm; simp only [arcOk, Bool.and_eq_true, decide_eq_true_eq] at hm'; obtain ⟨⟨k1, k2⟩, k3⟩ := hm'; have hnl := isName_le k2; have HEA := Lib.hid (memsGo_each _ _ k1); have HSM := Lib.hid hsm; obtain ⟨an, am⟩ := a; have HR := Lib.hid h.1; obtain ⟨⟨p, cap, b0, o0, rfl, hcap, hmax, hp, -⟩, hnm⟩ := h; simp only [] at *; clear hm hsm k1 k2; have HP := Lib.hid hp; clear hp; simp only [errB, if_true] at HCK; go_enter Tryz.func11, Tryz.ntmps11; go_wp2_with fail; refine HCK.out.mono ?_; rintro e w1 ⟨rfl, hB1⟩; clear HCK; have x0 : w1.cell? ⟨w.heap.size, 0, none⟩ = some (.string an) := by rw [hB1.cell (by simp)]; simp [go_sem]
 have x1 : w1.cell? ⟨w.heap.size, 1, none⟩ = some (.slice p am.length cap) := by rw [hB1.cell (by simp)]; simp [go_sem]
 have z1 : w.heap.size < w1.heap.size := by have := hB1.size; simp at this; omega
 have HB1 : Hid (Below w.heap.size w w1) := (alloc_old w _).trans (hB1.mono (by simp))
 have HX0 := Lib.hid x0; have HX1 := Lib.hid x1; clear hB1 x0 x1; have HW0 : Hid (AB.IsWr w1.heap.size w1.heap.size [] (w1.alloc (.cells #[.pointer none, .slice none 0 0] 83))) := Lib.fresh_isBuilder _ _ w1; have HB2 : Hid (Below w1.heap.size w1 (w1.alloc (.cells #[.pointer none, .slice none 0 0] 83))) := alloc_old _ _; go_wp2_with fail; generalize w1.alloc (.cells #[.pointer none, .slice none 0 0] 83) = w2 at HW0 HB2 ⊢; generalize hbe : w1.heap.size = b at *; have HBE := Lib.hid hbe; clear hbe; have hB0 : b ≤ w2.heap.size := by have := HB2.out.size; rw [HBE.out] at this; exact this
 refine (AB.writeString_any b b [] _ _ HW0.out (by simp; decide) hB0).mono ?_
 rintro e w3 ⟨rfl, hw3⟩; have HW : Hid (AB.WPost b b aMagic w2 w3) := hw3; clear hw3 HW0; have HK : Hid (∀ wk l, AB.WPost b b l w2 wk → Below b w1 wk) := fun wk l h => HB2.out.trans h.2.1
 have HAB : Hid (∀ wk l, AB.WPost b b l w2 wk → Below w.heap.size w wk) := fun wk l h => HB1.out.trans ((HK.out wk l h).mono (by omega))
 obtain ⟨wk, rfl⟩ : ∃ wk : World, wk = w3 := ⟨_, rfl⟩; have hbz : w.heap.size < b := by have := z1; omega
 have hmg : aMagic.length ≤ 4 := Nat.le_refl _; have c : wk.cell? ⟨w.heap.size, 0, none⟩ = some (.string an) := by rw [(HK.out _ _ HW.out).cell (p := ⟨w.heap.size, 0, none⟩) hbz]; exact HX0.out
 go_wp2_with fail; refine (ptext_any an _ (by omega)).mono ?_
 rintro e w4 ⟨rfl, hB4⟩; replace HW := Lib.hid (HW.out.keep hB4 hB0); have hz4 : b ≤ w4.heap.size := Nat.le_trans hB0 HW.out.2.1.size; clear hB4 c; have hte : (encText an).length ≤ 70000 := by rw [encText_len]; omega
 have HD : Hid ((bsOf (encText an)).data.toList = encText an) := by rw [Hid, bsOf_list]
 have hsz : (bsOf (encText an)).size = (encText an).length := bsOf_size _; generalize bsOf (encText an) = tb at hsz HD ⊢; go_wp2_with fail; refine (arcLay_any b b aMagic tb 0 _ HW.out.1 (by omega) hz4).mono ?_
 rintro e wk ⟨rfl, h⟩; rw [HD.out] at h; replace HW := Lib.hid (HW.out.trans h); clear h HD hsz; have hk1 : (aMagic ++ encText an).length ≤ 70004 := by rw [List.length_append]; omega
 have c : wk.cell? ⟨w.heap.size, 1, none⟩ = some (.slice p am.length cap) := by rw [(HK.out _ _ HW.out).cell (p := ⟨w.heap.size, 1, none⟩) hbz]; exact HX1.out
 go_wp2_with fail; refine (pnum1 (am.length : Int) _ (by omega) (by omega)).mono ?_
 rintro e w5 ⟨rfl, hB5⟩; replace HW := Lib.hid (HW.out.keep hB5 hB0); have hz5 : b ≤ w5.heap.size := Nat.le_trans hB0 HW.out.2.1.size; clear hB5 c; have HD : Hid ((bsOf (leB 1 (am.length : Int))).data.toList = leB 1 (am.length : Int)) := by rw [Hid, bsOf_list]
 have hsz : (bsOf (leB 1 (am.length : Int))).size = 1 := by rw [bsOf_size, leB_length]
 generalize bsOf (leB 1 (am.length : Int)) = tb2 at hsz HD ⊢; go_wp2_with fail; refine (arcLay_any b b (aMagic ++ encText an) tb2 0 _ HW.out.1 (by omega) hz5).mono ?_
 rintro e wk ⟨rfl, h⟩; rw [HD.out] at h; replace HW := Lib.hid (HW.out.trans h); clear h HD hsz; have hl1 : ((aMagic ++ encText an) ++ leB 1 (am.length : Int)).length ≤ 70010 := by rw [List.length_append, leB_length]; omega
 have HL1 : Hid (((aMagic ++ encText an) ++ leB 1 (am.length : Int)) ++ am.flatMap encMem = encArc ⟨an, am⟩) := by simp only [Hid, encArc, List.append_assoc]
 generalize ((aMagic ++ encText an) ++ leB 1 (am.length : Int)) = l1 at HW hl1 HL1; have HW1 : Hid (AB.WPost b b (l1 ++ (am.take 0).flatMap encMem) w2 wk) := by simpa [Hid] using HW.out
 clear HW hk1 hmg hte; have c : wk.cell? ⟨w.heap.size, 1, none⟩ = some (.slice p am.length cap) := by rw [(HK.out _ _ HW1.out).cell (p := ⟨w.heap.size, 1, none⟩) hbz]; exact HX1.out
 go_wp2; clear c
 go_loopw [37] (fun v37 wr => ∃ i : Nat, i ≤ am.length ∧ v37 = .int .i64 i ∧ AB.WPost b b (l1 ++ (am.take i).flatMap encMem) w2 wr) (fun v37 _ => am.length - (intOf v37).toNat)
 case atStart => exact ⟨0, Nat.zero_le _, rfl, HW1.out⟩
 case round =>
  clear HW1; obtain ⟨i, hi, rfl, hw⟩ := hrel; have HW := Lib.hid hw; clear hw
  by_cases hlt : i < am.length
  ·have dI : decide ((i : Int) < (am.length : Int)) = true := by simp; omega
   have dI' : decide (i < am.length) = true := by simpa using hlt
   obtain rfl := HP.out (by omega)
   obtain ⟨p', cap', b', o', he, -, -, hp', hc'⟩ := ObjsAt.keep (HAB.out wr _ HW.out) HR.out; cases he; cases hp' (by omega)
   obtain ⟨vs, g0, g1, g2, hin⟩ := hc' i hlt; have hmem := List.getElem_mem hlt; have HT : Hid (l1 ++ (am.take (i + 1)).flatMap encMem = (l1 ++ (am.take i).flatMap encMem) ++ encMem am[i]) := by rw [Hid, take_flat hlt, List.append_assoc]
   have hl0 : (l1 ++ (am.take i).flatMap encMem).length ≤ 200000000 := by
    have h1 := take_flat_le (f := encMem) (c := 4000004) (l := am) (fun x hx => by
     obtain ⟨j, hj, rfl⟩ := List.getElem_of_mem hx; obtain ⟨_, _, _, _, hinj⟩ := hc' j hj; have := encObj_le hinj (HEA.out _ hx) (HSM.out _ hx); unfold encMem; rw [List.length_append, leB_length]; omega) i
    rw [List.length_append]; omega
   have HPU := Lib.hid (objPut_ok am[i] vs _ (ObjIn.keep (alloc_old wr (.cells #[.string am[i].name, vs] 50)) hin) (HEA.out _ hmem) (HSM.out _ hmem)); have hel := encObj_le hin (HEA.out _ hmem) (HSM.out _ hmem); have hem : encMem am[i] = leB 4 ((encObj am[i]).length : Int) ++ encObj am[i] := rfl; rw [hem] at HT; generalize encObj am[i] = eb at HPU hel HT; clear hem; generalize am[i] = y at g1 g2 hin HPU; obtain ⟨yn, ys⟩ := y; obtain ⟨⟨p1, q1, b1, o1, rfl, -⟩, -⟩ := hin; simp only [] at g1 g2 HPU; clear hc' hp' hmem; generalize hl0e : l1 ++ (am.take i).flatMap encMem = l0 at HW HT hl0; clear hl0e; have HWA := Lib.hid (HW.out.keep (alloc_old wr (.cells #[.string yn, .slice p1 ys.length q1] 50)) hB0); go_wp2_with fail; refine HPU.out.mono ?_; rintro e w6 ⟨rfl, hB6⟩; replace HWA := Lib.hid (HWA.out.keep hB6 hB0); clear hB6 HPU; have HD : Hid ((bsOf eb).data.toList = eb) := by rw [Hid, bsOf_list]
   have hsz : (bsOf eb).size = eb.length := bsOf_size _; generalize bsOf eb = tb at hsz HD ⊢; generalize hne : eb.length = n at hsz hel HT; have HNE := Lib.hid hne; clear hne; go_wp2_with fail; refine (pnum4 (n : Int) _ (by omega) (by omega)).mono ?_
   rintro e w7 ⟨rfl, hB7⟩; replace HWA := Lib.hid (HWA.out.keep hB7 hB0); have hz7 : b ≤ w7.heap.size := Nat.le_trans hB0 HWA.out.2.1.size; clear hB7; have HD2 : Hid ((bsOf (leB 4 (n : Int))).data.toList = leB 4 (n : Int)) := by rw [Hid, bsOf_list]
   have hsz2 : (bsOf (leB 4 (n : Int))).size = 4 := by rw [bsOf_size, leB_length]
   generalize bsOf (leB 4 (n : Int)) = tb2 at hsz2 HD2 ⊢; go_wp2_with fail; refine (arcLay_any b b l0 tb2 0 _ HWA.out.1 (by omega) hz7).mono ?_
   rintro e w8 ⟨rfl, h⟩; rw [HD2.out] at h; replace HWA := Lib.hid (HWA.out.trans h); clear h HD2 hsz2; have hz8 : b ≤ w8.heap.size := Nat.le_trans hB0 HWA.out.2.1.size; have hl8 : (l0 ++ leB 4 (n : Int)).length ≤ 200000010 := by rw [List.length_append, leB_length]; omega
   go_wp2_with fail; refine (AB.writeString_any b b (l0 ++ leB 4 (n : Int)) tb _ HWA.out.1 (by omega) hz8).mono ?_
   rintro e w9 ⟨rfl, h⟩; rw [HD.out] at h; replace HWA := Lib.hid (HWA.out.trans h); clear h HD hsz; go_wp2; go_roundw
   case rel => exact ⟨i + 1, by omega, by go_num, by rw [HT.out, ← List.append_assoc]; exact HWA.out⟩
   case measure => simp [intOf]; omega
  ·have HE : Hid (am.take i = am) := List.take_of_length_le (by omega)
   rw [HE.out, HL1.out] at HW; clear HE; have HST := Lib.hid (AB.string_any b b (encArc ⟨an, am⟩) wr HW.out.1 (encArc_ne _)); go_wp2_with fail; refine HST.out.mono ?_; rintro e w9 ⟨rfl, hB9⟩; have HB9 := Lib.hid hB9; clear hB9 HST; go_wp2; go_ret2; exact ⟨rfl, (HAB.out wr _ HW.out).trans (HB9.out.mono (by omega))⟩
end
end Go.Proofs.YtboegjdkedjhcaaGreatDoor
