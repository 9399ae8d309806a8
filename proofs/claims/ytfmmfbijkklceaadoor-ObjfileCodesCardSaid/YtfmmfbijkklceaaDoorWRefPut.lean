/- The walk of aediculeref09.Put (printed by genrefput.py). -/
import Derived.Test.YtfmmfbijkklceaaDoorWRefNum
import Derived.Test.YtfmmfbijkklceaaDoorPackFit
import Derived.Test.YtfmmfbijkklceaaDoorBelowReg
import Derived.Test.YtfmmfbijkklceaaDoorOpen
import Derived.Deep.Cut
import Derived.IntWalk
namespace Go.Proofs.YtfmmfbijkklceaaDoor
open Go.RowKit
theorem bs_cat (a c : BL) : bsOf a ++ bsOf c = bsOf (a ++ c) := bsOf_app a (bsOf c)
theorem small_cat {a c : BL} {n : Nat} (h : a.length ≤ n) (hc : c.length ≤ 100000) (hn : n ≤ 100000000) : ¬ 9223372036854775807 < (bsOf a).size + (bsOf c).size := by rw [bsOf_size, bsOf_size]; omega
theorem app_le {a c : BL} {n k : Nat} (h : a.length ≤ n) (hc : c.length ≤ k) : (a ++ c).length ≤ n + k := by rw [List.length_append]; omega
theorem leB_le (n : Nat) (v : Int) : (leB n v).length ≤ n := by rw [leB_length]; exact Nat.le_refl _
theorem enc_le {s : ByteArray} {k : Nat} (h : s.size ≤ k) : (encText s).length ≤ 2 + k := by rw [encText_len]; omega
set_option maxRecDepth 100000 in
set_option maxHeartbeats 4000000 in
theorem refPut_ok (o : GObj) (vs : Value) (w : World) (h : ObjIn w o vs) (hSM : o.name.size ≤ 32 ∧ o.syms.length ≤ 64 ∧ ∀ s ∈ o.syms, SymSm s) :
    Calls Tryd.prog 12 #[.agg #[.string o.name, vs]] w fun e w' => e = .returned (.string (bsOf (encObj o))) ∧ Below w.heap.size w w' := by
  have HSM := Lib.hid hSM.2.2
  obtain ⟨hn1, hn2, -⟩ := hSM
  obtain ⟨on, os⟩ := o
  obtain ⟨⟨p, cap, b0, o0, rfl, hcap, hmax, hp, hc⟩, hnm⟩ := h
  simp only [] at *
  have HP := Lib.hid hp; clear hp
  have HC := Lib.hid hc; clear hc
  have hap : ∀ a c : BL, bsOf a ++ bsOf c = bsOf (a ++ c) := bs_cat
  have hmg : (⟨#[65, 79, 66, 49]⟩ : ByteArray) = bsOf magicB := rfl
  have hm4 : magicB.length ≤ 4 := Nat.le_refl _
  have T0 : Hid (∀ (W : World) (s : ByteArray), s.size < 65536 → ∀ x : BW W, Calls Tryd.prog 24 #[.string s] x.u fun e w' => e = .returned (.string (bsOf (encText s))) ∧ ∃ y : BW W, w' = y.u) := fun W s hs x => calls_below (rtext09 s x.u hs)
  have N0 : Hid (∀ (W : World) (n : Nat) (v : Int), 1 ≤ n → n ≤ 4 → 0 ≤ v → v < pow256 n → v ≤ 4294967295 → ∀ x : BW W, Calls Tryd.prog 25 #[.int .u32 v, .int .i64 n] x.u fun e w' => e = .returned (.string (bsOf (leB n v))) ∧ ∃ y : BW W, w' = y.u) := fun W n v a b c d f x => calls_below (rnum09 n v x.u a b c d f)
  go_enter Tryd.func12, Tryd.ntmps12
  go_wp2
  generalize hw1 : w.alloc (.cells #[.string on, .slice p os.length cap] 24) = w1
  have HB1 : Hid (Below w.heap.size w w1) := by subst hw1; exact alloc_old _ _
  have z1 : w.heap.size < w1.heap.size := by subst hw1; simp
  have x0 : w1.cell? ⟨w.heap.size, 0, none⟩ = some (.string on) := by subst hw1; simp [go_sem]
  have x1 : w1.cell? ⟨w.heap.size, 1, none⟩ = some (.slice p os.length cap) := by subst hw1; simp [go_sem]
  clear hw1
  have HX1 := Lib.hid x1
  have s1 : ¬ 9223372036854775807 < (bsOf (magicB)).size + (bsOf (encText on)).size := small_cat (n := 4) hm4 (Nat.le_trans (enc_le (k := 32) hn1) (by omega)) (by omega)
  have s2 : ¬ 9223372036854775807 < (bsOf (magicB ++ encText on)).size + (bsOf (leB 2 ((os.length : Int)))).size := small_cat (n := 4 + (34)) (app_le hm4 (enc_le (k := 32) hn1)) (Nat.le_trans (leB_le 2 _) (by omega)) (by omega)
  have HC1 := Lib.hid (T0.out w1 on (by omega))
  have HC2 : Hid (∀ x : BW w1, Calls Tryd.prog 25 #[.int .u32 ((os.length : Int)), .int .i64 2] x.u fun e w' => e = .returned (.string (bsOf (leB 2 ((os.length : Int))))) ∧ ∃ y : BW w1, w' = y.u) := N0.out w1 2 ((os.length : Int)) (by omega) (by omega) (by omega) (by rw [p2]; omega) (by omega)
  have y0 := bw_cell z1 x0
  have y1 := bw_cell z1 x1
  have wr1 : IntKind.u32.wrap (os.length : Int) = (os.length : Int) := IntWalk.u32_in _ (by omega)
  refine wp_region_below (by kernel_rfl) (by kernel_rfl) ?_
  repeat (first | go_big_quiet_skip | quiet_step ((first | (go_at_call 24; (with_reducible exact HC1.out _)) | (go_at_call 25; (with_reducible exact HC2.out _)))))
  refine wpQuiet_nil ?_
  rintro w4 hx4; have hB4 := bw_of hx4; clear hx4
  clear s1 s2 HC1 HC2 y0 y1 wr1
  have HB4 := Lib.hid hB4; clear hB4
  have hl1 : (magicB ++ (encText on ++ leB 2 ((os.length : Int)))).length ≤ 1000 := (Nat.le_trans (app_le hm4 (app_le (enc_le (k := 32) hn1) (leB_le 2 _))) (by omega))
  have HL1 : Hid ((magicB ++ (encText on ++ leB 2 ((os.length : Int)))) ++ os.flatMap encSym = encObj ⟨on, os⟩) := by simp only [Hid, encObj, List.append_assoc]
  generalize magicB ++ (encText on ++ leB 2 ((os.length : Int))) = l1 at hl1 HL1 ⊢
  clear hmg hm4 x0 x1
  have HZ0 : Hid (bsOf l1 = bsOf (l1 ++ (os.take 0).flatMap encSym)) := by simp [Hid]
  go_wp2
  go_loopw [3, 4] (fun v3 v4 wr => ∃ i : Nat, i ≤ os.length ∧ v4 = .int .i64 i ∧ v3 = .string (bsOf (l1 ++ (os.take i).flatMap encSym)) ∧ Below w1.heap.size w1 wr) (fun _ v4 _ => os.length - (intOf v4).toNat)
  case atStart => exact ⟨0, Nat.zero_le _, rfl, congrArg Value.string HZ0.out, HB4.out⟩
  case round =>
    clear HB4 HZ0
    obtain ⟨i, hi, rfl, rfl, hbel⟩ := hrel
    have HB := Lib.hid hbel; clear hbel
    have x1 := cell_keep HB.out z1 HX1.out
    have HBW : Hid (Below w.heap.size w wr) := HB1.out.trans (HB.out.mono HB1.out.size)
    by_cases hlt : i < os.length
    · obtain rfl := HP.out (by omega)
      have dI : decide ((i : Int) < (os.length : Int)) = true := by simp; omega
      have dI' : decide (i < os.length) = true := by simpa using hlt
      obtain ⟨vr, vn, g0, g1, g2, g3, g4, g5, g6, g7, hin⟩ := symR_keeps _ _ _ _ _ HBW.out (HC.out i hlt)
      obtain ⟨hfit, hsn, hsb, hsr, hrn, hsnt⟩ := HSM.out _ (List.getElem_mem hlt)
      have HT : Hid (l1 ++ (os.take (i + 1)).flatMap encSym = (l1 ++ (os.take i).flatMap encSym) ++ encSym os[i]) := by rw [Hid, take_flat hlt, List.append_assoc]
      have hl0 : (l1 ++ (os.take i).flatMap encSym).length ≤ 4000000 := by
        have := take_flat_le (f := encSym) (c := 60000) (l := os) (fun x hx => encSym_len (HSM.out x hx)) i
        rw [List.length_append]; omega
      generalize hy : os[i] = y at g1 g2 g3 g4 g5 g6 g7 hin hfit hsn hsb hsr hrn hsnt HT
      clear hy
      obtain ⟨yn, yb, yk, ys, yy, yr, yt⟩ := y
      obtain ⟨f1, f2, f3, f4, f5, f6, f7, f8, f9⟩ := hfit
      obtain ⟨⟨pR, capR, bR, oR, rfl, hcapR, hmaxR, hpR, hcR⟩, ⟨pN, capN, bN, oN, rfl, hcapN, hmaxN, hpN, hcN⟩, -⟩ := hin
      simp only [] at g1 g2 g3 g4 g5 g6 g7 f1 f2 f3 f4 f5 f6 f7 f8 f9 hsn hsb hsr hrn hsnt hcapR hmaxR hpR hcR hcapN hmaxN hpN hcN
      have HPR := Lib.hid hpR; have HCR := Lib.hid hcR; have HPN := Lib.hid hpN; have HCN := Lib.hid hcN
      have HF7 := Lib.hid f7; have HF9 := Lib.hid f9; have HRN := Lib.hid hrn
      clear hpR hcR hpN hcN f7 f9 hrn
      generalize hl0e : l1 ++ (os.take i).flatMap encSym = l0 at HT hl0 ⊢
      clear hl0e
      obtain ⟨wo, rfl⟩ : ∃ wo : World, wo = wr := ⟨_, rfl⟩
      go_upto_region 6 with fail
      generalize hwk : wo.alloc (.cells #[.string yn, .int .u8 yb, .int .u8 yk, .int .u32 ys, .string yy, .slice pR yr.length capR, .slice pN yt.length capN] 47) = wk
      have HBK : Hid (Below wo.heap.size wo wk) := by subst hwk; exact alloc_old _ _
      have zs : wo.heap.size < wk.heap.size := by subst hwk; simp
      have k0 : wk.cell? ⟨wo.heap.size, 0, none⟩ = some (.string yn) := by subst hwk; simp [go_sem]
      have k1 : wk.cell? ⟨wo.heap.size, 1, none⟩ = some (.int .u8 yb) := by subst hwk; simp [go_sem]
      have k2 : wk.cell? ⟨wo.heap.size, 2, none⟩ = some (.int .u8 yk) := by subst hwk; simp [go_sem]
      have k3 : wk.cell? ⟨wo.heap.size, 3, none⟩ = some (.int .u32 ys) := by subst hwk; simp [go_sem]
      have k4 : wk.cell? ⟨wo.heap.size, 4, none⟩ = some (.string yy) := by subst hwk; simp [go_sem]
      have k5 : wk.cell? ⟨wo.heap.size, 5, none⟩ = some (.slice pR yr.length capR) := by subst hwk; simp [go_sem]
      have k6 : wk.cell? ⟨wo.heap.size, 6, none⟩ = some (.slice pN yt.length capN) := by subst hwk; simp [go_sem]
      clear hwk g1 g2 g3 g4 g5 g6 g7
      have HK5 := Lib.hid k5; have HK6 := Lib.hid k6
      generalize wo.heap.size = sb at zs k0 k1 k2 k3 k4 k5 k6 HK5 HK6 ⊢
      have s1 : ¬ 9223372036854775807 < (bsOf (l0)).size + (bsOf (encText yn)).size := small_cat (n := 4000000) hl0 (Nat.le_trans (enc_le (k := 32) hsn) (by omega)) (by omega)
      have s2 : ¬ 9223372036854775807 < (bsOf (l0 ++ encText yn)).size + (bsOf (leB 1 (yb))).size := small_cat (n := 4000000 + (34)) (app_le hl0 (enc_le (k := 32) hsn)) (Nat.le_trans (leB_le 1 _) (by omega)) (by omega)
      have s3 : ¬ 9223372036854775807 < (bsOf (l0 ++ (encText yn ++ leB 1 (yb)))).size + (bsOf (leB 1 (yk))).size := small_cat (n := 4000000 + (34 + (1))) (app_le hl0 (app_le (enc_le (k := 32) hsn) (leB_le 1 _))) (Nat.le_trans (leB_le 1 _) (by omega)) (by omega)
      have s4 : ¬ 9223372036854775807 < (bsOf (l0 ++ (encText yn ++ (leB 1 (yb) ++ leB 1 (yk))))).size + (bsOf (leB 4 (ys))).size := small_cat (n := 4000000 + (34 + (1 + (1)))) (app_le hl0 (app_le (enc_le (k := 32) hsn) (app_le (leB_le 1 _) (leB_le 1 _)))) (Nat.le_trans (leB_le 4 _) (by omega)) (by omega)
      have s5 : ¬ 9223372036854775807 < (bsOf (l0 ++ (encText yn ++ (leB 1 (yb) ++ (leB 1 (yk) ++ leB 4 (ys)))))).size + (bsOf (encText yy)).size := small_cat (n := 4000000 + (34 + (1 + (1 + (4))))) (app_le hl0 (app_le (enc_le (k := 32) hsn) (app_le (leB_le 1 _) (app_le (leB_le 1 _) (leB_le 4 _))))) (Nat.le_trans (enc_le (k := 8192) hsb) (by omega)) (by omega)
      have s6 : ¬ 9223372036854775807 < (bsOf (l0 ++ (encText yn ++ (leB 1 (yb) ++ (leB 1 (yk) ++ (leB 4 (ys) ++ encText yy)))))).size + (bsOf (leB 2 ((yr.length : Int)))).size := small_cat (n := 4000000 + (34 + (1 + (1 + (4 + (8194)))))) (app_le hl0 (app_le (enc_le (k := 32) hsn) (app_le (leB_le 1 _) (app_le (leB_le 1 _) (app_le (leB_le 4 _) (enc_le (k := 8192) hsb)))))) (Nat.le_trans (leB_le 2 _) (by omega)) (by omega)
      have HC1 := Lib.hid (T0.out wk yn (by omega))
      have HC2 : Hid (∀ x : BW wk, Calls Tryd.prog 25 #[.int .u32 (yb), .int .i64 1] x.u fun e w' => e = .returned (.string (bsOf (leB 1 (yb)))) ∧ ∃ y : BW wk, w' = y.u) := N0.out wk 1 (yb) (by omega) (by omega) (by omega) (by rw [p1]; omega) (by omega)
      have HC3 : Hid (∀ x : BW wk, Calls Tryd.prog 25 #[.int .u32 (yk), .int .i64 1] x.u fun e w' => e = .returned (.string (bsOf (leB 1 (yk)))) ∧ ∃ y : BW wk, w' = y.u) := N0.out wk 1 (yk) (by omega) (by omega) (by omega) (by rw [p1]; omega) (by omega)
      have HC4 : Hid (∀ x : BW wk, Calls Tryd.prog 25 #[.int .u32 (ys), .int .i64 4] x.u fun e w' => e = .returned (.string (bsOf (leB 4 (ys)))) ∧ ∃ y : BW wk, w' = y.u) := N0.out wk 4 (ys) (by omega) (by omega) (by omega) (by rw [p4]; omega) (by omega)
      have HC5 := Lib.hid (T0.out wk yy (by omega))
      have HC6 : Hid (∀ x : BW wk, Calls Tryd.prog 25 #[.int .u32 ((yr.length : Int)), .int .i64 2] x.u fun e w' => e = .returned (.string (bsOf (leB 2 ((yr.length : Int))))) ∧ ∃ y : BW wk, w' = y.u) := N0.out wk 2 ((yr.length : Int)) (by omega) (by omega) (by omega) (by rw [p2]; omega) (by omega)
      have y0 := bw_cell zs k0
      have y1 := bw_cell zs k1
      have y2 := bw_cell zs k2
      have y3 := bw_cell zs k3
      have y4 := bw_cell zs k4
      have y5 := bw_cell zs k5
      have y6 := bw_cell zs k6
      have wr1 : IntKind.u32.wrap (yr.length : Int) = (yr.length : Int) := IntWalk.u32_in _ (by omega)
      have wr2 : IntKind.u32.wrap yb = yb := IntWalk.u32_in _ (by omega)
      have wr3 : IntKind.u32.wrap yk = yk := IntWalk.u32_in _ (by omega)
      refine wp_region_below (by kernel_rfl) (by kernel_rfl) ?_
      repeat (first | go_big_quiet_skip | quiet_step ((first | (go_at_call 24; (with_reducible exact HC1.out _)) | (go_at_call 25; (with_reducible exact HC2.out _)) | (go_at_call 25; (with_reducible exact HC3.out _)) | (go_at_call 25; (with_reducible exact HC4.out _)) | (go_at_call 24; (with_reducible exact HC5.out _)) | (go_at_call 25; (with_reducible exact HC6.out _)))))
      refine wpQuiet_nil ?_
      rintro w4 hx4; have hB4 := bw_of hx4; clear hx4
      clear s1 s2 s3 s4 s5 s6 HC1 HC2 HC3 HC4 HC5 HC6 y0 y1 y2 y3 y4 y5 y6 wr1 wr2 wr3
      clear k0 k1 k2 k3 k4 k5 k6
      have HB4 := Lib.hid hB4; clear hB4
      have hl2 : (l0 ++ (encText yn ++ (leB 1 (yb) ++ (leB 1 (yk) ++ (leB 4 (ys) ++ (encText yy ++ leB 2 ((yr.length : Int)))))))).length ≤ 4100000 := (Nat.le_trans (app_le hl0 (app_le (enc_le (k := 32) hsn) (app_le (leB_le 1 _) (app_le (leB_le 1 _) (app_le (leB_le 4 _) (app_le (enc_le (k := 8192) hsb) (leB_le 2 _))))))) (by omega))
      have HL2 : Hid ((l0 ++ (encText yn ++ (leB 1 (yb) ++ (leB 1 (yk) ++ (leB 4 (ys) ++ (encText yy ++ leB 2 ((yr.length : Int)))))))) ++ yr.flatMap encRel ++ leB 1 yt.length ++ yt.flatMap encNote = l0 ++ encSym ⟨yn, yb, yk, ys, yy, yr, yt⟩) := by simp only [Hid, encSym, List.append_assoc]
      generalize l0 ++ (encText yn ++ (leB 1 (yb) ++ (leB 1 (yk) ++ (leB 4 (ys) ++ (encText yy ++ leB 2 ((yr.length : Int))))))) = l2 at hl2 HL2 ⊢
      have HZ2 : Hid (bsOf l2 = bsOf (l2 ++ (yr.take 0).flatMap encRel)) := by simp [Hid]
      have HBWK : Hid (Below w.heap.size w wk) := HBW.out.trans (HBK.out.mono HBW.out.size)
      go_wp2
      go_loopw [3, 6] (fun v3 v6 wr => ∃ k : Nat, k ≤ yr.length ∧ v6 = .int .i64 k ∧ v3 = .string (bsOf (l2 ++ (yr.take k).flatMap encRel)) ∧ Below wk.heap.size wk wr) (fun _ v6 _ => yr.length - (intOf v6).toNat)
      case atStart => exact ⟨0, Nat.zero_le _, rfl, congrArg Value.string HZ2.out, HB4.out⟩
      case round =>
        clear HB4 HZ2
        obtain ⟨k, hk, rfl, rfl, hbel⟩ := hrel
        have HBR := Lib.hid hbel; clear hbel
        have k5 := cell_keep HBR.out zs HK5.out
        have k6 := cell_keep HBR.out zs HK6.out
        have HBWR : Hid (Below w.heap.size w wr) := HBWK.out.trans (HBR.out.mono HBWK.out.size)
        by_cases hkl : k < yr.length
        · obtain rfl := HPR.out (by omega)
          obtain ⟨q0, q1, q2, q3, q4, q5, q6, q7, q8⟩ := relR_keeps _ _ _ _ _ HBR.out (relR_keeps _ _ _ _ _ HBK.out (HCR.out k hkl))
          have hfx := HF7.out _ (List.getElem_mem hkl)
          have hnx := HRN.out _ (List.getElem_mem hkl)
          have HT2 : Hid (l2 ++ (yr.take (k + 1)).flatMap encRel = (l2 ++ (yr.take k).flatMap encRel) ++ encRel yr[k]) := by rw [Hid, take_flat hkl, List.append_assoc]
          have hl3 : (l2 ++ (yr.take k).flatMap encRel).length ≤ 5000000 := by
            have := take_flat_le (f := encRel) (c := 43) (l := yr) (fun x hx => by rw [encRel_len]; have := HRN.out x hx; omega) k
            rw [List.length_append]; omega
          generalize yr[k] = x at q1 q2 q3 q4 q5 q6 q7 q8 hfx hnx HT2
          obtain ⟨xo, xk, xn, xa⟩ := x
          obtain ⟨u1, u2, u3, u4⟩ := hfx
          simp only [] at q1 q2 q3 q4 q5 q6 q7 q8 hnx u1 u2 u3 u4
          generalize hl3e : l2 ++ (yr.take k).flatMap encRel = l3 at HT2 hl3 ⊢
          clear hl3e
          obtain ⟨wi, rfl⟩ : ∃ wi : World, wi = wr := ⟨_, rfl⟩
          go_upto_region 11 with fail
          generalize hwk : wi.alloc (.cells #[.int .u32 xo, .int .u8 xk, .string xn, .int .u32 xa] 49) = wj
          have HBJ : Hid (Below wi.heap.size wi wj) := by subst hwk; exact alloc_old _ _
          have zj : wi.heap.size < wj.heap.size := by subst hwk; simp
          have j0 : wj.cell? ⟨wi.heap.size, 0, none⟩ = some (.int .u32 xo) := by subst hwk; simp [go_sem]
          have j1 : wj.cell? ⟨wi.heap.size, 1, none⟩ = some (.int .u8 xk) := by subst hwk; simp [go_sem]
          have j2 : wj.cell? ⟨wi.heap.size, 2, none⟩ = some (.string xn) := by subst hwk; simp [go_sem]
          have j3 : wj.cell? ⟨wi.heap.size, 3, none⟩ = some (.int .u32 xa) := by subst hwk; simp [go_sem]
          clear hwk k5 k6 q1 q2 q3 q4
          generalize wi.heap.size = xb at zj j0 j1 j2 j3 ⊢
          have s1 : ¬ 9223372036854775807 < (bsOf (l3)).size + (bsOf (leB 4 (xo))).size := small_cat (n := 5000000) hl3 (Nat.le_trans (leB_le 4 _) (by omega)) (by omega)
          have s2 : ¬ 9223372036854775807 < (bsOf (l3 ++ leB 4 (xo))).size + (bsOf (leB 1 (xk))).size := small_cat (n := 5000000 + (4)) (app_le hl3 (leB_le 4 _)) (Nat.le_trans (leB_le 1 _) (by omega)) (by omega)
          have s3 : ¬ 9223372036854775807 < (bsOf (l3 ++ (leB 4 (xo) ++ leB 1 (xk)))).size + (bsOf (encText xn)).size := small_cat (n := 5000000 + (4 + (1))) (app_le hl3 (app_le (leB_le 4 _) (leB_le 1 _))) (Nat.le_trans (enc_le (k := 32) hnx) (by omega)) (by omega)
          have s4 : ¬ 9223372036854775807 < (bsOf (l3 ++ (leB 4 (xo) ++ (leB 1 (xk) ++ encText xn)))).size + (bsOf (leB 4 (xa))).size := small_cat (n := 5000000 + (4 + (1 + (34)))) (app_le hl3 (app_le (leB_le 4 _) (app_le (leB_le 1 _) (enc_le (k := 32) hnx)))) (Nat.le_trans (leB_le 4 _) (by omega)) (by omega)
          have HC1 : Hid (∀ x : BW wj, Calls Tryd.prog 25 #[.int .u32 (xo), .int .i64 4] x.u fun e w' => e = .returned (.string (bsOf (leB 4 (xo)))) ∧ ∃ y : BW wj, w' = y.u) := N0.out wj 4 (xo) (by omega) (by omega) (by omega) (by rw [p4]; omega) (by omega)
          have HC2 : Hid (∀ x : BW wj, Calls Tryd.prog 25 #[.int .u32 (xk), .int .i64 1] x.u fun e w' => e = .returned (.string (bsOf (leB 1 (xk)))) ∧ ∃ y : BW wj, w' = y.u) := N0.out wj 1 (xk) (by omega) (by omega) (by omega) (by rw [p1]; omega) (by omega)
          have HC3 := Lib.hid (T0.out wj xn (by omega))
          have HC4 : Hid (∀ x : BW wj, Calls Tryd.prog 25 #[.int .u32 (xa), .int .i64 4] x.u fun e w' => e = .returned (.string (bsOf (leB 4 (xa)))) ∧ ∃ y : BW wj, w' = y.u) := N0.out wj 4 (xa) (by omega) (by omega) (by omega) (by rw [p4]; omega) (by omega)
          have y0 := bw_cell zj j0
          have y1 := bw_cell zj j1
          have y2 := bw_cell zj j2
          have y3 := bw_cell zj j3
          have wr1 : IntKind.u32.wrap xk = xk := IntWalk.u32_in _ (by omega)
          refine wp_region_below (by kernel_rfl) (by kernel_rfl) ?_
          repeat (first | go_big_quiet_skip | quiet_step ((first | (go_at_call 25; (with_reducible exact HC1.out _)) | (go_at_call 25; (with_reducible exact HC2.out _)) | (go_at_call 24; (with_reducible exact HC3.out _)) | (go_at_call 25; (with_reducible exact HC4.out _)))))
          refine wpQuiet_nil ?_
          rintro w4 hx4; have hB4 := bw_of hx4; clear hx4
          clear s1 s2 s3 s4 HC1 HC2 HC3 HC4 y0 y1 y2 y3 wr1
          have HB5 : Hid (Below wk.heap.size wk w4) := (HBR.out.trans (HBJ.out.mono HBR.out.size)).trans (hB4.mono (Nat.le_trans HBR.out.size HBJ.out.size))
          have HE : Hid (l3 ++ (leB 4 (xo) ++ (leB 1 (xk) ++ (encText xn ++ leB 4 (xa)))) = l3 ++ encRel ⟨xo, xk, xn, xa⟩) := by simp only [Hid, encRel, List.append_assoc]
          clear hB4
          go_wp2
          rw [HE.out, ← HT2.out]
          go_roundw
          case rel => exact ⟨k + 1, by omega, by go_num, rfl, HB5.out⟩
          case measure => simp [intOf]; omega
        · have HE3 : Hid (yr.take k = yr) := List.take_of_length_le (by omega)
          have dK : decide ((k : Int) < (yr.length : Int)) = false := by simp; omega
          have dK' : decide (k < yr.length) = false := by simpa using hkl
          rw [HE3.out]
          have hl4 : (l2 ++ yr.flatMap encRel).length ≤ 5000000 := by
            have := flat_le (f := encRel) (c := 43) (l := yr) (fun x hx => by rw [encRel_len]; have := HRN.out x hx; omega)
            rw [List.length_append]; omega
          clear HE3
          have HCN1 := Lib.hid (rnum09 1 (yt.length : Int) wr (by omega) (by omega) (by omega) (by rw [p1]; omega) (by omega))
          have s1 : ¬ 9223372036854775807 < (bsOf (l2 ++ yr.flatMap encRel)).size + (bsOf (leB 1 (yt.length : Int))).size := small_cat hl4 (Nat.le_trans (leB_le 1 _) (by omega)) (by omega)
          go_wp2_with fail
          refine HCN1.out.mono ?_
          rintro e w5 ⟨rfl, hB5⟩
          have HB5 : Hid (Below wk.heap.size wk w5) := HBR.out.trans (hB5.mono HBR.out.size)
          clear hB5 HCN1 k5 k6
          have HL5 : Hid ((l2 ++ (yr.flatMap encRel ++ leB 1 (yt.length : Int))) ++ yt.flatMap encNote = l0 ++ encSym ⟨yn, yb, yk, ys, yy, yr, yt⟩) := by rw [Hid, ← HL2.out]; simp only [List.append_assoc]
          have hl5 : (l2 ++ (yr.flatMap encRel ++ leB 1 (yt.length : Int))).length ≤ 5000010 := by rw [← List.append_assoc, List.length_append, leB_length]; omega
          go_wp2
          clear s1
          generalize l2 ++ (yr.flatMap encRel ++ leB 1 (yt.length : Int)) = l5 at HL5 hl5 ⊢
          have HZ5 : Hid (bsOf l5 = bsOf (l5 ++ (yt.take 0).flatMap encNote)) := by simp [Hid]
          obtain ⟨wo3, rfl⟩ : ∃ wo3 : World, wo3 = wr := ⟨_, rfl⟩
          go_loopw [3, 8] (fun v3 v8 wr => ∃ j : Nat, j ≤ yt.length ∧ v8 = .int .i64 j ∧ v3 = .string (bsOf (l5 ++ (yt.take j).flatMap encNote)) ∧ Below wk.heap.size wk wr) (fun _ v8 _ => yt.length - (intOf v8).toNat)
          case atStart => exact ⟨0, Nat.zero_le _, rfl, congrArg Value.string HZ5.out, HB5.out⟩
          case round =>
            clear HB5 HZ5 HBWR HBR
            obtain ⟨j, hj, rfl, rfl, hbel⟩ := hrel
            have HBR := Lib.hid hbel; clear hbel
            have k6 := cell_keep HBR.out zs HK6.out
            by_cases hjl : j < yt.length
            · obtain rfl := HPN.out (by omega)
              obtain ⟨q0, q1, q2, q3, q4, q5, q6⟩ := noteR_keeps _ _ _ _ _ HBR.out (noteR_keeps _ _ _ _ _ HBK.out (HCN.out j hjl))
              have HT2 : Hid (l5 ++ (yt.take (j + 1)).flatMap encNote = (l5 ++ (yt.take j).flatMap encNote) ++ encNote yt[j]) := by rw [Hid, take_flat hjl, List.append_assoc]
              have hl6 : (l5 ++ (yt.take j).flatMap encNote).length ≤ 6000000 := by
                have := take_flat_le (f := encNote) (c := 9) (l := yt) (fun x _ => by rw [encNote_len]; exact Nat.le_refl _) j
                rw [List.length_append]; omega
              generalize yt[j] = x at q1 q2 q3 q4 q5 q6 HT2
              obtain ⟨xk, xn, xm⟩ := x
              simp only [] at q1 q2 q3 q4 q5 q6
              generalize hl6e : l5 ++ (yt.take j).flatMap encNote = l6 at HT2 hl6 ⊢
              clear hl6e
              obtain ⟨wi, rfl⟩ : ∃ wi : World, wi = wr := ⟨_, rfl⟩
              go_upto_region 17 with fail
              generalize hwk : wi.alloc (.cells #[.int .u8 xk, .int .u32 xn, .int .u32 xm] 64) = wj
              have HBJ : Hid (Below wi.heap.size wi wj) := by subst hwk; exact alloc_old _ _
              have zj : wi.heap.size < wj.heap.size := by subst hwk; simp
              have j0 : wj.cell? ⟨wi.heap.size, 0, none⟩ = some (.int .u8 xk) := by subst hwk; simp [go_sem]
              have j1 : wj.cell? ⟨wi.heap.size, 1, none⟩ = some (.int .u32 xn) := by subst hwk; simp [go_sem]
              have j2 : wj.cell? ⟨wi.heap.size, 2, none⟩ = some (.int .u32 xm) := by subst hwk; simp [go_sem]
              clear hwk k6 q1 q2 q3
              generalize wi.heap.size = xb at zj j0 j1 j2 ⊢
              have s1 : ¬ 9223372036854775807 < (bsOf (l6)).size + (bsOf (leB 1 (xk))).size := small_cat (n := 6000000) hl6 (Nat.le_trans (leB_le 1 _) (by omega)) (by omega)
              have s2 : ¬ 9223372036854775807 < (bsOf (l6 ++ leB 1 (xk))).size + (bsOf (leB 4 (xn))).size := small_cat (n := 6000000 + (1)) (app_le hl6 (leB_le 1 _)) (Nat.le_trans (leB_le 4 _) (by omega)) (by omega)
              have s3 : ¬ 9223372036854775807 < (bsOf (l6 ++ (leB 1 (xk) ++ leB 4 (xn)))).size + (bsOf (leB 4 (xm))).size := small_cat (n := 6000000 + (1 + (4))) (app_le hl6 (app_le (leB_le 1 _) (leB_le 4 _))) (Nat.le_trans (leB_le 4 _) (by omega)) (by omega)
              have HC1 : Hid (∀ x : BW wj, Calls Tryd.prog 25 #[.int .u32 (xk), .int .i64 1] x.u fun e w' => e = .returned (.string (bsOf (leB 1 (xk)))) ∧ ∃ y : BW wj, w' = y.u) := N0.out wj 1 (xk) (by omega) (by omega) (by omega) (by rw [p1]; omega) (by omega)
              have HC2 : Hid (∀ x : BW wj, Calls Tryd.prog 25 #[.int .u32 (xn), .int .i64 4] x.u fun e w' => e = .returned (.string (bsOf (leB 4 (xn)))) ∧ ∃ y : BW wj, w' = y.u) := N0.out wj 4 (xn) (by omega) (by omega) (by omega) (by rw [p4]; omega) (by omega)
              have HC3 : Hid (∀ x : BW wj, Calls Tryd.prog 25 #[.int .u32 (xm), .int .i64 4] x.u fun e w' => e = .returned (.string (bsOf (leB 4 (xm)))) ∧ ∃ y : BW wj, w' = y.u) := N0.out wj 4 (xm) (by omega) (by omega) (by omega) (by rw [p4]; omega) (by omega)
              have y0 := bw_cell zj j0
              have y1 := bw_cell zj j1
              have y2 := bw_cell zj j2
              have wr1 : IntKind.u32.wrap xk = xk := IntWalk.u32_in _ (by omega)
              refine wp_region_below (by kernel_rfl) (by kernel_rfl) ?_
              repeat (first | go_big_quiet_skip | quiet_step ((first | (go_at_call 25; (with_reducible exact HC1.out _)) | (go_at_call 25; (with_reducible exact HC2.out _)) | (go_at_call 25; (with_reducible exact HC3.out _)))))
              refine wpQuiet_nil ?_
              rintro w4 hx4; have hB4 := bw_of hx4; clear hx4
              clear s1 s2 s3 HC1 HC2 HC3 y0 y1 y2 wr1
              have HB6 : Hid (Below wk.heap.size wk w4) := (HBR.out.trans (HBJ.out.mono HBR.out.size)).trans (hB4.mono (Nat.le_trans HBR.out.size HBJ.out.size))
              have HE : Hid (l6 ++ (leB 1 (xk) ++ (leB 4 (xn) ++ leB 4 (xm))) = l6 ++ encNote ⟨xk, xn, xm⟩) := by simp only [Hid, encNote, List.append_assoc]
              clear hB4
              go_wp2
              rw [HE.out, ← HT2.out]
              go_roundw
              case rel => exact ⟨j + 1, by omega, by go_num, rfl, HB6.out⟩
              case measure => simp [intOf]; omega
            · have HE3 : Hid (yt.take j = yt) := List.take_of_length_le (by omega)
              have dJ : decide ((j : Int) < (yt.length : Int)) = false := by simp; omega
              have dJ' : decide (j < yt.length) = false := by simpa using hjl
              rw [HE3.out, HL5.out, ← HT.out]
              clear HE3
              have HB7 : Hid (Below w1.heap.size w1 wr) := HB.out.trans ((HBK.out.trans (HBR.out.mono HBK.out.size)).mono HB.out.size)
              go_wp2
              go_roundw
              case rel => exact ⟨i + 1, by omega, by go_num, rfl, HB7.out⟩
              case measure => simp [intOf]; omega
    · have HE : Hid (os.take i = os) := List.take_of_length_le (by omega)
      rw [HE.out, HL1.out]
      clear HE
      go_wp2
      go_ret
      exact ⟨rfl, HBW.out⟩
end Go.Proofs.YtfmmfbijkklceaaDoor
