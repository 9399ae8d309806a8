/- The walk of aediculeref34.Put. -/
import Derived.Test.YtiegjplldfodkaaDoorWRef34Num
import Derived.Test.YtiegjplldfodkaaDoorWTabPut
import Derived.Test.YtiegjplldfodkaaDoorBelowReg
import Derived.IntWalk
namespace Go.Proofs.YtiegjplldfodkaaDoor
open Go.RowKit
theorem bs_cat (a c : BL) : bsOf a ++ bsOf c = bsOf (a ++ c) := bsOf_app a (bsOf c)
theorem small_cat {a c : BL} {n : Nat} (h : a.length ≤ n) (hc : c.length ≤ 100000) (hn : n ≤ 100000000) : ¬ 9223372036854775807 < (bsOf a).size + (bsOf c).size := by rw [bsOf_size, bsOf_size]; omega
theorem app_le {a c : BL} {n k : Nat} (h : a.length ≤ n) (hc : c.length ≤ k) : (a ++ c).length ≤ n + k := by rw [List.length_append]; omega
theorem leB_le (n : Nat) (v : Int) : (leB n v).length ≤ n := by rw [leB_length]; exact Nat.le_refl _
theorem enc_le {s : ByteArray} {k : Nat} (h : s.size ≤ k) : (encText s).length ≤ 2 + k := by rw [encTx_len]; omega
set_option maxRecDepth 100000 in
set_option maxHeartbeats 4000000 in
theorem refTabPut_ok (v : Value) (t : List GTs) (w : World) (h : TabAt w v t) (hok : tabOk t = true) :
    Calls Tryd.prog 10 #[v] w fun e w' => e = .returned (.string (bsOf (encTab t))) ∧ Below w.heap.size w w' := by
  have HAT := Lib.hid (tabGo_at (tabOk_go hok))
  have hlen : t.length ≤ 1024 := by simp only [tabOk, Bool.and_eq_true, decide_eq_true_eq] at hok; exact hok.2
  obtain ⟨p, cap, b, o, rfl, hcap, hmax, hp, hc⟩ := h
  have HP := Lib.hid hp; clear hp
  have HC := Lib.hid hc; clear hc hok
  have hap : ∀ a c : BL, bsOf a ++ bsOf c = bsOf (a ++ c) := bs_cat
  have hmg : (⟨#[65, 83, 84, 49]⟩ : ByteArray) = bsOf magicT := rfl
  have hm4 : magicT.length ≤ 4 := Nat.le_refl _
  have T0 : Hid (∀ (W : World) (s : ByteArray), s.size < 65536 → ∀ x : BW W, Calls Tryd.prog 31 #[.string s] x.u fun e w' => e = .returned (.string (bsOf (encText s))) ∧ ∃ y : BW W, w' = y.u) := fun W s hs x => calls_below (rtext09 s x.u hs)
  have N0 : Hid (∀ (W : World) (n : Nat) (v : Int), 1 ≤ n → n ≤ 4 → 0 ≤ v → v < pow256 n → v ≤ 4294967295 → ∀ x : BW W, Calls Tryd.prog 30 #[.int .u32 v, .int .i64 n] x.u fun e w' => e = .returned (.string (bsOf (leB n v))) ∧ ∃ y : BW W, w' = y.u) := fun W n v a b c d f x => calls_below (rnum09 n v x.u a b c d f)
  have hsz1 : ¬ 9223372036854775807 < (bsOf magicT).size + (bsOf (leB 2 (t.length : Int))).size := small_cat (n := 4) hm4 (Nat.le_trans (leB_le 2 _) (by omega)) (by omega)
  have HN := Lib.hid (rnum09 2 (t.length : Int) w (by omega) (by omega) (by omega) (by rw [p2]; omega) (by omega))
  go_enter Tryd.func10, Tryd.ntmps10
  go_wp2_with fail
  refine HN.out.mono ?_
  rintro e w1 ⟨rfl, hB1⟩
  have HB1 := Lib.hid hB1; clear hB1 HN
  go_wp2
  have HL1 : Hid ((magicT ++ leB 2 t.length).length ≤ 6) := by rw [Hid, List.length_append, leB_length]; decide
  have HE : Hid ((magicT ++ leB 2 t.length) ++ t.flatMap encTs = encTab t) := by simp only [Hid, encTab]
  generalize magicT ++ leB 2 (t.length : Int) = l1 at HL1 HE ⊢
  clear hmg hm4 hsz1
  have HZ0 : Hid (bsOf l1 = bsOf (l1 ++ (t.take 0).flatMap encTs)) := by simp [Hid]
  go_loopw [3, 4] (fun v3 v4 wr => ∃ i : Nat, i ≤ t.length ∧ v4 = .int .i64 i ∧ v3 = .string (bsOf (l1 ++ (t.take i).flatMap encTs)) ∧ Below w.heap.size w wr) (fun _ v4 _ => t.length - (intOf v4).toNat)
  case atStart => exact ⟨0, Nat.zero_le _, rfl, congrArg Value.string HZ0.out, HB1.out⟩
  case round =>
    clear HB1 HZ0
    obtain ⟨i, hi, rfl, rfl, hbel⟩ := hrel
    have HB := Lib.hid hbel; clear hbel
    by_cases hlt : i < t.length
    · obtain rfl := HP.out (by omega)
      have dI : decide ((i : Int) < (t.length : Int)) = true := by simp; omega
      have dI' : decide (i < t.length) = true := by simpa using hlt
      obtain ⟨g0, g1, g2, g3, g4, g5, ⟨r1, r2, r3, -, -⟩⟩ := tsR_keeps _ _ _ _ _ HB.out (HC.out i hlt)
      obtain ⟨a1, a2, a3, a4, a5, a6, a7, a8⟩ := HAT.out i hlt
      have n1 := isName_sz a5
      have n2 := isName_sz a6
      have HTK : Hid (t.take (i + 1) = t.take i ++ [t[i]]) := List.take_succ_eq_append_getElem hlt
      have hl0 : (l1 ++ (t.take i).flatMap encTs).length ≤ 100000 := by
        have h1 := encTab_le (t := t.take i) fun s hs => by
          obtain ⟨k, hk, rfl⟩ := List.mem_iff_getElem.1 (List.mem_of_mem_take hs)
          exact ⟨isName_sz (HAT.out k hk).2.2.2.2.1, isName_sz (HAT.out k hk).2.2.2.2.2.1⟩
        have h2 : (t.take i).length ≤ 1024 := by simp; omega
        have h3 := HL1.out
        rw [List.length_append]; omega
      have HEN : Hid (l1 ++ (t.take (i + 1)).flatMap encTs = (l1 ++ (t.take i).flatMap encTs) ++ encTs t[i]) := by rw [Hid, HTK.out, List.flatMap_append, List.flatMap_singleton, List.append_assoc]
      generalize t[i] = x at g1 g2 g3 g4 g5 r1 r2 r3 a1 a2 a3 a4 a7 a8 n1 n2 HEN
      obtain ⟨xn, xo, xa, xs, xk⟩ := x
      simp only [] at g1 g2 g3 g4 g5 r1 r2 r3 a1 a2 a3 a4 a7 a8 n1 n2 HEN
      generalize l1 ++ (t.take i).flatMap encTs = l0 at hl0 HEN ⊢
      clear a5 a6 HTK
      have s1 : ¬ 9223372036854775807 < (bsOf (l0)).size + (bsOf (encText xn)).size := small_cat (n := 100000) (hl0) (Nat.le_trans (enc_le (k := 32) n1) (by omega)) (by omega)
      have s2 : ¬ 9223372036854775807 < (bsOf (l0 ++ encText xn)).size + (bsOf (encText xo)).size := small_cat (n := 100000 + (34)) ((app_le (hl0) (enc_le (k := 32) n1))) (Nat.le_trans (enc_le (k := 32) n2) (by omega)) (by omega)
      have s3 : ¬ 9223372036854775807 < (bsOf (l0 ++ (encText xn ++ encText xo))).size + (bsOf (leB 4 xa)).size := small_cat (n := 100000 + (34 + (34))) ((app_le (hl0) (app_le (enc_le (k := 32) n1) (enc_le (k := 32) n2)))) (Nat.le_trans (leB_le 4 _) (by omega)) (by omega)
      have s4 : ¬ 9223372036854775807 < (bsOf (l0 ++ (encText xn ++ (encText xo ++ leB 4 xa)))).size + (bsOf (leB 2 xs)).size := small_cat (n := 100000 + (34 + (34 + (4)))) ((app_le (hl0) (app_le (enc_le (k := 32) n1) (app_le (enc_le (k := 32) n2) (leB_le 4 _))))) (Nat.le_trans (leB_le 2 _) (by omega)) (by omega)
      have s5 : ¬ 9223372036854775807 < (bsOf (l0 ++ (encText xn ++ (encText xo ++ (leB 4 xa ++ leB 2 xs))))).size + (bsOf (leB 1 xk)).size := small_cat (n := 100000 + (34 + (34 + (4 + (2))))) ((app_le (hl0) (app_le (enc_le (k := 32) n1) (app_le (enc_le (k := 32) n2) (app_le (leB_le 4 _) (leB_le 2 _)))))) (Nat.le_trans (leB_le 1 _) (by omega)) (by omega)
      have HC1 := Lib.hid (T0.out wr xn (by omega))
      have HC2 := Lib.hid (T0.out wr xo (by omega))
      have HC3 : Hid (∀ x : BW wr, Calls Tryd.prog 30 #[.int .u32 xa, .int .i64 4] x.u fun e w' => e = .returned (.string (bsOf (leB 4 xa))) ∧ ∃ y : BW wr, w' = y.u) := N0.out wr 4 xa (by omega) (by omega) (by omega) (by rw [p4]; omega) (by omega)
      have HC4 : Hid (∀ x : BW wr, Calls Tryd.prog 30 #[.int .u32 xs, .int .i64 2] x.u fun e w' => e = .returned (.string (bsOf (leB 2 xs))) ∧ ∃ y : BW wr, w' = y.u) := N0.out wr 2 xs (by omega) (by omega) (by omega) (by rw [p2]; omega) (by omega)
      have HC5 : Hid (∀ x : BW wr, Calls Tryd.prog 30 #[.int .u32 xk, .int .i64 1] x.u fun e w' => e = .returned (.string (bsOf (leB 1 xk))) ∧ ∃ y : BW wr, w' = y.u) := N0.out wr 1 xk (by omega) (by omega) (by omega) (by rw [p1]; omega) (by omega)
      have y1 := bw_cell g0 g1
      have y2 := bw_cell g0 g2
      have y3 := bw_cell g0 g3
      have y4 := bw_cell g0 g4
      have y5 := bw_cell g0 g5
      have wr1 : IntKind.u32.wrap xk = xk := IntWalk.u32_in _ (by omega)
      go_wp2_with fail
      refine wp_region_below (by kernel_rfl) (by kernel_rfl) ?_
      repeat (first | go_big_quiet_skip | quiet_step ((first | (go_at_call 31; (with_reducible exact HC1.out _)) | (go_at_call 31; (with_reducible exact HC2.out _)) | (go_at_call 30; (with_reducible exact HC3.out _)) | (go_at_call 30; (with_reducible exact HC4.out _)) | (go_at_call 30; (with_reducible exact HC5.out _)))))
      refine wpQuiet_nil ?_
      rintro w4 hx4; have hB4 := bw_of hx4; clear hx4
      clear s1 s2 s3 s4 s5 HC1 HC2 HC3 HC4 HC5 y1 y2 y3 y4 y5 wr1
      have HB4 : Hid (Below w.heap.size w w4) := HB.out.trans (hB4.mono HB.out.size)
      have HF : Hid (bsOf (l0 ++ (encText xn ++ (encText xo ++ (leB 4 xa ++ (leB 2 xs ++ leB 1 xk))))) = bsOf (l1 ++ (t.take (i + 1)).flatMap encTs)) := by rw [Hid, HEN.out]; simp only [encTs, List.append_assoc]
      clear hB4 HEN
      go_wp2
      go_roundw
      case rel => exact ⟨i + 1, by omega, by go_num, congrArg Value.string HF.out, HB4.out⟩
      case measure => simp [intOf]; omega
    · have HF : Hid (l1 ++ (t.take i).flatMap encTs = encTab t) := by rw [Hid, List.take_of_length_le (by omega)]; exact HE.out
      rw [HF.out]
      go_wp2
      go_ret
      exact ⟨rfl, HB.out⟩
end Go.Proofs.YtiegjplldfodkaaDoor
