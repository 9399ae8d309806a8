/- The walk of where.Put. -/
import Derived.Test.YtiegjplldfodkaaDoorWTabMay
import Derived.Test.YtiegjplldfodkaaDoorWBuilder
namespace Go.Proofs.YtiegjplldfodkaaDoor
open Go.RowKit
set_option maxHeartbeats 400000 in
theorem lay_any (B b : Nat) (l : BL) (s : ByteArray) (c : Int) (w : World) (h : IsWr B b l w) (hlen : l.length + s.size ≤ 140737488355328) (hBw : B ≤ w.heap.size) :
    Calls Tryd.prog 24 #[.string s, .int .i64 c, .pointer (some ⟨b, 0, none⟩)] w fun e w' => e = .returned (.tuple #[]) ∧ WPost B b (l ++ s.data.toList) w w' := by
  have HC := Lib.hid (writeString_any B b l s w h hlen hBw)
  clear h
  go_enter Tryd.func24, Tryd.ntmps24
  go_wp2_with fail
  refine HC.out.mono ?_
  rintro e w1 ⟨rfl, hw⟩
  have HW := Lib.hid hw; clear hw HC
  go_wp2
  go_end0
  exact ⟨rfl, HW.out⟩
theorem encTx_len (s : ByteArray) : (encText s).length = 2 + s.size := by simp [encText, leB_length]
theorem encTs_len {s : GTs} (h1 : s.name.size ≤ 32) (h2 : s.object.size ≤ 32) : (encTs s).length ≤ 75 := by
  simp only [encTs, encText, List.length_append, leB_length, len_list]; omega
theorem encTab_le {t : List GTs} (h : ∀ s ∈ t, s.name.size ≤ 32 ∧ s.object.size ≤ 32) : (t.flatMap encTs).length ≤ t.length * 75 := by
  induction t with
  | nil => simp
  | cons a r ih =>
    have h1 := encTs_len (h a (by simp)).1 (h a (by simp)).2
    have h2 := ih fun s hs => h s (List.mem_cons_of_mem a hs)
    rw [List.flatMap_cons, List.length_append, List.length_cons, Nat.succ_mul]; omega
theorem isName_sz {s : ByteArray} (h : isName s = true) : s.size ≤ 32 := by
  simp only [isName, Bool.and_eq_true, decide_eq_true_eq] at h
  exact h.2
/-- what Put answers -/
def putT (t : List GTs) : ByteArray × Int := if tabOk t then (bsOf (encTab t), 0) else (⟨#[]⟩, 2)
theorem bs_data (l : BL) : (bsOf l).data.toList = l := rfl
set_option maxRecDepth 100000 in
set_option maxHeartbeats 4000000 in
theorem whPut_ok (v : Value) (t : List GTs) (w : World) (h : TabAt w v t) (hok : tabOk t = true) :
    Calls Tryd.prog 7 #[v] w fun e w' => e = .returned (.tuple #[.string (bsOf (encTab t)), .int .i64 0]) ∧ Below w.heap.size w w' := by
  have HCK := Lib.hid (whCheck_any v t w h)
  rw [hok] at HCK
  simp only [errB, if_true] at HCK
  have HT := Lib.hid h
  have HAT := Lib.hid (tabGo_at (tabOk_go hok))
  have hlen : t.length ≤ 1024 := by simp only [tabOk, Bool.and_eq_true, decide_eq_true_eq] at hok; exact hok.2
  obtain ⟨p, cap, b0, o, rfl, hcap, hmax, -, -⟩ := h
  clear hok
  go_enter Tryd.func7, Tryd.ntmps7
  go_wp2_with fail
  refine HCK.out.mono ?_
  rintro e w1 ⟨rfl, hB1⟩
  have HB1 := Lib.hid hB1
  clear hB1 HCK
  go_upto_region 5 with fail
  have HW0 : Hid (IsWr w1.heap.size w1.heap.size [] (w1.alloc (.cells #[.pointer none, .slice none 0 0] 49))) := Lib.fresh_isBuilder _ _ w1
  have HB2 : Hid (Below w1.heap.size w1 (w1.alloc (.cells #[.pointer none, .slice none 0 0] 49))) := alloc_old _ _
  generalize w1.alloc (.cells #[.pointer none, .slice none 0 0] 49) = w2 at HW0 HB2 ⊢
  generalize hbe : w1.heap.size = b at *
  have HBE := Lib.hid hbe; clear hbe
  have hB0 : b ≤ w2.heap.size := by have := HB2.out.size; rw [HBE.out] at this; exact this
  have HWB : Hid (w.heap.size ≤ b) := by have := HB1.out.size; rw [HBE.out] at this; exact this
  go_wp2_with fail
  refine (writeString_any b b [] ⟨#[65, 83, 84, 49]⟩ w2 HW0.out (by simp; decide) hB0).mono ?_
  rintro e w3 ⟨rfl, hw3⟩
  have HW : Hid (WPost b b magicT w2 w3) := hw3
  clear hw3 HW0
  have HK : Hid (∀ wk l, WPost b b l w2 wk → Below w.heap.size w wk) := fun wk l h => HB1.out.trans ((HB2.out.trans h.2.1).mono HWB.out)
  go_wp2_with fail
  refine (pnum2 (t.length : Int) w3 (by omega) (by omega)).mono ?_
  rintro e w4 ⟨rfl, hb⟩
  replace HW := Lib.hid (HW.out.keep hb hB0)
  clear hb
  go_wp2_with fail
  refine (lay_any b b magicT (bsOf (leB 2 t.length)) 0 w4 HW.out.1 (by rw [bsOf_size, leB_length]; decide) (Nat.le_trans hB0 HW.out.2.1.size)).mono ?_
  rintro e w5 ⟨rfl, hw⟩
  rw [bs_data] at hw
  replace HW := Lib.hid (HW.out.trans hw)
  clear hw
  have HW1 : Hid (WPost b b ((magicT ++ leB 2 t.length) ++ (t.take 0).flatMap encTs) w2 w5) := by simpa [Hid] using HW.out
  have HL1 : Hid ((magicT ++ leB 2 t.length).length ≤ 6) := by rw [Hid, List.length_append, leB_length]; decide
  have HE : Hid ((magicT ++ leB 2 t.length) ++ t.flatMap encTs = encTab t) := by simp only [Hid, encTab]
  generalize magicT ++ leB 2 t.length = l1 at HW1 HL1 HE
  clear HW
  go_wp2
  go_loopw [26] (fun v26 wr => ∃ i : Nat, i ≤ t.length ∧ v26 = .int .i64 i ∧ WPost b b (l1 ++ (t.take i).flatMap encTs) w2 wr) (fun v26 _ => t.length - (intOf v26).toNat)
  case atStart => exact ⟨0, Nat.zero_le _, rfl, HW1.out⟩
  case round =>
    obtain ⟨i, hi, rfl, hw⟩ := hrel
    clear HW1
    have HW := Lib.hid hw; clear hw
    have HBW := Lib.hid (HK.out _ _ HW.out)
    by_cases hlt : i < t.length
    · obtain ⟨p', cap', b', o', e', -, -, q1, q2⟩ := (HT.out).keep' HBW.out
      injection e' with e1 e2 e3
      subst e1; subst e3; clear e2
      obtain rfl := q1 (by omega)
      obtain ⟨g0, g1, g2, g3, g4, g5, ⟨r1, r2, r3, -, -⟩⟩ := q2 i hlt
      clear q1 q2
      obtain ⟨a1, a2, a3, a4, a5, a6, a7, a8⟩ := HAT.out i hlt
      have n1 := isName_sz a5
      have n2 := isName_sz a6
      have HTK : Hid (t.take (i + 1) = t.take i ++ [t[i]]) := List.take_succ_eq_append_getElem hlt
      have HL0 : Hid ((l1 ++ (t.take i).flatMap encTs).length ≤ 100000) := by
        have h1 := encTab_le (t := t.take i) fun s hs => by
          obtain ⟨k, hk, rfl⟩ := List.mem_iff_getElem.1 (List.mem_of_mem_take hs)
          exact ⟨isName_sz (HAT.out k hk).2.2.2.2.1, isName_sz (HAT.out k hk).2.2.2.2.2.1⟩
        have h2 : (t.take i).length ≤ 1024 := by simp; omega
        have h3 := HL1.out
        rw [Hid, List.length_append]; omega
      have HEN : Hid (l1 ++ (t.take (i + 1)).flatMap encTs = (l1 ++ (t.take i).flatMap encTs) ++ encTs t[i]) := by rw [Hid, HTK.out, List.flatMap_append, List.flatMap_singleton, List.append_assoc]
      generalize t[i] = x at g1 g2 g3 g4 g5 r1 r2 r3 a1 a2 a3 a4 a7 a8 n1 n2 HEN
      obtain ⟨xn, xo, xa, xs, xk⟩ := x
      simp only [] at g1 g2 g3 g4 g5 r1 r2 r3 a1 a2 a3 a4 a7 a8 n1 n2 HEN
      generalize l1 ++ (t.take i).flatMap encTs = l0 at HW HL0 HEN
      clear a5 a6 HTK HL1 HE
      go_upto_region 11 with fail
      have HX : Hid (BX b (wr.alloc (.cells #[.string xn, .string xo, .int .u32 xa, .int .u32 xs, .int .u8 xk] 43)) wr.heap.size 43 #[.string xn, .string xo, .int .u32 xa, .int .u32 xs, .int .u8 xk]) := BX.new HW.out.1.lt (by decide)
      replace HW := Lib.hid (HW.out.keep (alloc_old wr (.cells #[.string xn, .string xo, .int .u32 xa, .int .u32 xs, .int .u8 xk] 43)) hB0)
      generalize wr.alloc (.cells #[.string xn, .string xo, .int .u32 xa, .int .u32 xs, .int .u8 xk] 43) = wk at HX HW ⊢
      generalize wr.heap.size = xb at HX ⊢
      have c : wk.cell? ⟨xb, 0, none⟩ = some (.string xn) := HX.out.cell 0
      go_wp2_with fail
      refine (ptext_any xn _ (by omega)).mono ?_
      rintro e wa ⟨rfl, hb⟩
      replace HX := Lib.hid (HX.out.keep (KN.of_below hb))
      replace HW := Lib.hid (HW.out.keep hb hB0)
      clear hb c wk
      go_wp2_with fail
      refine (lay_any b b (l0) (bsOf (encText xn)) 0 wa HW.out.1 (by have := HL0.out; rw [bsOf_size]; simp only [encTx_len]; omega) (Nat.le_trans hB0 HW.out.2.1.size)).mono ?_
      rintro e wk ⟨rfl, hw⟩
      rw [bs_data] at hw
      replace HX := Lib.hid (HX.out.keep hw.2.2)
      replace HW := Lib.hid (HW.out.trans hw)
      clear hw
      have c : wk.cell? ⟨xb, 1, none⟩ = some (.string xo) := HX.out.cell 1
      go_wp2_with fail
      refine (ptext_any xo _ (by omega)).mono ?_
      rintro e wa ⟨rfl, hb⟩
      replace HX := Lib.hid (HX.out.keep (KN.of_below hb))
      replace HW := Lib.hid (HW.out.keep hb hB0)
      clear hb c wk
      go_wp2_with fail
      refine (lay_any b b (l0 ++ encText xn) (bsOf (encText xo)) 0 wa HW.out.1 (by have := HL0.out; rw [bsOf_size]; simp only [List.length_append, encTx_len]; omega) (Nat.le_trans hB0 HW.out.2.1.size)).mono ?_
      rintro e wk ⟨rfl, hw⟩
      rw [bs_data] at hw
      replace HX := Lib.hid (HX.out.keep hw.2.2)
      replace HW := Lib.hid (HW.out.trans hw)
      clear hw
      have c : wk.cell? ⟨xb, 2, none⟩ = some (.int .u32 xa) := HX.out.cell 2
      go_wp2_with fail
      refine (pnum4 xa _ (by omega) (by omega)).mono ?_
      rintro e wa ⟨rfl, hb⟩
      replace HX := Lib.hid (HX.out.keep (KN.of_below hb))
      replace HW := Lib.hid (HW.out.keep hb hB0)
      clear hb c wk
      go_wp2_with fail
      refine (lay_any b b (l0 ++ encText xn ++ encText xo) (bsOf (leB 4 xa)) 0 wa HW.out.1 (by have := HL0.out; rw [bsOf_size]; simp only [List.length_append, encTx_len, leB_length]; omega) (Nat.le_trans hB0 HW.out.2.1.size)).mono ?_
      rintro e wk ⟨rfl, hw⟩
      rw [bs_data] at hw
      replace HX := Lib.hid (HX.out.keep hw.2.2)
      replace HW := Lib.hid (HW.out.trans hw)
      clear hw
      have c : wk.cell? ⟨xb, 3, none⟩ = some (.int .u32 xs) := HX.out.cell 3
      go_wp2_with fail
      refine (pnum2 xs _ (by omega) (by omega)).mono ?_
      rintro e wa ⟨rfl, hb⟩
      replace HX := Lib.hid (HX.out.keep (KN.of_below hb))
      replace HW := Lib.hid (HW.out.keep hb hB0)
      clear hb c wk
      go_wp2_with fail
      refine (lay_any b b (l0 ++ encText xn ++ encText xo ++ leB 4 xa) (bsOf (leB 2 xs)) 0 wa HW.out.1 (by have := HL0.out; rw [bsOf_size]; simp only [List.length_append, encTx_len, leB_length]; omega) (Nat.le_trans hB0 HW.out.2.1.size)).mono ?_
      rintro e wk ⟨rfl, hw⟩
      rw [bs_data] at hw
      replace HX := Lib.hid (HX.out.keep hw.2.2)
      replace HW := Lib.hid (HW.out.trans hw)
      clear hw
      have c : wk.cell? ⟨xb, 4, none⟩ = some (.int .u8 xk) := HX.out.cell 4
      go_wp2_with fail
      refine (pnum1 xk _ (by omega) (by omega)).mono ?_
      rintro e wa ⟨rfl, hb⟩
      replace HX := Lib.hid (HX.out.keep (KN.of_below hb))
      replace HW := Lib.hid (HW.out.keep hb hB0)
      clear hb c wk
      go_wp2_with fail
      refine (lay_any b b (l0 ++ encText xn ++ encText xo ++ leB 4 xa ++ leB 2 xs) (bsOf (leB 1 xk)) 0 wa HW.out.1 (by have := HL0.out; rw [bsOf_size]; simp only [List.length_append, encTx_len, leB_length]; omega) (Nat.le_trans hB0 HW.out.2.1.size)).mono ?_
      rintro e wk ⟨rfl, hw⟩
      rw [bs_data] at hw
      replace HX := Lib.hid (HX.out.keep hw.2.2)
      replace HW := Lib.hid (HW.out.trans hw)
      clear hw
      have HW2 : Hid (WPost b b (l1 ++ (t.take (i + 1)).flatMap encTs) w2 wk) := by rw [HEN.out, Hid]; simpa only [encTs, List.append_assoc] using HW.out
      clear HW HX
      go_wp2
      go_roundw
      case rel => exact ⟨i + 1, by omega, by go_num, HW2.out⟩
      case measure => simp [intOf]; omega
    · have HF : Hid (l1 ++ (t.take i).flatMap encTs = encTab t) := by rw [Hid, List.take_of_length_le (by omega)]; exact HE.out
      have hw := HW.out
      rw [HF.out] at hw
      have HST := Lib.hid (string_any b b _ wr hw.1 (by simp [encTab, magicT]))
      clear hw
      go_wp2_with fail
      refine HST.out.mono ?_
      rintro e w9 ⟨rfl, hB9⟩
      have HB9 := Lib.hid hB9; clear hB9 HST
      go_wp2
      go_ret2
      exact ⟨rfl, HBW.out.trans (HB9.out.mono HWB.out)⟩
theorem whPut_any (v : Value) (t : List GTs) (w : World) (h : TabAt w v t) :
    Calls Tryd.prog 7 #[v] w fun e w' => e = .returned (.tuple #[.string (putT t).1, .int .i64 (putT t).2]) ∧ Below w.heap.size w w' := by
  by_cases hm : tabOk t = true
  · have := whPut_ok v t w h hm
    rw [show putT t = (bsOf (encTab t), 0) by simp [putT, hm]]
    exact this
  · have hm' : tabOk t = false := by simpa using hm
    have HV : Hid (putT t = (⟨#[]⟩, 2)) := by simp [Hid, putT, hm']
    have HCK := Lib.hid (whCheck_any v t w h)
    rw [hm'] at HCK
    simp only [errB, Bool.false_eq_true, if_false] at HCK
    obtain ⟨p, cap, b0, o, rfl, -⟩ := h
    clear hm hm'
    go_enter Tryd.func7, Tryd.ntmps7
    go_wp2_with fail
    refine HCK.out.mono ?_
    rintro e w1 ⟨rfl, hB1⟩
    clear HCK
    go_wp2
    go_ret2
    rw [HV.out]
    exact ⟨rfl, hB1⟩
end Go.Proofs.YtiegjplldfodkaaDoor
