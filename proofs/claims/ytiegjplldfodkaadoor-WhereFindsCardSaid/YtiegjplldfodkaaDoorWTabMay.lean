/- The walks of where.end, where.name, where.Check and aediculeref34.May. -/
import Derived.Test.YtiegjplldfodkaaDoorTab34
import Derived.Test.YtiegjplldfodkaaDoorWSymMay
import Derived.WalkSmall
namespace Go.Proofs.YtiegjplldfodkaaDoor
open Go.RowKit
def tsVal (x : GTs) : Value := .agg #[.string x.name, .string x.object, .int .u32 x.addr, .int .u32 x.size, .int .u8 x.kind]
/-- where a symbol's bytes end, as the machine reckons -/
def endU (x : GTs) : Int := (x.addr + x.size) % 4294967296
set_option maxHeartbeats 400000 in
theorem end_any (n o : ByteArray) (a s k : Int) (w : World) :
    Calls Tryd.prog 44 #[.agg #[.string n, .string o, .int .u32 a, .int .u32 s, .int .u8 k]] w fun e w' => e = .returned (.int .u32 ((a + s) % 4294967296)) ∧ Below w.heap.size w w' := by
  go_enter Tryd.func44, Tryd.ntmps44
  go_wp2
  go_ret
  exact ⟨ret_int (by go_light; first | rfl | omega), alloc_old w _⟩
def nameSym (s : ByteArray) : GSym := ⟨s, 0, 2, 1, ⟨#[]⟩, [], []⟩
theorem nameSym_ok (s : ByteArray) : symOkP (nameSym s) = isName s := by
  simp [symOkP, nameSym, sizedOk, sizedB, len32, placesOk, relsGo, ByteArray.size]
set_option maxHeartbeats 400000 in
theorem objSym_any (s : GSym) (vr vn : Value) (w : World) (h : SymIn w s vr vn) :
    Calls Tryd.prog 66 #[.agg #[.string s.name, .int .u8 s.bind, .int .u8 s.kind, .int .u32 s.size, .string s.bytes, vr, vn]] w fun e w' => e = .returned (.int .i64 (errB (symOkP s))) ∧ Below w.heap.size w w' := by
  have HM := Lib.hid (symMay_any s vr vn _ (SymIn.keep (alloc_old w (.cells #[.string s.name, .int .u8 s.bind, .int .u8 s.kind, .int .u32 s.size, .string s.bytes, vr, vn] 94)) h))
  obtain ⟨p1, q1, p2, q2, rfl, rfl⟩ := h.shape
  clear h
  obtain ⟨sn, sb, sk, ss, sy, sr, st⟩ := s
  simp only [] at HM ⊢
  go_enter Tryd.func66, Tryd.ntmps66
  go_wp2_with fail
  refine HM.out.mono ?_
  rintro e w1 ⟨rfl, hB⟩
  have HB : Hid (Below w.heap.size w w1) := (alloc_old w _).trans (hB.mono (by simp))
  clear hB HM
  go_wp2_with (go_at_call 71; refine (told_any _ _).mono ?_; rintro e w1 ⟨rfl, rfl⟩)
  go_ret
  exact ⟨rfl, HB.out⟩
theorem errB_ok (b : Bool) : (errB b == 0) = b := by cases b <;> rfl
set_option maxHeartbeats 400000 in
theorem whName_any (s : ByteArray) (w : World) (hs : s.size ≤ 140737488355328) :
    Calls Tryd.prog 50 #[.string s] w fun e w' => e = .returned (.bool (isName s)) ∧ Below w.heap.size w w' := by
  have HC := Lib.hid (objSym_any (nameSym s) (.slice none 0 0) (.slice none 0 0) w ⟨rowAt_nil, rowAt_nil, by simp [nameSym], by simp [nameSym], by simp [nameSym], hs, by simp [nameSym, ByteArray.size]⟩)
  rw [nameSym_ok] at HC
  have he := errB_ok (isName s)
  have HE := Lib.hid he; clear he
  simp only [nameSym] at HC
  generalize errB (isName s) = c at HC HE
  go_enter Tryd.func50, Tryd.ntmps50
  go_wp2_with fail
  refine HC.out.mono ?_
  rintro e w1 ⟨rfl, hB⟩
  clear HC
  go_wp2
  go_ret
  exact ⟨ret_bool HE.out, hB⟩
theorem tsOk_iff {e : Int} {x : GTs} : tsOk e x = true ↔ (isName x.name = true ∧ isName x.object = true ∧ 1 ≤ x.kind ∧ x.kind ≤ 3 ∧ 1 ≤ x.size ∧ x.size ≤ 8192 ∧ e ≤ x.addr ∧ x.addr ≤ 131072 ∧ x.addr + x.size ≤ 131072) := by
  simp only [tsOk, Bool.and_eq_true, decide_eq_true_eq, and_assoc]
theorem tsOk_bad {e : Int} {x : GTs} (h : ¬ (isName x.name = true ∧ isName x.object = true ∧ 1 ≤ x.kind ∧ x.kind ≤ 3 ∧ 1 ≤ x.size ∧ x.size ≤ 8192 ∧ e ≤ x.addr ∧ x.addr ≤ 131072 ∧ x.addr + x.size ≤ 131072)) : tsOk e x = false := by
  cases hc : tsOk e x with
  | false => rfl
  | true => exact absurd (tsOk_iff.1 hc) h
set_option maxRecDepth 100000 in
set_option maxHeartbeats 4000000 in
theorem whCheck_any (v : Value) (t : List GTs) (w : World) (h : TabAt w v t) :
    Calls Tryd.prog 23 #[v] w fun e w' => e = .returned (.int .i64 (errB (tabOk t))) ∧ Below w.heap.size w w' := by
  obtain ⟨p, cap, b, o, rfl, hcap, hmax, hp, hc⟩ := h
  have HP := Lib.hid hp; clear hp
  have HC := Lib.hid hc; clear hc
  go_enter Tryd.func23, Tryd.ntmps23
  go_wp2
  go_loopw [3, 8] (fun v3 v8 wr => ∃ (i : Nat) (e : Int), i ≤ t.length ∧ v8 = .int .i64 i ∧ v3 = .int .u32 e ∧ (0 ≤ e ∧ e ≤ 131072) ∧ tabGo e (t.drop i) = tabGo 256 t ∧ Below w.heap.size w wr) (fun _ v8 _ => t.length - (intOf v8).toNat)
  case atStart => exact ⟨0, 256, Nat.zero_le _, rfl, rfl, by omega, rfl, Below.refl _ _⟩
  case round =>
    obtain ⟨i, e, hi, rfl, rfl, ⟨he0, he1⟩, hgo, hbel⟩ := hrel
    have HGO := Lib.hid hgo; clear hgo
    have HB := Lib.hid hbel; clear hbel
    by_cases hlt : i < t.length
    · obtain rfl := HP.out (by omega)
      obtain ⟨g0, g1, g2, g3, g4, g5, ⟨q1, q2, q3, q4, q5⟩⟩ := tsR_keeps _ _ _ _ _ HB.out (HC.out i hlt)
      have HNO : Hid (tsOk e t[i] = false → tabOk t = false) := tabOk_no hlt HGO.out
      have HYE : Hid (tsOk e t[i] = true → tabGo (t[i].addr + t[i].size) (t.drop (i + 1)) = tabGo 256 t) := tabGo_yes hlt HGO.out
      generalize t[i] = x at g1 g2 g3 g4 g5 q1 q2 q3 q4 q5 HNO HYE
      obtain ⟨xn, xo, xa, xs, xk⟩ := x
      simp only [] at g1 g2 g3 g4 g5 q1 q2 q3 q4 q5 HNO HYE
      have qk0 := q3.1; have qk1 := q3.2; have qs0 := q2.1; have qs1 := q2.2; have qa0 := q1.1; have qa1 := q1.2
      clear q1 q2 q3
      have HN1 := Lib.hid (fun w => whName_any xn w q4)
      have HN2 := Lib.hid (fun w => whName_any xo w q5)
      clear q4 q5
      go_upto_region 5 with fail
      have HX : Hid ((wr.alloc (.cells #[.string xn, .string xo, .int .u32 xa, .int .u32 xs, .int .u8 xk] 43)).heap[wr.heap.size]? = some (.cells #[.string xn, .string xo, .int .u32 xa, .int .u32 xs, .int .u8 xk] 43 (0, 0))) := heap_alloc_new wr _
      have HW : Hid (Below w.heap.size w (wr.alloc (.cells #[.string xn, .string xo, .int .u32 xa, .int .u32 xs, .int .u8 xk] 43))) := HB.out.alloc HB.out.size _
      generalize wr.alloc (.cells #[.string xn, .string xo, .int .u32 xa, .int .u32 xs, .int .u8 xk] 43) = w2 at HX HW ⊢
      generalize wr.heap.size = xb at HX ⊢
      have b0 : w2.cell? ⟨xb, 0, none⟩ = some (.string xn) := Lib.cell_of_heap HX.out 0
      have b1 : w2.cell? ⟨xb, 1, none⟩ = some (.string xo) := Lib.cell_of_heap HX.out 1
      have b2 : w2.cell? ⟨xb, 2, none⟩ = some (.int .u32 xa) := Lib.cell_of_heap HX.out 2
      have b3 : w2.cell? ⟨xb, 3, none⟩ = some (.int .u32 xs) := Lib.cell_of_heap HX.out 3
      have b4 : w2.cell? ⟨xb, 4, none⟩ = some (.int .u8 xk) := Lib.cell_of_heap HX.out 4
      by_cases hok : tsOk e ⟨xn, xo, xa, xs, xk⟩ = true
      · obtain ⟨k1, k2, k3, k4, k5, k6, k7, k8, k9⟩ := tsOk_iff.1 hok
        simp only [] at k1 k2 k3 k4 k5 k6 k7 k8 k9
        rw [k1] at HN1
        rw [k2] at HN2
        have HY := Lib.hid (HYE.out hok)
        have hmod : (xa + xs) % 4294967296 = xa + xs := by omega
        have HEN := Lib.hid (fun w => end_any xn xo xa xs xk w)
        rw [hmod] at HEN
        clear k1 k2 hok HNO HYE hmod HB
        go_wp2_with fail
        refine (HN1.out _).mono ?_
        rintro e' w3 ⟨rfl, hb⟩
        replace HX := Lib.hid ((hb.block xb (Array.getElem?_eq_some_iff.1 HX.out).1).trans HX.out)
        replace HW := Lib.hid (HW.out.trans (hb.mono HW.out.size))
        clear hb b0 b1 b2 b3 b4
        have b0 : w3.cell? ⟨xb, 0, none⟩ = some (.string xn) := Lib.cell_of_heap HX.out 0
        have b1 : w3.cell? ⟨xb, 1, none⟩ = some (.string xo) := Lib.cell_of_heap HX.out 1
        have b2 : w3.cell? ⟨xb, 2, none⟩ = some (.int .u32 xa) := Lib.cell_of_heap HX.out 2
        have b3 : w3.cell? ⟨xb, 3, none⟩ = some (.int .u32 xs) := Lib.cell_of_heap HX.out 3
        have b4 : w3.cell? ⟨xb, 4, none⟩ = some (.int .u8 xk) := Lib.cell_of_heap HX.out 4
        go_wp2_with fail
        refine (HN2.out _).mono ?_
        rintro e' w4 ⟨rfl, hb⟩
        replace HX := Lib.hid ((hb.block xb (Array.getElem?_eq_some_iff.1 HX.out).1).trans HX.out)
        replace HW := Lib.hid (HW.out.trans (hb.mono HW.out.size))
        clear hb b0 b1 b2 b3 b4
        have b0 : w4.cell? ⟨xb, 0, none⟩ = some (.string xn) := Lib.cell_of_heap HX.out 0
        have b1 : w4.cell? ⟨xb, 1, none⟩ = some (.string xo) := Lib.cell_of_heap HX.out 1
        have b2 : w4.cell? ⟨xb, 2, none⟩ = some (.int .u32 xa) := Lib.cell_of_heap HX.out 2
        have b3 : w4.cell? ⟨xb, 3, none⟩ = some (.int .u32 xs) := Lib.cell_of_heap HX.out 3
        have b4 : w4.cell? ⟨xb, 4, none⟩ = some (.int .u8 xk) := Lib.cell_of_heap HX.out 4
        go_wp2_with fail
        refine (HEN.out _).mono ?_
        rintro e' w5 ⟨rfl, hb⟩
        replace HX := Lib.hid ((hb.block xb (Array.getElem?_eq_some_iff.1 HX.out).1).trans HX.out)
        replace HW := Lib.hid (HW.out.trans (hb.mono HW.out.size))
        clear hb b0 b1 b2 b3 b4
        have b0 : w5.cell? ⟨xb, 0, none⟩ = some (.string xn) := Lib.cell_of_heap HX.out 0
        have b1 : w5.cell? ⟨xb, 1, none⟩ = some (.string xo) := Lib.cell_of_heap HX.out 1
        have b2 : w5.cell? ⟨xb, 2, none⟩ = some (.int .u32 xa) := Lib.cell_of_heap HX.out 2
        have b3 : w5.cell? ⟨xb, 3, none⟩ = some (.int .u32 xs) := Lib.cell_of_heap HX.out 3
        have b4 : w5.cell? ⟨xb, 4, none⟩ = some (.int .u8 xk) := Lib.cell_of_heap HX.out 4
        go_wp2_with fail
        refine (HEN.out _).mono ?_
        rintro e' w6 ⟨rfl, hb⟩
        replace HX := Lib.hid ((hb.block xb (Array.getElem?_eq_some_iff.1 HX.out).1).trans HX.out)
        replace HW := Lib.hid (HW.out.trans (hb.mono HW.out.size))
        clear hb b0 b1 b2 b3 b4
        have b0 : w6.cell? ⟨xb, 0, none⟩ = some (.string xn) := Lib.cell_of_heap HX.out 0
        have b1 : w6.cell? ⟨xb, 1, none⟩ = some (.string xo) := Lib.cell_of_heap HX.out 1
        have b2 : w6.cell? ⟨xb, 2, none⟩ = some (.int .u32 xa) := Lib.cell_of_heap HX.out 2
        have b3 : w6.cell? ⟨xb, 3, none⟩ = some (.int .u32 xs) := Lib.cell_of_heap HX.out 3
        have b4 : w6.cell? ⟨xb, 4, none⟩ = some (.int .u8 xk) := Lib.cell_of_heap HX.out 4
        go_wp2
        go_roundw
        case rel => exact ⟨i + 1, xa + xs, by omega, by go_num, rfl, by omega, HY.out, HW.out⟩
        case measure => simp [intOf]; omega
      · have HF := Lib.hid (HNO.out (by simpa using hok))
        have hne := fun h => hok (tsOk_iff.2 h)
        simp only [] at hne
        have HEN := Lib.hid (fun w => end_any xn xo xa xs xk w)
        clear hok HNO HYE HB
        by_cases k1 : isName xn = true
        case neg =>
          have k1' : isName xn = false := by simpa using k1
          rw [k1'] at HN1
          clear k1 k1' hne
          go_wp2_with fail
          refine (HN1.out _).mono ?_
          rintro e' w3 ⟨rfl, hb⟩
          replace HX := Lib.hid ((hb.block xb (Array.getElem?_eq_some_iff.1 HX.out).1).trans HX.out)
          replace HW := Lib.hid (HW.out.trans (hb.mono HW.out.size))
          clear hb b0 b1 b2 b3 b4
          have b0 : w3.cell? ⟨xb, 0, none⟩ = some (.string xn) := Lib.cell_of_heap HX.out 0
          have b1 : w3.cell? ⟨xb, 1, none⟩ = some (.string xo) := Lib.cell_of_heap HX.out 1
          have b2 : w3.cell? ⟨xb, 2, none⟩ = some (.int .u32 xa) := Lib.cell_of_heap HX.out 2
          have b3 : w3.cell? ⟨xb, 3, none⟩ = some (.int .u32 xs) := Lib.cell_of_heap HX.out 3
          have b4 : w3.cell? ⟨xb, 4, none⟩ = some (.int .u8 xk) := Lib.cell_of_heap HX.out 4
          go_wp2
          go_ret
          exact ⟨by rw [HF.out]; rfl, HW.out⟩
        rw [k1] at HN1
        go_wp2_with fail
        refine (HN1.out _).mono ?_
        rintro e' w3 ⟨rfl, hb⟩
        replace HX := Lib.hid ((hb.block xb (Array.getElem?_eq_some_iff.1 HX.out).1).trans HX.out)
        replace HW := Lib.hid (HW.out.trans (hb.mono HW.out.size))
        clear hb b0 b1 b2 b3 b4
        have b0 : w3.cell? ⟨xb, 0, none⟩ = some (.string xn) := Lib.cell_of_heap HX.out 0
        have b1 : w3.cell? ⟨xb, 1, none⟩ = some (.string xo) := Lib.cell_of_heap HX.out 1
        have b2 : w3.cell? ⟨xb, 2, none⟩ = some (.int .u32 xa) := Lib.cell_of_heap HX.out 2
        have b3 : w3.cell? ⟨xb, 3, none⟩ = some (.int .u32 xs) := Lib.cell_of_heap HX.out 3
        have b4 : w3.cell? ⟨xb, 4, none⟩ = some (.int .u8 xk) := Lib.cell_of_heap HX.out 4
        by_cases k2 : isName xo = true
        case neg =>
          have k2' : isName xo = false := by simpa using k2
          rw [k2'] at HN2
          clear k1 k2 k2' hne
          go_wp2_with fail
          refine (HN2.out _).mono ?_
          rintro e' w4 ⟨rfl, hb⟩
          replace HX := Lib.hid ((hb.block xb (Array.getElem?_eq_some_iff.1 HX.out).1).trans HX.out)
          replace HW := Lib.hid (HW.out.trans (hb.mono HW.out.size))
          clear hb b0 b1 b2 b3 b4
          have b0 : w4.cell? ⟨xb, 0, none⟩ = some (.string xn) := Lib.cell_of_heap HX.out 0
          have b1 : w4.cell? ⟨xb, 1, none⟩ = some (.string xo) := Lib.cell_of_heap HX.out 1
          have b2 : w4.cell? ⟨xb, 2, none⟩ = some (.int .u32 xa) := Lib.cell_of_heap HX.out 2
          have b3 : w4.cell? ⟨xb, 3, none⟩ = some (.int .u32 xs) := Lib.cell_of_heap HX.out 3
          have b4 : w4.cell? ⟨xb, 4, none⟩ = some (.int .u8 xk) := Lib.cell_of_heap HX.out 4
          go_wp2
          go_ret
          exact ⟨by rw [HF.out]; rfl, HW.out⟩
        rw [k2] at HN2
        go_wp2_with fail
        refine (HN2.out _).mono ?_
        rintro e' w4 ⟨rfl, hb⟩
        replace HX := Lib.hid ((hb.block xb (Array.getElem?_eq_some_iff.1 HX.out).1).trans HX.out)
        replace HW := Lib.hid (HW.out.trans (hb.mono HW.out.size))
        clear hb b0 b1 b2 b3 b4
        have b0 : w4.cell? ⟨xb, 0, none⟩ = some (.string xn) := Lib.cell_of_heap HX.out 0
        have b1 : w4.cell? ⟨xb, 1, none⟩ = some (.string xo) := Lib.cell_of_heap HX.out 1
        have b2 : w4.cell? ⟨xb, 2, none⟩ = some (.int .u32 xa) := Lib.cell_of_heap HX.out 2
        have b3 : w4.cell? ⟨xb, 3, none⟩ = some (.int .u32 xs) := Lib.cell_of_heap HX.out 3
        have b4 : w4.cell? ⟨xb, 4, none⟩ = some (.int .u8 xk) := Lib.cell_of_heap HX.out 4
        by_cases hc : 1 ≤ xk
        case neg =>
          have hc' : xk < 1 := by omega
          clear hc k1 k2 hne
          go_wp2
          go_ret
          exact ⟨by rw [HF.out]; rfl, HW.out⟩
        have k3 := hc; clear hc
        by_cases hc : xk ≤ 3
        case neg =>
          have hc' : 3 < xk := by omega
          clear hc k1 k2 hne
          go_wp2
          go_ret
          exact ⟨by rw [HF.out]; rfl, HW.out⟩
        have k4 := hc; clear hc
        by_cases hc : 1 ≤ xs
        case neg =>
          have hc' : xs < 1 := by omega
          clear hc k1 k2 hne
          go_wp2
          go_ret
          exact ⟨by rw [HF.out]; rfl, HW.out⟩
        have k5 := hc; clear hc
        by_cases hc : xs ≤ 8192
        case neg =>
          have hc' : 8192 < xs := by omega
          clear hc k1 k2 hne
          go_wp2
          go_ret
          exact ⟨by rw [HF.out]; rfl, HW.out⟩
        have k6 := hc; clear hc
        by_cases hc : e ≤ xa
        case neg =>
          have hc' : xa < e := by omega
          clear hc k1 k2 hne
          go_wp2
          go_ret
          exact ⟨by rw [HF.out]; rfl, HW.out⟩
        have k7 := hc; clear hc
        by_cases hc : xa ≤ 131072
        case neg =>
          have hc' : 131072 < xa := by omega
          clear hc k1 k2 hne
          go_wp2
          go_ret
          exact ⟨by rw [HF.out]; rfl, HW.out⟩
        have k8 := hc; clear hc
        have k9 : 131072 < xa + xs := by
          have : ¬ xa + xs ≤ 131072 := fun h => hne ⟨k1, k2, k3, k4, k5, k6, k7, k8, h⟩
          omega
        have hmod : (xa + xs) % 4294967296 = xa + xs := by omega
        rw [hmod] at HEN
        clear k1 k2 hne hmod
        go_wp2_with fail
        refine (HEN.out _).mono ?_
        rintro e' w5 ⟨rfl, hb⟩
        replace HX := Lib.hid ((hb.block xb (Array.getElem?_eq_some_iff.1 HX.out).1).trans HX.out)
        replace HW := Lib.hid (HW.out.trans (hb.mono HW.out.size))
        clear hb b0 b1 b2 b3 b4
        have b0 : w5.cell? ⟨xb, 0, none⟩ = some (.string xn) := Lib.cell_of_heap HX.out 0
        have b1 : w5.cell? ⟨xb, 1, none⟩ = some (.string xo) := Lib.cell_of_heap HX.out 1
        have b2 : w5.cell? ⟨xb, 2, none⟩ = some (.int .u32 xa) := Lib.cell_of_heap HX.out 2
        have b3 : w5.cell? ⟨xb, 3, none⟩ = some (.int .u32 xs) := Lib.cell_of_heap HX.out 3
        have b4 : w5.cell? ⟨xb, 4, none⟩ = some (.int .u8 xk) := Lib.cell_of_heap HX.out 4
        go_wp2
        go_ret
        exact ⟨by rw [HF.out]; rfl, HW.out⟩
    · by_cases hl : t.length ≤ 1024
      · have HE : Hid (tabOk t = true) := by rw [Hid, tabOk_end hlt HGO.out]; simpa using hl
        have d1 : decide ((1024 : Int) < (t.length : Int)) = false := by simp; omega
        have d2 : decide (1024 < t.length) = false := by simp; omega
        clear hl
        go_wp2
        go_ret
        exact ⟨by rw [HE.out]; rfl, HB.out⟩
      · have HE : Hid (tabOk t = false) := by rw [Hid, tabOk_end hlt HGO.out]; simpa using hl
        have d1 : decide ((1024 : Int) < (t.length : Int)) = true := by simp; omega
        have d2 : decide (1024 < t.length) = true := by simp; omega
        clear hl
        go_wp2
        go_ret
        exact ⟨by rw [HE.out]; rfl, HB.out⟩
end Go.Proofs.YtiegjplldfodkaaDoor
