/- The walk of aediculeref34.May. -/
import Derived.Test.YtiegjplldfodkaaDoorWTabMay
import Derived.Test.YtiegjplldfodkaaDoorWName
namespace Go.Proofs.YtiegjplldfodkaaDoor
open Go.RowKit
theorem nameB_any (s : ByteArray) (w : World) (hs : s.size ≤ 140737488355328) :
    Calls Tryd.prog 29 #[.string s] w fun e w' => e = .returned (.bool (isName s)) ∧ Below w.heap.size w w' := (refName_any s w (by unfold maxLen; omega)).mono fun _ _ ⟨h, k⟩ => ⟨h, k ▸ Below.refl _ _⟩
set_option maxRecDepth 100000 in
set_option maxHeartbeats 4000000 in
theorem refTabMay_any (v : Value) (t : List GTs) (w : World) (h : TabAt w v t) :
    Calls Tryd.prog 9 #[v] w fun e w' => e = .returned (.bool (tabOk t)) ∧ Below w.heap.size w w' := by
  obtain ⟨p, cap, b, o, rfl, hcap, hmax, hp, hc⟩ := h
  have HP := Lib.hid hp; clear hp
  have HC := Lib.hid hc; clear hc
  go_enter Tryd.func9, Tryd.ntmps9
  go_wp2
  go_loopw [3, 4] (fun v3 v8 wr => ∃ (i : Nat) (e : Int), i ≤ t.length ∧ v8 = .int .i64 i ∧ v3 = .int .u32 e ∧ (0 ≤ e ∧ e ≤ 131072) ∧ tabGo e (t.drop i) = tabGo 256 t ∧ Below w.heap.size w wr) (fun _ v8 _ => t.length - (intOf v8).toNat)
  case atStart => exact ⟨0, 256, Nat.zero_le _, rfl, rfl, by omega, rfl, Below.refl _ _⟩
  case round =>
    obtain ⟨i, e, hi, rfl, rfl, ⟨he0, he1⟩, hgo, hbel⟩ := hrel
    have HGO := Lib.hid hgo; clear hgo
    have HB := Lib.hid hbel; clear hbel
    by_cases hlt : i < t.length
    · obtain rfl := HP.out (by omega)
      obtain ⟨g0, g1, g2, g3, g4, g5, ⟨q1, q2, q3, q4, q5⟩⟩ := tsR_keeps _ _ _ _ _ HB.out (HC.out i hlt)
      have HNO : Hid (tsOk e t[i] = false → tabOk t = false) := tabOk_no hlt HGO.out
      have HYE : Hid (tsOk e t[i] = true → tabGo (t[i].addr + t[i].size) (t.drop (i + 1)) = tabGo 256 t) := tabGo_yes hlt HGO.out
      generalize t[i] = x at g1 g2 g3 g4 g5 q1 q2 q3 q4 q5 HNO HYE
      obtain ⟨xn, xo, xa, xs, xk⟩ := x
      simp only [] at g1 g2 g3 g4 g5 q1 q2 q3 q4 q5 HNO HYE
      have qk0 := q3.1; have qk1 := q3.2; have qs0 := q2.1; have qs1 := q2.2; have qa0 := q1.1; have qa1 := q1.2
      clear q1 q2 q3
      have HN1 := Lib.hid (fun w => nameB_any xn w q4)
      have HN2 := Lib.hid (fun w => nameB_any xo w q5)
      clear q4 q5
      go_upto_region 6 with fail
      have HX : Hid ((wr.alloc (.cells #[.string xn, .string xo, .int .u32 xa, .int .u32 xs, .int .u8 xk] 43)).heap[wr.heap.size]? = some (.cells #[.string xn, .string xo, .int .u32 xa, .int .u32 xs, .int .u8 xk] 43 (0, 0))) := heap_alloc_new wr _
      have HW : Hid (Below w.heap.size w (wr.alloc (.cells #[.string xn, .string xo, .int .u32 xa, .int .u32 xs, .int .u8 xk] 43))) := HB.out.alloc HB.out.size _
      generalize wr.alloc (.cells #[.string xn, .string xo, .int .u32 xa, .int .u32 xs, .int .u8 xk] 43) = w2 at HX HW ⊢
      generalize wr.heap.size = xb at HX ⊢
      have b0 : w2.cell? ⟨xb, 0, none⟩ = some (.string xn) := Lib.cell_of_heap HX.out 0
      have b1 : w2.cell? ⟨xb, 1, none⟩ = some (.string xo) := Lib.cell_of_heap HX.out 1
      have b2 : w2.cell? ⟨xb, 2, none⟩ = some (.int .u32 xa) := Lib.cell_of_heap HX.out 2
      have b3 : w2.cell? ⟨xb, 3, none⟩ = some (.int .u32 xs) := Lib.cell_of_heap HX.out 3
      have b4 : w2.cell? ⟨xb, 4, none⟩ = some (.int .u8 xk) := Lib.cell_of_heap HX.out 4
      by_cases hok : tsOk e ⟨xn, xo, xa, xs, xk⟩ = true
      · obtain ⟨k1, k2, k3, k4, k5, k6, k7, k8, k9⟩ := tsOk_iff.1 hok
        simp only [] at k1 k2 k3 k4 k5 k6 k7 k8 k9
        rw [k1] at HN1
        rw [k2] at HN2
        have HY := Lib.hid (HYE.out hok)
        have hmod : (xa + xs) % 4294967296 = xa + xs := by omega
        clear k1 k2 hok HNO HYE hmod HB
        go_wp2_with fail
        refine (HN1.out _).mono ?_
        rintro e' w3 ⟨rfl, hb⟩
        replace HX := Lib.hid ((hb.block xb (Array.getElem?_eq_some_iff.1 HX.out).1).trans HX.out)
        replace HW := Lib.hid (HW.out.trans (hb.mono HW.out.size))
        clear hb b0 b1 b2 b3 b4
        have b0 : w3.cell? ⟨xb, 0, none⟩ = some (.string xn) := Lib.cell_of_heap HX.out 0
        have b1 : w3.cell? ⟨xb, 1, none⟩ = some (.string xo) := Lib.cell_of_heap HX.out 1
        have b2 : w3.cell? ⟨xb, 2, none⟩ = some (.int .u32 xa) := Lib.cell_of_heap HX.out 2
        have b3 : w3.cell? ⟨xb, 3, none⟩ = some (.int .u32 xs) := Lib.cell_of_heap HX.out 3
        have b4 : w3.cell? ⟨xb, 4, none⟩ = some (.int .u8 xk) := Lib.cell_of_heap HX.out 4
        go_wp2_with fail
        refine (HN2.out _).mono ?_
        rintro e' w4 ⟨rfl, hb⟩
        replace HX := Lib.hid ((hb.block xb (Array.getElem?_eq_some_iff.1 HX.out).1).trans HX.out)
        replace HW := Lib.hid (HW.out.trans (hb.mono HW.out.size))
        clear hb b0 b1 b2 b3 b4
        have b0 : w4.cell? ⟨xb, 0, none⟩ = some (.string xn) := Lib.cell_of_heap HX.out 0
        have b1 : w4.cell? ⟨xb, 1, none⟩ = some (.string xo) := Lib.cell_of_heap HX.out 1
        have b2 : w4.cell? ⟨xb, 2, none⟩ = some (.int .u32 xa) := Lib.cell_of_heap HX.out 2
        have b3 : w4.cell? ⟨xb, 3, none⟩ = some (.int .u32 xs) := Lib.cell_of_heap HX.out 3
        have b4 : w4.cell? ⟨xb, 4, none⟩ = some (.int .u8 xk) := Lib.cell_of_heap HX.out 4
        go_wp2
        go_roundw
        case rel => exact ⟨i + 1, xa + xs, by omega, by go_num, rfl, by omega, HY.out, HW.out⟩
        case measure => simp [intOf]; omega
      · have HF := Lib.hid (HNO.out (by simpa using hok))
        have hne := fun h => hok (tsOk_iff.2 h)
        simp only [] at hne
        clear hok HNO HYE HB
        by_cases k1 : isName xn = true
        case neg =>
          have k1' : isName xn = false := by simpa using k1
          rw [k1'] at HN1
          clear k1 k1' hne
          go_wp2_with fail
          refine (HN1.out _).mono ?_
          rintro e' w3 ⟨rfl, hb⟩
          replace HX := Lib.hid ((hb.block xb (Array.getElem?_eq_some_iff.1 HX.out).1).trans HX.out)
          replace HW := Lib.hid (HW.out.trans (hb.mono HW.out.size))
          clear hb b0 b1 b2 b3 b4
          have b0 : w3.cell? ⟨xb, 0, none⟩ = some (.string xn) := Lib.cell_of_heap HX.out 0
          have b1 : w3.cell? ⟨xb, 1, none⟩ = some (.string xo) := Lib.cell_of_heap HX.out 1
          have b2 : w3.cell? ⟨xb, 2, none⟩ = some (.int .u32 xa) := Lib.cell_of_heap HX.out 2
          have b3 : w3.cell? ⟨xb, 3, none⟩ = some (.int .u32 xs) := Lib.cell_of_heap HX.out 3
          have b4 : w3.cell? ⟨xb, 4, none⟩ = some (.int .u8 xk) := Lib.cell_of_heap HX.out 4
          go_wp2
          go_ret
          exact ⟨by rw [HF.out]; rfl, HW.out⟩
        rw [k1] at HN1
        go_wp2_with fail
        refine (HN1.out _).mono ?_
        rintro e' w3 ⟨rfl, hb⟩
        replace HX := Lib.hid ((hb.block xb (Array.getElem?_eq_some_iff.1 HX.out).1).trans HX.out)
        replace HW := Lib.hid (HW.out.trans (hb.mono HW.out.size))
        clear hb b0 b1 b2 b3 b4
        have b0 : w3.cell? ⟨xb, 0, none⟩ = some (.string xn) := Lib.cell_of_heap HX.out 0
        have b1 : w3.cell? ⟨xb, 1, none⟩ = some (.string xo) := Lib.cell_of_heap HX.out 1
        have b2 : w3.cell? ⟨xb, 2, none⟩ = some (.int .u32 xa) := Lib.cell_of_heap HX.out 2
        have b3 : w3.cell? ⟨xb, 3, none⟩ = some (.int .u32 xs) := Lib.cell_of_heap HX.out 3
        have b4 : w3.cell? ⟨xb, 4, none⟩ = some (.int .u8 xk) := Lib.cell_of_heap HX.out 4
        by_cases k2 : isName xo = true
        case neg =>
          have k2' : isName xo = false := by simpa using k2
          rw [k2'] at HN2
          clear k1 k2 k2' hne
          go_wp2_with fail
          refine (HN2.out _).mono ?_
          rintro e' w4 ⟨rfl, hb⟩
          replace HX := Lib.hid ((hb.block xb (Array.getElem?_eq_some_iff.1 HX.out).1).trans HX.out)
          replace HW := Lib.hid (HW.out.trans (hb.mono HW.out.size))
          clear hb b0 b1 b2 b3 b4
          have b0 : w4.cell? ⟨xb, 0, none⟩ = some (.string xn) := Lib.cell_of_heap HX.out 0
          have b1 : w4.cell? ⟨xb, 1, none⟩ = some (.string xo) := Lib.cell_of_heap HX.out 1
          have b2 : w4.cell? ⟨xb, 2, none⟩ = some (.int .u32 xa) := Lib.cell_of_heap HX.out 2
          have b3 : w4.cell? ⟨xb, 3, none⟩ = some (.int .u32 xs) := Lib.cell_of_heap HX.out 3
          have b4 : w4.cell? ⟨xb, 4, none⟩ = some (.int .u8 xk) := Lib.cell_of_heap HX.out 4
          go_wp2
          go_ret
          exact ⟨by rw [HF.out]; rfl, HW.out⟩
        rw [k2] at HN2
        go_wp2_with fail
        refine (HN2.out _).mono ?_
        rintro e' w4 ⟨rfl, hb⟩
        replace HX := Lib.hid ((hb.block xb (Array.getElem?_eq_some_iff.1 HX.out).1).trans HX.out)
        replace HW := Lib.hid (HW.out.trans (hb.mono HW.out.size))
        clear hb b0 b1 b2 b3 b4
        have b0 : w4.cell? ⟨xb, 0, none⟩ = some (.string xn) := Lib.cell_of_heap HX.out 0
        have b1 : w4.cell? ⟨xb, 1, none⟩ = some (.string xo) := Lib.cell_of_heap HX.out 1
        have b2 : w4.cell? ⟨xb, 2, none⟩ = some (.int .u32 xa) := Lib.cell_of_heap HX.out 2
        have b3 : w4.cell? ⟨xb, 3, none⟩ = some (.int .u32 xs) := Lib.cell_of_heap HX.out 3
        have b4 : w4.cell? ⟨xb, 4, none⟩ = some (.int .u8 xk) := Lib.cell_of_heap HX.out 4
        by_cases hc : 1 ≤ xk
        case neg =>
          have hc' : xk < 1 := by omega
          clear hc k1 k2 hne
          go_wp2
          go_ret
          exact ⟨by rw [HF.out]; rfl, HW.out⟩
        have k3 := hc; clear hc
        by_cases hc : xk ≤ 3
        case neg =>
          have hc' : 3 < xk := by omega
          clear hc k1 k2 hne
          go_wp2
          go_ret
          exact ⟨by rw [HF.out]; rfl, HW.out⟩
        have k4 := hc; clear hc
        by_cases hc : 1 ≤ xs
        case neg =>
          have hc' : xs < 1 := by omega
          clear hc k1 k2 hne
          go_wp2
          go_ret
          exact ⟨by rw [HF.out]; rfl, HW.out⟩
        have k5 := hc; clear hc
        by_cases hc : xs ≤ 8192
        case neg =>
          have hc' : 8192 < xs := by omega
          clear hc k1 k2 hne
          go_wp2
          go_ret
          exact ⟨by rw [HF.out]; rfl, HW.out⟩
        have k6 := hc; clear hc
        by_cases hc : e ≤ xa
        case neg =>
          have hc' : xa < e := by omega
          clear hc k1 k2 hne
          go_wp2
          go_ret
          exact ⟨by rw [HF.out]; rfl, HW.out⟩
        have k7 := hc; clear hc
        by_cases hc : xa ≤ 131072
        case neg =>
          have hc' : 131072 < xa := by omega
          clear hc k1 k2 hne
          go_wp2
          go_ret
          exact ⟨by rw [HF.out]; rfl, HW.out⟩
        have k8 := hc; clear hc
        have k9 : 131072 < xa + xs := by
          have : ¬ xa + xs ≤ 131072 := fun h => hne ⟨k1, k2, k3, k4, k5, k6, k7, k8, h⟩
          omega
        have hmod : (xa + xs) % 4294967296 = xa + xs := by omega
        clear k1 k2 hne hmod
        go_wp2
        go_ret
        exact ⟨by rw [HF.out]; rfl, HW.out⟩
    · have HE : Hid (tabOk t = decide (t.length ≤ 1024)) := tabOk_end hlt HGO.out
      go_wp2
      go_ret
      exact ⟨by rw [HE.out]; exact ret_bool (by first | rfl | (rw [Bool.eq_iff_iff]; simp; omega)), HB.out⟩
end Go.Proofs.YtiegjplldfodkaaDoor
