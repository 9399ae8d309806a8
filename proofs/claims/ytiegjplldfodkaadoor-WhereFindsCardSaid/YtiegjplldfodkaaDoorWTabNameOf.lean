/- The walks of where.Name and aediculeref34.Name. -/
import Derived.Test.YtiegjplldfodkaaDoorWRefTabFind
import Derived.Test.YtiegjplldfodkaaDoorWRef34Hex
import Derived.Test.YtiegjplldfodkaaDoorBelowReg
namespace Go.Proofs.YtiegjplldfodkaaDoor
open Go.RowKit
theorem findT_cases (t : List GTs) (a : Int) : findT t a = (0, 0, false) ∨ ∃ (i : Nat) (h : i < t.length), tabOk t = true ∧ findT t a = (i, a - t[i].addr, true) ∧ t[i].addr ≤ a ∧ a < t[i].addr + t[i].size := by
  unfold findT
  by_cases hok : tabOk t = true
  · rw [if_pos hok]
    cases he : t.findIdx? (fun (s : GTs) => decide (s.addr ≤ a) && decide (a < s.addr + s.size)) with
    | none => exact .inl rfl
    | some i =>
      obtain ⟨hi, h1, -⟩ := List.findIdx?_eq_some_iff_getElem.1 he
      simp only [Bool.and_eq_true, decide_eq_true_eq] at h1
      exact .inr ⟨i, hi, hok, by simp [List.getElem?_eq_getElem hi], h1.1, h1.2⟩
  · rw [if_neg hok]; exact .inl rfl
def NamePost (r : ByteArray) (w : World) (e : Ending) (w' : World) : Prop := e = .returned (.string r) ∧ Below w.heap.size w w'
theorem nameOf_none {t : List GTs} {a : Int} (h : findT t a = (0, 0, false)) : nameOf t a = bsOf [64] ++ bsOf (hexS 8 a) := by
  unfold nameOf; rw [h, bsOf_two]; rfl
theorem nameOf_some {t : List GTs} {a : Int} {i : Nat} (hi : i < t.length) (h : findT t a = (i, a - t[i].addr, true)) : nameOf t a = if a - t[i].addr = 0 then t[i].name else t[i].name ++ bsOf [43] ++ bsOf (hexS 4 (a - t[i].addr)) := by
  unfold nameOf; rw [h]
  simp only [List.getElem?_eq_getElem hi, Option.map_some, Option.getD_some]
  by_cases h0 : a - t[i].addr = 0
  · rw [if_pos h0, if_pos h0]
  · rw [if_neg h0, if_neg h0]
    apply ByteArray.ext; simp [bsOf]
set_option maxRecDepth 100000 in
set_option maxHeartbeats 1000000 in
theorem whNameOf_any (v : Value) (t : List GTs) (a : Int) (w : World) (h : TabAt w v t) (ha : 0 ≤ a ∧ a ≤ 4294967295) :
    Calls Tryd.prog 15 #[v, .int .u32 a] w (NamePost (nameOf t a) w) := by
  obtain ⟨p, cap, b, o, rfl, hcap, hmax, -⟩ := id h
  have H := Lib.hid h; clear h
  have ha0 := ha.1; have ha1 := ha.2
  have HF := Lib.hid (whFind_any _ t a w H.out ha)
  clear ha
  rcases findT_cases t a with hf | ⟨i, hlt, hok, hf, h1, h2⟩
  · have HR : Hid (nameOf t a = bsOf [64] ++ bsOf (hexS 8 a)) := nameOf_none hf
    rw [hf] at HF
    clear hf
    go_enter Tryd.func15, Tryd.ntmps15
    go_wp2_with (go_at_call 13; refine HF.out.mono ?_; rintro e w1 ⟨rfl, hB⟩)
    have HB := Lib.hid hB; clear hB HF
    have HP := Lib.hid (high4 a w1 ha0 (by omega))
    go_wp2_with (go_at_call 45; refine HP.out.mono ?_; rintro e w2 ⟨rfl, hB2⟩)
    have HB2 := Lib.hid (HB.out.trans (hB2.mono HB.out.size)); clear hB2 HP HB
    have HX := Lib.hid (hex_any (leR 4 a) w2 (by simp [leR, leB_length]) (by simp [leR, leB_length]))
    rw [leR_hex 4 a ha0] at HX
    go_wp2_with (go_at_call 46; refine HX.out.mono ?_; rintro e w3 ⟨rfl, hB3⟩)
    have HB3 := Lib.hid (HB2.out.trans (hB3.mono HB2.out.size)); clear hB3 HX HB2
    have hcat : ¬ 9223372036854775807 < 1 + (bsOf (hexS 8 a)).size := by rw [bsOf_size, hexS_len]; omega
    go_wp2
    go_ret
    rw [HR.out]
    exact ⟨rfl, HB3.out⟩
  · have HR := Lib.hid (nameOf_some hlt hf)
    have hat := tabGo_at (tabOk_go hok) i hlt
    have hnm : t[i].name.size ≤ 32 := by
      have h := hat.2.2.2.2.1
      simp only [isName, Bool.and_eq_true, decide_eq_true_eq] at h
      exact h.2
    have hs : t[i].size ≤ 8192 := hat.2.2.1
    rw [hf] at HF
    clear hf hat hok
    have HX0 : Hid (∀ w1, Below w.heap.size w w1 → ∃ b o, p = some ⟨b, o, none⟩ ∧ b < w1.heap.size ∧ w1.cell? ⟨b, o + i * 5, none⟩ = some (.string t[i].name)) := fun w1 hb => by
      obtain ⟨p', cap', b', o', e', -, -, q1, q2⟩ := TabAt.keep' hb H.out
      injection e' with e1 e2 e3
      subst e1
      obtain ⟨g0, g1, -⟩ := q2 i hlt
      exact ⟨b', o', q1 (by omega), g0, g1⟩
    generalize t[i].name = xn at HR hnm HX0
    generalize t[i].addr = xa at HR HF h1 h2
    generalize t[i].size = xs at h2 hs
    have ho0 : 0 ≤ a - xa := by omega
    have ho1 : a - xa < 65536 := by omega
    clear h1 h2 hs ha0 ha1
    generalize a - xa = off at HR HF ho0 ho1
    by_cases hz : off = 0
    · subst hz
      rw [if_pos rfl] at HR
      clear ho0 ho1
      go_enter Tryd.func15, Tryd.ntmps15
      go_wp2_with (go_at_call 13; refine HF.out.mono ?_; rintro e w1 ⟨rfl, hB⟩)
      have HB := Lib.hid hB; clear hB HF
      obtain ⟨b', o', rfl, g0, g1⟩ := HX0.out _ HB.out
      go_wp2
      have hh := Go.run_indexAt_slice (P := Tryd.prog) w1 22 ⟨b', o', none⟩ t.length cap .i64 i rfl
      rw [hh]
      go_simp
      go_wp2
      go_ret
      rw [HR.out]
      exact ⟨rfl, HB.out⟩
    · rw [if_neg hz] at HR
      have hz' : decide (off = 0) = false := decide_eq_false hz
      have hz2 : (off == 0) = false := by simpa using hz
      clear hz
      go_enter Tryd.func15, Tryd.ntmps15
      go_wp2_with (go_at_call 13; refine HF.out.mono ?_; rintro e w1 ⟨rfl, hB⟩)
      have HB := Lib.hid hB; clear hB HF
      have HP := Lib.hid (high2 off w1 ho0 ho1)
      go_wp2_with (go_at_call 45; refine HP.out.mono ?_; rintro e w2 ⟨rfl, hB2⟩)
      have HB2 := Lib.hid (HB.out.trans (hB2.mono HB.out.size)); clear hB2 HP HB
      obtain ⟨b', o', rfl, g0, g1⟩ := HX0.out _ HB2.out
      have HX : Hid (∀ x : BW w2, Calls Tryd.prog 46 #[.string (bsOf (leR 2 off))] x.u fun e w' => e = .returned (.string (bsOf (hexS 4 off))) ∧ ∃ y : BW w2, w' = y.u) := fun x => by
        have h := hex_any (leR 2 off) x.u (by simp [leR, leB_length]) (by simp [leR, leB_length])
        rw [leR_hex 2 off ho0] at h
        exact calls_below h
      have y1 := bw_cell g0 g1
      have hcat1 : ¬ 9223372036854775807 < xn.size + 1 := by omega
      have hcat : ¬ 9223372036854775807 < xn.size + 1 + (bsOf (hexS 4 off)).size := by rw [bsOf_size, hexS_len]; omega
      go_wp2_with fail
      refine wp_region_below (by kernel_rfl) (by kernel_rfl) ?_
      repeat (first | go_big_quiet_skip | quiet_step (((go_at_call 46; (with_reducible exact HX.out _)))))
      refine wpQuiet_nil ?_
      rintro w4 hx4; have hB4 := bw_of hx4; clear hx4
      clear HX y1
      go_wp2
      go_ret
      rw [HR.out]
      exact ⟨rfl, HB2.out.trans (hB4.mono HB2.out.size)⟩
end Go.Proofs.YtiegjplldfodkaaDoor
