/- The walk of aediculeref34.Name. -/
import Derived.Test.YtiegjplldfodkaaDoorWTabNameOf
namespace Go.Proofs.YtiegjplldfodkaaDoor
open Go.RowKit
set_option maxRecDepth 100000 in
set_option maxHeartbeats 1000000 in
theorem refNameOf_any (v : Value) (t : List GTs) (a : Int) (w : World) (h : TabAt w v t) (ha : 0 ≤ a ∧ a ≤ 4294967295) :
    Calls Tryd.prog 16 #[v, .int .u32 a] w (NamePost (nameOf t a) w) := by
  obtain ⟨p, cap, b, o, rfl, hcap, hmax, -⟩ := id h
  have H := Lib.hid h; clear h
  have ha0 := ha.1; have ha1 := ha.2
  have HF := Lib.hid (refFind_any _ t a w H.out ha)
  clear ha
  rcases findT_cases t a with hf | ⟨i, hlt, hok, hf, h1, h2⟩
  · have HR : Hid (nameOf t a = bsOf [64] ++ bsOf (hexS 8 a)) := nameOf_none hf
    rw [hf] at HF
    clear hf
    go_enter Tryd.func16, Tryd.ntmps16
    go_wp2_with (go_at_call 14; refine HF.out.mono ?_; rintro e w1 ⟨rfl, hB⟩)
    have HB := Lib.hid hB; clear hB HF
    have HX := Lib.hid (rhex_any 8 a w1 (by omega) ha0 (by omega))
    go_wp2_with (go_at_call 47; refine HX.out.mono ?_; rintro e w3 ⟨rfl, rfl⟩)
    clear HX
    have hcat : ¬ 9223372036854775807 < 1 + (bsOf (hexS 8 a)).size := by rw [bsOf_size, hexS_len]; omega
    go_wp2
    go_ret
    rw [HR.out]
    exact ⟨rfl, HB.out⟩
  · have HR := Lib.hid (nameOf_some hlt hf)
    have hat := tabGo_at (tabOk_go hok) i hlt
    have hnm : t[i].name.size ≤ 32 := by
      have h := hat.2.2.2.2.1
      simp only [isName, Bool.and_eq_true, decide_eq_true_eq] at h
      exact h.2
    have hs : t[i].size ≤ 8192 := hat.2.2.1
    rw [hf] at HF
    clear hf hat hok
    have HX0 : Hid (∀ w1, Below w.heap.size w w1 → ∃ b o, p = some ⟨b, o, none⟩ ∧ b < w1.heap.size ∧ w1.cell? ⟨b, o + i * 5, none⟩ = some (.string t[i].name)) := fun w1 hb => by
      obtain ⟨p', cap', b', o', e', -, -, q1, q2⟩ := TabAt.keep' hb H.out
      injection e' with e1 e2 e3
      subst e1
      obtain ⟨g0, g1, -⟩ := q2 i hlt
      exact ⟨b', o', q1 (by omega), g0, g1⟩
    generalize t[i].name = xn at HR hnm HX0
    generalize t[i].addr = xa at HR HF h1 h2
    generalize t[i].size = xs at h2 hs
    have ho0 : 0 ≤ a - xa := by omega
    have ho1 : a - xa < 65536 := by omega
    clear h1 h2 hs ha0 ha1
    generalize a - xa = off at HR HF ho0 ho1
    by_cases hz : off = 0
    · subst hz
      rw [if_pos rfl] at HR
      clear ho0 ho1
      go_enter Tryd.func16, Tryd.ntmps16
      go_wp2_with (go_at_call 14; refine HF.out.mono ?_; rintro e w1 ⟨rfl, hB⟩)
      have HB := Lib.hid hB; clear hB HF
      obtain ⟨b', o', rfl, g0, g1⟩ := HX0.out _ HB.out
      go_wp2
      have hh := Go.run_indexAt_slice (P := Tryd.prog) w1 22 ⟨b', o', none⟩ t.length cap .i64 i rfl
      rw [hh]
      go_simp
      go_wp2
      go_ret
      rw [HR.out]
      exact ⟨rfl, HB.out⟩
    · rw [if_neg hz] at HR
      have hz' : decide (off = 0) = false := decide_eq_false hz
      have hz2 : (off == 0) = false := by simpa using hz
      clear hz
      go_enter Tryd.func16, Tryd.ntmps16
      go_wp2_with (go_at_call 14; refine HF.out.mono ?_; rintro e w1 ⟨rfl, hB⟩)
      have HB := Lib.hid hB; clear hB HF
      obtain ⟨b', o', rfl, g0, g1⟩ := HX0.out _ HB.out
      have HX : Hid (∀ x : BW w1, Calls Tryd.prog 47 #[.int .u32 off, .int .i64 4] x.u fun e w' => e = .returned (.string (bsOf (hexS 4 off))) ∧ ∃ y : BW w1, w' = y.u) := fun x => by
        refine (rhex_any 4 off x.u (by omega) ho0 (by omega)).mono ?_
        rintro e w' ⟨rfl, rfl⟩
        exact ⟨rfl, x, rfl⟩
      have y1 := bw_cell g0 g1
      have hcat1 : ¬ 9223372036854775807 < xn.size + 1 := by omega
      have hcat : ¬ 9223372036854775807 < xn.size + 1 + (bsOf (hexS 4 off)).size := by rw [bsOf_size, hexS_len]; omega
      go_wp2_with fail
      refine wp_region_below (by kernel_rfl) (by kernel_rfl) ?_
      repeat (first | go_big_quiet_skip | quiet_step (((go_at_call 47; (with_reducible exact HX.out _)))))
      refine wpQuiet_nil ?_
      rintro w4 hx4; have hB4 := bw_of hx4; clear hx4
      clear HX y1
      go_wp2
      go_ret
      rw [HR.out]
      exact ⟨rfl, HB.out.trans (hB4.mono HB.out.size)⟩
end Go.Proofs.YtiegjplldfodkaaDoor
