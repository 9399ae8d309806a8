/- The walk of aediculelaw34.alive. -/
import Derived.Test.YtiegjplldfodkaaDoorOne34
import Derived.Test.YtiegjplldfodkaaDoorWTabNameOf
import Derived.Test.YtiegjplldfodkaaDoorWTabMoves
import Derived.Test.YtiegjplldfodkaaDoorWTabSame
namespace Go.Proofs.YtiegjplldfodkaaDoor
open Go.RowKit
theorem ts34_bd : TsBd ts34 := ⟨by decide, by decide, by decide, by decide, by decide⟩
theorem tsBad_bd : TsBd ⟨⟨#[]⟩, ⟨#[]⟩, 0, 0, 0⟩ := ⟨by decide, by decide, by decide, by decide, by decide⟩
theorem tabPost_one (w : World) : TabPost tab34 w (.returned (.slice (some ⟨w.heap.size, 0, none⟩) 1 1)) (w.alloc (.cells #[.string ⟨#[109, 97, 105, 110]⟩, .string ⟨#[111]⟩, .int .u32 256, .int .u32 24, .int .u8 1] 43)) := by
  refine ⟨_, rfl, ?_, alloc_old w _⟩
  refine ⟨_, 1, w.heap.size, 0, rfl, Nat.le_refl _, by show 1 ≤ _; omega, fun _ => rfl, fun i hi => ?_⟩
  obtain rfl : i = 0 := by simp [tab34] at hi; omega
  exact ⟨by simp, by simp [go_sem, tab34, ts34], by simp [go_sem, tab34, ts34], by simp [go_sem, tab34, ts34], by simp [go_sem, tab34, ts34], by simp [go_sem, tab34, ts34], ts34_bd⟩
theorem one34_any (w : World) : Calls Tryd.prog 22 #[] w (TabPost tab34 w) := by
  have HP := Lib.hid (tabPost_one w)
  go_enter Tryd.func22, Tryd.ntmps22
  go_wp2
  go_ret
  exact HP.out
theorem tabs_same {v u : Value} {t : List GTs} {w : World} (h1 : TabAt w v t) (h2 : TabAt w u t) : Calls Tryd.prog 8 #[v, u] w (IsB true w) :=
  (tabSame_two v u t t w h1 h2).mono fun _ _ ⟨b, he, hb, hB⟩ => ⟨by rw [he, hb.2 rfl], hB⟩
theorem rowAt_bad (w : World) : TabAt (w.alloc (.cells #[.string ⟨#[]⟩, .string ⟨#[]⟩, .int .u32 0, .int .u32 0, .int .u8 0] 43)) (.slice (some ⟨w.heap.size, 0, none⟩) 1 1) [⟨⟨#[]⟩, ⟨#[]⟩, 0, 0, 0⟩] := by
  refine ⟨_, 1, w.heap.size, 0, rfl, Nat.le_refl _, by show 1 ≤ _; omega, fun _ => rfl, fun i hi => ?_⟩
  obtain rfl : i = 0 := by simp at hi; omega
  exact ⟨by simp, by simp [go_sem], by simp [go_sem], by simp [go_sem], by simp [go_sem], by simp [go_sem], tsBad_bd⟩
set_option maxRecDepth 100000 in
set_option maxHeartbeats 4000000 in
theorem alive34_any (w : World) : Calls Tryd.prog 6 #[] w fun e w' => e = .returned (.bool true) ∧ Below w.heap.size w w' := by
  go_enter Tryd.func6, Tryd.ntmps6
  go_wp2_with fail
  refine (one34_any _).mono ?_
  rintro e w1 ⟨v1, rfl, ht, hB⟩
  have HW := Lib.hid hB; clear hB
  have HP := Lib.hid (whPut_any v1 tab34 w1 ht)
  rw [put34] at HP; clear ht
  go_wp2_with fail
  refine HP.out.mono ?_
  rintro e w2 ⟨rfl, hB⟩
  replace HW := Lib.hid (HW.out.trans (hB.mono HW.out.size)); clear hB HP
  have HG := Lib.hid (whGet_any bytes34 w2 (by decide))
  rw [get34] at HG
  go_wp2_with fail
  refine HG.out.mono ?_
  rintro e w3 ⟨v3, rfl, ht, hB⟩
  have HT := Lib.hid ht
  replace HW := Lib.hid (HW.out.trans (hB.mono HW.out.size)); clear hB HG ht
  have HG := Lib.hid (whGet_any (bytes34 ++ ⟨#[120]⟩) w3 (by decide))
  rw [getx34] at HG
  have hsz : ¬ 9223372036854775807 < bytes34.size + 1 := by decide
  go_wp2_with fail
  refine HG.out.mono ?_
  rintro e w4 ⟨v4, rfl, -, hB⟩
  replace HT := Lib.hid (TabAt.keep' hB HT.out)
  replace HW := Lib.hid (HW.out.trans (hB.mono HW.out.size)); clear hB HG hsz
  go_wp2_with fail
  refine (one34_any _).mono ?_
  rintro e w5 ⟨v5, rfl, ht, hB⟩
  replace HT := Lib.hid (TabAt.keep' hB HT.out)
  replace HW := Lib.hid (HW.out.trans (hB.mono HW.out.size)); clear hB
  have HF := Lib.hid (whFind_any v5 tab34 264 w5 ht (by decide))
  rw [find34] at HF; clear ht
  go_wp2_with fail
  refine HF.out.mono ?_
  rintro e w6 ⟨rfl, hB⟩
  replace HT := Lib.hid (TabAt.keep' hB HT.out)
  replace HW := Lib.hid (HW.out.trans (hB.mono HW.out.size)); clear hB HF
  go_wp2_with fail
  refine (one34_any _).mono ?_
  rintro e w7 ⟨v7, rfl, ht, hB⟩
  replace HT := Lib.hid (TabAt.keep' hB HT.out)
  replace HW := Lib.hid (HW.out.trans (hB.mono HW.out.size)); clear hB
  have HS := Lib.hid (tabs_same HT.out ht); clear ht HT
  go_wp2_with fail
  refine HS.out.mono ?_
  rintro e w8 ⟨rfl, hB⟩
  replace HW := Lib.hid (HW.out.trans (hB.mono HW.out.size)); clear hB HS
  go_wp2_with fail
  refine (one34_any _).mono ?_
  rintro e w9 ⟨v9, rfl, ht, hB⟩
  replace HW := Lib.hid (HW.out.trans (hB.mono HW.out.size)); clear hB
  have HN := Lib.hid (whNameOf_any v9 tab34 256 w9 ht (by decide))
  rw [name34a] at HN; clear ht
  go_wp2_with fail
  refine HN.out.mono ?_
  rintro e w10 ⟨rfl, hB⟩
  replace HW := Lib.hid (HW.out.trans (hB.mono HW.out.size)); clear hB HN
  go_wp2_with fail
  refine (one34_any _).mono ?_
  rintro e w11 ⟨v11, rfl, ht, hB⟩
  replace HW := Lib.hid (HW.out.trans (hB.mono HW.out.size)); clear hB
  have HN := Lib.hid (whNameOf_any v11 tab34 264 w11 ht (by decide))
  rw [name34b] at HN; clear ht
  go_wp2_with fail
  refine HN.out.mono ?_
  rintro e w12 ⟨rfl, hB⟩
  replace HW := Lib.hid (HW.out.trans (hB.mono HW.out.size)); clear hB HN
  go_wp2_with fail
  refine (one34_any _).mono ?_
  rintro e w13 ⟨v13, rfl, ht, hB⟩
  replace HW := Lib.hid (HW.out.trans (hB.mono HW.out.size)); clear hB
  have HN := Lib.hid (whNameOf_any v13 tab34 280 w13 ht (by decide))
  rw [name34c] at HN; clear ht
  go_wp2_with fail
  refine HN.out.mono ?_
  rintro e w14 ⟨rfl, hB⟩
  replace HW := Lib.hid (HW.out.trans (hB.mono HW.out.size)); clear hB HN
  go_wp2_with fail
  refine (one34_any _).mono ?_
  rintro e w15 ⟨v15, rfl, ht, hB⟩
  replace HW := Lib.hid (HW.out.trans (hB.mono HW.out.size)); clear hB
  have HN := Lib.hid (whNamed_any v15 tab34 ⟨#[109, 97, 105, 110]⟩ w15 ht)
  rw [named34] at HN; clear ht
  go_wp2_with fail
  refine HN.out.mono ?_
  rintro e w16 ⟨_, rfl, ⟨p16, c16, -, -, rfl, -⟩, hB⟩
  replace HW := Lib.hid (HW.out.trans (hB.mono HW.out.size)); clear hB HN
  simp only [tab34, List.length_cons, List.length_nil, Nat.zero_add]
  go_wp2_with fail
  refine (one34_any _).mono ?_
  rintro e w17 ⟨v17, rfl, ht, hB⟩
  replace HW := Lib.hid (HW.out.trans (hB.mono HW.out.size)); clear hB
  have HN := Lib.hid (whMoves_any v17 (.slice none 0 0) tab34 [] w17 ht rowAt_nil)
  rw [moves34] at HN; clear ht
  go_wp2_with fail
  refine HN.out.mono ?_
  rintro e w18 ⟨_, rfl, ⟨p18, c18, -, -, rfl, -⟩, hB⟩
  replace HW := Lib.hid (HW.out.trans (hB.mono HW.out.size)); clear hB HN
  simp only [List.length_cons, List.length_nil, Nat.zero_add]
  have HN := Lib.hid (whCheck_any _ _ _ (rowAt_bad w18))
  rw [bad34] at HN
  go_wp2_with fail
  refine HN.out.mono ?_
  rintro e w19 ⟨rfl, hB⟩
  replace HW := Lib.hid ((HW.out.alloc HW.out.size _).trans (hB.mono (by have := HW.out.size; simp; omega))); clear hB HN
  simp only [errB, Bool.false_eq_true, if_false]
  go_wp2
  go_ret
  exact ⟨rfl, HW.out⟩
end Go.Proofs.YtiegjplldfodkaaDoor
