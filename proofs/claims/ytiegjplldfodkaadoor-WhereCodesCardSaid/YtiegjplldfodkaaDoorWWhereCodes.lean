/- The walk of aediculelaw34.WhereCodes. -/
import Derived.Test.YtiegjplldfodkaaDoorWAlive34
import Derived.Test.YtiegjplldfodkaaDoorWLarge34
import Derived.Test.YtiegjplldfodkaaDoorWRefTabPut
import Derived.Test.YtiegjplldfodkaaDoorWRefTabGet
import Derived.Test.YtiegjplldfodkaaDoorWRefTabMay
namespace Go.Proofs.YtiegjplldfodkaaDoor
open Go.RowKit Go.Maps
set_option maxRecDepth 100000 in
set_option maxHeartbeats 2000000 in
theorem whereCodes_any (v : Value) (t : List GTs) (s : ByteArray) (w : World) (h : TabAt w v t) :
    Calls Tryd.prog 3 #[v, .string s] w fun e w' => e = .returned (.bool true) ∧ Below w.heap.size w w' := by
  obtain ⟨p, cap, _, _, rfl, -, -, -⟩ := id h
  have HT := Lib.hid h
  have HL := Lib.hid (large34_any _ t w h)
  clear h
  unfold LargePost at HL
  go_enter Tryd.func3, Tryd.ntmps3
  go_wp2_with fail
  refine HL.out.mono ?_
  rintro e w1 ⟨b, rfl, hb, hB⟩
  replace HT := Lib.hid (TabAt.keep' hB HT.out)
  have HW := Lib.hid hB; clear hB HL
  cases b with
  | true =>
    clear hb
    go_wp2_with fail
    refine (alive34_any _).mono ?_
    rintro e w2 ⟨rfl, hB⟩
    go_wp2
    go_ret
    exact ⟨rfl, HW.out.trans (hB.mono HW.out.size)⟩
  | false =>
  have hlen := hb rfl; clear hb
  by_cases hz : 65536 < s.size
  · have d : decide ((65536 : Int) < (s.size : Int)) = true := by simp; omega
    have d' : decide (65536 < s.size) = true := by simp; omega
    clear hz
    go_wp2_with fail
    refine (alive34_any _).mono ?_
    rintro e w2 ⟨rfl, hB⟩
    go_wp2
    go_ret
    exact ⟨rfl, HW.out.trans (hB.mono HW.out.size)⟩
  have d : decide ((65536 : Int) < (s.size : Int)) = false := by simp; omega
  have d' : decide (65536 < s.size) = false := by simp; omega
  have hsz : s.size ≤ 140737488355328 := by omega
  clear hz
  go_wp2_with (at_builtin; refine wpList_copyT rfl _ _ rfl p cap t rfl rfl HT.out hlen ?_)
  intro vc w2 htc hB
  have HC := Lib.hid htc
  replace HT := Lib.hid (TabAt.keep' hB HT.out)
  replace HW := Lib.hid (HW.out.trans (hB.mono HW.out.size)); clear hB d d' htc
  have HP := Lib.hid (whPut_any vc t w2 HC.out)
  go_wp2_with fail
  refine HP.out.mono ?_
  rintro e w3 ⟨rfl, hB⟩
  replace HC := Lib.hid (TabAt.keep' hB HC.out)
  replace HT := Lib.hid (TabAt.keep' hB HT.out)
  replace HW := Lib.hid (HW.out.trans (hB.mono HW.out.size)); clear hB HP
  have HS := Lib.hid (tabs_same HC.out HT.out)
  go_wp2_with fail
  refine HS.out.mono ?_
  rintro e w4 ⟨rfl, hB⟩
  replace HT := Lib.hid (TabAt.keep' hB HT.out)
  replace HW := Lib.hid (HW.out.trans (hB.mono HW.out.size)); clear hB HS HC
  have HM := Lib.hid (refTabMay_any _ t w4 HT.out)
  rcases hok : tabOk t with _ | _
  all_goals
    have HOK := Lib.hid hok
    rw [hok] at HM
    simp only [putT, hok, if_true, if_false, Bool.false_eq_true]
    clear hok
    go_wp2_with fail
    refine HM.out.mono ?_
    rintro e w5 ⟨rfl, hB⟩
    replace HT := Lib.hid (TabAt.keep' hB HT.out)
    replace HW := Lib.hid (HW.out.trans (hB.mono HW.out.size)); clear hB HM
  have HM := Lib.hid (refTabMay_any _ t w5 HT.out)
  rw [HOK.out] at HM
  go_wp2_with fail
  refine HM.out.mono ?_
  rintro e w6 ⟨rfl, hB⟩
  replace HT := Lib.hid (TabAt.keep' hB HT.out)
  replace HW := Lib.hid (HW.out.trans (hB.mono HW.out.size)); clear hB HM
  go_upto_region 9 with fail
  rotate_left
  have HR := Lib.hid (refTabPut_ok _ t w5 HT.out HOK.out)
  generalize bsOf (encTab t) = pb at HR ⊢
  go_wp2_with fail
  refine HR.out.mono ?_
  rintro e w6 ⟨rfl, hB⟩
  replace HT := Lib.hid (TabAt.keep' hB HT.out)
  replace HW := Lib.hid (HW.out.trans (hB.mono HW.out.size)); clear hB HR
  have HM := Lib.hid (refTabMay_any _ t w6 HT.out)
  rw [HOK.out] at HM
  go_wp2_with fail
  refine HM.out.mono ?_
  rintro e w7 ⟨rfl, hB⟩
  replace HT := Lib.hid (TabAt.keep' hB HT.out)
  replace HW := Lib.hid (HW.out.trans (hB.mono HW.out.size)); clear hB HM
  go_upto_region 9 with fail
  all_goals
    clear HOK HT
    go_wp2_with fail
    refine (whGet_any s _ hsz).mono ?_
    rintro e x1 ⟨va, rfl, hta, hB⟩
    have HA := Lib.hid hta
    replace HW := Lib.hid (HW.out.trans (hB.mono HW.out.size)); clear hB hta
    go_wp2_with fail
    refine (refTabGet_any s _ hsz).mono ?_
    rintro e x2 ⟨vb, rfl, htb, hB⟩
    replace HA := Lib.hid (TabAt.keep' hB HA.out)
    replace HW := Lib.hid (HW.out.trans (hB.mono HW.out.size)); clear hB
    have HS := Lib.hid (tabs_same HA.out htb); clear htb HA
    generalize (getTV s).2 = er
    go_wp2_with fail
    refine HS.out.mono ?_
    rintro e x3 ⟨rfl, hB⟩
    replace HW := Lib.hid (HW.out.trans (hB.mono HW.out.size)); clear hB HS
    go_wp2_with fail
    refine (alive34_any _).mono ?_
    rintro e x4 ⟨rfl, hB⟩
    go_wp2
    go_ret
    exact ⟨rfl, HW.out.trans (hB.mono HW.out.size)⟩
end Go.Proofs.YtiegjplldfodkaaDoor
