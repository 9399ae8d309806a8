/- The walk of aediculelaw35.ArchiveCodes. -/
import Derived.Test.YtboegjdkedjhcaaGreatDoorBd45
import Derived.Test.YtboegjdkedjhcaaGreatDoorBd38
import Derived.Test.YtboegjdkedjhcaaGreatDoorBd36
namespace Go.Proofs.YtboegjdkedjhcaaGreatDoor
open Go.RowKit Go.Maps
set_option maxRecDepth 100000 in
set_option maxHeartbeats 4000000 in
theorem arcCodes_any (hsort : SortOk) (a : GArc) (va : Value) (s : ByteArray) (w : World) (h : ArcIn w a va) (hbd : ObjsBd a.members) (hs : s.size ≤ 140737488355328) :
    Calls Tryz.prog 3 #[.agg #[.string a.name, va], .string s] w fun e w' => e = .returned (.bool true) ∧ Below w.heap.size w w' := by
  have HSORT := Lib.hid hsort; clear hsort
  obtain ⟨pa, ca, rfl⟩ : ∃ pa ca, va = .slice pa a.members.length ca := by obtain ⟨⟨p1, c1, _, _, rfl, -⟩, -⟩ := h; exact ⟨_, _, rfl⟩
  have HX : Hid (ArcBox (w.alloc (.cells #[.string a.name, .slice pa a.members.length ca] 24)) w.heap.size a (.slice pa a.members.length ca)) := ⟨heap_alloc_new w _, h.keep (alloc_old w _)⟩
  have HB : Hid (Below w.heap.size w (w.alloc (.cells #[.string a.name, .slice pa a.members.length ca] 24))) := alloc_old w _
  have HBD := Lib.hid hbd
  clear h hbd
  go_enter Tryz.func3, Tryz.ntmps3
  go_upto_region 1 with fail
  generalize w.alloc (.cells #[.string a.name, .slice pa a.members.length ca] 24) = w1 at HX HB ⊢
  obtain ⟨tb, htb⟩ : ∃ tb, w.heap.size = tb := ⟨_, rfl⟩
  rw [htb] at HX
  try rw [htb]
  clear htb
  have a0 : w1.cell? ⟨tb, 0, none⟩ = some (.string a.name) := Lib.cell_of_heap HX.out.1 0
  have a1 : w1.cell? ⟨tb, 1, none⟩ = some (.slice pa a.members.length ca) := Lib.cell_of_heap HX.out.1 1
  have HLA := Lib.hid (large_one35 HX.out.2 w1.heap.size rfl)
  go_wp2_with fail
  refine HLA.out.mono ?_
  rintro e w2 ⟨b, rfl, hsh, hB⟩
  replace HX := Lib.hid (HX.out.keep hB); replace HB := Lib.hid (HB.out.trans (hB.mono HB.out.size))
  clear hB HLA a0 a1
  have HAL : Hid (∀ W, Calls Tryz.prog 8 #[] W fun e w' => e = .returned (.bool true) ∧ Below W.heap.size W w') := fun W => alive35_any HSORT.out W
  by_cases hg : b = true ∨ 32768 < s.size
  · rcases hg with rfl | hg
    · clear hsh
      go_wp2_with fail
      refine (HAL.out _).mono ?_
      rintro e w3 ⟨rfl, hB⟩
      have HB3 := Lib.hid (HB.out.trans (hB.mono HB.out.size))
      clear hB
      go_wp2
      go_ret
      exact ⟨rfl, HB3.out⟩
    · have hg1 : (32768 : Int) < (s.size : Int) := by omega
      cases b with
      | true =>
        clear hsh
        go_wp2_with fail
        refine (HAL.out _).mono ?_
        rintro e w3 ⟨rfl, hB⟩
        have HB3 := Lib.hid (HB.out.trans (hB.mono HB.out.size))
        clear hB
        go_wp2
        go_ret
        exact ⟨rfl, HB3.out⟩
      | false =>
        clear hsh
        go_wp2_with fail
        refine (HAL.out _).mono ?_
        rintro e w3 ⟨rfl, hB⟩
        have HB3 := Lib.hid (HB.out.trans (hB.mono HB.out.size))
        clear hB
        go_wp2
        go_ret
        exact ⟨rfl, HB3.out⟩
  · have hb : b = false := by cases b with | true => exact absurd (.inl rfl) hg | false => rfl
    subst hb
    have hg1 : ¬ (32768 : Int) < (s.size : Int) := fun h => hg (.inr (by omega))
    have hss : s.size ≤ 32768 := by omega
    have HSH := Lib.hid (hsh rfl)
    clear hg hsh
    have a0 : w2.cell? ⟨tb, 0, none⟩ = some (.string a.name) := Lib.cell_of_heap HX.out.1 0
    have a1 : w2.cell? ⟨tb, 1, none⟩ = some (.slice pa a.members.length ca) := Lib.cell_of_heap HX.out.1 1
    have HME := Lib.hid (arcMayR_any a (.slice pa a.members.length ca))
    have HAO : Hid (arcOk a = arcOkR a) := arcOk_same fun o ho => short_same (HSH.out o ho)
    have HCO := Lib.hid (copies1_any a _ _ (arc_row HX.out.2) HBD.out)
    go_wp2_with fail
    refine HCO.out.mono ?_
    rintro e w3 ⟨g, cap, vs, rfl, ⟨hg0, hg1, hg2, hin⟩, hB⟩
    obtain ⟨po, co, rfl⟩ : ∃ pa ca, vs = .slice pa a.members.length ca := by obtain ⟨⟨p1, c1, _, _, rfl, -⟩, -⟩ := hin; exact ⟨_, _, rfl⟩
    have hB1 := (alloc_old w2 (.cells #[.string a.name, .slice pa a.members.length ca] 24)).trans (hB.mono (by simp))
    have hB2 := alloc_old w3 (.cells #[.string a.name, .slice po a.members.length co] 24)
    have hB3 := hB1.trans (hB2.mono hB1.size)
    have HO : Hid (ArcBox (w3.alloc (.cells #[.string a.name, .slice po a.members.length co] 24)) w3.heap.size a (.slice po a.members.length co)) := ⟨heap_alloc_new w3 _, hin.keep hB2⟩
    replace HX := Lib.hid (HX.out.keep hB3); replace HB := Lib.hid (HB.out.trans (hB3.mono HB.out.size))
    clear hB hB1 hB2 hB3 hin HCO a0 a1
    go_upto_region 4 with fail
    clear hg0 hg1 hg2
    generalize w3.alloc (.cells #[.string a.name, .slice po a.members.length co] 24) = w4 at HX HB HO ⊢
    generalize w3.heap.size = ob at HO ⊢
    have b0 : w4.cell? ⟨ob, 0, none⟩ = some (.string a.name) := Lib.cell_of_heap HO.out.1 0
    have b1 : w4.cell? ⟨ob, 1, none⟩ = some (.slice po a.members.length co) := Lib.cell_of_heap HO.out.1 1
    have HCK := Lib.hid (arcCheck_any a (.slice po a.members.length co) w4 HO.out.2)
    go_wp2_with fail
    refine HCK.out.mono ?_
    rintro e w5 ⟨rfl, hB⟩
    replace HX := Lib.hid (HX.out.keep hB); replace HO := Lib.hid (HO.out.keep hB); replace HB := Lib.hid (HB.out.trans (hB.mono HB.out.size))
    clear hB HCK b0 b1
    have b0 : w5.cell? ⟨ob, 0, none⟩ = some (.string a.name) := Lib.cell_of_heap HO.out.1 0
    have b1 : w5.cell? ⟨ob, 1, none⟩ = some (.slice po a.members.length co) := Lib.cell_of_heap HO.out.1 1
    have HPU := Lib.hid (arcPut_any a (.slice po a.members.length co) w5 HO.out.2 fun hm => arc_small HSH.out hm)
    go_wp2_with fail
    refine HPU.out.mono ?_
    rintro e w6 ⟨rfl, hB⟩
    replace HX := Lib.hid (HX.out.keep hB); replace HO := Lib.hid (HO.out.keep hB); replace HB := Lib.hid (HB.out.trans (hB.mono HB.out.size))
    clear hB HPU b0 b1
    have a0 : w6.cell? ⟨tb, 0, none⟩ = some (.string a.name) := Lib.cell_of_heap HX.out.1 0
    have a1 : w6.cell? ⟨tb, 1, none⟩ = some (.slice pa a.members.length ca) := Lib.cell_of_heap HX.out.1 1
    have b0 : w6.cell? ⟨ob, 0, none⟩ = some (.string a.name) := Lib.cell_of_heap HO.out.1 0
    have b1 : w6.cell? ⟨ob, 1, none⟩ = some (.slice po a.members.length co) := Lib.cell_of_heap HO.out.1 1
    have HSM := Lib.hid (same35_any a _ _ w6 HO.out.2 HX.out.2)
    go_wp2_with fail
    refine HSM.out.mono ?_
    rintro e w7 ⟨rfl, hB⟩
    replace HX := Lib.hid (HX.out.keep hB); replace HB := Lib.hid (HB.out.trans (hB.mono HB.out.size))
    clear hB HSM a0 a1 b0 b1 HO
    have a0 : w7.cell? ⟨tb, 0, none⟩ = some (.string a.name) := Lib.cell_of_heap HX.out.1 0
    have a1 : w7.cell? ⟨tb, 1, none⟩ = some (.slice pa a.members.length ca) := Lib.cell_of_heap HX.out.1 1
    have HM1 := HME.out w7 HX.out.2
    rw [← HAO.out] at HM1
    replace HM1 := Lib.hid HM1
    by_cases hok : arcOk a = true
    case' pos =>
      rw [show arcPutV a = (bsOf (encArc a), 0) by simp [arcPutV, hok], hok]
      rw [hok] at HM1
      have HRP := Lib.hid (fun W hin => refArcPut_ok a (.slice pa a.members.length ca) W hin hok (arc_small HSH.out hok))
      simp only [errB, if_true]
      generalize bsOf (encArc a) = E at HRP ⊢
      go_wp2_with fail
      refine HM1.out.mono ?_
      rintro e w8 ⟨rfl, hB⟩
      replace HX := Lib.hid (HX.out.keep hB); replace HB := Lib.hid (HB.out.trans (hB.mono HB.out.size))
      clear hB HM1 a0 a1
      have a0 : w8.cell? ⟨tb, 0, none⟩ = some (.string a.name) := Lib.cell_of_heap HX.out.1 0
      have a1 : w8.cell? ⟨tb, 1, none⟩ = some (.slice pa a.members.length ca) := Lib.cell_of_heap HX.out.1 1
      have HR1 := Lib.hid (HRP.out w8 HX.out.2)
      go_wp2_with fail
      refine HR1.out.mono ?_
      rintro e w9 ⟨rfl, hB⟩
      replace HX := Lib.hid (HX.out.keep hB); replace HB := Lib.hid (HB.out.trans (hB.mono HB.out.size))
      clear hB HR1 a0 a1 HRP
      have a0 : w9.cell? ⟨tb, 0, none⟩ = some (.string a.name) := Lib.cell_of_heap HX.out.1 0
      have a1 : w9.cell? ⟨tb, 1, none⟩ = some (.slice pa a.members.length ca) := Lib.cell_of_heap HX.out.1 1
      have HM2 := HME.out w9 HX.out.2
      rw [← HAO.out, hok] at HM2
      replace HM2 := Lib.hid HM2
      clear hok
      go_wp2_with fail
      refine HM2.out.mono ?_
      rintro e w10 ⟨rfl, hB⟩
      replace HB := Lib.hid (HB.out.trans (hB.mono HB.out.size))
      clear hB HM2 a0 a1 HX
      obtain ⟨wk, hwk⟩ : ∃ wk : World, wk = w10 := ⟨_, rfl⟩
      subst hwk
      go_upto_region 10 with fail
    case' neg =>
      have hok' : arcOk a = false := by simpa using hok
      rw [show arcPutV a = (⟨#[]⟩, 2) by simp [arcPutV, hok'], hok']
      rw [hok'] at HM1
      simp only [errB, Bool.false_eq_true, if_false]
      go_wp2_with fail
      refine HM1.out.mono ?_
      rintro e w8 ⟨rfl, hB⟩
      replace HX := Lib.hid (HX.out.keep hB); replace HB := Lib.hid (HB.out.trans (hB.mono HB.out.size))
      clear hB HM1 a0 a1
      have a0 : w8.cell? ⟨tb, 0, none⟩ = some (.string a.name) := Lib.cell_of_heap HX.out.1 0
      have a1 : w8.cell? ⟨tb, 1, none⟩ = some (.slice pa a.members.length ca) := Lib.cell_of_heap HX.out.1 1
      have HM2 := HME.out w8 HX.out.2
      rw [← HAO.out, hok'] at HM2
      replace HM2 := Lib.hid HM2
      clear hok hok'
      go_wp2_with fail
      refine HM2.out.mono ?_
      rintro e w10 ⟨rfl, hB⟩
      replace HB := Lib.hid (HB.out.trans (hB.mono HB.out.size))
      clear hB HM2 a0 a1 HX
      obtain ⟨wk, hwk⟩ : ∃ wk : World, wk = w10 := ⟨_, rfl⟩
      subst hwk
      go_upto_region 10 with fail
    all_goals
      clear HSH HME HAO
      have HG1 := arcGet_any s wk (by omega)
      have HG2 := fun W => ref35Get_any s W (by omega)
      obtain ⟨⟨x, c⟩, hv⟩ : ∃ r, arcGetV s = r := ⟨_, rfl⟩
      rw [hv] at HG1 HG2
      replace HG1 := Lib.hid HG1
      replace HG2 := Lib.hid HG2
      clear hv
      go_wp2_with fail
      refine HG1.out.mono ?_
      rintro e w11 ⟨vx, rfl, ⟨px, kx, rfl⟩, hin, hB⟩
      replace HB := Lib.hid (HB.out.trans (hB.mono HB.out.size))
      have hB2 := alloc_old w11 (.cells #[.string x.name, .slice px x.members.length kx] 24)
      have HY : Hid (ArcBox (w11.alloc (.cells #[.string x.name, .slice px x.members.length kx] 24)) w11.heap.size x (.slice px x.members.length kx)) := ⟨heap_alloc_new w11 _, hin.keep hB2⟩
      replace HB := Lib.hid (HB.out.trans (hB2.mono HB.out.size))
      clear hB hB2 hin HG1
      go_upto_region 11 with fail
      generalize w11.alloc (.cells #[.string x.name, .slice px x.members.length kx] 24) = w12 at HB HY ⊢
      generalize w11.heap.size = xb at HY ⊢
      go_wp2_with fail
      refine (HG2.out w12).mono ?_
      rintro e w13 ⟨vy, rfl, ⟨py, ky, rfl⟩, hin, hB⟩
      replace HB := Lib.hid (HB.out.trans (hB.mono HB.out.size)); replace HY := Lib.hid (HY.out.keep hB)
      have hB2 := alloc_old w13 (.cells #[.string x.name, .slice py x.members.length ky] 24)
      have HZ : Hid (ArcBox (w13.alloc (.cells #[.string x.name, .slice py x.members.length ky] 24)) w13.heap.size x (.slice py x.members.length ky)) := ⟨heap_alloc_new w13 _, hin.keep hB2⟩
      replace HB := Lib.hid (HB.out.trans (hB2.mono HB.out.size)); replace HY := Lib.hid (HY.out.keep hB2)
      clear hB hB2 hin HG2
      go_upto_region 12 with fail
      generalize w13.alloc (.cells #[.string x.name, .slice py x.members.length ky] 24) = w14 at HB HY HZ ⊢
      generalize w13.heap.size = yb at HZ ⊢
      have a0 : w14.cell? ⟨xb, 0, none⟩ = some (.string x.name) := Lib.cell_of_heap HY.out.1 0
      have a1 : w14.cell? ⟨xb, 1, none⟩ = some (.slice px x.members.length kx) := Lib.cell_of_heap HY.out.1 1
      have b0 : w14.cell? ⟨yb, 0, none⟩ = some (.string x.name) := Lib.cell_of_heap HZ.out.1 0
      have b1 : w14.cell? ⟨yb, 1, none⟩ = some (.slice py x.members.length ky) := Lib.cell_of_heap HZ.out.1 1
      have HSM := Lib.hid (same35_any x _ _ w14 HY.out.2 HZ.out.2)
      go_wp2_with fail
      refine HSM.out.mono ?_
      rintro e w15 ⟨rfl, hB⟩
      replace HB := Lib.hid (HB.out.trans (hB.mono HB.out.size))
      clear hB HSM HY HZ a0 a1 b0 b1
      go_wp2_with fail
      refine (HAL.out _).mono ?_
      rintro e w16 ⟨rfl, hB⟩
      replace HB := Lib.hid (HB.out.trans (hB.mono HB.out.size))
      clear hB
      go_wp2
      go_ret
      exact ⟨rfl, HB.out⟩
end Go.Proofs.YtboegjdkedjhcaaGreatDoor
