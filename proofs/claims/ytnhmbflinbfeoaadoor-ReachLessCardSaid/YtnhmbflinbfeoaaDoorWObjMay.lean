/- The walks of obj.object's may and obj.Check. -/
import Derived.Test.YtnhmbflinbfeoaaDoorWSymMay
import Derived.Test.YtnhmbflinbfeoaaDoorMapFn
namespace Go.Proofs.YtnhmbflinbfeoaaDoor
open Go.RowKit Go.Maps Go.WideMaps
theorem keyedS : Keyed Tryd.prog 9 := string_keyed Tryd.underlying9
theorem zeroInt (w : World) : (zeroValue 3).run Tryd.prog w = .ok (.int .i64 0) w := by kernel_rfl
set_option maxHeartbeats 1000000 in
theorem objMay_any (x : GObj) (vs : Value) (w : World) (h : ObjIn w x vs) :
    Calls Tryd.prog 53 #[.agg #[.string x.name, vs]] w fun e w' => e = .returned (.bool (mayP x)) ∧ Below w.heap.size w w' := by
  obtain ⟨hr, hnm⟩ := h
  obtain ⟨p, cap, b, o, rfl, hcap, hmax, hp, hc⟩ := hr
  have HC := Lib.hid hc; clear hc
  have HP := Lib.hid hp; clear hp
  have hmm := @run_makeMap Tryd.prog
  go_enter Tryd.func53, Tryd.ntmps53
  go_wp2
  clear hmm
  go_loopw [11] (fun i wr => ∃ k : Nat, k ≤ x.syms.length ∧ i = .int .i64 k ∧ symsGo (x.syms.take k) (x.syms.drop k) = symsGo [] x.syms ∧ MapFn Tryd.prog 9 wr (w.heap.size + 1) k (seenFn (x.syms.take k)) ∧ Below (w.heap.size + 1) (w.alloc (.cells #[.string x.name, .slice p x.syms.length cap] 111)) wr) (fun i _ => x.syms.length - (intOf i).toNat)
  case atStart =>
    refine ⟨0, Nat.zero_le _, rfl, rfl, ?_, (Below.refl _ _).alloc (by simp) _⟩
    have := MapFn.made Tryd.prog 9 (w.alloc (.cells #[.string x.name, .slice p x.syms.length cap] 111))
    rw [seenFn_nil] at this
    simpa using this
  case round =>
    obtain ⟨k, hk, rfl, hgo, hmap, hbel⟩ := hrel
    have HGO := Lib.hid hgo; clear hgo
    have c0 : wr.cell? ⟨w.heap.size, 0, none⟩ = some (.string x.name) := by rw [hbel.cell (by simp)]; simp [go_sem]
    have c1 : wr.cell? ⟨w.heap.size, 1, none⟩ = some (.slice p x.syms.length cap) := by rw [hbel.cell (by simp)]; simp [go_sem]
    have hsz : w.heap.size + 1 < wr.heap.size := hmap.lt
    have hsz1 : w.heap.size < wr.heap.size := by omega
    have HBW : Hid (Below w.heap.size w wr) := (alloc_old w _).trans (hbel.mono (by omega))
    have HB := Lib.hid hbel; clear hbel
    by_cases hlt : k < x.syms.length
    · obtain rfl := HP.out (by omega)
      obtain ⟨vr, vn, g0, g1, g2, g3, g4, g5, g6, g7, hsin⟩ := symR_keeps _ _ _ _ _ HBW.out (HC.out k hlt)
      obtain ⟨p1, q1, p2, q2, rfl, rfl⟩ := hsin.shape
      have hns : x.syms[k].name.size ≤ maxLen := by have := hsin.2.2.2.2.2.1; unfold maxLen; omega
      generalize hx : x.syms[k] = y at *
      obtain ⟨yn, yb, yk, ys, yy, yr, yt⟩ := y
      simp only [] at *
      have HX := Lib.hid hx; clear hx
      have SIN := Lib.hid (hsin.keep (alloc_old wr (.cells #[.string yn, .int .u8 yb, .int .u8 yk, .int .u32 ys, .string yy, .slice p1 yr.length q1, .slice p2 yt.length q2] 46))); clear hsin
      have HM := Lib.hid (hmap.alloc (.cells #[.string yn, .int .u8 yb, .int .u8 yk, .int .u32 ys, .string yy, .slice p1 yr.length q1, .slice p2 yt.length q2] 46)); clear hmap
      have hns' : yn.size ≤ 9223372036854775807 := hns
      by_cases hseen : hasName (x.syms.take k) yn.data.toList = true
      · have HV := Lib.hid (seenFn_yes hseen)
        have HS := Lib.hid hseen; clear hseen
        go_wp2_with (at_lookup; refine wpList_look _ rfl _ _ 91 rfl 9 3 keyedS Tryd.underlying91 Tryd.underlying9 (zeroInt _) rfl HM.out _ rfl hns' HV.out ?_)
        go_ret
        exact ⟨ret_bool (mayP_no hlt HX.out HGO.out (.inl HS.out)), HBW.out.alloc (by omega) _⟩
      · have hseen' : hasName (x.syms.take k) yn.data.toList = false := by simpa using hseen
        have HV := Lib.hid (seenFn_no hseen')
        have HS := Lib.hid hseen'; clear hseen' hseen
        have HB1 : Hid (Below (w.heap.size + 1) wr (wr.alloc (.cells #[.string yn, .int .u8 yb, .int .u8 yk, .int .u32 ys, .string yy, .slice p1 yr.length q1, .slice p2 yt.length q2] 46))) := (Below.refl _ _).alloc (by omega) _
        go_wp2_with (first | (at_lookup; refine wpList_look _ rfl _ _ 91 rfl 9 3 keyedS Tryd.underlying91 Tryd.underlying9 (zeroInt _) rfl HM.out _ rfl hns' HV.out ?_) | (go_at_call 59; refine (symMay_any ⟨yn, yb, yk, ys, yy, yr, yt⟩ _ _ _ SIN.out).mono ?_; rintro e w1 ⟨rfl, hB⟩; obtain ⟨hc, hf⟩ := bcell hB; have hz : wr.heap.size < w1.heap.size := (by have := hB.size; (try simp at this); omega); replace HM : Hid (MapFn Tryd.prog 9 w1 (w.heap.size + 1) k (seenFn (x.syms.take k))) := HM.out.below hB (by simp; omega); replace HB1 : Hid (Below (w.heap.size + 1) wr w1) := HB1.out.trans (hB.mono (by simp; omega)); clear hB) | (at_mapUpdate; refine wpList_put _ rfl _ _ _ 91 rfl 9 3 keyedS Tryd.underlying91 Tryd.underlying9 rfl HM.out (by unfold maxLen; omega) yn (.int .i64 1) rfl rfl hns' ?_; intro w2 hM2 hg2; have HM2 := Lib.hid hM2; have HG2 := Lib.hid hg2; clear hM2 hg2))
        · have hbad : (!symOkP ⟨yn, yb, yk, ys, yy, yr, yt⟩) = true := by assumption
          go_ret
          exact ⟨ret_bool (mayP_no hlt HX.out HGO.out (.inr (by simpa using hbad))), HBW.out.trans (HB1.out.mono (by omega))⟩
        · have hok : (!symOkP ⟨yn, yb, yk, ys, yy, yr, yt⟩) = false := by assumption
          have HM3 : Hid (MapFn Tryd.prog 9 w2 (w.heap.size + 1) (k + 1) (seenFn (x.syms.take (k + 1)))) := (seenFn_snoc hlt HX.out) ▸ HM2.out
          go_roundw
          case rel => exact ⟨k + 1, by omega, by go_num, symsGo_yes hlt HX.out HGO.out HS.out (by simpa using hok), HM3.out, HB.out.trans (HB1.out.grown HG2.out (by omega) (fun j e => by simp at e; omega))⟩
          case measure => simp [intOf]; omega
    · go_wp2_with (go_at_call 60; refine (objName_any _ _ hnm).mono ?_; rintro e w1 ⟨rfl, hB⟩; obtain ⟨hc, hf⟩ := bcell hB)
      all_goals
        go_ret
        exact ⟨ret_bool (by rw [mayP_end hlt HGO.out]; go_light; simp_all; try omega), HBW.out.trans (hB.mono HBW.out.size)⟩
set_option maxHeartbeats 400000 in
theorem objCheck_any (x : GObj) (vs : Value) (w : World) (h : ObjIn w x vs) :
    Calls Tryd.prog 37 #[.agg #[.string x.name, vs]] w fun e w' => e = .returned (.int .i64 (errB (mayP x))) ∧ Below w.heap.size w w' := by
  have HCON := Lib.hid (objMay_any x vs _ (h.keep (alloc_old w (.cells #[.string x.name, vs] 41)))); clear h
  go_enter Tryd.func37, Tryd.ntmps37
  go_wp2_with (first | (go_at_call 53; refine HCON.out.mono ?_; rintro e w1 ⟨rfl, hB⟩) | (go_at_call 52; refine (told_any _ _).mono ?_; rintro e w1 ⟨rfl, rfl⟩))
  go_ret
  exact ⟨rfl, (alloc_old w _).trans (hB.mono (by simp))⟩
end Go.Proofs.YtnhmbflinbfeoaaDoor
