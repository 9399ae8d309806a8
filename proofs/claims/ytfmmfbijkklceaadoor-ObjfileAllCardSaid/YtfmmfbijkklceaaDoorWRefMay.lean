/- The walks of aediculeref08.May and aediculeref12.May. -/
import Derived.Test.YtfmmfbijkklceaaDoorWRefSym
import Derived.Test.YtfmmfbijkklceaaDoorPlain
import Derived.Deep.QuietTactic
import Derived.BigQuiet
namespace Go.Proofs.YtfmmfbijkklceaaDoor
open Go.RowKit
theorem toList_beq' (a b : ByteArray) : (a.toList == b.toList) = (a.data.toList == b.data.toList) := by rw [ByteArray.toList_eq, ByteArray.toList_eq]
theorem hasName_take {l : List GSym} {k : Nat} {x : GSym} {n : List UInt8} (h : k < l.length) (hx : l[k] = x) : hasName (l.take (k + 1)) n = (hasName (l.take k) n || x.name.data.toList == n) := by
  rw [List.take_succ_eq_append_getElem h, hx, hasName_snoc]
theorem hasName_hit {l : List GSym} {i k : Nat} {x : GSym} {n : List UInt8} (hk : k < i) (h : k < l.length) (hx : l[k] = x) (hn : x.name.data.toList = n) : hasName (l.take i) n = true := by
  unfold hasName
  rw [List.any_eq_true]
  refine ⟨x, ?_, by simp [hn]⟩
  rw [List.mem_take_iff_getElem]
  exact ⟨k, by omega, hx⟩
set_option maxRecDepth 100000 in
set_option maxHeartbeats 2000000 in
theorem refMay_any (x : GObj) (vs : Value) (w : World) (h : ObjIn w x vs) :
    Calls Tryd.prog 11 #[.agg #[.string x.name, vs]] w fun e w' => e = .returned (.bool (mayOk x)) ∧ Below w.heap.size w w' := by
  obtain ⟨hr, hnm⟩ := h
  obtain ⟨p, cap, b, o, rfl, hcap, hmax, hp, hc⟩ := hr
  have HC := Lib.hid hc; clear hc
  have HP := Lib.hid hp; clear hp
  go_enter Tryd.func11, Tryd.ntmps11
  go_wp2
  go_loopw [3] (fun v3 wr => ∃ i : Nat, i ≤ x.syms.length ∧ v3 = .int .i64 i ∧ symsGoR (x.syms.take i) (x.syms.drop i) = symsGoR [] x.syms ∧ Below (w.heap.size + 1) (w.alloc (.cells #[.string x.name, .slice p x.syms.length cap] 24)) wr) (fun v3 _ => x.syms.length - (intOf v3).toNat)
  case atStart => exact ⟨0, Nat.zero_le _, rfl, rfl, Below.refl _ _⟩
  case round =>
    obtain ⟨i, hi, rfl, hgo, hbel⟩ := hrel
    have HGO := Lib.hid hgo; clear hgo
    have c0 : wr.cell? ⟨w.heap.size, 0, none⟩ = some (.string x.name) := by rw [hbel.cell (by simp)]; simp [go_sem]
    have c1 : wr.cell? ⟨w.heap.size, 1, none⟩ = some (.slice p x.syms.length cap) := by rw [hbel.cell (by simp)]; simp [go_sem]
    have hsz1 : w.heap.size < wr.heap.size := by have := hbel.size; simp at this; omega
    have HBW : Hid (Below w.heap.size w wr) := (alloc_old w _).trans (hbel.mono (by omega))
    have HB := Lib.hid hbel; clear hbel
    by_cases hlt : i < x.syms.length
    · obtain rfl := HP.out (by omega)
      obtain ⟨vr, vn, g0, g1, g2, g3, g4, g5, g6, g7, hsin⟩ := symR_keeps _ _ _ _ _ HBW.out (HC.out i hlt)
      have N0 := Lib.hid (HC.out i hlt)
      have HCON := Lib.hid (refSym_any x.syms[i] vr vn wr hsin); clear hsin
      generalize hx : x.syms[i] = y at g1 g2 g3 g4 g5 g6 g7 HCON N0
      obtain ⟨yn, yb, yk, ys, yy, yr, yt⟩ := y
      simp only [] at g1 g2 g3 g4 g5 g6 g7 HCON
      have HX := Lib.hid hx; clear hx
      go_wp2_with (go_at_call 22; refine HCON.out.mono ?_; rintro e w1 ⟨rfl, hB1⟩; have HB1 := Lib.hid hB1; clear hB1)
      · have hbad : (!symOk ⟨yn, yb, yk, ys, yy, yr, yt⟩) = true := by assumption
        go_ret
        exact ⟨ret_bool (mayOk_no hlt HX.out HGO.out (.inr (by simpa using hbad))), HBW.out.trans (HB1.out.mono HBW.out.size)⟩
      · have hok : (!symOk ⟨yn, yb, yk, ys, yy, yr, yt⟩) = false := by assumption
        have HOK : Hid (symOk ⟨yn, yb, yk, ys, yy, yr, yt⟩ = true) := by simpa [Hid] using hok
        have HB2 := Lib.hid (HB.out.trans (HB1.out.mono (by omega)))
        clear c0 c1 g0 g1 g2 g3 g4 g5 g6 g7 HBW HB
        obtain ⟨wo, rfl⟩ : ∃ wo : World, wo = wr := ⟨_, rfl⟩
        go_loopw [4] (fun v4 wr => ∃ k : Nat, k ≤ i ∧ v4 = .int .i64 k ∧ hasName (x.syms.take k) yn.data.toList = false ∧ Below (w.heap.size + 1) (w.alloc (.cells #[.string x.name, .slice (some ⟨b, o, none⟩) x.syms.length cap] 24)) wr) (fun v4 _ => i - (intOf v4).toNat)
        case atStart => exact ⟨0, Nat.zero_le _, rfl, by simp [hasName], HB2.out⟩
        case round =>
          obtain ⟨k, hk, rfl, hno, hbel⟩ := hrel
          have HNO := Lib.hid hno; clear hno
          have c1 : wr.cell? ⟨w.heap.size, 1, none⟩ = some (.slice (some ⟨b, o, none⟩) x.syms.length cap) := by rw [hbel.cell (by simp)]; simp [go_sem]
          have hsz2 : w.heap.size < wr.heap.size := by have := hbel.size; simp at this; omega
          have HBW : Hid (Below w.heap.size w wr) := (alloc_old w _).trans (hbel.mono (by omega))
          have HB := Lib.hid hbel; clear hbel
          by_cases hki : k < i
          · obtain ⟨vr2, vn2, q0, q1, -⟩ := symR_keeps _ _ _ _ _ HBW.out (HC.out k (by omega))
            obtain ⟨vr3, vn3, g0, g1, -⟩ := symR_keeps _ _ _ _ _ HBW.out N0.out
            simp only [] at g1
            generalize hz : x.syms[k] = z at q1
            obtain ⟨zn, zb, zk, zs, zy, zr, zt⟩ := z
            simp only [] at q1
            have HZ := Lib.hid hz; clear hz
            have e1 : (0 : Int) ≤ (k : Int) := by omega
            have e2 : (k : Int) < (x.syms.length : Int) := by omega
            have e3 : (0 : Int) ≤ (i : Int) := by omega
            have e4 : (i : Int) < (x.syms.length : Int) := by omega
            by_cases hnn : zn.data.toList = yn.data.toList
            · have bq : (zn.toList == yn.toList) = true := by rw [toList_beq', hnn]; simp
              have HNN := Lib.hid hnn; clear hnn
              go_wp2
              go_quiet (fail)
              go_wp2
              go_ret
              exact ⟨ret_bool (mayOk_no hlt HX.out HGO.out (.inl (hasName_hit hki (by omega) HZ.out HNN.out))), below_drewN HBW.out _⟩
            · have bq : (zn.toList == yn.toList) = false := by rw [toList_beq', beq_eq_false_iff_ne]; exact hnn
              have HNN := Lib.hid hnn; clear hnn
              go_wp2
              go_quiet (fail)
              go_wp2
              go_roundw
              case rel => exact ⟨k + 1, by omega, by go_num, by rw [hasName_take (by omega) HZ.out, HNO.out]; simp only [Bool.false_or, beq_eq_false_iff_ne]; exact HNN.out, below_drewN HB.out _⟩
              case measure => simp [intOf]; omega
          · obtain rfl : k = i := by omega
            go_wp2
            go_roundw
            case rel => exact ⟨k + 1, by omega, by go_num, symsGoR_yes hlt HX.out HGO.out HNO.out HOK.out, HB.out⟩
            case measure => simp [intOf]; omega
    · go_wp2_with (go_at_call 23; refine (refName_any _ _ (by unfold maxLen; omega)).mono ?_; rintro e w' ⟨rfl, rfl⟩)
      all_goals
        go_ret
        exact ⟨ret_bool (by rw [mayOk_end hlt HGO.out]; go_light; simp_all; try omega), HBW.out⟩
end Go.Proofs.YtfmmfbijkklceaaDoor
