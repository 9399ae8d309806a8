/- The walk of link's closed. -/
import Derived.Test.YtboegjdkedjhcaaGreatDoorBs12
import Derived.Test.YtboegjdkedjhcaaGreatDoorBs18
import Derived.Deep.RegionHeld3
import Derived.Deep.DeepCutAuto
namespace Go.Proofs.YtboegjdkedjhcaaGreatDoor
open Go.RowKit Go.Maps Go.WideMaps
def closedP (l : List GObj) (ps : List GP) (p : GP) : Bool := decide ((refsV (beginR l) l p.1 p.2).2.2 = 0) && !outB ps (refsV (beginR l) l p.1 p.2).1
def closedB (l : List GObj) (ps : List GP) (m : GP) : Bool := inG ps m && ps.all (closedP l ps)
theorem closedB_no {l : List GObj} {ps : List GP} {m : GP} {k : Nat} {x : GP} (h : k < ps.length) (hx : ps[k] = x) (hc : closedP l ps x = false) : closedB l ps m = false := by
 have : ps.all (closedP l ps) = false := by
  rw [List.all_eq_false]; exact ⟨x, by rw [← hx]; exact List.getElem_mem h, by simp [hc]⟩
 simp [closedB, this]
set_option maxRecDepth 100000 in
set_option maxHeartbeats 4000000 in
theorem closed_any (xb : Nat) (v : Value) (l : List GObj) (pv : Value) (ps : List GP) (m : GP) (w : World) (h : ObjsAt w v l) (hps : RowAt 2 PlcR w pv ps) (hx : xb < w.heap.size) (hx7 : w.cell? ⟨xb, 7, none⟩ = some v) (hx8 : w.cell? ⟨xb, 8, none⟩ = some pv) :
 Calls Tryz.prog 116 #[.pointer (some ⟨xb, 0, none⟩), .agg #[.int .i64 m.1, .int .i64 m.2]] w fun e w' => e = .returned (.bool (closedB l ps m)) ∧ Below w.heap.size w w' := by
 obtain ⟨m1, m2⟩ := m; simp only []; generalize hW : (w.alloc (.cells #[.pointer (some ⟨xb, 0, none⟩)] 201)).alloc (.cells #[.int .i64 m1, .int .i64 m2] 185) = w1; have HB1 : Hid (Below w.heap.size w w1) := by subst hW; exact (alloc_old w _).alloc (by simp) _
 have z1 : w1.heap.size = w.heap.size + 2 := by subst hW; simp
 have n0 : w1.cell? ⟨w.heap.size, 0, none⟩ = some (.pointer (some ⟨xb, 0, none⟩)) := by subst hW; simp [go_sem]
 have n1 : w1.cell? ⟨w.heap.size + 1, 0, none⟩ = some (.int .i64 m1) := by subst hW; simp [go_sem]
 have n2 : w1.cell? ⟨w.heap.size + 1, 1, none⟩ = some (.int .i64 m2) := by subst hW; simp [go_sem]
 have HO := Lib.hid (h.keep HB1.out); have HPS := Lib.hid (hps.keep plcR_keeps HB1.out); have k7 := cell_keep HB1.out hx hx7; have k8 := cell_keep HB1.out hx hx8; have hx1 : xb < w1.heap.size := by omega
 have HCON : Hid (∀ x : BW w1, Calls Tryz.prog 154 #[pv, .agg #[.int .i64 m1, .int .i64 m2]] x.u fun e w' => e = .returned (.bool (inG ps (m1, m2))) ∧ ∃ y : BW w1, w' = y.u) :=
  fun x => calls_below (containsPlc_any pv ps (m1, m2) x.u (HPS.out.keep plcR_keeps x.b))
 have HIN : Hid (inG ps (m1, m2) = inG ps (m1, m2)) := rfl; generalize hbi : inG ps (m1, m2) = bi at HCON HIN; have HBI := Lib.hid hbi; clear hbi HIN; obtain ⟨pp, cap, b, o, rfl, -⟩ := h; obtain ⟨pq, capq, bq, oq, rfl, hcq, hmq, hpq, hrq⟩ := hps; have HPQ := Lib.hid hpq; clear hpq; have HRQ := Lib.hid (HPS.out); clear HPS; clear hrq hx7 hx8; go_enter Tryz.func116, Tryz.ntmps116; go_wp2; try rw [hW]
 clear hW; have c0 := bw_cell (by omega) n0
 have c1 := bw_cell (by omega) n1
 have c2 := bw_cell (by omega) n2
 have c3 := bw_cell hx1 k7; have c4 := bw_cell hx1 k8; refine wp_region_below rfl (by kernel_rfl) ?_
 repeat (first | go_big_quiet_skip | quiet_step ((go_at_call 154; exact HCON.out _)))
 refine wpQuiet_nil ?_; rintro w4 hx4; have hB4 : Below w1.heap.size w1 w4 := bw_of hx4; clear hx4; clear c0 c1 c2 c3 c4; replace n0 := cell_keep hB4 (by omega) n0
 replace k7 := cell_keep hB4 hx1 k7; replace k8 := cell_keep hB4 hx1 k8; have hx4 : xb < w4.heap.size := size_keep hB4 hx1; have hz4 : w.heap.size < w4.heap.size := by have := hB4.size; omega
 replace HO := Lib.hid (HO.out.keep hB4); replace HRQ := Lib.hid (HRQ.out.keep plcR_keeps hB4); have HB4 : Hid (Below w.heap.size w w4) := HB1.out.trans (hB4.mono (by omega))
 clear hB4 HB1 n1 n2 z1 hx1 HCON; cases hbi : bi with
 | false =>
   simp only [Bool.not_false]; go_wp2; go_ret; exact ⟨ret_bool (by rw [closedB, HBI.out, hbi]; rfl), HB4.out⟩
 | true =>
   rw [hbi] at HBI; clear hbi; simp only [Bool.not_true]; go_wp2; generalize hW4 : w4 = w5 at *; clear hW4
   go_loopw [22] (fun i wr => ∃ k : Nat, k ≤ ps.length ∧ i = .int .i64 k ∧ (ps.take k).all (closedP l ps) = true ∧ Below w5.heap.size w5 wr) (fun i _ => ps.length - (intOf i).toNat)
   case atStart => exact ⟨0, Nat.zero_le _, rfl, rfl, Below.refl _ _⟩
   case round =>
    obtain ⟨k, hk, rfl, hall, hbel⟩ := hrel; have HA := Lib.hid hall; clear hall; have HB := Lib.hid hbel; clear hbel
    by_cases hlt : k < ps.length
    ·obtain rfl := HPQ.out (by omega)
     obtain ⟨p', cap', b', o', he, -, -, hp', hc'⟩ := HRQ.out; cases he; cases hp' (by omega)
     obtain ⟨g0, g1, g2⟩ := plcR_keeps _ _ _ _ _ HB.out (hc' k hlt); have d0 := cell_keep HB.out hz4 n0; have d7 := cell_keep HB.out hx4 k7; have d8 := cell_keep HB.out hx4 k8; have hx5 : xb < wr.heap.size := size_keep HB.out hx4; have hz5 : w.heap.size < wr.heap.size := size_keep HB.out hz4; generalize hxk : ps[k] = x at g1 g2; obtain ⟨x1, x2⟩ := x; simp only [] at g1 g2; have HX := Lib.hid hxk; clear hxk; have HOR := Lib.hid (HO.out.keep HB.out); have HPR := Lib.hid (HRQ.out.keep plcR_keeps HB.out); have hq : Hid (closedP l ps (x1, x2) = (decide ((refsV (beginR l) l x1 x2).2.2 = 0) && !outB ps (refsV (beginR l) l x1 x2).1)) := rfl; generalize hrv : refsV (beginR l) l x1 x2 = rv at hq; obtain ⟨rl, rn, rc⟩ := rv
     have HCON : Hid (∀ W, Below wr.heap.size wr W → Calls Tryz.prog 147 #[.slice pp l.length cap, .agg #[.int .i64 x1, .int .i64 x2]] W (RefsPost W rl rn rc)) := fun W hB => by
      have := refs_any (.slice pp l.length cap) l x1 x2 W (HOR.out.keep hB); rw [hrv] at this; exact this
     clear hrv; simp only [] at hq; have hne : ¬ wr.heap.size = w.heap.size := by omega
     have hne2 : ¬ wr.heap.size = xb := by omega
     go_wp2
     go_cut [7, 9] (fun v7 v9 wx => v9 = .int .i64 rc ∧ RowAt 2 PlaceR wx v7 rl ∧ Below wr.heap.size wr wx)
     case first =>
      clear n0 k7 k8 HO HB4 HA HB HX HRQ hc' HPR HBI d8 hq
      go_region_with ((go_at_call 147; refine (HCON.out _ (by go_grown)).mono ?_; rintro e w' ⟨vo, rfl, hrow, hB⟩))
      all_goals (go_wp2_with fail)
      all_goals go_meet
      all_goals exact ⟨rfl, hrow, ((alloc_old wr _).drew.trans (hB.mono (by simp)))⟩
     case rest =>
      obtain ⟨rfl, hrow, hBc⟩ := hcut; replace d0 := cell_keep hBc hz5 d0; replace d8 := cell_keep hBc hx5 d8; replace hz5 := size_keep hBc hz5; replace hx5 := size_keep hBc hx5; have HPC := Lib.hid (HPR.out.keep plcR_keeps hBc); have HBC : Hid (Below w5.heap.size w5 wc) := HB.out.trans (hBc.mono HB.out.size); have HCF := Lib.hid (containsFPlc_any _ rl _ ps w.heap.size xb wc hrow HPC.out hz5 d0 hx5 d8); obtain ⟨pr, capr, br, orr, rfl, -⟩ := hrow; clear hBc d7 g1 g2
      by_cases hrc : rc = 0
      ·subst hrc; generalize hob : outB ps rl = ob at HCF hq; cases ob with
       | true =>
         go_wp2_with (go_at_call 155; refine HCF.out.mono ?_; rintro e w' ⟨rfl, hB⟩); go_ret; exact ⟨ret_bool (closedB_no hlt HX.out (by rw [hq.out]; rfl)).symm, HB4.out.trans ((HBC.out.trans (hB.mono HBC.out.size)).mono HB4.out.size)⟩
       | false =>
         go_wp2_with (go_at_call 155; refine HCF.out.mono ?_; rintro e w' ⟨rfl, hB⟩); go_roundw
         case rel => exact ⟨k + 1, by omega, by go_num, take_all_snoc hlt HX.out HA.out (by rw [hq.out]; rfl), HBC.out.trans (hB.mono HBC.out.size)⟩
         case measure => simp [intOf]; omega
      ·have b1 : (rc != 0) = true := by simpa using hrc
       have HN : Hid (closedP l ps (x1, x2) = false) := by rw [Hid, hq.out]; simp [hrc]
       clear hrc; go_wp2; go_ret; exact ⟨ret_bool (closedB_no hlt HX.out HN.out).symm, HB4.out.trans (HBC.out.mono HB4.out.size)⟩
    ·go_wp2; go_ret; exact ⟨ret_bool (by rw [closedB, HBI.out, all_end hlt HA.out]; rfl), HB4.out.trans (HB.out.mono HB4.out.size)⟩
end Go.Proofs.YtboegjdkedjhcaaGreatDoor
