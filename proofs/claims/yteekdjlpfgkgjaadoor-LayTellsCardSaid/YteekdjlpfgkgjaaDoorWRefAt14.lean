/- The walk of aediculeref14.At. -/
import Derived.Test.YteekdjlpfgkgjaaDoorWRef14b
import Derived.Test.YteekdjlpfgkgjaaDoorBelowReg
import Derived.IntWalk
namespace Go.Proofs.YteekdjlpfgkgjaaDoor
open Go.RowKit Go.Maps Go.WideMaps
set_option maxRecDepth 100000 in
set_option maxHeartbeats 4000000 in
theorem refAt14_any (v v2 : Value) (l : List GObj) (wh : List GAddr) (addr : Int) (w : World) (h : ObjsAt w v l) (h2 : RowAt 3 AddrR w v2 wh) (ha : 0 ≤ addr) (ha1 : addr ≤ 4294967295) :
    Calls Tryd.prog 13 #[v, v2, .int .u32 addr] w (AtPost w (layAt l wh addr)) := by
  have HO := Lib.hid h
  obtain ⟨p, cap, b, o, rfl, hcap, hmax, hp, hc⟩ := h
  obtain ⟨p2, cap2, b2, o2, rfl, hcap2, hmax2, hp2, hc2⟩ := h2
  have HP1 := Lib.hid hp; clear hp
  have HC1 := Lib.hid hc; clear hc
  have HP := Lib.hid hp2; clear hp2
  have HC := Lib.hid hc2; clear hc2
  go_enter Tryd.func13, Tryd.ntmps13
  go_wp2
  generalize hw0 : w.alloc (.cells #[.int .i64 0, .int .i64 0] 26) = w0
  have HB0 : Hid (Below w.heap.size w w0) := by subst hw0; exact alloc_old w _
  have hz0 : w.heap.size < w0.heap.size := by subst hw0; simp
  have HQ : Hid (w0.cell? ⟨w.heap.size, 0, none⟩ = some (.int .i64 0) ∧ w0.cell? ⟨w.heap.size, 1, none⟩ = some (.int .i64 0) ∧ w0.frozen? ⟨w.heap.size, 0, none⟩ = false ∧ w0.frozen? ⟨w.heap.size, 1, none⟩ = false) := by
    subst hw0; refine ⟨?_, ?_, ?_, ?_⟩ <;> simp [go_sem]
  clear hw0
  go_loopw [9] (fun v9 wr => ∃ k : Nat, k ≤ wh.length ∧ v9 = .int .i64 k ∧ (wh.take k).all (fun x => !atHit l addr x) = true ∧ Below w0.heap.size w0 wr) (fun v9 _ => wh.length - (intOf v9).toNat)
  case atStart => exact ⟨0, Nat.zero_le _, rfl, rfl, Below.refl _ _⟩
  case round =>
    obtain ⟨k, hk, rfl, hall, hbel⟩ := hrel
    have HA := Lib.hid hall; clear hall
    have HB := Lib.hid hbel; clear hbel
    have HW : Hid (Below w.heap.size w wr) := HB0.out.trans (HB.out.mono HB0.out.size)
    have r0 := cell_keep HB.out hz0 HQ.out.1
    have r1 := cell_keep HB.out hz0 HQ.out.2.1
    have f0 : wr.frozen? ⟨w.heap.size, 0, none⟩ = false := by rw [HB.out.frozen hz0]; exact HQ.out.2.2.1
    have f1 : wr.frozen? ⟨w.heap.size, 1, none⟩ = false := by rw [HB.out.frozen hz0]; exact HQ.out.2.2.2
    have zr : w.heap.size < wr.heap.size := size_keep HB.out hz0
    by_cases hlt : k < wh.length
    · obtain rfl := HP.out (by omega)
      obtain ⟨g0, g1, g2, g3, g4, g5⟩ := addrR_keeps _ _ _ _ _ HW.out (HC.out k hlt)
      generalize hx : wh[k] = x at g1 g2 g3 g4 g5
      have HX := Lib.hid hx; clear hx
      obtain ⟨x1, x2, x3⟩ := x
      simp only [] at g1 g2 g3 g4 g5
      have i1 : (k : Int) < (wh.length : Int) := by omega
      go_wp2
      generalize hw3 : wr.alloc (.cells #[.int .i64 x1, .int .i64 x2] 26) = w3
      have HB3 : Hid (Below wr.heap.size wr w3) := by subst hw3; exact alloc_old wr _
      have k0 : w3.cell? ⟨wr.heap.size, 0, none⟩ = some (.int .i64 x1) := by subst hw3; simp [go_sem]
      have k1 : w3.cell? ⟨wr.heap.size, 1, none⟩ = some (.int .i64 x2) := by subst hw3; simp [go_sem]
      have z3 : wr.heap.size < w3.heap.size := by subst hw3; simp
      clear hw3
      replace g3 := cell_keep HB3.out g0 g3
      replace g0 := size_keep HB3.out g0
      replace r0 := cell_keep HB3.out zr r0
      replace r1 := cell_keep HB3.out zr r1
      replace f0 : w3.frozen? ⟨w.heap.size, 0, none⟩ = false := by rw [HB3.out.frozen zr]; exact f0
      replace f1 : w3.frozen? ⟨w.heap.size, 1, none⟩ = false := by rw [HB3.out.frozen zr]; exact f1
      replace HW := Lib.hid (HW.out.trans (HB3.out.mono HW.out.size))
      replace HB := Lib.hid (HB.out.trans (HB3.out.mono HB.out.size))
      clear g1 g2 HB3
      generalize wr.heap.size = pb at k0 k1 z3 zr ⊢
      have z03 : w.heap.size < w3.heap.size := by omega
      have HCON : Hid (∀ x : BW w3, Calls Tryd.prog 17 #[.slice p l.length cap, .agg #[.int .i64 x1, .int .i64 x2]] x.u fun e w' => e = .returned (.bool (symAt l (x1, x2)).isSome) ∧ ∃ y : BW w3, w' = y.u) := fun x => by
        rw [show (symAt l (x1, x2)).isSome = hasR l x1 x2 from (hasR_symAt l (x1, x2)).symm]
        exact calls_below (has_any (.slice p l.length cap) l x1 x2 x.u (ObjsAt.keep (HW.out.trans (x.b.mono HW.out.size)) HO.out))
      have c0 := bw_cell z3 k0
      have c1 := bw_cell z3 k1
      have c3 := bw_cell g0 g3
      cases hs : symAt l (x1, x2) with
      | none =>
        rw [hs] at HCON
        have HNH : Hid (atHit l addr ⟨x1, x2, x3⟩ = false) := by simp [Hid, atHit, hs]
        have HST := Lib.hid (take_all_snoc hlt HX.out HA.out (show (!atHit l addr ⟨x1, x2, x3⟩) = true by rw [HNH.out]; rfl))
        clear hs
        simp only [Option.isSome_none] at HCON
        refine wp_region_below (by kernel_rfl) (by kernel_rfl) ?_
        repeat (first | go_big_quiet_skip | quiet_step ((go_at_call 17; exact HCON.out _)))
        refine wpQuiet_nil ?_
        rintro w4 hx4; have hB4 : Below w3.heap.size w3 w4 := bw_of hx4; clear hx4
        clear c0 c1 c3
        go_wp2
        go_roundw
        case rel => exact ⟨k + 1, by omega, by go_num, HST.out, HB.out.trans (hB4.mono HB.out.size)⟩
        case measure => simp [intOf]; omega
      | some s =>
        rw [hs] at HCON
        obtain ⟨an, bn, han, hbn, hpi, hse⟩ := symAt_some hs
        obtain ⟨rfl, rfl⟩ : x1 = (an : Int) ∧ x2 = (bn : Int) := Prod.mk.inj hpi
        have HHIT : Hid (atHit l addr ⟨an, bn, x3⟩ = (decide (x3 ≤ addr) && decide (addr - x3 < s.size))) := by simp [Hid, atHit, hs]
        clear hs hpi
        simp only [Option.isSome_some] at HCON
        obtain rfl := HP1.out (by omega)
        obtain ⟨vs, e0, -, e2, ⟨pS, capS, bS, oS, rfl, hcapS, hmaxS, hpS, hcS⟩, -⟩ := objR_keeps _ _ _ _ _ HW.out (HC1.out an han)
        obtain rfl := hpS (by omega)
        obtain ⟨vr, vn, s0, s1, s2, s3, s4, s5, s6, s7, hin⟩ := hcS bn hbn
        rw [hse] at s4 hin
        have hsz := hin.2.2.2.2.1
        have hnS : bn < l[an].syms.length := hbn
        clear hcS hpS hin hse s1 s2 s3 s5 s6 s7
        generalize l[an].syms.length = nS at e2 hnS hcapS hmaxS hbn
        generalize s.size = ys at s4 hsz HHIT
        have c4 := bw_cell e0 e2
        have c5 := bw_cell s0 s4
        have i2 : (an : Int) < (l.length : Int) := by omega
        have i3 : (bn : Int) < (nS : Int) := by omega
        by_cases q1 : x3 ≤ addr
        · have d1 : decide (x3 ≤ addr) = true := by simpa using q1
          have hwr : IntKind.u32.wrap (addr - x3) = addr - x3 := IntWalk.u32_in _ (by omega)
          by_cases q2 : addr - x3 < ys
          · have d2 : decide (addr - x3 < ys) = true := by simpa using q2
            have HF : Hid (layAt l wh addr = (((an : Int), (bn : Int)), addr - x3, true)) := by
              have h1 := find_here hlt HX.out HA.out (show atHit l addr ⟨an, bn, x3⟩ = true by rw [HHIT.out, d1, d2]; rfl)
              unfold layAt; rw [Hid, h1]
            refine wp_region_below (by kernel_rfl) (by kernel_rfl) ?_
            repeat (first | go_big_quiet_skip | quiet_step ((go_at_call 17; exact HCON.out _)))
            refine wpQuiet_nil ?_
            rintro w4 hx4; have hB4 : Below w3.heap.size w3 w4 := bw_of hx4; clear hx4
            clear c0 c1 c3 c4 c5 e2 s4
            replace k0 := cell_keep hB4 z3 k0
            replace k1 := cell_keep hB4 z3 k1
            replace g3 := cell_keep hB4 g0 g3
            replace r0 := cell_keep hB4 z03 r0
            replace r1 := cell_keep hB4 z03 r1
            replace f0 : w4.frozen? ⟨w.heap.size, 0, none⟩ = false := by rw [hB4.frozen z03]; exact f0
            replace f1 : w4.frozen? ⟨w.heap.size, 1, none⟩ = false := by rw [hB4.frozen z03]; exact f1
            have HB4 := Lib.hid hB4
            have z04 : w.heap.size < w4.heap.size := size_keep hB4 z03
            have nb1 : ¬ w.heap.size = pb := by omega
            clear hB4
            go_wp2
            go_region
            all_goals
              go_wp2
              refine bodyPost_ret (v := .tuple #[.agg #[.int .i64 an, .int .i64 bn], .int .u32 (addr - x3), .bool true]) (by simp [results, Tryd.results13, go_sem, *]) rfl ?_
              rw [HF.out]
              exact ⟨rfl, (((HW.out.trans (HB4.out.mono HW.out.size)).setCell (by simp) _).setCell (by simp) _).drew⟩
          · have d2 : decide (addr - x3 < ys) = false := by simpa using q2
            have HST := Lib.hid (take_all_snoc hlt HX.out HA.out (show (!atHit l addr ⟨an, bn, x3⟩) = true by rw [HHIT.out, d2]; simp))
            refine wp_region_below (by kernel_rfl) (by kernel_rfl) ?_
            repeat (first | go_big_quiet_skip | quiet_step ((go_at_call 17; exact HCON.out _)))
            refine wpQuiet_nil ?_
            rintro w4 hx4; have hB4 : Below w3.heap.size w3 w4 := bw_of hx4; clear hx4
            clear c0 c1 c3 c4 c5
            go_wp2
            go_roundw
            case rel => exact ⟨k + 1, by omega, by go_num, HST.out, HB.out.trans (hB4.mono HB.out.size)⟩
            case measure => simp [intOf]; omega
        · have d1 : decide (x3 ≤ addr) = false := by simpa using q1
          have HST := Lib.hid (take_all_snoc hlt HX.out HA.out (show (!atHit l addr ⟨an, bn, x3⟩) = true by rw [HHIT.out, d1]; simp))
          refine wp_region_below (by kernel_rfl) (by kernel_rfl) ?_
          repeat (first | go_big_quiet_skip | quiet_step ((go_at_call 17; exact HCON.out _)))
          refine wpQuiet_nil ?_
          rintro w4 hx4; have hB4 : Below w3.heap.size w3 w4 := bw_of hx4; clear hx4
          clear c0 c1 c3 c4 c5
          go_wp2
          go_roundw
          case rel => exact ⟨k + 1, by omega, by go_num, HST.out, HB.out.trans (hB4.mono HB.out.size)⟩
          case measure => simp [intOf]; omega
    · have HF : Hid (layAt l wh addr = ((0, 0), 0, false)) := by
        have h1 := (findIdxA_none (all_end hlt HA.out)).2
        unfold layAt; rw [Hid, h1]
      go_wp2
      refine bodyPost_ret (v := .tuple #[.agg #[.int .i64 0, .int .i64 0], .int .u32 0, .bool false]) (by simp [results, Tryd.results13, go_sem, *]) rfl ?_
      rw [HF.out]
      exact ⟨rfl, (HW.out.setCell (by simp) _).setCell (by simp) _⟩
end Go.Proofs.YteekdjlpfgkgjaaDoor
