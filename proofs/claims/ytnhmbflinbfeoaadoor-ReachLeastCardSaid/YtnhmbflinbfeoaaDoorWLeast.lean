/- The walk of ReachLeast. -/
import Derived.Test.YtnhmbflinbfeoaaDoorWAlive13
import Derived.Test.YtnhmbflinbfeoaaDoorWKept2
import Derived.Test.YtnhmbflinbfeoaaDoorWLarge13
import Derived.Test.YtnhmbflinbfeoaaDoorWWinners
import Derived.Test.YtnhmbflinbfeoaaDoorBelowReg
namespace Go.Proofs.YtnhmbflinbfeoaaDoor
open Go.RowKit Go.Maps
theorem in_at {pv : Value} {ks : List PP} {a b : Nat} {W : World} (hk : RowAt 2 PlaceR W pv ks) (hm : (a, b) ∈ ks) :
    Calls Tryd.prog 10 #[pv, .agg #[.int .i64 a, .int .i64 b]] W fun e w' => e = .returned (.bool true) ∧ Below W.heap.size W w' := by
  have := in_any pv ks (a, b) W hk
  rw [inB_yes hm] at this
  exact this
set_option maxRecDepth 100000 in
set_option maxHeartbeats 4000000 in
theorem least_any (hsort : SortOk) (hrev : RevOk) (v : Value) (l : List GObj) (nm : ByteArray) (w : World) (h : ObjsAt w v l) (hn : nm.size ≤ 140737488355328) :
    Calls Tryd.prog 3 #[v, .string nm] w fun e w' => e = .returned (.bool true) ∧ Below w.heap.size w w' := by
  have HSORT := Lib.hid hsort; clear hsort
  have HREV := Lib.hid hrev; clear hrev
  have HO := Lib.hid h
  have HLG := Lib.hid (large13_any v l w h)
  have hsh : ∃ (p : Option Addr) (cap : Nat), v = .slice p l.length cap := by obtain ⟨p, cap, b, o, rfl, _⟩ := h; exact ⟨p, cap, rfl⟩
  obtain ⟨p, cap, rfl⟩ := hsh
  clear h
  by_cases hl : large13B l = true
  · rw [hl] at HLG
    clear hl
    go_enter Tryd.func3, Tryd.ntmps3
    go_wp2_with (first | (go_at_call 5; refine HLG.out.mono ?_; rintro e w1 ⟨rfl, hB1⟩) | (go_at_call 6; refine (alive13_any HSORT.out HREV.out _).mono ?_; rintro e w2 ⟨rfl, hB2⟩))
    go_ret
    exact ⟨rfl, hB1.trans (hB2.mono hB1.size)⟩
  have hl' : large13B l = false := by simpa using hl
  rw [hl'] at HLG
  clear hl hl'
  by_cases hnl : nm.size ≤ 1024
  · have hdn : decide ((1024 : Int) < (nm.size : Int)) = false := by simp; omega
    go_enter Tryd.func3, Tryd.ntmps3
    go_wp2_with fail
    refine HLG.out.mono ?_
    rintro e w1 ⟨rfl, hB1⟩
    have HK := Lib.hid (kept_any HSORT.out (.slice p l.length cap) l nm w1 (ObjsAt.keep hB1 HO.out) (by omega))
    have HB1 := Lib.hid hB1; clear hB1 HLG
    go_wp2_with fail
    refine HK.out.mono ?_
    rintro e w2 ⟨hcase, hB2⟩
    have HB2 : Hid (Below w.heap.size w w2) := HB1.out.trans (hB2.mono HB1.out.size)
    clear hB2 HB1 HK
    rcases hcase with ⟨q, K, vo, hyes, hrow, rfl⟩ | ⟨n, c, hc, rfl, -⟩
    · have HY := Lib.hid hyes; clear hyes
      have HR2 := Lib.hid hrow
      obtain ⟨pk, ck, bk, ok, rfl, -⟩ := hrow
      obtain ⟨hb0, hfq, hko, href⟩ := HY.out
      have HKM := Lib.hid (fun x => hko.2 x)
      have HREF := Lib.hid href
      have HALL : Hid (∀ x ∈ K, x ∈ selPlaces (flat l) (flat l)) := Lib.hid fun x hx => reach_all hfq ((hko.2 x).1 hx)
      have HQV := Lib.hid (findR_valid hfq)
      have HKV : Hid (∀ x ∈ K, validP l x) := Lib.hid fun x hx => ((hko.2 x).1 hx).valid (findR_valid hfq)
      have HFI := Lib.hid (resFind_any (.slice p l.length cap) l (-1) nm w2 (ObjsAt.keep HB2.out HO.out) (by omega))
      rw [findOut hb0, hfq] at HFI
      have HB0 := Lib.hid hb0
      clear hb0 hfq hko href
      obtain ⟨q1, q2⟩ := q
      simp only [fndR, findV] at HFI
      go_wp2_with fail
      refine HFI.out.mono ?_
      rintro e w3 ⟨rfl, hB3⟩
      have HB3 : Hid (Below w.heap.size w w3) := HB2.out.trans (hB3.mono HB2.out.size)
      have HR3 := Lib.hid (HR2.out.keep placeR_keeps hB3)
      clear hB3 HB2 HR2 HFI
      have HWN := Lib.hid (winners_any (.slice p l.length cap) l (w3.alloc (.cells #[.int .i64 q1, .int .i64 q2] 30)) (ObjsAt.keep (HB3.out.alloc HB3.out.size _) HO.out))
      rw [HB0.out, if_pos rfl] at HWN
      go_wp2_with fail
      refine HWN.out.mono ?_
      rintro e w4 ⟨vw, rfl, hrw, hB⟩
      obtain ⟨x0, x1, -, -, hz, hB4⟩ := box2 w3 _ _ _ hB
      have HB4 : Hid (Below w.heap.size w w4) := HB3.out.trans (hB4.mono HB3.out.size)
      have HR4 := Lib.hid (HR3.out.keep placeR_keeps hB4)
      have HRW := Lib.hid hrw
      obtain ⟨pw, cw, bw, ow, rfl, -⟩ := hrw
      clear hB hB4 HB3 HR3 HWN
      have hq : (q1, q2) ∈ K := (HKM.out _).2 .refl
      have HIN := Lib.hid (in_at HR4.out hq)
      clear hq
      go_wp2_with fail
      refine HIN.out.mono ?_
      rintro e w5 ⟨rfl, hB⟩
      replace x0 := cell_keep hB hz x0
      replace x1 := cell_keep hB hz x1
      replace hz := size_keep hB hz
      have HB5 : Hid (Below w.heap.size w w5) := HB4.out.trans (hB.mono HB4.out.size)
      have HR5 := Lib.hid (HR4.out.keep placeR_keeps hB)
      have HRW5 := Lib.hid (HRW.out.keep placeR_keeps hB)
      have X0 := Lib.hid x0
      have X1 := Lib.hid x1
      clear hB HB4 HR4 HRW HIN x0 x1
      go_wp2_with fail
      obtain ⟨pk', ck', bk', ok', heq, hck, hmk, hpk, hrk⟩ := HR5.out
      obtain ⟨rfl, rfl⟩ : pk' = pk ∧ ck' = ck := by cases heq; exact ⟨rfl, rfl⟩
      have HPK := Lib.hid hpk
      have HRK := Lib.hid hrk
      clear heq hpk hrk
      go_loopw [12] (fun v12 wr => ∃ i : Nat, i ≤ K.length ∧ v12 = .int .i64 i ∧ Below w5.heap.size w5 wr) (fun v12 _ => K.length - (intOf v12).toNat)
      case atStart => exact ⟨0, Nat.zero_le _, rfl, Below.refl _ _⟩
      case round =>
        obtain ⟨i, hi, rfl, hbel⟩ := hrel
        have HBE := Lib.hid hbel; clear hbel
        have HBV : Hid (Below w.heap.size w wr) := HB5.out.trans (HBE.out.mono HB5.out.size)
        by_cases hlt : i < K.length
        · obtain rfl := HPK.out (by omega)
          obtain ⟨hbz, y0, y1⟩ := placeR_keeps _ _ _ _ _ HBE.out (HRK.out i hlt)
          have hyK : K[i] ∈ K := List.getElem_mem hlt
          have x0 := cell_keep HBE.out hz X0.out
          have x1 := cell_keep HBE.out hz X1.out
          have hzr := size_keep HBE.out hz
          generalize K[i] = y at *
          have HRY := Lib.hid ((HKM.out y).1 hyK)
          have HYK := Lib.hid hyK
          have HRF := Lib.hid (refs_any (.slice p l.length cap) l y.1 y.2 wr (ObjsAt.keep HBV.out HO.out))
          have HRC : Hid ((refsV (beginR l) l y.1 y.2).2.2 = 0) := Lib.hid (HREF.out y hyK)
          have HRQ : Hid (∀ r ∈ (refsV (beginR l) l y.1 y.2).1, r ∈ K) := Lib.hid fun r hr => (HKM.out r).2 (.step ((HKM.out y).1 hyK) ((refs_know HB0.out (HKV.out y hyK) (HREF.out y hyK) r).1 hr))
          have HCH := Lib.hid (fun (W : World) (hW : Below wr.heap.size wr W) => chain_any HSORT.out HREV.out (.slice p l.length cap) l (q1, q2) y W (ObjsAt.keep (HBV.out.trans (hW.mono HBV.out.size)) HO.out) HB0.out HQV.out ((HKM.out y).1 hyK))
          have HINW := Lib.hid (HALL.out y hyK)
          generalize (refsV (beginR l) l y.1 y.2).1 = rs at *
          generalize (refsV (beginR l) l y.1 y.2).2.1 = rn at *
          rw [HRC.out] at HRF
          clear hyK HRC
          obtain ⟨y1', y2'⟩ := y
          unfold placeV at HCH
          simp only [] at y0 y1 HRF HCH
          have d1 : (0 : Int) ≤ (i : Int) := by omega
          go_wp2_with fail
          refine HRF.out.mono ?_
          rintro e wa ⟨vr, rfl, hrr, hB⟩
          replace x0 := cell_keep hB hzr x0
          replace x1 := cell_keep hB hzr x1
          replace y0 := cell_keep hB hbz y0
          replace y1 := cell_keep hB hbz y1
          replace hzr := size_keep hB hzr
          replace hbz := size_keep hB hbz
          have HRR := Lib.hid hrr
          obtain ⟨pr, cr, br, or, rfl, -⟩ := hrr
          have HBA := Lib.hid hB; clear hB HRF
          go_wp2_with fail
          go_region_held3 (fun w' => w'.cell? ⟨w3.heap.size, 0, none⟩ = some (.int .i64 q1) ∧ w'.cell? ⟨w3.heap.size, 1, none⟩ = some (.int .i64 q2) ∧ w'.cell? ⟨bk', ok' + i * 2, none⟩ = some (.int .i64 y1') ∧ w'.cell? ⟨bk', ok' + i * 2 + 1, none⟩ = some (.int .i64 y2')) (go_keep) (first | (go_at_call 12; refine (HCH.out _ (HBA.out.drew)).mono ?_; rintro e wb ⟨C, vc, rfl, hrc, hch, hcl, hB⟩; replace x0 := cell_keep hB hzr x0; replace x1 := cell_keep hB hzr x1; replace y0 := cell_keep hB hbz y0; replace y1 := cell_keep hB hbz y1; have HRCC := Lib.hid hrc; obtain ⟨pc, cc, bc, oc, rfl, -⟩ := hrc; have HCHN := Lib.hid hch; clear hch; have HBB := Lib.hid hB; clear hB))
          have hc0 : 0 < C.length := (List.getElem?_eq_some_iff.1 HCHN.out.first).1
          obtain ⟨pc', cc', bc', oc', heq, hcc, hmc, hpc, hrc⟩ := HRCC.out
          obtain ⟨rfl, rfl⟩ : pc' = pc ∧ cc' = cc := by cases heq; exact ⟨rfl, rfl⟩
          obtain rfl := hpc hc0
          clear heq hpc
          have HRCQ := Lib.hid hrc
          have hzb := size_keep HBB.out hzr
          have hkb := size_keep HBB.out hbz
          obtain ⟨hcz, u0, u1⟩ := hrc 0 hc0
          obtain ⟨-, t0, t1⟩ := hrc (C.length - 1) (by omega)
          have e0 : C[0] = (q1, q2) := (List.getElem?_eq_some_iff.1 HCHN.out.first).2
          have e1 : C[C.length - 1] = (y1', y2') := by
            have := HCHN.out.last
            rw [List.getLast?_eq_getElem?] at this
            exact (List.getElem?_eq_some_iff.1 this).2
          rw [e0] at u0 u1
          rw [e1] at t0 t1
          clear hrc e0 e1
          obtain ⟨m, hm⟩ : ∃ m, C.length = m + 1 := ⟨C.length - 1, by omega⟩
          have HBWB : Hid (Below w5.heap.size w5 wb) := HBE.out.trans ((HBA.out.drew.trans (HBB.out.mono HBA.out.size)).mono HBE.out.size)
          have HRW6 := Lib.hid (HRW5.out.keep placeR_keeps HBWB.out)
          have HCON : Hid (∀ x : BW wb, Calls Tryd.prog 10 #[.slice pw (selPlaces (flat l) (flat l)).length cw, .agg #[.int .i64 y1', .int .i64 y2']] x.u fun e w' => e = .returned (.bool true) ∧ ∃ z : BW wb, w' = z.u) := Lib.hid fun x => calls_below (in_at (HRW6.out.keep placeR_keeps x.b) HINW.out)
          rw [hm] at t0 t1
          simp only [Nat.add_sub_cancel] at t0 t1
          simp only [Nat.zero_mul, Nat.add_zero] at u0 u1
          have HM := Lib.hid hm
          rw [hm] at hcl hcc hmc hc0
          go_wp2_with fail
          simp only [hm]
          clear hm
          have c0 := bw_cell hzb x0
          have c1 := bw_cell hzb x1
          have c2 := bw_cell hkb y0
          have c3 := bw_cell hkb y1
          have c4 := bw_cell hcz u0
          have c5 := bw_cell hcz u1
          have c6 := bw_cell hcz t0
          have c7 := bw_cell hcz t1
          have i1 : (i : Int) < (K.length : Int) := by omega
          have i2 : (0 : Int) < (m : Int) + 1 := by omega
          have i3 : IntKind.i64.wrap (m : Int) = (m : Int) := IntWalk.i64_in _ (by omega)
          have i4 : (m : Int) < (m : Int) + 1 := by omega
          have i5 : (0 : Int) ≤ (m : Int) := by omega
          have i6 : ((m : Int) + 1 == 0) = false := by simp; omega
          refine wp_region_below (by kernel_rfl) (by kernel_rfl) ?_
          repeat (first | go_big_quiet_skip | quiet_step ((go_at_call 10; exact HCON.out _)))
          refine wpQuiet_nil ?_
          rintro w6 hx6; have hB6 : Below wb.heap.size wb w6 := bw_of hx6; clear hx6
          clear c0 c1 c2 c3 c4 c5 c6 c7 x0 x1 y0 y1 u0 u1 t0 t1 i1 i2 i3 i4 i5 i6 HCON HRW6 hcz hzb hkb hzr hbz
          have HB6 : Hid (Below w5.heap.size w5 w6) := HBWB.out.trans (hB6.mono HBWB.out.size)
          have HK6 := Lib.hid (HR5.out.keep placeR_keeps HB6.out)
          have HRR6 := Lib.hid ((HRR.out.keep placeR_keeps (HBB.out.mono (by simp))).keep placeR_keeps hB6)
          have HCC6 := Lib.hid (HRCC.out.keep placeR_keeps hB6)
          rw [HM.out] at HCC6
          clear hB6 HBWB HRR HRCC HRCQ HBA HBB HCH HBE HBV HINW HYK HRY
          obtain ⟨pr', cr', br', or', heq, hcr, hmr, hpr, hrr⟩ := HRR6.out
          obtain ⟨rfl, rfl⟩ : pr' = pr ∧ cr' = cr := by cases heq; exact ⟨rfl, rfl⟩
          have HPR := Lib.hid hpr
          have HRQ6 := Lib.hid hrr
          clear heq hpr hrr
          go_wp2_with fail
          obtain ⟨wo, rfl⟩ : ∃ wo : World, wo = wr := ⟨_, rfl⟩
          go_loopw [18] (fun v18 wx => ∃ k : Nat, k ≤ rs.length ∧ v18 = .int .i64 k ∧ Below w6.heap.size w6 wx) (fun v18 _ => rs.length - (intOf v18).toNat)
          case atStart => exact ⟨0, Nat.zero_le _, rfl, Below.refl _ _⟩
          case round =>
            obtain ⟨k, hk, rfl, hbel⟩ := hrel
            have HBX := Lib.hid hbel; clear hbel
            by_cases hkr : k < rs.length
            · obtain rfl := HPR.out (by omega)
              obtain ⟨-, z0, z1⟩ := placeR_keeps _ _ _ _ _ HBX.out (HRQ6.out k hkr)
              have hin := HRQ.out rs[k] (List.getElem_mem hkr)
              generalize rs[k] = z at *
              obtain ⟨z1', z2'⟩ := z
              simp only [] at z0 z1
              have HIN := Lib.hid (in_at (HK6.out.keep placeR_keeps HBX.out) hin)
              clear hin
              have d2 : (0 : Int) ≤ (k : Int) := by omega
              go_wp2_with fail
              refine HIN.out.mono ?_
              rintro e wy ⟨rfl, hB⟩
              have HBY : Hid (Below w6.heap.size w6 wy) := HBX.out.trans (hB.mono HBX.out.size)
              clear hB HIN z0 z1
              go_wp2
              go_roundw
              case rel => exact ⟨k + 1, by omega, by go_num, HBY.out⟩
              case measure => simp [intOf]; omega
            · obtain ⟨pq', cq', bq', oq', heq, -, -, hpq, hrq⟩ := HCC6.out
              have hqq : some (⟨bc', oc', none⟩ : Addr) = pq' := (Value.slice.inj heq).1
              have hqq2 := hqq.trans (hpq (by rw [HM.out]; omega))
              obtain ⟨rfl, rfl⟩ : bq' = bc' ∧ oq' = oc' := by cases hqq2; exact ⟨rfl, rfl⟩
              have HRQC := Lib.hid hrq
              clear heq hpq hrq hqq hqq2
              go_wp2_with fail
              obtain ⟨wo2, rfl⟩ : ∃ wo : World, wo = wr := ⟨_, rfl⟩
              go_loopw [19] (fun v19 wz => ∃ n : Nat, n ≤ m ∧ v19 = .int .i64 n ∧ Below w6.heap.size w6 wz) (fun v19 _ => m - (intOf v19).toNat)
              case atStart => exact ⟨0, Nat.zero_le _, rfl, HBX.out⟩
              case round =>
                obtain ⟨n, hnm, rfl, hbel⟩ := hrel
                have HBZ := Lib.hid hbel; clear hbel
                have HBT : Hid (Below w5.heap.size w5 wr) := HB6.out.trans (HBZ.out.mono HB6.out.size)
                have HBW : Hid (Below w.heap.size w wr) := HB5.out.trans (HBT.out.mono HB5.out.size)
                by_cases hnk : n < m
                · have hn1 : n < C.length := by have := HM.out; omega
                  have hn2 : n + 1 < C.length := by have := HM.out; omega
                  obtain ⟨hbz, z0, z1⟩ := placeR_keeps _ _ _ _ _ HBZ.out (HRQC.out n hn1)
                  obtain ⟨-, y0, y1⟩ := placeR_keeps _ _ _ _ _ HBZ.out (HRQC.out (n + 1) hn2)
                  have hln := HCHN.out.links n hn2
                  have hcr := HCHN.out.reach _ (List.getElem_mem hn1)
                  generalize C[n + 1] = y at *
                  generalize C[n] = z at *
                  have hzK := (HKM.out z).2 hcr
                  have hym := (refs_know HB0.out (HKV.out z hzK) (HREF.out z hzK) y).2 hln
                  have HRF := Lib.hid (refs_any (.slice p l.length cap) l z.1 z.2 wr (ObjsAt.keep HBW.out HO.out))
                  have HRC : Hid ((refsV (beginR l) l z.1 z.2).2.2 = 0) := Lib.hid (HREF.out z hzK)
                  generalize (refsV (beginR l) l z.1 z.2).1 = rz at *
                  generalize (refsV (beginR l) l z.1 z.2).2.1 = rm at *
                  rw [HRC.out] at HRF
                  obtain ⟨z1', z2'⟩ := z
                  obtain ⟨y1', y2'⟩ := y
                  have HZK := Lib.hid hzK
                  have HYM := Lib.hid hym
                  clear hln hcr HRC hzK hym hn1 hn2
                  simp only [] at z0 z1 y0 y1 HRF
                  have d3 : (0 : Int) ≤ (n : Int) := by omega
                  go_wp2_with fail
                  refine HRF.out.mono ?_
                  rintro e wa ⟨vr, rfl, hrr, hB⟩
                  replace z0 := cell_keep hB hbz z0
                  replace z1 := cell_keep hB hbz z1
                  replace y0 := cell_keep hB hbz y0
                  replace y1 := cell_keep hB hbz y1
                  replace hbz := size_keep hB hbz
                  have HRZ := Lib.hid hrr
                  obtain ⟨pz, cz, _, _, rfl, -⟩ := hrr
                  have HBA : Hid (Below w6.heap.size w6 wa) := HBZ.out.trans (hB.mono HBZ.out.size)
                  clear hB HRF
                  have HIN1 := Lib.hid (in_at HRZ.out HYM.out)
                  go_wp2_with fail
                  refine HIN1.out.mono ?_
                  rintro e wb ⟨rfl, hB⟩
                  replace z0 := cell_keep hB hbz z0
                  replace z1 := cell_keep hB hbz z1
                  have HBB : Hid (Below w6.heap.size w6 wb) := HBA.out.trans (hB.mono HBA.out.size)
                  have HIN2 := Lib.hid (in_at (HK6.out.keep placeR_keeps HBB.out) HZK.out)
                  clear hB y0 y1 HIN1
                  go_wp2_with fail
                  refine HIN2.out.mono ?_
                  rintro e wd ⟨rfl, hB⟩
                  have HBD : Hid (Below w6.heap.size w6 wd) := HBB.out.trans (hB.mono HBB.out.size)
                  clear hB z0 z1 HIN2
                  go_wp2
                  go_roundw
                  case rel => exact ⟨n + 1, by omega, by go_num, HBD.out⟩
                  case measure => simp [intOf]; omega
                · go_wp2_with fail
                  go_roundw
                  case rel => exact ⟨i + 1, by omega, by go_num, HBT.out⟩
                  case measure => simp [intOf]; omega
        · go_wp2_with (go_at_call 6; refine (alive13_any HSORT.out HREV.out _).mono ?_; rintro e w6 ⟨rfl, hB6⟩)
          go_ret
          exact ⟨rfl, HBV.out.trans (hB6.mono HBV.out.size)⟩
    · have hcb : (c != 0) = true := by simpa using hc
      clear hc
      go_wp2_with (go_at_call 6; refine (alive13_any HSORT.out HREV.out _).mono ?_; rintro e w3 ⟨rfl, hB3⟩)
      go_ret
      exact ⟨rfl, HB2.out.trans (hB3.mono HB2.out.size)⟩
  · have hdn : decide ((1024 : Int) < (nm.size : Int)) = true := by simp; omega
    go_enter Tryd.func3, Tryd.ntmps3
    go_wp2_with (first | (go_at_call 5; refine HLG.out.mono ?_; rintro e w1 ⟨rfl, hB1⟩) | (go_at_call 6; refine (alive13_any HSORT.out HREV.out _).mono ?_; rintro e w2 ⟨rfl, hB2⟩))
    go_ret
    exact ⟨rfl, hB1.trans (hB2.mono hB1.size)⟩
end Go.Proofs.YtnhmbflinbfeoaaDoor
