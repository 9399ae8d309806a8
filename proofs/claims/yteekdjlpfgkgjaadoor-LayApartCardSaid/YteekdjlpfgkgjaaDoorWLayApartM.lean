/- The walk of aediculelaw14.LayApart where symbols are laid. -/
import Derived.Test.YteekdjlpfgkgjaaDoorWLayApart
import Derived.Test.YteekdjlpfgkgjaaDoorLayMarks
namespace Go.Proofs.YteekdjlpfgkgjaaDoor
open Go.RowKit Go.Maps Go.WideMaps
theorem info_int : (Tryd.prog.info? 3).map (fun i => (i.zero, i.size, i.bytes)) = some (some (.int .i64 0), 1, 8) := by kernel_rfl
theorem info_u8 : (Tryd.prog.info? 5).map (fun i => (i.zero, i.size, i.bytes)) = some (some (.int .u8 0), 1, 1) := by kernel_rfl
/-- what is kept in the loops -/
structure MInv (l : List GObj) (ps : List GP) (a : List GAddr) (w2 : World) (ob kb N Q : Nat) (i : Nat) (c : Int) (wr : World) : Prop where
  marks : ∃ ow kn, IRow wr 3 .i64 ob N ow ∧ IRow wr 5 .u8 kb Q kn ∧ OWI l ps a i c ow ∧ KNI l ps a i c kn
  below : Below w2.heap.size w2 wr
theorem MInv.keep {l : List GObj} {ps : List GP} {a : List GAddr} {w2 : World} {ob kb N Q i : Nat} {c : Int} {wr w' : World} (h : MInv l ps a w2 ob kb N Q i c wr) (hb : Below wr.heap.size wr w') : MInv l ps a w2 ob kb N Q i c w' := by
  obtain ⟨⟨ow, kn, h1, h2, h3, h4⟩, h5⟩ := h
  exact ⟨⟨ow, kn, h1.congr (hb.block _ (h1.1.lt _ rfl).2), h2.congr (hb.block _ (h2.1.lt _ rfl).2), h3, h4⟩, h5.trans (hb.mono h5.size)⟩
set_option maxRecDepth 100000 in
set_option maxHeartbeats 4000000 in
theorem layApart_ok (v v2 : Value) (l : List GObj) (ps : List GP) (x : Int) (w : World) (h : ObjsAt w v l) (h2 : RowAt 2 PlcR w v2 ps) (h1 : large13B l = false) (hlen : ps.length ≤ 1200) (hx0 : 0 ≤ x) (hx1 : x ≤ 65535) (ra : List GAddr) (rs : List GSpan) (he : layOf l ps = (ra, rs, 0)) :
    Calls Tryd.prog 4 #[v, v2, .int .u16 x] w fun e w' => e = .returned (.bool true) ∧ Below w.heap.size w w' := by
  have HL := Lib.hid (large13_any v l w h)
  rw [h1] at HL
  have HOF := Lib.hid (fun w1 (hb : Below w.heap.size w w1) => layOf_any v v2 l ps w1 (ObjsAt.keep hb h) (RowAt.keep plcR_keeps hb h2) hlen)
  rw [he] at HOF
  have HMAY := Lib.hid (layOf_zero he).1
  have HLAID := Lib.hid (laid_of he)
  have hral : ra.length = ps.length := HLAID.out.len
  have HO := Lib.hid h
  have HR2 := Lib.hid h2
  obtain ⟨p, cap, bb, o, rfl, hcap, hmax, hp, hc⟩ := h
  obtain ⟨p2, cap2, b2, o2, rfl, hcap2, hmax2, hp2, hc2⟩ := h2
  have HP := Lib.hid hp; clear hp
  have HC := Lib.hid hc; clear hc
  have HP2 := Lib.hid hp2; clear hp2
  have HC2 := Lib.hid hc2; clear hc2
  have h2' : decide ((1200 : Int) < (ps.length : Int)) = false := by simp; omega
  obtain ⟨N, hN⟩ : ∃ N : Nat, N = 131072 := ⟨_, rfl⟩
  obtain ⟨Q, hQ⟩ : ∃ Q : Nat, Q = 512 := ⟨_, rfl⟩
  have HN := Lib.hid hN; clear hN
  have HQ := Lib.hid hQ; clear hQ
  obtain ⟨iI, r0, r1, r2, r3⟩ := info_parts info_int
  have HI := Lib.hid (And.intro r0 (And.intro r1 (And.intro r2 r3)))
  clear r0 r1 r2 r3
  obtain ⟨iU, r0, r1, r2, r3⟩ := info_parts info_u8
  have HU := Lib.hid (And.intro r0 (And.intro r1 (And.intro r2 r3)))
  clear r0 r1 r2 r3 h1 he
  go_enter Tryd.func4, Tryd.ntmps4
  go_wp2_with (go_at_call 5; refine HL.out.mono ?_; rintro e w1 ⟨rfl, hB1⟩)
  refine (HOF.out w1 hB1).mono ?_
  rintro e w2 ⟨va, vs, rfl, hra, hrs, hB2⟩
  have HW := Lib.hid (hB1.trans (hB2.mono hB1.size)); clear hB1 hB2 HL HOF
  have HRA := Lib.hid hra
  have HRS := Lib.hid hrs
  obtain ⟨pa, ca, ba, oa, rfl, hca, -, hpa, hcA⟩ := hra
  obtain ⟨pc, cc, bc, oc, rfl, hcc, hmc, -, -⟩ := hrs
  have HPA := Lib.hid hpa; clear hpa
  have HCA := Lib.hid hcA; clear hcA
  simp only [hral] at hca HPA HRA ⊢
  go_wp2_with (at_make; refine wpList_make_full _ rfl _ _ 48 rfl w2.heap.size 3 iI _ 1 Tryd.underlying48 HI.out.1 HI.out.2.1 HI.out.2.2.1 _ _ _ _ N rfl rfl ?b0 ?b0' ?b1 ?b2 ?b3 ?_)
  case b0 => have := HN.out; omega
  case b0' => have := HN.out; omega
  case b1 => rw [HI.out.2.2.2]; have := HN.out; omega
  case b2 => have := HN.out; unfold maxLen; omega
  intro w3 hown3 hgrow3
  have HB23 : Hid (Below w2.heap.size w2 w3) := (Below.refl _ _).grown hgrow3 (Nat.le_refl _) (fun k hk => by cases hk)
  have HIR3 : Hid (IRow w3 3 .i64 w2.heap.size N (List.replicate N 0)) := by
    refine ⟨?_, by simp⟩
    have e : (List.replicate N (0 : Int)).map (Value.int .i64) = (madeCells #[.int .i64 0] N).toList := by rw [toList_madeCells_one, List.map_replicate]
    rw [e]; exact own_base hown3
  have z3 := (HIR3.out.1.lt _ rfl).2
  clear hown3 hgrow3
  go_wp2_with (at_make; refine wpList_make_full _ rfl _ _ 49 rfl w3.heap.size 5 iU _ 1 Tryd.underlying49 HU.out.1 HU.out.2.1 HU.out.2.2.1 _ _ _ _ Q rfl rfl ?e0 ?e0' ?e1 ?e2 ?e3 ?_)
  case e0 => have := HQ.out; omega
  case e0' => have := HQ.out; omega
  case e1 => rw [HU.out.2.2.2]; have := HQ.out; omega
  case e2 => have := HQ.out; unfold maxLen; omega
  intro w4 hown4 hgrow4
  have HB34 : Hid (Below w3.heap.size w3 w4) := (Below.refl _ _).grown hgrow4 (Nat.le_refl _) (fun k hk => by cases hk)
  have HIR4 : Hid (IRow w4 5 .u8 w3.heap.size Q (List.replicate Q 0)) := by
    refine ⟨?_, by simp⟩
    have e : (List.replicate Q (0 : Int)).map (Value.int .u8) = (madeCells #[.int .u8 0] Q).toList := by rw [toList_madeCells_one, List.map_replicate]
    rw [e]; exact own_base hown4
  clear hown4 hgrow4 HI HU
  generalize hobe : w2.heap.size = ob at *
  generalize hkbe : w3.heap.size = kb at *
  have HM0 : Hid (MInv l ps ra w2 ob kb N Q 0 0 w4) := by
    refine ⟨⟨_, _, HIR3.out.congr (HB34.out.block _ z3), HIR4.out, ow_zero N, kn_zero Q⟩, ?_⟩
    rw [hobe]; exact HB23.out.trans (HB34.out.mono (by omega))
  have hwo : w.heap.size ≤ ob := by rw [← hobe]; exact HW.out.size
  have HOB := Lib.hid hobe
  clear HIR3 HIR4 HB23 HB34 hobe hkbe
  go_wp2
  go_loopw [12] (fun v12 wr => ∃ i : Nat, i ≤ ps.length ∧ v12 = .int .i64 i ∧ MInv l ps ra w2 ob kb N Q i 0 wr) (fun v12 _ => ps.length - (intOf v12).toNat)
  case atStart => exact ⟨0, Nat.zero_le _, rfl, HM0.out⟩
  case round =>
    clear HM0
    obtain ⟨i, hi, rfl, hmi⟩ := hrel
    have HM := Lib.hid hmi; clear hmi
    have HBW : Hid (Below w.heap.size w wr) := HW.out.trans (HM.out.below.mono (by rw [HOB.out]; exact hwo))
    by_cases hlt : i < ps.length
    · obtain ⟨sy, hsy, hpA, hZ, hK, hz1, hz2, hk1, hk2⟩ := may_each HMAY.out hlt
      have hhas := hasR_sym hsy
      obtain ⟨an, bn, han, hbn, hpi, hse⟩ := symAt_some hsy
      have hpl := HLAID.out.pl i hlt
      have hlo := HLAID.out.lo i hlt
      have haA : aAt ra i = ra[i] := by unfold aAt; rw [List.getD_eq_getElem?_getD, List.getElem?_eq_getElem (by omega)]; rfl
      obtain rfl := HP2.out (by omega)
      obtain rfl := HPA.out (by omega)
      obtain rfl := HP.out (by omega)
      have hb2 : b2 < ob := Nat.lt_of_lt_of_le (HC2.out i hlt).1 hwo
      have hba : ba < ob := by rw [← HOB.out]; exact (HCA.out i (by omega)).1
      obtain ⟨g0, g1, g2⟩ := plcR_keeps _ _ _ _ _ HBW.out (HC2.out i hlt)
      obtain ⟨e0, e1, e2, e3, e4⟩ := addrR_keeps _ _ _ _ _ (by have := HM.out.below; exact this) (HCA.out i (by omega))
      obtain ⟨vs, k0, -, k2, ⟨pS, capS, bS, oS, rfl, hcapS, hmaxS, hpS, hcS⟩, -⟩ := objR_keeps _ _ _ _ _ HBW.out (HC.out an han)
      obtain rfl := hpS (by omega)
      obtain ⟨vr, vn, s0, s1, s2, s3, s4, s5, s6, s7, hin⟩ := hcS bn hbn
      obtain ⟨p1, q1, p3, q3, rfl, rfl⟩ := hin.shape
      rw [hse] at s1 s2 s3 s4 s5 s6 s7 hin
      rw [hpi] at g1 g2 hhas
      rw [hpA, hpi] at hpl
      rw [haA] at hpl hlo
      rw [hpl.1] at e1
      rw [hpl.2] at e2
      obtain ⟨An, hAn⟩ := Int.eq_ofNat_of_zero_le (show 0 ≤ ra[i].at_ by omega)
      rw [hAn] at e3 hlo
      rw [hZ] at hlo
      have HAN : Hid ((aAt ra i).at_ = (An : Int)) := haA ▸ hAn
      have HHAS := Lib.hid (has_any _ l an bn wr (ObjsAt.keep HBW.out HO.out))
      rw [hhas] at HHAS
      have HFACT := Lib.hid (And.intro hsy (And.intro hpi (And.intro hZ hK)))
      clear hcS hpS hin hse hsy hpA hZ hK hpl haA hAn hpi hhas e4
      have hnS : bn < l[an].syms.length := hbn
      generalize l[an].syms.length = nS at k2 hnS hcapS hmaxS hbn
      obtain ⟨yn, yb, yk, ys, yy, yr, yt⟩ := sy
      simp only [] at g1 g2 e1 e2 e3 k2 s1 s2 s3 s4 s5 s6 s7 hz1 hz2 hk1 hk2 hlo HFACT
      go_wp2_with fail
      refine HHAS.out.mono ?_
      rintro e w5 ⟨rfl, hB5⟩
      replace g1 := cell_keep hB5 g0 g1
      replace g2 := cell_keep hB5 g0 g2
      replace e1 := cell_keep hB5 e0 e1
      replace e2 := cell_keep hB5 e0 e2
      replace e3 := cell_keep hB5 e0 e3
      replace k2 := cell_keep hB5 k0 k2
      replace s1 := cell_keep hB5 s0 s1
      replace s2 := cell_keep hB5 s0 s2
      replace s3 := cell_keep hB5 s0 s3
      replace s4 := cell_keep hB5 s0 s4
      replace s5 := cell_keep hB5 s0 s5
      replace s6 := cell_keep hB5 s0 s6
      replace s7 := cell_keep hB5 s0 s7
      replace g0 := size_keep hB5 g0
      replace e0 := size_keep hB5 e0
      replace k0 := size_keep hB5 k0
      replace s0 := size_keep hB5 s0
      replace HM := Lib.hid (HM.out.keep hB5)
      replace HBW := Lib.hid (HBW.out.trans (hB5.mono HBW.out.size))
      clear hB5 HHAS
      have n1 : ¬ w5.heap.size = b2 := by omega
      have n2 : ¬ w5.heap.size = bb := by omega
      have n3 : ¬ w5.heap.size = bS := by omega
      have i1 : (an : Int) < (l.length : Int) := by omega
      have i2 : (bn : Int) < (nS : Int) := by omega
      have i3 : (i : Int) < (ps.length : Int) := by omega
      go_wp2
      go_region_held3 (fun w' => w'.cell? ⟨b2, o2 + i * 2, none⟩ = some (.int .i64 an) ∧ w'.cell? ⟨b2, o2 + i * 2 + 1, none⟩ = some (.int .i64 bn) ∧ w'.cell? ⟨bb, o + an * 2 + 1, none⟩ = some (.slice (some ⟨bS, oS, none⟩) nS capS) ∧ w'.cell? ⟨bS, oS + bn * 7, none⟩ = some (.string yn) ∧ w'.cell? ⟨bS, oS + bn * 7 + 1, none⟩ = some (.int .u8 yb) ∧ w'.cell? ⟨bS, oS + bn * 7 + 2, none⟩ = some (.int .u8 yk) ∧ w'.cell? ⟨bS, oS + bn * 7 + 3, none⟩ = some (.int .u32 ys) ∧ w'.cell? ⟨bS, oS + bn * 7 + 4, none⟩ = some (.string yy) ∧ w'.cell? ⟨bS, oS + bn * 7 + 5, none⟩ = some (.slice p1 yr.length q1) ∧ w'.cell? ⟨bS, oS + bn * 7 + 6, none⟩ = some (.slice p3 yt.length q3)) (go_keep) (fail)
      rename_i hHeld
      clear hHeld
      generalize hw6 : (w5.alloc (.cells #[.string yn, .int .u8 yb, .int .u8 yk, .int .u32 ys, .string yy, .slice p1 yr.length q1, .slice p3 yt.length q3] 54)).drew = w6
      have hB6 : Below w5.heap.size w5 w6 := by subst hw6; exact (alloc_old _ _).drew
      have z6 : w5.heap.size < w6.heap.size := by subst hw6; simp
      have m2 : w6.cell? ⟨w5.heap.size, 2, none⟩ = some (.int .u8 yk) := by subst hw6; simp [go_sem]
      have m3 : w6.cell? ⟨w5.heap.size, 3, none⟩ = some (.int .u32 ys) := by subst hw6; simp [go_sem]
      obtain ⟨hob5, hkb5⟩ : ob < w5.heap.size ∧ kb < w5.heap.size := by
        obtain ⟨⟨ow, kn, q1, q2, -⟩, -⟩ := HM.out
        exact ⟨(q1.1.lt _ rfl).2, (q2.1.lt _ rfl).2⟩
      clear hw6 n1 n2 n3 k2 s1 s2 s3 s4 s5 s6 s7
      replace g1 := cell_keep hB6 g0 g1
      replace g2 := cell_keep hB6 g0 g2
      replace e1 := cell_keep hB6 e0 e1
      replace e2 := cell_keep hB6 e0 e2
      replace e3 := cell_keep hB6 e0 e3
      replace g0 := size_keep hB6 g0
      replace e0 := size_keep hB6 e0
      replace HM := Lib.hid (HM.out.keep hB6)
      replace HBW := Lib.hid (HBW.out.trans (hB6.mono HBW.out.size))
      clear hB6
      generalize w5.heap.size = sb at z6 m2 m3 hob5 hkb5 ⊢
      obtain ⟨hl1, hl2, hl3⟩ := hlo
      have HL2 := Lib.hid hl2
      have HWI : Hid (∀ W, Below w6.heap.size w6 W → Calls Tryd.prog 18 #[.slice pc rs.length cc, .int .u8 yk, .int .u32 An, .int .u32 ys] W fun e w' => e = .returned (.bool true) ∧ ∃ n, w' = W.drewN n) := fun W hb => by
        obtain ⟨sp, t1, t2, t3, t4, t5, t6⟩ := HLAID.out.sp i hlt
        rw [HFACT.out.2.2.2] at t1
        rw [HAN.out] at t4 t5
        rw [HFACT.out.2.2.1] at t5
        exact within_yes _ rs yk An ys W (RowAt.keep spanR_keeps hb (RowAt.keep spanR_keeps HM.out.below HRS.out)) sp t1 t2 t3 t4 t5 t6 (by omega)
      have d1 : decide ((An : Int) < 256) = false := by simp; omega
      have d1' : decide (An < 256) = false := by simp; omega
      have d2 : (An : Int).tmod 8 = 0 := by rw [Int.tmod_eq_emod_of_nonneg (by omega)]; exact hl2
      have d3 : decide ((131072 : Int) < (An : Int)) = false := by simp; omega
      have d3' : decide (131072 < An) = false := by simp; omega
      have d4 : IntKind.u32.wrap ((An : Int) + ys) = (An : Int) + ys := IntWalk.u32_in _ (by omega)
      have d5 : decide ((131072 : Int) < (An : Int) + ys) = false := by simp; omega
      clear hl2
      go_wp2
      go_quiet ((go_at_call 18; exact Calls.quiet_of (HWI.out _ (below_drewN (Below.refl _ _) _))))
      rename_i nq
      clear d2 d4 HWI d1 d1' d3 d3' d5
      have hB7 : Below w6.heap.size w6 (w6.drewN nq) := below_drewN (Below.refl _ _) _
      generalize w6.drewN nq = w7 at hB7 ⊢
      replace g1 := cell_keep hB7 g0 g1
      replace g2 := cell_keep hB7 g0 g2
      replace e3 := cell_keep hB7 e0 e3
      replace m2 := cell_keep hB7 z6 m2
      replace m3 := cell_keep hB7 z6 m3
      replace g0 := size_keep hB7 g0
      replace e0 := size_keep hB7 e0
      replace z6 := size_keep hB7 z6
      replace HM := Lib.hid (HM.out.keep hB7)
      replace HBW := Lib.hid (HBW.out.trans (hB7.mono HBW.out.size))
      clear hB7 e1 e2
      have i4 : (i : Int) < (ps.length : Int) := by omega
      have HG := Lib.hid (And.intro g1 (And.intro g2 (And.intro e3 (And.intro m2 m3))))
      have HSB : Hid (∃ (hob : ob < w7.heap.size) (hkb : kb < w7.heap.size), True) := by
        obtain ⟨⟨ow, kn, q1, q2, -⟩, -⟩ := HM.out
        exact ⟨(q1.1.lt _ rfl).2, (q2.1.lt _ rfl).2, trivial⟩
      clear g1 g2 m2 m3
      go_wp2
      clear e3
      obtain ⟨wo, rfl⟩ : ∃ wo : World, wo = w7 := ⟨_, rfl⟩
      go_loopw [14] (fun v14 wr => ∃ c : Nat, An ≤ c ∧ (c : Int) ≤ (An : Int) + ys ∧ v14 = .int .u32 c ∧ MInv l ps ra w2 ob kb N Q i c wr ∧ KB (fun k => k = ob ∨ k = kb) wo wr) (fun v14 _ => (((An : Int) + ys) - intOf v14).toNat)
      case atStart =>
        refine ⟨An, Nat.le_refl _, by omega, rfl, ?_, KB.refl _ _⟩
        obtain ⟨⟨ow, kn, q1, q2, q3, q4⟩, q5⟩ := HM.out
        have q3' := ow_start q3
        have q4' := kn_start q4
        rw [HAN.out] at q3' q4'
        exact ⟨⟨ow, kn, q1, q2, q3', q4'⟩, q5⟩
      case round =>
        obtain ⟨c, hc1, hc2, rfl, hmi, hkbb⟩ := hrel
        have HMI := Lib.hid hmi; clear hmi
        have HKB := Lib.hid hkbb; clear hkbb
        obtain ⟨g1, g2, e3, m2, m3⟩ := HG.out
        replace g1 := HKB.out.cell g0 (by omega) g1
        replace g2 := HKB.out.cell g0 (by omega) g2
        replace e3 := HKB.out.cell e0 (by omega) e3
        replace m2 := HKB.out.cell z6 (by omega) m2
        replace m3 := HKB.out.cell z6 (by omega) m3
        have d4 : IntKind.u32.wrap ((An : Int) + ys) = (An : Int) + ys := IntWalk.u32_in _ (by omega)
        by_cases hlt2 : (c : Int) < (An : Int) + ys
        · have d6 : decide ((c : Int) < (An : Int) + ys) = true := by simp [hlt2]
          go_wp2
          go_quiet (fail)
          rename_i nq
          clear d4 d6
          have hB7 : Below wr.heap.size wr (wr.drewN nq) := below_drewN (Below.refl _ _) _
          replace HKB := Lib.hid (HKB.out.drewN nq)
          generalize wr.drewN nq = wi at hB7 HKB ⊢
          replace HMI := Lib.hid (HMI.out.keep hB7)
          clear hB7 g1 g2 e3 m2 m3
          have HZ := HFACT.out.2.2.1
          have HKk := HFACT.out.2.2.2
          obtain ⟨-, -, -, m2, -⟩ := HG.out
          replace m2 := HKB.out.cell z6 (by omega) m2
          have hsbw : sb < wi.heap.size := Nat.lt_of_lt_of_le z6 HKB.out.size
          obtain ⟨⟨ow, kn, q1, q2, q3, q4⟩, q5⟩ := HMI.out
          have f1 := ow_free HLAID.out hlt q3 (by rw [HAN.out]; omega) (by rw [HAN.out, HZ]; omega)
          have f2 := kn_free HLAID.out hlt q4 (by rw [HAN.out]; omega) (by rw [HAN.out, HZ]; omega)
          rw [HKk] at f2
          have c1 := q1.cell (i := c) (by have := HN.out; omega)
          have c2 := q2.cell (i := c / 256) (by have := HQ.out; omega)
          rw [f1] at c1
          have fr1 := q1.frozen c
          have fr2 := q2.frozen (c / 256)
          have tq : (c : Int).tdiv 256 = ((c / 256 : Nat) : Int) := by rw [Int.tdiv_eq_ediv_of_nonneg (by omega)]; omega
          have tw : IntKind.u32.wrap ((c / 256 : Nat) : Int) = ((c / 256 : Nat) : Int) := IntWalk.u32_in _ (by omega)
          have bq : c / 256 < Q := by have := HQ.out; omega
          have bc : c < N := by have := HN.out; omega
          have bq' : ((c / 256 : Nat) : Int) < (Q : Int) := by omega
          have bc' : (c : Int) < (N : Int) := by omega
          have hob : ob < wi.heap.size := (q1.1.lt _ rfl).2
          have hkb : kb < wi.heap.size := (q2.1.lt _ rfl).2
          have HQ1 := Lib.hid q1
          have HQ2 := Lib.hid q2
          have HQ3 := Lib.hid q3
          have HQ4 := Lib.hid q4
          have HQ5 := Lib.hid q5
          clear q1 q2 q3 q4 q5
          generalize hcq : c / 256 = cq at c2 f2 fr2 tq tw bq bq'
          have HCQ := Lib.hid hcq; clear hcq
          generalize hkv : kn.getD cq 0 = kv at c2 f2
          clear hkv f1 HZ HKk
          have n1 : ¬ ob = sb := by omega
          have n2 : ¬ kb = sb := by omega
          have n3 : ¬ sb = ob := by omega
          have n4 : ¬ sb = kb := by omega
          have n5 : ¬ ob = kb := by omega
          have n6 : ¬ kb = ob := by omega
          have HFIN : Hid (MInv l ps ra w2 ob kb N Q i ((c + 1 : Nat) : Int) ((wi.setCell ⟨ob, c, none⟩ (.int .i64 ((i : Int) + 1))).setCell ⟨kb, cq, none⟩ (.int .u8 yk)) ∧ KB (fun k => k = ob ∨ k = kb) wo ((wi.setCell ⟨ob, c, none⟩ (.int .i64 ((i : Int) + 1))).setCell ⟨kb, cq, none⟩ (.int .u8 yk))) := by
            have HZ := HFACT.out.2.2.1
            have HKk := HFACT.out.2.2.2
            refine ⟨⟨⟨ow.set c ((i : Int) + 1), kn.set cq yk, (HQ1.out.set c _).congr (Below.heap_setCell _ _ _ _ n5), (HQ2.out.congr (Below.heap_setCell _ _ _ _ n6)).set cq _, ?_, ?_⟩, ?_⟩, (HKB.out.setCell (.inl (.inl rfl)) _).setCell (.inl (.inr rfl)) _⟩
            · have := ow_mark (v := (i : Int) + 1) HQ3.out (by rw [HAN.out]; omega)
              simpa using this
            · have := kn_mark HQ4.out (by rw [HAN.out]; omega) (by rw [HAN.out, HZ]; omega) (by rw [HQ2.out.2]; have := HCQ.out; omega)
              rw [HKk, HCQ.out] at this
              simpa using this
            · exact (HQ5.out.setCell (by simp [HOB.out]) _).setCell (by simp [HOB.out]; omega) _
          rcases f2 with rfl | rfl
          · go_wp2
            exact ⟨⟨c + 1, by omega, by omega, by simp, HFIN.out.1, HFIN.out.2⟩, by simp [intOf]; omega⟩
          · go_wp2
            exact ⟨⟨c + 1, by omega, by omega, by simp, HFIN.out.1, HFIN.out.2⟩, by simp [intOf]; omega⟩
        · have d6 : decide ((c : Int) < (An : Int) + ys) = false := by simp; omega
          go_wp2
          go_quiet (fail)
          rename_i nq
          clear d4 d6
          have hB7 : Below wr.heap.size wr (wr.drewN nq) := below_drewN (Below.refl _ _) _
          replace HKB := Lib.hid (HKB.out.drewN nq)
          generalize wr.drewN nq = wi at hB7 HKB ⊢
          replace HMI := Lib.hid (HMI.out.keep hB7)
          clear hB7 g1 g2 e3 m2 m3
          obtain ⟨g1, g2, e3, m2, m3⟩ := HG.out
          replace g1 := HKB.out.cell g0 (by omega) g1
          replace g2 := HKB.out.cell g0 (by omega) g2
          replace e3 := HKB.out.cell e0 (by omega) e3
          replace m3 := HKB.out.cell z6 (by omega) m3
          replace g0 := Nat.lt_of_lt_of_le g0 HKB.out.size
          replace e0 := Nat.lt_of_lt_of_le e0 HKB.out.size
          replace HBW := Lib.hid (HBW.out.trans (HKB.out.below HBW.out.size (fun k hk hs => by omega)))
          clear m2
          have HM' : Hid (MInv l ps ra w2 ob kb N Q (i + 1) 0 wi) := by
            obtain ⟨⟨ow, kn, q1, q2, q3, q4⟩, q5⟩ := HMI.out
            exact ⟨⟨ow, kn, q1, q2, ow_end q3 (by rw [HAN.out, HFACT.out.2.2.1]; omega), kn_end q4⟩, q5⟩
          have t1 : IntKind.u32.wrap x = x := IntWalk.u32_in _ (by omega)
          have t0 : 0 ≤ x.tmod ys := by rw [Int.tmod_eq_emod_of_nonneg hx0]; exact Int.emod_nonneg _ (by omega)
          have t2 : x.tmod ys < ys := by rw [Int.tmod_eq_emod_of_nonneg hx0]; exact Int.emod_lt_of_pos _ (by omega)
          generalize hoff : x.tmod ys = off at t0 t2
          have t3 : IntKind.u32.wrap off = off := IntWalk.u32_in _ (by omega)
          have t4 : IntKind.u32.wrap ((An : Int) + off) = (An : Int) + off := IntWalk.u32_in _ (by omega)
          have t5 : ¬ ys = 0 := by omega
          have t6 : decide (ys = 0) = false := by simp; omega
          have HAT : Hid (∀ W, Below wi.heap.size wi W → Calls Tryd.prog 12 #[.slice (some ⟨bb, o, none⟩) l.length cap, .slice (some ⟨ba, oa, none⟩) ps.length ca, .int .u32 ((An : Int) + off)] W fun e w' => e = .returned (.tuple #[.agg #[.int .i64 an, .int .i64 bn], .int .u32 off, .bool true]) ∧ Below W.heap.size W w') := fun W hb => by
            have hAt := laid_at HMAY.out HLAID.out hlt t0 (by rw [HFACT.out.2.2.1]; exact t2)
            have := layAt_any _ _ l ra ((An : Int) + off) W (ObjsAt.keep (HBW.out.trans (hb.mono HBW.out.size)) HO.out) (RowAt.keep addrR_keeps (HM'.out.below.trans (hb.mono HM'.out.below.size)) HRA.out) (by omega) (by omega)
            rw [← HAN.out, hAt, HFACT.out.2.1] at this
            rw [HAN.out] at this
            exact this
          go_wp2_with (go_at_call 12; refine (HAT.out _ (Below.refl _ _)).mono ?_; rintro e w8 ⟨rfl, hB8⟩)
          generalize hw9 : (w8.alloc (.cells #[.int .i64 an, .int .i64 bn] 26)) = w9
          have hB9 : Below w8.heap.size w8 w9 := by subst hw9; exact alloc_old _ _
          have m0 : w9.cell? ⟨w8.heap.size, 0, none⟩ = some (.int .i64 an) := by subst hw9; simp [go_sem]
          have m1 : w9.cell? ⟨w8.heap.size, 1, none⟩ = some (.int .i64 bn) := by subst hw9; simp [go_sem]
          have hBB := hB8.trans (hB9.mono hB8.size)
          replace g1 := cell_keep hBB g0 g1
          replace g2 := cell_keep hBB g0 g2
          replace HM' := Lib.hid (HM'.out.keep hBB)
          generalize w8.heap.size = pb at m0 m1 ⊢
          clear hB9 hB8 hBB hw9 HAT t1 t2 t3 t4 t5 t6 e3 m3
          go_quiet (fail)
          rename_i nq
          replace HM' := Lib.hid (HM'.out.keep (below_drewN (Below.refl _ _) nq))
          go_wp2
          go_roundw
          case rel => exact ⟨i + 1, by omega, by go_num, HM'.out⟩
          case measure => simp [intOf]; omega
    · go_wp2_with (go_at_call 6; refine (alive14_any _).mono ?_; rintro e w5 ⟨rfl, hB5⟩)
      go_ret
      exact ⟨rfl, HBW.out.trans (hB5.mono HBW.out.size)⟩
end Go.Proofs.YteekdjlpfgkgjaaDoor
