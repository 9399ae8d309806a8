/- The walks of ref36.Indirect and ref36.Clean. -/
import Derived.Test.YtghopakbefageaaGreatBt43
import Derived.Test.YtghopakbefageaaGreatBt42
namespace Go.Proofs.YtghopakbefageaaGreat
open Go.RowKit Go.Maps
theorem lineOf_at {L : List GLn} (hu : L.Pairwise fun a b => a.addr < b.addr) {k : Nat} (hk : k < L.length) {a : Int} (ha : L[k].addr = a) : lineOf L a = L[k] := by
  unfold lineOf
  rw [← ha, findA_mem hu (List.getElem_mem hk)]
  rfl
set_option maxHeartbeats 4000000 in
set_option maxRecDepth 100000 in
theorem rind36 (x : GImg) (ve vp vs : Value) (w : World) (h : ImgAt w x ve vp vs) :
    Calls Tryz.prog 16 #[imgV x ve vp vs] w (IndPost x w) := by
  have HLN : Hid (∀ W, Below w.heap.size w W → Calls Tryz.prog 25 #[imgV x ve vp vs] W (LinesPost x W)) := fun W hW => rlines36 x ve vp vs W (h.keep hW)
  have HFL : Hid (∀ W, Below w.heap.size w W → Calls Tryz.prog 14 #[imgV x ve vp vs] W (FlowPost x W)) := fun W hW => rflow36 x ve vp vs W (h.keep hW)
  unfold imgV at *
  obtain ⟨⟨⟨p1, c1, _, _, rfl, -⟩, ⟨p2, c2, _, _, rfl, -⟩, -⟩, ⟨p3, c3, b3, o3, rfl, -, -, -, -⟩, -, -⟩ := h
  have HB1 : Hid (Below w.heap.size w (w.alloc (.cells #[.int .u32 x.man.pages, .slice p1 x.man.exts.length c1, .slice p2 x.man.ports.length c2, .bool x.man.cons, .int .u32 x.entry, .slice p3 x.segs.length c3] 29))) := alloc_old w _
  have HBX := Lib.hid (new_block w (.cells #[.int .u32 x.man.pages, .slice p1 x.man.exts.length c1, .slice p2 x.man.ports.length c2, .bool x.man.cons, .int .u32 x.entry, .slice p3 x.segs.length c3] 29))
  have hz1 : w.heap.size < (w.alloc (.cells #[.int .u32 x.man.pages, .slice p1 x.man.exts.length c1, .slice p2 x.man.ports.length c2, .bool x.man.cons, .int .u32 x.entry, .slice p3 x.segs.length c3] 29)).heap.size := by simp
  go_enter Tryz.func16, Tryz.ntmps16
  go_wp2_with fail
  refine (HLN.out _ HB1.out).mono ?_
  rintro e w2 ⟨vl, rfl, hrl, hB2⟩
  have HB2 : Hid (Below w.heap.size w w2) := HB1.out.trans (hB2.mono HB1.out.size)
  have x0 : w2.cell? ⟨w.heap.size, 0, none⟩ = some (.int .u32 x.man.pages) := cell_keep hB2 hz1 (Lib.cell_of_heap HBX.out 0)
  have x1 : w2.cell? ⟨w.heap.size, 1, none⟩ = some (.slice p1 x.man.exts.length c1) := cell_keep hB2 hz1 (Lib.cell_of_heap HBX.out 1)
  have x2 : w2.cell? ⟨w.heap.size, 2, none⟩ = some (.slice p2 x.man.ports.length c2) := cell_keep hB2 hz1 (Lib.cell_of_heap HBX.out 2)
  have x3 : w2.cell? ⟨w.heap.size, 3, none⟩ = some (.bool x.man.cons) := cell_keep hB2 hz1 (Lib.cell_of_heap HBX.out 3)
  have x4 : w2.cell? ⟨w.heap.size, 4, none⟩ = some (.int .u32 x.entry) := cell_keep hB2 hz1 (Lib.cell_of_heap HBX.out 4)
  have x5 : w2.cell? ⟨w.heap.size, 5, none⟩ = some (.slice p3 x.segs.length c3) := cell_keep hB2 hz1 (Lib.cell_of_heap HBX.out 5)
  have HRL := Lib.hid hrl
  obtain ⟨pl, cl, bl, ol, rfl, hlc, hlm, hlp, hlr⟩ := hrl
  have HLP := Lib.hid hlp; clear hlp
  have HLR := Lib.hid hlr; clear hlr
  have hLL := linesX_len x
  have HUP := Lib.hid (linesX_up x)
  clear HB1 hB2 HLN HBX hz1
  go_wp2_with fail
  refine (HFL.out _ HB2.out).mono ?_
  rintro e w3 ⟨vf, l, rfl, hfl, hrf, hB3⟩
  have HFI := Lib.hid hfl
  have HIS := Lib.hid (ind_any hfl)
  have HB3 := Lib.hid hB3
  have HRL3 := Lib.hid (HRL.out.keep lnR_keeps hB3)
  have HLR3 := Lib.hid (fun i (hi : i < (linesX x).length) => lnR_keeps _ _ _ _ _ hB3 (HLR.out i hi))
  obtain ⟨pf, cf, bf, of, rfl, hfc, hfm, hfp, hfr⟩ := hrf
  have HFP := Lib.hid hfp; clear hfp
  have HFR := Lib.hid hfr; clear hfr
  have HEND : Hid (∀ b W, b = l.any (indF (linesX x)) → W = w3 → IndPost x w (.returned (.bool b)) W) := Lib.hid fun b W hb hW => by
    subst hb; subst hW
    exact ⟨_, rfl, HIS.out, HB2.out.trans (HB3.out.mono HB2.out.size)⟩
  clear hfl hB3 HFL x0 x1 x2 x3 x4 x5
  go_wp2_with fail
  go_loopw [5] (fun v5 wr => ∃ j : Nat, v5 = .int .i64 j ∧ j ≤ l.length ∧ (l.take j).any (indF (linesX x)) = false ∧ wr = w3) (fun v5 _ => l.length - (intOf v5).toNat)
  case atStart => exact ⟨0, by go_num, Nat.zero_le _, by rw [List.take_zero]; rfl, rfl⟩
  case round =>
    obtain ⟨j, rfl, hj, hno, rfl⟩ := hrel
    have HNO := Lib.hid hno; clear hno
    by_cases hjl : j < l.length
    · obtain ⟨-, f0, hfb⟩ := HFR.out j hjl
      rw [Nat.mul_one] at f0
      obtain rfl := HFP.out (by omega)
      have hin := (HFI.out.2 l[j]).1 (List.getElem_mem hjl)
      have hhas := hin.2.has hin.1
      have HAT := Lib.hid (at36 _ (linesX x) l[j] wr HRL3.out HUP.out)
      have HTK := Lib.hid (any_take_snoc (p := indF (linesX x)) hjl rfl)
      have HHAS := Lib.hid hhas
      have HANY := Lib.hid (fun hq : indF (linesX x) l[j] = true => (List.any_eq_true.2 ⟨l[j], List.getElem_mem hjl, hq⟩ : l.any (indF (linesX x)) = true))
      clear hin hhas hfb
      have HLO := Lib.hid (fun (k : Nat) (hk : k < (linesX x).length) (he : (linesX x)[k].addr = l[j]) => (by unfold indF; rw [lineOf_at HUP.out hk he] : indF (linesX x) l[j] = ((linesX x)[k].is && decide ((linesX x)[k].ins.op = 42))))
      generalize l[j] = a at *
      have k1 : (0 : Int) ≤ (j : Int) := by omega
      have k2 : (j : Int) < (l.length : Int) := by omega
      go_wp2_with fail
      refine HAT.out.mono ?_
      rintro e w4 ⟨⟨r, rfl, hr⟩, rfl⟩
      have hr2 : ∃ k : Nat, ∃ h : k < (linesX x).length, r = k ∧ (linesX x)[k].addr = a := by
        rcases hr with ⟨-, h1⟩ | h1
        · rw [HHAS.out] at h1; cases h1
        · exact h1
      obtain ⟨k, hk, rfl, hka⟩ := hr2
      clear hr HAT
      obtain rfl := HLP.out (by omega)
      obtain ⟨-, y0, y1, y2, y3, y4, y5, y6, -⟩ := HLR3.out k hk
      have HI := Lib.hid (HLO.out k hk hka)
      have k3 : (0 : Int) ≤ (k : Int) := by omega
      have k4 : (k : Int) < ((linesX x).length : Int) := by omega
      clear hka HLO
      generalize (linesX x)[k] = y at *
      obtain ⟨ya, ⟨io, id, ia, ib, im⟩, yi⟩ := y
      simp only [] at y0 y1 y2 y3 y4 y5 y6 HI
      have hcs : (yi = false ∧ True) ∨ (yi = true ∧ (io == 42) = false ∧ Hid (¬ io = 42)) ∨ (yi = true ∧ io = 42) := by
        cases yi with
        | false => exact .inl ⟨rfl, trivial⟩
        | true =>
          by_cases h5 : io = 42
          · exact .inr (.inr ⟨rfl, h5⟩)
          · exact .inr (.inl ⟨rfl, by simpa using h5, h5⟩)
      rcases hcs with ⟨rfl, -⟩ | ⟨rfl, h5, H5⟩ | ⟨rfl, rfl⟩
      · have HT2 : Hid ((l.take (j + 1)).any (indF (linesX x)) = false) := Lib.hid (by rw [HTK.out, HNO.out, HI.out]; rfl)
        go_wp2
        go_roundw
        case rel => exact ⟨j + 1, by go_num, by omega, HT2.out, (by simp)⟩
        case measure => simp [intOf]; omega
      · have HT2 : Hid ((l.take (j + 1)).any (indF (linesX x)) = false) := Lib.hid (by rw [HTK.out, HNO.out, HI.out]; simp [H5.out])
        go_wp2
        go_roundw
        case rel => exact ⟨j + 1, by go_num, by omega, HT2.out, (by simp)⟩
        case measure => simp [intOf]; omega
      · have HT2 : Hid (l.any (indF (linesX x)) = true) := Lib.hid (HANY.out (by rw [HI.out]; simp))
        go_wp2
        go_ret
        exact HEND.out _ _ HT2.out.symm rfl
    · obtain rfl : j = l.length := by omega
      have HT2 : Hid (l.any (indF (linesX x)) = false) := Lib.hid (by have := HNO.out; rwa [List.take_length] at this)
      go_wp2
      go_ret
      exact HEND.out _ _ HT2.out.symm rfl
set_option maxHeartbeats 4000000 in
theorem rclean36 (vf vk : Value) (fs : List Fd) (ks : List Int) (w : World) (hf : RowAt 2 FindR w vf fs) (hk : RowAt 1 KindR w vk ks) :
    Calls Tryz.prog 18 #[vf, vk] w fun e w' => e = .returned (.bool (cleanFd fs ks)) ∧ Below w.heap.size w w' := by
  obtain ⟨p, c, b1, o1, rfl, hk1, hkm, hkp, hkr⟩ := hk
  obtain ⟨q, d, b2, o2, rfl, hf1, hfm, hfp, hfr⟩ := hf
  have HKP := Lib.hid hkp; clear hkp
  have HKR := Lib.hid hkr; clear hkr
  have HFP := Lib.hid hfp; clear hfp
  have HFR := Lib.hid hfr; clear hfr
  have HEND : Hid (∀ b W, b = cleanFd fs ks → Below w.heap.size w W → ((Ending.returned (.bool b)) = .returned (.bool (cleanFd fs ks)) ∧ Below w.heap.size w W)) := Lib.hid fun b W hb hW => by
    subst hb; exact ⟨rfl, hW⟩
  have HYES := Lib.hid (fun (j : Nat) (hj : j < fs.length) (hd : dirty ks fs[j] = true) => (by unfold cleanFd; rw [List.any_eq_true.2 ⟨fs[j], List.getElem_mem hj, hd⟩]; rfl : cleanFd fs ks = false))
  go_enter Tryz.func18, Tryz.ntmps18
  go_wp2_with fail
  go_loopw [5] (fun v5 wr => ∃ j : Nat, v5 = .int .i64 j ∧ j ≤ fs.length ∧ (fs.take j).any (dirty ks) = false ∧ Below w.heap.size w wr) (fun v5 _ => fs.length - (intOf v5).toNat)
  case atStart => exact ⟨0, by go_num, Nat.zero_le _, by rw [List.take_zero]; rfl, Below.refl _ _⟩
  case round =>
    obtain ⟨j, rfl, hj, hno, hB⟩ := hrel
    have HNO := Lib.hid hno; clear hno
    have HB := Lib.hid hB; clear hB
    by_cases hjl : j < fs.length
    · obtain ⟨hb2, f0, f1, -⟩ := findR_keeps _ _ _ _ _ HB.out (HFR.out j hjl)
      obtain rfl := HFP.out (by omega)
      have HD := Lib.hid (HYES.out j hjl)
      have HTK := Lib.hid (any_take_snoc (p := dirty ks) hjl rfl)
      generalize fs[j] = f at *
      obtain ⟨fa, fk⟩ := f
      simp only [] at f0 f1
      have k1 : (0 : Int) ≤ (j : Int) := by omega
      have k2 : (j : Int) < (fs.length : Int) := by omega
      by_cases hk0 : ks.length = 0
      · have hk0b : ((ks.length : Int) == 0) = true := by rw [beq_iff_eq]; omega
        have HF : Hid (cleanFd fs ks = false) := Lib.hid (HD.out (by unfold dirty; rw [decide_eq_true hk0]; rfl))
        clear hk0
        go_wp2
        go_ret
        exact HEND.out _ _ HF.out.symm HB.out
      · have hk0b : ((ks.length : Int) == 0) = false := by rw [beq_eq_false_iff_ne]; omega
        have HDD : Hid (dirty ks (fa, fk) = ks.any fun y => decide (fk = y)) := Lib.hid (by unfold dirty; rw [decide_eq_false hk0]; rfl)
        obtain rfl := HKP.out (by omega)
        go_wp2_with fail
        obtain ⟨wo, rfl⟩ : ∃ wo : World, wo = wr := ⟨_, rfl⟩
        go_loopw [6] (fun v6 wi => ∃ i : Nat, v6 = .int .i64 i ∧ i ≤ ks.length ∧ ((ks.take i).any fun y => decide (fk = y)) = false ∧ Below wo.heap.size wo wi) (fun v6 _ => ks.length - (intOf v6).toNat)
        case atStart => exact ⟨0, by go_num, Nat.zero_le _, by rw [List.take_zero]; rfl, Below.refl _ _⟩
        case round =>
          obtain ⟨i, rfl, hi, hno, hBi⟩ := hrel
          have HNI := Lib.hid hno; clear hno
          have HBI := Lib.hid hBi; clear hBi
          have HBW : Hid (Below w.heap.size w wr) := HB.out.trans (HBI.out.mono HB.out.size)
          have g0 := cell_keep HBI.out hb2 f0
          have g1 := cell_keep HBI.out hb2 f1
          by_cases hil : i < ks.length
          · obtain ⟨hb1, u0, -⟩ := kindR_keeps _ _ _ _ _ HBW.out (HKR.out i hil)
            rw [Nat.mul_one] at u0
            have HTI := Lib.hid (any_take_snoc (p := fun y => decide (fk = y)) hil rfl)
            have HIN := Lib.hid (fun hq : fk = ks[i] => (by rw [HDD.out]; exact List.any_eq_true.2 ⟨ks[i], List.getElem_mem hil, decide_eq_true hq⟩ : dirty ks (fa, fk) = true))
            generalize ks[i] = kk at *
            have k3 : (0 : Int) ≤ (i : Int) := by omega
            have k4 : (i : Int) < (ks.length : Int) := by omega
            clear f0 f1
            by_cases he : fk = kk
            · have heb : (fk == kk) = true := by simpa using he
              have HF : Hid (cleanFd fs ks = false) := Lib.hid (HD.out (HIN.out he))
              clear he
              go_wp2_with fail
              go_quiet (fail)
              go_wp2
              go_ret
              exact HEND.out _ _ HF.out.symm (below_drewN HBW.out _)
            · have heb : (fk == kk) = false := by simpa using he
              have HT2 : Hid (((ks.take (i + 1)).any fun y => decide (fk = y)) = false) := Lib.hid (by rw [HTI.out, HNI.out, decide_eq_false he]; rfl)
              clear he
              go_wp2_with fail
              go_quiet (fail)
              go_wp2
              go_roundw
              case rel => exact ⟨i + 1, by go_num, by omega, HT2.out, below_drewN HBI.out _⟩
              case measure => simp [intOf]; omega
          · obtain rfl : i = ks.length := by omega
            have HT2 : Hid ((fs.take (j + 1)).any (dirty ks) = false) := Lib.hid (by
              have h1 := HNI.out
              rw [List.take_length] at h1
              rw [HTK.out, HNO.out, HDD.out, h1]; rfl)
            clear f0 f1 g0 g1
            go_wp2
            go_roundw
            case rel => exact ⟨j + 1, by go_num, by omega, HT2.out, HBW.out⟩
            case measure => simp [intOf]; omega
    · obtain rfl : j = fs.length := by omega
      have HF : Hid (cleanFd fs ks = true) := Lib.hid (by have := HNO.out; rw [List.take_length] at this; unfold cleanFd; rw [this]; rfl)
      go_wp2
      go_ret
      exact HEND.out _ _ HF.out.symm HB.out
end Go.Proofs.YtghopakbefageaaGreat
