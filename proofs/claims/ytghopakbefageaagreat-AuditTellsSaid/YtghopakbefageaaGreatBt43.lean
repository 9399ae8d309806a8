/- The walk of ref36.Flow. -/
import Derived.Test.YtghopakbefageaaGreatBt39
namespace Go.Proofs.YtghopakbefageaaGreat
open Go.RowKit Go.Maps
theorem own_full {w : World} {base g n : Nat} {e : TypeId} {xs : List Value} (h : w.ownsRow base e 1 (.slice (some ⟨g, 0, none⟩) n n) n xs) : w.heap[g]? = some (.cells xs.toArray e (0, 0)) := by
  obtain ⟨h1, h2⟩ := h
  rcases h2 with ⟨h3, h4⟩ | ⟨g', c, cur, hv, hb, hh, hn, hm, hs, ht⟩
  · first | cases h3 | cases h4 | (subst h4; cases h3)
  · cases hv
    have : cur.toList = xs := by rw [← ht, List.take_of_length_le (by rw [Array.length_toList, hs]; exact Nat.le_refl _)]
    rw [hh, ← this]
theorem behind_two (y : GLn) : behindL y = (if (y.is && goesB y.ins) = true then [w32 (y.addr + 8)] else []) ++ (if (y.is && jumpsB y.ins) = true then [y.ins.imm] else []) := rfl
set_option maxHeartbeats 8000000 in
set_option maxRecDepth 100000 in
theorem rflow36 (x : GImg) (ve vp vs : Value) (w : World) (h : ImgAt w x ve vp vs) :
    Calls Tryz.prog 14 #[imgV x ve vp vs] w (FlowPost x w) := by
  have HLN : Hid (∀ W, Below w.heap.size w W → Calls Tryz.prog 25 #[imgV x ve vp vs] W (LinesPost x W)) := fun W hW => rlines36 x ve vp vs W (h.keep hW)
  unfold imgV at *
  obtain ⟨⟨⟨p1, c1, _, _, rfl, -⟩, ⟨p2, c2, _, _, rfl, -⟩, -⟩, ⟨p3, c3, b3, o3, rfl, -, -, -, -⟩, -, -⟩ := h
  have HB1 : Hid (Below w.heap.size w (w.alloc (.cells #[.int .u32 x.man.pages, .slice p1 x.man.exts.length c1, .slice p2 x.man.ports.length c2, .bool x.man.cons, .int .u32 x.entry, .slice p3 x.segs.length c3] 29))) := alloc_old w _
  have HBX := Lib.hid (new_block w (.cells #[.int .u32 x.man.pages, .slice p1 x.man.exts.length c1, .slice p2 x.man.ports.length c2, .bool x.man.cons, .int .u32 x.entry, .slice p3 x.segs.length c3] 29))
  have hz1 : w.heap.size < (w.alloc (.cells #[.int .u32 x.man.pages, .slice p1 x.man.exts.length c1, .slice p2 x.man.ports.length c2, .bool x.man.cons, .int .u32 x.entry, .slice p3 x.segs.length c3] 29)).heap.size := by simp
  go_enter Tryz.func14, Tryz.ntmps14
  go_wp2_with fail
  refine (HLN.out _ HB1.out).mono ?_
  rintro e w2 ⟨vl, rfl, hrl, hB2⟩
  have HB2 : Hid (Below w.heap.size w w2) := HB1.out.trans (hB2.mono HB1.out.size)
  have e4 : w2.cell? ⟨w.heap.size, 4, none⟩ = some (.int .u32 x.entry) := cell_keep hB2 hz1 (Lib.cell_of_heap HBX.out 4)
  have hz2 : w.heap.size < w2.heap.size := by have := hB2.size; omega
  have HRL := Lib.hid hrl
  obtain ⟨pl, cl, bl, ol, rfl, hlc, hlm, hlp, hlr⟩ := hrl
  have HLP := Lib.hid hlp; clear hlp
  have HLR := Lib.hid hlr; clear hlr
  have hLL := linesX_len x
  have HUP := Lib.hid (linesX_up x)
  have HEN : Hid (linesX x = [] ∨ hasA (linesX x) x.entry = true) := Lib.hid (by
    cases hk : imgOkB x with
    | true => exact .inr (entry_has hk)
    | false => exact .inl (linesX_no hk))
  obtain ⟨iI, r0, r1, r2, r3⟩ := info_parts info_int36
  obtain ⟨iB, s0, s1, s2, s3⟩ := info_parts info_bool36
  obtain ⟨iN, t0, t1, t2, t3⟩ := info_parts info_num
  have HII := Lib.hid (And.intro r0 (And.intro r1 (And.intro r2 r3)))
  have HIB := Lib.hid (And.intro s0 (And.intro s1 (And.intro s2 s3)))
  have HIN := Lib.hid (And.intro t0 (And.intro t1 (And.intro t2 t3)))
  clear r0 r1 r2 r3 s0 s1 s2 s3 t0 t1 t2 t3
  clear HB1 hB2 HLN HBX hz1
  go_wp2_with (at_make; refine wpList_make_full _ rfl _ _ 72 rfl w2.heap.size 4 iB _ 1 Tryz.underlying72 HIB.out.1 HIB.out.2.1 HIB.out.2.2.1 _ _ _ _ (linesX x).length rfl rfl ?b0 ?b0' ?b1 ?b2 ?b3 ?_)
  case b0 => rfl
  case b0' => rfl
  case b1 => rw [HIB.out.2.2.2]; omega
  case b2 => unfold maxLen; omega
  case b3 => exact Nat.le_refl _
  intro w3 hown3 hgrow3
  have HB23 : Hid (Below w2.heap.size w2 w3) := (Below.refl _ _).grown hgrow3 (Nat.le_refl _) (fun k hk => by cases hk)
  have HM3 : Hid (w3.heap[w2.heap.size]? = some (.cells ((List.replicate (linesX x).length false).map Value.bool).toArray 4 (0, 0))) := Lib.hid (by
    have h1 := own_full hown3
    have e : (madeCells #[Value.bool false] (linesX x).length).toList = (List.replicate (linesX x).length false).map Value.bool := by
      rw [List.map_replicate]; exact toList_madeCells_one _ _
    rw [e] at h1
    exact h1)
  have hz3 : w2.heap.size < w3.heap.size := (Array.getElem?_eq_some_iff.1 HM3.out).1
  have e43 := cell_keep HB23.out hz2 e4
  have HAT := Lib.hid (at36 _ (linesX x) x.entry w3 (HRL.out.keep lnR_keeps HB23.out) HUP.out)
  clear hown3 hgrow3 e4
  go_wp2_with fail
  refine HAT.out.mono ?_
  rintro e w3 ⟨⟨r, rfl, hr⟩, rfl⟩
  have HD0 := Lib.hid (Dfs.start hr); clear hr
  have hrow0 : (w3.alloc (.cells #[.int .i64 r] 3)).ownsRow w2.heap.size 3 1 (.slice (some ⟨w3.heap.size, 0, none⟩) 1 1) 1 [.int .i64 r] := World.ownsRow_lit w3 #[.int .i64 r] 1 (by omega) (by unfold maxLen; omega) rfl
  have HS0 : Hid (DfsSt w2.heap.size w2.heap.size (.slice (some ⟨w3.heap.size, 0, none⟩) 1 1) [r] (List.replicate (linesX x).length false) (w3.alloc (.cells #[.int .i64 r] 3))) := Lib.hid ⟨hrow0, (Below.heap_alloc w3 _ _ hz3).trans HM3.out, Nat.le_refl _⟩
  have HB4 : Hid (Below w2.heap.size w2 (w3.alloc (.cells #[.int .i64 r] 3))) := HB23.out.alloc HB23.out.size _
  have HU0 : Hid ([r].length + 3 * unm (List.replicate (linesX x).length false) ≤ 3 * (linesX x).length + 1) := Lib.hid (by rw [unm_all]; simp; omega)
  clear hrow0 HM3 HB23 HAT e43
  go_wp2_with fail
  go_loopw [5] (fun v5 wr => ∃ (S : List Int) (M : List Bool), DfsSt w2.heap.size w2.heap.size v5 S M wr ∧ Dfs (linesX x) x.entry S M [] ∧ S.length + 3 * unm M ≤ 3 * (linesX x).length + 1 ∧ Below w2.heap.size w2 wr) (fun v5 wr => lenOf v5 + 3 * unmW wr.heap[w2.heap.size]?)
  case atStart => exact ⟨_, _, HS0.out, HD0.out, HU0.out, HB4.out⟩
  case round =>
    obtain ⟨S, M, hst, hdf, hul, hB⟩ := hrel
    clear HS0 HD0 HU0 HB4 hz3
    have HST := Lib.hid hst; clear hst
    have HDF := Lib.hid hdf; clear hdf
    have HB := Lib.hid hB; clear hB
    have HUL := Lib.hid hul; clear hul
    obtain ⟨pv, cv, rfl⟩ := own_shape HST.out.row
    by_cases hne : S = []
    · subst hne
      rw [List.length_nil]
      have HFL := Lib.hid (outF_flow HUP.out HDF.out HEN.out)
      have HML := Lib.hid HDF.out.ml
      have HFD := Lib.hid (outF_sub (linesX x) M)
      go_wp2_with fail
      have HM0 := Lib.hid HST.out.mrk
      have HB0 := Lib.hid HB.out
      clear HST HDF HUL HB
      go_loopw [7, 8] (fun v7 v8 wi => ∃ j : Nat, v8 = .int .i64 j ∧ j ≤ (linesX x).length ∧ wi.ownsRow w2.heap.size 22 1 v7 (outF ((linesX x).take j) (M.take j)).length ((outF ((linesX x).take j) (M.take j)).map (Value.int .u32)) ∧ wi.heap[w2.heap.size]? = some (.cells (M.map Value.bool).toArray 4 (0, 0)) ∧ Below w2.heap.size w2 wi) (fun _ v8 _ => (linesX x).length - (intOf v8).toNat)
      case atStart => exact ⟨0, by go_num, Nat.zero_le _, by rw [show outF ((linesX x).take 0) (M.take 0) = [] from by rw [List.take_zero, List.take_zero]; rfl]; exact World.ownsRow_nil _ _ _ _, HM0.out, HB0.out⟩
      case round =>
        obtain ⟨j, rfl, hj, hown, hmr, hB⟩ := hrel
        have HOW := Lib.hid hown; clear hown
        have HMR := Lib.hid hmr; clear hmr
        have HB := Lib.hid hB; clear hB
        obtain ⟨pv', cv', rfl⟩ := own_shape HOW.out
        by_cases hjl : j < (linesX x).length
        · obtain ⟨hbll, y0, -⟩ := lnR_keeps _ _ _ _ _ HB.out (HLR.out j hjl)
          have hjm : j < M.length := by rw [HML.out]; exact hjl
          have m0 : wr.cell? ⟨w2.heap.size, j, none⟩ = some (.bool M[j]) := by
            have := Lib.cell_of_heap HMR.out j
            rw [this]
            simp [hjm]
          have HTK := Lib.hid (outF_take (linesX x) M j hjl hjm)
          have hln : (outF ((linesX x).take j) (M.take j)).length ≤ 131072 := by
            have h1 := (outF_sub ((linesX x).take j) (M.take j)).length_le
            rw [List.length_map, List.length_take] at h1
            omega
          have k1 : (0 : Int) ≤ (j : Int) := by omega
          have k2 : (j : Int) < ((linesX x).length : Int) := by omega
          obtain rfl := HLP.out (by omega)
          generalize (linesX x)[j].addr = ya at *
          generalize hq : M[j] = q at *
          clear hq
          generalize hF : outF ((linesX x).take j) (M.take j) = F at *
          have HF := Lib.hid hF; clear hF
          cases q with
          | false =>
            have HT2 : Hid (outF ((linesX x).take (j + 1)) (M.take (j + 1)) = F) := Lib.hid (by rw [HTK.out]; simp)
            go_wp2
            go_roundw
            case rel => exact ⟨j + 1, by go_num, by omega, by rw [HT2.out]; exact HOW.out, HMR.out, HB.out⟩
            case measure => simp [intOf]; omega
          | true =>
            have HT2 : Hid (outF ((linesX x).take (j + 1)) (M.take (j + 1)) = F ++ [ya]) := Lib.hid (by rw [HTK.out]; simp)
            have hbz := HB.out.size
            go_wp2_with (at_builtin; refine wpList_append_own _ rfl _ _ 38 rfl w2.heap.size 22 iN (.int .u32 0) 1 4 Tryz.underlying38 HIN.out.1 HIN.out.2.1 HIN.out.2.2.1 HIN.out.2.2.2 rfl (by decide) _ _ _ rfl (HOW.out.alloc _) ⟨wr.heap.size, 0, none⟩ 1 1 [.int .u32 ya] rfl rfl (one_news (by simp [go_sem])) one_u32 (by unfold maxLen; omega) (by omega) (by simp; omega) ?_)
            intro v7 w7 hown7 hgrow7 _
            have HO7 : Hid (w7.ownsRow w2.heap.size 22 1 v7 (F ++ [ya]).length ((F ++ [ya]).map (Value.int .u32))) := Lib.hid (by rw [List.length_append, List.map_append]; exact hown7)
            have hml : w2.heap.size < wr.heap.size := (Array.getElem?_eq_some_iff.1 HMR.out).1
            have HM7 : Hid (w7.heap[w2.heap.size]? = some (.cells (M.map Value.bool).toArray 4 (0, 0))) := Lib.hid ((hgrow7.block _ (by simp; omega) (fun e => own_ne_box HOW.out HMR.out (by decide) e.symm)).trans ((Below.heap_alloc wr _ _ hml).trans HMR.out))
            have HB7 : Hid (Below w2.heap.size w2 w7) := (HB.out.alloc HB.out.size _).grown hgrow7 (by simp; omega) (fun g hg => (HOW.out.lt g hg).1)
            clear hown7 hgrow7
            go_wp2
            go_roundw
            case rel => exact ⟨j + 1, by go_num, by omega, by rw [HT2.out]; exact HO7.out, HM7.out, HB7.out⟩
            case measure => simp [intOf]; omega
        · obtain rfl : j = (linesX x).length := by omega
          have HOF := Lib.hid HOW.out
          have e1 : outF ((linesX x).take (linesX x).length) (M.take (linesX x).length) = outF (linesX x) M := by
            rw [List.take_length, List.take_of_length_le (by rw [HML.out]; exact Nat.le_refl _)]
          rw [e1] at HOF
          rw [e1]
          have HFN : Hid (FlowPost x w (.returned (.slice pv' (outF (linesX x) M).length cv')) wr) := Lib.hid (by
            refine ⟨_, _, rfl, HFL.out, ?_, HB2.out.trans (HB.out.mono HB2.out.size)⟩
            have h1 := HFD.out.length_le
            rw [List.length_map] at h1
            refine num_back HOF.out (by omega) (fun a ha => ?_)
            obtain ⟨y, hy, rfl⟩ := List.mem_map.1 (HFD.out.subset ha)
            exact (linesX_B hy).2)
          clear e1
          go_wp2
          go_ret
          exact HFN.out
    · obtain ⟨S0, r0, rfl⟩ := list_snoc hne
      clear hne
      have hsl : (S0 ++ [r0]).length = S0.length + 1 := by simp
      obtain ⟨gs, cs, hv, -, hgsl⟩ := World.ownsRow.form HST.out.row (by omega)
      cases hv
      have c0 : wr.cell? ⟨gs, S0.length, none⟩ = some (.int .i64 r0) := by
        have := World.ownsRow.cells HST.out.row (g := gs) rfl S0.length (.int .i64 r0) (by simp)
        rw [add_at] at this
        simpa using this
      rw [hsl]
      have hst1 := HST.out
      rw [hsl] at hst1
      obtain ⟨hpop, hcap⟩ := hst1.pop
      have HPOP := Lib.hid hpop; clear hpop hst1
      have hlen : S0.length ≤ 1000000 := by have := HUL.out; rw [hsl] at this; omega
      have HUM := Lib.hid (unm_of M 4 (0, 0))
      have hsz : ∀ w, (sizeOf 3).run Tryz.prog w = .ok 1 w := fun w => by simp [Tryz.sizeOf3]
      have hpre := slice_pre (P := Tryz.prog) 74 3 (some ⟨gs, 0, none⟩) (S0.length + 1) cv S0.length 1 Tryz.underlying74 hsz (by omega)
      have k0 : ((S0.length + 1 : Nat) : Int) - 1 = (S0.length : Int) := by omega
      have k0' : ((S0.length : Int) + 1) - 1 = (S0.length : Int) := by omega
      have k1 : (0 : Int) ≤ (S0.length : Int) := by omega
      clear hsz
      have hcs : r0 = -1 ∨ ∃ k : Nat, ∃ h : k < (linesX x).length, r0 = k := by
        rcases HDF.out.stk r0 (by simp) with h1 | ⟨k, hk, h1, -⟩
        · exact .inl h1
        · exact .inr ⟨k, hk, h1⟩
      rcases hcs with rfl | ⟨k, hk, rfl⟩
      · have HDS := Lib.hid (HDF.out.skip (.inl rfl))
        go_wp2
        go_roundw
        case rel => exact ⟨S0, M, HPOP.out, HDS.out, by have := HUL.out; rw [hsl] at this; omega, HB.out⟩
        case measure => simp [lenOf]
      · have hkm : k < M.length := by rw [HDF.out.ml]; exact hk
        have hk0 : (0 : Int) ≤ (k : Int) := by omega
        have hk1 : (k : Int) < ((linesX x).length : Int) := by omega
        have hk2 : ¬ ((k : Int) < 0) := by omega
        cases hmk : M[k] with
        | true =>
          have hmk2 : M[k]? = some true := by rw [List.getElem?_eq_getElem hkm, hmk]
          have m0 := HST.out.at hmk2
          have HDS := Lib.hid (HDF.out.skip (.inr ⟨k, rfl, hmk2⟩))
          clear hmk hmk2
          go_wp2
          go_roundw
          case rel => exact ⟨S0, M, HPOP.out, HDS.out, by have := HUL.out; rw [hsl] at this; omega, HB.out⟩
          case measure => simp [lenOf]
        | false =>
          have hmk2 : M[k]? = some false := by rw [List.getElem?_eq_getElem hkm, hmk]
          have m0 := HST.out.at hmk2
          have m1 : wr.frozen? ⟨w2.heap.size, k, none⟩ = false := Lib.frozen_of_heap HST.out.mrk k
          have HUS := Lib.hid (unm_set M k hmk2)
          have HDM := Lib.hid (HDF.out.mark hk)
          have HSM := Lib.hid (HPOP.out.mark (k := k))
          have HUB : Hid (S0.length + 3 * unm (M.set k true) + 2 ≤ 3 * (linesX x).length) := Lib.hid (by have := HUL.out; rw [hsl] at this; have := HUS.out; omega)
          have HBM : Hid (Below w2.heap.size w2 (wr.setCell ⟨w2.heap.size, k, none⟩ (.bool true))) := HB.out.setCell (Nat.le_refl _) _
          obtain ⟨hbll, y0, y1, y2, y3, y4, y5, y6, hyb⟩ := lnR_keeps _ _ _ _ _ HBM.out (HLR.out k hk)
          rw [behind_two] at HDM
          obtain rfl := HLP.out (by omega)
          clear hmk hmk2 hyb
          have HLK : Hid (∀ W, Below w2.heap.size w2 W → LnR W bl (ol + k * 7) (linesX x)[k]) := Lib.hid fun W hW => lnR_keeps _ _ _ _ _ hW (HLR.out k hk)
          have HATW := Lib.hid (fun (a : Int) (W : World) (hW : Below w2.heap.size w2 W) => at36 _ (linesX x) a W (HRL.out.keep lnR_keeps hW) HUP.out)
          have HGO := Lib.hid (fun W => rgoesOn36 (linesX x)[k].ins W)
          have HJU := Lib.hid (fun W => rjumps36 (linesX x)[k].ins W)
          generalize goesB (linesX x)[k].ins = j2 at HGO HDM
          generalize jumpsB (linesX x)[k].ins = j1 at HJU HDM
          generalize (linesX x)[k] = y at *
          obtain ⟨ya, ⟨io, id, ia, ib, im⟩, yi⟩ := y
          unfold insV at HJU HGO
          simp only [] at HJU HGO HDM y0 y1 y2 y3 y4 y5 y6
          have rw1 : IntKind.u32.wrap (ya + 8) = w32 (ya + 8) := by rw [IntKind.wrap_u32]; rfl
          have rw2 : (ya + 8) % 4294967296 = w32 (ya + 8) := rfl
          generalize hWA : w32 (ya + 8) = wa at rw1 rw2 HDM
          clear hWA
          go_upto_region 9 with fail
          generalize wr.setCell ⟨w2.heap.size, k, none⟩ (.bool true) = wm at *
          go_upto_region 9 with fail
          go_cut [56] (fun vc wx => vc = .bool (yi && j2) ∧ Below w2.heap.size w2 wx ∧ DfsSt w2.heap.size w2.heap.size (.slice (some ⟨gs, 0, none⟩) S0.length cv) S0 (M.set k true) wx)
          case first =>
            cases yi with
            | false =>
              go_wp2
              go_meet
              exact ⟨by simp, HBM.out, HSM.out⟩
            | true =>
              go_wp2_with fail
              refine (HGO.out _).mono ?_
              rintro e wq ⟨rfl, hBq⟩
              have HBQ := Lib.hid (HBM.out.trans (hBq.mono HBM.out.size))
              have HSQ := Lib.hid (HSM.out.keep hBq)
              clear hBq
              go_wp2
              go_meet
              exact ⟨by simp, HBQ.out, HSQ.out⟩
          case rest =>
            obtain ⟨rfl, hbx, hsx⟩ := hcut
            have HBA1 := Lib.hid hbx; clear hbx
            have HSA1 := Lib.hid hsx; clear hsx
            clear y0 y1 y2 y3 y4 y5 y6 hbll
            obtain ⟨hbll, y0, y1, y2, y3, y4, y5, y6, -⟩ := HLK.out wc HBA1.out
            simp only [] at y0 y1 y2 y3 y4 y5 y6
            generalize (yi && j2) = q1 at HDM
            go_upto_if 56 with fail
            go_cut [5] (fun v5 wx => ∃ SX, DfsSt w2.heap.size w2.heap.size v5 SX (M.set k true) wx ∧ Dfs (linesX x) x.entry SX (M.set k true) (if (yi && j1) = true then [im] else []) ∧ SX.length ≤ S0.length + 1 ∧ Below w2.heap.size w2 wx)
            case first =>
              cases q1 with
              | false =>
                have HDF1 := HDM.out
                simp only [Bool.false_eq_true, if_false, List.nil_append] at HDF1
                have HDG1 := Lib.hid HDF1; clear HDF1
                go_wp2
                go_meet
                exact ⟨_, HSA1.out, HDG1.out, by omega, HBA1.out⟩
              | true =>
                have HDF1 := HDM.out
                simp only [if_true, List.singleton_append] at HDF1
                have HDG1 := Lib.hid HDF1; clear HDF1
                have HAQ := Lib.hid (HATW.out wa wc HBA1.out)
                go_wp2_with fail
                refine HAQ.out.mono ?_
                rintro e wn ⟨⟨rr, rfl, hr⟩, rfl⟩
                have HDP := Lib.hid (HDG1.out.push hr)
                clear hr HAQ
                go_wp2_with (at_builtin; refine wpList_append_own _ rfl _ _ 74 rfl w2.heap.size 3 iI _ 1 8 Tryz.underlying74 HII.out.1 HII.out.2.1 HII.out.2.2.1 HII.out.2.2.2 rfl (by decide) _ _ _ rfl (HSA1.out.row.alloc _) ⟨wn.heap.size, 0, none⟩ 1 1 [.int .i64 rr] rfl rfl (one_news (by simp [go_sem])) one_i64 (by unfold maxLen; omega) (by omega) (by have := HBA1.out.size; simp; omega) ?_; intro v7 w7 hown7 hgrow7 _; have HN := Lib.hid (HSA1.out.push hown7 hgrow7 HBA1.out.size); clear hown7 hgrow7)
                have HBN := Lib.hid (HBA1.out.trans HN.out.2)
                go_wp2
                go_meet
                exact ⟨_, HN.out.1, HDP.out, by simp only [List.length_append, List.length_singleton]; omega, HBN.out⟩
            case rest =>
              obtain ⟨S1, hs1, hd1, hl1, hb1⟩ := hcut
              have HSB1 := Lib.hid hs1; clear hs1
              have HDB1 := Lib.hid hd1; clear hd1
              have HBB1 := Lib.hid hb1; clear hb1
              obtain ⟨ps1, cs1, rfl⟩ := own_shape HSB1.out.row
              clear y0 y1 y2 y3 y4 y5 y6 hbll
              obtain ⟨hbll, y0, y1, y2, y3, y4, y5, y6, -⟩ := HLK.out wc HBB1.out
              simp only [] at y0 y1 y2 y3 y4 y5 y6
              go_upto_region 11 with fail
              go_cut [80] (fun vc wx => vc = .bool (yi && j1) ∧ Below w2.heap.size w2 wx ∧ DfsSt w2.heap.size w2.heap.size (.slice ps1 S1.length cs1) S1 (M.set k true) wx)
              case first =>
                cases yi with
                | false =>
                  go_wp2
                  go_meet
                  exact ⟨by simp, HBB1.out, HSB1.out⟩
                | true =>
                  go_wp2_with fail
                  refine (HJU.out _).mono ?_
                  rintro e wq ⟨rfl, hBq⟩
                  have HBQ := Lib.hid (HBB1.out.trans (hBq.mono HBB1.out.size))
                  have HSQ := Lib.hid (HSB1.out.keep hBq)
                  clear hBq
                  go_wp2
                  go_meet
                  exact ⟨by simp, HBQ.out, HSQ.out⟩
              case rest =>
                obtain ⟨rfl, hbx, hsx⟩ := hcut
                have HBA2 := Lib.hid hbx; clear hbx
                have HSA2 := Lib.hid hsx; clear hsx
                clear y0 y1 y2 y3 y4 y5 y6 hbll
                obtain ⟨hbll, y0, y1, y2, y3, y4, y5, y6, -⟩ := HLK.out wc HBA2.out
                simp only [] at y0 y1 y2 y3 y4 y5 y6
                generalize (yi && j1) = q2 at HDB1
                cases q2 with
                | false =>
                  have HDF2 := HDB1.out
                  simp only [Bool.false_eq_true, if_false] at HDF2
                  have HDG2 := Lib.hid HDF2; clear HDF2
                  go_wp2
                  go_roundw
                  case rel => exact ⟨_, M.set k true, HSA2.out, HDG2.out, by have := HUB.out; omega, HBA2.out⟩
                  case measure =>
                    simp only [lenOf]
                    rw [HSA2.out.mrk, HST.out.mrk, unm_of, unm_of]
                    have := HUS.out
                    omega
                | true =>
                  have HDF2 := HDB1.out
                  simp only [if_true] at HDF2
                  have HDG2 := Lib.hid HDF2; clear HDF2
                  have HAQ := Lib.hid (HATW.out im wc HBA2.out)
                  go_wp2_with fail
                  refine HAQ.out.mono ?_
                  rintro e wn ⟨⟨rr, rfl, hr⟩, rfl⟩
                  have HDP := Lib.hid (HDG2.out.push hr)
                  clear hr HAQ
                  go_wp2_with (at_builtin; refine wpList_append_own _ rfl _ _ 74 rfl w2.heap.size 3 iI _ 1 8 Tryz.underlying74 HII.out.1 HII.out.2.1 HII.out.2.2.1 HII.out.2.2.2 rfl (by decide) _ _ _ rfl (HSA2.out.row.alloc _) ⟨wn.heap.size, 0, none⟩ 1 1 [.int .i64 rr] rfl rfl (one_news (by simp [go_sem])) one_i64 (by unfold maxLen; omega) (by omega) (by have := HBA2.out.size; simp; omega) ?_; intro v7 w7 hown7 hgrow7 _; have HN := Lib.hid (HSA2.out.push hown7 hgrow7 HBA2.out.size); clear hown7 hgrow7)
                  have HBN := Lib.hid (HBA2.out.trans HN.out.2)
                  obtain ⟨pz, cz, rfl⟩ := own_shape HN.out.1.row
                  go_wp2
                  go_roundw
                  case rel => exact ⟨_, M.set k true, HN.out.1, HDP.out, by have := HUB.out; simp only [List.length_append, List.length_singleton]; omega, HBN.out⟩
                  case measure =>
                    simp only [lenOf, List.length_append, List.length_singleton]
                    rw [HN.out.1.mrk, HST.out.mrk, unm_of, unm_of]
                    have := HUS.out
                    omega
end Go.Proofs.YtghopakbefageaaGreat
