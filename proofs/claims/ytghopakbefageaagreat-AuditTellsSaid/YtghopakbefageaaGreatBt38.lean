/- The walk of audit's flow. -/
import Derived.Test.YtghopakbefageaaGreatBt35
namespace Go.Proofs.YtghopakbefageaaGreat
open Go.RowKit Go.Maps
def FlowPost (x : GImg) (w : World) (e : Ending) (w' : World) : Prop := ∃ v l, e = .returned v ∧ FlowIs (linesX x) x.entry l ∧ RowAt 1 NumR w' v l ∧ Below w.heap.size w w'
theorem wp_scope_jumps3 {P : Program} {a : Act} {w : World} {Q : Exit → Act → World → Prop} {c X : Code} (l : Nat) (J : Act → World → Prop) (μ : Act → World → Nat) (hf : findLabel c l = some (Code.seq Code.skip X))
    (hX : ∀ a w, J a w → X.wp P (Exit.jump l (fun a' w' => J a' w' ∧ μ a' w' < μ a w) Q) a w)
    (first : (∀ a w, J a w → X.wp P (Exit.jump l J Q) a w) → c.wp P (Exit.jump l J Q) a w) : (Code.scope c).wp P Q a w :=
  wp_scope_jumps l J μ hf (first fun a w h => wp_mono (hX a w h) fun e a' w' hq => by
    cases e with
    | goto l' => exact ⟨hq.1, hq.2.1⟩
    | normal => exact hq
    | exit id => exact hq
    | ret => exact hq
    | panic ch => exact hq
    | outgrown => exact hq) (fun a w h => wp_seq (wp_skip (hX a w h)))
set_option maxRecDepth 100000 in
/-- what holds wherever flow is at its label -/
def FlowJ (x : GImg) (w0 : World) (cb mq : Nat) (a' : Act) (wr : World) : Prop :=
  ∃ (n : Nat) (v : Value) (q : List Int) (u6 u7 u8 u9 u10 u11 u12 u13 u14 u15 u16 u17 u18 u19 u20 u21 u22 u23 u24 u25 u26 u27 u28 u29 u30 u31 u32 u33 u34 u35 u36 u37 u38 u39 u40 u41 u42 u43 u44 u45 u46 u47 u48 u49 u50 u51 u52 u53 u54 u55 u56 u57 u58 u59 u60 u61 u62 u63 u64 u65 u66 u67 u68 : Value), a' = { tmps := (.pointer (some ⟨cb, 0, none⟩) :: undef :: .slice none 0 0 :: v :: .map (some mq) :: .int .i64 n :: u6 :: u7 :: u8 :: u9 :: u10 :: u11 :: u12 :: u13 :: u14 :: u15 :: u16 :: u17 :: u18 :: u19 :: u20 :: u21 :: u22 :: u23 :: u24 :: u25 :: u26 :: u27 :: u28 :: u29 :: u30 :: u31 :: u32 :: u33 :: u34 :: u35 :: u36 :: u37 :: u38 :: u39 :: u40 :: u41 :: u42 :: u43 :: u44 :: u45 :: u46 :: u47 :: u48 :: u49 :: u50 :: u51 :: u52 :: u53 :: u54 :: u55 :: u56 :: u57 :: u58 :: u59 :: u60 :: u61 :: u62 :: u63 :: u64 :: u65 :: u66 :: u67 :: u68 :: []).toArray, defers := [] } ∧ FlowSt w0.heap.size mq v q wr ∧ Bfs (linesX x) x.entry q n ∧ n < q.length ∧ Below w0.heap.size w0 wr
set_option maxHeartbeats 8000000 in
set_option maxRecDepth 100000 in
theorem flow36 {base cb mb : Nat} {c : CodeH} {v : Value} {x : GImg} (w : World) (h : LookSt base cb mb c v (linesX x) w) (hx : HeadOf x c) (hen : 0 ≤ x.entry ∧ x.entry ≤ 4294967295) :
    Calls Tryz.prog 31 #[.pointer (some ⟨cb, 0, none⟩)] w (FlowPost x w) := by
  obtain ⟨pa, ca, rfl⟩ := own_shape h.row
  obtain ⟨pg, ve, vp, co, en, vs⟩ := c
  have he : en = x.entry := hx.en
  subst he
  have HST := Lib.hid h
  obtain ⟨-, a6, a7, -, -⟩ := h.cells
  obtain ⟨-, -, -, -, a4⟩ := h.cells4
  have hcb : cb < w.heap.size := h.lt
  obtain ⟨iN, hi0, hz0, hz1, hz2⟩ := info_parts info_num
  have HI := Lib.hid (And.intro hi0 (And.intro hz0 (And.intro hz1 hz2)))
  clear hi0 hz0 hz1 hz2
  clear h hx
  by_cases h0 : (linesX x).length = 0
  · have HFN : Hid (FlowPost x w (.returned (.slice none 0 0)) w) := Lib.hid ⟨_, [], rfl, flow_no (List.eq_nil_of_length_eq_zero h0), rowAt_nil, Below.refl _ _⟩
    have hl : (((linesX x).length : Int) == 0) = true := by rw [beq_iff_eq]; omega
    go_enter Tryz.func31, Tryz.ntmps31
    go_wp2_with fail
    refine wp_scope_straight ?_
    go_wp2
    simp only [Exit.noGoto]
    go_ret
    exact HFN.out
  · have HEH : Hid (hasA (linesX x) x.entry = true) := Lib.hid (entry_has (by
      cases hk : imgOkB x with
      | true => rfl
      | false => rw [linesX_no hk] at h0; exact absurd rfl h0))
    have hl : (((linesX x).length : Int) == 0) = false := by rw [beq_eq_false_iff_ne]; omega
    have hLL := linesX_len x
    have HEO : Hid (u32ok x.entry) := Lib.hid hen
    have hmm := @run_makeMap Tryz.prog
    have HM0 : Hid (MapKFn u32E ((w.alloc (.cells #[.int .u32 x.entry] 22)).alloc (.map #[] 0)) (w.heap.size + 1) 0 (inQ [])) := Lib.hid (by
      have := MapKFn.made u32E (w.alloc (.cells #[.int .u32 x.entry] 22))
      rw [inQ_zero] at this
      simpa using this)
    have hsz : w.heap.size + 1 < ((w.alloc (.cells #[.int .u32 x.entry] 22)).alloc (.map #[] 0)).heap.size := by simp
    go_enter Tryz.func31, Tryz.ntmps31
    go_wp2_with fail
    refine wp_scope_jumps3 0 (FlowJ x w cb (w.heap.size + 1)) (fun a' _ => 2000000 - (intOf (a'.tmps.getD 5 undef)).toNat) rfl ?_ ?_
    · rintro a' wr ⟨n, v, q, u6, u7, u8, u9, u10, u11, u12, u13, u14, u15, u16, u17, u18, u19, u20, u21, u22, u23, u24, u25, u26, u27, u28, u29, u30, u31, u32, u33, u34, u35, u36, u37, u38, u39, u40, u41, u42, u43, u44, u45, u46, u47, u48, u49, u50, u51, u52, u53, u54, u55, u56, u57, u58, u59, u60, u61, u62, u63, u64, u65, u66, u67, u68, rfl, hfs, hbf, hn, hbel⟩
      obtain ⟨gq, cq, rfl, hgb, hgl⟩ := World.ownsRow.form hfs.row (by omega)
      have c0 : wr.cell? ⟨gq, n, none⟩ = some (.int .u32 q[n]) := by
        have := World.ownsRow.cells hfs.row (g := gq) rfl n (.int .u32 q[n]) (by simp [hn])
        rw [add_at] at this
        simpa using this
      have hmem := hbf.mem q[n] (List.getElem_mem hn)
      obtain ⟨hy1, hy2⟩ := lineOf_mem hmem.1
      have HLO : Hid (lineOf (linesX x) q[n] = lineOf (linesX x) q[n]) := Lib.hid rfl
      have HFS := Lib.hid hfs; clear hfs
      have HBF := Lib.hid hbf; clear hbf
      have HBE := Lib.hid hbel; clear hbel
      have HSTr := Lib.hid (HST.out.keep HBE.out)
      have hqL : q.length ≤ (linesX x).length := HBF.out.len
      have hlk : ∀ W : World, Below w.heap.size w W → (Instr.lookup 55 (.map (some mb)) (.int .u32 q[n]) false).run Tryz.prog W = .ok (lineV (lineOf (linesX x) q[n])) W := fun W hW => by
        have := (HST.out.keep hW).look hy1
        rw [hy2] at this; exact this
      have HBH : Hid (∀ W, Calls Tryz.prog 54 #[lineV (lineOf (linesX x) q[n])] W (BehPost (lineOf (linesX x) q[n]) W)) := fun W => behind36 _ W (linesX_B hy1)
      have HBN := Lib.hid (behind_bd (linesX_B hy1))
      have HBL := Lib.hid (behind_len (lineOf (linesX x) q[n]))
      have HQN : Hid (q[n]? = some q[n]) := Lib.hid (List.getElem?_eq_getElem hn)
      clear hmem hy1 hy2 HLO
      have hb6 := cell_keep HBE.out hcb a6
      have HLK := Lib.hid hlk; clear hlk
      have d0 : (0 : Int) ≤ (n : Int) := by omega
      have d1 : (n : Int) < (q.length : Int) := by omega
      have hzc : cb < wr.heap.size := Nat.lt_of_lt_of_le hcb HBE.out.size
      go_upto_region 6 with fail
      go_cut [36, 37, 38] (fun v36 v37 v38 wx => v37 = .int .i64 (behindL (lineOf (linesX x) q[n])).length ∧ v38 = .int .i64 0 ∧ wx.ownsRow wr.heap.size 22 1 v36 (behindL (lineOf (linesX x) q[n])).length ((behindL (lineOf (linesX x) q[n])).map (Value.int .u32)) ∧ Below wr.heap.size wr wx)
      case first =>
        go_region_held3 (fun w' => w'.cell? ⟨cb, 6, none⟩ = some (.map (some mb)) ∧ w'.cell? ⟨gq, n, none⟩ = some (.int .u32 q[n]) ∧ (Instr.lookup 55 (.map (some mb)) (.int .u32 q[n]) false).run Tryz.prog w' = .ok (lineV (lineOf (linesX x) q[n])) w') ((refine ⟨?_, ?_, HLK.out _ ?_⟩; (first | assumption | go_keep); (first | assumption | go_keep); (first | assumption | (have k0 := HBE.out; go_grown)))) ((go_at_call 54; refine (HBH.out _).mono ?_; rintro e w' ⟨vb, rfl, hrb, hbb⟩; obtain ⟨pb, kb, rfl⟩ := own_shape hrb; have k1 : w'.cell? ⟨cb, 6, none⟩ = some (.map (some mb)) := cell_keep hbb (by simp [go_sem]; exact hzc) (by simp [go_sem, *]); have k2 : w'.cell? ⟨gq, n, none⟩ = some (.int .u32 q[n]) := cell_keep hbb (by simp [go_sem]; exact hgl) (by simp [go_sem, *]); have k3 : Below w.heap.size w w' := Below.trans (by have k0 := HBE.out; go_grown) (hbb.mono (by have k4 := HBE.out.size; simp [go_sem]; exact k4))))
        all_goals
          go_wp2
          go_meet
          refine ⟨by go_num, by go_num, ?_, ?_⟩
          · exact hrb
          · exact Below.trans (Below.refl _ _).drew hbb
      case rest =>
        obtain ⟨rfl, rfl, hrb, hbx⟩ := hcut
        obtain ⟨pb, kb, rfl⟩ := own_shape hrb
        have HR0 : Hid (Rnd36 (linesX x) x.entry w (w.heap.size + 1) n q[n] (.slice pb (behindL (lineOf (linesX x) q[n])).length kb) 0 (.slice (some ⟨gq, 0, none⟩) q.length cq) q wc) := by
          refine Lib.hid ⟨HFS.out.keep hbx, HBF.out, hn, HQN.out, fun i hi h0 => absurd h0 (by omega), World.ownsRow.mono hrb HBE.out.size, ?_, HBE.out.trans (hbx.mono HBE.out.size)⟩
          intro g hg e
          have h1 := (World.ownsRow.lt hrb g hg).1
          simp [Value.ownBlock] at e
          omega
        clear hrb hbx HLK HFS HBF HBH hb6 c0 HQN HSTr hgl hgb hzc
        obtain ⟨wo, rfl⟩ : ∃ wo : World, wo = wr := ⟨_, rfl⟩
        clear HBE
        generalize q[n] = a0 at *
        have HLN : Hid (n < q.length) := Lib.hid hn
        clear hn hqL d0 d1
        go_wp2_with fail
        go_loopw [3, 38] (fun v3 v38 wi => ∃ (k : Nat) (q' : List Int), v38 = .int .i64 k ∧ k ≤ (behindL (lineOf (linesX x) a0)).length ∧ Rnd36 (linesX x) x.entry w (w.heap.size + 1) n a0 (.slice pb (behindL (lineOf (linesX x) a0)).length kb) k v3 q' wi) (fun _ v38 _ => (behindL (lineOf (linesX x) a0)).length - (intOf v38).toNat)
        case atStart => exact ⟨0, q, rfl, Nat.zero_le _, HR0.out⟩
        case round =>
          obtain ⟨k, q', rfl, hk, hr⟩ := hrel
          clear HR0
          have HR := Lib.hid hr; clear hr
          obtain ⟨pv, cv, rfl⟩ := own_shape HR.out.st.row
          have hBL := HBL.out
          by_cases hlt : k < (behindL (lineOf (linesX x) a0)).length
          · obtain ⟨gb, kb', hv, -, hgl⟩ := World.ownsRow.form HR.out.row (by omega)
            cases hv
            have c0 : wr.cell? ⟨gb, k, none⟩ = some (.int .u32 (behindL (lineOf (linesX x) a0))[k]) := by
              have := World.ownsRow.cells HR.out.row (g := gb) rfl k (.int .u32 (behindL (lineOf (linesX x) a0))[k]) (by simp [hlt])
              rw [add_at] at this
              simpa using this
            have hbu : u32ok (behindL (lineOf (linesX x) a0))[k] := HBN.out _ (List.getElem_mem hlt)
            have HAS := Lib.hid (has36 _ wr (HST.out.keep HR.out.bl) hbu)
            have HBU := Lib.hid hbu; clear hbu
            have HK := Lib.hid (rfl : (behindL (lineOf (linesX x) a0))[k] = (behindL (lineOf (linesX x) a0))[k])
            have d2 : (0 : Int) ≤ (k : Int) := by omega
            generalize hb : (behindL (lineOf (linesX x) a0))[k] = b at c0 HAS HBU
            have HB := Lib.hid hb; clear hb HK
            clear a4 a6 a7 HEH HM0 hsz HEO hmm
            go_wp2_with fail
            refine HAS.out.mono ?_
            rintro e w2 ⟨rfl, hB2⟩
            have HR2 := Lib.hid (HR.out.keep hB2)
            clear HR HAS c0 hB2
            have hcs : Hid (hasA (linesX x) b = false) ∨ (Hid (hasA (linesX x) b = true) ∧ (Hid (b ∈ q') ∨ Hid (b ∉ q'))) := by
              cases hh : hasA (linesX x) b with
              | false => exact .inl (Lib.hid rfl)
              | true => exact .inr ⟨Lib.hid rfl, (Classical.em (b ∈ q')).imp Lib.hid Lib.hid⟩
            rcases hcs with HH | ⟨HH, HQ | HQ⟩
            · rw [HH.out]
              go_wp2_with fail
              go_roundw
              case rel => exact ⟨k + 1, q', by go_num, by omega, HR2.out.skip hlt fun h => by rw [HB.out, HH.out] at h; cases h⟩
              case measure => simp [intOf]; omega
            · rw [HH.out]
              have HV : Hid ((inQ q' b).getD (.int .i64 0) = .int .i64 1) := Lib.hid (by unfold inQ; rw [if_pos HQ.out]; rfl)
              have hlk := HR2.out.st.map.look u32Keyed Tryz.underlying95 (zeroI _) HBU.out
              rw [HV.out] at hlk
              change Sem.run _ (Instr.lookup _ _ (.int .u32 b) _) _ = _ at hlk
              go_wp2_with fail
              go_roundw
              case rel => exact ⟨k + 1, q', by go_num, by omega, HR2.out.skip hlt fun _ => by rw [HB.out]; exact HQ.out⟩
              case measure => simp [intOf]; omega
            · rw [HH.out]
              have HV : Hid ((inQ q' b).getD (.int .i64 0) = .int .i64 0) := Lib.hid (by unfold inQ; rw [if_neg HQ.out]; rfl)
              have hlk := HR2.out.st.map.look u32Keyed Tryz.underlying95 (zeroI _) HBU.out
              rw [HV.out] at hlk
              change Sem.run _ (Instr.lookup _ _ (.int .u32 b) _) _ = _ at hlk
              have hqL := HR2.out.bf.len
              have hbz := HR2.out.bl.size
              go_wp2_with (first | (refine wpList_putK _ rfl _ _ _ 95 rfl 3 u32Keyed Tryz.underlying95 rfl HR2.out.st.map (by unfold maxLen; omega) b (.int .i64 1) rfl rfl HBU.out ?_; intro w4 hM4 hg4; have HM4 := Lib.hid hM4; have HG4 := Lib.hid hg4; have hz4 := hg4.size; clear hM4 hg4 hlk) | (at_builtin; refine wpList_append_own_at _ rfl _ _ 38 rfl w.heap.size 22 iN (.int .u32 0) 1 4 Tryz.underlying38 HI.out.1 HI.out.2.1 HI.out.2.2.1 HI.out.2.2.2 rfl (by decide) _ _ _ rfl ((HR2.out.st.row4 HG4.out).alloc _) ⟨w4.heap.size, 0, none⟩ 1 1 [.int .u32 b] rfl rfl (one_news (by simp [go_sem])) one_u32 (by unfold maxLen; omega) (by omega) (by simp; omega) ?_; intro v5 w5 hown5 hgrow5 _ hv5; have HN := Lib.hid (HR2.out.add hlt HB.out HH.out HQ.out HM4.out HG4.out hown5 hgrow5 hv5); clear hown5 hgrow5 hv5))
              go_roundw
              case rel => exact ⟨k + 1, _, by go_num, by omega, HN.out⟩
              case measure => simp [intOf]; omega
          · obtain rfl : k = (behindL (lineOf (linesX x) a0)).length := by omega
            have HDN := Lib.hid HR.out.done
            have hqL := HR.out.bf.len
            have hps := HR.out.pos
            clear a4 a6 a7 HEH HM0 hsz HEO hmm
            by_cases hlast : n + 1 < q'.length
            · have d3 : decide ((n : Int) + 1 < (q'.length : Int)) = true := by simp; omega
              have d4 : decide (n + 1 < q'.length) = true := by simpa using hlast
              go_wp2_with fail
              go_step3
              refine ⟨rfl, ⟨n + 1, _, q', _, _, _, _, _, _, _, _, _, _, _, _, _, _, _, _, _, _, _, _, _, _, _, _, _, _, _, _, _, _, _, _, _, _, _, _, _, _, _, _, _, _, _, _, _, _, _, _, _, _, _, _, _, _, _, _, _, _, _, _, _, _, _, rfl, HR.out.st, HDN.out, hlast, HR.out.bl⟩, ?_⟩
              simp [intOf]; omega
            · have d3 : decide ((n : Int) + 1 < (q'.length : Int)) = false := by simp; omega
              have d4 : decide (n + 1 < q'.length) = false := by simpa using hlast
              have HSORT := Lib.hid (s32_all q' w.heap.size _ wr HR.out.st.row (by omega))
              have hn1 : n + 1 = q'.length := by omega
              have HFI : Hid (FlowIs (linesX x) x.entry (sortI q')) := Lib.hid (by
                have h1 := HDN.out
                rw [hn1] at h1
                exact sort_flow h1.nd (h1.all (linesX_up x)))
              go_wp2_with fail
              refine HSORT.out.mono ?_
              rintro e w3 ⟨rfl, hU3, hk3⟩
              have HFN : Hid (FlowPost x w (.returned (.slice pv q'.length cv)) w3) := Lib.hid (by
                refine ⟨_, _, rfl, HFI.out, ?_, HR.out.bl.trans (hk3.below HR.out.bl.size (fun g hg hs => by have := (HR.out.st.row.lt g hs).1; omega))⟩
                refine num_back hU3 (by rw [sortI_length]; omega) (fun b hb => ?_)
                obtain ⟨y, hy, he⟩ := hasA_mem.1 (HDN.out.mem b ((sortI_mem q' b).1 hb)).1
                rw [← he]
                exact (linesX_B hy).2)
              clear hk3 hU3
              go_wp2_with fail
              simp only [Exit.jump]
              go_ret
              exact HFN.out
    · intro hX
      have HX := Lib.hid hX; clear hX
      go_wp2_with (refine wpList_insertK _ rfl (.tmp 20) (.tmp 25) (.const (.int .i64 1)) 95 rfl 3 u32Keyed Tryz.underlying95 rfl HM0.out (by unfold maxLen; omega) x.entry (.int .i64 1) rfl rfl HEO.out ?_; intro w4 hM4 hg4)
      go_step3
      rename_i K1 hK1
      show K1 _ _
      refine hK1 _ _ (HX.out _ _ ⟨0, _, [x.entry], _, _, _, _, _, _, _, _, _, _, _, _, _, _, _, _, _, _, _, _, _, _, _, _, _, _, _, _, _, _, _, _, _, _, _, _, _, _, _, _, _, _, _, _, _, _, _, _, _, _, _, _, _, _, _, _, _, _, _, _, _, _, _, rfl, ⟨?_, ?_, by omega⟩, Bfs.start HEH.out, by simp, ?_⟩)
      · have hr : ((w.alloc (.cells #[.int .u32 x.entry] 22)).alloc (.map #[] 0)).ownsRow w.heap.size 22 1 (.slice (some ⟨w.heap.size, 0, none⟩) 1 1) 1 [.int .u32 x.entry] := (World.ownsRow_lit w #[.int .u32 x.entry] 1 (Nat.le_refl _) (by unfold maxLen; omega) rfl).alloc _
        exact own_congr hr fun g hg => hg4.block g (by cases hg; simp; omega) (by cases hg; simp)
      · rw [inQ_put] at hM4; exact hM4
      · exact (((Below.refl _ _).alloc (Nat.le_refl _) _).alloc (by simp) _).grown hg4 (by simp; omega) (fun k hk => by cases hk; omega)
end Go.Proofs.YtghopakbefageaaGreat
