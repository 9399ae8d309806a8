/- The walk of aediculeref34.Moves. -/
import Derived.Test.YtiegjplldfodkaaDoorWTabMoves
import Derived.Test.YtiegjplldfodkaaDoorWRefTabMay
import Derived.Deep.RegionHeld3
namespace Go.Proofs.YtiegjplldfodkaaDoor
open Go.RowKit
theorem mv_snoc {w : World} {B : Nat} {e : TypeId} {v : Value} {ms ms' : List GMv} {x : GMv} (h : ms' = ms ++ [x]) (ho : w.ownsRow B e 4 v (ms.length + 1) (ms.flatMap mvCells ++ mvCells x)) : w.ownsRow B e 4 v ms'.length (ms'.flatMap mvCells) := by
  have e1 : (ms ++ [x]).flatMap mvCells = ms.flatMap mvCells ++ mvCells x := by simp
  rw [h, List.length_append, e1]; exact ho
set_option maxRecDepth 100000 in
set_option maxHeartbeats 4000000 in
theorem refMoves_any (va vb : Value) (a b : List GTs) (w : World) (h : TabAt w va a) (h' : TabAt w vb b) :
    Calls Tryd.prog 21 #[va, vb] w (MvPost (movesOf a b) w) := by
  obtain ⟨pa, ca, _, _, rfl, -, hmaxa, -⟩ := id h
  obtain ⟨pb, cb, _, _, rfl, -, hmaxb, -⟩ := id h'
  have HA := Lib.hid h; have HBT := Lib.hid h'; clear h h'
  have HCA := Lib.hid (refTabMay_any _ a w HA.out)
  have HCB := Lib.hid (fun (w' : World) (hb : Below w.heap.size w w') => refTabMay_any _ b w' (TabAt.keep' hb HBT.out))
  by_cases hoa : tabOk a = true
  case neg =>
    have hoa' : tabOk a = false := by simpa using hoa
    rw [hoa'] at HCA
    have HR : Hid (movesOf a b = []) := moves_bad (.inl hoa')
    clear hoa hoa'
    go_enter Tryd.func21, Tryd.ntmps21
    go_wp2_with fail
    refine HCA.out.mono ?_
    rintro e w1 ⟨rfl, hB⟩
    clear HCA
    go_wp2
    go_ret
    rw [HR.out]
    exact ⟨_, rfl, rowAt_nil, hB⟩
  rw [hoa] at HCA
  by_cases hob : tabOk b = true
  case neg =>
    have hob' : tabOk b = false := by simpa using hob
    rw [hob'] at HCB
    have HR : Hid (movesOf a b = []) := moves_bad (.inr hob')
    clear hoa hob hob'
    go_enter Tryd.func21, Tryd.ntmps21
    go_wp2_with fail
    refine HCA.out.mono ?_
    rintro e w1 ⟨rfl, hB⟩
    have HB := Lib.hid hB; clear hB HCA
    go_wp2_with fail
    refine (HCB.out _ HB.out).mono ?_
    rintro e w2 ⟨rfl, hB⟩
    clear HCB
    go_wp2
    go_ret
    rw [HR.out]
    exact ⟨_, rfl, rowAt_nil, HB.out.trans (hB.mono HB.out.size)⟩
  rw [hob] at HCB
  have hla := tab_len hoa
  have hlb := tab_len hob
  have HR := Lib.hid (moves_def hoa hob)
  clear hoa hob
  obtain ⟨iS, s0, s1, s2, s3⟩ := info_parts info_mv
  have HI := Lib.hid (And.intro s0 (And.intro s1 (And.intro s2 s3)))
  clear s0 s1 s2 s3
  go_enter Tryd.func21, Tryd.ntmps21
  go_wp2_with fail
  refine HCA.out.mono ?_
  rintro e w1 ⟨rfl, hB⟩
  have HB0 := Lib.hid hB; clear hB HCA
  go_wp2_with fail
  refine (HCB.out _ HB0.out).mono ?_
  rintro e w2 ⟨rfl, hB⟩
  replace HB0 := Lib.hid (HB0.out.trans (hB.mono HB0.out.size))
  clear hB HCB
  go_wp2
  go_loopw [5, 6] (fun v5 v6 wr => ∃ i : Nat, i ≤ a.length ∧ v6 = .int .i64 i ∧ wr.ownsRow w.heap.size 78 4 v5 (movL a b i).length ((movL a b i).flatMap mvCells) ∧ Below w.heap.size w wr) (fun _ v6 _ => a.length - (intOf v6).toNat)
  case atStart => exact ⟨0, Nat.zero_le _, rfl, World.ownsRow_nil _ _ _ _, HB0.out⟩
  case round =>
    clear HB0
    obtain ⟨i, hi, rfl, hown, hbel⟩ := hrel
    have HO := Lib.hid hown; have HB := Lib.hid hbel
    clear hown hbel
    by_cases hlt : i < a.length
    · obtain ⟨p', cap', b', o', e', -, -, q1, q2⟩ := HA.out
      injection e' with e1 e2 e3
      subst e1; subst e3; clear e2
      obtain rfl := q1 (by omega)
      have HQ := Lib.hid (q2 i hlt)
      obtain ⟨g0, g1, g2, g3, g4, g5, -⟩ := tsR_keeps _ _ _ _ _ HB.out (q2 i hlt)
      clear q1 q2
      have kI : (i : Int) < (a.length : Int) := by omega
      have k0 : (0 : Int) ≤ (i : Int) := by omega
      have HFY : Hid (mvF b a[i] = true → movL a b (i + 1) = movL a b i ++ [mv1 b a[i]]) := movL_yes hlt
      have HFN : Hid (mvF b a[i] = false → movL a b (i + 1) = movL a b i) := movL_no hlt
      have hfl := movL_len (a := a) (b := b) (i := i)
      skip
      generalize movL a b i = ms at HO HFY HFN hfl
      generalize a[i] = x at HQ g1 g2 g3 g4 g5 HFY HFN
      have HOF := Lib.hid (fun (w' : World) (hb : Below w.heap.size w w') => refOf_any _ b x w' (TabAt.keep' hb HBT.out))
      simp only [mvF, mv1] at HFY HFN
      unfold IntPost at HOF
      generalize ofT b x = c at HOF HFY HFN
      obtain ⟨xn, xo, xa, xs, xk⟩ := x
      simp only [] at g1 g2 g3 g4 g5 HOF HFY HFN
      go_wp2_with fail
      refine (HOF.out _ HB.out).mono ?_
      rintro e w3 ⟨rfl, hb⟩
      replace HO := Lib.hid (ownsRow_below hb HO.out)
      replace HB := Lib.hid (HB.out.trans (hb.mono HB.out.size))
      clear hb g0 g1 g2 g3 g4 g5 HOF
      obtain ⟨h0, h1, h2, h3, -, -, -⟩ := HQ.out
      have g1 := cell_keep HB.out h0 h1
      have g2 := cell_keep HB.out h0 h2
      have g3 := cell_keep HB.out h0 h3
      simp only [] at g1 g2 g3
      have HH := Lib.hid (And.intro h0 (And.intro h1 (And.intro h2 h3)))
      clear h0 h1 h2 h3 HQ
      by_cases hc : c = xa
      · have HE := Lib.hid (HFN.out (by simpa using hc))
        have HO9 : Hid (w3.ownsRow w.heap.size 78 4 u5 (movL a b (i + 1)).length ((movL a b (i + 1)).flatMap mvCells)) := by rw [Hid, HE.out]; exact HO.out
        have t1 : (c != xa) = false := by simpa using hc
        clear hc HFY HFN
        go_wp2
        go_roundw
        case rel => exact ⟨i + 1, by omega, by go_num, HO9.out, HB.out⟩
        case measure => simp [intOf]; omega
      · have HE := Lib.hid (HFY.out (by simpa using hc))
        have t1 : (c != xa) = true := by simpa using hc
        clear hc HFY HFN
        have hz := HB.out.size
        obtain ⟨pv, cv, hv⟩ := own_shape HO.out
        subst hv
        go_wp2_with fail
        clear t1
        go_region_held3 (fun w' => w'.cell? ⟨b', o' + i * 5, none⟩ = some (.string xn) ∧ w'.cell? ⟨b', o' + i * 5 + 1, none⟩ = some (.string xo) ∧ w'.cell? ⟨b', o' + i * 5 + 2, none⟩ = some (.int .u32 xa)) (first | go_keep | (refine ⟨?_, ?_, ?_⟩ <;> assumption))
          (((refine step_append_own_at rfl (.tmp 36) (.tmp 54) 39 rfl w.heap.size 78 iS _ 4 40 Tryd.underlying39 HI.out.1 HI.out.2.1 HI.out.2.2.1 HI.out.2.2.2 rfl (by decide) (.slice pv ms.length cv) ms.length (ms.flatMap mvCells) (by simp [Act.eval]) ((World.ownsRow.drew HO.out).alloc _) ⟨w3.heap.size, 0, none⟩ 1 1 (mvCells ⟨xn, xo, xa, c⟩) (by simp [Act.eval]) rfl (new_four w3.drew _ _ _ _) (four_one _) (by unfold maxLen; omega) (by omega) (by simp; omega) ?_); intro v' w9 hown hgrow hv; obtain ⟨pw, cw, rfl⟩ := own_shape hown; have HB9 : Hid (Below w.heap.size w w9) := (HB.out.drew.alloc hz _).grown hgrow (by simp; omega) (fun q e => (World.ownsRow.lt HO.out q e).1); have m1 := cell_keep HB9.out HH.out.1 HH.out.2.1; have m2 := cell_keep HB9.out HH.out.1 HH.out.2.2.1; have m3 := cell_keep HB9.out HH.out.1 HH.out.2.2.2; have HO9 : Hid (w9.ownsRow w.heap.size 78 4 (.slice pw (ms.length + 1) cw) (movL a b (i + 1)).length ((movL a b (i + 1)).flatMap mvCells)) := mv_snoc HE.out hown; clear hown hgrow hv))
        all_goals
          clear HO HE g1 g2 g3
          go_wp2
          go_roundw
          case rel => exact ⟨i + 1, by omega, by go_num, HO9.out, HB9.out⟩
          case measure => simp [intOf]; omega
    · have HE : Hid (i = a.length) := by rw [Hid]; omega
      have HO2 : Hid (wr.ownsRow w.heap.size 78 4 u5 (movR (movL a b a.length) a b 0).length ((movR (movL a b a.length) a b 0).flatMap mvCells)) := by
        have e1 : movR (movL a b a.length) a b 0 = movL a b i := by rw [HE.out]; simp [movR]
        rw [Hid, e1]; exact HO.out
      obtain ⟨pv0, cv0, hv0⟩ := own_shape HO2.out
      clear HO HE
      subst hv0
      go_wp2
      clear hi hlt
      go_loopw [5, 8] (fun v5 v8 wr => ∃ i : Nat, i ≤ b.length ∧ v8 = .int .i64 i ∧ wr.ownsRow w.heap.size 78 4 v5 (movR (movL a b a.length) a b i).length ((movR (movL a b a.length) a b i).flatMap mvCells) ∧ Below w.heap.size w wr) (fun _ v8 _ => b.length - (intOf v8).toNat)
      case atStart => exact ⟨0, Nat.zero_le _, rfl, HO2.out, HB.out⟩
      case round =>
        clear HB HO2
        obtain ⟨i, hi, rfl, hown, hbel⟩ := hrel
        have HO := Lib.hid hown; have HB := Lib.hid hbel
        clear hown hbel
        by_cases hlt : i < b.length
        · obtain ⟨p', cap', b', o', e', -, -, q1, q2⟩ := HBT.out
          injection e' with e1 e2 e3
          subst e1; subst e3; clear e2
          obtain rfl := q1 (by omega)
          have HQ := Lib.hid (q2 i hlt)
          obtain ⟨g0, g1, g2, g3, g4, g5, -⟩ := tsR_keeps _ _ _ _ _ HB.out (q2 i hlt)
          clear q1 q2
          have kI : (i : Int) < (b.length : Int) := by omega
          have k0 : (0 : Int) ≤ (i : Int) := by omega
          have HFY : Hid (mvG a b[i] = true → movR (movL a b a.length) a b (i + 1) = movR (movL a b a.length) a b i ++ [mv2 b[i]]) := movR_yes hlt
          have HFN : Hid (mvG a b[i] = false → movR (movL a b a.length) a b (i + 1) = movR (movL a b a.length) a b i) := movR_no hlt
          have hfl := movR_len (l := movL a b a.length) (a := a) (b := b) (i := i)
          have hl0 := movL_len (a := a) (b := b) (i := a.length)
          generalize movR (movL a b a.length) a b i = ms at HO HFY HFN hfl
          generalize b[i] = x at HQ g1 g2 g3 g4 g5 HFY HFN
          have HOF := Lib.hid (fun (w' : World) (hb : Below w.heap.size w w') => refOf_any _ a x w' (TabAt.keep' hb HA.out))
          simp only [mvG, mv2] at HFY HFN
          unfold IntPost at HOF
          generalize ofT a x = c at HOF HFY HFN
          obtain ⟨xn, xo, xa, xs, xk⟩ := x
          simp only [] at g1 g2 g3 g4 g5 HOF HFY HFN
          go_wp2_with fail
          refine (HOF.out _ HB.out).mono ?_
          rintro e w3 ⟨rfl, hb⟩
          replace HO := Lib.hid (ownsRow_below hb HO.out)
          replace HB := Lib.hid (HB.out.trans (hb.mono HB.out.size))
          clear hb g0 g1 g2 g3 g4 g5 HOF
          obtain ⟨h0, h1, h2, h3, -, -, -⟩ := HQ.out
          have g1 := cell_keep HB.out h0 h1
          have g2 := cell_keep HB.out h0 h2
          have g3 := cell_keep HB.out h0 h3
          simp only [] at g1 g2 g3
          have HH := Lib.hid (And.intro h0 (And.intro h1 (And.intro h2 h3)))
          clear h0 h1 h2 h3 HQ
          by_cases hc : c = 0
          · have HE := Lib.hid (HFY.out (by simpa using hc))
            have t1 : (c == 0) = true := by simpa using hc
            clear hc HFY HFN
            have hz := HB.out.size
            obtain ⟨pv, cv, hv⟩ := own_shape HO.out
            subst hv
            go_wp2_with fail
            clear t1
            go_region_held3 (fun w' => w'.cell? ⟨b', o' + i * 5, none⟩ = some (.string xn) ∧ w'.cell? ⟨b', o' + i * 5 + 1, none⟩ = some (.string xo) ∧ w'.cell? ⟨b', o' + i * 5 + 2, none⟩ = some (.int .u32 xa)) (first | go_keep | (refine ⟨?_, ?_, ?_⟩ <;> assumption))
              (((refine step_append_own_at rfl (.tmp 69) (.tmp 86) 39 rfl w.heap.size 78 iS _ 4 40 Tryd.underlying39 HI.out.1 HI.out.2.1 HI.out.2.2.1 HI.out.2.2.2 rfl (by decide) (.slice pv ms.length cv) ms.length (ms.flatMap mvCells) (by simp [Act.eval]) ((World.ownsRow.drew HO.out).alloc _) ⟨w3.heap.size, 0, none⟩ 1 1 (mvCells ⟨xn, xo, 0, xa⟩) (by simp [Act.eval]) rfl (new_four w3.drew _ _ _ _) (four_one _) (by unfold maxLen; omega) (by omega) (by simp; omega) ?_); intro v' w9 hown hgrow hv; obtain ⟨pw, cw, rfl⟩ := own_shape hown; have HB9 : Hid (Below w.heap.size w w9) := (HB.out.drew.alloc hz _).grown hgrow (by simp; omega) (fun q e => (World.ownsRow.lt HO.out q e).1); have m1 := cell_keep HB9.out HH.out.1 HH.out.2.1; have m2 := cell_keep HB9.out HH.out.1 HH.out.2.2.1; have m3 := cell_keep HB9.out HH.out.1 HH.out.2.2.2; have HO9 : Hid (w9.ownsRow w.heap.size 78 4 (.slice pw (ms.length + 1) cw) (movR (movL a b a.length) a b (i + 1)).length ((movR (movL a b a.length) a b (i + 1)).flatMap mvCells)) := mv_snoc HE.out hown; clear hown hgrow hv))
            all_goals
              clear HO HE g1 g2 g3
              go_wp2
              go_roundw
              case rel => exact ⟨i + 1, by omega, by go_num, HO9.out, HB9.out⟩
              case measure => simp [intOf]; omega
          · have HE := Lib.hid (HFN.out (by simpa using hc))
            have HO9 : Hid (w3.ownsRow w.heap.size 78 4 u5 (movR (movL a b a.length) a b (i + 1)).length ((movR (movL a b a.length) a b (i + 1)).flatMap mvCells)) := by rw [Hid, HE.out]; exact HO.out
            have t1 : (c == 0) = false := by simpa using hc
            clear hc HFY HFN
            go_wp2
            go_roundw
            case rel => exact ⟨i + 1, by omega, by go_num, HO9.out, HB.out⟩
            case measure => simp [intOf]; omega
        · have HE : Hid (i = b.length) := by rw [Hid]; omega
          have ho := HO.out
          rw [HE.out] at ho
          obtain ⟨pv, cv, hv⟩ := own_shape ho
          subst hv
          have hl1 := movL_len (a := a) (b := b) (i := a.length)
          have hl2 := movR_len (l := movL a b a.length) (a := a) (b := b) (i := b.length)
          have HTA : Hid (RowAt 4 MvR wr (.slice pv (movR (movL a b a.length) a b b.length).length cv) (movR (movL a b a.length) a b b.length)) := mv_back (by omega) ho
          clear ho HO hl1 hl2
          rw [← HR.out] at HTA ⊢
          go_wp2
          go_ret
          exact ⟨_, rfl, HTA.out, HB.out⟩
end Go.Proofs.YtiegjplldfodkaaDoor
