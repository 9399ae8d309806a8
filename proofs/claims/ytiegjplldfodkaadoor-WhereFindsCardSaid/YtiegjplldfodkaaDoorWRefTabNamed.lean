/- The walk of aediculeref34.Named. -/
import Derived.Test.YtiegjplldfodkaaDoorWTabNamed
namespace Go.Proofs.YtiegjplldfodkaaDoor
open Go.RowKit
set_option maxRecDepth 100000 in
set_option maxHeartbeats 2000000 in
theorem refNamed_any (v : Value) (t : List GTs) (n : ByteArray) (w : World) (h : TabAt w v t) :
    Calls Tryd.prog 18 #[v, .string n] w (TabPost (namedOf t n) w) := by
  obtain ⟨p, cap, b, o, rfl, hcap, hmax, -⟩ := id h
  have HBD := Lib.hid (TabAt.bd h)
  have H := Lib.hid h; clear h
  have HMY := Lib.hid (fun (w' : World) (hb : Below w.heap.size w w') => refTabMay_any _ t w' (TabAt.keep' hb H.out))
  by_cases hok : tabOk t = true
  case neg =>
    have hok' : tabOk t = false := by simpa using hok
    rw [hok'] at HMY
    have HR : Hid (namedOf t n = []) := by simp [Hid, namedOf, hok']
    clear hok hok'
    by_cases hl : 0 < t.length
    · have d : decide ((0 : Int) < (t.length : Int)) = true := by simp; omega
      have d' : decide (0 < t.length) = true := by simpa using hl
      go_enter Tryd.func18, Tryd.ntmps18
      go_wp2
      go_loopw [5, 6] (fun v5 v6 wr => v5 = .slice none 0 0 ∧ v6 = .int .i64 0 ∧ w = wr) (fun _ _ _ => 0)
      case atStart => exact ⟨rfl, rfl, rfl⟩
      case round =>
        obtain ⟨rfl, rfl, rfl⟩ := hrel
        go_wp2_with fail
        refine (HMY.out _ (Below.refl _ _)).mono ?_
        rintro e w2 ⟨rfl, hB⟩
        have HB := Lib.hid hB; clear hB
        go_wp2
        go_ret
        rw [HR.out]
        exact ⟨_, rfl, rowAt_nil, HB.out⟩
    · have d : decide ((0 : Int) < (t.length : Int)) = false := decide_eq_false (by omega)
      have d' : decide (0 < t.length) = false := decide_eq_false hl
      go_enter Tryd.func18, Tryd.ntmps18
      go_wp2
      go_loopw [5, 6] (fun v5 v6 wr => v5 = .slice none 0 0 ∧ v6 = .int .i64 0 ∧ w = wr) (fun _ _ _ => 0)
      case atStart => exact ⟨rfl, rfl, rfl⟩
      case round =>
        obtain ⟨rfl, rfl, rfl⟩ := hrel
        go_wp2
        go_ret
        rw [HR.out]
        exact ⟨_, rfl, rowAt_nil, Below.refl _ _⟩
  rw [hok] at HMY
  have hlen : t.length ≤ 1024 := by simp only [tabOk, Bool.and_eq_true, decide_eq_true_eq] at hok; exact hok.2
  have HR : Hid (namedOf t n = t.filter (isNm n)) := by rw [Hid, namedOf, if_pos hok]; rfl
  clear hok
  obtain ⟨iS, s0, s1, s2, s3⟩ := info_parts info_ts
  have HI := Lib.hid (And.intro s0 (And.intro s1 (And.intro s2 s3)))
  clear s0 s1 s2 s3
  go_enter Tryd.func18, Tryd.ntmps18
  go_wp2
  go_loopw [5, 6] (fun v5 v6 wr => ∃ i : Nat, i ≤ t.length ∧ v6 = .int .i64 i ∧ wr.ownsRow w.heap.size 43 5 v5 ((t.take i).filter (isNm n)).length (((t.take i).filter (isNm n)).flatMap tsCells) ∧ Below w.heap.size w wr) (fun _ v6 _ => t.length - (intOf v6).toNat)
  case atStart => exact ⟨0, Nat.zero_le _, rfl, World.ownsRow_nil _ _ _ _, Below.refl _ _⟩
  case round =>
    obtain ⟨i, hi, rfl, hown, hbel⟩ := hrel
    have HO := Lib.hid hown; have HB := Lib.hid hbel
    clear hown hbel
    by_cases hlt : i < t.length
    · have d : decide ((i : Int) < (t.length : Int)) = true := by simp; omega
      have d' : decide (i < t.length) = true := by simpa using hlt
      have kI : (i : Int) < (t.length : Int) := by omega
      have k0 : (0 : Int) ≤ (i : Int) := by omega
      go_wp2_with fail
      refine (HMY.out _ HB.out).mono ?_
      rintro e w2 ⟨rfl, hB⟩
      replace HO := Lib.hid (ownsRow_below hB HO.out)
      replace HB := Lib.hid (HB.out.trans (hB.mono HB.out.size))
      clear hB
      obtain ⟨p', cap', b', o', e', -, -, q1, q2⟩ := TabAt.keep' HB.out H.out
      injection e' with e1 e2 e3
      subst e1; subst e3; clear e2
      obtain rfl := q1 (by omega)
      obtain ⟨g0, g1, g2, g3, g4, g5, -⟩ := q2 i hlt
      clear q1 q2
      have HFY : Hid (isNm n t[i] = true → (t.take (i + 1)).filter (isNm n) = (t.take i).filter (isNm n) ++ [t[i]]) := filter_yes hlt
      have HFN : Hid (isNm n t[i] = false → (t.take (i + 1)).filter (isNm n) = (t.take i).filter (isNm n)) := filter_no hlt
      have hfl := filter_len (f := isNm n) (l := t) (i := i)
      generalize (t.take i).filter (isNm n) = ts at HO HFY HFN hfl
      generalize t[i] = x at g1 g2 g3 g4 g5 HFY HFN
      obtain ⟨xn, xo, xa, xs, xk⟩ := x
      simp only [isNm] at g1 g2 g3 g4 g5 HFY HFN
      by_cases hn : xn = n
      · have HE := Lib.hid (HFY.out (by simpa using hn))
        subst hn
        clear HFY HFN
        have hz := HB.out.size
        obtain ⟨pv, cv, hv⟩ := own_shape HO.out
        subst hv
        go_wp2_with (at_builtin; refine wpList_append_own_at _ rfl _ _ 22 rfl w.heap.size 43 iS _ 5 48 Tryd.underlying22 HI.out.1 HI.out.2.1 HI.out.2.2.1 HI.out.2.2.2 rfl (by decide) _ ts.length (ts.flatMap tsCells) rfl (HO.out.alloc _) ⟨w2.heap.size, 0, none⟩ 1 1 (tsCells ⟨xn, xo, xa, xs, xk⟩) rfl rfl (new_five w2 _ _ _ _ _) (five_one _) (by unfold maxLen; omega) (by omega) (by simp; omega) ?_)
        intro v' w9 hown hgrow _ hv
        obtain ⟨pw, cw, rfl⟩ := own_shape hown
        have HB9 : Hid (Below w.heap.size w w9) := (HB.out.alloc hz _).grown hgrow (by simp; omega) (fun q e => (World.ownsRow.lt HO.out q e).1)
        have HO9 : Hid (w9.ownsRow w.heap.size 43 5 (.slice pw (ts.length + 1) cw) ((t.take (i + 1)).filter (isNm xn)).length (((t.take (i + 1)).filter (isNm xn)).flatMap tsCells)) := by
          have e1 : (ts ++ [(⟨xn, xo, xa, xs, xk⟩ : GTs)]).flatMap tsCells = ts.flatMap tsCells ++ tsCells ⟨xn, xo, xa, xs, xk⟩ := by simp
          have e2 := HE.out
          have e3 : (t.take (i + 1)).filter (isNm xn) = ts ++ [(⟨xn, xo, xa, xs, xk⟩ : GTs)] := e2
          rw [Hid, e3, List.length_append, e1]; exact hown
        clear hown hgrow hv g1 g2 g3 g4 g5 HO
        go_wp2
        go_roundw
        case rel => exact ⟨i + 1, by omega, by go_num, HO9.out, HB9.out⟩
        case measure => simp [intOf]; omega
      · have HE := Lib.hid (HFN.out (by simpa using hn))
        have hnl := toList_ne hn
        have HO9 : Hid (w2.ownsRow w.heap.size 43 5 u5 ((t.take (i + 1)).filter (isNm n)).length (((t.take (i + 1)).filter (isNm n)).flatMap tsCells)) := by
          have e3 : (t.take (i + 1)).filter (isNm n) = ts := HE.out
          rw [Hid, e3]; exact HO.out
        have hbe : (xn.toList == n.toList) = false := by simpa using hnl
        clear HFY HFN hn hnl
        go_wp2
        go_roundw
        case rel => exact ⟨i + 1, by omega, by go_num, HO9.out, HB.out⟩
        case measure => simp [intOf]; omega
    · have d : decide ((i : Int) < (t.length : Int)) = false := by simp; omega
      have d' : decide (i < t.length) = false := by simpa using hlt
      have HE : Hid (t.take i = t) := List.take_of_length_le (by omega)
      have ho := HO.out
      rw [HE.out] at ho
      obtain ⟨pv, cv, hv⟩ := own_shape ho
      subst hv
      have HTA : Hid (TabAt wr (.slice pv (t.filter (isNm n)).length cv) (t.filter (isNm n))) := ts_back (fun x hx => HBD.out x (List.mem_filter.1 hx).1) (Nat.le_trans (List.length_filter_le _ _) (by omega)) ho
      clear ho HO
      go_wp2
      go_ret
      rw [HR.out]
      exact ⟨_, rfl, HTA.out, HB.out⟩
end Go.Proofs.YtiegjplldfodkaaDoor
