/- The walks of where.Named and aediculeref34.Named. -/
import Derived.Test.YtiegjplldfodkaaDoorWTabGet
import Derived.Test.YtiegjplldfodkaaDoorWRefTabMay
namespace Go.Proofs.YtiegjplldfodkaaDoor
open Go.RowKit
theorem toList_ne {a b : ByteArray} (h : ¬ a = b) : ¬ a.toList = b.toList := by
  rw [ByteArray.toList_eq, ByteArray.toList_eq]
  intro e
  exact h (ByteArray.ext (Array.toList_inj.1 e))
theorem filter_yes {α : Type} {f : α → Bool} {l : List α} {i : Nat} (h : i < l.length) (hf : f l[i] = true) : (l.take (i + 1)).filter f = (l.take i).filter f ++ [l[i]] := by
  rw [List.take_succ_eq_append_getElem h, List.filter_append]; simp [hf]
theorem filter_no {α : Type} {f : α → Bool} {l : List α} {i : Nat} (h : i < l.length) (hf : f l[i] = false) : (l.take (i + 1)).filter f = (l.take i).filter f := by
  rw [List.take_succ_eq_append_getElem h, List.filter_append]; simp [hf]
theorem filter_len {α : Type} {f : α → Bool} {l : List α} {i : Nat} : ((l.take i).filter f).length ≤ i := Nat.le_trans (List.length_filter_le _ _) (List.length_take_le _ _)
def isNm (n : ByteArray) (s : GTs) : Bool := decide (s.name = n)
def TabPost (r : List GTs) (w : World) (e : Ending) (w' : World) : Prop := ∃ v, e = .returned v ∧ TabAt w' v r ∧ Below w.heap.size w w'
set_option maxRecDepth 100000 in
set_option maxHeartbeats 2000000 in
theorem whNamed_any (v : Value) (t : List GTs) (n : ByteArray) (w : World) (h : TabAt w v t) :
    Calls Tryd.prog 17 #[v, .string n] w (TabPost (namedOf t n) w) := by
  obtain ⟨p, cap, b, o, rfl, hcap, hmax, -⟩ := id h
  have HBD := Lib.hid (TabAt.bd h)
  have H := Lib.hid h; clear h
  have HCK := Lib.hid (whCheck_any _ t w H.out)
  by_cases hok : tabOk t = true
  case neg =>
    have hok' : tabOk t = false := by simpa using hok
    rw [hok'] at HCK
    simp only [errB, Bool.false_eq_true, if_false] at HCK
    have HR : Hid (namedOf t n = []) := by simp [Hid, namedOf, hok']
    clear hok hok'
    go_enter Tryd.func17, Tryd.ntmps17
    go_wp2_with fail
    refine HCK.out.mono ?_
    rintro e w1 ⟨rfl, hB⟩
    clear HCK
    go_wp2
    go_ret
    rw [HR.out]
    exact ⟨_, rfl, rowAt_nil, hB⟩
  rw [hok] at HCK
  simp only [errB, if_true] at HCK
  have hlen : t.length ≤ 1024 := by simp only [tabOk, Bool.and_eq_true, decide_eq_true_eq] at hok; exact hok.2
  have HR : Hid (namedOf t n = t.filter (isNm n)) := by rw [Hid, namedOf, if_pos hok]; rfl
  clear hok
  obtain ⟨iS, s0, s1, s2, s3⟩ := info_parts info_ts
  have HI := Lib.hid (And.intro s0 (And.intro s1 (And.intro s2 s3)))
  clear s0 s1 s2 s3
  go_enter Tryd.func17, Tryd.ntmps17
  go_wp2_with fail
  refine HCK.out.mono ?_
  rintro e w1 ⟨rfl, hB⟩
  have HB0 := Lib.hid hB
  clear hB HCK
  go_wp2
  go_loopw [4, 12] (fun v4 v12 wr => ∃ i : Nat, i ≤ t.length ∧ v12 = .int .i64 i ∧ wr.ownsRow w.heap.size 43 5 v4 ((t.take i).filter (isNm n)).length (((t.take i).filter (isNm n)).flatMap tsCells) ∧ Below w.heap.size w wr) (fun _ v12 _ => t.length - (intOf v12).toNat)
  case atStart => exact ⟨0, Nat.zero_le _, rfl, World.ownsRow_nil _ _ _ _, HB0.out⟩
  case round =>
    clear HB0
    obtain ⟨i, hi, rfl, hown, hbel⟩ := hrel
    have HO := Lib.hid hown; have HB := Lib.hid hbel
    clear hown hbel
    by_cases hlt : i < t.length
    · obtain ⟨p', cap', b', o', e', -, -, q1, q2⟩ := TabAt.keep' HB.out H.out
      injection e' with e1 e2 e3
      subst e1; subst e3; clear e2
      obtain rfl := q1 (by omega)
      obtain ⟨g0, g1, g2, g3, g4, g5, -⟩ := q2 i hlt
      clear q1 q2
      have HFY : Hid (isNm n t[i] = true → (t.take (i + 1)).filter (isNm n) = (t.take i).filter (isNm n) ++ [t[i]]) := filter_yes hlt
      have HFN : Hid (isNm n t[i] = false → (t.take (i + 1)).filter (isNm n) = (t.take i).filter (isNm n)) := filter_no hlt
      have hfl := filter_len (f := isNm n) (l := t) (i := i)
      generalize (t.take i).filter (isNm n) = ts at HO HFY HFN hfl
      generalize t[i] = x at g1 g2 g3 g4 g5 HFY HFN
      obtain ⟨xn, xo, xa, xs, xk⟩ := x
      simp only [isNm] at g1 g2 g3 g4 g5 HFY HFN
      go_upto_region 6 with fail
      have HX : Hid ((wr.alloc (.cells #[.string xn, .string xo, .int .u32 xa, .int .u32 xs, .int .u8 xk] 43)).heap[wr.heap.size]? = some (.cells #[.string xn, .string xo, .int .u32 xa, .int .u32 xs, .int .u8 xk] 43 (0, 0))) := heap_alloc_new wr _
      replace HO := Lib.hid (HO.out.alloc (.cells #[.string xn, .string xo, .int .u32 xa, .int .u32 xs, .int .u8 xk] 43))
      replace HB := Lib.hid (HB.out.alloc HB.out.size (.cells #[.string xn, .string xo, .int .u32 xa, .int .u32 xs, .int .u8 xk] 43))
      generalize wr.alloc (.cells #[.string xn, .string xo, .int .u32 xa, .int .u32 xs, .int .u8 xk] 43) = w2 at HX HO HB ⊢
      generalize wr.heap.size = xb at HX ⊢
      have x0 : w2.cell? ⟨xb, 0, none⟩ = some (.string xn) := Lib.cell_of_heap HX.out 0
      have x1 : w2.cell? ⟨xb, 1, none⟩ = some (.string xo) := Lib.cell_of_heap HX.out 1
      have x2 : w2.cell? ⟨xb, 2, none⟩ = some (.int .u32 xa) := Lib.cell_of_heap HX.out 2
      have x3 : w2.cell? ⟨xb, 3, none⟩ = some (.int .u32 xs) := Lib.cell_of_heap HX.out 3
      have x4 : w2.cell? ⟨xb, 4, none⟩ = some (.int .u8 xk) := Lib.cell_of_heap HX.out 4
      clear g0 g1 g2 g3 g4 g5
      by_cases hn : xn = n
      · have HE := Lib.hid (HFY.out (by simpa using hn))
        subst hn
        clear HFY HFN
        have hz := HB.out.size
        obtain ⟨pv, cv, hv⟩ := own_shape HO.out
        subst hv
        go_wp2_with (at_builtin; refine wpList_append_own_at _ rfl _ _ 22 rfl w.heap.size 43 iS _ 5 48 Tryd.underlying22 HI.out.1 HI.out.2.1 HI.out.2.2.1 HI.out.2.2.2 rfl (by decide) _ ts.length (ts.flatMap tsCells) rfl (HO.out.alloc _) ⟨w2.heap.size, 0, none⟩ 1 1 (tsCells ⟨xn, xo, xa, xs, xk⟩) rfl rfl (new_five w2 _ _ _ _ _) (five_one _) (by unfold maxLen; omega) (by omega) (by simp; omega) ?_)
        intro v' w9 hown hgrow _ hv
        obtain ⟨pw, cw, rfl⟩ := own_shape hown
        have HB9 : Hid (Below w.heap.size w w9) := (HB.out.alloc hz _).grown hgrow (by simp; omega) (fun q e => (World.ownsRow.lt HO.out q e).1)
        have HO9 : Hid (w9.ownsRow w.heap.size 43 5 (.slice pw (ts.length + 1) cw) ((t.take (i + 1)).filter (isNm xn)).length (((t.take (i + 1)).filter (isNm xn)).flatMap tsCells)) := by
          have e1 : (ts ++ [(⟨xn, xo, xa, xs, xk⟩ : GTs)]).flatMap tsCells = ts.flatMap tsCells ++ tsCells ⟨xn, xo, xa, xs, xk⟩ := by simp
          have e2 := HE.out
          have e3 : (t.take (i + 1)).filter (isNm xn) = ts ++ [(⟨xn, xo, xa, xs, xk⟩ : GTs)] := e2
          rw [Hid, e3, List.length_append, e1]; exact hown
        clear hown hgrow hv x0 x1 x2 x3 x4 HX HO
        go_wp2
        go_roundw
        case rel => exact ⟨i + 1, by omega, by go_num, HO9.out, HB9.out⟩
        case measure => simp [intOf]; omega
      · have HE := Lib.hid (HFN.out (by simpa using hn))
        have hnl := toList_ne hn
        have HO9 : Hid (w2.ownsRow w.heap.size 43 5 u4 ((t.take (i + 1)).filter (isNm n)).length (((t.take (i + 1)).filter (isNm n)).flatMap tsCells)) := by
          have e3 : (t.take (i + 1)).filter (isNm n) = ts := HE.out
          rw [Hid, e3]; exact HO.out
        have hbe : (xn.toList == n.toList) = false := by simpa using hnl
        clear HFY HFN hn hnl
        go_wp2
        go_roundw
        case rel => exact ⟨i + 1, by omega, by go_num, HO9.out, HB.out⟩
        case measure => simp [intOf]; omega
    · have HE : Hid (t.take i = t) := List.take_of_length_le (by omega)
      have ho := HO.out
      rw [HE.out] at ho
      obtain ⟨pv, cv, hv⟩ := own_shape ho
      subst hv
      have HTA : Hid (TabAt wr (.slice pv (t.filter (isNm n)).length cv) (t.filter (isNm n))) := ts_back (fun x hx => HBD.out x (List.mem_filter.1 hx).1) (Nat.le_trans (List.length_filter_le _ _) (by omega)) ho
      clear ho HO
      go_wp2
      go_ret
      rw [HR.out]
      exact ⟨_, rfl, HTA.out, HB.out⟩
end Go.Proofs.YtiegjplldfodkaaDoor
