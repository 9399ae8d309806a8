/- The walk of aediculeref34.Find. -/
import Derived.Test.YtiegjplldfodkaaDoorWTabFind
import Derived.Test.YtiegjplldfodkaaDoorWRefTabMay
namespace Go.Proofs.YtiegjplldfodkaaDoor
open Go.RowKit
set_option maxRecDepth 100000 in
set_option maxHeartbeats 2000000 in
theorem refFind_any (v : Value) (t : List GTs) (a : Int) (w : World) (h : TabAt w v t) (ha : 0 ≤ a ∧ a ≤ 4294967295) :
    Calls Tryd.prog 14 #[v, .int .u32 a] w (FindPost (findT t a) w) := by
  obtain ⟨p, cap, b, o, rfl, hcap, hmax, -⟩ := id h
  have H := Lib.hid h; clear h
  have ha0 := ha.1; have ha1 := ha.2; clear ha
  have HMY := Lib.hid (fun (w' : World) (hb : Below w.heap.size w w') => refTabMay_any _ t w' (TabAt.keep' hb H.out))
  by_cases hok : tabOk t = true
  case neg =>
    have hok' : tabOk t = false := by simpa using hok
    rw [hok'] at HMY
    have HR : Hid (findT t a = (0, 0, false)) := findT_bad hok'
    clear hok hok'
    by_cases hl : 0 < t.length
    · have d : decide ((0 : Int) < (t.length : Int)) = true := by simp; omega
      have d' : decide (0 < t.length) = true := by simpa using hl
      go_enter Tryd.func14, Tryd.ntmps14
      go_wp2
      go_loopw [7] (fun v7 wr => v7 = .int .i64 0 ∧ w = wr) (fun _ _ => 0)
      case atStart => exact ⟨rfl, rfl⟩
      case round =>
        obtain ⟨rfl, rfl⟩ := hrel
        go_wp2_with fail
        refine (HMY.out _ (Below.refl _ _)).mono ?_
        rintro e w2 ⟨rfl, hB⟩
        have HB := Lib.hid hB; clear hB
        go_wp2
        refine bodyPost_ret (v := .tuple #[.int .i64 0, .int .u32 0, .bool false]) (by simp [results, Tryd.results14, go_sem]) rfl ?_
        unfold FindPost
        rw [HR.out]
        exact ⟨rfl, HB.out⟩
    · have d : decide ((0 : Int) < (t.length : Int)) = false := decide_eq_false (by omega)
      have d' : decide (0 < t.length) = false := decide_eq_false hl
      go_enter Tryd.func14, Tryd.ntmps14
      go_wp2
      go_loopw [7] (fun v7 wr => v7 = .int .i64 0 ∧ w = wr) (fun _ _ => 0)
      case atStart => exact ⟨rfl, rfl⟩
      case round =>
        obtain ⟨rfl, rfl⟩ := hrel
        go_wp2
        refine bodyPost_ret (v := .tuple #[.int .i64 0, .int .u32 0, .bool false]) (by simp [results, Tryd.results14, go_sem]) rfl ?_
        unfold FindPost
        rw [HR.out]
        exact ⟨rfl, Below.refl _ _⟩
  rw [hok] at HMY
  have HAT := Lib.hid (tabGo_at (tabOk_go hok))
  have HOK := Lib.hid hok; clear hok
  go_enter Tryd.func14, Tryd.ntmps14
  go_wp2
  go_loopw [7] (fun v7 wr => ∃ i : Nat, i ≤ t.length ∧ v7 = .int .i64 i ∧ (∀ j (hj : j < t.length), j < i → ¬ (t[j].addr ≤ a ∧ a < t[j].addr + t[j].size)) ∧ Below w.heap.size w wr) (fun v7 _ => t.length - (intOf v7).toNat)
  case atStart => exact ⟨0, Nat.zero_le _, rfl, fun j hj h => by omega, Below.refl _ _⟩
  case round =>
    obtain ⟨i, hi, rfl, hno, hbel⟩ := hrel
    have HNO := Lib.hid hno; have HB := Lib.hid hbel
    clear hno hbel
    by_cases hlt : i < t.length
    · have d : decide ((i : Int) < (t.length : Int)) = true := by simp; omega
      have d' : decide (i < t.length) = true := by simpa using hlt
      have kI : (i : Int) < (t.length : Int) := by omega
      have k0 : (0 : Int) ≤ (i : Int) := by omega
      go_wp2_with fail
      refine (HMY.out _ HB.out).mono ?_
      rintro e w2 ⟨rfl, hB⟩
      replace HB := Lib.hid (HB.out.trans (hB.mono HB.out.size))
      clear hB
      obtain ⟨p', cap', b', o', e', -, -, q1, q2⟩ := TabAt.keep' HB.out H.out
      injection e' with e1 e2 e3
      subst e1; subst e3; clear e2
      obtain rfl := q1 (by omega)
      obtain ⟨g0, g1, g2, g3, g4, g5, r1, r2, -⟩ := q2 i hlt
      have hx1 := (HAT.out i hlt).2.2.2.1
      have hx2 := (HAT.out i hlt).2.1
      have HF1 : Hid (t[i].addr ≤ a → a < t[i].addr + t[i].size → findT t a = (i, a - t[i].addr, true)) := fun h1 h2 => findT_at HOK.out hlt h1 h2 fun j hj => HNO.out j (by omega) hj
      have HF2 : Hid (¬ (t[i].addr ≤ a ∧ a < t[i].addr + t[i].size) → ∀ j (hj : j < t.length), j < i + 1 → ¬ (t[j].addr ≤ a ∧ a < t[j].addr + t[j].size)) := fun h j hj hji => by
        rcases Nat.lt_succ_iff_lt_or_eq.1 hji with h1 | h1
        · exact HNO.out j hj h1
        · subst h1; exact h
      clear q1 q2
      generalize t[i] = x at g1 g2 g3 g4 g5 r1 r2 hx1 hx2 HF1 HF2
      obtain ⟨xn, xo, xa, xs, xk⟩ := x
      simp only [] at g1 g2 g3 g4 g5 r1 r2 hx1 hx2 HF1 HF2
      have hsum : IntKind.u32.wrap (xa + xs) = xa + xs := IntWalk.u32_in _ (by omega)
      have HSUM := Lib.hid hsum; clear hsum
      by_cases h1 : xa ≤ a
      · have c1 : decide (xa ≤ a) = true := by simpa using h1
        by_cases h2 : a < xa + xs
        · have c2 : decide (a < xa + xs) = true := by simpa using h2
          have HR := Lib.hid (HF1.out h1 h2)
          have hsub : IntKind.u32.wrap (a - xa) = a - xa := IntWalk.u32_in _ (by omega)
          have HSUB := Lib.hid hsub
          have hsum := HSUM.out
          clear HF1 HF2 h1 h2 r1 r2 hx1 hx2 hsub
          go_wp2
          go_quiet (fail)
          clear hsum
          have hsub := HSUB.out
          rename_i nq
          generalize hwq : w2.drewN nq = wq
          have HBQ : Hid (Below w.heap.size w wq) := by subst hwq; exact below_drewN HB.out _
          have g0' : b' < wq.heap.size := by subst hwq; exact g0
          have g3' : wq.cell? ⟨b', o' + i * 5 + 2, none⟩ = some (.int .u32 xa) := by subst hwq; exact g3
          clear hwq c1 c2
          go_wp2
          go_quiet (fail)
          go_wp2
          refine bodyPost_ret (v := .tuple #[.int .i64 i, .int .u32 (a - xa), .bool true]) (by simp [results, Tryd.results14, go_sem]) rfl ?_
          unfold FindPost
          rw [HR.out]
          exact ⟨rfl, below_drewN HBQ.out _⟩
        · have c2 : decide (a < xa + xs) = false := by simpa using h2
          have HN := Lib.hid (HF2.out fun h => h2 h.2)
          have hsum := HSUM.out
          clear HF1 HF2 h1 h2 r1 r2 hx1 hx2
          go_wp2
          go_quiet (fail)
          clear hsum
          go_wp2
          go_roundw
          case rel => exact ⟨i + 1, by omega, by go_num, HN.out, below_drewN HB.out _⟩
          case measure => simp [intOf]; omega
      · have c1 : decide (xa ≤ a) = false := by simpa using h1
        have HN := Lib.hid (HF2.out fun h => h1 h.1)
        clear HF1 HF2 h1 r1 r2 hx1 hx2
        go_wp2
        go_quiet (fail)
        go_wp2
        go_roundw
        case rel => exact ⟨i + 1, by omega, by go_num, HN.out, below_drewN HB.out _⟩
        case measure => simp [intOf]; omega
    · have d : decide ((i : Int) < (t.length : Int)) = false := by simp; omega
      have d' : decide (i < t.length) = false := by simpa using hlt
      have HR : Hid (findT t a = (0, 0, false)) := findT_none fun j hj => HNO.out j hj (by omega)
      go_wp2
      refine bodyPost_ret (v := .tuple #[.int .i64 0, .int .u32 0, .bool false]) (by simp [results, Tryd.results14, go_sem]) rfl ?_
      unfold FindPost
      rw [HR.out]
      exact ⟨rfl, HB.out⟩
end Go.Proofs.YtiegjplldfodkaaDoor
