/- The walk of aediculelaw14.within. -/
import Derived.Test.YteekdjlpfgkgjaaDoorLayData
import Derived.Test.YteekdjlpfgkgjaaDoorRows
import Derived.Deep.QuietTactic
import Derived.BigQuiet
import Derived.Lib.Hide
import Derived.Test.YteekdjlpfgkgjaaDoorKeep
namespace Go.Proofs.YteekdjlpfgkgjaaDoor
open Go.RowKit Go.Maps Go.WideMaps
set_option maxRecDepth 100000 in
set_option maxHeartbeats 2000000 in
theorem within_yes (v : Value) (l : List GSpan) (kd at_ sz : Int) (w : World) (h : RowAt 3 SpanR w v l) (sp : GSpan) (hf : l.find? (fun x => decide (x.kind = kd)) = some sp) (h1 : sp.at_ % 256 = 0) (h0 : 0 ≤ sp.at_) (h2 : sp.at_ ≤ at_) (h3 : at_ + sz ≤ sp.at_ + sp.size) (h4 : sp.at_ + sp.size ≤ 131072) (hz : 0 ≤ sz) :
    Calls Tryd.prog 18 #[v, .int .u8 kd, .int .u32 at_, .int .u32 sz] w fun e w' => e = .returned (.bool true) ∧ ∃ n, w' = w.drewN n := by
  obtain ⟨p, cap, b, o, rfl, hcap, hmax, hp, hc⟩ := h
  have HC := Lib.hid hc; clear hc
  have HP := Lib.hid hp; clear hp
  rw [List.find?_eq_some_iff_getElem] at hf
  obtain ⟨hk, j, hj, rfl, hno⟩ := hf
  have hk2 : l[j].kind = kd := of_decide_eq_true hk
  have HK := Lib.hid hk2; clear hk2
  have HNO : Hid (∀ i (hi : i < j), l[i].kind ≠ kd) := fun i hi e => by have := hno i hi; simp [e] at this
  clear hk hno
  go_enter Tryd.func18, Tryd.ntmps18
  go_wp2
  go_loop [9] (fun v9 => ∃ i : Nat, i ≤ j ∧ v9 = .int .i64 i) (fun v9 => l.length - (intOf v9).toNat)
  case atStart => exact ⟨0, Nat.zero_le _, rfl⟩
  case round =>
    obtain ⟨i, hi, rfl⟩ := hrel
    obtain rfl := HP.out (by omega)
    obtain ⟨g0, g1, g2, g3, g4, g5, g6⟩ := HC.out i (by omega)
    by_cases hij : i = j
    · subst hij
      have hkk := HK.out
      generalize l[i] = x at *
      obtain ⟨x1, x2, x3⟩ := x
      simp only [] at *
      subst hkk
      have hlt : (i : Int) < (l.length : Int) := by omega
      have m1 : x2 % 256 = 0 := h1
      have d1 : ((x2 % 256 : Int) == 0) = true := by simp [h1]
      have d1' : x2.tmod 256 = 0 := by rw [Int.tmod_eq_emod_of_nonneg h0]; exact h1
      have d2 : decide (x2 ≤ at_) = true := by simpa using h2
      have d3 : decide (at_ + sz ≤ x2 + x3) = true := by simpa using h3
      have e1 : IntKind.u32.wrap (at_ + sz) = at_ + sz := IntWalk.u32_in _ (by omega)
      have e2 : IntKind.u32.wrap (x2 + x3) = x2 + x3 := IntWalk.u32_in _ (by omega)
      go_wp2
      go_quiet (fail)
      clear e1 e2 d1'
      go_wp2
      go_ret
      exact ⟨rfl, _, rfl⟩
    · have hne := HNO.out i (by omega)
      generalize l[i] = x at g1 g2 g3 g4 g5 g6 hne
      obtain ⟨x1, x2, x3⟩ := x
      simp only [] at g1 g2 g3 g4 g5 g6 hne
      have bk : (x1 == kd) = false := by simpa using hne
      have hlt : (i : Int) < (l.length : Int) := by omega
      go_wp2
      go_round
      case rel => exact ⟨i + 1, by omega, by go_num⟩
      case measure => simp [intOf]; omega
end Go.Proofs.YteekdjlpfgkgjaaDoor
