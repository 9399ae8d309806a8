/- The walks of aediculeref16's seg, pages, entry. -/
import Derived.Test.YtghopakbefageaaGreatBt23
import Derived.Test.YtghopakbefageaaGreatBt19
import Derived.Test.YtghopakbefageaaGreatBt18
import Derived.Test.YtghopakbefageaaGreatBt25
namespace Go.Proofs.YtghopakbefageaaGreat
open Go.RowKit Go.Maps
set_option maxHeartbeats 2000000 in
theorem rseg36 (s : GSeg) (w : World) (ha0 : 0 ≤ s.addr) (ha1 : s.addr ≤ 4294967295) (hs : s.bytes.size ≤ 140737488355328) :
    Calls Tryz.prog 66 #[.agg #[.int .u32 s.addr, .int .u8 s.perm, .string s.bytes]] w fun e w' => e = .returned (.bool (rSegB s)) ∧ Below w.heap.size w w' := by
  have HOK : Hid (rSegB s = (permOk s.perm && decide (s.addr % 256 = 0) && decide (256 ≤ s.addr) && decide (s.addr < 131072) && decide (1 ≤ s.bytes.size) && decide ((s.bytes.size : Int) ≤ 131072 - s.addr))) := Lib.hid rfl
  obtain ⟨a, p, b⟩ := s
  simp only [] at *
  have r1 : a.tmod 256 = a % 256 := Int.tmod_eq_emod_of_nonneg ha0
  have HP : (permOk p = true ∧ (p = 1 ∨ p = 3 ∨ p = 5)) ∨ (permOk p = false ∧ (p == 1) = false ∧ (p == 3) = false ∧ (p == 5) = false) := by
    unfold permOk
    by_cases h1 : p = 1
    · exact .inl ⟨by simp [h1], .inl h1⟩
    · by_cases h3 : p = 3
      · exact .inl ⟨by simp [h3], .inr (.inl h3)⟩
      · by_cases h5 : p = 5
        · exact .inl ⟨by simp [h5], .inr (.inr h5)⟩
        · exact .inr ⟨by simp [h1, h3, h5], by simpa using h1, by simpa using h3, by simpa using h5⟩
  rcases HP with ⟨hp, hpp⟩ | ⟨hp, k1, k3, k5⟩
  case inr =>
    rw [hp] at HOK
    clear hp
    go_enter Tryz.func66, Tryz.ntmps66
    go_wp2
    go_ret
    exact ⟨by rw [HOK.out]; rfl, alloc_old w _⟩
  rw [hp] at HOK
  clear hp
  have hcs : (decide (a % 256 = 0) = false ∧ (a % 256 == 0) = false) ∨ (decide (a % 256 = 0) = true ∧ (a % 256 == 0) = true) := by
    by_cases h : a % 256 = 0
    · exact .inr ⟨decide_eq_true h, by simp [h]⟩
    · exact .inl ⟨decide_eq_false h, by simp [h]⟩
  have hb1 : (decide (1 ≤ b.size) = true ∧ decide ((1 : Int) ≤ (b.size : Int)) = true) ∨ (decide (1 ≤ b.size) = false ∧ decide ((1 : Int) ≤ (b.size : Int)) = false) := by
    by_cases h : 1 ≤ b.size
    · exact .inl ⟨decide_eq_true h, decide_eq_true (by omega)⟩
    · exact .inr ⟨decide_eq_false h, decide_eq_false (by omega)⟩
  have r2 : IntKind.i64.wrap a = a := IntWalk.i64_in _ (by omega)
  have r3 : IntKind.i64.wrap (131072 - a) = 131072 - a := IntWalk.i64_in _ (by omega)
  rcases hpp with rfl | rfl | rfl
  all_goals
    rcases hcs with ⟨h1, h2⟩ | ⟨h1, h2⟩
    · rw [h1] at HOK
      clear h1
      go_enter Tryz.func66, Tryz.ntmps66
      go_wp2
      go_ret
      exact ⟨by rw [HOK.out]; rfl, alloc_old w _⟩
    · rw [h1] at HOK
      clear h1
      by_cases h3 : 256 ≤ a
      · by_cases h4 : a < 131072
        · rw [decide_eq_true h3, decide_eq_true h4] at HOK
          rcases hb1 with ⟨h5, h6⟩ | ⟨h5, h6⟩
          · rw [h5] at HOK
            clear h5
            have h6' : (1 : Int) ≤ (b.size : Int) := of_decide_eq_true h6
            by_cases h7 : (b.size : Int) ≤ 131072 - a
            · rw [decide_eq_true h7] at HOK
              go_enter Tryz.func66, Tryz.ntmps66
              go_wp2
              go_ret
              exact ⟨by rw [HOK.out]; rfl, alloc_old w _⟩
            · rw [decide_eq_false h7] at HOK
              go_enter Tryz.func66, Tryz.ntmps66
              go_wp2
              go_ret
              exact ⟨by rw [HOK.out]; rfl, alloc_old w _⟩
          · rw [h5] at HOK
            clear h5
            have h6' : ¬ (1 : Int) ≤ (b.size : Int) := of_decide_eq_false h6
            go_enter Tryz.func66, Tryz.ntmps66
            go_wp2
            go_ret
            exact ⟨by rw [HOK.out]; rfl, alloc_old w _⟩
        · rw [decide_eq_true h3, decide_eq_false h4] at HOK
          clear hb1
          go_enter Tryz.func66, Tryz.ntmps66
          go_wp2
          go_ret
          exact ⟨by rw [HOK.out]; rfl, alloc_old w _⟩
      · rw [decide_eq_false h3] at HOK
        clear hb1
        go_enter Tryz.func66, Tryz.ntmps66
        go_wp2
        go_ret
        exact ⟨by rw [HOK.out]; rfl, alloc_old w _⟩
end Go.Proofs.YtghopakbefageaaGreat
