/- The walks of aediculeref08's Note and Sym. -/
import Derived.Test.YtfmmfbijkklceaaDoorWRels
import Derived.Test.YtfmmfbijkklceaaDoorPlain
import Derived.Deep.Light
namespace Go.Proofs.YtfmmfbijkklceaaDoor
open Go.RowKit
set_option maxHeartbeats 1000000 in
theorem refNote_any (x : GNote) (w : World) (h1 : 0 ≤ x.kind ∧ x.kind ≤ 255) (h2 : 0 ≤ x.n ∧ x.n ≤ 4294967295) (h3 : 0 ≤ x.m ∧ x.m ≤ 4294967295) :
    Calls Tryd.prog 44 #[.agg #[.int .u8 x.kind, .int .u32 x.n, .int .u32 x.m]] w fun e w' => e = .returned (.bool (noteOk x)) ∧ Below w.heap.size w w' := by
  obtain ⟨k, n, m⟩ := x
  simp only [] at *
  go_enter Tryd.func44, Tryd.ntmps44
  go_wp2
  all_goals
    go_ret
    exact ⟨ret_bool (by go_light; first | (simp_all [noteOk, ibeq]; done) | (simp_all [noteOk]; omega)), alloc_old w _⟩
set_option maxHeartbeats 1000000 in
theorem refSym_noA (s : GSym) (vr vn : Value) (w : World) (h : SymIn w s vr vn) (hA : ¬ symA s) :
    Calls Tryd.prog 22 #[.agg #[.string s.name, .int .u8 s.bind, .int .u8 s.kind, .int .u32 s.size, .string s.bytes, vr, vn]] w fun e w' => e = .returned (.bool (symOk s)) ∧ Below w.heap.size w w' := by
  obtain ⟨-, -, hb, hk, hz, hn, hbs⟩ := h
  rw [← symOk_noA hA]
  unfold symA at hA
  obtain ⟨yn, yb, yk, ys, yy, yr, yt⟩ := s
  simp only [] at hA hb hk hz hn hbs ⊢
  have HA := Lib.hid hA; clear hA
  by_cases c1 : isName yn = true
  · by_cases c2 : yb ≤ 2
    · by_cases c3 : 1 ≤ yk
      · by_cases c4 : yk ≤ 3
        · by_cases c5 : 1 ≤ ys
          · by_cases c6 : ys ≤ 8192
            · by_cases c7 : (yy.size : Int) ≤ ys
              · exact absurd ⟨c1, c2, c3, c4, c5, c6, c7⟩ HA.out
              · go_enter Tryd.func22, Tryd.ntmps22
                go_wp2_with (go_at_call 23; refine (refName_any _ _ (by unfold maxLen; omega)).mono ?_; rintro e w' ⟨rfl, rfl⟩)
                go_ret
                exact ⟨rfl, alloc_old w _⟩
            · go_enter Tryd.func22, Tryd.ntmps22
              go_wp2_with (go_at_call 23; refine (refName_any _ _ (by unfold maxLen; omega)).mono ?_; rintro e w' ⟨rfl, rfl⟩)
              go_ret
              exact ⟨rfl, alloc_old w _⟩
          · go_enter Tryd.func22, Tryd.ntmps22
            go_wp2_with (go_at_call 23; refine (refName_any _ _ (by unfold maxLen; omega)).mono ?_; rintro e w' ⟨rfl, rfl⟩)
            go_ret
            exact ⟨rfl, alloc_old w _⟩
        · go_enter Tryd.func22, Tryd.ntmps22
          go_wp2_with (go_at_call 23; refine (refName_any _ _ (by unfold maxLen; omega)).mono ?_; rintro e w' ⟨rfl, rfl⟩)
          go_ret
          exact ⟨rfl, alloc_old w _⟩
      · go_enter Tryd.func22, Tryd.ntmps22
        go_wp2_with (go_at_call 23; refine (refName_any _ _ (by unfold maxLen; omega)).mono ?_; rintro e w' ⟨rfl, rfl⟩)
        go_ret
        exact ⟨rfl, alloc_old w _⟩
    · go_enter Tryd.func22, Tryd.ntmps22
      go_wp2_with (go_at_call 23; refine (refName_any _ _ (by unfold maxLen; omega)).mono ?_; rintro e w' ⟨rfl, rfl⟩)
      go_ret
      exact ⟨rfl, alloc_old w _⟩
  · have n1 : isName yn = false := by simpa using c1
    clear c1
    go_enter Tryd.func22, Tryd.ntmps22
    go_wp2_with (go_at_call 23; refine (refName_any _ _ (by unfold maxLen; omega)).mono ?_; rintro e w' ⟨rfl, rfl⟩)
    go_ret
    exact ⟨rfl, alloc_old w _⟩
set_option maxHeartbeats 1000000 in
theorem refSym_noB (s : GSym) (vr vn : Value) (w : World) (h : SymIn w s vr vn) (hA : symA s) (hB : ¬ symB s) :
    Calls Tryd.prog 22 #[.agg #[.string s.name, .int .u8 s.bind, .int .u8 s.kind, .int .u32 s.size, .string s.bytes, vr, vn]] w fun e w' => e = .returned (.bool (symOk s)) ∧ Below w.heap.size w w' := by
  obtain ⟨-, -, hb, hk, hz, hn, hbs⟩ := h
  rw [← symOk_noB hB]
  unfold symA at hA
  unfold symB at hB
  obtain ⟨yn, yb, yk, ys, yy, yr, yt⟩ := s
  simp only [] at hA hB hb hk hz hn hbs ⊢
  obtain ⟨c1, c2, c3, c4, c5, c6, c7⟩ := hA
  obtain rfl : yk = 1 := by omega
  by_cases c8 : (yy.size : Int) = ys
  · have c9 : ¬ ys % 8 = 0 := fun h => hB (.inr ⟨c8, h⟩)
    have b8 : ((yy.size : Int) != ys) = false := by simp [c8]
    have b9 : (ys % 8 != 0) = true := by simpa using c9
    clear hB c8 c9
    go_enter Tryd.func22, Tryd.ntmps22
    go_wp2_with (go_at_call 23; refine (refName_any _ _ (by unfold maxLen; omega)).mono ?_; rintro e w' ⟨rfl, rfl⟩)
    go_ret
    exact ⟨rfl, alloc_old w _⟩
  · have b8 : ((yy.size : Int) != ys) = true := by simpa using c8
    clear hB c8
    go_enter Tryd.func22, Tryd.ntmps22
    go_wp2_with (go_at_call 23; refine (refName_any _ _ (by unfold maxLen; omega)).mono ?_; rintro e w' ⟨rfl, rfl⟩)
    go_ret
    exact ⟨rfl, alloc_old w _⟩
set_option maxRecDepth 100000 in
set_option maxHeartbeats 2000000 in
theorem refSym_go (s : GSym) (vr vn : Value) (w : World) (h : SymIn w s vr vn) (hA : symA s) (hB : symB s) :
    Calls Tryd.prog 22 #[.agg #[.string s.name, .int .u8 s.bind, .int .u8 s.kind, .int .u32 s.size, .string s.bytes, vr, vn]] w fun e w' => e = .returned (.bool (symOk s)) ∧ Below w.heap.size w w' := by
  have HS := Lib.hid h
  have HE := Lib.hid (symOk_AB hA hB)
  obtain ⟨hr, hnt, hb, hk, hz, hn, hbs⟩ := h
  obtain ⟨p, cap, b, o, rfl, hcap, hmax, hp, hc⟩ := hnt
  have HC := Lib.hid hc; clear hc
  have HP := Lib.hid hp; clear hp
  obtain ⟨pr, capr, br, or', rfl, -⟩ := hr
  unfold symA at hA
  obtain ⟨c1, c2, c3, c4, c5, c6, c7⟩ := hA
  have hbb : Hid (symB s) := hB
  clear hB
  have HW : Hid (Below w.heap.size w (w.alloc (.cells #[.string s.name, .int .u8 s.bind, .int .u8 s.kind, .int .u32 s.size, .string s.bytes, .slice pr s.rels.length capr, .slice p s.notes.length cap] 47))) := alloc_old w _
  have main : ∀ (sl : Value), True := fun _ => trivial
  clear main
  have hcase : (((s.kind == 1) = false) ∨ ((s.kind == 1) = true ∧ ((s.bytes.size : Int) != s.size) = false ∧ (s.size % 8 != 0) = false)) := by
    rcases hbb.out with h1 | ⟨h1, h2⟩
    · exact .inl (by simpa using h1)
    · by_cases h3 : s.kind = 1
      · exact .inr ⟨by simp [h3], by simp [h1], by simp [h2]⟩
      · exact .inl (by simpa using h3)
  have tail : True := trivial
  rcases hcase with d1 | ⟨d1, d2, d3⟩
  all_goals
    go_enter Tryd.func22, Tryd.ntmps22
    go_wp2_with (go_at_call 23; refine (refName_any _ _ (by unfold maxLen; omega)).mono ?_; rintro e w' ⟨rfl, rfl⟩)
    go_loopw [3] (fun v3 wr => ∃ k : Nat, k ≤ s.notes.length ∧ v3 = .int .i64 k ∧ (s.notes.take k).all noteOk = true ∧ Below (w.heap.size + 1) (w.alloc (.cells #[.string s.name, .int .u8 s.bind, .int .u8 s.kind, .int .u32 s.size, .string s.bytes, .slice pr s.rels.length capr, .slice p s.notes.length cap] 47)) wr) (fun v3 _ => s.notes.length - (intOf v3).toNat)
    case atStart => exact ⟨0, Nat.zero_le _, rfl, rfl, Below.refl _ _⟩
    case round =>
      obtain ⟨k, hkk, rfl, hall, hbel⟩ := hrel
      have HAL := Lib.hid hall; clear hall
      have k0 : wr.cell? ⟨w.heap.size, 0, none⟩ = some (.string s.name) := by rw [hbel.cell (by simp)]; simp [go_sem]
      have k1 : wr.cell? ⟨w.heap.size, 1, none⟩ = some (.int .u8 s.bind) := by rw [hbel.cell (by simp)]; simp [go_sem]
      have k2 : wr.cell? ⟨w.heap.size, 2, none⟩ = some (.int .u8 s.kind) := by rw [hbel.cell (by simp)]; simp [go_sem]
      have k3 : wr.cell? ⟨w.heap.size, 3, none⟩ = some (.int .u32 s.size) := by rw [hbel.cell (by simp)]; simp [go_sem]
      have k4 : wr.cell? ⟨w.heap.size, 4, none⟩ = some (.string s.bytes) := by rw [hbel.cell (by simp)]; simp [go_sem]
      have k5 : wr.cell? ⟨w.heap.size, 5, none⟩ = some (.slice pr s.rels.length capr) := by rw [hbel.cell (by simp)]; simp [go_sem]
      have k6 : wr.cell? ⟨w.heap.size, 6, none⟩ = some (.slice p s.notes.length cap) := by rw [hbel.cell (by simp)]; simp [go_sem]
      have zz : w.heap.size < wr.heap.size := by have := hbel.size; simp at this; omega
      have HBW : Hid (Below w.heap.size w wr) := HW.out.trans (hbel.mono (by omega))
      have HB := Lib.hid hbel; clear hbel
      by_cases hlt : k < s.notes.length
      · obtain rfl := HP.out (by omega)
        obtain ⟨g0, g1, g2, g3, g5, g6, g7⟩ := noteR_keeps _ _ _ _ _ HBW.out (HC.out k hlt)
        have HCON := Lib.hid (refNote_any s.notes[k] wr g5 g6 g7)
        generalize hx : s.notes[k] = x at g1 g2 g3 g5 g6 g7 HCON
        obtain ⟨xk, xn, xm⟩ := x
        simp only [] at g1 g2 g3 g5 g6 g7 HCON
        have HX := Lib.hid hx; clear hx
        go_wp2_with (go_at_call 44; refine HCON.out.mono ?_; rintro e w' ⟨rfl, hB1⟩)
        · have hbad : (!noteOk ⟨xk, xn, xm⟩) = true := by assumption
          go_ret
          exact ⟨ret_bool (by rw [HE.out, all_bad hlt HX.out (by simpa using hbad)]; rfl), HBW.out.trans (hB1.mono HBW.out.size)⟩
        · have hok : (!noteOk ⟨xk, xn, xm⟩) = false := by assumption
          go_roundw
          case rel => exact ⟨k + 1, by omega, by go_num, take_all_snoc hlt HX.out HAL.out (by simpa using hok), HB.out.trans (hB1.mono (by omega))⟩
          case measure => simp [intOf]; omega
      · have HCON := Lib.hid (refRels_any s _ _ wr (HS.out.keep HBW.out))
        go_wp2_with (go_at_call 45; refine HCON.out.mono ?_; rintro e w' ⟨rfl, hB1⟩; obtain ⟨hc1, hf1⟩ := bcell hB1)
        all_goals
          go_ret
          exact ⟨ret_bool (by rw [HE.out, all_end hlt HAL.out]; go_light; simp_all; try omega), HBW.out.trans (hB1.mono HBW.out.size)⟩
theorem refSym_any (s : GSym) (vr vn : Value) (w : World) (h : SymIn w s vr vn) :
    Calls Tryd.prog 22 #[.agg #[.string s.name, .int .u8 s.bind, .int .u8 s.kind, .int .u32 s.size, .string s.bytes, vr, vn]] w fun e w' => e = .returned (.bool (symOk s)) ∧ Below w.heap.size w w' := by
  by_cases hA : symA s
  · by_cases hB : symB s
    · exact refSym_go s vr vn w h hA hB
    · exact refSym_noB s vr vn w h hA hB
  · exact refSym_noA s vr vn w h hA
end Go.Proofs.YtfmmfbijkklceaaDoor
