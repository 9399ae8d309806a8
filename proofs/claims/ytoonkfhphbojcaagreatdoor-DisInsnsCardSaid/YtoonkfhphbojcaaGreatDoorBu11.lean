/- The walks of insn.Check and insn.Decode. -/
import Derived.Test.YtoonkfhphbojcaaGreatDoorBu08
import Derived.Test.YtoonkfhphbojcaaGreatDoorBu09
namespace Go.Proofs.YtoonkfhphbojcaaGreatDoor
open Go.RowKit
theorem run_index256 (u : Int) (k : Nat) (w : World) (hk : k < 256) (hA : useOf k = u) :
    (Instr.index 122 (.agg tabL.toArray) (.int .u8 (k : Int))).run Tryz.prog w = .ok (.int .u8 u) w := by
  have h16 : (0 : Int) ≤ (k : Int) ∧ (k : Int) < ((256 : Nat) : Int) := by omega
  have hA' : tabL.toArray[k]? = some (.int .u8 u) := by simp [tabL, hk, hA]
  generalize tabL.toArray = A at hA'
  simp [Instr.index, run_underlying Tryz.underlying122, asIntOf, h16, part, hA', Tryz.sizeOf5, Tryz.isAgg5, go_sem]
  intro h
  omega
/-- 0, if it is so; else an error -/
def erI (b : Bool) (e : Int) : Int := match b with | true => 0 | false => e
set_option maxHeartbeats 1000000 in
set_option maxRecDepth 100000 in
theorem insCheck_any (x : GIns) (w : World) (hx : InsB x) : Calls Tryz.prog 29 #[insV x] w fun e w' => e = .returned (.int .i64 (erI (insOk x) 2)) ∧ Below w.heap.size w w' := by
  obtain ⟨op, d, a, b, imm⟩ := x
  obtain ⟨⟨ho0, ho1⟩, -⟩ := hx
  simp only [] at *
  obtain ⟨k, rfl⟩ := Int.eq_ofNat_of_zero_le ho0
  have hk : k < 256 := by omega
  obtain ⟨u, hu⟩ : ∃ u, useOf k = u := ⟨_, rfl⟩
  have HM : Hid (u ∈ ([0, 2, 7, 8, 9, 11, 14] : List Int)) := by rw [← hu]; exact use_mem _
  have HX := Lib.hid (fun w => run_index256 u k w hk hu)
  have HU := Lib.hid hu; clear hu
  have HT := Lib.hid (fun W => table_any W)
  unfold insV
  simp only []
  have hixx := HX.out
  go_enter Tryz.func29, Tryz.ntmps29
  have b0 : (w.alloc (.cells #[.int .u8 (k : Int), .int .u8 d, .int .u8 a, .int .u8 b, .int .u32 imm] 24)).cell? ⟨w.heap.size, 0, none⟩ = some (.int .u8 (k : Int)) := by simp [go_sem]
  have b1 : (w.alloc (.cells #[.int .u8 (k : Int), .int .u8 d, .int .u8 a, .int .u8 b, .int .u32 imm] 24)).cell? ⟨w.heap.size, 1, none⟩ = some (.int .u8 d) := by simp [go_sem]
  have b2 : (w.alloc (.cells #[.int .u8 (k : Int), .int .u8 d, .int .u8 a, .int .u8 b, .int .u32 imm] 24)).cell? ⟨w.heap.size, 2, none⟩ = some (.int .u8 a) := by simp [go_sem]
  have b3 : (w.alloc (.cells #[.int .u8 (k : Int), .int .u8 d, .int .u8 a, .int .u8 b, .int .u32 imm] 24)).cell? ⟨w.heap.size, 3, none⟩ = some (.int .u8 b) := by simp [go_sem]
  have b4 : (w.alloc (.cells #[.int .u8 (k : Int), .int .u8 d, .int .u8 a, .int .u8 b, .int .u32 imm] 24)).cell? ⟨w.heap.size, 4, none⟩ = some (.int .u32 imm) := by simp [go_sem]
  have HB1 : Hid (Below w.heap.size w (w.alloc (.cells #[.int .u8 (k : Int), .int .u8 d, .int .u8 a, .int .u8 b, .int .u32 imm] 24))) := alloc_old w _
  have hz1 : w.heap.size < (w.alloc (.cells #[.int .u8 (k : Int), .int .u8 d, .int .u8 a, .int .u8 b, .int .u32 imm] 24)).heap.size := by simp
  go_upto_region 1 with fail
  generalize (w.alloc (.cells #[.int .u8 (k : Int), .int .u8 d, .int .u8 a, .int .u8 b, .int .u32 imm] 24)) = w1 at *
  have hn1 : ¬ w1.heap.size = w.heap.size := by omega
  go_cut [3] (fun v wx => ∃ ub, v = .pointer (some ⟨ub, 0, none⟩) ∧ wx.cell? ⟨ub, 0, none⟩ = some (.int .u8 u) ∧ Below w1.heap.size w1 wx)
  case first =>
    go_region_held3 (fun w' => w'.cell? ⟨w.heap.size, 0, none⟩ = some (.int .u8 (k : Int))) (go_keep) ((go_at_call 79; refine (HT.out _).mono ?_; rintro e w' ⟨rfl, hB⟩; have k1 : w'.cell? ⟨w.heap.size, 0, none⟩ = some (.int .u8 (k : Int)) := cell_keep hB (by simpa using (by omega)) (by simp [go_sem, *]); obtain ⟨hc, hf⟩ := bcell hB; have hzz := hB.size; simp at hzz; have hn2 : ¬ w'.heap.size = w.heap.size := by omega))
    all_goals
      go_wp2
      go_meet
      exact ⟨_, rfl, by simp [go_sem, hc], by first | (go_grown; done) | (go_grown; exact (show Below w1.heap.size w1 _ by go_grown).trans (hB.mono (by simp)))⟩
  case rest =>
    obtain ⟨ub, rfl, hub, hbx⟩ := hcut
    replace b1 := cell_keep hbx hz1 b1
    replace b2 := cell_keep hbx hz1 b2
    replace b3 := cell_keep hbx hz1 b3
    replace b4 := cell_keep hbx hz1 b4
    have HBC : Hid (Below w.heap.size w wc) := HB1.out.trans (hbx.mono (by omega))
    clear b0 hbx hixx HX HT hn1 hz1 HB1
    have HI : Hid (insOk ⟨k, d, a, b, imm⟩ = (decide (u ≠ 0) && regOk d (bitOf u 1) && regOk a (bitOf u 2) && regOk b (bitOf u 4) && (bitOf u 8 || decide (imm = 0)))) := by rw [Hid, ← HU.out]; rfl
    have f1 := fits_any d 1 u ub wc HM.out (by simp) hub
    have f2 := fits_any a 2 u ub wc HM.out (by simp) hub
    have f3 := fits_any b 4 u ub wc HM.out (by simp) hub
    obtain ⟨c, hbc, hcs⟩ := bit_and (u := u) (bit := 8) HM.out (by simp)
    generalize regOk d (bitOf u 1) = r1 at f1 HI
    generalize regOk a (bitOf u 2) = r2 at f2 HI
    generalize regOk b (bitOf u 4) = r3 at f3 HI
    generalize bitOf u 8 = r4 at hcs HI
    have F1 := Lib.hid f1; clear f1
    have F2 := Lib.hid f2; clear f2
    have F3 := Lib.hid f3; clear f3
    clear HU HM
    have hcs' : Hid (c = 0 ∧ r4 = false) ∨ Hid ((c == 0) = false ∧ r4 = true) := by
      rcases hcs with ⟨h1, h2⟩ | ⟨h1, h2, h3⟩
      · exact .inl ⟨h1, h2⟩
      · exact .inr ⟨h1, h3⟩
    clear hcs
    by_cases hu0 : u = 0
    · subst hu0
      go_wp2
      go_ret
      exact ⟨by rw [HI.out]; simp [erI], HBC.out⟩
    have hu1 : (u == 0) = false := by simpa using hu0
    have hu2 : decide (u ≠ 0) = true := by simpa using hu0
    have HU2 := Lib.hid hu2; clear hu2 hu0
    cases r1 with
    | false =>
      go_wp2_with (go_at_call 80; refine F1.out.mono ?_; rintro e w' ⟨rfl, rfl⟩)
      go_ret
      exact ⟨by rw [HI.out]; simp [erI], HBC.out⟩
    | true =>
    cases r2 with
    | false =>
      go_wp2_with fail
      refine F1.out.mono ?_; rintro e w' ⟨rfl, rfl⟩
      go_wp2_with fail
      refine F2.out.mono ?_; rintro e w' ⟨rfl, rfl⟩
      go_wp2
      go_ret
      exact ⟨by rw [HI.out]; simp [erI], HBC.out⟩
    | true =>
    cases r3 with
    | false =>
      go_wp2_with fail
      refine F1.out.mono ?_; rintro e w' ⟨rfl, rfl⟩
      go_wp2_with fail
      refine F2.out.mono ?_; rintro e w' ⟨rfl, rfl⟩
      go_wp2_with fail
      refine F3.out.mono ?_; rintro e w' ⟨rfl, rfl⟩
      go_wp2
      go_ret
      exact ⟨by rw [HI.out]; simp [erI], HBC.out⟩
    | true =>
    have him : (imm = 0 ∧ True) ∨ ((imm == 0) = false ∧ Hid (¬ imm = 0)) := by
      by_cases h : imm = 0
      · exact .inl ⟨h, trivial⟩
      · exact .inr ⟨by simpa using h, h⟩
    go_wp2_with fail
    refine F1.out.mono ?_; rintro e w' ⟨rfl, rfl⟩
    go_wp2_with fail
    refine F2.out.mono ?_; rintro e w' ⟨rfl, rfl⟩
    go_wp2_with fail
    refine F3.out.mono ?_; rintro e w' ⟨rfl, rfl⟩
    rcases hcs' with h | h
    · obtain ⟨rfl, rfl⟩ := h.out
      rcases him with ⟨rfl, -⟩ | ⟨h1, h2⟩
      · go_wp2
        go_ret
        exact ⟨by rw [HI.out]; simp [erI, HU2.out], HBC.out⟩
      · go_wp2
        go_ret
        exact ⟨by rw [HI.out]; simp [erI, h2.out], HBC.out⟩
    · obtain ⟨h1, rfl⟩ := h.out
      have h3 : (c != 0) = true := by simp [bne, h1]
      go_wp2
      go_ret
      exact ⟨by rw [HI.out]; simp [erI, HU2.out], HBC.out⟩
end Go.Proofs.YtoonkfhphbojcaaGreatDoor
