/- The walks of aediculeref04's Encode and Decode. -/
import Derived.Test.YtoonkfhphbojcaaGreatDoorBv20
namespace Go.Proofs.YtoonkfhphbojcaaGreatDoor
open Go.RowKit
def encL (x : GIns) : List UInt8 := [UInt8.ofNat x.op.toNat, UInt8.ofNat (x.d + 16 * x.a).toNat, UInt8.ofNat x.b.toNat, 0] ++ leB 4 x.imm
theorem regOk_lt {n : Int} {u : Bool} (h : regOk n u = true) : n < 16 := by
  unfold regOk at h
  simp at h
  omega
theorem insOk_regs {x : GIns} (h : insOk x = true) : x.d < 16 ∧ x.a < 16 ∧ x.b < 16 := by
  unfold insOk at h
  simp only [Bool.and_eq_true] at h
  exact ⟨regOk_lt h.1.1.1.2, regOk_lt h.1.1.2, regOk_lt h.1.2⟩
set_option maxHeartbeats 1000000 in
set_option maxRecDepth 100000 in
theorem renc04_no (x : GIns) (w : World) (h : insOk x = false) : Calls Tryz.prog 101 #[insV x] w fun e w' => e = .returned (.tuple #[.string ⟨#[]⟩, .int .i64 2]) ∧ Below w.heap.size w w' := by
  have HM := Lib.hid (fun W => rmay04 x W)
  rw [h] at HM
  clear h
  obtain ⟨op, d, a, b, imm⟩ := x
  unfold insV at *
  simp only [] at *
  go_enter Tryz.func101, Tryz.ntmps101
  go_wp2_with fail
  refine (HM.out _).mono ?_
  rintro e w2 ⟨rfl, hB⟩
  go_wp2
  go_ret2
  exact ⟨rfl, (alloc_old w _).trans (hB.mono (by simp))⟩
set_option maxHeartbeats 4000000 in
set_option maxRecDepth 100000 in
theorem renc04_yes (x : GIns) (w : World) (hx : InsB x) (h : insOk x = true) : Calls Tryz.prog 101 #[insV x] w fun e w' => e = .returned (.tuple #[.string (bsOf (encL x)), .int .i64 0]) ∧ Below w.heap.size w w' := by
  have HM := Lib.hid (fun W => rmay04 x W)
  have hr := insOk_regs h
  rw [h] at HM
  clear h
  obtain ⟨op, d, a, b, imm⟩ := x
  obtain ⟨⟨o0, o1⟩, ⟨d0, d1⟩, ⟨a0, a1⟩, ⟨b0', b1'⟩, ⟨i0, i1⟩⟩ := hx
  unfold insV at *
  simp only [] at *
  have HBY := Lib.hid (fun W => rbytes01 4 imm W (by omega) (by omega) i0 i1)
  generalize hW : (w.alloc (.cells #[.int .u8 op, .int .u8 d, .int .u8 a, .int .u8 b, .int .u32 imm] 24)) = w1
  have b0 : w1.cell? ⟨w.heap.size, 0, none⟩ = some (.int .u8 op) := by subst hW; simp [go_sem]
  have b1 : w1.cell? ⟨w.heap.size, 1, none⟩ = some (.int .u8 d) := by subst hW; simp [go_sem]
  have b2 : w1.cell? ⟨w.heap.size, 2, none⟩ = some (.int .u8 a) := by subst hW; simp [go_sem]
  have b3 : w1.cell? ⟨w.heap.size, 3, none⟩ = some (.int .u8 b) := by subst hW; simp [go_sem]
  have b4 : w1.cell? ⟨w.heap.size, 4, none⟩ = some (.int .u32 imm) := by subst hW; simp [go_sem]
  have HB1 : Hid (Below w.heap.size w w1) := by subst hW; exact alloc_old w _
  have hz1 : w.heap.size < w1.heap.size := by subst hW; simp
  subst hW
  obtain ⟨hr1, hr2, hr3⟩ := hr
  have r1 : IntKind.u8.wrap (16 * a) = 16 * a := by rw [IntKind.wrap_u8]; omega
  have r2 : IntKind.u8.wrap (d + 16 * a) = d + 16 * a := by rw [IntKind.wrap_u8]; omega
  have r3 : 16 * a % 256 = 16 * a := by omega
  have r4 : (d + 16 * a) % 256 = d + 16 * a := by omega
  go_enter Tryz.func101, Tryz.ntmps101
  go_wp2_with fail
  refine (HM.out _).mono ?_
  rintro e w2 ⟨rfl, hB⟩
  replace b0 := cell_keep hB hz1 b0
  replace b1 := cell_keep hB hz1 b1
  replace b2 := cell_keep hB hz1 b2
  replace b3 := cell_keep hB hz1 b3
  replace b4 := cell_keep hB hz1 b4
  have HB2 : Hid (Below w.heap.size w w2) := HB1.out.trans (hB.mono HB1.out.size)
  have hz2 : w.heap.size < w2.heap.size := by have := hB.size; omega
  have hne : ¬ w2.heap.size = w.heap.size := by omega
  clear hB HB1 hz1 HM
  go_wp2_with fail
  have hq : ∀ (W : World) (g : Nat), W.cell? ⟨g, 0, none⟩ = some (.int .u8 op) → W.cell? ⟨g, 1, none⟩ = some (.int .u8 (d + 16 * a)) → W.cell? ⟨g, 2, none⟩ = some (.int .u8 b) → W.cell? ⟨g, 3, none⟩ = some (.int .u8 0) → (convert 79 9 (.slice (some ⟨g, 0, none⟩) 4 4)).run Tryz.prog W = .ok (.string (bsOf [UInt8.ofNat op.toNat, UInt8.ofNat (d + 16 * a).toNat, UInt8.ofNat b.toNat, 0])) W := fun W g q0 q1 q2 q3 => by
    refine run_convert_bytes_back (P := Tryz.prog) W 79 9 5 ⟨g, 0, none⟩ 4 [UInt8.ofNat op.toNat, UInt8.ofNat (d + 16 * a).toNat, UInt8.ofNat b.toNat, 0] Tryz.underlying79 Tryz.underlying5 Tryz.underlying9 (fun j hj => ?_)
    rw [add_at]
    have e1 : ((UInt8.ofNat op.toNat).toNat : Int) = op := by rw [u8_ofNat _ (by omega)]; omega
    have e2 : ((UInt8.ofNat (d + 16 * a).toNat).toNat : Int) = d + 16 * a := by rw [u8_ofNat _ (by omega)]; omega
    have e3 : ((UInt8.ofNat b.toNat).toNat : Int) = b := by rw [u8_ofNat _ (by omega)]; omega
    match j, hj with
    | 0, _ => simp only [Nat.add_zero, List.getElem_cons_zero, e1]; exact q0
    | 1, _ => simp only [Nat.zero_add, List.getElem_cons_succ, List.getElem_cons_zero, e2]; exact q1
    | 2, _ => simp only [Nat.zero_add, List.getElem_cons_succ, List.getElem_cons_zero, e3]; exact q2
    | 3, _ => simp only [Nat.zero_add, List.getElem_cons_succ, List.getElem_cons_zero]; exact q3
  have hcat : ¬ 9223372036854775807 < (bsOf [UInt8.ofNat op.toNat, UInt8.ofNat (d + 16 * a).toNat, UInt8.ofNat b.toNat, 0]).size + (bsOf (leB 4 imm)).size := by rw [bsOf_size, bsOf_size, leB_length]; simp
  have HE : Hid (bsOf (encL ⟨op, d, a, b, imm⟩) = bsOf [UInt8.ofNat op.toNat, UInt8.ofNat (d + 16 * a).toNat, UInt8.ofNat b.toNat, 0] ++ bsOf (leB 4 imm)) := Lib.hid (by rw [bsOf_app]; rfl)
  generalize bsOf [UInt8.ofNat op.toNat, UInt8.ofNat (d + 16 * a).toNat, UInt8.ofNat b.toNat, 0] = S0 at hq hcat HE
  have hn2 : ¬ w.heap.size = w2.heap.size := by omega
  obtain ⟨S, hSd⟩ : ∃ S : World → Prop, ∀ w', S w' ↔ (w'.cell? ⟨w.heap.size, 0, none⟩ = some (.int .u8 op) ∧ w'.cell? ⟨w.heap.size, 1, none⟩ = some (.int .u8 d) ∧ w'.cell? ⟨w.heap.size, 2, none⟩ = some (.int .u8 a) ∧ w'.cell? ⟨w.heap.size, 3, none⟩ = some (.int .u8 b) ∧ w'.cell? ⟨w.heap.size, 4, none⟩ = some (.int .u32 imm)) := ⟨_, fun _ => Iff.rfl⟩
  have HSD := Lib.hid hSd; clear hSd
  have hS0 : S w2.drew := (HSD.out _).2 ⟨b0, b1, b2, b3, b4⟩
  have HSB := Lib.hid (fun (w' : World) (hb : Below w2.heap.size w2 w') => (HSD.out w').2 ⟨cell_keep hb hz2 b0, cell_keep hb hz2 b1, cell_keep hb hz2 b2, cell_keep hb hz2 b3, cell_keep hb hz2 b4⟩)
  have c0 := fun x : HW S => ((HSD.out _).1 x.h).1
  have c1 := fun x : HW S => ((HSD.out _).1 x.h).2.1
  have c2 := fun x : HW S => ((HSD.out _).1 x.h).2.2.1
  have c3 := fun x : HW S => ((HSD.out _).1 x.h).2.2.2.1
  have c4 := fun x : HW S => ((HSD.out _).1 x.h).2.2.2.2
  haveI : Nonempty (HW S) := ⟨⟨_, hS0⟩⟩
  refine wp_region_free S [0, 1, 2, 3, 4, 5, 6, 7, 8, 9, 12, 13] 16 6 rfl (by kernel_rfl) rfl rfl rfl hS0 ?_
  repeat (refine wpReads_step (fun K hK => ?_); go_simp; refine hK _ ?_; clear hK K)
  refine wpReads_nil ?_
  refine wpAnyT_two (i := 10) (k := 14) (by kernel_rfl) rfl rfl (fun K hK => ?_) (fun K hK => ?_)
  · go_simp
    refine hK _ _ (HSB.out _ (by go_grown)) ?_
    clear hK K
    refine wpAnyT_two (i := 11) (k := 14) (by kernel_rfl) rfl rfl (fun K hK => ?_) (fun K hK => ?_)
    · go_simp
      refine hK _ _ (HSB.out _ (by go_grown)) ?_
      clear hK K
      refine wpAnyT_one (i := 14) (by kernel_rfl) rfl (fun K hK => ?_)
      refine step_call rfl 136 #[.tmp 20, .const (.int .i64 4)] #[22, 3] rfl Tryz.func136 (by kernel_rfl) (by kernel_rfl) #[.int .u32 imm, .int .i64 4] (by simp [Act.eval]) (HBY.out _) ?_
      rintro e w' ⟨rfl, hB⟩
      have HBW : Below w2.heap.size w2 w' := Below.trans (by go_grown) (hB.mono (by simp))
      obtain ⟨hc, hf⟩ := bcell hB
      refine ⟨_, rfl, hK _ _ (HSB.out _ HBW) ?_⟩
      clear hK K hB
      simp only [Act.put, List.setIfInBounds_toArray, List.set_cons_zero, List.set_cons_succ]
      refine wpAnyT_one (i := 15) (by kernel_rfl) rfl (fun K hK => ?_)
      go_simp
      refine hK _ _ (HSB.out _ (by first | exact HBW | exact HBW.alloc HBW.size _)) ?_
      clear hK K
      refine wpAnyT_one (i := 16) (by kernel_rfl) rfl (fun K hK => ?_)
      go_simp
      refine hK _ _ (HSB.out _ (by first | exact HBW | exact HBW.alloc HBW.size _)) ?_
      clear hK K
      refine wpAnyT_one (i := 17) (by kernel_rfl) rfl (fun K hK => ?_)
      go_simp
      refine hK _ _ (HSB.out _ (by first | exact HBW | exact HBW.alloc HBW.size _)) ?_
      clear hK K
      refine wpAnyT_done (by kernel_rfl) (NoPanic.normal ?_)
      go_wp2
      go_ret2
      exact ⟨by rw [HE.out]; rfl, by first | exact HB2.out.trans (HBW.mono HB2.out.size) | exact HB2.out.trans ((HBW.alloc HBW.size _).mono HB2.out.size)⟩
    · refine step_call rfl 136 #[.tmp 20, .const (.int .i64 4)] #[22, 3] rfl Tryz.func136 (by kernel_rfl) (by kernel_rfl) #[.int .u32 imm, .int .i64 4] (by simp [Act.eval]) (HBY.out _) ?_
      rintro e w' ⟨rfl, hB⟩
      have HBW : Below w2.heap.size w2 w' := Below.trans (by go_grown) (hB.mono (by simp))
      obtain ⟨hc, hf⟩ := bcell hB
      refine ⟨_, rfl, hK _ _ (HSB.out _ HBW) ?_⟩
      clear hK K hB
      simp only [Act.put, List.setIfInBounds_toArray, List.set_cons_zero, List.set_cons_succ]
      refine wpAnyT_one (i := 11) (by kernel_rfl) rfl (fun K hK => ?_)
      go_simp
      refine hK _ _ (HSB.out _ (by go_grown)) ?_
      clear hK K
      refine wpAnyT_one (i := 15) (by kernel_rfl) rfl (fun K hK => ?_)
      go_simp
      refine hK _ _ (HSB.out _ (by first | exact HBW | exact HBW.alloc HBW.size _)) ?_
      clear hK K
      refine wpAnyT_one (i := 16) (by kernel_rfl) rfl (fun K hK => ?_)
      go_simp
      refine hK _ _ (HSB.out _ (by first | exact HBW | exact HBW.alloc HBW.size _)) ?_
      clear hK K
      refine wpAnyT_one (i := 17) (by kernel_rfl) rfl (fun K hK => ?_)
      go_simp
      refine hK _ _ (HSB.out _ (by first | exact HBW | exact HBW.alloc HBW.size _)) ?_
      clear hK K
      refine wpAnyT_done (by kernel_rfl) (NoPanic.normal ?_)
      go_wp2
      go_ret2
      exact ⟨by rw [HE.out]; rfl, by first | exact HB2.out.trans (HBW.mono HB2.out.size) | exact HB2.out.trans ((HBW.alloc HBW.size _).mono HB2.out.size)⟩
  · refine step_call rfl 136 #[.tmp 20, .const (.int .i64 4)] #[22, 3] rfl Tryz.func136 (by kernel_rfl) (by kernel_rfl) #[.int .u32 imm, .int .i64 4] (by simp [Act.eval]) (HBY.out _) ?_
    rintro e w' ⟨rfl, hB⟩
    have HBW : Below w2.heap.size w2 w' := Below.trans (by go_grown) (hB.mono (by simp))
    obtain ⟨hc, hf⟩ := bcell hB
    refine ⟨_, rfl, hK _ _ (HSB.out _ HBW) ?_⟩
    clear hK K hB
    simp only [Act.put, List.setIfInBounds_toArray, List.set_cons_zero, List.set_cons_succ]
    refine wpAnyT_one (i := 10) (by kernel_rfl) rfl (fun K hK => ?_)
    go_simp
    refine hK _ _ (HSB.out _ (HBW.alloc HBW.size _)) ?_
    clear hK K
    refine wpAnyT_one (i := 11) (by kernel_rfl) rfl (fun K hK => ?_)
    go_simp
    refine hK _ _ (HSB.out _ (HBW.alloc HBW.size _)) ?_
    clear hK K
    refine wpAnyT_one (i := 15) (by kernel_rfl) rfl (fun K hK => ?_)
    go_simp
    refine hK _ _ (HSB.out _ (by first | exact HBW | exact HBW.alloc HBW.size _)) ?_
    clear hK K
    refine wpAnyT_one (i := 16) (by kernel_rfl) rfl (fun K hK => ?_)
    go_simp
    refine hK _ _ (HSB.out _ (by first | exact HBW | exact HBW.alloc HBW.size _)) ?_
    clear hK K
    refine wpAnyT_one (i := 17) (by kernel_rfl) rfl (fun K hK => ?_)
    go_simp
    refine hK _ _ (HSB.out _ (by first | exact HBW | exact HBW.alloc HBW.size _)) ?_
    clear hK K
    refine wpAnyT_done (by kernel_rfl) (NoPanic.normal ?_)
    go_wp2
    go_ret2
    exact ⟨by rw [HE.out]; rfl, by first | exact HB2.out.trans (HBW.mono HB2.out.size) | exact HB2.out.trans ((HBW.alloc HBW.size _).mono HB2.out.size)⟩
end Go.Proofs.YtoonkfhphbojcaaGreatDoor
