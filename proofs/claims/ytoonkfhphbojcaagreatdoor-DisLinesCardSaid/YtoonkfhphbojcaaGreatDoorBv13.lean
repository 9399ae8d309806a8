/- The walks of insn.Check and insn.Decode. The walks of insn.Uses and dis.uses. The walk of dis.names: a map from ops to labels. The walks of dis.tell and dis.told. The walk of dis.Insn. The walks of dis.number and dis.register. -/
import Derived.Test.YtoonkfhphbojcaaGreatDoorBv08
import Derived.Test.YtoonkfhphbojcaaGreatDoorBv11
import Derived.Test.YtoonkfhphbojcaaGreatDoorBv12
import Derived.Test.YtoonkfhphbojcaaGreatDoorBv10
namespace Go.Proofs.YtoonkfhphbojcaaGreatDoor
open Go.RowKit
theorem run_index256 (u : Int) (k : Nat) (w : World) (hk : k < 256) (hA : useOf k = u) :
    (Instr.index 122 (.agg tabL.toArray) (.int .u8 (k : Int))).run Tryz.prog w = .ok (.int .u8 u) w := by
  have h16 : (0 : Int) ≤ (k : Int) ∧ (k : Int) < ((256 : Nat) : Int) := by omega
  have hA' : tabL.toArray[k]? = some (.int .u8 u) := by simp [tabL, hk, hA]
  generalize tabL.toArray = A at hA'
  simp [Instr.index, run_underlying Tryz.underlying122, asIntOf, h16, part, hA', Tryz.sizeOf5, Tryz.isAgg5, go_sem]
  intro h
  omega
/-- 0, if it is so; else an error -/
def erI (b : Bool) (e : Int) : Int := match b with | true => 0 | false => e
set_option maxHeartbeats 1000000 in
set_option maxRecDepth 100000 in
theorem insCheck_any (x : GIns) (w : World) (hx : InsB x) : Calls Tryz.prog 29 #[insV x] w fun e w' => e = .returned (.int .i64 (erI (insOk x) 2)) ∧ Below w.heap.size w w' := by
  obtain ⟨op, d, a, b, imm⟩ := x
  obtain ⟨⟨ho0, ho1⟩, -⟩ := hx
  simp only [] at *
  obtain ⟨k, rfl⟩ := Int.eq_ofNat_of_zero_le ho0
  have hk : k < 256 := by omega
  obtain ⟨u, hu⟩ : ∃ u, useOf k = u := ⟨_, rfl⟩
  have HM : Hid (u ∈ ([0, 2, 7, 8, 9, 11, 14] : List Int)) := by rw [← hu]; exact use_mem _
  have HX := Lib.hid (fun w => run_index256 u k w hk hu)
  have HU := Lib.hid hu; clear hu
  have HT := Lib.hid (fun W => table_any W)
  unfold insV
  simp only []
  have hixx := HX.out
  go_enter Tryz.func29, Tryz.ntmps29
  have b0 : (w.alloc (.cells #[.int .u8 (k : Int), .int .u8 d, .int .u8 a, .int .u8 b, .int .u32 imm] 24)).cell? ⟨w.heap.size, 0, none⟩ = some (.int .u8 (k : Int)) := by simp [go_sem]
  have b1 : (w.alloc (.cells #[.int .u8 (k : Int), .int .u8 d, .int .u8 a, .int .u8 b, .int .u32 imm] 24)).cell? ⟨w.heap.size, 1, none⟩ = some (.int .u8 d) := by simp [go_sem]
  have b2 : (w.alloc (.cells #[.int .u8 (k : Int), .int .u8 d, .int .u8 a, .int .u8 b, .int .u32 imm] 24)).cell? ⟨w.heap.size, 2, none⟩ = some (.int .u8 a) := by simp [go_sem]
  have b3 : (w.alloc (.cells #[.int .u8 (k : Int), .int .u8 d, .int .u8 a, .int .u8 b, .int .u32 imm] 24)).cell? ⟨w.heap.size, 3, none⟩ = some (.int .u8 b) := by simp [go_sem]
  have b4 : (w.alloc (.cells #[.int .u8 (k : Int), .int .u8 d, .int .u8 a, .int .u8 b, .int .u32 imm] 24)).cell? ⟨w.heap.size, 4, none⟩ = some (.int .u32 imm) := by simp [go_sem]
  have HB1 : Hid (Below w.heap.size w (w.alloc (.cells #[.int .u8 (k : Int), .int .u8 d, .int .u8 a, .int .u8 b, .int .u32 imm] 24))) := alloc_old w _
  have hz1 : w.heap.size < (w.alloc (.cells #[.int .u8 (k : Int), .int .u8 d, .int .u8 a, .int .u8 b, .int .u32 imm] 24)).heap.size := by simp
  go_upto_region 1 with fail
  generalize (w.alloc (.cells #[.int .u8 (k : Int), .int .u8 d, .int .u8 a, .int .u8 b, .int .u32 imm] 24)) = w1 at *
  have hn1 : ¬ w1.heap.size = w.heap.size := by omega
  go_cut [3] (fun v wx => ∃ ub, v = .pointer (some ⟨ub, 0, none⟩) ∧ wx.cell? ⟨ub, 0, none⟩ = some (.int .u8 u) ∧ Below w1.heap.size w1 wx)
  case first =>
    go_region_held3 (fun w' => w'.cell? ⟨w.heap.size, 0, none⟩ = some (.int .u8 (k : Int))) (go_keep) ((go_at_call 79; refine (HT.out _).mono ?_; rintro e w' ⟨rfl, hB⟩; have k1 : w'.cell? ⟨w.heap.size, 0, none⟩ = some (.int .u8 (k : Int)) := cell_keep hB (by simpa using (by omega)) (by simp [go_sem, *]); obtain ⟨hc, hf⟩ := bcell hB; have hzz := hB.size; simp at hzz; have hn2 : ¬ w'.heap.size = w.heap.size := by omega))
    all_goals
      go_wp2
      go_meet
      exact ⟨_, rfl, by simp [go_sem, hc], by first | (go_grown; done) | (go_grown; exact (show Below w1.heap.size w1 _ by go_grown).trans (hB.mono (by simp)))⟩
  case rest =>
    obtain ⟨ub, rfl, hub, hbx⟩ := hcut
    replace b1 := cell_keep hbx hz1 b1
    replace b2 := cell_keep hbx hz1 b2
    replace b3 := cell_keep hbx hz1 b3
    replace b4 := cell_keep hbx hz1 b4
    have HBC : Hid (Below w.heap.size w wc) := HB1.out.trans (hbx.mono (by omega))
    clear b0 hbx hixx HX HT hn1 hz1 HB1
    have HI : Hid (insOk ⟨k, d, a, b, imm⟩ = (decide (u ≠ 0) && regOk d (bitOf u 1) && regOk a (bitOf u 2) && regOk b (bitOf u 4) && (bitOf u 8 || decide (imm = 0)))) := by rw [Hid, ← HU.out]; rfl
    have f1 := fits_any d 1 u ub wc HM.out (by simp) hub
    have f2 := fits_any a 2 u ub wc HM.out (by simp) hub
    have f3 := fits_any b 4 u ub wc HM.out (by simp) hub
    obtain ⟨c, hbc, hcs⟩ := bit_and (u := u) (bit := 8) HM.out (by simp)
    generalize regOk d (bitOf u 1) = r1 at f1 HI
    generalize regOk a (bitOf u 2) = r2 at f2 HI
    generalize regOk b (bitOf u 4) = r3 at f3 HI
    generalize bitOf u 8 = r4 at hcs HI
    have F1 := Lib.hid f1; clear f1
    have F2 := Lib.hid f2; clear f2
    have F3 := Lib.hid f3; clear f3
    clear HU HM
    have hcs' : Hid (c = 0 ∧ r4 = false) ∨ Hid ((c == 0) = false ∧ r4 = true) := by
      rcases hcs with ⟨h1, h2⟩ | ⟨h1, h2, h3⟩
      · exact .inl ⟨h1, h2⟩
      · exact .inr ⟨h1, h3⟩
    clear hcs
    by_cases hu0 : u = 0
    · subst hu0
      go_wp2
      go_ret
      exact ⟨by rw [HI.out]; simp [erI], HBC.out⟩
    have hu1 : (u == 0) = false := by simpa using hu0
    have hu2 : decide (u ≠ 0) = true := by simpa using hu0
    have HU2 := Lib.hid hu2; clear hu2 hu0
    cases r1 with
    | false =>
      go_wp2_with (go_at_call 80; refine F1.out.mono ?_; rintro e w' ⟨rfl, rfl⟩)
      go_ret
      exact ⟨by rw [HI.out]; simp [erI], HBC.out⟩
    | true =>
    cases r2 with
    | false =>
      go_wp2_with fail
      refine F1.out.mono ?_; rintro e w' ⟨rfl, rfl⟩
      go_wp2_with fail
      refine F2.out.mono ?_; rintro e w' ⟨rfl, rfl⟩
      go_wp2
      go_ret
      exact ⟨by rw [HI.out]; simp [erI], HBC.out⟩
    | true =>
    cases r3 with
    | false =>
      go_wp2_with fail
      refine F1.out.mono ?_; rintro e w' ⟨rfl, rfl⟩
      go_wp2_with fail
      refine F2.out.mono ?_; rintro e w' ⟨rfl, rfl⟩
      go_wp2_with fail
      refine F3.out.mono ?_; rintro e w' ⟨rfl, rfl⟩
      go_wp2
      go_ret
      exact ⟨by rw [HI.out]; simp [erI], HBC.out⟩
    | true =>
    have him : (imm = 0 ∧ True) ∨ ((imm == 0) = false ∧ Hid (¬ imm = 0)) := by
      by_cases h : imm = 0
      · exact .inl ⟨h, trivial⟩
      · exact .inr ⟨by simpa using h, h⟩
    go_wp2_with fail
    refine F1.out.mono ?_; rintro e w' ⟨rfl, rfl⟩
    go_wp2_with fail
    refine F2.out.mono ?_; rintro e w' ⟨rfl, rfl⟩
    go_wp2_with fail
    refine F3.out.mono ?_; rintro e w' ⟨rfl, rfl⟩
    rcases hcs' with h | h
    · obtain ⟨rfl, rfl⟩ := h.out
      rcases him with ⟨rfl, -⟩ | ⟨h1, h2⟩
      · go_wp2
        go_ret
        exact ⟨by rw [HI.out]; simp [erI, HU2.out], HBC.out⟩
      · go_wp2
        go_ret
        exact ⟨by rw [HI.out]; simp [erI, h2.out], HBC.out⟩
    · obtain ⟨h1, rfl⟩ := h.out
      have h3 : (c != 0) = true := by simp [bne, h1]
      go_wp2
      go_ret
      exact ⟨by rw [HI.out]; simp [erI, HU2.out], HBC.out⟩
end Go.Proofs.YtoonkfhphbojcaaGreatDoor
namespace Go.Proofs.YtoonkfhphbojcaaGreatDoor
open Go.RowKit Go.Maps
theorem results_tmp5 {fn : Func} {t u v x y : Tmp} (h : fn.results = #[.tmp t, .tmp u, .tmp v, .tmp x, .tmp y]) (tmps : Array Value) (P : Program) (w : World) :
    (results fn tmps).run P w = .ok (.tuple #[tmps.getD t undef, tmps.getD u undef, tmps.getD v undef, tmps.getD x undef, tmps.getD y undef]) w := by
  simp [results, h]
theorem set33 {w : World} {b : Nat} {cs : Array Value} {t : TypeId} {c : Nat × Nat} (h : w.heap[b]? = some (.cells cs t c)) (k : Nat) (u : Value) : (w.setCell ⟨b, k, none⟩ u).heap[b]? = some (.cells (cs.setIfInBounds k u) t c) := by
  simp [World.setCell, Array.getElem?_modify, h]
def usesV (op : Int) : Value := .agg #[.bool (bitOf (useOf op) 1), .bool (bitOf (useOf op) 2), .bool (bitOf (useOf op) 4), .bool (bitOf (useOf op) 8)]
set_option maxHeartbeats 4000000 in
set_option maxRecDepth 100000 in
theorem iUses_any (op : Int) (w : World) (h0 : 0 ≤ op) (h1 : op ≤ 255) :
    Calls Tryz.prog 95 #[.int .u8 op] w fun e w' => e = .returned (.tuple #[.bool (bitOf (useOf op) 1), .bool (bitOf (useOf op) 2), .bool (bitOf (useOf op) 4), .bool (bitOf (useOf op) 8), .int .i64 (if useOf op = 0 then 2 else 0)]) ∧ Below w.heap.size w w' := by
  obtain ⟨k, rfl⟩ : ∃ k : Nat, op = k := ⟨op.toNat, by omega⟩
  have hm := use_mem (k : Int)
  have HT := Lib.hid (fun W => table_any W)
  obtain ⟨u, hu⟩ : ∃ u, useOf (k : Int) = u := ⟨_, rfl⟩
  have HX := Lib.hid (fun w => run_index256 u k w (by omega) hu)
  rw [hu] at hm ⊢
  clear hu
  simp only [List.mem_cons, List.not_mem_nil, or_false] at hm
  rcases hm with rfl | rfl | rfl | rfl | rfl | rfl | rfl
  all_goals
    have hx := HX.out
    go_enter Tryz.func95, Tryz.ntmps95
    go_wp2_with fail
    refine (HT.out _).mono ?_
    rintro e w2 ⟨rfl, hB⟩
    go_wp2
    refine bodyPost_ret (results_tmp5 rfl _ _ _) rfl ?_
    exact ⟨by kernel_rfl, hB⟩
set_option maxHeartbeats 400000 in
set_option maxRecDepth 100000 in
theorem uses33_of (op : Int) (b1 b2 b3 b4 : Bool) (r : Int) (w : World) (H : Hid (∀ W, Calls Tryz.prog 95 #[.int .u8 op] W fun e w' => e = .returned (.tuple #[.bool b1, .bool b2, .bool b3, .bool b4, .int .i64 r]) ∧ Below W.heap.size W w')) :
    Calls Tryz.prog 41 #[.int .u8 op] w fun e w' => e = .returned (.agg #[.bool b1, .bool b2, .bool b3, .bool b4]) ∧ Below w.heap.size w w' := by
  have HB1 : Hid (Below w.heap.size w (w.alloc (.cells #[.bool false, .bool false, .bool false, .bool false] 70))) := alloc_old w _
  have hX := new_block w (.cells #[.bool false, .bool false, .bool false, .bool false] 70)
  go_enter Tryz.func41, Tryz.ntmps41
  go_upto_region 1 with fail
  generalize (w.alloc (.cells #[.bool false, .bool false, .bool false, .bool false] 70)) = w1 at *
  go_wp2_with fail
  refine (H.out _).mono ?_
  rintro e w2 ⟨rfl, hB⟩
  have hX2 := (hB.block w.heap.size (Array.getElem?_eq_some_iff.1 hX).1).trans hX
  have z0 := Lib.cell_of_heap hX2 0
  have z1 := Lib.cell_of_heap hX2 1
  have z2 := Lib.cell_of_heap hX2 2
  have z3 := Lib.cell_of_heap hX2 3
  have f0 := Lib.frozen_of_heap hX2 0
  have f1 := Lib.frozen_of_heap hX2 1
  have f2 := Lib.frozen_of_heap hX2 2
  have f3 := Lib.frozen_of_heap hX2 3
  go_upto_region 2 with fail
  have hX3 := set33 (set33 (set33 (set33 hX2 0 (.bool b1)) 1 (.bool b2)) 2 (.bool b3)) 3 (.bool b4)
  have HB3 : Hid (Below w.heap.size w ((((w2.setCell ⟨w.heap.size, 0, none⟩ (.bool b1)).setCell ⟨w.heap.size, 1, none⟩ (.bool b2)).setCell ⟨w.heap.size, 2, none⟩ (.bool b3)).setCell ⟨w.heap.size, 3, none⟩ (.bool b4))) := ((((HB1.out.trans (hB.mono HB1.out.size)).setCell (p := ⟨_, 0, none⟩) (Nat.le_refl _) _).setCell (p := ⟨_, 1, none⟩) (Nat.le_refl _) _).setCell (p := ⟨_, 2, none⟩) (Nat.le_refl _) _).setCell (p := ⟨_, 3, none⟩) (Nat.le_refl _) _
  generalize ((((w2.setCell ⟨w.heap.size, 0, none⟩ (.bool b1)).setCell ⟨w.heap.size, 1, none⟩ (.bool b2)).setCell ⟨w.heap.size, 2, none⟩ (.bool b3)).setCell ⟨w.heap.size, 3, none⟩ (.bool b4)) = w3 at *
  clear z0 z1 z2 z3 f0 f1 f2 f3 hX2 hB hX HB1 H
  replace hX3 : w3.heap[w.heap.size]? = some (.cells #[.bool b1, .bool b2, .bool b3, .bool b4] 70 (0, 0)) := hX3
  have z0 : w3.cell? ⟨w.heap.size, 0, none⟩ = some (.bool b1) := Lib.cell_of_heap hX3 0
  have z1 : w3.cell? ⟨w.heap.size, 1, none⟩ = some (.bool b2) := Lib.cell_of_heap hX3 1
  have z2 : w3.cell? ⟨w.heap.size, 2, none⟩ = some (.bool b3) := Lib.cell_of_heap hX3 2
  have z3 : w3.cell? ⟨w.heap.size, 3, none⟩ = some (.bool b4) := Lib.cell_of_heap hX3 3
  have f0 := Lib.frozen_of_heap hX3 0
  have f1 := Lib.frozen_of_heap hX3 1
  have f2 := Lib.frozen_of_heap hX3 2
  have f3 := Lib.frozen_of_heap hX3 3
  go_wp2
  have hX4 := set33 (set33 (set33 (set33 hX3 0 (.bool b1)) 1 (.bool b2)) 2 (.bool b3)) 3 (.bool b4)
  have HB4 : Hid (Below w.heap.size w ((((w3.setCell ⟨w.heap.size, 0, none⟩ (.bool b1)).setCell ⟨w.heap.size, 1, none⟩ (.bool b2)).setCell ⟨w.heap.size, 2, none⟩ (.bool b3)).setCell ⟨w.heap.size, 3, none⟩ (.bool b4))) := (((HB3.out.setCell (p := ⟨_, 0, none⟩) (Nat.le_refl _) _).setCell (p := ⟨_, 1, none⟩) (Nat.le_refl _) _).setCell (p := ⟨_, 2, none⟩) (Nat.le_refl _) _).setCell (p := ⟨_, 3, none⟩) (Nat.le_refl _) _
  generalize ((((w3.setCell ⟨w.heap.size, 0, none⟩ (.bool b1)).setCell ⟨w.heap.size, 1, none⟩ (.bool b2)).setCell ⟨w.heap.size, 2, none⟩ (.bool b3)).setCell ⟨w.heap.size, 3, none⟩ (.bool b4)) = w4 at *
  clear z0 z1 z2 z3 f0 f1 f2 f3 hX3 HB3
  replace hX4 : w4.heap[w.heap.size]? = some (.cells #[.bool b1, .bool b2, .bool b3, .bool b4] 70 (0, 0)) := hX4
  have z0 : w4.cell? ⟨w.heap.size, 0, none⟩ = some (.bool b1) := Lib.cell_of_heap hX4 0
  have z1 : w4.cell? ⟨w.heap.size, 1, none⟩ = some (.bool b2) := Lib.cell_of_heap hX4 1
  have z2 : w4.cell? ⟨w.heap.size, 2, none⟩ = some (.bool b3) := Lib.cell_of_heap hX4 2
  have z3 : w4.cell? ⟨w.heap.size, 3, none⟩ = some (.bool b4) := Lib.cell_of_heap hX4 3
  exact bodyPost_ret (v := .agg #[.bool b1, .bool b2, .bool b3, .bool b4]) (by simp [results, Tryz.results41, go_sem, z0, z1, z2, z3]) rfl ⟨rfl, HB4.out⟩
theorem uses33 (op : Int) (w : World) (h0 : 0 ≤ op) (h1 : op ≤ 255) :
    Calls Tryz.prog 41 #[.int .u8 op] w fun e w' => e = .returned (usesV op) ∧ Below w.heap.size w w' :=
  uses33_of op _ _ _ _ _ w (Lib.hid fun W => iUses_any op W h0 h1)
/-- what ends a reading -/
def wrongV : Value := .iface 142 (.agg #[])
def wrongE : Ending := .panicked [{ v := wrongV, recovered := false }]
set_option maxRecDepth 100000 in
theorem need_any (b : Bool) (w : World) : Calls Tryz.prog 58 #[.bool b] w fun e w' => e = (if b then .returned (.tuple #[]) else wrongE) ∧ w' = w := by
  cases b with
  | true =>
    go_enter Tryz.func58, Tryz.ntmps58
    go_wp2
    go_end0
    exact ⟨rfl, rfl⟩
  | false =>
    go_enter Tryz.func58, Tryz.ntmps58
    go_wp2
    exact ⟨rfl, rfl, rfl⟩
end Go.Proofs.YtoonkfhphbojcaaGreatDoor
namespace Go.Proofs.YtoonkfhphbojcaaGreatDoor
open Go.RowKit Go.Maps
def labV (l : BL) : Value := .agg #[.string (bsOf l)]
theorem u8Keyed : Keyed Tryz.prog 5 := int_keyed Tryz.underlying5
def u8ok (a : Int) : Prop := 0 ≤ a ∧ a ≤ 255
noncomputable def u8E : KeyEnc Tryz.prog 5 Int where
  enc k := .int .u8 k
  lit k := .int .u8 k
  ok := u8ok
  key k h := keyOf_int_mk Tryz.underlying5 (by unfold u8ok at h; simp [Lit.wf]; exact h)
  inj a b h := by simp at h; exact h
theorem zeroLab (w : World) : (zeroValue 128).run Tryz.prog w = .ok (labV []) w := by kernel_rfl
/-- the labels of ops, the last laid first -/
def namesF : List (Int × BL) → Int → Option Value
  | [], _ => none
  | p :: r, a => if a = p.1 then some (labV p.2) else namesF r a
theorem namesF_nil : namesF [] = fun _ => none := by funext a; rfl
theorem namesF_put (p : Int × BL) (r : List (Int × BL)) : (fun a => if a = p.1 then some (labV p.2) else namesF r a) = namesF (p :: r) := by funext a; rfl

def opLit : List (Int × BL) := [(50, [115, 121, 115]), (46, [98, 103, 101, 117]), (45, [98, 108, 116, 117]), (44, [98, 110, 101]), (43, [98, 101, 113]), (42, [106, 114]), (41, [106, 97, 108]), (40, [106, 109, 112]), (36, [115, 119]), (35, [115, 98]), (34, [108, 119]), (33, [108, 98]), (32, [108, 105]), (30, [115, 101, 113, 105]), (29, [115, 108, 116, 117, 105]), (26, [115, 104, 114, 105]), (25, [115, 104, 108, 105]), (24, [120, 111, 114, 105]), (23, [111, 114, 105]), (22, [97, 110, 100, 105]), (19, [109, 117, 108, 105]), (17, [97, 100, 100, 105])]
def opWords : List BL := [[97, 100, 100], [115, 117, 98], [109, 117, 108], [100, 105, 118, 117], [114, 101, 109, 117], [97, 110, 100], [111, 114], [120, 111, 114], [115, 104, 108], [115, 104, 114], [115, 97, 114], [115, 108, 116], [115, 108, 116, 117], [115, 101, 113]]
/-- the first k words, the last first -/
def wordsL : Nat → List (Int × BL)
  | 0 => opLit
  | k + 1 => ((k : Int) + 1, opWords.getD k []) :: wordsL k
def opL : List (Int × BL) := wordsL 14
def wordsB : BL := [97, 100, 100, 32, 115, 117, 98, 32, 109, 117, 108, 32, 100, 105, 118, 117, 32, 114, 101, 109, 117, 32, 97, 110, 100, 32, 111, 114, 32, 120, 111, 114, 32, 115, 104, 108, 32, 115, 104, 114, 32, 115, 97, 114, 32, 115, 108, 116, 32, 115, 108, 116, 117, 32, 115, 101, 113]
theorem words_fields : Lib.fields wordsB = opWords := by kernel_rfl
theorem words_ascii : ∀ (j : Nat) b, wordsB[j]? = some b → b.toNat < 128 := by
  intro j b h
  have hm : b ∈ wordsB := List.mem_of_getElem? h
  exact (show ∀ b ∈ wordsB, b.toNat < 128 by decide) b hm
theorem info_str33 : (Tryz.prog.info? 9).map (fun i => (i.zero, i.size, i.bytes)) = some (some (.string ByteArray.empty), 1, 16) := by kernel_rfl
theorem fields_words (w : World) (h : Lib33 w) : Calls Tryz.prog 130 #[.string (bsOf wordsB)] w fun e w' => e = .returned (.slice (some ⟨w.heap.size, 0, none⟩) 14 14) ∧ w' = w.alloc (.cells (opWords.map fun l => Value.string (bsOf l)).toArray 9) := by
  have := Any.strings_Fields Tryz.lFields info_str33 (by kernel_rfl) (bsOf wordsB) w (by rw [bsOf_size]; decide) words_ascii h.asp
  rw [show (bsOf wordsB).data.toList = wordsB from rfl, words_fields] at this
  exact this

set_option maxHeartbeats 8000000 in
set_option maxRecDepth 100000 in
theorem names33 (w : World) (h : Lib33 w) : Calls Tryz.prog 83 #[] w fun e w' => ∃ b, e = .returned (.map (some b)) ∧ w.heap.size ≤ b ∧ MapKFn u8E w' b 36 (namesF opL) ∧ Below w.heap.size w w' := by
  have HM0 : Hid (MapKFn u8E (w.alloc (.map #[] 0)) w.heap.size 0 (namesF [])) := Lib.hid (MapKFn.made u8E w)
  have HB0 : Hid (Below w.heap.size w (w.alloc (.map #[] 0))) := alloc_old w _
  have HL := Lib.hid h
  clear h
  have hmm := @run_makeMap Tryz.prog
  go_enter Tryz.func83, Tryz.ntmps83
  go_wp2_with (refine wpList_insertK _ rfl (.tmp 4) (.const (.int .u8 17)) (.tmp 5) 129 rfl 128 u8Keyed Tryz.underlying129 rfl HM0.out (by unfold maxLen; omega) (17 : Int) (labV [97, 100, 100, 105]) rfl rfl (by unfold u8E u8ok; simp only []; omega) ?_)
  intro w1 hM hg
  have HM1 : Hid (MapKFn u8E w1 w.heap.size 1 (namesF [(17, [97, 100, 100, 105])])) := Lib.hid hM
  have HB1 : Hid (Below w.heap.size w w1) := Lib.hid (HB0.out.grown hg (by have := HB0.out.size; omega) (fun k hk => by cases hk; exact Nat.le_refl _))
  clear hM hg HM0 HB0
  go_wp2_with (refine wpList_insertK _ rfl (.tmp 4) (.const (.int .u8 19)) (.tmp 6) 129 rfl 128 u8Keyed Tryz.underlying129 rfl HM1.out (by unfold maxLen; omega) (19 : Int) (labV [109, 117, 108, 105]) rfl rfl (by unfold u8E u8ok; simp only []; omega) ?_)
  intro w2 hM hg
  have HM2 : Hid (MapKFn u8E w2 w.heap.size 2 (namesF [(19, [109, 117, 108, 105]), (17, [97, 100, 100, 105])])) := Lib.hid hM
  have HB2 : Hid (Below w.heap.size w w2) := Lib.hid (HB1.out.grown hg (by have := HB1.out.size; omega) (fun k hk => by cases hk; exact Nat.le_refl _))
  clear hM hg HM1 HB1
  go_wp2_with (refine wpList_insertK _ rfl (.tmp 4) (.const (.int .u8 22)) (.tmp 7) 129 rfl 128 u8Keyed Tryz.underlying129 rfl HM2.out (by unfold maxLen; omega) (22 : Int) (labV [97, 110, 100, 105]) rfl rfl (by unfold u8E u8ok; simp only []; omega) ?_)
  intro w3 hM hg
  have HM3 : Hid (MapKFn u8E w3 w.heap.size 3 (namesF [(22, [97, 110, 100, 105]), (19, [109, 117, 108, 105]), (17, [97, 100, 100, 105])])) := Lib.hid hM
  have HB3 : Hid (Below w.heap.size w w3) := Lib.hid (HB2.out.grown hg (by have := HB2.out.size; omega) (fun k hk => by cases hk; exact Nat.le_refl _))
  clear hM hg HM2 HB2
  go_wp2_with (refine wpList_insertK _ rfl (.tmp 4) (.const (.int .u8 23)) (.tmp 8) 129 rfl 128 u8Keyed Tryz.underlying129 rfl HM3.out (by unfold maxLen; omega) (23 : Int) (labV [111, 114, 105]) rfl rfl (by unfold u8E u8ok; simp only []; omega) ?_)
  intro w4 hM hg
  have HM4 : Hid (MapKFn u8E w4 w.heap.size 4 (namesF [(23, [111, 114, 105]), (22, [97, 110, 100, 105]), (19, [109, 117, 108, 105]), (17, [97, 100, 100, 105])])) := Lib.hid hM
  have HB4 : Hid (Below w.heap.size w w4) := Lib.hid (HB3.out.grown hg (by have := HB3.out.size; omega) (fun k hk => by cases hk; exact Nat.le_refl _))
  clear hM hg HM3 HB3
  go_wp2_with (refine wpList_insertK _ rfl (.tmp 4) (.const (.int .u8 24)) (.tmp 9) 129 rfl 128 u8Keyed Tryz.underlying129 rfl HM4.out (by unfold maxLen; omega) (24 : Int) (labV [120, 111, 114, 105]) rfl rfl (by unfold u8E u8ok; simp only []; omega) ?_)
  intro w5 hM hg
  have HM5 : Hid (MapKFn u8E w5 w.heap.size 5 (namesF [(24, [120, 111, 114, 105]), (23, [111, 114, 105]), (22, [97, 110, 100, 105]), (19, [109, 117, 108, 105]), (17, [97, 100, 100, 105])])) := Lib.hid hM
  have HB5 : Hid (Below w.heap.size w w5) := Lib.hid (HB4.out.grown hg (by have := HB4.out.size; omega) (fun k hk => by cases hk; exact Nat.le_refl _))
  clear hM hg HM4 HB4
  go_wp2_with (refine wpList_insertK _ rfl (.tmp 4) (.const (.int .u8 25)) (.tmp 10) 129 rfl 128 u8Keyed Tryz.underlying129 rfl HM5.out (by unfold maxLen; omega) (25 : Int) (labV [115, 104, 108, 105]) rfl rfl (by unfold u8E u8ok; simp only []; omega) ?_)
  intro w6 hM hg
  have HM6 : Hid (MapKFn u8E w6 w.heap.size 6 (namesF [(25, [115, 104, 108, 105]), (24, [120, 111, 114, 105]), (23, [111, 114, 105]), (22, [97, 110, 100, 105]), (19, [109, 117, 108, 105]), (17, [97, 100, 100, 105])])) := Lib.hid hM
  have HB6 : Hid (Below w.heap.size w w6) := Lib.hid (HB5.out.grown hg (by have := HB5.out.size; omega) (fun k hk => by cases hk; exact Nat.le_refl _))
  clear hM hg HM5 HB5
  go_wp2_with (refine wpList_insertK _ rfl (.tmp 4) (.const (.int .u8 26)) (.tmp 11) 129 rfl 128 u8Keyed Tryz.underlying129 rfl HM6.out (by unfold maxLen; omega) (26 : Int) (labV [115, 104, 114, 105]) rfl rfl (by unfold u8E u8ok; simp only []; omega) ?_)
  intro w7 hM hg
  have HM7 : Hid (MapKFn u8E w7 w.heap.size 7 (namesF [(26, [115, 104, 114, 105]), (25, [115, 104, 108, 105]), (24, [120, 111, 114, 105]), (23, [111, 114, 105]), (22, [97, 110, 100, 105]), (19, [109, 117, 108, 105]), (17, [97, 100, 100, 105])])) := Lib.hid hM
  have HB7 : Hid (Below w.heap.size w w7) := Lib.hid (HB6.out.grown hg (by have := HB6.out.size; omega) (fun k hk => by cases hk; exact Nat.le_refl _))
  clear hM hg HM6 HB6
  go_wp2_with (refine wpList_insertK _ rfl (.tmp 4) (.const (.int .u8 29)) (.tmp 12) 129 rfl 128 u8Keyed Tryz.underlying129 rfl HM7.out (by unfold maxLen; omega) (29 : Int) (labV [115, 108, 116, 117, 105]) rfl rfl (by unfold u8E u8ok; simp only []; omega) ?_)
  intro w8 hM hg
  have HM8 : Hid (MapKFn u8E w8 w.heap.size 8 (namesF [(29, [115, 108, 116, 117, 105]), (26, [115, 104, 114, 105]), (25, [115, 104, 108, 105]), (24, [120, 111, 114, 105]), (23, [111, 114, 105]), (22, [97, 110, 100, 105]), (19, [109, 117, 108, 105]), (17, [97, 100, 100, 105])])) := Lib.hid hM
  have HB8 : Hid (Below w.heap.size w w8) := Lib.hid (HB7.out.grown hg (by have := HB7.out.size; omega) (fun k hk => by cases hk; exact Nat.le_refl _))
  clear hM hg HM7 HB7
  go_wp2_with (refine wpList_insertK _ rfl (.tmp 4) (.const (.int .u8 30)) (.tmp 13) 129 rfl 128 u8Keyed Tryz.underlying129 rfl HM8.out (by unfold maxLen; omega) (30 : Int) (labV [115, 101, 113, 105]) rfl rfl (by unfold u8E u8ok; simp only []; omega) ?_)
  intro w9 hM hg
  have HM9 : Hid (MapKFn u8E w9 w.heap.size 9 (namesF [(30, [115, 101, 113, 105]), (29, [115, 108, 116, 117, 105]), (26, [115, 104, 114, 105]), (25, [115, 104, 108, 105]), (24, [120, 111, 114, 105]), (23, [111, 114, 105]), (22, [97, 110, 100, 105]), (19, [109, 117, 108, 105]), (17, [97, 100, 100, 105])])) := Lib.hid hM
  have HB9 : Hid (Below w.heap.size w w9) := Lib.hid (HB8.out.grown hg (by have := HB8.out.size; omega) (fun k hk => by cases hk; exact Nat.le_refl _))
  clear hM hg HM8 HB8
  go_wp2_with (refine wpList_insertK _ rfl (.tmp 4) (.const (.int .u8 32)) (.tmp 14) 129 rfl 128 u8Keyed Tryz.underlying129 rfl HM9.out (by unfold maxLen; omega) (32 : Int) (labV [108, 105]) rfl rfl (by unfold u8E u8ok; simp only []; omega) ?_)
  intro w10 hM hg
  have HM10 : Hid (MapKFn u8E w10 w.heap.size 10 (namesF [(32, [108, 105]), (30, [115, 101, 113, 105]), (29, [115, 108, 116, 117, 105]), (26, [115, 104, 114, 105]), (25, [115, 104, 108, 105]), (24, [120, 111, 114, 105]), (23, [111, 114, 105]), (22, [97, 110, 100, 105]), (19, [109, 117, 108, 105]), (17, [97, 100, 100, 105])])) := Lib.hid hM
  have HB10 : Hid (Below w.heap.size w w10) := Lib.hid (HB9.out.grown hg (by have := HB9.out.size; omega) (fun k hk => by cases hk; exact Nat.le_refl _))
  clear hM hg HM9 HB9
  go_wp2_with (refine wpList_insertK _ rfl (.tmp 4) (.const (.int .u8 33)) (.tmp 15) 129 rfl 128 u8Keyed Tryz.underlying129 rfl HM10.out (by unfold maxLen; omega) (33 : Int) (labV [108, 98]) rfl rfl (by unfold u8E u8ok; simp only []; omega) ?_)
  intro w11 hM hg
  have HM11 : Hid (MapKFn u8E w11 w.heap.size 11 (namesF [(33, [108, 98]), (32, [108, 105]), (30, [115, 101, 113, 105]), (29, [115, 108, 116, 117, 105]), (26, [115, 104, 114, 105]), (25, [115, 104, 108, 105]), (24, [120, 111, 114, 105]), (23, [111, 114, 105]), (22, [97, 110, 100, 105]), (19, [109, 117, 108, 105]), (17, [97, 100, 100, 105])])) := Lib.hid hM
  have HB11 : Hid (Below w.heap.size w w11) := Lib.hid (HB10.out.grown hg (by have := HB10.out.size; omega) (fun k hk => by cases hk; exact Nat.le_refl _))
  clear hM hg HM10 HB10
  go_wp2_with (refine wpList_insertK _ rfl (.tmp 4) (.const (.int .u8 34)) (.tmp 16) 129 rfl 128 u8Keyed Tryz.underlying129 rfl HM11.out (by unfold maxLen; omega) (34 : Int) (labV [108, 119]) rfl rfl (by unfold u8E u8ok; simp only []; omega) ?_)
  intro w12 hM hg
  have HM12 : Hid (MapKFn u8E w12 w.heap.size 12 (namesF [(34, [108, 119]), (33, [108, 98]), (32, [108, 105]), (30, [115, 101, 113, 105]), (29, [115, 108, 116, 117, 105]), (26, [115, 104, 114, 105]), (25, [115, 104, 108, 105]), (24, [120, 111, 114, 105]), (23, [111, 114, 105]), (22, [97, 110, 100, 105]), (19, [109, 117, 108, 105]), (17, [97, 100, 100, 105])])) := Lib.hid hM
  have HB12 : Hid (Below w.heap.size w w12) := Lib.hid (HB11.out.grown hg (by have := HB11.out.size; omega) (fun k hk => by cases hk; exact Nat.le_refl _))
  clear hM hg HM11 HB11
  go_wp2_with (refine wpList_insertK _ rfl (.tmp 4) (.const (.int .u8 35)) (.tmp 17) 129 rfl 128 u8Keyed Tryz.underlying129 rfl HM12.out (by unfold maxLen; omega) (35 : Int) (labV [115, 98]) rfl rfl (by unfold u8E u8ok; simp only []; omega) ?_)
  intro w13 hM hg
  have HM13 : Hid (MapKFn u8E w13 w.heap.size 13 (namesF [(35, [115, 98]), (34, [108, 119]), (33, [108, 98]), (32, [108, 105]), (30, [115, 101, 113, 105]), (29, [115, 108, 116, 117, 105]), (26, [115, 104, 114, 105]), (25, [115, 104, 108, 105]), (24, [120, 111, 114, 105]), (23, [111, 114, 105]), (22, [97, 110, 100, 105]), (19, [109, 117, 108, 105]), (17, [97, 100, 100, 105])])) := Lib.hid hM
  have HB13 : Hid (Below w.heap.size w w13) := Lib.hid (HB12.out.grown hg (by have := HB12.out.size; omega) (fun k hk => by cases hk; exact Nat.le_refl _))
  clear hM hg HM12 HB12
  go_wp2_with (refine wpList_insertK _ rfl (.tmp 4) (.const (.int .u8 36)) (.tmp 18) 129 rfl 128 u8Keyed Tryz.underlying129 rfl HM13.out (by unfold maxLen; omega) (36 : Int) (labV [115, 119]) rfl rfl (by unfold u8E u8ok; simp only []; omega) ?_)
  intro w14 hM hg
  have HM14 : Hid (MapKFn u8E w14 w.heap.size 14 (namesF [(36, [115, 119]), (35, [115, 98]), (34, [108, 119]), (33, [108, 98]), (32, [108, 105]), (30, [115, 101, 113, 105]), (29, [115, 108, 116, 117, 105]), (26, [115, 104, 114, 105]), (25, [115, 104, 108, 105]), (24, [120, 111, 114, 105]), (23, [111, 114, 105]), (22, [97, 110, 100, 105]), (19, [109, 117, 108, 105]), (17, [97, 100, 100, 105])])) := Lib.hid hM
  have HB14 : Hid (Below w.heap.size w w14) := Lib.hid (HB13.out.grown hg (by have := HB13.out.size; omega) (fun k hk => by cases hk; exact Nat.le_refl _))
  clear hM hg HM13 HB13
  go_wp2_with (refine wpList_insertK _ rfl (.tmp 4) (.const (.int .u8 40)) (.tmp 19) 129 rfl 128 u8Keyed Tryz.underlying129 rfl HM14.out (by unfold maxLen; omega) (40 : Int) (labV [106, 109, 112]) rfl rfl (by unfold u8E u8ok; simp only []; omega) ?_)
  intro w15 hM hg
  have HM15 : Hid (MapKFn u8E w15 w.heap.size 15 (namesF [(40, [106, 109, 112]), (36, [115, 119]), (35, [115, 98]), (34, [108, 119]), (33, [108, 98]), (32, [108, 105]), (30, [115, 101, 113, 105]), (29, [115, 108, 116, 117, 105]), (26, [115, 104, 114, 105]), (25, [115, 104, 108, 105]), (24, [120, 111, 114, 105]), (23, [111, 114, 105]), (22, [97, 110, 100, 105]), (19, [109, 117, 108, 105]), (17, [97, 100, 100, 105])])) := Lib.hid hM
  have HB15 : Hid (Below w.heap.size w w15) := Lib.hid (HB14.out.grown hg (by have := HB14.out.size; omega) (fun k hk => by cases hk; exact Nat.le_refl _))
  clear hM hg HM14 HB14
  go_wp2_with (refine wpList_insertK _ rfl (.tmp 4) (.const (.int .u8 41)) (.tmp 20) 129 rfl 128 u8Keyed Tryz.underlying129 rfl HM15.out (by unfold maxLen; omega) (41 : Int) (labV [106, 97, 108]) rfl rfl (by unfold u8E u8ok; simp only []; omega) ?_)
  intro w16 hM hg
  have HM16 : Hid (MapKFn u8E w16 w.heap.size 16 (namesF [(41, [106, 97, 108]), (40, [106, 109, 112]), (36, [115, 119]), (35, [115, 98]), (34, [108, 119]), (33, [108, 98]), (32, [108, 105]), (30, [115, 101, 113, 105]), (29, [115, 108, 116, 117, 105]), (26, [115, 104, 114, 105]), (25, [115, 104, 108, 105]), (24, [120, 111, 114, 105]), (23, [111, 114, 105]), (22, [97, 110, 100, 105]), (19, [109, 117, 108, 105]), (17, [97, 100, 100, 105])])) := Lib.hid hM
  have HB16 : Hid (Below w.heap.size w w16) := Lib.hid (HB15.out.grown hg (by have := HB15.out.size; omega) (fun k hk => by cases hk; exact Nat.le_refl _))
  clear hM hg HM15 HB15
  go_wp2_with (refine wpList_insertK _ rfl (.tmp 4) (.const (.int .u8 42)) (.tmp 21) 129 rfl 128 u8Keyed Tryz.underlying129 rfl HM16.out (by unfold maxLen; omega) (42 : Int) (labV [106, 114]) rfl rfl (by unfold u8E u8ok; simp only []; omega) ?_)
  intro w17 hM hg
  have HM17 : Hid (MapKFn u8E w17 w.heap.size 17 (namesF [(42, [106, 114]), (41, [106, 97, 108]), (40, [106, 109, 112]), (36, [115, 119]), (35, [115, 98]), (34, [108, 119]), (33, [108, 98]), (32, [108, 105]), (30, [115, 101, 113, 105]), (29, [115, 108, 116, 117, 105]), (26, [115, 104, 114, 105]), (25, [115, 104, 108, 105]), (24, [120, 111, 114, 105]), (23, [111, 114, 105]), (22, [97, 110, 100, 105]), (19, [109, 117, 108, 105]), (17, [97, 100, 100, 105])])) := Lib.hid hM
  have HB17 : Hid (Below w.heap.size w w17) := Lib.hid (HB16.out.grown hg (by have := HB16.out.size; omega) (fun k hk => by cases hk; exact Nat.le_refl _))
  clear hM hg HM16 HB16
  go_wp2_with (refine wpList_insertK _ rfl (.tmp 4) (.const (.int .u8 43)) (.tmp 22) 129 rfl 128 u8Keyed Tryz.underlying129 rfl HM17.out (by unfold maxLen; omega) (43 : Int) (labV [98, 101, 113]) rfl rfl (by unfold u8E u8ok; simp only []; omega) ?_)
  intro w18 hM hg
  have HM18 : Hid (MapKFn u8E w18 w.heap.size 18 (namesF [(43, [98, 101, 113]), (42, [106, 114]), (41, [106, 97, 108]), (40, [106, 109, 112]), (36, [115, 119]), (35, [115, 98]), (34, [108, 119]), (33, [108, 98]), (32, [108, 105]), (30, [115, 101, 113, 105]), (29, [115, 108, 116, 117, 105]), (26, [115, 104, 114, 105]), (25, [115, 104, 108, 105]), (24, [120, 111, 114, 105]), (23, [111, 114, 105]), (22, [97, 110, 100, 105]), (19, [109, 117, 108, 105]), (17, [97, 100, 100, 105])])) := Lib.hid hM
  have HB18 : Hid (Below w.heap.size w w18) := Lib.hid (HB17.out.grown hg (by have := HB17.out.size; omega) (fun k hk => by cases hk; exact Nat.le_refl _))
  clear hM hg HM17 HB17
  go_wp2_with (refine wpList_insertK _ rfl (.tmp 4) (.const (.int .u8 44)) (.tmp 23) 129 rfl 128 u8Keyed Tryz.underlying129 rfl HM18.out (by unfold maxLen; omega) (44 : Int) (labV [98, 110, 101]) rfl rfl (by unfold u8E u8ok; simp only []; omega) ?_)
  intro w19 hM hg
  have HM19 : Hid (MapKFn u8E w19 w.heap.size 19 (namesF [(44, [98, 110, 101]), (43, [98, 101, 113]), (42, [106, 114]), (41, [106, 97, 108]), (40, [106, 109, 112]), (36, [115, 119]), (35, [115, 98]), (34, [108, 119]), (33, [108, 98]), (32, [108, 105]), (30, [115, 101, 113, 105]), (29, [115, 108, 116, 117, 105]), (26, [115, 104, 114, 105]), (25, [115, 104, 108, 105]), (24, [120, 111, 114, 105]), (23, [111, 114, 105]), (22, [97, 110, 100, 105]), (19, [109, 117, 108, 105]), (17, [97, 100, 100, 105])])) := Lib.hid hM
  have HB19 : Hid (Below w.heap.size w w19) := Lib.hid (HB18.out.grown hg (by have := HB18.out.size; omega) (fun k hk => by cases hk; exact Nat.le_refl _))
  clear hM hg HM18 HB18
  go_wp2_with (refine wpList_insertK _ rfl (.tmp 4) (.const (.int .u8 45)) (.tmp 24) 129 rfl 128 u8Keyed Tryz.underlying129 rfl HM19.out (by unfold maxLen; omega) (45 : Int) (labV [98, 108, 116, 117]) rfl rfl (by unfold u8E u8ok; simp only []; omega) ?_)
  intro w20 hM hg
  have HM20 : Hid (MapKFn u8E w20 w.heap.size 20 (namesF [(45, [98, 108, 116, 117]), (44, [98, 110, 101]), (43, [98, 101, 113]), (42, [106, 114]), (41, [106, 97, 108]), (40, [106, 109, 112]), (36, [115, 119]), (35, [115, 98]), (34, [108, 119]), (33, [108, 98]), (32, [108, 105]), (30, [115, 101, 113, 105]), (29, [115, 108, 116, 117, 105]), (26, [115, 104, 114, 105]), (25, [115, 104, 108, 105]), (24, [120, 111, 114, 105]), (23, [111, 114, 105]), (22, [97, 110, 100, 105]), (19, [109, 117, 108, 105]), (17, [97, 100, 100, 105])])) := Lib.hid hM
  have HB20 : Hid (Below w.heap.size w w20) := Lib.hid (HB19.out.grown hg (by have := HB19.out.size; omega) (fun k hk => by cases hk; exact Nat.le_refl _))
  clear hM hg HM19 HB19
  go_wp2_with (refine wpList_insertK _ rfl (.tmp 4) (.const (.int .u8 46)) (.tmp 25) 129 rfl 128 u8Keyed Tryz.underlying129 rfl HM20.out (by unfold maxLen; omega) (46 : Int) (labV [98, 103, 101, 117]) rfl rfl (by unfold u8E u8ok; simp only []; omega) ?_)
  intro w21 hM hg
  have HM21 : Hid (MapKFn u8E w21 w.heap.size 21 (namesF [(46, [98, 103, 101, 117]), (45, [98, 108, 116, 117]), (44, [98, 110, 101]), (43, [98, 101, 113]), (42, [106, 114]), (41, [106, 97, 108]), (40, [106, 109, 112]), (36, [115, 119]), (35, [115, 98]), (34, [108, 119]), (33, [108, 98]), (32, [108, 105]), (30, [115, 101, 113, 105]), (29, [115, 108, 116, 117, 105]), (26, [115, 104, 114, 105]), (25, [115, 104, 108, 105]), (24, [120, 111, 114, 105]), (23, [111, 114, 105]), (22, [97, 110, 100, 105]), (19, [109, 117, 108, 105]), (17, [97, 100, 100, 105])])) := Lib.hid hM
  have HB21 : Hid (Below w.heap.size w w21) := Lib.hid (HB20.out.grown hg (by have := HB20.out.size; omega) (fun k hk => by cases hk; exact Nat.le_refl _))
  clear hM hg HM20 HB20
  go_wp2_with (refine wpList_insertK _ rfl (.tmp 4) (.const (.int .u8 50)) (.tmp 26) 129 rfl 128 u8Keyed Tryz.underlying129 rfl HM21.out (by unfold maxLen; omega) (50 : Int) (labV [115, 121, 115]) rfl rfl (by unfold u8E u8ok; simp only []; omega) ?_)
  intro w22 hM hg
  have HM22 : Hid (MapKFn u8E w22 w.heap.size 22 (namesF (wordsL 0))) := Lib.hid hM
  have HB22 : Hid (Below w.heap.size w w22) := Lib.hid (HB21.out.grown hg (by have := HB21.out.size; omega) (fun k hk => by cases hk; exact Nat.le_refl _))
  clear hM hg HM21 HB21
  have HF := Lib.hid (fields_words w22 (HL.out.keep HB22.out))
  go_wp2_with fail
  refine HF.out.mono ?_
  rintro e w' ⟨rfl, rfl⟩
  have HX0 : Hid ((w22.alloc (.cells (opWords.map fun l => Value.string (bsOf l)).toArray 9)).heap[w22.heap.size]? = some (.cells (opWords.map fun l => Value.string (bsOf l)).toArray 9 (0, 0))) := Lib.hid (new_block w22 _)
  have HMF : Hid (MapKFn u8E (w22.alloc (.cells (opWords.map fun l => Value.string (bsOf l)).toArray 9)) w.heap.size 22 (namesF (wordsL 0))) := Lib.hid (HM22.out.alloc _)
  have HBF : Hid (Below w.heap.size w (w22.alloc (.cells (opWords.map fun l => Value.string (bsOf l)).toArray 9))) := Lib.hid (HB22.out.alloc HB22.out.size _)
  have hg : w22.heap.size < (w22.alloc (.cells (opWords.map fun l => Value.string (bsOf l)).toArray 9)).heap.size := by simp
  have hgm : w.heap.size < w22.heap.size := HM22.out.lt
  generalize (w22.alloc (.cells (opWords.map fun l => Value.string (bsOf l)).toArray 9)) = wf at *
  generalize w22.heap.size = g at *
  clear HM22 HB22 HF
  go_wp2_with fail
  go_loopw [30] (fun v30 wr => ∃ k : Nat, k ≤ 14 ∧ v30 = .int .i64 k ∧ MapKFn u8E wr w.heap.size (22 + k) (namesF (wordsL k)) ∧ wr.heap[g]? = some (.cells (opWords.map fun l => Value.string (bsOf l)).toArray 9 (0, 0)) ∧ Below w.heap.size w wr) (fun v30 _ => 16 - (intOf v30).toNat)
  case atStart => exact ⟨0, by omega, rfl, HMF.out, HX0.out, HBF.out⟩
  case round =>
    obtain ⟨k, hk, rfl, hm, hx, hb⟩ := hrel
    have HM := Lib.hid hm; clear hm
    have HB := Lib.hid hb; clear hb
    clear HMF HX0 HBF
    by_cases hlt : k < 14
    · have hc : wr.cell? ⟨g, k, none⟩ = some (.string (bsOf (opWords.getD k []))) := by
        rw [Lib.cell_of_heap hx k]
        have hl : k < opWords.length := hlt
        simp [List.getD, hl]
      have HX := Lib.hid hx; clear hx
      have hw1 : ((k : Int) + 1) % 256 = (k + 1 : Nat) := by omega
      have e1 : decide ((k : Int) < 14) = true := by simp; omega
      obtain ⟨wd, hwd⟩ : ∃ wd, wd = opWords.getD k [] := ⟨_, rfl⟩
      rw [← hwd] at hc
      have HW := Lib.hid hwd
      clear hwd
      go_wp2_with (refine wpList_putK _ rfl (.tmp 35) (.tmp 38) (.tmp 40) 129 rfl 128 u8Keyed Tryz.underlying129 rfl HM.out (by unfold maxLen; omega) ((k : Int) + 1) (labV wd) rfl rfl (by unfold u8E u8ok; simp only []; omega) ?_)
      intro w5 hM5 hg5
      have HM5 : Hid (MapKFn u8E w5 w.heap.size (22 + (k + 1)) (namesF (wordsL (k + 1)))) := Lib.hid (by
        rw [HW.out] at hM5; exact hM5)
      have HB5 : Hid (Below w.heap.size w w5) := Lib.hid (HB.out.grown hg5 (by have := HB.out.size; omega) (fun j hj => by cases hj; exact Nat.le_refl _))
      have HX5 := Lib.hid ((hg5.block g (by have := (Array.getElem?_eq_some_iff.1 HX.out).1; exact this) (fun e => by cases e; omega)).trans HX.out)
      clear hM5 hg5 HM HB HX
      go_wp2
      go_roundw
      case rel => exact ⟨k + 1, by omega, by go_num, HM5.out, HX5.out, HB5.out⟩
      case measure => simp [intOf]; omega
    · obtain rfl : k = 14 := by omega
      clear hx
      go_wp2
      go_ret
      exact ⟨_, rfl, Nat.le_refl _, HM.out, HB.out⟩
end Go.Proofs.YtoonkfhphbojcaaGreatDoor
namespace Go.Proofs.YtoonkfhphbojcaaGreatDoor
open Go.RowKit Go.Maps
def nameL (a : Int) : BL := ((opL.find? fun p => decide (a = p.1)).map (·.2)).getD []
theorem namesF_getD (L : List (Int × BL)) (a : Int) : (namesF L a).getD (labV []) = labV (((L.find? fun p => decide (a = p.1)).map (·.2)).getD []) := by
  induction L with
  | nil => rfl
  | cons p r ih =>
    by_cases h : a = p.1
    · simp [namesF, h]
    · simp only [namesF, h, if_false, List.find?_cons, decide_false]
      exact ih
def toldL (x : GIns) (imm : BL) : BL :=
  (((nameL x.op ++ if bitOf (useOf x.op) 1 then 32 :: 114 :: decD x.d.toNat else []) ++ if bitOf (useOf x.op) 2 then 32 :: 114 :: decD x.a.toNat else []) ++ if bitOf (useOf x.op) 4 then 32 :: 114 :: decD x.b.toNat else []) ++ if bitOf (useOf x.op) 8 then 32 :: imm else []
theorem nameL_len (a : Int) : (nameL a).length ≤ 5 := by
  unfold nameL
  cases h : opL.find? fun p => decide (a = p.1) with
  | none => simp
  | some p =>
    have hm := List.mem_of_find?_eq_some h
    simp only [Option.map_some, Option.getD_some]
    exact (show ∀ p ∈ opL, p.2.length ≤ 5 by decide +kernel) p hm
set_option maxHeartbeats 1000000 in
set_option maxRecDepth 100000 in
theorem tell33 (B b : Nat) (l s : BL) (is : Bool) (w : World) (h : IsWr B b l w) (hl : l.length + s.length + 1 ≤ 140737488355328) (hB : B ≤ w.heap.size) :
    Calls Tryz.prog 84 #[.pointer (some ⟨b, 0, none⟩), .bool is, .string (bsOf s)] w fun e w' => e = .returned (.tuple #[]) ∧ WPost B b (if is then l ++ 32 :: s else l) w w' := by
  have HI := Lib.hid h
  cases is with
  | false =>
    clear h
    go_enter Tryz.func84, Tryz.ntmps84
    go_wp2
    go_end0
    exact ⟨rfl, HI.out, Below.refl _ _, KN.refl _ _⟩
  | true =>
    have HW := Lib.hid (writeString_any B b l (bsOf (32 :: s)) w h (by rw [bsOf_size, List.length_cons]; omega) hB)
    have hc : (⟨#[32]⟩ : ByteArray) ++ bsOf s = bsOf (32 :: s) := bsOf_cat [32] s
    have hs : (bsOf s).size = s.length := bsOf_size _
    have hz := h.lt
    clear h
    go_enter Tryz.func84, Tryz.ntmps84
    go_wp2_with fail
    refine HW.out.mono ?_
    rintro e w2 ⟨rfl, hP⟩
    go_wp2
    go_end0
    exact ⟨rfl, hP⟩
def insA (x : GIns) : Array Value := #[.int .u8 x.op, .int .u8 x.d, .int .u8 x.a, .int .u8 x.b, .int .u32 x.imm]
def useA (op : Int) : Array Value := #[.bool (bitOf (useOf op) 1), .bool (bitOf (useOf op) 2), .bool (bitOf (useOf op) 4), .bool (bitOf (useOf op) 8)]
theorem nameL_ne {op : Int} (h : useOf op ≠ 0) (h0 : 0 ≤ op) (h1 : op ≤ 255) : nameL op ≠ [] := by
  obtain ⟨k, rfl⟩ : ∃ k : Nat, op = k := ⟨op.toNat, by omega⟩
  have := (show ∀ k : Nat, k < 256 → useOf (k : Int) ≠ 0 → nameL (k : Int) ≠ [] by decide +kernel) k (by omega) h
  exact this
theorem r33i (d : Int) (h0 : 0 ≤ d) (h1 : d ≤ 255) (w : World) (hL : Lib33 w) : Calls Tryz.prog 85 #[.int .u8 d] w fun e w' => e = .returned (.string (bsOf (114 :: decD d.toNat))) ∧ Below w.heap.size w w' := by
  obtain ⟨k, rfl⟩ : ∃ k : Nat, d = k := ⟨d.toNat, by omega⟩
  exact r33 k (by omega) w hL
theorem run_lab (W : World) (l : BL) : (Instr.field 128 (.agg #[.string (bsOf l)]) 0).run Tryz.prog W = .ok (.string (bsOf l)) W := by
  simp [Instr.field, asAgg, run_underlying Tryz.underlying128, part, go_sem, Tryz.sizeOf9, Tryz.isAgg9]
theorem tell_post {B b : Nat} {l s : BL} {is : Bool} {w w' : World} (h : WPost B b (if is then l ++ 32 :: s else l) w w') : WPost B b (l ++ if is then 32 :: s else []) w w' := by
  cases is <;> simpa using h
theorem tell_len (l s : BL) (is : Bool) : (l ++ if is then 32 :: s else []).length ≤ l.length + s.length + 1 := by
  cases is <;> simp <;> omega
structure ToldSt (x : GIns) (w1 : World) (xb ub : Nat) (l : BL) (w : World) : Prop where
  wr : IsWr w1.heap.size w1.heap.size l w
  xx : BX w1.heap.size w xb 24 (insA x)
  uu : BX w1.heap.size w ub 70 (useA x.op)
  bel : Below w1.heap.size w1 w
theorem ToldSt.keep {x : GIns} {w1 w w' : World} {xb ub : Nat} {l : BL} (h : ToldSt x w1 xb ub l w) (hb : Below w.heap.size w w') : ToldSt x w1 xb ub l w' :=
  ⟨h.wr.keep hb, h.xx.keep (KN.of_below hb), h.uu.keep (KN.of_below hb), h.bel.trans (hb.mono h.bel.size)⟩
theorem ToldSt.post {x : GIns} {w1 w w' : World} {xb ub : Nat} {l l' : BL} (h : ToldSt x w1 xb ub l w) (hp : WPost w1.heap.size w1.heap.size l' w w') : ToldSt x w1 xb ub l' w' :=
  ⟨hp.1, h.xx.keep hp.2.2, h.uu.keep hp.2.2, h.bel.trans hp.2.1⟩
theorem ToldSt.drew {x : GIns} {w1 w : World} {xb ub : Nat} {l : BL} (h : ToldSt x w1 xb ub l w) : ToldSt x w1 xb ub l w.drew := h.keep (below_drewN (Below.refl _ _) 1)
theorem ToldSt.lib {x : GIns} {w0 w1 w : World} {xb ub : Nat} {l : BL} (h : ToldSt x w1 xb ub l w) (hL : Lib33 w0) (h0 : Below w0.heap.size w0 w1) : Lib33 w := hL.keep (h0.trans (h.bel.mono h0.size))
theorem WPost.lib {B b : Nat} {l : BL} {w0 w w' : World} (hL : Lib33 w0) (h0 : Below w0.heap.size w0 w) (hB : w0.heap.size ≤ B) (h : WPost B b l w w') : Lib33 w' := hL.keep (h0.trans (h.2.1.mono hB))
set_option maxHeartbeats 8000000 in
set_option maxRecDepth 100000 in
theorem told33 (x : GIns) (imm : BL) (w : World) (hL : Lib33 w) (hx : InsB x) (hn : useOf x.op ≠ 0) (hi : imm.length ≤ 1000000) :
    Calls Tryz.prog 33 #[insV x, .string (bsOf imm)] w fun e w' => e = .returned (.string (bsOf (toldL x imm))) ∧ Below w.heap.size w w' := by
  obtain ⟨⟨o0, o1⟩, ⟨d0, d1⟩, ⟨a0, a1⟩, ⟨b0, b1⟩, ⟨i0, i1⟩⟩ := hx
  have HNE := Lib.hid (nameL_ne hn o0 o1)
  have HNL := Lib.hid (nameL_len x.op)
  clear hn
  have HL := Lib.hid hL
  clear hL
  have HB1 : Hid (Below w.heap.size w (w.alloc (.cells (insA x) 24))) := alloc_old w _
  have hX1 : (w.alloc (.cells (insA x) 24)).heap[w.heap.size]? = some (.cells (insA x) 24 (0, 0)) := new_block w _
  have HU := Lib.hid (fun W => uses33 x.op W o0 o1)
  unfold insV usesV at *
  go_enter Tryz.func33, Tryz.ntmps33
  go_upto_region 1 with fail
  have q0 : (w.alloc (.cells (insA x) 24)).cell? ⟨w.heap.size, 0, none⟩ = some (.int .u8 x.op) := Lib.cell_of_heap hX1 0
  have HX1 := Lib.hid hX1; clear hX1
  have hz1 : w.heap.size < (w.alloc (.cells (insA x) 24)).heap.size := by simp
  change Code.wp _ _ _ _ (w.alloc (.cells (insA x) 24)) at *
  generalize (w.alloc (.cells (insA x) 24)) = w1 at *
  have HW2 : Hid (IsWr w1.heap.size w1.heap.size [] (w1.alloc (.cells #[.pointer none, .slice none 0 0] 83))) := Lib.fresh_isBuilder _ _ w1
  have HB2 : Hid (Below w1.heap.size w1 (w1.alloc (.cells #[.pointer none, .slice none 0 0] 83))) := alloc_old w1 _
  have hz2 : w1.heap.size < (w1.alloc (.cells #[.pointer none, .slice none 0 0] 83)).heap.size := by simp
  go_wp2_with fail
  generalize (w1.alloc (.cells #[.pointer none, .slice none 0 0] 83)) = w2 at *
  refine (HU.out _).mono ?_
  rintro e w3 ⟨rfl, hB3⟩
  have HT4 : Hid (ToldSt x w1 w.heap.size w3.heap.size [] (w3.alloc (.cells (useA x.op) 70))) := Lib.hid (by
    have hk : Below w2.heap.size w2 (w3.alloc (.cells (useA x.op) 70)) := hB3.alloc hB3.size _
    refine ⟨HW2.out.keep hk, ?_, BX.new (by have := hB3.size; omega) (by decide), HB2.out.trans (hk.mono HB2.out.size)⟩
    refine BX.keep (w := w1) ⟨by omega, by decide, HX1.out⟩ ?_
    exact KN.of_below (HB2.out.trans (hk.mono HB2.out.size)))
  clear HU HB2 HW2 HX1 hB3 hz2 q0
  go_upto_region 2 with fail
  change Code.wp _ _ _ _ (w3.alloc (.cells (useA x.op) 70))
  generalize (w3.alloc (.cells (useA x.op) 70)) = w4 at *
  generalize w3.heap.size = ub at *
  obtain ⟨S, HSD⟩ : ∃ S : World → Prop, ∀ w', S w' ↔ ∃ l, ToldSt x w1 w.heap.size ub l w' := ⟨_, fun _ => Iff.rfl⟩
  have c0 : ∀ u : HW S, u.u.cell? ⟨w.heap.size, 0, none⟩ = some (.int .u8 x.op) := fun u => by obtain ⟨l, h⟩ := (HSD _).1 u.h; exact h.xx.cell 0
  have c1 : ∀ u : HW S, u.u.cell? ⟨w.heap.size, 1, none⟩ = some (.int .u8 x.d) := fun u => by obtain ⟨l, h⟩ := (HSD _).1 u.h; exact h.xx.cell 1
  have c2 : ∀ u : HW S, u.u.cell? ⟨w.heap.size, 2, none⟩ = some (.int .u8 x.a) := fun u => by obtain ⟨l, h⟩ := (HSD _).1 u.h; exact h.xx.cell 2
  have c3 : ∀ u : HW S, u.u.cell? ⟨w.heap.size, 3, none⟩ = some (.int .u8 x.b) := fun u => by obtain ⟨l, h⟩ := (HSD _).1 u.h; exact h.xx.cell 3
  have g0 : ∀ u : HW S, u.u.cell? ⟨ub, 0, none⟩ = some (.bool (bitOf (useOf x.op) 1)) := fun u => by obtain ⟨l, h⟩ := (HSD _).1 u.h; exact h.uu.cell 0
  have g1 : ∀ u : HW S, u.u.cell? ⟨ub, 1, none⟩ = some (.bool (bitOf (useOf x.op) 2)) := fun u => by obtain ⟨l, h⟩ := (HSD _).1 u.h; exact h.uu.cell 1
  have g2 : ∀ u : HW S, u.u.cell? ⟨ub, 2, none⟩ = some (.bool (bitOf (useOf x.op) 4)) := fun u => by obtain ⟨l, h⟩ := (HSD _).1 u.h; exact h.uu.cell 2
  haveI : Nonempty (HW S) := ⟨⟨_, (HSD _).2 ⟨_, HT4.out⟩⟩⟩
  have hfld := run_lab
  refine wp_region_turn S rfl (n := 9) rfl rfl ?_
  have HT5 := HT4.out.drew
  refine wpAnyS_take [0, 1, 2, 4, 5] (by kernel_rfl) (by kernel_rfl) (n := 4) rfl rfl rfl ((HSD _).2 ⟨_, HT5⟩) ?_
  (refine wpReads_step (fun K hK => ?_); go_simp; refine hK _ ?_; clear hK K)
  (refine wpReads_step (fun K hK => ?_); go_simp; refine hK _ ?_; clear hK K)
  (refine wpReads_step (fun K hK => ?_); go_simp; refine hK _ ?_; clear hK K)
  (refine wpReads_step (fun K hK => ?_); go_simp; refine hK _ ?_; clear hK K)
  (refine wpReads_step (fun K hK => ?_); go_simp; refine hK _ ?_; clear hK K)
  refine wpReads_nil ?_
  refine wpAnyS_one (i := 3) (by kernel_rfl) rfl (fun K hK => ?_)
  refine step_callW rfl 83 #[] #[] rfl Tryz.func83 (by kernel_rfl) (by kernel_rfl) #[] (by simp) (names33 _ (HT5.lib HL.out HB1.out)) ?_
  rintro e w6 ⟨mb, rfl, hmb, hm, hB6⟩
  have HT6 := HT5.keep hB6
  refine ⟨_, rfl, hK _ _ ((HSD _).2 ⟨_, HT6⟩) ?_⟩
  clear hK K
  simp only [Act.put, List.setIfInBounds_toArray, List.set_cons_zero, List.set_cons_succ]
  have hlk : (Instr.lookup 129 (.map (some mb)) (.int .u8 x.op) false).run Tryz.prog w6 = .ok (.agg #[.string (bsOf (nameL x.op))]) w6 := by
    have := hm.look u8Keyed Tryz.underlying129 (zeroLab w6) (a := x.op) ⟨o0, o1⟩
    rw [namesF_getD] at this
    exact this
  refine wpAnyS_one (i := 6) (by kernel_rfl) rfl (fun K hK => ?_)
  go_simp; refine hK _ _ ((HSD _).2 ⟨_, HT6⟩) ?_; clear hK K
  refine wpAnyS_one (i := 7) (by kernel_rfl) rfl (fun K hK => ?_)
  go_simp; refine hK _ _ ((HSD _).2 ⟨_, HT6⟩) ?_; clear hK K
  refine wpAnyS_one (i := 8) (by kernel_rfl) rfl (fun K hK => ?_)
  refine step_callW rfl 47 #[.tmp 14, .tmp 19] #[81, 9] rfl Tryz.func47 (by kernel_rfl) (by kernel_rfl) #[.pointer (some ⟨w1.heap.size, 0, none⟩), .string (bsOf (nameL x.op))] (by simp [Act.eval]) (writeString_any w1.heap.size w1.heap.size [] (bsOf (nameL x.op)) w6 HT6.wr (by have := HNL.out; rw [bsOf_size, List.length_nil]; omega) HT6.bel.size) ?_
  rintro e w7 ⟨rfl, hP⟩
  have HT7 : ToldSt x w1 w.heap.size ub (nameL x.op) w7 := HT6.post hP
  refine ⟨_, rfl, hK _ _ ((HSD _).2 ⟨_, HT7⟩) ?_⟩
  clear hK K
  simp only [Act.put, List.setIfInBounds_toArray, List.set_cons_zero, List.set_cons_succ]
  refine wpAnyS_done (by kernel_rfl) (NoPanic.normal ?_)
  clear hlk hm hmb hB6 HT4 HT5 HT6 hP
  go_upto_region 3 with fail
  refine wp_region_turn S rfl (n := 7) rfl rfl ?_
  have HT8 := HT7.drew
  refine wpAnyS_take [0, 1, 2, 3, 4] (by kernel_rfl) (by kernel_rfl) (n := 2) rfl rfl rfl ((HSD _).2 ⟨_, HT8⟩) ?_
  (refine wpReads_step (fun K hK => ?_); go_simp; refine hK _ ?_; clear hK K)
  (refine wpReads_step (fun K hK => ?_); go_simp; refine hK _ ?_; clear hK K)
  (refine wpReads_step (fun K hK => ?_); go_simp; refine hK _ ?_; clear hK K)
  (refine wpReads_step (fun K hK => ?_); go_simp; refine hK _ ?_; clear hK K)
  (refine wpReads_step (fun K hK => ?_); go_simp; refine hK _ ?_; clear hK K)
  refine wpReads_nil ?_
  refine wpAnyS_one (i := 5) (by kernel_rfl) rfl (fun K hK => ?_)
  refine step_callW rfl 85 #[.tmp 25] #[5] rfl Tryz.func85 (by kernel_rfl) (by kernel_rfl) #[.int .u8 x.d] (by simp [Act.eval]) (r33i x.d d0 d1 _ (HT8.lib HL.out HB1.out)) ?_
  rintro e w9 ⟨rfl, hB9⟩
  have HT9 := HT8.keep hB9
  refine ⟨_, rfl, hK _ _ ((HSD _).2 ⟨_, HT9⟩) ?_⟩
  clear hK K
  simp only [Act.put, List.setIfInBounds_toArray, List.set_cons_zero, List.set_cons_succ]
  have hl8 : (decD x.d.toNat).length ≤ 20 := (decD_len (by omega)).2
  have hm8 : (nameL x.op).length ≤ 5 := HNL.out
  refine wpAnyS_one (i := 6) (by kernel_rfl) rfl (fun K hK => ?_)
  refine step_callW rfl 84 #[.tmp 21, .tmp 23, .tmp 26] #[77, 4, 9] rfl Tryz.func84 (by kernel_rfl) (by kernel_rfl) #[.pointer (some ⟨w1.heap.size, 0, none⟩), .bool (bitOf (useOf x.op) 1), .string (bsOf (114 :: decD x.d.toNat))] (by simp [Act.eval]) (tell33 w1.heap.size w1.heap.size (nameL x.op) (114 :: decD x.d.toNat) (bitOf (useOf x.op) 1) w9 HT9.wr (by rw [List.length_cons]; omega) HT9.bel.size) ?_
  rintro e w10 ⟨rfl, hP⟩
  have HT10 : ToldSt x w1 w.heap.size ub (nameL x.op ++ if bitOf (useOf x.op) 1 then 32 :: 114 :: decD x.d.toNat else []) w10 := HT9.post (tell_post hP)
  refine ⟨_, rfl, hK _ _ ((HSD _).2 ⟨_, HT10⟩) ?_⟩
  clear hK K
  simp only [Act.put, List.setIfInBounds_toArray, List.set_cons_zero, List.set_cons_succ]
  refine wpAnyS_done (by kernel_rfl) (NoPanic.normal ?_)
  have hm11 : ((nameL x.op ++ if bitOf (useOf x.op) 1 then 32 :: 114 :: decD x.d.toNat else [])).length ≤ 27 := by have := tell_len (nameL x.op) (114 :: decD x.d.toNat) (bitOf (useOf x.op) 1); rw [List.length_cons] at this; omega
  clear HT7 HT8 HT9 hP hB9 hm8 hl8
  go_upto_region 4 with fail
  refine wp_region_turn S rfl (n := 7) rfl rfl ?_
  have HT11 := HT10.drew
  refine wpAnyS_take [0, 1, 2, 3, 4] (by kernel_rfl) (by kernel_rfl) (n := 2) rfl rfl rfl ((HSD _).2 ⟨_, HT11⟩) ?_
  (refine wpReads_step (fun K hK => ?_); go_simp; refine hK _ ?_; clear hK K)
  (refine wpReads_step (fun K hK => ?_); go_simp; refine hK _ ?_; clear hK K)
  (refine wpReads_step (fun K hK => ?_); go_simp; refine hK _ ?_; clear hK K)
  (refine wpReads_step (fun K hK => ?_); go_simp; refine hK _ ?_; clear hK K)
  (refine wpReads_step (fun K hK => ?_); go_simp; refine hK _ ?_; clear hK K)
  refine wpReads_nil ?_
  refine wpAnyS_one (i := 5) (by kernel_rfl) rfl (fun K hK => ?_)
  refine step_callW rfl 85 #[.tmp 32] #[5] rfl Tryz.func85 (by kernel_rfl) (by kernel_rfl) #[.int .u8 x.a] (by simp [Act.eval]) (r33i x.a a0 a1 _ (HT11.lib HL.out HB1.out)) ?_
  rintro e w12 ⟨rfl, hB12⟩
  have HT12 := HT11.keep hB12
  refine ⟨_, rfl, hK _ _ ((HSD _).2 ⟨_, HT12⟩) ?_⟩
  clear hK K
  simp only [Act.put, List.setIfInBounds_toArray, List.set_cons_zero, List.set_cons_succ]
  have hl11 : (decD x.a.toNat).length ≤ 20 := (decD_len (by omega)).2
  refine wpAnyS_one (i := 6) (by kernel_rfl) rfl (fun K hK => ?_)
  refine step_callW rfl 84 #[.tmp 28, .tmp 30, .tmp 33] #[77, 4, 9] rfl Tryz.func84 (by kernel_rfl) (by kernel_rfl) #[.pointer (some ⟨w1.heap.size, 0, none⟩), .bool (bitOf (useOf x.op) 2), .string (bsOf (114 :: decD x.a.toNat))] (by simp [Act.eval]) (tell33 w1.heap.size w1.heap.size ((nameL x.op ++ if bitOf (useOf x.op) 1 then 32 :: 114 :: decD x.d.toNat else [])) (114 :: decD x.a.toNat) (bitOf (useOf x.op) 2) w12 HT12.wr (by rw [List.length_cons]; omega) HT12.bel.size) ?_
  rintro e w13 ⟨rfl, hP⟩
  have HT13 : ToldSt x w1 w.heap.size ub ((nameL x.op ++ if bitOf (useOf x.op) 1 then 32 :: 114 :: decD x.d.toNat else []) ++ if bitOf (useOf x.op) 2 then 32 :: 114 :: decD x.a.toNat else []) w13 := HT12.post (tell_post hP)
  refine ⟨_, rfl, hK _ _ ((HSD _).2 ⟨_, HT13⟩) ?_⟩
  clear hK K
  simp only [Act.put, List.setIfInBounds_toArray, List.set_cons_zero, List.set_cons_succ]
  refine wpAnyS_done (by kernel_rfl) (NoPanic.normal ?_)
  have hm14 : (((nameL x.op ++ if bitOf (useOf x.op) 1 then 32 :: 114 :: decD x.d.toNat else []) ++ if bitOf (useOf x.op) 2 then 32 :: 114 :: decD x.a.toNat else [])).length ≤ 49 := by have := tell_len ((nameL x.op ++ if bitOf (useOf x.op) 1 then 32 :: 114 :: decD x.d.toNat else [])) (114 :: decD x.a.toNat) (bitOf (useOf x.op) 2); rw [List.length_cons] at this; omega
  clear HT10 HT11 HT12 hP hB12 hm11 hl11
  go_upto_region 5 with fail
  refine wp_region_turn S rfl (n := 7) rfl rfl ?_
  have HT14 := HT13.drew
  refine wpAnyS_take [0, 1, 2, 3, 4] (by kernel_rfl) (by kernel_rfl) (n := 2) rfl rfl rfl ((HSD _).2 ⟨_, HT14⟩) ?_
  (refine wpReads_step (fun K hK => ?_); go_simp; refine hK _ ?_; clear hK K)
  (refine wpReads_step (fun K hK => ?_); go_simp; refine hK _ ?_; clear hK K)
  (refine wpReads_step (fun K hK => ?_); go_simp; refine hK _ ?_; clear hK K)
  (refine wpReads_step (fun K hK => ?_); go_simp; refine hK _ ?_; clear hK K)
  (refine wpReads_step (fun K hK => ?_); go_simp; refine hK _ ?_; clear hK K)
  refine wpReads_nil ?_
  refine wpAnyS_one (i := 5) (by kernel_rfl) rfl (fun K hK => ?_)
  refine step_callW rfl 85 #[.tmp 39] #[5] rfl Tryz.func85 (by kernel_rfl) (by kernel_rfl) #[.int .u8 x.b] (by simp [Act.eval]) (r33i x.b b0 b1 _ (HT14.lib HL.out HB1.out)) ?_
  rintro e w15 ⟨rfl, hB15⟩
  have HT15 := HT14.keep hB15
  refine ⟨_, rfl, hK _ _ ((HSD _).2 ⟨_, HT15⟩) ?_⟩
  clear hK K
  simp only [Act.put, List.setIfInBounds_toArray, List.set_cons_zero, List.set_cons_succ]
  have hl14 : (decD x.b.toNat).length ≤ 20 := (decD_len (by omega)).2
  refine wpAnyS_one (i := 6) (by kernel_rfl) rfl (fun K hK => ?_)
  refine step_callW rfl 84 #[.tmp 35, .tmp 37, .tmp 40] #[77, 4, 9] rfl Tryz.func84 (by kernel_rfl) (by kernel_rfl) #[.pointer (some ⟨w1.heap.size, 0, none⟩), .bool (bitOf (useOf x.op) 4), .string (bsOf (114 :: decD x.b.toNat))] (by simp [Act.eval]) (tell33 w1.heap.size w1.heap.size (((nameL x.op ++ if bitOf (useOf x.op) 1 then 32 :: 114 :: decD x.d.toNat else []) ++ if bitOf (useOf x.op) 2 then 32 :: 114 :: decD x.a.toNat else [])) (114 :: decD x.b.toNat) (bitOf (useOf x.op) 4) w15 HT15.wr (by rw [List.length_cons]; omega) HT15.bel.size) ?_
  rintro e w16 ⟨rfl, hP⟩
  have HT16 : ToldSt x w1 w.heap.size ub (((nameL x.op ++ if bitOf (useOf x.op) 1 then 32 :: 114 :: decD x.d.toNat else []) ++ if bitOf (useOf x.op) 2 then 32 :: 114 :: decD x.a.toNat else []) ++ if bitOf (useOf x.op) 4 then 32 :: 114 :: decD x.b.toNat else []) w16 := HT15.post (tell_post hP)
  refine ⟨_, rfl, hK _ _ ((HSD _).2 ⟨_, HT16⟩) ?_⟩
  clear hK K
  simp only [Act.put, List.setIfInBounds_toArray, List.set_cons_zero, List.set_cons_succ]
  refine wpAnyS_done (by kernel_rfl) (NoPanic.normal ?_)
  have hm17 : ((((nameL x.op ++ if bitOf (useOf x.op) 1 then 32 :: 114 :: decD x.d.toNat else []) ++ if bitOf (useOf x.op) 2 then 32 :: 114 :: decD x.a.toNat else []) ++ if bitOf (useOf x.op) 4 then 32 :: 114 :: decD x.b.toNat else [])).length ≤ 71 := by have := tell_len (((nameL x.op ++ if bitOf (useOf x.op) 1 then 32 :: 114 :: decD x.d.toNat else []) ++ if bitOf (useOf x.op) 2 then 32 :: 114 :: decD x.a.toNat else [])) (114 :: decD x.b.toNat) (bitOf (useOf x.op) 4); rw [List.length_cons] at this; omega
  clear HT13 HT14 HT15 hP hB15 hm14 hl14
  have q1 := HT16.uu.cell 3
  have HW := Lib.hid (tell33 w1.heap.size w1.heap.size (((nameL x.op ++ if bitOf (useOf x.op) 1 then 32 :: 114 :: decD x.d.toNat else []) ++ if bitOf (useOf x.op) 2 then 32 :: 114 :: decD x.a.toNat else []) ++ if bitOf (useOf x.op) 4 then 32 :: 114 :: decD x.b.toNat else []) imm (bitOf (useOf x.op) 8) w16 HT16.wr (by omega) HT16.bel.size)
  simp only [useA] at q1
  go_wp2_with fail
  refine HW.out.mono ?_
  rintro e w18 ⟨rfl, hP⟩
  have HT18 : ToldSt x w1 w.heap.size ub (toldL x imm) w18 := HT16.post (tell_post hP)
  have hne : toldL x imm ≠ [] := by unfold toldL; simp [HNE.out]
  have HS := Lib.hid (string_any w1.heap.size w1.heap.size (toldL x imm) w18 HT18.wr hne)
  have HB18 : Hid (Below w.heap.size w w18) := Lib.hid (HB1.out.trans (HT18.bel.mono HB1.out.size))
  have hsz : w.heap.size ≤ w1.heap.size := HB1.out.size
  clear HW hP HT16 q1 hne
  go_wp2_with fail
  refine HS.out.mono ?_
  rintro e w19 ⟨rfl, hB19⟩
  go_wp2
  go_ret
  exact ⟨rfl, HB18.out.trans (hB19.mono hsz)⟩
end Go.Proofs.YtoonkfhphbojcaaGreatDoor
namespace Go.Proofs.YtoonkfhphbojcaaGreatDoor
open Go.RowKit Go.Maps
theorem insOk_use {x : GIns} (h : insOk x = true) : useOf x.op ≠ 0 := by
  unfold insOk at h
  simp only [Bool.and_eq_true, decide_eq_true_eq] at h
  exact h.1.1.1.1
theorem num33i (n : Int) (h0 : 0 ≤ n) (h1 : n ≤ 4294967295) (w : World) (hL : Lib33 w) : Calls Tryz.prog 34 #[.int .u32 n] w fun e w' => e = .returned (.string (bsOf (decD n.toNat))) ∧ Below w.heap.size w w' := by
  obtain ⟨k, rfl⟩ : ∃ k : Nat, n = k := ⟨n.toNat, by omega⟩
  exact num33 k (by omega) w hL
set_option maxHeartbeats 2000000 in
set_option maxRecDepth 100000 in
theorem dInsn33 (x : GIns) (w : World) (hL : Lib33 w) (hx : InsB x) :
    Calls Tryz.prog 8 #[insV x] w fun e w' => e = .returned (if insOk x then .tuple #[.string (bsOf (toldL x (decD x.imm.toNat))), .int .i64 0] else .tuple #[.string ⟨#[]⟩, .int .i64 2]) ∧ Below w.heap.size w w' := by
  have HL := Lib.hid hL
  have HI := Lib.hid hx
  have HC := Lib.hid (fun W => insCheck_any x W hx)
  obtain ⟨⟨o0, o1⟩, ⟨d0, d1⟩, ⟨a0, a1⟩, ⟨b0, b1⟩, ⟨i0, i1⟩⟩ := hx
  have HD := Lib.hid (decD_len (u := x.imm.toNat) (by omega))
  clear hL d0 d1 a0 a1 b0 b1 o0 o1
  have HB1 : Hid (Below w.heap.size w (w.alloc (.cells (insA x) 24))) := alloc_old w _
  have hX1 : (w.alloc (.cells (insA x) 24)).heap[w.heap.size]? = some (.cells (insA x) 24 (0, 0)) := new_block w _
  have HT := Lib.hid (fun (W : World) (h : Lib33 W) (hn : insOk x = true) => told33 x (decD x.imm.toNat) W h HI.out (insOk_use hn) (by have := HD.out.2; omega))
  unfold insV at *
  go_enter Tryz.func8, Tryz.ntmps8
  go_upto_region 1 with fail
  change Code.wp _ _ _ _ (w.alloc (.cells (insA x) 24))
  have hz1 : w.heap.size < (w.alloc (.cells (insA x) 24)).heap.size := by simp
  generalize (w.alloc (.cells (insA x) 24)) = w1 at *
  have q0 : w1.cell? ⟨w.heap.size, 0, none⟩ = some (.int .u8 x.op) := Lib.cell_of_heap hX1 0
  have q1 : w1.cell? ⟨w.heap.size, 1, none⟩ = some (.int .u8 x.d) := Lib.cell_of_heap hX1 1
  have q2 : w1.cell? ⟨w.heap.size, 2, none⟩ = some (.int .u8 x.a) := Lib.cell_of_heap hX1 2
  have q3 : w1.cell? ⟨w.heap.size, 3, none⟩ = some (.int .u8 x.b) := Lib.cell_of_heap hX1 3
  have q4 : w1.cell? ⟨w.heap.size, 4, none⟩ = some (.int .u32 x.imm) := Lib.cell_of_heap hX1 4
  clear hX1
  go_wp2_with fail
  refine (HC.out _).mono ?_
  rintro e w2 ⟨rfl, hB2⟩
  replace q0 := cell_keep hB2 hz1 q0
  replace q1 := cell_keep hB2 hz1 q1
  replace q2 := cell_keep hB2 hz1 q2
  replace q3 := cell_keep hB2 hz1 q3
  replace q4 := cell_keep hB2 hz1 q4
  have HB2 : Hid (Below w.heap.size w w2) := HB1.out.trans (hB2.mono HB1.out.size)
  have hz2 : w.heap.size < w2.heap.size := by have := hB2.size; omega
  clear HB1 hB2 hz1 HC
  cases hok : insOk x with
  | false =>
    have e0 : erI false 2 = 2 := rfl
    rw [e0]
    clear q0 q1 q2 q3 q4
    go_wp2
    all_goals (go_ret2; exact ⟨rfl, HB2.out⟩)
  | true =>
    have e0 : erI true 2 = 0 := rfl
    rw [e0]
    have HO := Lib.hid hok
    clear hok
    go_upto_region 4 with fail
    obtain ⟨S, HSD⟩ : ∃ S : World → Prop, ∀ w', S w' ↔ Below w2.heap.size w2 w' := ⟨_, fun _ => Iff.rfl⟩
    have c0 := fun u : HW S => cell_keep ((HSD _).1 u.h) hz2 q0
    have c1 := fun u : HW S => cell_keep ((HSD _).1 u.h) hz2 q1
    have c2 := fun u : HW S => cell_keep ((HSD _).1 u.h) hz2 q2
    have c3 := fun u : HW S => cell_keep ((HSD _).1 u.h) hz2 q3
    have c4 := fun u : HW S => cell_keep ((HSD _).1 u.h) hz2 q4
    haveI : Nonempty (HW S) := ⟨⟨_, (HSD _).2 (Below.refl _ _)⟩⟩
    clear q0 q1 q2 q3 q4
    refine wp_region_turn S rfl (n := 7) rfl rfl ?_
    have HW3 : Below w2.heap.size w2 w2.drew := below_drewN (Below.refl _ _) 1
    refine wpAnyS_take [0, 1, 2] (by kernel_rfl) (by kernel_rfl) (n := 4) rfl rfl rfl ((HSD _).2 HW3) ?_
    (refine wpReads_step (fun K hK => ?_); go_simp; refine hK _ ?_; clear hK K)
    (refine wpReads_step (fun K hK => ?_); go_simp; refine hK _ ?_; clear hK K)
    (refine wpReads_step (fun K hK => ?_); go_simp; refine hK _ ?_; clear hK K)
    refine wpReads_nil ?_
    refine wpAnyS_one (i := 3) (by kernel_rfl) rfl (fun K hK => ?_)
    refine step_callW rfl 34 #[.tmp 12] #[22] rfl Tryz.func34 (by kernel_rfl) (by kernel_rfl) #[.int .u32 x.imm] (by simp [Act.eval]) (num33i x.imm i0 i1 _ (HL.out.keep (HB2.out.trans (HW3.mono HB2.out.size)))) ?_
    rintro e w4 ⟨rfl, hB4⟩
    have HW4 : Below w2.heap.size w2 w4 := HW3.trans (hB4.mono HW3.size)
    refine ⟨_, rfl, hK _ _ ((HSD _).2 HW4) ?_⟩
    clear hK K
    simp only [Act.put, List.setIfInBounds_toArray, List.set_cons_zero, List.set_cons_succ]
    refine wpAnyS_one (i := 4) (by kernel_rfl) rfl (fun K hK => ?_)
    refine step_callW rfl 33 #[.tmp 10, .tmp 13] #[24, 9] rfl Tryz.func33 (by kernel_rfl) (by kernel_rfl) #[.agg #[.int .u8 x.op, .int .u8 x.d, .int .u8 x.a, .int .u8 x.b, .int .u32 x.imm], .string (bsOf (decD x.imm.toNat))] (by simp [Act.eval]) (HT.out _ (HL.out.keep (HB2.out.trans (HW4.mono HB2.out.size))) HO.out) ?_
    rintro e w5 ⟨rfl, hB5⟩
    have HW5 : Below w2.heap.size w2 w5 := HW4.trans (hB5.mono HW4.size)
    refine ⟨_, rfl, hK _ _ ((HSD _).2 HW5) ?_⟩
    clear hK K
    simp only [Act.put, List.setIfInBounds_toArray, List.set_cons_zero, List.set_cons_succ]
    refine wpAnyS_one (i := 5) (by kernel_rfl) rfl (fun K hK => ?_)
    go_simp; refine hK _ _ ((HSD _).2 HW5) ?_; clear hK K
    refine wpAnyS_one (i := 6) (by kernel_rfl) rfl (fun K hK => ?_)
    go_simp; refine hK _ _ ((HSD _).2 HW5) ?_; clear hK K
    refine wpAnyS_done (by kernel_rfl) (NoPanic.normal ?_)
    go_wp2
    go_ret2
    exact ⟨rfl, HB2.out.trans (HW5.mono HB2.out.size)⟩
end Go.Proofs.YtoonkfhphbojcaaGreatDoor
namespace Go.Proofs.YtoonkfhphbojcaaGreatDoor
open Go.RowKit Go.Maps
/-- the number of digits, if they are its own -/
def numL (s : BL) : Option Nat := match Lib.parseUintB 32 s with
  | .ok v => if decD v = s then some v else none
  | _ => none
def numE (s : BL) : Ending := match numL s with
  | some v => .returned (.int .u32 v)
  | none => wrongE
theorem need_yes (w : World) : Calls Tryz.prog 58 #[.bool true] w fun e w' => e = .returned (.tuple #[]) ∧ w' = w := need_any true w
theorem need_no (w : World) : Calls Tryz.prog 58 #[.bool false] w fun e w' => e = .panicked [{ v := .iface 142 (.agg #[]), recovered := false }] ∧ w' = w := need_any false w
theorem bsOf_inj {a b : BL} (h : bsOf a = bsOf b) : a = b := by
  have := congrArg (fun x : ByteArray => x.data.toList) h
  simpa [bsOf_list] using this
theorem beq_ne {a b : BL} (h : ¬ a = b) : ((bsOf a).toList == (bsOf b).toList) = false := by
  rw [ByteArray.toList_eq, ByteArray.toList_eq]
  simpa [bsOf_list] using h
set_option maxHeartbeats 2000000 in
set_option maxRecDepth 100000 in
theorem number33 (s : BL) (w : World) (hL : Lib33 w) (hs : s.length ≤ 1000000) :
    Calls Tryz.prog 42 #[.string (bsOf s)] w fun e w' => e = numE s ∧ Below w.heap.size w w' := by
  obtain ⟨ev0, hv0, he0⟩ := hL.errS
  obtain ⟨ev1, hv1, he1⟩ := hL.errR
  have HL := Lib.hid hL
  clear hL
  cases hp : Lib.parseUintB 32 s with
  | ok v =>
    have hv : v < 4294967296 := by have := Lib.parseUintB_le hp; omega
    have HE : Hid (numE s = if decD v = s then .returned (.int .u32 v) else wrongE) := Lib.hid (by unfold numE numL; rw [hp]; simp only []; by_cases h : decD v = s <;> simp [h])
    have HP : Hid (Calls Tryz.prog 96 #[.string (bsOf s), .int .i64 10, .int .i64 32] w fun e w' => e = .returned (.tuple #[.int .u64 v, .nilIface]) ∧ (w' = w ∨ w' = Lib.bytesWorld w 5 (bsOf s))) := Any.strconv_ParseUint_10_at32_ok Tryz.lParseUint (bsOf s) (by rw [bsOf_size]; omega) v hp w
    have HD := Lib.hid (fun W (h : Below w.heap.size w W) => num33 v hv W (HL.out.keep h))
    have hwv : (v : Int) % 4294967296 = v := by omega
    clear hv0 hv1 he0 he1 hp
    go_enter Tryz.func42, Tryz.ntmps42
    go_wp2_with fail
    refine HP.out.mono ?_
    rintro e w2 ⟨rfl, hw⟩
    have hB2 : Below w.heap.size w w2 := by
      rcases hw with rfl | rfl
      · exact Below.refl _ _
      · exact below_bytes _ _
    clear hw HP
    go_wp2_with fail
    refine (HD.out _ hB2).mono ?_
    rintro e w3 ⟨rfl, hB3⟩
    have HB3 := Lib.hid (hB2.trans (hB3.mono hB2.size))
    clear hB3 hB2
    by_cases hq : decD v = s
    · have HQ := Lib.hid hq
      rw [hq]
      clear hq
      go_wp2_with fail
      refine (need_yes _).mono ?_
      rintro e w4 ⟨rfl, rfl⟩
      go_wp2
      go_ret
      exact ⟨by rw [HE.out, if_pos HQ.out]; rfl, HB3.out⟩
    · have hne := beq_ne hq
      have HQ := Lib.hid hq
      clear hq
      go_wp2_with fail
      refine (need_no _).mono ?_
      rintro e w4 ⟨rfl, rfl⟩
      go_wp2
      exact ⟨rfl, by rw [HE.out, if_neg HQ.out]; rfl, HB3.out⟩
  | range =>
    have HE : Hid (numE s = wrongE) := Lib.hid (by unfold numE numL; rw [hp])
    have HP : Hid (Calls Tryz.prog 96 #[.string (bsOf s), .int .i64 10, .int .i64 32] w fun e w' => ∃ N, e = .returned (.tuple #[.int .u64 4294967295, .iface 218 (.pointer (some ⟨N, 0, none⟩))]) ∧ Below w.heap.size w w') :=
      (Any.strconv_ParseUint_10_at32_range Tryz.lParseUint (bsOf s) (by rw [bsOf_size]; omega) hp ev1 w hv1 he1).mono fun e w' ⟨N, h1, _, _, h2⟩ => ⟨N, h1, h2⟩
    clear hv0 hv1 he0 he1 hp
    go_enter Tryz.func42, Tryz.ntmps42
    go_wp2_with fail
    refine HP.out.mono ?_
    rintro e w2 ⟨N, rfl, hB2⟩
    go_wp2_with fail
    refine (need_no _).mono ?_
    rintro e w4 ⟨rfl, rfl⟩
    go_wp2
    exact ⟨rfl, by rw [HE.out]; rfl, hB2⟩
  | _ =>
    have HE : Hid (numE s = wrongE) := Lib.hid (by unfold numE numL; rw [hp])
    have HP : Hid (Calls Tryz.prog 96 #[.string (bsOf s), .int .i64 10, .int .i64 32] w fun e w' => ∃ N, e = .returned (.tuple #[.int .u64 0, .iface 218 (.pointer (some ⟨N, 0, none⟩))]) ∧ Below w.heap.size w w') :=
      (Any.strconv_ParseUint_10_at32_syntax Tryz.lParseUint (bsOf s) (by rw [bsOf_size]; omega) hp ev0 w hv0 he0).mono fun e w' ⟨N, h1, _, _, h2⟩ => ⟨N, h1, h2⟩
    clear hv0 hv1 he0 he1 hp
    go_enter Tryz.func42, Tryz.ntmps42
    go_wp2_with fail
    refine HP.out.mono ?_
    rintro e w2 ⟨N, rfl, hB2⟩
    go_wp2_with fail
    refine (need_no _).mono ?_
    rintro e w4 ⟨rfl, rfl⟩
    go_wp2
    exact ⟨rfl, by rw [HE.out]; rfl, hB2⟩
/-- the register of a word: r and its number -/
def regL : BL → Option Nat
  | 114 :: s => match numL s with
    | some v => if v < 16 then some v else none
    | none => none
  | _ => none
def regE (s : BL) : Ending := match regL s with
  | some v => .returned (.int .u8 v)
  | none => wrongE
theorem cutPre_yes (c : UInt8) (r : BL) (w : World) : Calls Tryz.prog 75 #[.string (bsOf (c :: r)), .string (bsOf [c])] w fun e w' => e = .returned (.tuple #[.string (bsOf r), .bool true]) ∧ w' = w := by
  have h := Any.strings_CutPrefix Tryz.lCutPrefix (bsOf (c :: r)) (bsOf [c]) w
  have e1 : Lib.hasPrefix (bsOf (c :: r)).data.toList (bsOf [c]).data.toList = true := by simp [Lib.hasPrefix, bsOf_list]
  have e2 : Lib.trimPrefix (bsOf (c :: r)).data.toList (bsOf [c]).data.toList = r := by unfold Lib.trimPrefix; rw [e1]; simp [bsOf_list]
  rw [e1, e2] at h
  exact h
theorem cutPre_no (c : UInt8) (s : BL) (hn : ∀ r, s ≠ c :: r) (w : World) : Calls Tryz.prog 75 #[.string (bsOf s), .string (bsOf [c])] w fun e w' => e = .returned (.tuple #[.string (bsOf s), .bool false]) ∧ w' = w := by
  have h := Any.strings_CutPrefix Tryz.lCutPrefix (bsOf s) (bsOf [c]) w
  have e1 : Lib.hasPrefix (bsOf s).data.toList (bsOf [c]).data.toList = false := by
    rw [bsOf_list, bsOf_list]
    cases s with
    | nil => rfl
    | cons x r =>
      unfold Lib.hasPrefix
      by_cases hx : c = x
      · subst hx; exact absurd rfl (hn r)
      · simp [List.isPrefixOf, hx]
  have e2 : Lib.trimPrefix (bsOf s).data.toList (bsOf [c]).data.toList = s := by unfold Lib.trimPrefix; rw [e1]; simp [bsOf_list]
  rw [e1, e2] at h
  exact h
theorem regL_no {s : BL} (h : ∀ r, s ≠ 114 :: r) : regL s = none := by
  unfold regL
  split
  · exact absurd rfl (h _)
  · rfl
set_option maxHeartbeats 2000000 in
set_option maxRecDepth 100000 in
theorem register33 (s : BL) (w : World) (hL : Lib33 w) (hs : s.length ≤ 1000000) :
    Calls Tryz.prog 94 #[.string (bsOf s)] w fun e w' => e = regE s ∧ Below w.heap.size w w' := by
  have HL := Lib.hid hL
  clear hL
  by_cases hp : ∃ r, s = 114 :: r
  · obtain ⟨r, rfl⟩ := hp
    have HC := Lib.hid (cutPre_yes 114 r w)
    have HN := Lib.hid (number33 r w HL.out (by rw [List.length_cons] at hs; omega))
    cases hn : numL r with
    | none =>
      have HE : Hid (regE (114 :: r) = wrongE) := Lib.hid (by simp [regE, regL, hn])
      have hne : numE r = wrongE := by simp [numE, hn]
      rw [hne] at HN
      unfold wrongE wrongV at HN
      clear hn hne
      go_enter Tryz.func94, Tryz.ntmps94
      go_wp2_with fail
      refine HC.out.mono ?_
      rintro e w2 ⟨rfl, rfl⟩
      go_wp2_with fail
      refine (need_yes _).mono ?_
      rintro e w3 ⟨rfl, rfl⟩
      go_wp2_with fail
      refine HN.out.mono ?_
      rintro e w4 ⟨rfl, hB⟩
      go_wp2
      exact ⟨rfl, by rw [HE.out]; rfl, hB⟩
    | some v =>
      have hne : numE r = .returned (.int .u32 v) := by simp [numE, hn]
      rw [hne] at HN
      by_cases hv : v < 16
      · have HE : Hid (regE (114 :: r) = .returned (.int .u8 v)) := Lib.hid (by simp [regE, regL, hn, hv])
        have e1 : decide ((v : Int) < 16) = true := by simp; omega
        have e2 : (v : Int) % 256 = v := by omega
        clear hn hne
        go_enter Tryz.func94, Tryz.ntmps94
        go_wp2_with fail
        refine HC.out.mono ?_
        rintro e w2 ⟨rfl, rfl⟩
        go_wp2_with fail
        refine (need_yes _).mono ?_
        rintro e w3 ⟨rfl, rfl⟩
        go_wp2_with fail
        refine HN.out.mono ?_
        rintro e w4 ⟨rfl, hB⟩
        go_wp2_with fail
        refine (need_yes _).mono ?_
        rintro e w5 ⟨rfl, rfl⟩
        go_wp2
        go_ret
        exact ⟨by rw [HE.out]; rfl, hB⟩
      · have HE : Hid (regE (114 :: r) = wrongE) := Lib.hid (by simp [regE, regL, hn, hv])
        have e1 : decide ((v : Int) < 16) = false := by simp; omega
        clear hn hne
        go_enter Tryz.func94, Tryz.ntmps94
        go_wp2_with fail
        refine HC.out.mono ?_
        rintro e w2 ⟨rfl, rfl⟩
        go_wp2_with fail
        refine (need_yes _).mono ?_
        rintro e w3 ⟨rfl, rfl⟩
        go_wp2_with fail
        refine HN.out.mono ?_
        rintro e w4 ⟨rfl, hB⟩
        go_wp2_with fail
        refine (need_no _).mono ?_
        rintro e w5 ⟨rfl, rfl⟩
        go_wp2
        exact ⟨rfl, by rw [HE.out]; rfl, hB⟩
  · have hn : ∀ r, s ≠ 114 :: r := fun r h => hp ⟨r, h⟩
    have HC := Lib.hid (cutPre_no 114 s hn w)
    have HE : Hid (regE s = wrongE) := Lib.hid (by simp [regE, regL_no hn])
    clear hp hn
    go_enter Tryz.func94, Tryz.ntmps94
    go_wp2_with fail
    refine HC.out.mono ?_
    rintro e w2 ⟨rfl, rfl⟩
    go_wp2_with fail
    refine (need_no _).mono ?_
    rintro e w3 ⟨rfl, rfl⟩
    go_wp2
    exact ⟨rfl, by rw [HE.out]; rfl, Below.refl _ _⟩
end Go.Proofs.YtoonkfhphbojcaaGreatDoor
