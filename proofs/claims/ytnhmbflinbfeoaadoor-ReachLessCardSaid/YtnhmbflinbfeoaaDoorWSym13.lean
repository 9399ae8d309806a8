/- The walk of aediculelaw13.sym at none and at one. -/
import Derived.Test.YtnhmbflinbfeoaaDoorWKept
import Derived.Test.YtnhmbflinbfeoaaDoorWKept2
import Derived.Test.YtnhmbflinbfeoaaDoorWChain13
import Derived.Test.YtnhmbflinbfeoaaDoorWRefSame
import Derived.Test.YtnhmbflinbfeoaaDoorWReachHas
import Derived.Lib.SlBytesConst
import Derived.Handy
import Derived.Test.YtnhmbflinbfeoaaDoorStep
import Derived.Lib.Builder
namespace Go.Proofs.YtnhmbflinbfeoaaDoor
open Go.RowKit Go.Maps
theorem info_rel13 : (Tryd.prog.info? 74).map (fun i => (i.zero, i.size, i.bytes)) = some (some (.agg #[.int .u32 0, .int .u8 0, .string ⟨#[]⟩, .int .u32 0]), 4, 32) := by kernel_rfl
theorem text0 (W : World) (g : Nat) : (convert 80 9 (.slice (some ⟨g, 0, none⟩) 0 0)).run Tryd.prog W = .ok (.string ⟨#[]⟩) W :=
  run_convert_bytes_back (P := Tryd.prog) W 80 9 5 ⟨g, 0, none⟩ 0 [] Tryd.underlying80 Tryd.underlying5 Tryd.underlying9 (fun j hj => by simp at hj)
theorem text4 (W : World) (g : Nat) (h : ∀ j, j < 4 → W.cell? ((⟨g, 0, none⟩ : Addr).add j) = some (.int .u8 0)) : (convert 80 9 (.slice (some ⟨g, 0, none⟩) 4 4)).run Tryd.prog W = .ok (.string ⟨#[0, 0, 0, 0]⟩) W :=
  run_convert_bytes_back (P := Tryd.prog) W 80 9 5 ⟨g, 0, none⟩ 4 [0, 0, 0, 0] Tryd.underlying80 Tryd.underlying5 Tryd.underlying9 (fun j hj => by
    have hj : j < 4 := hj
    rw [h j hj]
    match j, hj with
    | 0, _ => rfl
    | 1, _ => rfl
    | 2, _ => rfl
    | 3, _ => rfl)
theorem make_bytes0 (w : World) : (Instr.makeSlice 80 (.int .i64 0) (.int .i64 0)).run Tryd.prog w = .ok (.slice (some ⟨w.heap.size, 0, none⟩) 0 0) (w.alloc (.cells #[] 5)) := by kernel_rfl
theorem make_bytes4 (w : World) : (Instr.makeSlice 80 (.int .i64 4) (.int .i64 4)).run Tryd.prog w = .ok (.slice (some ⟨w.heap.size, 0, none⟩) 4 4) (w.alloc (.cells #[.int .u8 0, .int .u8 0, .int .u8 0, .int .u8 0] 5)) := by kernel_rfl
set_option maxRecDepth 100000 in
set_option maxHeartbeats 1000000 in
theorem sym13_none (n : ByteArray) (w : World) :
    Calls Tryd.prog 15 #[.string n, .slice none 0 0] w fun e w' => e = .returned (.agg #[.string n, .int .u8 1, .int .u8 2, .int .u32 4, .string ⟨#[]⟩, .slice none 0 0, .slice none 0 0]) ∧ Below w.heap.size w w' := by
  have hm0 := make_bytes0
  have hk0 := text0
  go_enter Tryd.func15, Tryd.ntmps15
  go_wp2
  refine wp_loop_rounds 2 ?_
  rw [rounds_succ]
  go_wp2
  refine bodyPost_ret (v := .agg #[.string n, .int .u8 1, .int .u8 2, .int .u32 4, .string ⟨#[]⟩, .slice none 0 0, .slice none 0 0]) (by simp [results, Tryd.results15, go_sem]) rfl ⟨rfl, ?_⟩
  go_grown
def rel13 (t : ByteArray) : GRel := ⟨0, 1, t, 0⟩
def Sym1Post (n t : ByteArray) (w : World) (e : Ending) (w' : World) : Prop :=
  ∃ (pr : Option Addr) (cr : Nat), e = .returned (.agg #[.string n, .int .u8 1, .int .u8 2, .int .u32 8, .string ⟨#[0, 0, 0, 0]⟩, .slice pr 1 cr, .slice none 0 0]) ∧ RowAt 4 RelR w' (.slice pr 1 cr) [rel13 t] ∧ Below w.heap.size w w'
theorem rel13_row {w : World} {base : Nat} {pw : Option Addr} {cw : Nat} {t : ByteArray} (ho : w.ownsRow base 74 4 (.slice pw (0 + 1) cw) (0 + 1) ([] ++ [.int .u32 0, .int .u8 1, .string t, .int .u32 0])) (ht : t.size ≤ 32) : RowAt 4 RelR w (.slice pw 1 cw) [rel13 t] := by
  obtain ⟨g, cap, hgc, -, hgl⟩ := ho.form (by omega)
  cases hgc
  have hcap : 1 ≤ cw := by
    rcases ho.2 with ⟨h, -⟩ | ⟨g', cap', cur, h, -, -, h2, -⟩
    · cases h
    · cases h; exact h2
  have hcl := fun j u => ho.cells (g := g) rfl j u
  simp only [Addr.add, Nat.zero_add, List.nil_append] at hcl
  exact rowAt_one ⟨hgl, hcl 0 _ rfl, hcl 1 _ rfl, hcl 2 _ rfl, hcl 3 _ rfl, by simp [rel13], by simp [rel13], by simp [rel13], by show t.size ≤ _; omega⟩ hcap
set_option maxRecDepth 100000 in
set_option maxHeartbeats 2000000 in
theorem sym13_one (n t : ByteArray) (b : Nat) (w : World) (hb : b < w.heap.size) (h0 : w.cell? ⟨b, 0, none⟩ = some (.string t)) (ht : t.size ≤ 32) :
    Calls Tryd.prog 15 #[.string n, .slice (some ⟨b, 0, none⟩) 1 1] w (Sym1Post n t w) := by
  have hm4 := make_bytes4
  have hk4 := text4 ((w.alloc (.cells #[.string ⟨#[]⟩, .int .u8 0, .int .u8 0, .int .u32 0, .string ⟨#[]⟩, .slice none 0 0, .slice none 0 0] 46)).alloc (.cells #[.int .u8 0, .int .u8 0, .int .u8 0, .int .u8 0] 5)) (w.heap.size + 1) (fun j hj => by
    match j, hj with
    | 0, _ => simp [go_sem, Addr.add]
    | 1, _ => simp [go_sem, Addr.add]
    | 2, _ => simp [go_sem, Addr.add]
    | 3, _ => simp [go_sem, Addr.add])
  go_enter Tryd.func15, Tryd.ntmps15
  go_wp2
  have hb1 : ((w.alloc (.cells #[.string ⟨#[]⟩, .int .u8 0, .int .u8 0, .int .u32 0, .string ⟨#[]⟩, .slice none 0 0, .slice none 0 0] 46)).alloc (.cells #[.int .u8 0, .int .u8 0, .int .u8 0, .int .u8 0] 5)) = ((w.alloc (.cells #[.string ⟨#[]⟩, .int .u8 0, .int .u8 0, .int .u32 0, .string ⟨#[]⟩, .slice none 0 0, .slice none 0 0] 46)).alloc (.cells #[.int .u8 0, .int .u8 0, .int .u8 0, .int .u8 0] 5)) := rfl
  clear hb1
  have HW : Hid (Below w.heap.size w (((w.alloc (.cells #[.string ⟨#[]⟩, .int .u8 0, .int .u8 0, .int .u32 0, .string ⟨#[]⟩, .slice none 0 0, .slice none 0 0] 46)).alloc (.cells #[.int .u8 0, .int .u8 0, .int .u8 0, .int .u8 0] 5)).alloc (.cells #[.string n, .int .u8 1, .int .u8 2, .int .u32 8, .string ⟨#[0, 0, 0, 0]⟩, .slice none 0 0, .slice none 0 0] 46))) := Lib.hid (by go_grown)
  have HBX : Hid ((((w.alloc (.cells #[.string ⟨#[]⟩, .int .u8 0, .int .u8 0, .int .u32 0, .string ⟨#[]⟩, .slice none 0 0, .slice none 0 0] 46)).alloc (.cells #[.int .u8 0, .int .u8 0, .int .u8 0, .int .u8 0] 5)).alloc (.cells #[.string n, .int .u8 1, .int .u8 2, .int .u32 8, .string ⟨#[0, 0, 0, 0]⟩, .slice none 0 0, .slice none 0 0] 46)).heap[w.heap.size + 1 + 1]? = some (.cells #[.string n, .int .u8 1, .int .u8 2, .int .u32 8, .string ⟨#[0, 0, 0, 0]⟩, .slice none 0 0, .slice none 0 0] 46 (0, 0))) := Lib.hid (by
    have := heap_alloc_new ((w.alloc (.cells #[.string ⟨#[]⟩, .int .u8 0, .int .u8 0, .int .u32 0, .string ⟨#[]⟩, .slice none 0 0, .slice none 0 0] 46)).alloc (.cells #[.int .u8 0, .int .u8 0, .int .u8 0, .int .u8 0] 5)) (.cells #[.string n, .int .u8 1, .int .u8 2, .int .u32 8, .string ⟨#[0, 0, 0, 0]⟩, .slice none 0 0, .slice none 0 0] 46)
    simpa using this)
  have HBZ : Hid ((((w.alloc (.cells #[.string ⟨#[]⟩, .int .u8 0, .int .u8 0, .int .u32 0, .string ⟨#[]⟩, .slice none 0 0, .slice none 0 0] 46)).alloc (.cells #[.int .u8 0, .int .u8 0, .int .u8 0, .int .u8 0] 5)).alloc (.cells #[.string n, .int .u8 1, .int .u8 2, .int .u32 8, .string ⟨#[0, 0, 0, 0]⟩, .slice none 0 0, .slice none 0 0] 46)).heap[w.heap.size]? = some (.cells #[.string ⟨#[]⟩, .int .u8 0, .int .u8 0, .int .u32 0, .string ⟨#[]⟩, .slice none 0 0, .slice none 0 0] 46 (0, 0))) := Lib.hid (by
    rw [Below.heap_alloc _ _ _ (by simp; omega), Below.heap_alloc _ _ _ (by simp)]
    exact heap_alloc_new w _)
  clear hk4 hm4
  generalize ((w.alloc (.cells #[.string ⟨#[]⟩, .int .u8 0, .int .u8 0, .int .u32 0, .string ⟨#[]⟩, .slice none 0 0, .slice none 0 0] 46)).alloc (.cells #[.int .u8 0, .int .u8 0, .int .u8 0, .int .u8 0] 5)).alloc (.cells #[.string n, .int .u8 1, .int .u8 2, .int .u32 8, .string ⟨#[0, 0, 0, 0]⟩, .slice none 0 0, .slice none 0 0] 46) = w3 at *
  have c5 : w3.cell? ⟨w.heap.size + 1 + 1, 5, none⟩ = some (.slice none 0 0) := Lib.cell_of_heap HBX.out 5
  have t0 : w3.cell? ⟨b, 0, none⟩ = some (.string t) := cell_keep HW.out hb h0
  have hz3 : w.heap.size + 1 + 1 < w3.heap.size := (Array.getElem?_eq_some_iff.1 HBX.out).1
  obtain ⟨iR, s0, s1, s2, s3⟩ := info_parts info_rel13
  have HI := Lib.hid (And.intro s0 (And.intro s1 (And.intro s2 s3)))
  clear s0 s1 s2 s3
  have HOWN : Hid ((w3.alloc (.cells #[.int .u32 0, .int .u8 1, .string t, .int .u32 0] 74)).drew.ownsRow w.heap.size 74 4 (.slice none 0 0) 0 []) := Lib.hid (World.ownsRow_nil _ _ _ _)
  have HNEWS : Hid (∀ j u, [Value.int .u32 0, Value.int .u8 1, Value.string t, Value.int .u32 0][j]? = some u → (w3.alloc (.cells #[.int .u32 0, .int .u8 1, .string t, .int .u32 0] 74)).drew.cell? ((⟨w3.heap.size, 0, none⟩ : Addr).add j) = some u) := Lib.hid (by
    intro j u hj
    match j, hj with
    | 0, hj => simp at hj; subst hj; simp [go_sem, Addr.add]
    | 1, hj => simp at hj; subst hj; simp [go_sem, Addr.add]
    | 2, hj => simp at hj; subst hj; simp [go_sem, Addr.add]
    | 3, hj => simp at hj; subst hj; simp [go_sem, Addr.add]
    | j + 4, hj => simp at hj)
  have HONE : Hid (∀ u ∈ [Value.int .u32 0, Value.int .u8 1, Value.string t, Value.int .u32 0], u.oneCell' = true) := Lib.hid (by
    intro u hu; simp at hu; rcases hu with rfl | rfl | rfl | rfl <;> rfl)
  refine wp_loop_rounds 2 ?_
  rw [rounds_succ]
  go_wp2
  go_region_law ((refine step_append_own_at rfl (.tmp 26) (.tmp 35) 43 rfl w.heap.size 74 iR _ 4 32 Tryd.underlying43 HI.out.1 HI.out.2.1 HI.out.2.2.1 HI.out.2.2.2 rfl (by decide) (.slice none 0 0) 0 [] (by simp [Act.eval]) HOWN.out ⟨w3.heap.size, 0, none⟩ 1 1 [.int .u32 0, .int .u8 1, .string t, .int .u32 0] (by simp [Act.eval]) rfl HNEWS.out HONE.out (by unfold maxLen; omega) (by omega) (by simp; omega) ?_; intro v' w5 hown hgrow hv; obtain ⟨pw, cw, rfl⟩ := own_shape hown; have HG := Lib.hid (And.intro hown (And.intro hgrow hv)); have hb5 : w5.heap[w.heap.size + 1 + 1]? = some (.cells #[.string n, .int .u8 1, .int .u8 2, .int .u32 8, .string ⟨#[0, 0, 0, 0]⟩, .slice none 0 0, .slice none 0 0] 46 (0, 0)) := (hgrow.block _ (by simp; omega) (by simp [Value.ownBlock])).trans ((Below.heap_alloc w3 _ _ hz3).trans HBX.out); have e1 : w5.cell? ⟨w.heap.size + 1 + 1, 5, none⟩ = some (.slice none 0 0) := Lib.cell_of_heap hb5 5; have e2 : w5.frozen? ⟨w.heap.size + 1 + 1, 5, none⟩ = false := Lib.frozen_of_heap hb5 5; have HB5 := Lib.hid hb5; clear hown hgrow hv hb5))
  all_goals
    have HX6 : Hid ((w5.setCell ⟨w.heap.size + 1 + 1, 5, none⟩ (.slice pw (0 + 1) cw)).heap[w.heap.size + 1 + 1]? = some (.cells #[.string n, .int .u8 1, .int .u8 2, .int .u32 8, .string ⟨#[0, 0, 0, 0]⟩, .slice pw (0 + 1) cw, .slice none 0 0] 46 (0, 0))) := Lib.hid (by
      have := HB5.out
      simp [World.setCell, Array.getElem?_modify, this])
    have HZ6 : Hid ((w5.setCell ⟨w.heap.size + 1 + 1, 5, none⟩ (.slice pw (0 + 1) cw)).heap[w.heap.size]? = some (.cells #[.string ⟨#[]⟩, .int .u8 0, .int .u8 0, .int .u32 0, .string ⟨#[]⟩, .slice none 0 0, .slice none 0 0] 46 (0, 0))) := Lib.hid (by
      rw [Below.heap_setCell _ _ _ _ (by simp; omega)]
      exact (HG.out.2.1.block _ (by simp; omega) (by simp [Value.ownBlock])).trans ((Below.heap_alloc w3 _ _ (by omega)).trans HBZ.out))
    have HO6 : Hid ((w5.setCell ⟨w.heap.size + 1 + 1, 5, none⟩ (.slice pw (0 + 1) cw)).ownsRow w.heap.size 74 4 (.slice pw (0 + 1) cw) (0 + 1) ([] ++ [.int .u32 0, .int .u8 1, .string t, .int .u32 0])) :=
      Lib.hid (own_congr HG.out.1 fun g hg => Below.heap_setCell _ _ _ _ (fun e => own_ne_box HG.out.1 HB5.out (by decide) (by rw [← (show g = w.heap.size + 1 + 1 from e)]; exact hg)))
    have HW6 : Hid (Below w.heap.size w (w5.setCell ⟨w.heap.size + 1 + 1, 5, none⟩ (.slice pw (0 + 1) cw))) := Lib.hid (((HW.out.alloc (by omega) _).drew.grown HG.out.2.1 (by simp; omega) (by simp [Value.ownBlock])).setCell (by simp; omega) _)
    clear HB5 HG HOWN HNEWS e1 e2 c5 t0
    generalize w5.setCell ⟨w.heap.size + 1 + 1, 5, none⟩ (.slice pw (0 + 1) cw) = w6 at *
    have c0 : w6.cell? ⟨w.heap.size + 1 + 1, 0, none⟩ = some (.string n) := Lib.cell_of_heap HX6.out 0
    have c1 : w6.cell? ⟨w.heap.size + 1 + 1, 1, none⟩ = some (.int .u8 1) := Lib.cell_of_heap HX6.out 1
    have c2 : w6.cell? ⟨w.heap.size + 1 + 1, 2, none⟩ = some (.int .u8 2) := Lib.cell_of_heap HX6.out 2
    have c3 : w6.cell? ⟨w.heap.size + 1 + 1, 3, none⟩ = some (.int .u32 8) := Lib.cell_of_heap HX6.out 3
    have c4 : w6.cell? ⟨w.heap.size + 1 + 1, 4, none⟩ = some (.string ⟨#[0, 0, 0, 0]⟩) := Lib.cell_of_heap HX6.out 4
    have c5 : w6.cell? ⟨w.heap.size + 1 + 1, 5, none⟩ = some (.slice pw (0 + 1) cw) := Lib.cell_of_heap HX6.out 5
    have c6 : w6.cell? ⟨w.heap.size + 1 + 1, 6, none⟩ = some (.slice none 0 0) := Lib.cell_of_heap HX6.out 6
    have z0 : w6.cell? ⟨w.heap.size, 0, none⟩ = some (.string ⟨#[]⟩) := Lib.cell_of_heap HZ6.out 0
    have z1 : w6.cell? ⟨w.heap.size, 1, none⟩ = some (.int .u8 0) := Lib.cell_of_heap HZ6.out 1
    have z2 : w6.cell? ⟨w.heap.size, 2, none⟩ = some (.int .u8 0) := Lib.cell_of_heap HZ6.out 2
    have z3 : w6.cell? ⟨w.heap.size, 3, none⟩ = some (.int .u32 0) := Lib.cell_of_heap HZ6.out 3
    have z4 : w6.cell? ⟨w.heap.size, 4, none⟩ = some (.string ⟨#[]⟩) := Lib.cell_of_heap HZ6.out 4
    have z5 : w6.cell? ⟨w.heap.size, 5, none⟩ = some (.slice none 0 0) := Lib.cell_of_heap HZ6.out 5
    have z6 : w6.cell? ⟨w.heap.size, 6, none⟩ = some (.slice none 0 0) := Lib.cell_of_heap HZ6.out 6
    have y : ∀ j, w6.frozen? ⟨w.heap.size, j, none⟩ = false := fun j => Lib.frozen_of_heap HZ6.out j
    go_wp2
    rw [rounds_succ]
    go_wp2
    refine bodyPost_ret (v := .agg #[.string n, .int .u8 1, .int .u8 2, .int .u32 8, .string ⟨#[0, 0, 0, 0]⟩, .slice pw (0 + 1) cw, .slice none 0 0]) (by simp [results, Tryd.results15, go_sem, z0, z1, z2, z3, z4, z5, z6]) rfl ⟨pw, cw, rfl, ?_, ?_⟩
    · refine rel13_row (own_congr HO6.out fun g hg => ?_) ht
      have hne : g ≠ w.heap.size := fun e => own_ne_box HO6.out HZ6.out (by decide) (by rw [← e]; exact hg)
      rw [Below.heap_setCell _ _ _ _ (by simpa using hne), Below.heap_setCell _ _ _ _ (by simpa using hne), Below.heap_setCell _ _ _ _ (by simpa using hne), Below.heap_setCell _ _ _ _ (by simpa using hne), Below.heap_setCell _ _ _ _ (by simpa using hne), Below.heap_setCell _ _ _ _ (by simpa using hne), Below.heap_setCell _ _ _ _ (by simpa using hne)]
    · have h6 := HW6.out
      go_grown
end Go.Proofs.YtnhmbflinbfeoaaDoor
