/- The walks of insn.All and law36.of, at one instruction. The walk of audit.Clean. The three images of the law's aliveness, in plain Lean. No walk. An image, findings and kinds among a law's arguments. -/
import Derived.Test.YtghopakbefageaaGreatBt24
import Derived.Test.YtghopakbefageaaGreatBt32
import Derived.Test.YtghopakbefageaaGreatBt39
import Derived.Test.YtghopakbefageaaGreatRows
import Derived.Test.YtghopakbefageaaGreatBt04
import Derived.Test.YtghopakbefageaaGreatBt25
namespace Go.Proofs.YtghopakbefageaaGreat
open Go.RowKit Go.Maps
theorem wpList_build36 {P : Program} {w : World} {ops : Array Oper} {rest : List Oper} {o : Oper} {a : Act} {Q : Exit → Act → World → Prop} {t : TypeId} {parts : Array (Nat × Operand)} {vs : Array (Nat × Value)} {v : Value} (hg : o.guard = none) (hop : o.op = Op.build t parts) (hvs : (parts.map fun (i, x) => (i, a.eval x)) = vs) (hrun : (Instr.build t vs).run P w = .ok v w) (hK : wpList P ops Q rest (a.put o.dst v) w) : wpList P ops Q (o :: rest) a w := by
  refine wpList_plain hg fun K' hK' => ?_
  unfold Oper.wp
  simp [execOp, hop, hvs, hrun, Result.andThen]
  exact hK' _ _ hK
theorem build_img36 (W : World) (p : Option Addr) (c : Nat) : (Instr.build 29 #[(1, .int .u32 256), (2, .slice p 1 c)]).run Tryz.prog W = .ok (.agg #[.int .u32 0, .slice none 0 0, .slice none 0 0, .bool false, .int .u32 256, .slice p 1 c]) W := run_build W 29 #[(1, .int .u32 256), (2, .slice p 1 c)] #[.int .u32 0, .slice none 0 0, .slice none 0 0, .bool false, .int .u32 256, .slice p 1 c] (by kernel_rfl)
theorem build_seg36 (W : World) (s : ByteArray) : (Instr.build 45 #[(0, .int .u32 256), (1, .int .u8 5), (2, .string s)]).run Tryz.prog W = .ok (.agg #[.int .u32 256, .int .u8 5, .string s]) W := run_build W 45 #[(0, .int .u32 256), (1, .int .u8 5), (2, .string s)] #[.int .u32 256, .int .u8 5, .string s] (by kernel_rfl)
def ins5 (x : GIns) : Array Value := #[.int .u8 x.op, .int .u8 x.d, .int .u8 x.a, .int .u8 x.b, .int .u32 x.imm]
set_option maxHeartbeats 2000000 in
set_option maxRecDepth 20000 in
theorem all36 (x : GIns) (L : BL) (henc : ∀ W, Calls Tryz.prog 58 #[insV x] W fun e w' => e = .returned (.tuple #[.string (bsOf L), .int .i64 0]) ∧ Below W.heap.size W w') (hl : L.length = 8) (g : Nat) (w : World) (h : w.heap[g]? = some (.cells (ins5 x) 49 (0, 0))) :
    Calls Tryz.prog 41 #[.slice (some ⟨g, 0, none⟩) 1 1] w fun e w' => e = .returned (.tuple #[.string (bsOf L), .int .i64 0]) ∧ Below w.heap.size w w' := by
  have HENC := Lib.hid henc; clear henc
  have HL := Lib.hid hl; clear hl
  obtain ⟨io, id, ia, ib, im⟩ := x
  unfold insV at HENC
  unfold ins5 at h
  simp only [] at h HENC
  have hgl : g < w.heap.size := (Array.getElem?_eq_some_iff.1 h).1
  have HB1 : Hid (Below w.heap.size w (w.alloc (.cells #[.pointer none, .slice none 0 0] 104))) := alloc_old w _
  have HW0 : Hid (IsWr w.heap.size w.heap.size [] (w.alloc (.cells #[.pointer none, .slice none 0 0] 104))) := Lib.fresh_isBuilder _ _ w
  have hz1 : w.heap.size < (w.alloc (.cells #[.pointer none, .slice none 0 0] 104)).heap.size := by simp
  have b0 : (w.alloc (.cells #[.pointer none, .slice none 0 0] 104)).cell? ⟨g, 0, none⟩ = some (.int .u8 io) := cell_keep HB1.out hgl (Lib.cell_of_heap h 0)
  have b1 : (w.alloc (.cells #[.pointer none, .slice none 0 0] 104)).cell? ⟨g, 1, none⟩ = some (.int .u8 id) := cell_keep HB1.out hgl (Lib.cell_of_heap h 1)
  have b2 : (w.alloc (.cells #[.pointer none, .slice none 0 0] 104)).cell? ⟨g, 2, none⟩ = some (.int .u8 ia) := cell_keep HB1.out hgl (Lib.cell_of_heap h 2)
  have b3 : (w.alloc (.cells #[.pointer none, .slice none 0 0] 104)).cell? ⟨g, 3, none⟩ = some (.int .u8 ib) := cell_keep HB1.out hgl (Lib.cell_of_heap h 3)
  have b4 : (w.alloc (.cells #[.pointer none, .slice none 0 0] 104)).cell? ⟨g, 4, none⟩ = some (.int .u32 im) := cell_keep HB1.out hgl (Lib.cell_of_heap h 4)
  clear h hgl
  go_enter Tryz.func41, Tryz.ntmps41
  go_upto_region 2 with fail
  generalize w.alloc (.cells #[.pointer none, .slice none 0 0] 104) = w1 at *
  go_wp2_with fail
  go_loopw [11] (fun v11 wr => (v11 = .int .i64 0 ∧ wr = w1) ∨ (v11 = .int .i64 1 ∧ IsWr w.heap.size w.heap.size L wr ∧ Below w.heap.size w wr)) (fun v11 _ => 1 - (intOf v11).toNat)
  case atStart => exact .inl ⟨by go_num, rfl⟩
  case round =>
    rcases hrel with ⟨rfl, rfl⟩ | ⟨rfl, hw, hB⟩
    · go_wp2_with fail
      refine (HENC.out _).mono ?_
      rintro e w3 ⟨rfl, hB3⟩
      have HB3 : Hid (Below wr.heap.size wr w3) := Lib.hid (Below.trans (alloc_old wr _) (hB3.mono (by simp)))
      have HWS := Lib.hid (writeString_any w.heap.size w.heap.size [] (bsOf L) w3 (HW0.out.keep HB3.out) (by rw [bsOf_size, HL.out]; simp) (by have := HB3.out.size; omega))
      have HBW3 : Hid (Below w.heap.size w w3) := HB1.out.trans (HB3.out.mono (by omega))
      have he0 : ((0 : Int) != 0) = false := by decide
      clear hB3 b0 b1 b2 b3 b4
      go_wp2_with fail
      refine HWS.out.mono ?_
      rintro e w4 ⟨rfl, hw4, hB4, -⟩
      have HW4 : Hid (IsWr w.heap.size w.heap.size L w4) := Lib.hid (by simpa [bsOf] using hw4)
      have HB4 : Hid (Below w.heap.size w w4) := HBW3.out.trans hB4
      clear hw4 hB4
      go_wp2
      go_roundw
      case rel => exact .inr ⟨by go_num, HW4.out, HB4.out⟩
      case measure => simp [intOf]
    · have HW := Lib.hid hw; clear hw
      have HB := Lib.hid hB; clear hB
      have HST := Lib.hid (string_any w.heap.size w.heap.size L wr HW.out (by intro e; have := HL.out; rw [e] at this; cases this))
      clear b0 b1 b2 b3 b4
      go_wp2_with fail
      refine HST.out.mono ?_
      rintro e w4 ⟨rfl, hB4⟩
      have HB4 : Hid (Below w.heap.size w w4) := HB.out.trans hB4
      clear hB4
      go_wp2
      go_ret2
      exact ⟨rfl, HB4.out⟩
def imgOne (L : BL) : GImg := ⟨⟨0, [], [], false⟩, 256, [⟨256, 5, bsOf L⟩]⟩
set_option maxHeartbeats 500000 in
set_option maxRecDepth 20000 in
theorem of36 (x : GIns) (L : BL) (henc : ∀ W, Calls Tryz.prog 58 #[insV x] W fun e w' => e = .returned (.tuple #[.string (bsOf L), .int .i64 0]) ∧ Below W.heap.size W w') (hl : L.length = 8) (g : Nat) (w : World) (h : w.heap[g]? = some (.cells (ins5 x) 49 (0, 0))) :
    Calls Tryz.prog 21 #[.slice (some ⟨g, 0, none⟩) 1 1] w (CopyPost (imgOne L) w) := by
  obtain ⟨X, hXX⟩ : ∃ X, X = imgOne L := ⟨_, rfl⟩
  rw [← hXX]
  have HXX := Lib.hid hXX; clear hXX
  have hgl : g < w.heap.size := (Array.getElem?_eq_some_iff.1 h).1
  have HB1 : Hid (Below w.heap.size w (w.alloc (.cells #[.int .u32 0, .slice none 0 0, .slice none 0 0, .bool false, .int .u32 0, .slice none 0 0] 29))) := alloc_old w _
  have HX := Lib.hid (new_block w (.cells #[.int .u32 0, .slice none 0 0, .slice none 0 0, .bool false, .int .u32 0, .slice none 0 0] 29))
  have hz1 : w.heap.size < (w.alloc (.cells #[.int .u32 0, .slice none 0 0, .slice none 0 0, .bool false, .int .u32 0, .slice none 0 0] 29)).heap.size := by simp
  have HALL := Lib.hid (all36 x L henc hl g _ ((HB1.out.block g hgl).trans h))
  have HL := Lib.hid hl
  clear h henc hl hgl
  go_enter Tryz.func21, Tryz.ntmps21
  go_wp2_with fail
  refine HALL.out.mono ?_
  rintro e w2 ⟨rfl, hB2⟩
  have HX2 := Lib.hid ((hB2.block _ hz1).trans HX.out)
  have HB2 : Hid (Below w.heap.size w w2) := HB1.out.trans (hB2.mono HB1.out.size)
  have hz2 : w.heap.size < w2.heap.size := by have := hB2.size; omega
  have hn2 : ¬ w2.heap.size = w.heap.size := by omega
  have hn3 : ¬ w.heap.size = w2.heap.size := by omega
  clear hB2 HB1 HX hz1 HALL
  go_upto_region 2 with fail
  have HX3 : Hid ((w2.alloc (.cells #[.int .u32 256, .int .u8 5, .string (bsOf L)] 45)).heap[w.heap.size]? = some (.cells #[.int .u32 0, .slice none 0 0, .slice none 0 0, .bool false, .int .u32 0, .slice none 0 0] 29 (0, 0))) := Lib.hid ((Below.heap_alloc _ _ _ hz2).trans HX2.out)
  have HR3 : Hid ((w2.alloc (.cells #[.int .u32 256, .int .u8 5, .string (bsOf L)] 45)).ownsRow (w.heap.size + 1) 45 3 (.slice (some ⟨w2.heap.size, 0, none⟩) 1 1) 1 [.int .u32 256, .int .u8 5, .string (bsOf L)]) := Lib.hid (World.ownsRow_lit w2 #[.int .u32 256, .int .u8 5, .string (bsOf L)] 1 (by omega) (by unfold maxLen; omega) rfl)
  have HB3 : Hid (Below w.heap.size w (w2.alloc (.cells #[.int .u32 256, .int .u8 5, .string (bsOf L)] 45))) := HB2.out.alloc HB2.out.size _
  have z0 : (w2.alloc (.cells #[.int .u32 256, .int .u8 5, .string (bsOf L)] 45)).cell? ⟨w.heap.size, 0, none⟩ = some (.int .u32 0) := Lib.cell_of_heap HX3.out 0
  have g0 := Lib.frozen_of_heap HX3.out 0
  have z1 : (w2.alloc (.cells #[.int .u32 256, .int .u8 5, .string (bsOf L)] 45)).cell? ⟨w.heap.size, 1, none⟩ = some (.slice none 0 0) := Lib.cell_of_heap HX3.out 1
  have g1 := Lib.frozen_of_heap HX3.out 1
  have z2 : (w2.alloc (.cells #[.int .u32 256, .int .u8 5, .string (bsOf L)] 45)).cell? ⟨w.heap.size, 2, none⟩ = some (.slice none 0 0) := Lib.cell_of_heap HX3.out 2
  have g2 := Lib.frozen_of_heap HX3.out 2
  have z3 : (w2.alloc (.cells #[.int .u32 256, .int .u8 5, .string (bsOf L)] 45)).cell? ⟨w.heap.size, 3, none⟩ = some (.bool false) := Lib.cell_of_heap HX3.out 3
  have g3 := Lib.frozen_of_heap HX3.out 3
  have z4 : (w2.alloc (.cells #[.int .u32 256, .int .u8 5, .string (bsOf L)] 45)).cell? ⟨w.heap.size, 4, none⟩ = some (.int .u32 0) := Lib.cell_of_heap HX3.out 4
  have g4 := Lib.frozen_of_heap HX3.out 4
  have z5 : (w2.alloc (.cells #[.int .u32 256, .int .u8 5, .string (bsOf L)] 45)).cell? ⟨w.heap.size, 5, none⟩ = some (.slice none 0 0) := Lib.cell_of_heap HX3.out 5
  have g5 := Lib.frozen_of_heap HX3.out 5
  have HBLK : Hid (∀ (w3 : World) (g : Nat) (u0 u1 u2 u3 u4 u5 : Value), g ≠ w.heap.size → (((((((w3).setCell ⟨w.heap.size, 0, none⟩ u0).setCell ⟨w.heap.size, 1, none⟩ u1).setCell ⟨w.heap.size, 2, none⟩ u2).setCell ⟨w.heap.size, 3, none⟩ u3).setCell ⟨w.heap.size, 4, none⟩ u4).setCell ⟨w.heap.size, 5, none⟩ u5).heap[g]? = w3.heap[g]?) := Lib.hid fun w3 g u0 u1 u2 u3 u4 u5 h1 => by
    rw [Below.heap_setCell _ _ _ _ h1, Below.heap_setCell _ _ _ _ h1, Below.heap_setCell _ _ _ _ h1, Below.heap_setCell _ _ _ _ h1, Below.heap_setCell _ _ _ _ h1, Below.heap_setCell _ _ _ _ h1]
  go_wp2_with (first | (refine wpList_build36 rfl (v := .agg #[.int .u32 256, .int .u8 5, .string (bsOf L)]) (t := 45) (parts := #[(0, .const (.int .u32 256)), (1, .const (.int .u8 5)), (2, .tmp 10)]) (vs := #[(0, .int .u32 256), (1, .int .u8 5), (2, .string (bsOf L))]) rfl (by simp [Act.eval]) (build_seg36 _ _) ?_) | (refine wpList_build36 rfl (v := .agg #[.int .u32 0, .slice none 0 0, .slice none 0 0, .bool false, .int .u32 256, .slice (some ⟨w2.heap.size, 0, none⟩) 1 1]) (t := 29) (parts := #[(1, .const (.int .u32 256)), (2, .tmp 12)]) (vs := #[(1, .int .u32 256), (2, .slice (some ⟨w2.heap.size, 0, none⟩) 1 1)]) rfl (by simp [Act.eval]) (build_img36 _ _ _) ?_; generalize w2.alloc (.cells #[.int .u32 256, .int .u8 5, .string (bsOf L)] 45) = w3 at *))
  refine bodyPost_ret (v := .agg #[.int .u32 0, .slice none 0 0, .slice none 0 0, .bool false, .int .u32 256, .slice (some ⟨w2.heap.size, 0, none⟩) 1 1]) (by simp [results, Tryz.results21, go_sem, z0, z1, z2, z3, z4, z5]) rfl ?_
  have hown := own_congr HR3.out fun g hg => HBLK.out _ g (.int .u32 0) (.slice none 0 0) (.slice none 0 0) (.bool false) (.int .u32 256) (.slice (some ⟨w2.heap.size, 0, none⟩) 1 1) (fun e => by have := (HR3.out.lt g hg).1; omega)
  have hsz : (bsOf L).size = 8 := by rw [bsOf_size]; exact HL.out
  rw [HXX.out]
  refine ⟨.slice none 0 0, .slice none 0 0, _, rfl, ⟨⟨rowAt_nil, rowAt_nil, by unfold imgOne; simp⟩, ?_, by unfold imgOne; simp⟩, ?_⟩
  · refine owned_row (f := sgCells) (l := [⟨256, 5, bsOf L⟩]) (e := 45) (base := w.heap.size + 1) sg_len hown (by simp) fun g o i hi hg hcell => ?_
    obtain rfl : i = 0 := by simpa using hi
    exact ⟨hg, hcell 0 _ (by omega) rfl, hcell 1 _ (by omega) rfl, hcell 2 _ (by omega) rfl, by simp, by simp, by simp [hsz]⟩
  · exact (((((HB3.out.setCell (Nat.le_refl _) _).setCell (Nat.le_refl _) _).setCell (Nat.le_refl _) _).setCell (Nat.le_refl _) _).setCell (Nat.le_refl _) _).setCell (Nat.le_refl _) _
end Go.Proofs.YtghopakbefageaaGreat
namespace Go.Proofs.YtghopakbefageaaGreat
open Go.RowKit Go.Maps Go.Shelf
def KindR (w : World) (b o : Nat) (x : Int) : Prop := b < w.heap.size ∧ w.cell? ⟨b, o, none⟩ = some (.int .u8 x) ∧ 0 ≤ x ∧ x ≤ 255
theorem kindR_keeps : Keeps KindR := fun _ _ _ _ _ hb ⟨h0, h1, r⟩ => ⟨size_keep hb h0, cell_keep hb h0 h1, r⟩
def dirty (ks : List Int) (f : Fd) : Bool := decide (ks.length = 0) || ks.any fun y => decide (f.2 = y)
def cleanFd (fs : List Fd) (ks : List Int) : Bool := !fs.any (dirty ks)
theorem contains8_row (v : Value) (l : List Int) (x : Int) (w : World) (h : RowAt 1 KindR w v l) :
    Calls Tryz.prog 39 #[v, .int .u8 x] w fun e w' => e = .returned (.bool (l.any fun y => decide (x = y))) ∧ w' = w := by
  obtain ⟨pp, cap, b, o, rfl, hcap, hmax, hpp, hc⟩ := h
  by_cases h0 : l.length = 0
  · obtain rfl : l = [] := List.eq_nil_of_length_eq_zero h0
    exact Go.Proofs.AnyE.slices_Contains_empty Tryz.contains8 pp cap _ w
  · obtain rfl := hpp (by omega)
    have := Go.Proofs.AnyE.slices_Contains Tryz.contains8 (Value.int .u8) (fun x y => decide (x = y)) (EqlAt.intD _ _ .u8) b o l.length cap l x w (Nat.le_refl _) (by omega) (fun j hj => by
      have e : l[j]! = l[j] := by simp [hj]
      rw [e]
      have hr := (hc j hj).2.1
      simpa using hr)
    rw [List.take_length] at this
    exact this
set_option maxHeartbeats 1000000 in
theorem clean1_any {vb : Nat} {v : Value} {ks : List Int} (f : Fd) (w : World) (hvb : vb < w.heap.size) (hb : w.cell? ⟨vb, 0, none⟩ = some v) (hr : RowAt 1 KindR w v ks) :
    Calls Tryz.prog 38 #[.agg #[.int .u32 f.1, .int .u8 f.2], .pointer (some ⟨vb, 0, none⟩)] w fun e w' => e = .returned (.bool (dirty ks f)) ∧ Below w.heap.size w w' := by
  obtain ⟨fa, fk⟩ := f
  simp only []
  have HB1 : Hid (Below w.heap.size w (w.alloc (.cells #[.int .u32 fa, .int .u8 fk] 51))) := alloc_old w _
  have HCT := Lib.hid (contains8_row v ks fk _ (hr.keep kindR_keeps HB1.out))
  have HD : Hid (dirty ks (fa, fk) = (decide (ks.length = 0) || ks.any fun y => decide (fk = y))) := Lib.hid rfl
  have hb1 := cell_keep HB1.out hvb hb
  obtain ⟨p, c, _, _, rfl, -⟩ := hr
  generalize (ks.any fun y => decide (fk = y)) = r at HCT HD
  by_cases h0 : ks.length = 0
  · have h0b : ((ks.length : Int) == 0) = true := by rw [beq_iff_eq]; omega
    go_enter Tryz.func38, Tryz.ntmps38
    go_wp2
    go_ret
    exact ⟨by rw [HD.out, decide_eq_true h0]; rfl, HB1.out⟩
  · have h0b : ((ks.length : Int) == 0) = false := by rw [beq_eq_false_iff_ne]; omega
    have HD2 : Hid (dirty ks (fa, fk) = r) := Lib.hid (by rw [HD.out, decide_eq_false h0]; rfl)
    clear HD
    go_enter Tryz.func38, Tryz.ntmps38
    go_wp2_with (go_at_call 39; refine HCT.out.mono ?_; rintro e w1 ⟨rfl, rfl⟩)
    go_ret
    exact ⟨by rw [HD2.out]; rfl, HB1.out⟩
theorem clean1_enters (args : Array Value) (w : World) : (callFunc 38 args).run Tryz.prog w = .ok (.enter 38 args) w := enters_of Tryz.func38 (by kernel_rfl) rfl args w
set_option maxHeartbeats 400000 in
theorem indexF_nil (a : Option Addr) (c : Nat) (fv : Value) (w : World) : Calls Tryz.prog 56 #[.slice a 0 c, fv] w fun e w' => e = .returned (.int .i64 (-1)) ∧ w' = w := by
  go_enter Tryz.func56, Tryz.ntmps56
  go_wp2
  go_loopw [8] (fun i wr => i = .int .i64 0 ∧ wr = w) (fun _ _ => 0)
  case atStart => exact ⟨rfl, rfl⟩
  case round =>
    obtain ⟨rfl, rfl⟩ := hrel
    go_wp2
    go_ret
    exact ⟨rfl, rfl⟩
set_option maxHeartbeats 400000 in
theorem containsF_nil (a : Option Addr) (c : Nat) (fv : Value) (w : World) : Calls Tryz.prog 37 #[.slice a 0 c, fv] w fun e w' => e = .returned (.bool false) ∧ w' = w := by
  have HI := Lib.hid (indexF_nil a c fv w)
  go_enter Tryz.func37, Tryz.ntmps37
  go_wp2_with (go_at_call 56; refine HI.out.mono ?_; rintro e w1 ⟨rfl, rfl⟩)
  go_ret
  exact ⟨rfl, rfl⟩
theorem containsF_any (v : Value) (l : List Fd) (w : World) (p : Fd → Bool) (g : FuncId) (lb : Array Value) (eg : ∀ args w, (callFunc g args).run Tryz.prog w = .ok (.enter g args) w) (h : RowAt 2 FindR w v l)
    (hp : ∀ (W : World) (x : Fd), Below w.heap.size w W → Calls Tryz.prog g (#[.agg #[.int .u32 x.1, .int .u8 x.2]] ++ lb) W fun e w' => e = .returned (.bool (p x)) ∧ Below w.heap.size w w') :
    Calls Tryz.prog 37 #[v, .func (.func g) #[] lb] w fun e w' => e = .returned (.bool (l.any p)) ∧ Below w.heap.size w w' := by
  obtain ⟨pp, cap, b, o, rfl, hcap, hmax, hpp, hc⟩ := h
  by_cases h0 : l.length = 0
  · obtain rfl : l = [] := List.eq_nil_of_length_eq_zero h0
    refine (containsF_nil pp cap _ w).mono ?_
    rintro e w' ⟨rfl, rfl⟩
    exact ⟨rfl, Below.refl _ _⟩
  · obtain rfl := hpp (by omega)
    have hb := (hc 0 (by omega)).1
    have := Go.Proofs.AnyQ.slices_ContainsFunc Tryz.containsFuncFinding 2 Tryz.isAgg51 Tryz.sizeOf51 findCells (fun _ => rfl) p g lb eg b o l.length cap l w hp (Nat.le_refl _) (by omega) hb (fun j hj i v hv => by
      have e : l[j]! = l[j] := by simp [hj]
      rw [e] at hv
      have hr := hc j hj
      match i, hv with
      | 0, hv => cases hv; exact hr.2.1
      | 1, hv => cases hv; exact hr.2.2.1)
    rw [List.take_length] at this
    exact this
set_option maxHeartbeats 1000000 in
theorem audClean36 (vf vk : Value) (fs : List Fd) (ks : List Int) (w : World) (hf : RowAt 2 FindR w vf fs) (hk : RowAt 1 KindR w vk ks) :
    Calls Tryz.prog 17 #[vf, vk] w fun e w' => e = .returned (.bool (cleanFd fs ks)) ∧ Below w.heap.size w w' := by
  have hkk := hk
  have hff := hf
  obtain ⟨p, c, b1, o1, rfl, -⟩ := hk
  obtain ⟨q, d, b2, o2, rfl, -⟩ := hf
  have HB1 : Hid (Below w.heap.size w (w.alloc (.cells #[.slice p ks.length c] 31))) := alloc_old w _
  have hv : (w.alloc (.cells #[.slice p ks.length c] 31)).cell? ⟨w.heap.size, 0, none⟩ = some (.slice p ks.length c) := by simp [go_sem]
  have hz : w.heap.size < (w.alloc (.cells #[.slice p ks.length c] 31)).heap.size := by simp
  have HC := Lib.hid (containsF_any _ fs _ (dirty ks) 38 #[.pointer (some ⟨w.heap.size, 0, none⟩)] clean1_enters (hff.keep findR_keeps HB1.out) (fun W f hW => (clean1_any f W (Nat.lt_of_lt_of_le hz hW.size) (cell_keep hW hz hv) ((hkk.keep kindR_keeps HB1.out).keep kindR_keeps hW)).mono fun e w' ⟨h1, h2⟩ => ⟨h1, hW.trans (h2.mono hW.size)⟩))
  clear hkk hff hv
  go_enter Tryz.func17, Tryz.ntmps17
  go_wp2_with (go_at_call 37; refine HC.out.mono ?_; rintro e w1 ⟨rfl, hB⟩; have HB2 : Hid (Below w.heap.size w w1) := HB1.out.trans (hB.mono HB1.out.size); clear hB)
  go_ret
  exact ⟨rfl, HB2.out⟩
end Go.Proofs.YtghopakbefageaaGreat
namespace Go.Proofs.YtghopakbefageaaGreat
open Go.RowKit
theorem aliveA : imageL (imgOne enc36aL) = [] := by kernel_rfl
theorem aliveB : imageL (imgOne enc36bL) = [(256, 2)] := by kernel_rfl
theorem aliveC : imageL (imgOne enc36cL) = [(256, 3)] := by kernel_rfl
theorem aliveL : linesX (imgOne enc36aL) = [⟨256, ⟨40, 0, 0, 0, 256⟩, true⟩] := by kernel_rfl
theorem aliveF : FlowIs (linesX (imgOne enc36aL)) (imgOne enc36aL).entry [256] := by
  rw [aliveL]
  refine ⟨by simp, fun a => ?_⟩
  show a ∈ [256] ↔ InFlow _ 256 a
  constructor
  · intro h
    simp at h
    subst h
    exact ⟨by decide, .refl⟩
  · rintro ⟨-, hr⟩
    induction hr with
    | refl => simp
    | step h1 h2 ih =>
      obtain ⟨-, y, hy, hya, hb⟩ := h2
      simp at hy
      subst hy
      have e : behindL (⟨256, ⟨40, 0, 0, 0, 256⟩, true⟩ : GLn) = [256] := by decide
      rw [e] at hb
      exact hb
theorem aliveI {b : Bool} (h : IndIs (linesX (imgOne enc36aL)) (imgOne enc36aL).entry b) : b = false := by
  have h1 := ind_any aliveF
  have e : [256].any (indF (linesX (imgOne enc36aL))) = false := by rw [aliveL]; decide
  rw [e] at h1
  exact indIs_eq h h1
theorem aliveK : cleanFd [] [] = true := rfl
theorem aliveM : cleanFd [(256, 2)] [2] = false := by decide
end Go.Proofs.YtghopakbefageaaGreat
namespace Go.Proofs.YtghopakbefageaaGreat
open Go.ChangeShapes Go.WideShapes Go.ChangeAt Go.RowKit Go.Deep
section
variable {H : Type} {enc : TypeId × Value → H} {w : World} {base : Nat} {spare : Nat → Bool} {held : Bool}
theorem open_ext (b o : Nat) (cs : List Value) (n : Nat) (d : DataW H × List MemPlace) (hb : b < w.heap.size) (hl : cs.length = 2) (hc : ∀ j, j < 2 → w.cell? ⟨b, o + j, none⟩ = cs[j]?)
    (h : DataW.trod enc Tryz.prog w base spare held n 100 cs = some d) (hs : Small Tryz.prog 100 d.1) : ∃ y, ExtR w b o y := by
  obtain ⟨m, hf⟩ := open_fields Tryz.underlying100 (by kernel_rfl) h hs hl
  obtain ⟨v0, y0, e0, t0, _⟩ := hf 0 _ rfl
  obtain ⟨v1, y1, e1, t1, _⟩ := hf 1 _ rfl
  obtain ⟨n0, c0, -, w0⟩ := DataW.trod_int Tryz.underlying22 t0
  obtain ⟨n1, c1, -, w1⟩ := DataW.trod_int Tryz.underlying22 t1
  cases c0; cases c1
  exact ⟨(n0, n1), hb, (hc 0 (by omega)).trans e0, (hc 1 (by omega)).trans e1, bounds_u32 w0, bounds_u32 w1⟩
theorem open_find (b o : Nat) (cs : List Value) (n : Nat) (d : DataW H × List MemPlace) (hb : b < w.heap.size) (hl : cs.length = 2) (hc : ∀ j, j < 2 → w.cell? ⟨b, o + j, none⟩ = cs[j]?)
    (h : DataW.trod enc Tryz.prog w base spare held n 51 cs = some d) (hs : Small Tryz.prog 51 d.1) : ∃ y, FindR w b o y := by
  obtain ⟨m, hf⟩ := open_fields Tryz.underlying51 (by kernel_rfl) h hs hl
  obtain ⟨v0, y0, e0, t0, _⟩ := hf 0 _ rfl
  obtain ⟨v1, y1, e1, t1, _⟩ := hf 1 _ rfl
  obtain ⟨n0, c0, -, w0⟩ := DataW.trod_int Tryz.underlying22 t0
  obtain ⟨n1, c1, -, w1⟩ := DataW.trod_int Tryz.underlying5 t1
  cases c0; cases c1
  exact ⟨(n0, n1), hb, (hc 0 (by omega)).trans e0, (hc 1 (by omega)).trans e1, bounds_u32 w0, bounds_u8 w1⟩
theorem open_seg (b o : Nat) (cs : List Value) (n : Nat) (d : DataW H × List MemPlace) (hb : b < w.heap.size) (hl : cs.length = 3) (hc : ∀ j, j < 3 → w.cell? ⟨b, o + j, none⟩ = cs[j]?)
    (h : DataW.trod enc Tryz.prog w base spare held n 45 cs = some d) (hs : Small Tryz.prog 45 d.1) : ∃ y, SegR w b o y := by
  obtain ⟨m, hf⟩ := open_fields Tryz.underlying45 (by kernel_rfl) h hs hl
  obtain ⟨v0, y0, e0, t0, _⟩ := hf 0 _ rfl
  obtain ⟨v1, y1, e1, t1, _⟩ := hf 1 _ rfl
  obtain ⟨v2, y2, e2, t2, s2⟩ := hf 2 _ rfl
  obtain ⟨n0, c0, -, w0⟩ := DataW.trod_int Tryz.underlying22 t0
  obtain ⟨n1, c1, -, w1⟩ := DataW.trod_int Tryz.underlying5 t1
  obtain ⟨n2, c2, rfl, w2⟩ := DataW.trod_string Tryz.underlying9 t2
  cases c0; cases c1; cases c2
  exact ⟨⟨n0, n1, n2⟩, hb, (hc 0 (by omega)).trans e0, (hc 1 (by omega)).trans e1, (hc 2 (by omega)).trans e2, bounds_u32 w0, bounds_u8 w1, small_bytes s2⟩
theorem open_port (b o : Nat) (cs : List Value) (n : Nat) (d : DataW H × List MemPlace) (hb : b < w.heap.size) (hl : cs.length = 1) (hc : ∀ j, j < 1 → w.cell? ⟨b, o + j, none⟩ = cs[j]?)
    (h : DataW.trod enc Tryz.prog w base spare held n 101 cs = some d) (_hs : Small Tryz.prog 101 d.1) : ∃ y, PortR w b o y := by
  obtain ⟨n0, rfl, -, w0⟩ := DataW.trod_int Tryz.underlying101 h
  exact ⟨n0, hb, hc 0 (by omega), bounds_u16 w0⟩
theorem open_kind (b o : Nat) (cs : List Value) (n : Nat) (d : DataW H × List MemPlace) (hb : b < w.heap.size) (hl : cs.length = 1) (hc : ∀ j, j < 1 → w.cell? ⟨b, o + j, none⟩ = cs[j]?)
    (h : DataW.trod enc Tryz.prog w base spare held n 5 cs = some d) (_hs : Small Tryz.prog 5 d.1) : ∃ y, KindR w b o y := by
  obtain ⟨n0, rfl, -, w0⟩ := DataW.trod_int Tryz.underlying5 h
  exact ⟨n0, hb, hc 0 (by omega), bounds_u8 w0⟩
/-- a manifest's cells -/
theorem open_manC (cs : List Value) (n : Nat) (d : DataW H × List MemPlace) (hl : cs.length = 4)
    (h : DataW.trod enc Tryz.prog w base spare held n 26 cs = some d) (hs : Small Tryz.prog 26 d.1) :
    ∃ (m : GMan) (ve vp : Value), cs = [.int .u32 m.pages, ve, vp, .bool m.cons] ∧ ManAt w m ve vp := by
  obtain ⟨m, hf⟩ := open_fields Tryz.underlying26 (by kernel_rfl) h hs hl
  obtain ⟨v0, y0, e0, t0, _⟩ := hf 0 _ rfl
  obtain ⟨v1, y1, e1, t1, s1⟩ := hf 1 _ rfl
  obtain ⟨v2, y2, e2, t2, s2⟩ := hf 2 _ rfl
  obtain ⟨v3, y3, e3, t3, _⟩ := hf 3 _ rfl
  obtain ⟨n0, c0, -, w0⟩ := DataW.trod_int Tryz.underlying22 t0
  obtain ⟨u1, l1, c1, r1⟩ := open_row Tryz.underlying23 (by kernel_rfl) (by omega) (of_decide_eq_true (by kernel_rfl)) open_ext t1 s1
  obtain ⟨u2, l2, c2, r2⟩ := open_row Tryz.underlying24 (by kernel_rfl) (by omega) (of_decide_eq_true (by kernel_rfl)) open_port t2 s2
  obtain ⟨b3, c3, -⟩ := DataW.trod_bool Tryz.underlying4 t3
  cases c0; cases c1; cases c2; cases c3
  refine ⟨⟨n0, l1, l2, b3⟩, v1, v2, ?_, r1, r2, bounds_u32 w0⟩
  match cs, hl, e0, e1, e2, e3 with
  | [a0, a1, a2, a3], _, e0, e1, e2, e3 => simp at e0 e1 e2 e3; simp [e0, e1, e2, e3]
set_option maxRecDepth 100000 in
theorem open_imgV {r : Go.Reach} {b0 : Nat} {v : Value} {d : DataW H} {p : List MemPlace} (hv : Value.okWide Tryz.prog w r b0 29 v) (h : DataW.Trod enc Tryz.prog w base spare held 29 v d p) (hs : Small Tryz.prog 29 d) :
    ∃ (x : GImg) (ve vp vs : Value), v = imgV x ve vp vs ∧ ImgAt w x ve vp vs := by
  obtain ⟨cs, rfl, hsz⟩ := okWide_struct Tryz.underlying29 hv
  obtain ⟨fuel, hf⟩ := h
  have hC : Tryz.prog.cellsOf 29 = 6 := by kernel_rfl
  have hl : cs.toList.length = 6 := by rw [Array.length_toList]; exact hsz.trans hC
  have hf' : DataW.trod enc Tryz.prog w base spare held fuel 29 cs.toList = some (d, p) := by simpa [Value.cells] using hf
  obtain ⟨xs, m, _, hd, _, hxl, hff⟩ := DataW.trod_struct Tryz.underlying29 hf'
  obtain ⟨rfl, rfl⟩ := Prod.mk.inj hd
  unfold Small at hs
  simp only [DataW.weights, Tryz.underlying29] at hs
  have h0 := hff 0 _ rfl
  have h1 := hff 1 _ rfl
  have h2 := hff 2 _ rfl
  have hxl' : xs.length = 3 := hxl
  match xs, hxl' with
  | [x0, x1, x2], _ =>
  match hcs : cs.toList, hl with
  | [a0, a1, a2, a3, a4, a5], _ =>
  rw [hcs] at h0 h1 h2
  obtain ⟨mm, ve, vp, hm, hma⟩ := open_manC [a0, a1, a2, a3] _ _ rfl h0 (small_each hs 0 26 x0.1 rfl rfl)
  obtain ⟨n1, c1, -, w1⟩ := DataW.trod_int Tryz.underlying22 h1
  obtain ⟨v2, l2, c2, r2⟩ := open_row Tryz.underlying27 (by kernel_rfl) (by omega) (of_decide_eq_true (by kernel_rfl)) open_seg h2 (small_each hs 2 27 x2.1 rfl rfl)
  cases hm; cases c1; cases c2
  refine ⟨⟨mm, n1, l2⟩, _, _, _, ?_, hma, r2, bounds_u32 w1⟩
  rw [← Array.toArray_toList (xs := cs), hcs]; rfl
theorem open_finds {v : Value} {d : DataW H} {p : List MemPlace} (h : DataW.Trod enc Tryz.prog w base spare held 30 v d p) (hsl : ∃ a n c, v = .slice a n c) (hs : Small Tryz.prog 30 d) : ∃ l, RowAt 2 FindR w v l := by
  obtain ⟨fuel, hf⟩ := h
  obtain ⟨a, n, c, rfl⟩ := hsl
  obtain ⟨v', l, hv, hr⟩ := open_row (x := (d, p)) Tryz.underlying30 (by kernel_rfl) (by omega) (of_decide_eq_true (by kernel_rfl)) open_find hf hs
  have : v' = .slice a n c := by simpa [Value.cells] using hv.symm
  subst this
  exact ⟨l, hr⟩
theorem open_kinds {v : Value} {d : DataW H} {p : List MemPlace} (h : DataW.Trod enc Tryz.prog w base spare held 31 v d p) (hsl : ∃ a n c, v = .slice a n c) (hs : Small Tryz.prog 31 d) : ∃ l, RowAt 1 KindR w v l := by
  obtain ⟨fuel, hf⟩ := h
  obtain ⟨a, n, c, rfl⟩ := hsl
  obtain ⟨v', l, hv, hr⟩ := open_row (x := (d, p)) Tryz.underlying31 (by kernel_rfl) (by omega) (of_decide_eq_true (by kernel_rfl)) open_kind hf hs
  have : v' = .slice a n c := by simpa [Value.cells] using hv.symm
  subst this
  exact ⟨l, hr⟩
end
end Go.Proofs.YtghopakbefageaaGreat
