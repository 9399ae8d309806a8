/- The walk of dis.caught: a reading that may be ended. The walk of dis.ReadInsn. The walk of dis.ReadInsn, its closure under dis.caught. The walk of dis.Code. The walk of dis.Code. The walks of the document's numbers: aediculeref32.digits, Number; aediculeref33.num. -/
import Derived.Test.YtoonkfhphbojcaaGreatDoorBv19
import Derived.Defers
import Derived.Recover
import Derived.Laws.Pointers
import Derived.Test.YtoonkfhphbojcaaGreatDoorBv17
import Derived.Test.YtoonkfhphbojcaaGreatDoorBv15
namespace Go.Proofs.YtoonkfhphbojcaaGreatDoor
open Go.RowKit Go.Maps
set_option maxHeartbeats 1000000 in
set_option maxRecDepth 100000 in
theorem caught1_bad (b : Nat) (x : Bool) (older : List PanicEntry) (w : World) (hc : w.cell? ⟨b, 0, none⟩ = some (.bool x)) (hz : w.frozen? ⟨b, 0, none⟩ = false) :
    CallsD Tryz.prog 91 #[.pointer (some ⟨b, 0, none⟩)] (.panicking ({ v := .iface 142 (.agg #[]), recovered := false } :: older)) w fun e u' w' =>
      e = .returned (.tuple #[]) ∧ u' = .panicking ({ v := .iface 142 (.agg #[]), recovered := true } :: older) ∧ w' = w.setCell ⟨b, 0, none⟩ (.bool true) := by
  refine callsD_of_wpS Tryz.func91 rfl fun c₀ cs hu => ?_
  apply wpS_seq
  apply wpS_region
  simp [wpOpsS, go_sem, recoverD, hu, Tryz.ntmps91, Exit.thenS]
  have he1 : ∀ W : World, (binOp BinOp.eql 20 (.iface 142 (.agg #[])) .nilIface).run Tryz.prog W = .ok (.bool false) W := fun _ => by kernel_rfl
  have he2 : ∀ W : World, (binOp BinOp.eql 20 (.iface 142 (.agg #[])) (.iface 142 (.agg #[]))).run Tryz.prog W = .ok (.bool true) W := fun _ => by kernel_rfl
  refine wpS_of_wp ?_
  simp only [Array.replicate_succ, Array.replicate_zero, List.push_toArray, List.append_toArray, List.nil_append, List.cons_append, List.setIfInBounds_toArray, List.set_cons_zero, List.set_cons_succ]
  go_wp2
  exact ⟨rfl, _, rfl, _, by simp [results, Tryz.results91, go_sem], rfl, rfl, rfl⟩
set_option maxHeartbeats 1000000 in
set_option maxRecDepth 100000 in
theorem caught1_idle (b : Nat) (w : World) :
    CallsD Tryz.prog 91 #[.pointer (some ⟨b, 0, none⟩)] .returning w fun e u' w' => e = .returned (.tuple #[]) ∧ u' = .returning ∧ w' = w := by
  refine callsD_of_wpS Tryz.func91 rfl fun c₀ cs hu => ?_
  apply wpS_seq
  apply wpS_region
  simp [wpOpsS, go_sem, recoverD, hu, Tryz.ntmps91, Exit.thenS]
  have he1 : ∀ W : World, (binOp BinOp.eql 20 .nilIface .nilIface).run Tryz.prog W = .ok (.bool true) W := fun _ => by kernel_rfl
  refine wpS_of_wp ?_
  simp only [Array.replicate_succ, Array.replicate_zero, List.push_toArray, List.append_toArray, List.nil_append, List.cons_append, List.setIfInBounds_toArray, List.set_cons_zero, List.set_cons_succ]
  go_wp2
  cases c₀
  simp_all [bodyPostS, results, Tryz.results91]
/-- a reading under dis.caught: it ends well (ok), or is ended (no) -/
def CaughtPost (w : World) (ok no : World → Prop) (e : Ending) (w' : World) : Prop :=
  (e = .returned (.bool false) ∧ ∃ w1, ok w1 ∧ w' = w1.setCell ⟨w.heap.size, 0, none⟩ (.bool false)) ∨ (e = .returned (.bool true) ∧ ∃ w1, no w1 ∧ w' = w1.setCell ⟨w.heap.size, 0, none⟩ (.bool true))
set_option maxHeartbeats 1000000 in
set_option maxRecDepth 100000 in
theorem caught33 (g : Nat) (caps : Array Value) (ok no : World → Prop) (w : World) (hen : ∀ args W, (callFunc g args).run Tryz.prog W = .ok (.enter g args) W)
    (hdo : Calls Tryz.prog g caps (w.alloc (.cells #[.bool false] 4)) fun e w' => (e = .returned (.tuple #[]) ∧ ok w') ∨ (e = wrongE ∧ no w'))
    (hok : ∀ w', ok w' → w'.heap[w.heap.size]? = some (.cells #[.bool false] 4 (0, 0))) (hno : ∀ w', no w' → w'.heap[w.heap.size]? = some (.cells #[.bool false] 4 (0, 0))) :
    Calls Tryz.prog 38 #[.func (Fn.func g) #[] caps] w (CaughtPost w ok no) := by
  have hmf : ∀ (fn : Fn) (first cap : Array Value) (w : World), (Instr.makeFunc fn first cap).run Tryz.prog w = .ok (.func fn first cap) w := fun _ _ _ _ => rfl
  have HD := Lib.hid hdo
  clear hdo
  go_enter_defers Tryz.func38, Tryz.ntmps38
  go_wp2_with fail
  refine HD.out.mono ?_
  rintro e w2 (⟨rfl, h⟩ | ⟨rfl, h⟩)
  · have hx := hok _ h
    have c0 : w2.cell? ⟨w.heap.size, 0, none⟩ = some (.bool false) := Lib.cell_of_heap hx 0
    have f0 := Lib.frozen_of_heap hx 0
    have c1 : (w2.setCell ⟨w.heap.size, 0, none⟩ (.bool false)).cell? ⟨w.heap.size, 0, none⟩ = some (.bool false) := Lib.cell_of_heap (set33 hx 0 (.bool false)) 0
    have HO : Hid (∃ w1, ok w1 ∧ w2.setCell ⟨w.heap.size, 0, none⟩ (.bool false) = w1.setCell ⟨w.heap.size, 0, none⟩ (.bool false)) := Lib.hid ⟨w2, h, rfl⟩
    clear hx h
    go_wp2
    generalize (w2.setCell ⟨w.heap.size, 0, none⟩ (.bool false)) = w3 at *
    refine leaves_cons (f := 91) (args := #[.pointer (some ⟨w.heap.size, 0, none⟩)]) (by simp) (by simp [go_sem]) ?_
    refine (caught1_idle w.heap.size _).mono ?_
    rintro e u' w'' ⟨rfl, rfl, rfl⟩
    refine ⟨.bool false, by simp [results, Tryz.results38, go_sem, c1], .inl ⟨rfl, HO.out⟩⟩
  · have hx := hno _ h
    have c0 : w2.cell? ⟨w.heap.size, 0, none⟩ = some (.bool false) := Lib.cell_of_heap hx 0
    have f0 := Lib.frozen_of_heap hx 0
    have c1 : (w2.setCell ⟨w.heap.size, 0, none⟩ (.bool true)).cell? ⟨w.heap.size, 0, none⟩ = some (.bool true) := Lib.cell_of_heap (set33 hx 0 (.bool true)) 0
    have HO : Hid (∃ w1, no w1 ∧ w2.setCell ⟨w.heap.size, 0, none⟩ (.bool true) = w1.setCell ⟨w.heap.size, 0, none⟩ (.bool true)) := Lib.hid ⟨w2, h, rfl⟩
    clear hx h
    unfold wrongE wrongV
    go_wp2
    refine leaves_cons (f := 91) (args := #[.pointer (some ⟨w.heap.size, 0, none⟩)]) (by simp) (by simp [go_sem]) ?_
    refine (caught1_bad w.heap.size false [] _ c0 f0).mono ?_
    rintro e u' w'' ⟨rfl, rfl, rfl⟩
    have hse : settle (.panicking [{ v := .iface 142 (.agg #[]), recovered := true }]) = .returning := by simp [settle]
    show Leaves _ _ _ _ [] (settle _) _
    rw [hse]
    exact ⟨.bool true, by simp [results, Tryz.results38, go_sem, c1], .inr ⟨rfl, HO.out⟩⟩
end Go.Proofs.YtoonkfhphbojcaaGreatDoor
namespace Go.Proofs.YtoonkfhphbojcaaGreatDoor
open Go.RowKit Go.Maps
/-- the instruction of a text -/
def readInsnL (s : BL) : Option GIns := match parsedW (cutAt 32 s) with
  | none => none
  | some (x, imm) => if bitOf (useOf x.op) 8 then match numL imm with
    | none => none
    | some v => some ⟨x.op, x.d, x.a, x.b, v⟩
    else some x
theorem parsedW_imm {ps : List BL} {x : GIns} {imm : BL} {n : Nat} (h : parsedW ps = some (x, imm)) (hp : ∀ p ∈ ps, p.length ≤ n) (hn : 2 ≤ n) : imm.length ≤ n := by
  unfold parsedW at h
  split at h
  · cases h
  split at h
  · cases h
  split at h
  · cases h
  split at h
  · cases h
  split at h
  · cases h
  split at h
  · cases h
  split at h
  · cases h
  split at h
  · cases h
  rename_i hl
  split at h
  · cases h
    split at hl
    · exact takeL_len hl hp hn
    · cases hl; simp
  · cases h
theorem parsedW_op {ps : List BL} {x : GIns} {imm : BL} (h : parsedW ps = some (x, imm)) : 0 ≤ x.op ∧ x.op ≤ 255 := by
  unfold parsedW at h
  split at h
  · cases h
  rename_i op ho
  have hop : 0 ≤ op ∧ op ≤ 255 := by
    unfold opOf at ho
    cases hf : opL.find? fun p => decide (ps.getD 0 [] = p.2) with
    | none => rw [hf] at ho; cases ho
    | some p => rw [hf] at ho; cases ho; exact (op_look p (List.mem_of_find?_eq_some hf)).1
  split at h
  · cases h
  split at h
  · cases h
  split at h
  · cases h
  split at h
  · cases h
  split at h
  · cases h
  split at h
  · cases h
  split at h
  · cases h
  split at h
  · cases h; exact hop
  · cases h
theorem parsed33 (s : BL) (w : World) (hL : Lib33 w) (hs : s.length ≤ 100000) :
    Calls Tryz.prog 40 #[.string (bsOf s)] w fun e w' => e = parsedE (cutAt 32 s) ∧ Below w.heap.size w w' := parsed33_of s _ rfl w hL hs
theorem run_use3 (W : World) (a b c d : Bool) : (Instr.field 70 (.agg #[.bool a, .bool b, .bool c, .bool d]) 3).run Tryz.prog W = .ok (.bool d) W := by
  simp [Instr.field, asAgg, run_underlying Tryz.underlying70, part, go_sem, Tryz.sizeOf4, Tryz.isAgg4]
def DoPost (r : Option GIns) (xb : Nat) (w : World) (e : Ending) (w' : World) : Prop :=
  match r with
  | some x => e = .returned (.tuple #[]) ∧ w'.heap[xb]? = some (.cells (insA x) 24 (0, 0)) ∧ KB (fun k => k = xb) w w'
  | none => e = wrongE ∧ Below w.heap.size w w'
set_option maxHeartbeats 4000000 in
set_option maxRecDepth 100000 in
theorem doIns33 (s : BL) (sb xb : Nat) (w : World) (hL : Lib33 w) (hs : s.length ≤ 100000) (hsb : w.cell? ⟨sb, 0, none⟩ = some (.string (bsOf s))) (hxb : w.heap[xb]? = some (.cells (insA ins0) 24 (0, 0))) :
    Calls Tryz.prog 39 #[.pointer (some ⟨sb, 0, none⟩), .pointer (some ⟨xb, 0, none⟩)] w (DoPost (readInsnL s) xb w) := by
  have HL := Lib.hid hL
  clear hL
  have HP := Lib.hid (parsed33 s w HL.out hs)
  have hcl := (cutAt_len 32 s).2
  unfold parsedE at HP
  cases hp : parsedW (cutAt 32 s) with
  | none =>
    have HE : Hid (readInsnL s = none) := Lib.hid (by unfold readInsnL; rw [hp])
    rw [hp] at HP
    unfold wrongE wrongV at HP
    simp only [] at HP
    clear hp hcl
    go_enter Tryz.func39, Tryz.ntmps39
    go_wp2_with fail
    refine HP.out.mono ?_
    rintro e w2 ⟨rfl, hB⟩
    go_wp2
    exact ⟨rfl, by rw [HE.out]; exact ⟨rfl, hB⟩⟩
  | some q =>
    obtain ⟨⟨op, d, a, b, im⟩, imm⟩ := q
    rw [hp] at HP
    simp only [] at HP
    unfold insV at HP
    simp only [] at HP
    have hop := parsedW_op hp
    have hil : imm.length ≤ s.length + 2 := parsedW_imm hp (fun p h => by have := hcl p h; omega) (by omega)
    simp only [] at hop
    have hX0 := hxb
    have hrf := run_use3
    have HU := Lib.hid (fun W => uses33 op W hop.1 hop.2)
    unfold usesV at HU
    go_enter Tryz.func39, Tryz.ntmps39
    go_wp2_with fail
    refine HP.out.mono ?_
    rintro e w2 ⟨rfl, hB2⟩
    have hk : Below w.heap.size w (w2.alloc (.cells #[.int .u8 op, .int .u8 d, .int .u8 a, .int .u8 b, .int .u32 im] 24)) := hB2.alloc hB2.size _
    have hY : (w2.alloc (.cells #[.int .u8 op, .int .u8 d, .int .u8 a, .int .u8 b, .int .u32 im] 24)).heap[w2.heap.size]? = some (.cells #[.int .u8 op, .int .u8 d, .int .u8 a, .int .u8 b, .int .u32 im] 24 (0, 0)) := new_block w2 _
    have hyx : xb < w2.heap.size := by have := (Array.getElem?_eq_some_iff.1 hxb).1; have := hB2.size; omega
    go_upto_region 1 with fail
    generalize (w2.alloc (.cells #[.int .u8 op, .int .u8 d, .int .u8 a, .int .u8 b, .int .u32 im] 24)) = w3 at *
    obtain ⟨yb, hyb⟩ : ∃ yb, yb = w2.heap.size := ⟨_, rfl⟩
    rw [← hyb] at hY hyx ⊢
    have hyg : w.heap.size ≤ yb := by rw [hyb]; exact hB2.size
    have q0 : w3.cell? ⟨yb, 0, none⟩ = some (.int .u8 op) := Lib.cell_of_heap hY 0
    have hX3 := (hk.block xb (Array.getElem?_eq_some_iff.1 hxb).1).trans hxb
    have hyl := (Array.getElem?_eq_some_iff.1 hY).1
    have hxl := (Array.getElem?_eq_some_iff.1 hX3).1
    clear hyb hcl hxb hX0 HP hB2 hsb
    go_wp2_with fail
    refine (HU.out _).mono ?_
    rintro e w4 ⟨rfl, hB4⟩
    have hY4 := (hB4.block yb hyl).trans hY
    have hXn := (hB4.block xb hxl).trans hX3
    have hK4 : KB (fun k => k = xb) w w4 := (KB.of_below hk).trans (KB.of_below hB4)
    have hk4 : Below w.heap.size w w4 := hk.trans (hB4.mono hk.size)
    clear q0 hY hX3 hyl hxl hB4 hk HU
    cases h8 : bitOf (useOf op) 8 with
    | false =>
      have HE : Hid (readInsnL s = some ⟨op, d, a, b, im⟩) := Lib.hid (by unfold readInsnL; rw [hp]; simp only []; rw [if_neg (by rw [h8]; simp)])
      clear hp h8
      have z0 : w4.cell? ⟨yb, 0, none⟩ = some (.int .u8 op) := Lib.cell_of_heap hY4 0
      have z1 : w4.cell? ⟨yb, 1, none⟩ = some (.int .u8 d) := Lib.cell_of_heap hY4 1
      have z2 : w4.cell? ⟨yb, 2, none⟩ = some (.int .u8 a) := Lib.cell_of_heap hY4 2
      have z3 : w4.cell? ⟨yb, 3, none⟩ = some (.int .u8 b) := Lib.cell_of_heap hY4 3
      have z4 : w4.cell? ⟨yb, 4, none⟩ = some (.int .u32 im) := Lib.cell_of_heap hY4 4
      have x0 : w4.cell? ⟨xb, 0, none⟩ = some (.int .u8 0) := Lib.cell_of_heap hXn 0
      have f0 := Lib.frozen_of_heap hXn 0
      have x1 : w4.cell? ⟨xb, 1, none⟩ = some (.int .u8 0) := Lib.cell_of_heap hXn 1
      have f1 := Lib.frozen_of_heap hXn 1
      have x2 : w4.cell? ⟨xb, 2, none⟩ = some (.int .u8 0) := Lib.cell_of_heap hXn 2
      have f2 := Lib.frozen_of_heap hXn 2
      have x3 : w4.cell? ⟨xb, 3, none⟩ = some (.int .u8 0) := Lib.cell_of_heap hXn 3
      have f3 := Lib.frozen_of_heap hXn 3
      have x4 : w4.cell? ⟨xb, 4, none⟩ = some (.int .u32 0) := Lib.cell_of_heap hXn 4
      have f4 := Lib.frozen_of_heap hXn 4
      have HO : Hid ((((((w4.setCell ⟨xb, 0, none⟩ (.int .u8 op)).setCell ⟨xb, 1, none⟩ (.int .u8 d)).setCell ⟨xb, 2, none⟩ (.int .u8 a)).setCell ⟨xb, 3, none⟩ (.int .u8 b)).setCell ⟨xb, 4, none⟩ (.int .u32 im)).heap[xb]? = some (.cells #[.int .u8 op, .int .u8 d, .int .u8 a, .int .u8 b, .int .u32 im] 24 (0, 0)) ∧ KB (fun k => k = xb) w (((((w4.setCell ⟨xb, 0, none⟩ (.int .u8 op)).setCell ⟨xb, 1, none⟩ (.int .u8 d)).setCell ⟨xb, 2, none⟩ (.int .u8 a)).setCell ⟨xb, 3, none⟩ (.int .u8 b)).setCell ⟨xb, 4, none⟩ (.int .u32 im))) := Lib.hid ⟨set33 (set33 (set33 (set33 (set33 hXn 0 _) 1 _) 2 _) 3 _) 4 _, ((((hK4.setCell (p := ⟨xb, 0, none⟩) (.inl rfl) _).setCell (p := ⟨xb, 1, none⟩) (.inl rfl) _).setCell (p := ⟨xb, 2, none⟩) (.inl rfl) _).setCell (p := ⟨xb, 3, none⟩) (.inl rfl) _).setCell (p := ⟨xb, 4, none⟩) (.inl rfl) _⟩
      clear hXn hY4
      go_wp2
      go_end0
      exact by rw [HE.out]; exact ⟨rfl, HO.out.1, HO.out.2⟩
    | true =>
      have HN := Lib.hid (number33 imm w4 (HL.out.keep hk4) (by omega))
      unfold numE at HN
      have HHP := Lib.hid hp
      have H8 := Lib.hid h8
      clear hp h8
      cases hn : numL imm with
      | none =>
        have HE : Hid (readInsnL s = none) := Lib.hid (by unfold readInsnL; rw [HHP.out]; simp only []; rw [if_pos H8.out, hn])
        rw [hn] at HN
        unfold wrongE wrongV at HN
        simp only [] at HN
        clear hn
        go_wp2_with fail
        refine HN.out.mono ?_
        rintro e w5 ⟨rfl, hB⟩
        go_wp2
        exact ⟨rfl, by rw [HE.out]; exact ⟨rfl, hk4.trans (hB.mono hk4.size)⟩⟩
      | some v =>
        have HE : Hid (readInsnL s = some ⟨op, d, a, b, (v : Int)⟩) := Lib.hid (by unfold readInsnL; rw [HHP.out]; simp only []; rw [if_pos H8.out, hn])
        rw [hn] at HN
        simp only [] at HN
        clear hn
        go_wp2_with fail
        refine HN.out.mono ?_
        rintro e w5 ⟨rfl, hB5⟩
        have hY5 := (hB5.block yb (Array.getElem?_eq_some_iff.1 hY4).1).trans hY4
        have hX5 := (hB5.block xb (Array.getElem?_eq_some_iff.1 hXn).1).trans hXn
        have z4 : w5.cell? ⟨yb, 4, none⟩ = some (.int .u32 im) := Lib.cell_of_heap hY5 4
        have f4 := Lib.frozen_of_heap hY5 4
        have hK5 : KB (fun k => k = xb) w (w5.setCell ⟨yb, 4, none⟩ (.int .u32 (v : Int))) := (hK4.trans (KB.of_below hB5)).setCell (p := ⟨yb, 4, none⟩) (.inr hyg) _
        have hY6 : (w5.setCell ⟨yb, 4, none⟩ (.int .u32 (v : Int))).heap[yb]? = some (.cells #[.int .u8 op, .int .u8 d, .int .u8 a, .int .u8 b, .int .u32 (v : Int)] 24 (0, 0)) := set33 hY5 4 _
        replace hXn : (w5.setCell ⟨yb, 4, none⟩ (.int .u32 (v : Int))).heap[xb]? = some (.cells (insA ins0) 24 (0, 0)) := (Below.heap_setCell _ _ _ _ (by simp; omega)).trans hX5
        go_upto_region 3 with fail
        generalize (w5.setCell ⟨yb, 4, none⟩ (.int .u32 (v : Int))) = w6 at *
        clear z4 f4 hY5 hX5 hY4 hB5 hK4 hk4 HN
        have z0 : w6.cell? ⟨yb, 0, none⟩ = some (.int .u8 op) := Lib.cell_of_heap hY6 0
        have z1 : w6.cell? ⟨yb, 1, none⟩ = some (.int .u8 d) := Lib.cell_of_heap hY6 1
        have z2 : w6.cell? ⟨yb, 2, none⟩ = some (.int .u8 a) := Lib.cell_of_heap hY6 2
        have z3 : w6.cell? ⟨yb, 3, none⟩ = some (.int .u8 b) := Lib.cell_of_heap hY6 3
        have z4 : w6.cell? ⟨yb, 4, none⟩ = some (.int .u32 (v : Int)) := Lib.cell_of_heap hY6 4
        have x0 : w6.cell? ⟨xb, 0, none⟩ = some (.int .u8 0) := Lib.cell_of_heap hXn 0
        have f0 := Lib.frozen_of_heap hXn 0
        have x1 : w6.cell? ⟨xb, 1, none⟩ = some (.int .u8 0) := Lib.cell_of_heap hXn 1
        have f1 := Lib.frozen_of_heap hXn 1
        have x2 : w6.cell? ⟨xb, 2, none⟩ = some (.int .u8 0) := Lib.cell_of_heap hXn 2
        have f2 := Lib.frozen_of_heap hXn 2
        have x3 : w6.cell? ⟨xb, 3, none⟩ = some (.int .u8 0) := Lib.cell_of_heap hXn 3
        have f3 := Lib.frozen_of_heap hXn 3
        have x4 : w6.cell? ⟨xb, 4, none⟩ = some (.int .u32 0) := Lib.cell_of_heap hXn 4
        have f4 := Lib.frozen_of_heap hXn 4
        have HO : Hid ((((((w6.setCell ⟨xb, 0, none⟩ (.int .u8 op)).setCell ⟨xb, 1, none⟩ (.int .u8 d)).setCell ⟨xb, 2, none⟩ (.int .u8 a)).setCell ⟨xb, 3, none⟩ (.int .u8 b)).setCell ⟨xb, 4, none⟩ (.int .u32 (v : Int))).heap[xb]? = some (.cells #[.int .u8 op, .int .u8 d, .int .u8 a, .int .u8 b, .int .u32 (v : Int)] 24 (0, 0)) ∧ KB (fun k => k = xb) w (((((w6.setCell ⟨xb, 0, none⟩ (.int .u8 op)).setCell ⟨xb, 1, none⟩ (.int .u8 d)).setCell ⟨xb, 2, none⟩ (.int .u8 a)).setCell ⟨xb, 3, none⟩ (.int .u8 b)).setCell ⟨xb, 4, none⟩ (.int .u32 (v : Int)))) := Lib.hid ⟨set33 (set33 (set33 (set33 (set33 hXn 0 _) 1 _) 2 _) 3 _) 4 _, ((((hK5.setCell (p := ⟨xb, 0, none⟩) (.inl rfl) _).setCell (p := ⟨xb, 1, none⟩) (.inl rfl) _).setCell (p := ⟨xb, 2, none⟩) (.inl rfl) _).setCell (p := ⟨xb, 3, none⟩) (.inl rfl) _).setCell (p := ⟨xb, 4, none⟩) (.inl rfl) _⟩
        clear hXn hY6
        go_wp2
        go_end0
        exact by rw [HE.out]; exact ⟨rfl, HO.out.1, HO.out.2⟩
end Go.Proofs.YtoonkfhphbojcaaGreatDoor
namespace Go.Proofs.YtoonkfhphbojcaaGreatDoor
open Go.RowKit Go.Maps
def readInsnV (r : Option GIns) : Value := match r with
  | some x => .tuple #[insV x, .int .i64 0]
  | none => .tuple #[insV ins0, .int .i64 7]
set_option maxHeartbeats 4000000 in
set_option maxRecDepth 100000 in
theorem readInsn33 (s : BL) (w : World) (hL : Lib33 w) (hs : s.length ≤ 100000) :
    Calls Tryz.prog 10 #[.string (bsOf s)] w fun e w' => e = .returned (readInsnV (readInsnL s)) ∧ Below w.heap.size w w' := by
  have HB2 : Below w.heap.size w ((w.alloc (.cells #[.string (bsOf s)] 9)).alloc (.cells (insA ins0) 24)) := (alloc_old w _).alloc (by simp) _
  have hX2 : ((w.alloc (.cells #[.string (bsOf s)] 9)).alloc (.cells (insA ins0) 24)).heap[w.heap.size + 1]? = some (.cells (insA ins0) 24 (0, 0)) := by
    have := new_block (w.alloc (.cells #[.string (bsOf s)] 9)) (.cells (insA ins0) 24)
    simpa using this
  have hS2 : ((w.alloc (.cells #[.string (bsOf s)] 9)).alloc (.cells (insA ins0) 24)).heap[w.heap.size]? = some (.cells #[.string (bsOf s)] 9 (0, 0)) := (Below.heap_alloc _ _ _ (by simp)).trans (new_block w _)
  have hmf : ∀ (fn : Fn) (first cap : Array Value) (w : World), (Instr.makeFunc fn first cap).run Tryz.prog w = .ok (.func fn first cap) w := fun _ _ _ _ => rfl
  have hbd : ∀ W, (Instr.build 24 #[]).run Tryz.prog W = .ok (.agg #[.int .u8 0, .int .u8 0, .int .u8 0, .int .u8 0, .int .u32 0]) W := fun W => run_build W 24 #[] #[.int .u8 0, .int .u8 0, .int .u8 0, .int .u8 0, .int .u32 0] (by kernel_rfl)
  have HL := Lib.hid hL
  clear hL
  go_enter Tryz.func10, Tryz.ntmps10
  go_upto_region 1 with fail
  change Code.wp _ _ _ _ ((w.alloc (.cells #[.string (bsOf s)] 9)).alloc (.cells (insA ins0) 24))
  generalize ((w.alloc (.cells #[.string (bsOf s)] 9)).alloc (.cells (insA ins0) 24)) = w2 at *
  obtain ⟨xb, hxb⟩ : ∃ xb, xb = w.heap.size + 1 := ⟨_, rfl⟩
  rw [← hxb] at hX2 ⊢
  have hx2 := (Array.getElem?_eq_some_iff.1 hX2).1
  have hbb := new_block w2 (.cells #[.bool false] 4)
  have HB3 : Below w.heap.size w (w2.alloc (.cells #[.bool false] 4)) := HB2.alloc HB2.size _
  have hX3 : (w2.alloc (.cells #[.bool false] 4)).heap[xb]? = some (.cells (insA ins0) 24 (0, 0)) := (Below.heap_alloc _ _ _ hx2).trans hX2
  have hS3 : (w2.alloc (.cells #[.bool false] 4)).heap[w.heap.size]? = some (.cells #[.string (bsOf s)] 9 (0, 0)) := (Below.heap_alloc _ _ _ (Array.getElem?_eq_some_iff.1 hS2).1).trans hS2
  have HD := doIns33 s w.heap.size xb (w2.alloc (.cells #[.bool false] 4)) (HL.out.keep HB3) hs (Lib.cell_of_heap hS3 0) hX3
  have HC := Lib.hid (caught33 39 #[.pointer (some ⟨w.heap.size, 0, none⟩), .pointer (some ⟨xb, 0, none⟩)]
    (fun w' => ∃ x, readInsnL s = some x ∧ w'.heap[xb]? = some (.cells (insA x) 24 (0, 0)) ∧ KB (fun k => k = xb) (w2.alloc (.cells #[.bool false] 4)) w')
    (fun w' => readInsnL s = none ∧ Below (w2.alloc (.cells #[.bool false] 4)).heap.size (w2.alloc (.cells #[.bool false] 4)) w') w2
    (fun args W => run_call_go Tryz.func39 (by kernel_rfl) (by kernel_rfl) args)
    (HD.mono fun e w' h => by
      unfold DoPost at h
      cases hr : readInsnL s with
      | some x => rw [hr] at h; exact .inl ⟨h.1, x, rfl, h.2.1, h.2.2⟩
      | none => rw [hr] at h; exact .inr ⟨h.1, rfl, h.2⟩)
    (fun w' ⟨x, _, _, hk⟩ => (hk.block w2.heap.size (by simp) (by omega)).trans hbb)
    (fun w' ⟨_, hk⟩ => (hk.block w2.heap.size (by simp)).trans hbb))
  unfold CaughtPost at HC
  have HXB := Lib.hid hxb
  have HX3 := Lib.hid hX3
  clear HD hX3 hS3 hbb hS2 hX2 hxb
  go_wp2_with fail
  refine HC.out.mono ?_
  rintro e w5 (⟨rfl, w4, ⟨x, hr, hX4, hk4⟩, rfl⟩ | ⟨rfl, w4, ⟨hr, hk4⟩, rfl⟩)
  · have hx5 : (w4.setCell ⟨w2.heap.size, 0, none⟩ (.bool false)).heap[xb]? = some (.cells (insA x) 24 (0, 0)) := (Below.heap_setCell _ _ _ _ (by simp; omega)).trans hX4
    have HB5 : Hid (Below w.heap.size w (w4.setCell ⟨w2.heap.size, 0, none⟩ (.bool false))) := Lib.hid ((HB3.trans (hk4.below HB3.size (fun k hk e => by have := HXB.out; omega))).setCell (p := ⟨w2.heap.size, 0, none⟩) HB2.size _)
    have HR := Lib.hid hr
    generalize (w4.setCell ⟨w2.heap.size, 0, none⟩ (.bool false)) = w6 at *
    obtain ⟨op, d, a, b, im⟩ := x
    clear hX4 hk4 hr HC HB3 hx2
    have z0 : w6.cell? ⟨xb, 0, none⟩ = some (.int .u8 op) := Lib.cell_of_heap hx5 0
    have f0 := Lib.frozen_of_heap hx5 0
    have z1 : w6.cell? ⟨xb, 1, none⟩ = some (.int .u8 d) := Lib.cell_of_heap hx5 1
    have f1 := Lib.frozen_of_heap hx5 1
    have z2 : w6.cell? ⟨xb, 2, none⟩ = some (.int .u8 a) := Lib.cell_of_heap hx5 2
    have f2 := Lib.frozen_of_heap hx5 2
    have z3 : w6.cell? ⟨xb, 3, none⟩ = some (.int .u8 b) := Lib.cell_of_heap hx5 3
    have f3 := Lib.frozen_of_heap hx5 3
    have z4 : w6.cell? ⟨xb, 4, none⟩ = some (.int .u32 im) := Lib.cell_of_heap hx5 4
    have f4 := Lib.frozen_of_heap hx5 4
    go_wp2
    have hx7 : (((((w6.setCell ⟨xb, 0, none⟩ (.int .u8 op)).setCell ⟨xb, 1, none⟩ (.int .u8 d)).setCell ⟨xb, 2, none⟩ (.int .u8 a)).setCell ⟨xb, 3, none⟩ (.int .u8 b)).setCell ⟨xb, 4, none⟩ (.int .u32 im)).heap[xb]? = some (.cells #[.int .u8 op, .int .u8 d, .int .u8 a, .int .u8 b, .int .u32 im] 24 (0, 0)) := set33 (set33 (set33 (set33 (set33 hx5 0 _) 1 _) 2 _) 3 _) 4 _
    have HB7 : Below w.heap.size w (((((w6.setCell ⟨xb, 0, none⟩ (.int .u8 op)).setCell ⟨xb, 1, none⟩ (.int .u8 d)).setCell ⟨xb, 2, none⟩ (.int .u8 a)).setCell ⟨xb, 3, none⟩ (.int .u8 b)).setCell ⟨xb, 4, none⟩ (.int .u32 im)) := ((((HB5.out.setCell (p := ⟨xb, 0, none⟩) (by have := HXB.out; simp; omega) _).setCell (p := ⟨xb, 1, none⟩) (by have := HXB.out; simp; omega) _).setCell (p := ⟨xb, 2, none⟩) (by have := HXB.out; simp; omega) _).setCell (p := ⟨xb, 3, none⟩) (by have := HXB.out; simp; omega) _).setCell (p := ⟨xb, 4, none⟩) (by have := HXB.out; simp; omega) _
    clear z0 z1 z2 z3 z4 f0 f1 f2 f3 f4 hx5
    generalize (((((w6.setCell ⟨xb, 0, none⟩ (.int .u8 op)).setCell ⟨xb, 1, none⟩ (.int .u8 d)).setCell ⟨xb, 2, none⟩ (.int .u8 a)).setCell ⟨xb, 3, none⟩ (.int .u8 b)).setCell ⟨xb, 4, none⟩ (.int .u32 im)) = w7 at *
    have z0 : w7.cell? ⟨xb, 0, none⟩ = some (.int .u8 op) := Lib.cell_of_heap hx7 0
    have z1 : w7.cell? ⟨xb, 1, none⟩ = some (.int .u8 d) := Lib.cell_of_heap hx7 1
    have z2 : w7.cell? ⟨xb, 2, none⟩ = some (.int .u8 a) := Lib.cell_of_heap hx7 2
    have z3 : w7.cell? ⟨xb, 3, none⟩ = some (.int .u8 b) := Lib.cell_of_heap hx7 3
    have z4 : w7.cell? ⟨xb, 4, none⟩ = some (.int .u32 im) := Lib.cell_of_heap hx7 4
    exact bodyPost_ret (v := .tuple #[.agg #[.int .u8 op, .int .u8 d, .int .u8 a, .int .u8 b, .int .u32 im], .int .i64 0]) (by simp [results, Tryz.results10, go_sem, z0, z1, z2, z3, z4]) rfl ⟨by rw [HR.out]; rfl, HB7⟩
  · have hx5 : (w4.setCell ⟨w2.heap.size, 0, none⟩ (.bool true)).heap[xb]? = some (.cells (insA ins0) 24 (0, 0)) := (Below.heap_setCell _ _ _ _ (by simp; omega)).trans ((hk4.block xb (by simp; omega)).trans HX3.out)
    have HB5 : Hid (Below w.heap.size w (w4.setCell ⟨w2.heap.size, 0, none⟩ (.bool true))) := Lib.hid ((HB3.trans (hk4.mono HB3.size)).setCell (p := ⟨w2.heap.size, 0, none⟩) HB2.size _)
    have HR := Lib.hid hr
    generalize (w4.setCell ⟨w2.heap.size, 0, none⟩ (.bool true)) = w6 at *
    clear hk4 hr HC HB3 hx2
    have z0 : w6.cell? ⟨xb, 0, none⟩ = some (.int .u8 0) := Lib.cell_of_heap hx5 0
    have f0 := Lib.frozen_of_heap hx5 0
    have z1 : w6.cell? ⟨xb, 1, none⟩ = some (.int .u8 0) := Lib.cell_of_heap hx5 1
    have f1 := Lib.frozen_of_heap hx5 1
    have z2 : w6.cell? ⟨xb, 2, none⟩ = some (.int .u8 0) := Lib.cell_of_heap hx5 2
    have f2 := Lib.frozen_of_heap hx5 2
    have z3 : w6.cell? ⟨xb, 3, none⟩ = some (.int .u8 0) := Lib.cell_of_heap hx5 3
    have f3 := Lib.frozen_of_heap hx5 3
    have z4 : w6.cell? ⟨xb, 4, none⟩ = some (.int .u32 0) := Lib.cell_of_heap hx5 4
    have f4 := Lib.frozen_of_heap hx5 4
    go_wp2
    have hx7 : (((((w6.setCell ⟨xb, 0, none⟩ (.int .u8 0)).setCell ⟨xb, 1, none⟩ (.int .u8 0)).setCell ⟨xb, 2, none⟩ (.int .u8 0)).setCell ⟨xb, 3, none⟩ (.int .u8 0)).setCell ⟨xb, 4, none⟩ (.int .u32 0)).heap[xb]? = some (.cells #[.int .u8 0, .int .u8 0, .int .u8 0, .int .u8 0, .int .u32 0] 24 (0, 0)) := set33 (set33 (set33 (set33 (set33 hx5 0 _) 1 _) 2 _) 3 _) 4 _
    have HB7 : Below w.heap.size w (((((w6.setCell ⟨xb, 0, none⟩ (.int .u8 0)).setCell ⟨xb, 1, none⟩ (.int .u8 0)).setCell ⟨xb, 2, none⟩ (.int .u8 0)).setCell ⟨xb, 3, none⟩ (.int .u8 0)).setCell ⟨xb, 4, none⟩ (.int .u32 0)) := ((((HB5.out.setCell (p := ⟨xb, 0, none⟩) (by have := HXB.out; simp; omega) _).setCell (p := ⟨xb, 1, none⟩) (by have := HXB.out; simp; omega) _).setCell (p := ⟨xb, 2, none⟩) (by have := HXB.out; simp; omega) _).setCell (p := ⟨xb, 3, none⟩) (by have := HXB.out; simp; omega) _).setCell (p := ⟨xb, 4, none⟩) (by have := HXB.out; simp; omega) _
    clear z0 z1 z2 z3 z4 f0 f1 f2 f3 f4 hx5
    generalize (((((w6.setCell ⟨xb, 0, none⟩ (.int .u8 0)).setCell ⟨xb, 1, none⟩ (.int .u8 0)).setCell ⟨xb, 2, none⟩ (.int .u8 0)).setCell ⟨xb, 3, none⟩ (.int .u8 0)).setCell ⟨xb, 4, none⟩ (.int .u32 0)) = w7 at *
    have z0 : w7.cell? ⟨xb, 0, none⟩ = some (.int .u8 0) := Lib.cell_of_heap hx7 0
    have z1 : w7.cell? ⟨xb, 1, none⟩ = some (.int .u8 0) := Lib.cell_of_heap hx7 1
    have z2 : w7.cell? ⟨xb, 2, none⟩ = some (.int .u8 0) := Lib.cell_of_heap hx7 2
    have z3 : w7.cell? ⟨xb, 3, none⟩ = some (.int .u8 0) := Lib.cell_of_heap hx7 3
    have z4 : w7.cell? ⟨xb, 4, none⟩ = some (.int .u32 0) := Lib.cell_of_heap hx7 4
    exact bodyPost_ret (v := .tuple #[.agg #[.int .u8 0, .int .u8 0, .int .u8 0, .int .u8 0, .int .u32 0], .int .i64 7]) (by simp [results, Tryz.results10, go_sem, z0, z1, z2, z3, z4]) rfl ⟨by rw [HR.out]; rfl, HB7⟩
end Go.Proofs.YtoonkfhphbojcaaGreatDoor
namespace Go.Proofs.YtoonkfhphbojcaaGreatDoor
open Go.RowKit Go.Maps
set_option maxHeartbeats 1000000 in
set_option maxRecDepth 100000 in
theorem string_fresh (b : Nat) (w : World) (hbk : w.heap[b]? = some (.cells #[.pointer none, .slice none 0 0] 83 (0, 0))) :
    Calls Tryz.prog 48 #[.pointer (some ⟨b, 0, none⟩)] w fun e w' => e = .returned (.string ⟨#[]⟩) ∧ Below w.heap.size w w' := by
  have c1 : w.drew.cell? ⟨b, 1, none⟩ = some (.slice none 0 0) := by
    have : w.drew.heap[b]? = some (.cells #[.pointer none, .slice none 0 0] 83 (0, 0)) := hbk
    rw [Lib.cell_of_heap this]; rfl
  have hSD : (Builtin.unsafeSliceData_ #[79] 158 #[.slice none 0 0]).run Tryz.prog w.drew = .ok (.pointer none) w.drew := rfl
  have hUS : (Builtin.unsafeString_ #[158, 3] 9 #[.pointer none, .int .i64 0]).run Tryz.prog w.drew = .ok (.string ⟨#[]⟩) w.drew := by
    kernel_rfl
  clear hbk
  go_enter Tryz.func48, Tryz.ntmps48
  go_wp2
  go_region
  all_goals (go_wp2; go_ret; exact ⟨rfl, below_drewN (Below.refl _ _) 1⟩)
theorem insOfB33 (s : BL) : InsB (insOf s) := by
  unfold insOf decI
  split
  · exact rawB
  · unfold InsB ins0; simp
theorem decI_ok {s : BL} {x : GIns} (h : decI s = some x) : insOk x = true ∧ InsB x := by
  have hb := insOfB33 s
  unfold insOf at hb
  rw [h] at hb
  refine ⟨?_, hb⟩
  unfold decI at h
  split at h
  · rename_i hc; cases h; exact hc.2.2
  · cases h
theorem ext_take (r : BL) (n : Nat) : (bsOf r).extract 0 n = bsOf (r.take n) := by
  have h := Lib.extract_data (bsOf r) 0 n
  rw [bsOf_list, List.drop_zero, Nat.sub_zero] at h
  rw [← h]; rfl
theorem ext_drop (r : BL) (n : Nat) : (bsOf r).extract n r.length = bsOf (r.drop n) := by
  have h := Lib.extract_data (bsOf r) n r.length
  rw [bsOf_list, List.take_of_length_le (by simp)] at h
  rw [← h]; rfl
theorem toldL_len {x : GIns} {imm : BL} (h : InsB x) : (toldL x imm).length ≤ 200 + imm.length := by
  obtain ⟨-, ⟨d0, d1⟩, ⟨a0, a1⟩, ⟨b0, b1⟩, -⟩ := h
  have h1 := nameL_len x.op
  have h2 := (decD_len (u := x.d.toNat) (by omega)).2
  have h3 := (decD_len (u := x.a.toNat) (by omega)).2
  have h4 := (decD_len (u := x.b.toNat) (by omega)).2
  unfold toldL
  have e1 := tell_len (((nameL x.op ++ if bitOf (useOf x.op) 1 then 32 :: 114 :: decD x.d.toNat else []) ++ if bitOf (useOf x.op) 2 then 32 :: 114 :: decD x.a.toNat else []) ++ if bitOf (useOf x.op) 4 then 32 :: 114 :: decD x.b.toNat else []) imm (bitOf (useOf x.op) 8)
  have e2 := tell_len ((nameL x.op ++ if bitOf (useOf x.op) 1 then 32 :: 114 :: decD x.d.toNat else []) ++ if bitOf (useOf x.op) 2 then 32 :: 114 :: decD x.a.toNat else []) (114 :: decD x.b.toNat) (bitOf (useOf x.op) 4)
  have e3 := tell_len (nameL x.op ++ if bitOf (useOf x.op) 1 then 32 :: 114 :: decD x.d.toNat else []) (114 :: decD x.a.toNat) (bitOf (useOf x.op) 2)
  have e4 := tell_len (nameL x.op) (114 :: decD x.d.toNat) (bitOf (useOf x.op) 1)
  simp only [List.length_cons] at e1 e2 e3 e4
  omega
/-- a line of what is told: an address, an instruction or bytes -/
def codeLn (at0 : Int) (c : BL) : BL := (decD at0.toNat ++ 32 :: (match decI c with
  | some x => toldL x (decD x.imm.toNat)
  | none => 120 :: c.flatMap hexB)) ++ [10]
def codeL : Nat → Int → BL → BL
  | 0, _, _ => []
  | n + 1, at0, b => if b = [] then [] else codeLn at0 (b.take 8) ++ codeL n ((at0 + 8) % 4294967296) (b.drop 8)
theorem codeL_fuel : ∀ (n m : Nat) (at0 : Int) (b : BL), b.length ≤ n → b.length ≤ m → codeL n at0 b = codeL m at0 b
  | 0, m, at0, b, h, _ => by
    have : b = [] := List.eq_nil_of_length_eq_zero (by omega)
    subst this
    cases m <;> simp [codeL]
  | n + 1, 0, at0, b, _, h => by
    have : b = [] := List.eq_nil_of_length_eq_zero (by omega)
    subst this
    simp [codeL]
  | n + 1, m + 1, at0, b, h1, h2 => by
    unfold codeL
    by_cases hb : b = []
    · rw [if_pos hb, if_pos hb]
    · have hl : 0 < b.length := List.length_pos_iff.2 hb
      rw [if_neg hb, if_neg hb, codeL_fuel n m _ (b.drop 8) (by simp; omega) (by simp; omega)]
def codeOf (at0 : Int) (b : BL) : BL := codeL b.length at0 b
theorem codeOf_nil (at0 : Int) : codeOf at0 [] = [] := rfl
theorem codeOf_next (at0 : Int) (b : BL) (h : b ≠ []) : codeOf at0 b = codeLn at0 (b.take 8) ++ codeOf ((at0 + 8) % 4294967296) (b.drop 8) := by
  have hl : 0 < b.length := List.length_pos_iff.2 h
  obtain ⟨n, hn⟩ : ∃ n, b.length = n + 1 := ⟨b.length - 1, by omega⟩
  unfold codeOf
  rw [hn, codeL, if_neg h, codeL_fuel n (b.drop 8).length _ _ (by simp; omega) (Nat.le_refl _)]
end Go.Proofs.YtoonkfhphbojcaaGreatDoor
namespace Go.Proofs.YtoonkfhphbojcaaGreatDoor
open Go.RowKit Go.Maps
structure CodeSt (w0 : World) (l : BL) (w : World) : Prop where
  wr : IsWr w0.heap.size w0.heap.size l w
  bel : Below w0.heap.size w0 w
  nil : l = [] → w.heap[w0.heap.size]? = some (.cells #[.pointer none, .slice none 0 0] 83 (0, 0))
theorem CodeSt.lt {w0 : World} {l : BL} {w : World} (h : CodeSt w0 l w) : w0.heap.size < w.heap.size := h.wr.lt
theorem CodeSt.keep {w0 : World} {l : BL} {w w' : World} (h : CodeSt w0 l w) (hb : Below w.heap.size w w') : CodeSt w0 l w' :=
  ⟨h.wr.keep hb, h.bel.trans (hb.mono h.bel.size), fun e => (hb.block _ h.lt).trans (h.nil e)⟩
theorem CodeSt.drew {w0 : World} {l : BL} {w : World} (h : CodeSt w0 l w) : CodeSt w0 l w.drew := h.keep (below_drewN (Below.refl _ _) 1)
theorem CodeSt.lib {w0 : World} {l : BL} {w : World} (h : CodeSt w0 l w) (hL : Lib33 w0) : Lib33 w := hL.keep h.bel
theorem CodeSt.post {w0 : World} {l l' : BL} {w w' : World} (h : CodeSt w0 l w) (hn : l' ≠ []) (hp : WPost w0.heap.size w0.heap.size l' w w') : CodeSt w0 l' w' :=
  ⟨hp.1, h.bel.trans hp.2.1, fun e => absurd e hn⟩
set_option maxHeartbeats 8000000 in
set_option maxRecDepth 100000 in
theorem dCode33 (at0 : Int) (b : BL) (w : World) (hL : Lib33 w) (h0 : 0 ≤ at0) (h1 : at0 ≤ 4294967295) (hb : b.length ≤ 100000) :
    Calls Tryz.prog 12 #[.int .u32 at0, .string (bsOf b)] w fun e w' => e = .returned (.string (bsOf (codeOf at0 b))) ∧ Below w.heap.size w w' := by
  have HL := Lib.hid hL
  clear hL
  have HC0 : Hid (CodeSt w [] (w.alloc (.cells #[.pointer none, .slice none 0 0] 83))) := Lib.hid ⟨Lib.fresh_isBuilder _ _ w, alloc_old w _, fun _ => new_block w _⟩
  go_enter Tryz.func12, Tryz.ntmps12
  go_upto_region 1 with fail
  go_wp2_with fail
  go_loopw [0, 1] (fun v0 v1 wr => ∃ (a : Int) (r l : BL), v0 = .int .u32 a ∧ v1 = .string (bsOf r) ∧ 0 ≤ a ∧ a ≤ 4294967295 ∧ codeOf at0 b = l ++ codeOf a r ∧ l.length + 400 * r.length ≤ 100000000 ∧ r.length ≤ 100000 ∧ CodeSt w l wr) (fun _ v1 _ => match v1 with | .string s => s.size | _ => 0)
  case atStart => exact ⟨at0, b, [], rfl, rfl, h0, h1, rfl, by simp; omega, hb, HC0.out⟩
  case round =>
    obtain ⟨a, r, l, rfl, rfl, ha0, ha1, heq, hlen, hrl, hst⟩ := hrel
    have HE := Lib.hid heq; clear heq
    have HST := Lib.hid hst; clear hst HC0
    by_cases hr : r = []
    · subst hr
      have hem : (bsOf []).toList.isEmpty = true := by rw [ByteArray.toList_eq]; rfl
      have HC : Hid (codeOf at0 b = l) := Lib.hid (by rw [HE.out, codeOf_nil, List.append_nil])
      by_cases hl0 : l = []
      · have HS := Lib.hid (string_fresh w.heap.size wr (HST.out.nil hl0))
        subst hl0
        go_wp2_with fail
        refine HS.out.mono ?_
        rintro e w3 ⟨rfl, hB⟩
        go_wp2
        go_ret
        exact ⟨by rw [HC.out]; rfl, HST.out.bel.trans (hB.mono HST.out.bel.size)⟩
      · have HS := Lib.hid (string_any w.heap.size w.heap.size l wr HST.out.wr hl0)
        clear hl0
        go_wp2_with fail
        refine HS.out.mono ?_
        rintro e w3 ⟨rfl, hB⟩
        go_wp2
        go_ret
        exact ⟨by rw [HC.out]; rfl, HST.out.bel.trans hB⟩
    · have hsz : 0 < r.length := List.length_pos_iff.2 hr
      have hrs : (bsOf r).size = r.length := bsOf_size r
      have hem : (bsOf r).toList.isEmpty = false := by
        rw [ByteArray.toList_eq, bsOf_list]
        cases r with
        | nil => exact absurd rfl hr
        | cons x y => rfl
      obtain ⟨n, hmin⟩ : ∃ n : Nat, min (r.length : Int) 8 = (n : Int) := ⟨min r.length 8, by omega⟩
      have hn1 : n ≤ r.length := by omega
      have hn2 : n ≤ 8 := by omega
      have hn3 : 1 ≤ n := by omega
      have HEX : Hid ((bsOf r).extract 0 n = bsOf (r.take 8)) := Lib.hid (by
        rw [ext_take]
        rcases (by omega : n = 8 ∨ (n = r.length ∧ r.length ≤ 8)) with h | ⟨h, h'⟩
        · rw [h]
        · rw [h, List.take_length, List.take_of_length_le h'])
      have HDR : Hid ((bsOf r).extract n r.length = bsOf (r.drop 8)) := Lib.hid (by
        rw [ext_drop]
        rcases (by omega : n = 8 ∨ (n = r.length ∧ r.length ≤ 8)) with h | ⟨h, h'⟩
        · rw [h]
        · rw [h, List.drop_length, List.drop_eq_nil_of_le h'])
      have hcl : (r.take 8).length = n := by rw [List.length_take]; omega
      have HH := Lib.hid (hex_any (r.take 8) wr (by omega) (by omega))
      go_wp2_with fail
      rw [HEX.out]
      refine HH.out.mono ?_
      rintro e w2 ⟨rfl, hB2⟩
      have hc1 : (⟨#[120]⟩ : ByteArray) ++ bsOf ((r.take 8).flatMap hexB) = bsOf (120 :: (r.take 8).flatMap hexB) := bsOf_cat [120] _
      have hc2 : (bsOf ((r.take 8).flatMap hexB)).size = 2 * n := by rw [bsOf_size, hexB_len, hcl]
      have HD := Lib.hid (insDec_any (bsOf (r.take 8)) w2)
      rw [bsOf_list] at HD
      go_wp2_with fail
      rw [HEX.out]
      refine HD.out.mono ?_
      rintro e w3 ⟨rfl, hB3⟩
      have HSD := Lib.hid ((HST.out.keep hB2).keep hB3)
      have ha8 : (decD a.toNat).length ≤ 20 := (decD_len (by omega)).2
      have HNR := Lib.hid (codeOf_next a r hr)
      clear hB2 hB3 HH HD HST
      cases hd : decI (r.take 8) with
      | none =>
        have hio : insOf (r.take 8) = ins0 := by unfold insOf; rw [hd]; rfl
        have her : erI (none : Option GIns).isSome 7 = 7 := rfl
        rw [hio, her]
        have HDN := Lib.hid hd
        clear hd hio her
        unfold insV ins0
        simp only []
        have HS5 : Hid (CodeSt w l (w3.alloc (.cells #[.int .u8 0, .int .u8 0, .int .u8 0, .int .u8 0, .int .u32 0] 24))) := Lib.hid (HSD.out.keep (alloc_old w3 _))
        go_upto_region 8 with fail
        generalize (w3.alloc (.cells #[.int .u8 0, .int .u8 0, .int .u8 0, .int .u8 0, .int .u32 0] 24)) = w5 at *
        have htx : (120 :: (r.take 8).flatMap hexB).length ≤ 17 := by rw [List.length_cons, hexB_len, hcl]; omega
        obtain ⟨tx, htq⟩ : ∃ tx, tx = (120 :: (r.take 8).flatMap hexB) := ⟨_, rfl⟩
        rw [← htq] at htx ⊢
        have HTX := Lib.hid htq
        clear htq
        refine wp_region_turn (fun _ => True) rfl (n := 10) rfl rfl ?_
        have hS0 := (HS5).out.drew
        haveI : Nonempty (HW fun _ : World => True) := ⟨⟨w, trivial⟩⟩
        generalize w5.drew = wd at *
        refine wpAnyS_take [0, 1, 2, 3, 6] (by kernel_rfl) (by kernel_rfl) (n := 5) rfl rfl rfl trivial ?_
        (refine wpReads_step (fun K hK => ?_); go_simp; refine hK _ ?_; clear hK K)
        (refine wpReads_step (fun K hK => ?_); go_simp; refine hK _ ?_; clear hK K)
        (refine wpReads_step (fun K hK => ?_); go_simp; refine hK _ ?_; clear hK K)
        (refine wpReads_step (fun K hK => ?_); go_simp; refine hK _ ?_; clear hK K)
        (refine wpReads_step (fun K hK => ?_); go_simp; refine hK _ ?_; clear hK K)
        refine wpReads_nil ?_
        refine wpAnyS_one (i := 4) (by kernel_rfl) rfl (fun K hK => ?_)
        refine step_callW rfl 34 #[.tmp 39] #[22] rfl Tryz.func34 (by kernel_rfl) (by kernel_rfl) #[.int .u32 a] (by simp [Act.eval]) (num33i a ha0 ha1 _ (hS0.lib HL.out)) ?_
        rintro e w20 ⟨rfl, hB⟩
        have hS1 := hS0.keep hB
        refine ⟨_, rfl, hK _ _ (trivial) ?_⟩
        clear hK K
        simp only [Act.put, List.setIfInBounds_toArray, List.set_cons_zero, List.set_cons_succ]
        have k1 : bsOf (decD a.toNat) ++ (⟨#[32]⟩ : ByteArray) = bsOf (decD a.toNat ++ [32]) := bsOf_cat _ [32]
        have k2 : bsOf (decD a.toNat ++ [32]) ++ bsOf tx = bsOf (decD a.toNat ++ 32 :: tx) := by rw [bsOf_cat]; simp
        have k3 : bsOf (decD a.toNat ++ 32 :: tx) ++ (⟨#[10]⟩ : ByteArray) = bsOf (decD a.toNat ++ 32 :: (tx ++ [10])) := by rw [show (⟨#[10]⟩ : ByteArray) = bsOf [10] from rfl, bsOf_cat]; simp
        have q1 : ¬ 9223372036854775807 < (bsOf (decD a.toNat)).size + 1 := by rw [bsOf_size]; omega
        have q2 : ¬ 9223372036854775807 < (bsOf (decD a.toNat ++ [32])).size + (bsOf tx).size := by rw [bsOf_size, bsOf_size, List.length_append, List.length_singleton]; omega
        have q3 : ¬ 9223372036854775807 < (bsOf (decD a.toNat ++ 32 :: tx)).size + 1 := by rw [bsOf_size, List.length_append, List.length_cons]; omega
        refine wpAnyS_one (i := 5) (by kernel_rfl) rfl (fun K hK => ?_)
        go_simp; refine hK _ _ trivial ?_; clear hK K
        refine wpAnyS_one (i := 7) (by kernel_rfl) rfl (fun K hK => ?_)
        go_simp; refine hK _ _ trivial ?_; clear hK K
        refine wpAnyS_one (i := 8) (by kernel_rfl) rfl (fun K hK => ?_)
        go_simp; refine hK _ _ trivial ?_; clear hK K
        have hll : (decD a.toNat ++ 32 :: (tx ++ [10])).length ≤ 400 := by simp only [List.length_append, List.length_cons, List.length_nil]; omega
        refine wpAnyS_one (i := 9) (by kernel_rfl) rfl (fun K hK => ?_)
        refine step_callW rfl 47 #[.tmp 38, .tmp 44] #[81, 9] rfl Tryz.func47 (by kernel_rfl) (by kernel_rfl) #[.pointer (some ⟨w.heap.size, 0, none⟩), .string (bsOf (decD a.toNat ++ 32 :: (tx ++ [10])))] (by simp [Act.eval]) (writeString_any w.heap.size w.heap.size l (bsOf (decD a.toNat ++ 32 :: (tx ++ [10]))) w20 hS1.wr (by rw [bsOf_size]; omega) hS1.bel.size) ?_
        rintro e w21 ⟨rfl, hP⟩
        have hS2 := hS1.post (by rw [bsOf_list]; simp) hP
        refine ⟨_, rfl, hK _ _ (trivial) ?_⟩
        clear hK K
        simp only [Act.put, List.setIfInBounds_toArray, List.set_cons_zero, List.set_cons_succ]
        refine wpAnyS_done (by kernel_rfl) (NoPanic.normal ?_)
        have HLN : Hid (decD a.toNat ++ 32 :: (tx ++ [10]) = codeLn a (r.take 8)) := Lib.hid (by rw [HTX.out]; unfold codeLn; rw [HDN.out]; simp)
        rw [bsOf_list, HLN.out] at hS2
        have hlc : (codeLn a (r.take 8)).length ≤ 400 := by rw [← HLN.out]; exact hll
        have HF := Lib.hid hS2
        have hw8 : (a + 8) % 4294967296 = (a + 8) % 4294967296 := rfl
        clear k1 k2 k3 q1 q2 q3 hS0 hS1 hS2 hP hB hll hw8 HLN
        have hnx : codeOf at0 b = (l ++ codeLn a (r.take 8)) ++ codeOf ((a + 8) % 4294967296) (r.drop 8) := by rw [HE.out, HNR.out, List.append_assoc]
        have hdl : (r.drop 8).length + 1 ≤ r.length := by rw [List.length_drop]; omega
        have hmz : ((bsOf r).extract n r.length).size < (bsOf r).size := by rw [HDR.out, bsOf_size, bsOf_size]; omega
        have hap : (l ++ codeLn a (r.take 8)).length = l.length + (codeLn a (r.take 8)).length := List.length_append
        go_wp2
        go_roundw
        case rel => exact ⟨(a + 8) % 4294967296, r.drop 8, l ++ codeLn a (r.take 8), rfl, by rw [HDR.out], by omega, by omega, hnx, by omega, by omega, HF.out⟩
        case measure => exact hmz
      | some x =>
        have hio : insOf (r.take 8) = x := by unfold insOf; rw [hd]; rfl
        have her : erI (some x : Option GIns).isSome 7 = 0 := rfl
        rw [hio, her]
        have HDN := Lib.hid hd
        obtain ⟨hok, hxb⟩ := decI_ok hd
        have HUS := Lib.hid (insOk_use hok)
        have HXB := Lib.hid hxb
        have hi0 := hxb.2.2.2.2
        clear hd hio her hok hxb
        have hdi : (decD x.imm.toNat).length ≤ 20 := (decD_len (by omega)).2
        have HTD := Lib.hid (fun (W : World) (h : Lib33 W) => told33 x (decD x.imm.toNat) W h HXB.out HUS.out (by omega))
        unfold insV at *
        have HS5 : Hid (CodeSt w l (w3.alloc (.cells (insA x) 24))) := Lib.hid (HSD.out.keep (alloc_old w3 _))
        have hX5 : (w3.alloc (.cells (insA x) 24)).heap[w3.heap.size]? = some (.cells (insA x) 24 (0, 0)) := new_block w3 _
        go_upto_region 7 with fail
        change Code.wp _ _ _ _ (w3.alloc (.cells (insA x) 24))
        generalize (w3.alloc (.cells (insA x) 24)) = w5 at *
        generalize w3.heap.size = yb at *
        have hyb := (Array.getElem?_eq_some_iff.1 hX5).1
        obtain ⟨S, HSS⟩ : ∃ S : World → Prop, ∀ w', S w' ↔ Below w5.heap.size w5 w' := ⟨_, fun _ => Iff.rfl⟩
        have y0 : ∀ u : HW S, u.u.cell? ⟨yb, 0, none⟩ = some (.int .u8 x.op) := fun u => cell_keep ((HSS _).1 u.h) hyb (Lib.cell_of_heap hX5 0)
        have y1 : ∀ u : HW S, u.u.cell? ⟨yb, 1, none⟩ = some (.int .u8 x.d) := fun u => cell_keep ((HSS _).1 u.h) hyb (Lib.cell_of_heap hX5 1)
        have y2 : ∀ u : HW S, u.u.cell? ⟨yb, 2, none⟩ = some (.int .u8 x.a) := fun u => cell_keep ((HSS _).1 u.h) hyb (Lib.cell_of_heap hX5 2)
        have y3 : ∀ u : HW S, u.u.cell? ⟨yb, 3, none⟩ = some (.int .u8 x.b) := fun u => cell_keep ((HSS _).1 u.h) hyb (Lib.cell_of_heap hX5 3)
        have y4 : ∀ u : HW S, u.u.cell? ⟨yb, 4, none⟩ = some (.int .u32 x.imm) := fun u => cell_keep ((HSS _).1 u.h) hyb (Lib.cell_of_heap hX5 4)
        haveI : Nonempty (HW S) := ⟨⟨_, (HSS _).2 (Below.refl _ _)⟩⟩
        refine wp_region_turn S rfl (n := 6) rfl rfl ?_
        have hW0 : Below w5.heap.size w5 w5.drew := below_drewN (Below.refl _ _) 1
        refine wpAnyS_take [0, 1, 2] (by kernel_rfl) (by kernel_rfl) (n := 3) rfl rfl rfl ((HSS _).2 hW0) ?_
        (refine wpReads_step (fun K hK => ?_); go_simp; refine hK _ ?_; clear hK K)
        (refine wpReads_step (fun K hK => ?_); go_simp; refine hK _ ?_; clear hK K)
        (refine wpReads_step (fun K hK => ?_); go_simp; refine hK _ ?_; clear hK K)
        refine wpReads_nil ?_
        refine wpAnyS_one (i := 3) (by kernel_rfl) rfl (fun K hK => ?_)
        refine step_callW rfl 34 #[.tmp 33] #[22] rfl Tryz.func34 (by kernel_rfl) (by kernel_rfl) #[.int .u32 x.imm] (by simp [Act.eval]) (num33i x.imm hi0.1 hi0.2 _ ((HS5.out.keep hW0).lib HL.out)) ?_
        rintro e w6 ⟨rfl, hB⟩
        have hW6 : Below w5.heap.size w5 w6 := hW0.trans (hB.mono hW0.size)
        refine ⟨_, rfl, hK _ _ ((HSS _).2 hW6) ?_⟩
        clear hK K
        simp only [Act.put, List.setIfInBounds_toArray, List.set_cons_zero, List.set_cons_succ]
        refine wpAnyS_one (i := 4) (by kernel_rfl) rfl (fun K hK => ?_)
        refine step_callW rfl 33 #[.tmp 31, .tmp 34] #[24, 9] rfl Tryz.func33 (by kernel_rfl) (by kernel_rfl) #[.agg #[.int .u8 x.op, .int .u8 x.d, .int .u8 x.a, .int .u8 x.b, .int .u32 x.imm], .string (bsOf (decD x.imm.toNat))] (by simp [Act.eval]) (HTD.out w6 ((HS5.out.keep hW6).lib HL.out)) ?_
        rintro e w7 ⟨rfl, hB2⟩
        have hW7 : Below w5.heap.size w5 w7 := hW6.trans (hB2.mono hW6.size)
        refine ⟨_, rfl, hK _ _ ((HSS _).2 hW7) ?_⟩
        clear hK K
        simp only [Act.put, List.setIfInBounds_toArray, List.set_cons_zero, List.set_cons_succ]
        refine wpAnyS_one (i := 5) (by kernel_rfl) rfl (fun K hK => ?_)
        go_simp; refine hK _ _ ((HSS _).2 hW7) ?_; clear hK K
        refine wpAnyS_done (by kernel_rfl) (NoPanic.normal ?_)
        have HS7 := Lib.hid (HS5.out.keep hW7)
        have htx : (toldL x (decD x.imm.toNat)).length ≤ 220 := by have := toldL_len (imm := decD x.imm.toNat) HXB.out; omega
        clear hW0 hW6 hW7 hB hB2 y0 y1 y2 y3 y4 HTD HS5 hX5 hyb
        go_upto_region 8 with fail
        obtain ⟨tx, htq⟩ : ∃ tx, tx = (toldL x (decD x.imm.toNat)) := ⟨_, rfl⟩
        rw [← htq] at htx ⊢
        have HTX := Lib.hid htq
        clear htq
        refine wp_region_turn (fun _ => True) rfl (n := 10) rfl rfl ?_
        have hS0 := (HS7).out.drew
        haveI : Nonempty (HW fun _ : World => True) := ⟨⟨w, trivial⟩⟩
        generalize w7.drew = wd at *
        refine wpAnyS_take [0, 1, 2, 3, 6] (by kernel_rfl) (by kernel_rfl) (n := 5) rfl rfl rfl trivial ?_
        (refine wpReads_step (fun K hK => ?_); go_simp; refine hK _ ?_; clear hK K)
        (refine wpReads_step (fun K hK => ?_); go_simp; refine hK _ ?_; clear hK K)
        (refine wpReads_step (fun K hK => ?_); go_simp; refine hK _ ?_; clear hK K)
        (refine wpReads_step (fun K hK => ?_); go_simp; refine hK _ ?_; clear hK K)
        (refine wpReads_step (fun K hK => ?_); go_simp; refine hK _ ?_; clear hK K)
        refine wpReads_nil ?_
        refine wpAnyS_one (i := 4) (by kernel_rfl) rfl (fun K hK => ?_)
        refine step_callW rfl 34 #[.tmp 39] #[22] rfl Tryz.func34 (by kernel_rfl) (by kernel_rfl) #[.int .u32 a] (by simp [Act.eval]) (num33i a ha0 ha1 _ (hS0.lib HL.out)) ?_
        rintro e w20 ⟨rfl, hB⟩
        have hS1 := hS0.keep hB
        refine ⟨_, rfl, hK _ _ (trivial) ?_⟩
        clear hK K
        simp only [Act.put, List.setIfInBounds_toArray, List.set_cons_zero, List.set_cons_succ]
        have k1 : bsOf (decD a.toNat) ++ (⟨#[32]⟩ : ByteArray) = bsOf (decD a.toNat ++ [32]) := bsOf_cat _ [32]
        have k2 : bsOf (decD a.toNat ++ [32]) ++ bsOf tx = bsOf (decD a.toNat ++ 32 :: tx) := by rw [bsOf_cat]; simp
        have k3 : bsOf (decD a.toNat ++ 32 :: tx) ++ (⟨#[10]⟩ : ByteArray) = bsOf (decD a.toNat ++ 32 :: (tx ++ [10])) := by rw [show (⟨#[10]⟩ : ByteArray) = bsOf [10] from rfl, bsOf_cat]; simp
        have q1 : ¬ 9223372036854775807 < (bsOf (decD a.toNat)).size + 1 := by rw [bsOf_size]; omega
        have q2 : ¬ 9223372036854775807 < (bsOf (decD a.toNat ++ [32])).size + (bsOf tx).size := by rw [bsOf_size, bsOf_size, List.length_append, List.length_singleton]; omega
        have q3 : ¬ 9223372036854775807 < (bsOf (decD a.toNat ++ 32 :: tx)).size + 1 := by rw [bsOf_size, List.length_append, List.length_cons]; omega
        refine wpAnyS_one (i := 5) (by kernel_rfl) rfl (fun K hK => ?_)
        go_simp; refine hK _ _ trivial ?_; clear hK K
        refine wpAnyS_one (i := 7) (by kernel_rfl) rfl (fun K hK => ?_)
        go_simp; refine hK _ _ trivial ?_; clear hK K
        refine wpAnyS_one (i := 8) (by kernel_rfl) rfl (fun K hK => ?_)
        go_simp; refine hK _ _ trivial ?_; clear hK K
        have hll : (decD a.toNat ++ 32 :: (tx ++ [10])).length ≤ 400 := by simp only [List.length_append, List.length_cons, List.length_nil]; omega
        refine wpAnyS_one (i := 9) (by kernel_rfl) rfl (fun K hK => ?_)
        refine step_callW rfl 47 #[.tmp 38, .tmp 44] #[81, 9] rfl Tryz.func47 (by kernel_rfl) (by kernel_rfl) #[.pointer (some ⟨w.heap.size, 0, none⟩), .string (bsOf (decD a.toNat ++ 32 :: (tx ++ [10])))] (by simp [Act.eval]) (writeString_any w.heap.size w.heap.size l (bsOf (decD a.toNat ++ 32 :: (tx ++ [10]))) w20 hS1.wr (by rw [bsOf_size]; omega) hS1.bel.size) ?_
        rintro e w21 ⟨rfl, hP⟩
        have hS2 := hS1.post (by rw [bsOf_list]; simp) hP
        refine ⟨_, rfl, hK _ _ (trivial) ?_⟩
        clear hK K
        simp only [Act.put, List.setIfInBounds_toArray, List.set_cons_zero, List.set_cons_succ]
        refine wpAnyS_done (by kernel_rfl) (NoPanic.normal ?_)
        have HLN : Hid (decD a.toNat ++ 32 :: (tx ++ [10]) = codeLn a (r.take 8)) := Lib.hid (by rw [HTX.out]; unfold codeLn; rw [HDN.out]; simp)
        rw [bsOf_list, HLN.out] at hS2
        have hlc : (codeLn a (r.take 8)).length ≤ 400 := by rw [← HLN.out]; exact hll
        have HF := Lib.hid hS2
        have hw8 : (a + 8) % 4294967296 = (a + 8) % 4294967296 := rfl
        clear k1 k2 k3 q1 q2 q3 hS0 hS1 hS2 hP hB hll hw8 HLN
        have hnx : codeOf at0 b = (l ++ codeLn a (r.take 8)) ++ codeOf ((a + 8) % 4294967296) (r.drop 8) := by rw [HE.out, HNR.out, List.append_assoc]
        have hdl : (r.drop 8).length + 1 ≤ r.length := by rw [List.length_drop]; omega
        have hmz : ((bsOf r).extract n r.length).size < (bsOf r).size := by rw [HDR.out, bsOf_size, bsOf_size]; omega
        have hap : (l ++ codeLn a (r.take 8)).length = l.length + (codeLn a (r.take 8)).length := List.length_append
        go_wp2
        go_roundw
        case rel => exact ⟨(a + 8) % 4294967296, r.drop 8, l ++ codeLn a (r.take 8), rfl, by rw [HDR.out], by omega, by omega, hnx, by omega, by omega, HF.out⟩
        case measure => exact hmz
end Go.Proofs.YtoonkfhphbojcaaGreatDoor
namespace Go.Proofs.YtoonkfhphbojcaaGreatDoor
open Go.RowKit Go.Maps
theorem decD_small {n : Nat} (h : n < 10) : decD n = [UInt8.ofNat (48 + n)] := by unfold decD; rw [Lib.decDigits, dif_pos h]
theorem decD_big {n : Nat} (h : ¬ n < 10) : decD n = decD (n / 10) ++ [UInt8.ofNat (48 + n % 10)] := by
  unfold decD; rw [Lib.decDigits, dif_neg h]
theorem one_byte33 (W : World) (g : Nat) (c : Int) (h0 : 0 ≤ c) (h1 : c ≤ 255) (hc : W.cell? ⟨g, 0, none⟩ = some (.int .u8 c)) : (convert 79 9 (.slice (some ⟨g, 0, none⟩) 1 1)).run Tryz.prog W = .ok (.string (bsOf [UInt8.ofNat c.toNat])) W := by
  refine run_convert_bytes_back (P := Tryz.prog) W 79 9 5 ⟨g, 0, none⟩ 1 [UInt8.ofNat c.toNat] Tryz.underlying79 Tryz.underlying5 Tryz.underlying9 (fun j hj => ?_)
  have hj0 : j = 0 := by simp at hj; omega
  subst hj0
  rw [add_at]
  have e : ((UInt8.ofNat c.toNat).toNat : Int) = c := by rw [u8_ofNat _ (by omega)]; omega
  simp only [Nat.add_zero, List.getElem_cons_zero, e]
  exact hc
set_option maxHeartbeats 4000000 in
set_option maxRecDepth 100000 in
theorem digits33 (n : Nat) (hn : n < 4294967296) (w : World) : Calls Tryz.prog 132 #[.int .u64 n] w fun e w' => e = .returned (.string (bsOf (decD n))) ∧ Below w.heap.size w w' := by
  go_enter Tryz.func132, Tryz.ntmps132
  go_wp2_with fail
  go_loopw [0, 3] (fun v0 v3 wr => ∃ (m : Nat) (t : BL), v0 = .int .u64 m ∧ v3 = .string (bsOf t) ∧ m < 4294967296 ∧ decD n = decD m ++ t ∧ t.length + (decD m).length ≤ 20 ∧ Below w.heap.size w wr) (fun v0 _ _ => (intOf v0).toNat)
  case atStart => exact ⟨n, [], rfl, rfl, hn, by simp, by have := (decD_len hn).2; simp; omega, Below.refl _ _⟩
  case round =>
    obtain ⟨m, t, rfl, rfl, hm, heq, hlen, hb⟩ := hrel
    have HE := Lib.hid heq; clear heq
    have HB := Lib.hid hb; clear hb
    have hts : (bsOf t).size = t.length := bsOf_size t
    have htl : t.length ≤ 20 := by omega
    by_cases h9 : m < 10
    · have e1 : decide ((9 : Int) < (m : Int)) = false := by simp; omega
      have e1' : decide (9 < m) = false := by simp; omega
      have HD : Hid (bsOf (decD n) = bsOf [UInt8.ofNat (48 + (m : Int)).toNat] ++ bsOf t) := Lib.hid (by rw [HE.out, decD_small h9, bsOf_cat, show (48 + (m : Int)).toNat = 48 + m by omega])
      have hw1 : (48 + (m : Int)) % 256 = 48 + (m : Int) := by omega
      have hw2 : (48 + (m : Int)) % 18446744073709551616 = 48 + (m : Int) := by omega
      have hc0 : (0 : Int) ≤ 48 + (m : Int) := by omega
      have hc1 : 48 + (m : Int) ≤ 255 := by omega
      have hcv := one_byte33 (wr.alloc (.cells #[.int .u8 (48 + (m : Int))] 5)) wr.heap.size _ hc0 hc1 (Lib.cell_of_heap (new_block wr _) 0)
      have HB2 : Hid (Below w.heap.size w (wr.alloc (.cells #[.int .u8 (48 + (m : Int))] 5))) := Lib.hid (HB.out.alloc HB.out.size _)
      obtain ⟨c, hc⟩ : ∃ c : UInt8, c = UInt8.ofNat (48 + (m : Int)).toNat := ⟨_, rfl⟩
      rw [← hc] at hcv HD
      have hbs : (bsOf [c]).size = 1 := bsOf_size _
      clear hc
      go_wp2
      go_ret
      exact ⟨by rw [HD.out]; rfl, HB2.out⟩
    · have e1 : decide ((9 : Int) < (m : Int)) = true := by simp; omega
      have e1' : decide (9 < m) = true := by simp; omega
      have hw1 : (48 + (m : Int) % 10) % 256 = 48 + (m : Int) % 10 := by omega
      have hw2 : (48 + (m : Int) % 10) % 18446744073709551616 = 48 + (m : Int) % 10 := by omega
      have hc0 : (0 : Int) ≤ 48 + (m : Int) % 10 := by omega
      have hc1 : 48 + (m : Int) % 10 ≤ 255 := by omega
      have hcv := one_byte33 (wr.alloc (.cells #[.int .u8 (48 + (m : Int) % 10)] 5)) wr.heap.size _ hc0 hc1 (Lib.cell_of_heap (new_block wr _) 0)
      have HB2 : Hid (Below w.heap.size w (wr.alloc (.cells #[.int .u8 (48 + (m : Int) % 10)] 5))) := Lib.hid (HB.out.alloc HB.out.size _)
      obtain ⟨c, hc⟩ : ∃ c : UInt8, c = UInt8.ofNat (48 + (m : Int) % 10).toNat := ⟨_, rfl⟩
      rw [← hc] at hcv
      have hbs : (bsOf [c]).size = 1 := bsOf_size _
      have hcat : bsOf [c] ++ bsOf t = bsOf (c :: t) := bsOf_cat _ t
      have HNX : Hid (decD n = decD (m / 10) ++ (c :: t)) := Lib.hid (by
        rw [HE.out, decD_big h9, List.append_assoc, hc, show (48 + (m : Int) % 10).toNat = 48 + m % 10 by omega]; rfl)
      have hll : (c :: t).length + (decD (m / 10)).length ≤ 20 := by
        have : (decD m).length = (decD (m / 10)).length + 1 := by rw [decD_big h9]; simp
        rw [List.length_cons]; omega
      clear hc
      obtain ⟨q, hq⟩ : ∃ q, q = m / 10 := ⟨_, rfl⟩
      have HQ : Hid (IntKind.u64.wrap ((m : Int) / 10) = (q : Int)) := Lib.hid (by rw [IntKind.wrap_u64]; omega)
      have hmd : q < 4294967296 := by omega
      have hms : q < m := by omega
      rw [← hq] at hll HNX
      have HMD := Lib.hid (And.intro hmd (And.intro hms hll))
      clear hq hmd hms hll hc0 hc1 h9 hlen hm
      go_wp2
      go_roundw
      case rel => exact ⟨q, _, by rw [HQ.out], rfl, HMD.out.1, HNX.out, HMD.out.2.2, HB2.out⟩
      case measure => simp [intOf]; rw [HQ.out]; exact HMD.out.2.1
set_option maxRecDepth 100000 in
theorem number32 (n : Nat) (hn : n < 4294967296) (w : World) : Calls Tryz.prog 90 #[.int .i64 n] w fun e w' => e = .returned (.string (bsOf (decD n))) ∧ Below w.heap.size w w' := by
  have H := Lib.hid (digits33 n hn w)
  have e1 : decide ((n : Int) < 0) = false := by simp
  have hw : (n : Int) % 18446744073709551616 = n := by omega
  go_enter Tryz.func90, Tryz.ntmps90
  go_wp2_with fail
  refine H.out.mono ?_
  rintro e w2 ⟨rfl, hB⟩
  go_wp2
  go_ret
  exact ⟨rfl, hB⟩
set_option maxRecDepth 100000 in
theorem rnum33 (n : Int) (h0 : 0 ≤ n) (h1 : n ≤ 4294967295) (w : World) : Calls Tryz.prog 37 #[.int .u32 n] w fun e w' => e = .returned (.string (bsOf (decD n.toNat))) ∧ Below w.heap.size w w' := by
  obtain ⟨k, rfl⟩ : ∃ k : Nat, n = k := ⟨n.toNat, by omega⟩
  have H := Lib.hid (number32 k (by omega) w)
  have hw : IntKind.i64.wrap (k : Int) = k := by rw [IntKind.wrap_i64]; omega
  go_enter Tryz.func37, Tryz.ntmps37
  go_wp2_with fail
  refine H.out.mono ?_
  rintro e w2 ⟨rfl, hB⟩
  go_wp2
  go_ret
  exact ⟨rfl, hB⟩
end Go.Proofs.YtoonkfhphbojcaaGreatDoor
