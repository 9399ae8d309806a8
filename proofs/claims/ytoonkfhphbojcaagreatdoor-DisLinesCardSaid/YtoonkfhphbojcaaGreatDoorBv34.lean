/- The walk of maker.lay. -/
import Derived.Test.YtoonkfhphbojcaaGreatDoorBv31
import Derived.Test.YtoonkfhphbojcaaGreatDoorBv29
import Derived.Test.YtoonkfhphbojcaaGreatDoorBv26
namespace Go.Proofs.YtoonkfhphbojcaaGreatDoor
open Go.RowKit Go.Maps Go.WideMaps
def LayPost (w0 : World) (mb gb : Nat) (own : ByteArray) (bind size : Int) (M : BL → Option Nat) (r : Option (List GRel × BL)) (e : Ending) (w' : World) : Prop := match r with
  | none => e = .returned (.int .i64 3) ∧ Below w0.heap.size w0 w'
  | some p => e = .returned (.int .i64 0) ∧ ∃ v', MkSt w0 mb gb own bind size M v' p.1 p.2 w'
theorem MkSt.cell4 {w0 : World} {mb gb : Nat} {own : ByteArray} {bind size : Int} {M : BL → Option Nat} {v : Value} {rels : List GRel} {bytes : BL} {w : World} (h : MkSt w0 mb gb own bind size M v rels bytes w) :
    w.cell? ⟨mb, 0, none⟩ = some (.string own) ∧ w.cell? ⟨mb, 4, none⟩ = some (.string (bsOf bytes)) ∧ w.cell? ⟨mb, 7, none⟩ = some (.map (some gb)) ∧ w.frozen? ⟨mb, 4, none⟩ = false :=
  ⟨Lib.cell_of_heap h.box 0, Lib.cell_of_heap h.box 4, Lib.cell_of_heap h.box 7, Lib.frozen_of_heap h.box 4⟩
theorem lnAt_new (l : GLine) (w : World) : LnAt w.heap.size l (w.alloc (.cells (lineA l) 59)) := new_block w _
theorem lnAt_imm {lb : Nat} {l : GLine} {w : World} (h : LnAt lb l w) : LnAt lb { l with x := noImm l.x } (w.setCell ⟨lb, 5, none⟩ (.int .u32 0)) := set33 h 5 _
theorem MkSt.setLn {w0 : World} {mb gb lb : Nat} {own : ByteArray} {bind size : Int} {M : BL → Option Nat} {v : Value} {rels : List GRel} {bytes : BL} {x : GLine} {w : World} (h : MkSt w0 mb gb own bind size M v rels bytes w) (hl : LnAt lb x w) (h0 : w0.heap.size ≤ lb) (j : Nat) (u : Value) : MkSt w0 mb gb own bind size M v rels bytes (w.setCell ⟨lb, j, none⟩ u) := by
  have h1 : mb ≠ lb := fun e => by
    have h1 := h.box
    rw [e, hl] at h1
    injection h1 with h1; injection h1 with _ h1 _; exact absurd h1 (by decide)
  have h2 : gb ≠ lb := fun e => by
    obtain ⟨n, D, ⟨es, clock, h1, -⟩, -⟩ := h.map
    rw [e, hl] at h1
    cases h1
  refine ⟨?_, own_congr h.row fun g hg => Below.heap_setCell _ _ _ _ (fun e => own_ne_box h.row hl (by decide) (by rw [hg, e])), ?_, h.bel.setCell h0 _, h.mbl⟩
  · rw [Below.heap_setCell _ _ _ _ (by simpa using h1)]; exact h.box
  · obtain ⟨n, hm⟩ := h.map
    exact ⟨n, hm.setCell (by simpa using h2) _⟩
/-- behind the places: the instruction's bytes -/
structure LayEnd (w0 : World) (mb gb : Nat) (own : ByteArray) (bind size : Int) (M : BL → Option Nat) (v : Value) (rels : List GRel) (bytes : BL) (lb : Nat) (lab dd nn : BL) (y : GIns) (w : World) : Prop where
  st : MkSt w0 mb gb own bind size M v rels bytes w
  ln : LnAt lb ⟨lab, y, dd, nn⟩ w
  lbl : w0.heap.size ≤ lb
set_option maxHeartbeats 4000000 in
set_option maxRecDepth 100000 in
theorem lay33 {w0 : World} {mb gb : Nat} {own : ByteArray} {bind size : Int} {M : BL → Option Nat} {v : Value} {rels : List GRel} {bytes : BL} (x : GLine) (w : World) (hst : MkSt w0 mb gb own bind size M v rels bytes w) (hx : LineB x) (hm : lnMay x = true) (hM : ∀ s k, M s = some k → k ≤ 1024) (hb : bytes.length ≤ 100000) (hr : rels.length ≤ 100000) :
    Calls Tryz.prog 142 #[.pointer (some ⟨mb, 0, none⟩), lineV x] w (LayPost w0 mb gb own bind size M (lay1 own M x rels bytes)) := by
  have HM := Lib.hid (lnMay_parts hm)
  have HST := Lib.hid (hst.keep (alloc_old w (.cells (lineA x) 59)))
  have HLN := Lib.hid (lnAt_new x w)
  have HMK := Lib.hid hM
  have HXI : Hid (InsB x.x) := Lib.hid hx.x
  have HNI : Hid (InsB (noImm x.x)) := Lib.hid ⟨hx.x.1, hx.x.2.1, hx.x.2.2.1, hx.x.2.2.2.1, by simp [noImm]⟩
  have hne1 := bs_nil33 x.dest
  have hne2 := bs_nil33 x.name
  have hdl : (bsOf x.dest).size ≤ 9223372036854775807 := by rw [bsOf_size]; have := hx.dest; omega
  have HL1 : Hid (lay1 own M x rels bytes = if x.dest = [] then
    if x.name = [] then some (rels, bytes ++ encL x.x)
    else some (rels ++ [⟨(bytes.length : Int) + 4, 1, bsOf x.name, x.x.imm⟩], bytes ++ encL (noImm x.x))
  else match M x.dest with
    | none => none
    | some k => some (rels ++ [⟨(bytes.length : Int) + 4, 1, own, 8 * (k : Int)⟩], bytes ++ encL (noImm x.x))) := Lib.hid rfl
  generalize lay1 own M x rels bytes = res at HL1 ⊢
  have HBL := Lib.hid hb
  have HD : Hid ((bsOf x.dest).data.toList = x.dest) := Lib.hid rfl
  have HV : Hid ((labVs M (bsOf x.dest).data.toList).getD (.int .u32 0) = .int .u32 (8 * (((M x.dest).getD 0 : Nat) : Int))) := Lib.hid (by rw [HD.out]; unfold labVs; cases M x.dest <;> rfl)
  have HI : Hid ((labVs M (bsOf x.dest).data.toList).isSome = (M x.dest).isSome) := Lib.hid (by rw [HD.out]; unfold labVs; cases M x.dest <;> rfl)
  obtain ⟨n0, hmap0⟩ := HST.out.map
  have HMAP := Lib.hid hmap0
  obtain ⟨c0, c4, c7, f4⟩ := HST.out.cell4
  have z5 := HLN.out.cell 5
  have z6 := HLN.out.cell 6
  have z7 := HLN.out.cell 7
  have f5 := Lib.frozen_of_heap HLN.out 5
  have hl0 : w0.heap.size ≤ w.heap.size := hst.bel.size
  have HR0 := Lib.hid hr
  have HCASE : (x.dest ≠ [] ∧ M x.dest = none) ∨ (x.dest = [] ∧ x.name = []) ∨ (x.dest = [] ∧ x.name ≠ []) ∨ (x.dest ≠ [] ∧ ∃ k, M x.dest = some k) := by
    by_cases hd : x.dest = []
    · by_cases hn : x.name = []
      · exact .inr (.inl ⟨hd, hn⟩)
      · exact .inr (.inr (.inl ⟨hd, hn⟩))
    · cases hk : M x.dest with
      | none => exact .inl ⟨hd, rfl⟩
      | some k => exact .inr (.inr (.inr ⟨hd, k, rfl⟩))
  clear hst hx hm hM hb hmap0 hr
  obtain ⟨lab, y, dd, nn⟩ := x
  unfold lineV
  simp only [] at HM HNI HXI hne1 hne2 hdl HL1 HD HV HI HCASE
  have HAL : Hid (lineA ⟨lab, y, dd, nn⟩ = #[.string (bsOf lab), .int .u8 y.op, .int .u8 y.d, .int .u8 y.a, .int .u8 y.b, .int .u32 y.imm, .string (bsOf dd), .string (bsOf nn)]) := Lib.hid rfl
  rw [show lineA ⟨lab, y, dd, nn⟩ = #[.string (bsOf lab), .int .u8 y.op, .int .u8 y.d, .int .u8 y.a, .int .u8 y.b, .int .u32 y.imm, .string (bsOf dd), .string (bsOf nn)] from rfl] at *
  replace z5 : _ = some (Value.int .u32 y.imm) := z5
  replace z6 : _ = some (Value.string (bsOf dd)) := z6
  replace z7 : _ = some (Value.string (bsOf nn)) := z7
  generalize hsd : bsOf dd = SD at *
  generalize hsn : bsOf nn = SN at *
  generalize hsl : bsOf lab = SL at *
  have HLE : Hid (∀ W ly ry rl by_, MkSt w0 mb gb own bind size M ly ry by_ W → LnAt w.heap.size ⟨lab, rl, dd, nn⟩ W → LayEnd w0 mb gb own bind size M ly ry by_ w.heap.size lab dd nn rl W) := Lib.hid fun W ly ry rl by_ h1 h2 => ⟨h1, h2, hl0⟩
  go_enter Tryz.func142, Tryz.ntmps142
  go_upto_region 1 with fail
  generalize hwa : w.alloc (.cells #[.string SL, .int .u8 y.op, .int .u8 y.d, .int .u8 y.a, .int .u8 y.b, .int .u32 y.imm, .string SD, .string SN] 59) = wA at *
  have hzA : w.heap.size < wA.heap.size := HLN.out.lt
  rcases HCASE with ⟨hd, hk⟩ | ⟨hd, hn⟩ | ⟨hd, hn⟩ | ⟨hd, k, hk⟩
  case' inl =>
    have hne3 : SD.toList.isEmpty = false := by rw [hne1]; simp [hd]
    have HRS : Hid (res = none) := Lib.hid (by rw [HL1.out, if_neg hd, hk])
    clear hne1 hne2
    go_upto_region 2 with fail
    have hlk : (Instr.lookup 194 (.map (some gb)) (.string SD) true).run Tryz.prog wA.drew = .ok (.tuple #[.int .u32 (8 * (((none : Option Nat).getD 0 : Nat) : Int)), .bool (none : Option Nat).isSome]) wA.drew := by
      have := HMAP.out.drew.look_ok keyedS Tryz.underlying194 Tryz.underlying9 (zeroU32 _) hdl
      rw [HV.out, HI.out, hk] at this
      exact this
    obtain ⟨RS, HSD⟩ : ∃ RS : World → Prop, ∀ w', RS w' ↔ w' = wA.drew := ⟨_, fun _ => Iff.rfl⟩
    have r0 : ∀ z : HW RS, z.u.cell? ⟨w.heap.size, 6, none⟩ = some (.string SD) := fun z => by rw [(HSD _).1 z.h]; exact z6
    have r7 : ∀ z : HW RS, z.u.cell? ⟨mb, 7, none⟩ = some (.map (some gb)) := fun z => by rw [(HSD _).1 z.h]; exact c7
    have rl : ∀ z : HW RS, (Instr.lookup 194 (.map (some gb)) (.string SD) true).run Tryz.prog z.u = .ok (.tuple #[.int .u32 (8 * (((none : Option Nat).getD 0 : Nat) : Int)), .bool (none : Option Nat).isSome]) z.u := fun z => by rw [(HSD _).1 z.h]; exact hlk
    haveI : Nonempty (HW RS) := ⟨⟨_, (HSD _).2 rfl⟩⟩
    refine wp_region_marks RS [.r, .r, .r, .r, .r, .r, .r, .r, .r, .r, .r, .p] rfl (by kernel_rfl) ((HSD _).2 rfl) ?_
    repeat (refine wpReads_step (fun K hK => ?_); go_simp; refine hK _ ?_; clear hK K)
    refine wpReads_nil ?_
    refine wpTurns_nil ?_
    simp only [pickP]
    clear r0 r7 rl hlk HSD
    go_wp2_with fail
    refine NoPanic.normal ?_
    go_wp2
    go_ret
    rw [HRS.out]
    exact ⟨rfl, HST.out.bel.drew⟩
  case' inr.inl =>
    have hne3 : SD.toList.isEmpty = true := by rw [hne1]; simp [hd]
    have hne4 : SN.toList.isEmpty = true := by rw [hne2]; simp [hn]
    have HRS : Hid (res = some (rels, bytes ++ encL y)) := Lib.hid (by rw [HL1.out, if_pos hd, if_pos hn])
    have HOK : Hid (insOk y = true) := Lib.hid (by
      rcases HM.out.2.2.2.2 with ⟨-, -, h⟩ | ⟨h, -⟩
      · exact h
      · rcases h with h | h
        · exact absurd hd h
        · exact absurd hn h)
    have HYI := HXI
    have ST9 := HST
    have LN9 := HLN
    clear hne1 hne2 hd hn HMAP HV HI HL1 HM HNI HXI HST HLN
    go_upto_region 10 with fail
    clear z5 z6 z7 c0 c4 c7 f4 f5 hwa
    generalize wA = w9 at *
    generalize y = yy at *
    generalize rels = rels9 at *
    generalize v = v9 at *
  case' inr.inr.inl =>
    have hne3 : SD.toList.isEmpty = true := by rw [hne1]; simp [hd]
    have hne4 : SN.toList.isEmpty = false := by rw [hne2]; simp [hn]
    have HRS : Hid (res = some (rels ++ [⟨(bytes.length : Int) + 4, 1, SN, y.imm⟩], bytes ++ encL (noImm y))) := Lib.hid (by rw [HL1.out, if_pos hd, if_neg hn])
    have HOK : Hid (insOk (noImm y) = true) := Lib.hid (by
      rcases HM.out.2.2.2.2 with ⟨-, h, -⟩ | ⟨-, -, h⟩
      · exact absurd h hn
      · exact h)
    have HYI := HNI
    clear hne1 hne2 hd hn HMAP HV HI HL1 HM HNI HXI
    go_upto_region 8 with fail
    go_wp2_with fail
    refine (place33 _ _ _ HST.out HBL.out HR0.out).mono ?_
    rintro e w7 ⟨rfl, ⟨v9, hst7⟩, hln7⟩
    have hl7 := hln7 _ _ HLN.out
    have ST9 := Lib.hid (hst7.setLn hl7 hl0 5 (.int .u32 0))
    have LN9 := Lib.hid (lnAt_imm hl7)
    clear z5 z6 z7 c0 c4 c7 f4 f5 hwa hst7 hln7 HST HLN
    have z5 := hl7.cell 5
    have f5 := Lib.frozen_of_heap hl7 5
    replace z5 : _ = some (Value.int .u32 y.imm) := z5
    clear hl7
    go_upto_region 10 with fail
    generalize (w7.setCell ⟨w.heap.size, 5, none⟩ (.int .u32 0)) = w9 at *
    clear z5 f5
    generalize noImm y = yy at *
    generalize rels ++ [⟨(bytes.length : Int) + 4, 1, SN, y.imm⟩] = rels9 at *
  case' inr.inr.inr =>
    have hne3 : SD.toList.isEmpty = false := by rw [hne1]; simp [hd]
    have HRS : Hid (res = some (rels ++ [⟨(bytes.length : Int) + 4, 1, own, 8 * (k : Int)⟩], bytes ++ encL (noImm y))) := Lib.hid (by rw [HL1.out, if_neg hd, hk])
    have HOK : Hid (insOk (noImm y) = true) := Lib.hid (by
      rcases HM.out.2.2.2.2 with ⟨h, -, -⟩ | ⟨-, -, h⟩
      · exact absurd h hd
      · exact h)
    have HYI := HNI
    clear hne1 hne2
    go_upto_region 2 with fail
    have hlk : (Instr.lookup 194 (.map (some gb)) (.string SD) true).run Tryz.prog wA.drew = .ok (.tuple #[.int .u32 (8 * (((some k : Option Nat).getD 0 : Nat) : Int)), .bool (some k : Option Nat).isSome]) wA.drew := by
      have := HMAP.out.drew.look_ok keyedS Tryz.underlying194 Tryz.underlying9 (zeroU32 _) hdl
      rw [HV.out, HI.out, hk] at this
      exact this
    obtain ⟨RS, HSD⟩ : ∃ RS : World → Prop, ∀ w', RS w' ↔ w' = wA.drew := ⟨_, fun _ => Iff.rfl⟩
    have r0 : ∀ z : HW RS, z.u.cell? ⟨w.heap.size, 6, none⟩ = some (.string SD) := fun z => by rw [(HSD _).1 z.h]; exact z6
    have r7 : ∀ z : HW RS, z.u.cell? ⟨mb, 7, none⟩ = some (.map (some gb)) := fun z => by rw [(HSD _).1 z.h]; exact c7
    have rl : ∀ z : HW RS, (Instr.lookup 194 (.map (some gb)) (.string SD) true).run Tryz.prog z.u = .ok (.tuple #[.int .u32 (8 * (((some k : Option Nat).getD 0 : Nat) : Int)), .bool (some k : Option Nat).isSome]) z.u := fun z => by rw [(HSD _).1 z.h]; exact hlk
    haveI : Nonempty (HW RS) := ⟨⟨_, (HSD _).2 rfl⟩⟩
    refine wp_region_marks RS [.r, .r, .r, .r, .r, .r, .r, .r, .r, .r, .r, .p] rfl (by kernel_rfl) ((HSD _).2 rfl) ?_
    repeat (refine wpReads_step (fun K hK => ?_); go_simp; refine hK _ ?_; clear hK K)
    refine wpReads_nil ?_
    refine wpTurns_nil ?_
    simp only [pickP]
    clear r0 r7 rl hlk HSD
    go_wp2_with fail
    refine NoPanic.normal ?_
    have STB := Lib.hid HST.out.drew
    have LNB : Hid (LnAt w.heap.size ⟨lab, y, dd, nn⟩ wA.drew) := HLN
    have b0 : wA.drew.cell? ⟨mb, 0, none⟩ = some (.string own) := c0
    clear hd hk HMAP HV HI HL1 HM HNI HXI z5 z6 z7 c0 c4 c7 f4 f5 hwa HST HLN
    generalize wA.drew = wB at *
    go_upto_region 5 with fail
    go_wp2_with fail
    refine (place33 _ _ _ STB.out HBL.out HR0.out).mono ?_
    rintro e w7 ⟨rfl, ⟨v9, hst7⟩, hln7⟩
    have hl7 := hln7 _ _ LNB.out
    have ST9 := Lib.hid (hst7.setLn hl7 hl0 5 (.int .u32 0))
    have LN9 := Lib.hid (lnAt_imm hl7)
    clear b0 hst7 hln7 STB LNB
    have z5 := hl7.cell 5
    have f5 := Lib.frozen_of_heap hl7 5
    replace z5 : _ = some (Value.int .u32 y.imm) := z5
    clear hl7
    go_upto_region 10 with fail
    generalize (w7.setCell ⟨w.heap.size, 5, none⟩ (.int .u32 0)) = w9 at *
    clear z5 f5
    generalize noImm y = yy at *
    generalize rels ++ [⟨(bytes.length : Int) + 4, 1, own, 8 * (k : Int)⟩] = rels9 at *
  all_goals
    have HENC : Hid (∀ W, Calls Tryz.prog 160 #[insV yy] W fun e w' => e = .returned (.tuple #[.string (bsOf (encL yy)), .int .i64 0]) ∧ Below W.heap.size W w') := Lib.hid fun W => (insEnc33 yy W HYI.out).mono fun e w' h => ⟨by rw [h.1, encE, if_pos HOK.out], h.2⟩
    have z1 := LN9.out.cell 1
    have z2 := LN9.out.cell 2
    have z3 := LN9.out.cell 3
    have z4 := LN9.out.cell 4
    have z5 := LN9.out.cell 5
    have hel : (encL yy).length = 8 := encL_len yy
    have hz9 : w.heap.size < w9.heap.size := LN9.out.lt
    generalize encL yy = EL at HENC hel HRS
    obtain ⟨op, xd, xa, xb, xi⟩ := yy
    replace z1 : _ = some (Value.int .u8 op) := z1
    replace z2 : _ = some (Value.int .u8 xd) := z2
    replace z3 : _ = some (Value.int .u8 xa) := z3
    replace z4 : _ = some (Value.int .u8 xb) := z4
    replace z5 : _ = some (Value.int .u32 xi) := z5
    unfold insV at HENC
    simp only [] at HENC
    go_wp2_with fail
    refine (HENC.out _).mono ?_
    rintro e wC ⟨rfl, hB⟩
    have STC := Lib.hid (ST9.out.keep hB)
    obtain ⟨-, c4, -, f4⟩ := STC.out.cell4
    have q1 : ¬ 9223372036854775807 < (bsOf bytes).size + (bsOf EL).size := by rw [bsOf_size, bsOf_size]; have := HBL.out; omega
    have HST2 := Lib.hid (STC.out.setBytes (bytes ++ EL))
    rw [← bsOf_cat bytes EL] at HST2
    clear hB z1 z2 z3 z4 z5 hel
    generalize bsOf bytes = SB at *
    generalize bsOf EL = SE at *
    go_wp2
    go_ret
    rw [HRS.out]
    exact ⟨rfl, _, HST2.out⟩
end Go.Proofs.YtoonkfhphbojcaaGreatDoor
