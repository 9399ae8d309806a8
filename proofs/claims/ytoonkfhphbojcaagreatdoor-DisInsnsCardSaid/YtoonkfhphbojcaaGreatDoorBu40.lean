/- The walk of dis.Lines. -/
import Derived.Test.YtoonkfhphbojcaaGreatDoorBu39
import Derived.Test.YtoonkfhphbojcaaGreatDoorBu22
namespace Go.Proofs.YtoonkfhphbojcaaGreatDoor
open Go.RowKit Go.Maps
def textL (l : List GLine) : BL := l.flatMap fun x => lineL x ++ [10]
theorem decD_fits {n : Int} (h : n < 16) : (decD n.toNat).length ≤ 10 := decD_len10 (by omega)
theorem lineOk_len {x : GLine} (hx : LineB x) (h : lineOk x = true) : (placeL x).length ≤ 44 ∧ (lineL x ++ [10]).length ≤ 200 := by
  unfold lineOk at h
  simp only [Bool.and_eq_true] at h
  obtain ⟨h0, ht⟩ := h
  obtain ⟨-, -, h3, h4, -⟩ := tellMay_parts ht
  have e0 := nameOk_len h0
  have e3 := nameOk_len h3
  have e4 := nameOk_len h4
  have e1 : (decD x.x.imm.toNat).length ≤ 10 := decD_len10 (by have := hx.x.2.2.2.2; omega)
  have hp : (placeL x).length ≤ 44 := by
    unfold placeL
    split
    · split
      · omega
      · simp; omega
    · simp; omega
  refine ⟨hp, ?_⟩
  have h2 := nameL_len x.x.op
  obtain ⟨-, ⟨d0, d1⟩, ⟨a0, a1⟩, ⟨b0, b1⟩, -⟩ := hx.x
  have k1 : (decD x.x.d.toNat).length ≤ 10 := decD_len10 (by omega)
  have k2 : (decD x.x.a.toNat).length ≤ 10 := decD_len10 (by omega)
  have k3 : (decD x.x.b.toNat).length ≤ 10 := decD_len10 (by omega)
  have kt : (toldL x.x (placeL x)).length ≤ 100 := by
    unfold toldL
    simp only [List.length_append]
    split <;> split <;> split <;> split <;> simp <;> omega
  unfold lineL
  simp only [List.length_append, List.length_singleton]
  split
  · simp; omega
  · simp; omega
theorem lineOk_use {x : GLine} (h : lineOk x = true) : useOf x.x.op ≠ 0 := by
  unfold lineOk at h
  simp only [Bool.and_eq_true] at h
  obtain ⟨-, -, -, -, h5⟩ := tellMay_parts h.2
  have hu : insOk x.x = true ∨ insOk (noImm x.x) = true := by
    rcases h5 with ⟨-, -, h5⟩ | ⟨-, -, h5⟩
    · exact .inl h5
    · exact .inr h5
  unfold insOk at hu
  simp only [Bool.and_eq_true, decide_eq_true_eq, noImm] at hu
  rcases hu with hu | hu
  · exact hu.1.1.1.1
  · exact of_decide_eq_true hu.1.1.1.1
def linesE (l : List GLine) : Ending := if l.all lineOk then .returned (.tuple #[.string (bsOf (textL l)), .int .i64 0]) else .returned (.tuple #[.string ⟨#[]⟩, .int .i64 2])
set_option maxHeartbeats 8000000 in
set_option maxRecDepth 100000 in
theorem dLines33 (l : List GLine) (vl : Value) (w : World) (hL : Lib33 w) (hl : RowAt 8 LineR w vl l) (hn : l.length ≤ 100000) :
    Calls Tryz.prog 15 #[vl] w fun e w' => e = linesE l ∧ Below w.heap.size w w' := by
  have HL := Lib.hid hL
  clear hL
  have HC0 : Hid (CodeSt w [] (w.alloc (.cells #[.pointer none, .slice none 0 0] 83))) := Lib.hid ⟨Lib.fresh_isBuilder _ _ w, alloc_old w _, fun _ => new_block w _⟩
  obtain ⟨p, cap, b, o, rfl, hcap, hmax, hp, hc⟩ := hl
  have HP := Lib.hid hp
  have HC := Lib.hid hc
  clear hp hc
  have HED : Hid (linesE l = if l.all lineOk then .returned (.tuple #[.string (bsOf (textL l)), .int .i64 0]) else .returned (.tuple #[.string ⟨#[]⟩, .int .i64 2])) := Lib.hid rfl
  generalize linesE l = EE at HED ⊢
  go_enter Tryz.func15, Tryz.ntmps15
  go_upto_region 3 with fail
  go_loopw [11] (fun v11 wr => ∃ k : Nat, k ≤ l.length ∧ v11 = .int .i64 k ∧ (l.take k).all lineOk = true ∧ (textL (l.take k)).length ≤ 200 * k ∧ CodeSt w (textL (l.take k)) wr) (fun v11 _ => l.length - (intOf v11).toNat)
  case atStart => exact ⟨0, Nat.zero_le _, rfl, rfl, by simp [textL], HC0.out⟩
  case round =>
    obtain ⟨k, hk, rfl, hall, hlen, hst⟩ := hrel
    have HALL := Lib.hid hall; clear hall
    have HST := Lib.hid hst; clear hst HC0
    by_cases hlt : k < l.length
    · obtain rfl := HP.out (by omega)
      obtain ⟨hb0, y0, y1, y2, y3, y4, y5, y6, y7, hlb⟩ := lineR_keeps _ _ _ _ _ HST.out.bel (HC.out k hlt)
      have HNO : Hid (lineOk l[k] = false → EE = .returned (.tuple #[.string ⟨#[]⟩, .int .i64 2])) := Lib.hid fun h => by
        rw [HED.out, if_neg (by
          intro ha
          rw [List.all_eq_true] at ha
          have := ha l[k] (List.getElem_mem hlt)
          rw [h] at this; cases this)]
      have HTK : Hid (l.take (k + 1) = l.take k ++ [l[k]]) := Lib.hid (by rw [List.take_succ_eq_append_getElem hlt])
      have HLO : Hid (lineOk l[k] = (nameOk l[k].label && tellMay l[k])) := Lib.hid rfl
      have HNM := Lib.hid (fun W => disName33 l[k].label W (by have := hlb.label; omega))
      have HCK := Lib.hid (fun W => check33 l[k] W hlb)
      generalize l[k] = x at *
      have HLB := Lib.hid hlb
      have HLN := Lib.hid (fun W (hW : Lib33 W) (hok : lineOk x = true) => dline33 x W hW hlb (lineOk_use hok) (by have := (lineOk_len hlb hok).1; omega))
      have HSZ := Lib.hid (fun hok : lineOk x = true => lineOk_len hlb hok)
      clear hlb
      generalize nameOk x.label = n1 at HNM HLO
      generalize tellMay x = n2 at HCK HLO
      have HST1 := Lib.hid (HST.out.keep (alloc_old wr (.cells (lineA x) 59)))
      have hX1 := new_block wr (.cells (lineA x) 59)
      generalize hLX : lineL x = LX at *
      have HTX : Hid (textL (l.take (k + 1)) = textL (l.take k) ++ (LX ++ [10])) := Lib.hid (by rw [HTK.out]; unfold textL; rw [List.flatMap_append]; simp [hLX])
      have HAX : Hid (lineOk x = true → (l.take (k + 1)).all lineOk = true) := Lib.hid fun h => by rw [HTK.out, List.all_append, HALL.out]; simp [h]
      clear hLX
      generalize textL (l.take k) = TK at *
      generalize lineOk x = okx at *
      unfold lineV lineA at HCK HLN
      unfold lineA at HST1 hX1
      obtain ⟨lab, ⟨op, xd, xa, xb, xi⟩, dd, nn⟩ := x
      simp only [] at y0 y1 y2 y3 y4 y5 y6 y7 HNM HCK HLN HST1 hX1
      have k1 : bsOf LX ++ ByteArray.mk #[10] = bsOf (LX ++ [10]) := bsOf_cat _ [10]
      generalize bsOf lab = SL at *
      generalize bsOf dd = SD at *
      generalize bsOf nn = SN at *
      go_upto_region 5 with fail
      generalize (wr.alloc (.cells #[.string SL, .int .u8 op, .int .u8 xd, .int .u8 xa, .int .u8 xb, .int .u32 xi, .string SD, .string SN] 59)) = w1 at *
      have z0 : w1.cell? ⟨wr.heap.size, 0, none⟩ = some (.string SL) := Lib.cell_of_heap hX1 0
      have hlt1 : wr.heap.size < w1.heap.size := (Array.getElem?_eq_some_iff.1 hX1).1
      clear y0 y1 y2 y3 y4 y5 y6 y7
      go_wp2_with fail
      refine (HNM.out _).mono ?_
      rintro e w2 ⟨rfl, hB⟩
      have HST2 := Lib.hid (HST1.out.keep hB)
      have hX2 := (hB.block wr.heap.size hlt1).trans hX1
      clear hB z0 hX1 HST1 hlt1
      cases n1 with
      | false =>
        have HR := Lib.hid (HNO.out (by rw [HLO.out]; rfl))
        go_wp2
        go_ret2
        exact ⟨by rw [HR.out]; rfl, HST2.out.bel⟩
      | true =>
        have z0 : w2.cell? ⟨wr.heap.size, 0, none⟩ = some (.string SL) := Lib.cell_of_heap hX2 0
        have z1 : w2.cell? ⟨wr.heap.size, 1, none⟩ = some (.int .u8 op) := Lib.cell_of_heap hX2 1
        have z2 : w2.cell? ⟨wr.heap.size, 2, none⟩ = some (.int .u8 xd) := Lib.cell_of_heap hX2 2
        have z3 : w2.cell? ⟨wr.heap.size, 3, none⟩ = some (.int .u8 xa) := Lib.cell_of_heap hX2 3
        have z4 : w2.cell? ⟨wr.heap.size, 4, none⟩ = some (.int .u8 xb) := Lib.cell_of_heap hX2 4
        have z5 : w2.cell? ⟨wr.heap.size, 5, none⟩ = some (.int .u32 xi) := Lib.cell_of_heap hX2 5
        have z6 : w2.cell? ⟨wr.heap.size, 6, none⟩ = some (.string SD) := Lib.cell_of_heap hX2 6
        have z7 : w2.cell? ⟨wr.heap.size, 7, none⟩ = some (.string SN) := Lib.cell_of_heap hX2 7
        go_wp2_with fail
        refine (HCK.out _).mono ?_
        rintro e w3 ⟨rfl, hB⟩
        have HST3 := Lib.hid (HST2.out.keep hB)
        have hX3 := (hB.block wr.heap.size (Array.getElem?_eq_some_iff.1 hX2).1).trans hX2
        clear hB z0 z1 z2 z3 z4 z5 z6 z7 hX2 HST2
        cases n2 with
        | false =>
          have HR := Lib.hid (HNO.out (by rw [HLO.out]; rfl))
          go_wp2
          go_ret2
          exact ⟨by rw [HR.out]; rfl, HST3.out.bel⟩
        | true =>
          have hokx : okx = true := by rw [HLO.out]; rfl
          subst hokx
          have HSZ2 := Lib.hid (HSZ.out rfl)
          have q1 : ¬ 9223372036854775807 < (bsOf LX).size + (ByteArray.mk #[10]).size := by rw [bsOf_size]; have := HSZ2.out.2; simp at this; simp [ByteArray.size]; omega
          have q2 : ¬ 9223372036854775807 < (bsOf LX).size + 1 := by rw [bsOf_size]; have := HSZ2.out.2; simp at this; omega
          go_upto_region 7 with fail
          obtain ⟨RS, HSD⟩ : ∃ RS : World → Prop, ∀ w', RS w' ↔ BX w.heap.size w' wr.heap.size 59 #[.string SL, .int .u8 op, .int .u8 xd, .int .u8 xa, .int .u8 xb, .int .u32 xi, .string SD, .string SN] := ⟨_, fun _ => Iff.rfl⟩
          have r0 : ∀ z : HW RS, z.u.cell? ⟨wr.heap.size, 0, none⟩ = some (.string SL) := fun z => ((HSD _).1 z.h).cell 0
          have r1 : ∀ z : HW RS, z.u.cell? ⟨wr.heap.size, 1, none⟩ = some (.int .u8 op) := fun z => ((HSD _).1 z.h).cell 1
          have r2 : ∀ z : HW RS, z.u.cell? ⟨wr.heap.size, 2, none⟩ = some (.int .u8 xd) := fun z => ((HSD _).1 z.h).cell 2
          have r3 : ∀ z : HW RS, z.u.cell? ⟨wr.heap.size, 3, none⟩ = some (.int .u8 xa) := fun z => ((HSD _).1 z.h).cell 3
          have r4 : ∀ z : HW RS, z.u.cell? ⟨wr.heap.size, 4, none⟩ = some (.int .u8 xb) := fun z => ((HSD _).1 z.h).cell 4
          have r5 : ∀ z : HW RS, z.u.cell? ⟨wr.heap.size, 5, none⟩ = some (.int .u32 xi) := fun z => ((HSD _).1 z.h).cell 5
          have r6 : ∀ z : HW RS, z.u.cell? ⟨wr.heap.size, 6, none⟩ = some (.string SD) := fun z => ((HSD _).1 z.h).cell 6
          have r7 : ∀ z : HW RS, z.u.cell? ⟨wr.heap.size, 7, none⟩ = some (.string SN) := fun z => ((HSD _).1 z.h).cell 7
          have hbx3 : BX w.heap.size w3.drew wr.heap.size 59 #[.string SL, .int .u8 op, .int .u8 xd, .int .u8 xa, .int .u8 xb, .int .u32 xi, .string SD, .string SN] := ⟨by have := HST.out.lt; omega, by decide, hX3⟩
          have hS0 : RS w3.drew := (HSD _).2 hbx3
          have HS := Lib.hid HSD; clear HSD
          haveI : Nonempty (HW RS) := ⟨⟨_, hS0⟩⟩
          refine wp_region_turn RS rfl (n := 7) rfl rfl ?_
          refine wpAnyS_take [0, 1, 2, 3] (by kernel_rfl) (by kernel_rfl) (n := 3) rfl rfl rfl hS0 ?_
          (refine wpReads_step (fun K hK => ?_); go_simp; refine hK _ ?_; clear hK K)
          (refine wpReads_step (fun K hK => ?_); go_simp; refine hK _ ?_; clear hK K)
          (refine wpReads_step (fun K hK => ?_); go_simp; refine hK _ ?_; clear hK K)
          (refine wpReads_step (fun K hK => ?_); go_simp; refine hK _ ?_; clear hK K)
          refine wpReads_nil ?_
          clear r0 r1 r2 r3 r4 r5 r6 r7 hS0
          refine wpAnyS_one (i := 4) (by kernel_rfl) rfl (fun K hK => ?_)
          refine step_callW rfl 53 #[.tmp 27] #[59] rfl Tryz.func53 (by kernel_rfl) (by kernel_rfl) #[.agg #[.string SL, .int .u8 op, .int .u8 xd, .int .u8 xa, .int .u8 xb, .int .u32 xi, .string SD, .string SN]] (by simp [Act.eval]) (HLN.out _ (HST3.out.drew.lib HL.out) (by trivial)) ?_
          rintro e w4 ⟨rfl, hB⟩
          have HST4 := Lib.hid (HST3.out.drew.keep hB)
          have hbx4 := hbx3.keep (KN.of_below hB)
          clear hB hX3 HST3 hbx3
          refine ⟨_, rfl, hK _ _ ((HS.out _).2 hbx4) ?_⟩
          clear hK K
          simp only [Act.put, List.setIfInBounds_toArray, List.set_cons_zero, List.set_cons_succ]
          refine wpAnyS_one (i := 5) (by kernel_rfl) rfl (fun K hK => ?_)
          go_simp; refine hK _ _ ((HS.out _).2 hbx4) ?_; clear hK K
          have HWS := Lib.hid (writeString_any w.heap.size w.heap.size TK (bsOf (LX ++ [10])) w4 HST4.out.wr (by rw [bsOf_size]; have := HSZ2.out.2; omega) (by have := HST4.out.bel.size; omega))
          clear q1 q2 k1
          generalize hSX : bsOf (LX ++ [10]) = SX at *
          refine wpAnyS_one (i := 6) (by kernel_rfl) rfl (fun K hK => ?_)
          refine step_callW rfl 47 #[.tmp 26, .tmp 29] #[81, 9] rfl Tryz.func47 (by kernel_rfl) (by kernel_rfl) #[.pointer (some ⟨w.heap.size, 0, none⟩), .string SX] (by simp [Act.eval]) HWS.out ?_
          rintro e w5 ⟨rfl, hP⟩
          have hbx5 := hbx4.keep hP.2.2
          have HST5 : Hid (CodeSt w (textL (l.take (k + 1))) w5) := Lib.hid (by
            rw [HTX.out]
            rw [← hSX, bsOf_list] at hP
            exact HST4.out.post (by simp) hP)
          have hlen5 : (textL (l.take (k + 1))).length ≤ 200 * (k + 1) := by rw [HTX.out, List.length_append]; have := HSZ2.out.2; omega
          clear hP hSX HWS HST4
          refine ⟨_, rfl, hK _ _ ((HS.out _).2 hbx5) ?_⟩
          clear hK K
          simp only [Act.put, List.setIfInBounds_toArray, List.set_cons_zero, List.set_cons_succ]
          refine wpAnyS_done (by kernel_rfl) (NoPanic.normal ?_)
          go_wp2
          go_roundw
          case rel => exact ⟨k + 1, by omega, by go_num, HAX.out (by trivial), hlen5, HST5.out⟩
          case measure => simp [intOf]; omega
    · obtain rfl : k = l.length := by omega
      rw [List.take_length] at HALL HST
      have HR : Hid (EE = .returned (.tuple #[.string (bsOf (textL l)), .int .i64 0])) := Lib.hid (by rw [HED.out, if_pos HALL.out])
      generalize textL l = TK at *
      by_cases hl0 : TK = []
      · have HS := Lib.hid (string_fresh w.heap.size wr (HST.out.nil hl0))
        subst hl0
        go_wp2_with fail
        refine HS.out.mono ?_
        rintro e w3 ⟨rfl, hB⟩
        go_wp2
        go_ret2
        exact ⟨by rw [HR.out]; rfl, HST.out.bel.trans (hB.mono HST.out.bel.size)⟩
      · have HS := Lib.hid (string_any w.heap.size w.heap.size TK wr HST.out.wr hl0)
        clear hl0
        go_wp2_with fail
        refine HS.out.mono ?_
        rintro e w3 ⟨rfl, hB⟩
        go_wp2
        go_ret2
        exact ⟨by rw [HR.out]; rfl, HST.out.bel.trans hB⟩
end Go.Proofs.YtoonkfhphbojcaaGreatDoor
