/- The walk of ref33.readLine. -/
import Derived.Test.YtoonkfhphbojcaaGreatDoorBv40
import Derived.Test.YtoonkfhphbojcaaGreatDoorBv39
import Derived.Test.YtoonkfhphbojcaaGreatDoorBv32
namespace Go.Proofs.YtoonkfhphbojcaaGreatDoor
open Go.RowKit Go.Maps
theorem labI_room (s : BL) : ∀ k, k + 1 ≤ s.length → labI s k = [] ∨ (labI s k).length + 2 ≤ s.length
  | 0, _ => .inl rfl
  | k + 1, h => by
    rw [labI_succ]
    unfold labStep
    split
    · right; simp; omega
    · exact labI_room s k (by omega)
theorem u8_ne {c d : UInt8} {n : Int} (h : ¬ c = d) (hn : ((d.toNat : Nat) : Int) = n) : ¬ ((c.toNat : Nat) : Int) = n := by
  intro e
  apply h
  rw [← UInt8.toNat_inj]
  omega
theorem str_eq33 (a b : BL) : ((bsOf a).toList == (bsOf b).toList) = decide (a = b) := by
  by_cases h : a = b
  · subst h; simp
  · rw [beq_ne h]; simp [h]
def readLnRV (r : GLine × Bool) : Value := .tuple #[lineV r.1, .bool r.2]
set_option maxHeartbeats 4000000 in
set_option maxRecDepth 100000 in
theorem rreadLine33 (hpars : Hid RPars33) (s : BL) (w : World) (hs : s.length ≤ 100000) : Calls Tryz.prog 61 #[.string (bsOf s)] w fun e w' => e = .returned (readLnRV (readLnR s)) ∧ Below w.heap.size w w' := by
  have HRD : Hid (readLnR s = ((lnR s).1, (lnR s).2 && (lineOk (lnR s).1 && decide (lineL (lnR s).1 = s)))) := Lib.hid rfl
  have HLR : Hid (lnR s = (⟨labR s, ⟨(parsedR (cutAt 32 (restR s))).1.op, (parsedR (cutAt 32 (restR s))).1.d, (parsedR (cutAt 32 (restR s))).1.a, (parsedR (cutAt 32 (restR s))).1.b, (immR (parsedR (cutAt 32 (restR s))).1.imm (parsedR (cutAt 32 (restR s))).2.1).2.1⟩, (immR (parsedR (cutAt 32 (restR s))).1.imm (parsedR (cutAt 32 (restR s))).2.1).1, (immR (parsedR (cutAt 32 (restR s))).1.imm (parsedR (cutAt 32 (restR s))).2.1).2.2.1⟩, (parsedR (cutAt 32 (restR s))).2.2 && (immR (parsedR (cutAt 32 (restR s))).1.imm (parsedR (cutAt 32 (restR s))).2.1).2.2.2)) := Lib.hid rfl
  have HLB := Lib.hid (lnR_B s hs)
  have HRR : Hid (restR s = if labR s = [] then s else s.drop ((labR s).length + 2)) := Lib.hid rfl
  have HLD : Hid (labR s = labI s (s.length - 1)) := Lib.hid rfl
  have hrl := restR_len s
  have hss := bsOf_size s
  generalize readLnR s = RES at HRD ⊢
  generalize lnR s = LN at HRD HLR HLB
  generalize restR s = rest at HLR HRR hrl
  have HB1 := Lib.hid ((alloc_old w (.cells #[.string ⟨#[]⟩, .int .u8 0, .int .u8 0, .int .u8 0, .int .u8 0, .int .u32 0, .string ⟨#[]⟩, .string ⟨#[]⟩] 59)).alloc (by simp) (.cells #[.string ⟨#[]⟩, .int .u8 0, .int .u8 0, .int .u8 0, .int .u8 0, .int .u32 0, .string ⟨#[]⟩, .string ⟨#[]⟩] 59))
  have hR1 := (Below.heap_alloc (w.alloc (.cells #[.string ⟨#[]⟩, .int .u8 0, .int .u8 0, .int .u8 0, .int .u8 0, .int .u32 0, .string ⟨#[]⟩, .string ⟨#[]⟩] 59)) (.cells #[.string ⟨#[]⟩, .int .u8 0, .int .u8 0, .int .u8 0, .int .u8 0, .int .u32 0, .string ⟨#[]⟩, .string ⟨#[]⟩] 59) w.heap.size (by simp)).trans (new_block w (.cells #[.string ⟨#[]⟩, .int .u8 0, .int .u8 0, .int .u8 0, .int .u8 0, .int .u32 0, .string ⟨#[]⟩, .string ⟨#[]⟩] 59))
  have hX1 := new_block (w.alloc (.cells #[.string ⟨#[]⟩, .int .u8 0, .int .u8 0, .int .u8 0, .int .u8 0, .int .u32 0, .string ⟨#[]⟩, .string ⟨#[]⟩] 59)) (.cells #[.string ⟨#[]⟩, .int .u8 0, .int .u8 0, .int .u8 0, .int .u8 0, .int .u32 0, .string ⟨#[]⟩, .string ⟨#[]⟩] 59)
  rw [show (w.alloc (.cells #[.string ⟨#[]⟩, .int .u8 0, .int .u8 0, .int .u8 0, .int .u8 0, .int .u32 0, .string ⟨#[]⟩, .string ⟨#[]⟩] 59)).heap.size = w.heap.size + 1 by simp] at hX1
  go_enter Tryz.func61, Tryz.ntmps61
  go_upto_region 2 with fail
  generalize ((w.alloc (.cells #[.string ⟨#[]⟩, .int .u8 0, .int .u8 0, .int .u8 0, .int .u8 0, .int .u32 0, .string ⟨#[]⟩, .string ⟨#[]⟩] 59)).alloc (.cells #[.string ⟨#[]⟩, .int .u8 0, .int .u8 0, .int .u8 0, .int .u8 0, .int .u32 0, .string ⟨#[]⟩, .string ⟨#[]⟩] 59)) = w1 at *
  obtain ⟨xb, HXB⟩ : ∃ xb, Hid (xb = w.heap.size + 1) := ⟨_, Lib.hid rfl⟩
  obtain ⟨rb, HRB⟩ : ∃ rb, Hid (rb = w.heap.size) := ⟨_, Lib.hid rfl⟩
  rw [← HXB.out] at hX1 ⊢
  rw [← HRB.out] at hR1 ⊢
  have hx0 : w.heap.size ≤ xb := by have := HXB.out; omega
  have hr0 : w.heap.size ≤ rb := by have := HRB.out; omega
  have hxr : xb ≠ rb := by have := HXB.out; have := HRB.out; omega
  clear HXB HRB
  go_wp2
  go_loopw [5] (fun v5 wr => ∃ k : Nat, k ≤ s.length - 1 ∧ v5 = .int .i64 k ∧ wr.heap[xb]? = some (.cells #[.string (bsOf (labI s k)), .int .u8 0, .int .u8 0, .int .u8 0, .int .u8 0, .int .u32 0, .string ⟨#[]⟩, .string ⟨#[]⟩] 59 (0, 0)) ∧ wr.heap[rb]? = some (.cells #[.string ⟨#[]⟩, .int .u8 0, .int .u8 0, .int .u8 0, .int .u8 0, .int .u32 0, .string ⟨#[]⟩, .string ⟨#[]⟩] 59 (0, 0)) ∧ Below w.heap.size w wr) (fun v5 _ => s.length - (intOf v5).toNat)
  case atStart => exact ⟨0, Nat.zero_le _, rfl, hX1, hR1, HB1.out⟩
  case round =>
    obtain ⟨k, hk, rfl, hx, hr, hbel⟩ := hrel
    have HB := Lib.hid hbel
    clear hbel
    by_cases hlt : k + 1 < s.length
    · have a0 : ∀ h : k < (bsOf s).size, (bsOf s)[k]'h = s[k]'(by omega) := fun _ => rfl
      have a1 : ∀ h : k + 1 < (bsOf s).size, (bsOf s)[k + 1]'h = s[k + 1]'(by omega) := fun _ => rfl
      have hlab := labI_succ s k
      have HST : Hid (labI s (k + 1) = if s[k]'(by omega) = 58 ∧ s[k + 1]'(by omega) = 32 ∧ labI s k = [] then s.take k else labI s k) := Lib.hid (by
        rw [hlab]
        unfold labStep
        rw [List.getD_eq_getElem?_getD, List.getD_eq_getElem?_getD, List.getElem?_eq_getElem (show k < s.length by omega), List.getElem?_eq_getElem hlt]
        rfl)
      have hne := bs_nil33 (labI s k)
      have hext := ext_take s k
      have z0 := Lib.cell_of_heap hx 0
      have f0 := Lib.frozen_of_heap hx 0
      simp only [List.getElem?_toArray, List.getElem?_cons_zero] at z0
      have HNX := Lib.hid (set33 hx 0 (.string (bsOf (s.take k))))
      have HNR := Lib.hid ((Below.heap_setCell wr ⟨xb, 0, none⟩ (.string (bsOf (s.take k))) rb (by simpa using hxr.symm)).trans hr)
      have HNB := Lib.hid (HB.out.setCell (p := ⟨xb, 0, none⟩) hx0 (.string (bsOf (s.take k))))
      simp only [List.setIfInBounds_toArray, List.set_cons_zero] at HNX
      have HNXB := HNX
      have HX := Lib.hid hx
      have HR := Lib.hid hr
      clear hlab hx hr
      generalize s[k]'(by omega) = c0 at *
      generalize s[k + 1]'(by omega) = c1 at *
      generalize hlk : labI s k = lk at *
      clear hlk
      obtain ⟨STK, HSTK⟩ : ∃ S, Hid (bsOf (s.take k) = S) := ⟨_, Lib.hid rfl⟩
      rw [HSTK.out] at HNX HNXB HNR HNB hext
      by_cases e1 : c0 = 58
      · by_cases e2 : c1 = 32
        · by_cases e3 : lk = []
          · have hem : (bsOf lk).toList.isEmpty = true := by rw [hne]; simp [e3]
            have HL2 : Hid (labI s (k + 1) = s.take k) := Lib.hid (by rw [HST.out, if_pos ⟨e1, e2, e3⟩])
            subst e1
            subst e2
            have q1 : (58 : UInt8).toNat = 58 := rfl
            have q2 : (32 : UInt8).toNat = 32 := rfl
            clear e3 hne HST
            go_wp2
            generalize (wr.setCell ⟨xb, 0, none⟩ (.string STK)) = w3 at *
            go_roundw
            case rel => exact ⟨k + 1, by omega, by go_num, by rw [HL2.out, HSTK.out]; exact HNXB.out, HNR.out, HNB.out⟩
            case measure => simp [intOf]; omega
          · have hem : (bsOf lk).toList.isEmpty = false := by rw [hne]; simp [e3]
            have HL2 : Hid (labI s (k + 1) = lk) := Lib.hid (by rw [HST.out, if_neg (fun h => e3 h.2.2)])
            subst e1
            subst e2
            have q1 : (58 : UInt8).toNat = 58 := rfl
            have q2 : (32 : UInt8).toNat = 32 := rfl
            clear e3 hne HST
            go_wp2
            go_roundw
            case rel => exact ⟨k + 1, by omega, by go_num, by rw [HL2.out]; exact HX.out, HR.out, HB.out⟩
            case measure => simp [intOf]; omega
        · have HL2 : Hid (labI s (k + 1) = lk) := Lib.hid (by rw [HST.out, if_neg (fun h => e2 h.2.1)])
          subst e1
          have q1 : (58 : UInt8).toNat = 58 := rfl
          have q2 : ¬ ((c1.toNat : Nat) : Int) = 32 := u8_ne e2 rfl
          clear hne HST e2
          go_wp2
          go_roundw
          case rel => exact ⟨k + 1, by omega, by go_num, by rw [HL2.out]; exact HX.out, HR.out, HB.out⟩
          case measure => simp [intOf]; omega
      · have HL2 : Hid (labI s (k + 1) = lk) := Lib.hid (by rw [HST.out, if_neg (fun h => e1 h.1)])
        have q1 : ¬ ((c0.toNat : Nat) : Int) = 58 := u8_ne e1 rfl
        clear hne HST e1
        go_wp2
        go_roundw
        case rel => exact ⟨k + 1, by omega, by go_num, by rw [HL2.out]; exact HX.out, HR.out, HB.out⟩
        case measure => simp [intOf]; omega
    · have hk2 : k = s.length - 1 := by omega
      have HLK : Hid (labI s k = labR s) := Lib.hid (by rw [hk2, HLD.out])
      rw [HLK.out] at hx
      have hcd : ¬ k + 1 < s.length := hlt
      have hroom : labR s = [] ∨ (labR s).length + 2 ≤ s.length := by
        rw [← HLK.out]
        rcases Nat.lt_or_ge 0 s.length with h | h
        · exact labI_room s k (by omega)
        · left
          have : k = 0 := by omega
          rw [this]; rfl
      have hlr : (labR s).length ≤ s.length := labI_len s _
      clear HLK HLD hk2
      generalize labR s = lab at *
      have hls := bsOf_size lab
      have hne := bs_nil33 lab
      have z0 : wr.cell? ⟨xb, 0, none⟩ = some (.string (bsOf lab)) := Lib.cell_of_heap hx 0
      have hA : lab = [] ∨ lab ≠ [] := by
        by_cases h : lab = []
        · exact .inl h
        · exact .inr h
      go_upto_if 46 with fail
      obtain ⟨SR, HSR⟩ : ∃ SR, Hid (bsOf rest = SR) := ⟨_, Lib.hid rfl⟩
      go_cut [6] (fun v6 wx => v6 = .string SR ∧ wx = wr)
      case first =>
        rcases hA with hA | hA
        · have hem : (bsOf lab).toList.isEmpty = true := by rw [hne]; simp [hA]
          have hrs : Hid (bsOf s = SR) := Lib.hid (by rw [← HSR.out, HRR.out, if_pos hA])
          rw [show (!decide (lab = [])) = false by simp [hA]]
          clear hne hem hA
          go_wp2
          go_meet
          exact ⟨by rw [hrs.out], rfl⟩
        · have hem : (bsOf lab).toList.isEmpty = false := by rw [hne]; simp [hA]
          have hle : lab.length + 2 ≤ s.length := by
            rcases hroom with h | h
            · exact absurd h hA
            · exact h
          have hext := ext_drop s (lab.length + 2)
          have hrs : Hid (bsOf (s.drop (lab.length + 2)) = SR) := Lib.hid (by rw [← HSR.out, HRR.out, if_neg hA])
          rw [show (!decide (lab = [])) = true by simp [hA]]
          clear hne hem hA
          go_wp2
          go_meet
          exact ⟨by rw [hext, hrs.out], rfl⟩
      case rest =>
        obtain ⟨rfl, hw⟩ := hcut
        obtain rfl := hw.symm
        have HPA : Hid (∀ W, Calls Tryz.prog 43 #[.string SR] W fun e w' => e = .returned (parsRV (parsedR (cutAt 32 rest))) ∧ Below W.heap.size W w') := Lib.hid fun W => by
          rw [← HSR.out]
          exact hpars.out rest W (by omega)
        clear hA hne HRR hroom HSR
        go_upto_region 10 with fail
        have hpb := parsedR_bd (n := 100000) (ps := cutAt 32 rest) (fun p hp => by have := (cutAt_len 32 rest).2 p hp; omega)
        unfold parsRV insV at HPA
        generalize parsedR (cutAt 32 rest) = P at HPA HLR hpb
        obtain ⟨⟨op, xd, xa, xbb, xi⟩, imm, bis⟩ := P
        simp only [] at HPA HLR hpb
        obtain ⟨-, -, -, -, hxi, himl⟩ := hpb
        subst hxi
        clear z0 hrl
        have HX := Lib.hid hx
        have HR := Lib.hid hr
        clear hx hr
        go_wp2_with fail
        refine (HPA.out _).mono ?_
        rintro e w4 ⟨rfl, hB⟩
        have hX4 := (hB.block xb (Array.getElem?_eq_some_iff.1 HX.out).1).trans HX.out
        have hR4 := (hB.block rb (Array.getElem?_eq_some_iff.1 HR.out).1).trans HR.out
        have HB4 := Lib.hid (HB.out.trans (hB.mono HB.out.size))
        clear hB HX HR HB HPA
        have hB5 := HB4.out.alloc HB4.out.size (.cells #[.int .u8 op, .int .u8 xd, .int .u8 xa, .int .u8 xbb, .int .u32 0] 24)
        have hY5 := new_block w4 (.cells #[.int .u8 op, .int .u8 xd, .int .u8 xa, .int .u8 xbb, .int .u32 0] 24)
        have hX5 := (Below.heap_alloc w4 (.cells #[.int .u8 op, .int .u8 xd, .int .u8 xa, .int .u8 xbb, .int .u32 0] 24) xb (Array.getElem?_eq_some_iff.1 hX4).1).trans hX4
        have hR5 := (Below.heap_alloc w4 (.cells #[.int .u8 op, .int .u8 xd, .int .u8 xa, .int .u8 xbb, .int .u32 0] 24) rb (Array.getElem?_eq_some_iff.1 hR4).1).trans hR4
        have hyx : xb < w4.heap.size := (Array.getElem?_eq_some_iff.1 hX4).1
        go_upto_region 11 with fail
        generalize (w4.alloc (.cells #[.int .u8 op, .int .u8 xd, .int .u8 xa, .int .u8 xbb, .int .u32 0] 24)) = w5 at *
        clear hX4 hR4 HB4
        have y0 : w5.cell? ⟨w4.heap.size, 0, none⟩ = some (.int .u8 op) := Lib.cell_of_heap hY5 0
        have y1 : w5.cell? ⟨w4.heap.size, 1, none⟩ = some (.int .u8 xd) := Lib.cell_of_heap hY5 1
        have y2 : w5.cell? ⟨w4.heap.size, 2, none⟩ = some (.int .u8 xa) := Lib.cell_of_heap hY5 2
        have y3 : w5.cell? ⟨w4.heap.size, 3, none⟩ = some (.int .u8 xbb) := Lib.cell_of_heap hY5 3
        have y4 : w5.cell? ⟨w4.heap.size, 4, none⟩ = some (.int .u32 0) := Lib.cell_of_heap hY5 4
        have x1 : w5.cell? ⟨xb, 1, none⟩ = some (.int .u8 0) := Lib.cell_of_heap hX5 1
        have x2 : w5.cell? ⟨xb, 2, none⟩ = some (.int .u8 0) := Lib.cell_of_heap hX5 2
        have x3 : w5.cell? ⟨xb, 3, none⟩ = some (.int .u8 0) := Lib.cell_of_heap hX5 3
        have x4 : w5.cell? ⟨xb, 4, none⟩ = some (.int .u8 0) := Lib.cell_of_heap hX5 4
        have x5 : w5.cell? ⟨xb, 5, none⟩ = some (.int .u32 0) := Lib.cell_of_heap hX5 5
        have f1 := Lib.frozen_of_heap hX5 1
        have f2 := Lib.frozen_of_heap hX5 2
        have f3 := Lib.frozen_of_heap hX5 3
        have f4 := Lib.frozen_of_heap hX5 4
        have f5 := Lib.frozen_of_heap hX5 5
        have hX6 := (set33 (set33 (set33 (set33 (set33 hX5 1 (.int .u8 op)) 2 (.int .u8 xd)) 3 (.int .u8 xa)) 4 (.int .u8 xbb)) 5 (.int .u32 0))
        simp only [List.setIfInBounds_toArray, List.set_cons_zero, List.set_cons_succ] at hX6
        have hR6 := ((Below.heap_setCell ((((w5.setCell ⟨xb, 1, none⟩ (.int .u8 op)).setCell ⟨xb, 2, none⟩ (.int .u8 xd)).setCell ⟨xb, 3, none⟩ (.int .u8 xa)).setCell ⟨xb, 4, none⟩ (.int .u8 xbb)) ⟨xb, 5, none⟩ (.int .u32 0) rb (by simpa using hxr.symm)).trans ((Below.heap_setCell (((w5.setCell ⟨xb, 1, none⟩ (.int .u8 op)).setCell ⟨xb, 2, none⟩ (.int .u8 xd)).setCell ⟨xb, 3, none⟩ (.int .u8 xa)) ⟨xb, 4, none⟩ (.int .u8 xbb) rb (by simpa using hxr.symm)).trans ((Below.heap_setCell ((w5.setCell ⟨xb, 1, none⟩ (.int .u8 op)).setCell ⟨xb, 2, none⟩ (.int .u8 xd)) ⟨xb, 3, none⟩ (.int .u8 xa) rb (by simpa using hxr.symm)).trans ((Below.heap_setCell (w5.setCell ⟨xb, 1, none⟩ (.int .u8 op)) ⟨xb, 2, none⟩ (.int .u8 xd) rb (by simpa using hxr.symm)).trans ((Below.heap_setCell w5 ⟨xb, 1, none⟩ (.int .u8 op) rb (by simpa using hxr.symm)).trans hR5)))))
        have HB6 := Lib.hid (((((hB5.setCell (p := ⟨xb, 1, none⟩) hx0 (.int .u8 op)).setCell (p := ⟨xb, 2, none⟩) hx0 (.int .u8 xd)).setCell (p := ⟨xb, 3, none⟩) hx0 (.int .u8 xa)).setCell (p := ⟨xb, 4, none⟩) hx0 (.int .u8 xbb)).setCell (p := ⟨xb, 5, none⟩) hx0 (.int .u32 0))
        go_upto_region 12 with fail
        generalize (((((w5.setCell ⟨xb, 1, none⟩ (.int .u8 op)).setCell ⟨xb, 2, none⟩ (.int .u8 xd)).setCell ⟨xb, 3, none⟩ (.int .u8 xa)).setCell ⟨xb, 4, none⟩ (.int .u8 xbb)).setCell ⟨xb, 5, none⟩ (.int .u32 0)) = w6 at *
        clear y0 y1 y2 y3 y4 x1 x2 x3 x4 x5 f1 f2 f3 f4 f5 hX5 hY5 hR5 hB5 hyx
        have hiz := bsOf_size imm
        have hni := bs_nil33 imm
        have hIC : imm = [] ∨ (∃ t, imm = 62 :: t) ∨ (∃ t, imm = 64 :: t) ∨ (∃ c t, imm = c :: t ∧ c ≠ 62 ∧ c ≠ 64) := by
          match imm with
          | [] => exact .inl rfl
          | c :: t =>
            by_cases h1 : c = 62
            · subst h1; exact .inr (.inl ⟨t, rfl⟩)
            · by_cases h2 : c = 64
              · subst h2; exact .inr (.inr (.inl ⟨t, rfl⟩))
              · exact .inr (.inr (.inr ⟨c, t, rfl, h1, h2⟩))
        obtain ⟨b12, hb12⟩ : ∃ b : Bool, Hid (b = decide (imm.head? = some 62)) := ⟨_, Lib.hid rfl⟩
        go_cut [68] (fun v wx => v = .bool b12 ∧ wx = w6)
        case first =>
          rcases hIC with rfl | ⟨t, rfl⟩ | ⟨t, rfl⟩ | ⟨c, t, rfl, hc1, hc2⟩
          · have hem0 : (bsOf []).toList.isEmpty = true := by rw [hni]; rfl
            go_wp2
            go_meet
            exact ⟨by rw [hb12.out]; simp, rfl⟩
          ·
            have b0 : ∀ h : 0 < (bsOf (62 :: t)).size, (bsOf (62 :: t))[0]'h = 62 := fun _ => rfl
            have hln : 0 < (62 :: t : BL).length := by simp
            have hln2 : (0 : Int) < ((62 :: t : BL).length : Int) := by omega
            have q1 : (62 : UInt8).toNat = 62 := rfl
            go_wp2
            go_meet
            exact ⟨by rw [hb12.out]; simp, rfl⟩
          ·
            have b0 : ∀ h : 0 < (bsOf (64 :: t)).size, (bsOf (64 :: t))[0]'h = 64 := fun _ => rfl
            have hln : 0 < (64 :: t : BL).length := by simp
            have hln2 : (0 : Int) < ((64 :: t : BL).length : Int) := by omega
            have q1 : (64 : UInt8).toNat = 64 := rfl
            go_wp2
            go_meet
            exact ⟨by rw [hb12.out]; simp, rfl⟩
          ·
            have b0 : ∀ h : 0 < (bsOf (c :: t)).size, (bsOf (c :: t))[0]'h = c := fun _ => rfl
            have hln : 0 < (c :: t : BL).length := by simp
            have hln2 : (0 : Int) < ((c :: t : BL).length : Int) := by omega
            have q1 : ¬ ((c.toNat : Nat) : Int) = 62 := u8_ne hc1 rfl
            have hbb : b12 = false := by rw [hb12.out]; simp [hc1]
            go_wp2
            go_meet
            exact ⟨by rw [hbb]; congr 1; exact beq_false_of_ne q1, rfl⟩
        case rest =>
          obtain ⟨rfl, hw6⟩ := hcut
          obtain rfl := hw6.symm
          go_upto_if 68 with fail
          go_cut [9] (fun v9 wx => ∃ x b, v9 = .bool b ∧ LN = (x, b) ∧ wx.heap[xb]? = some (.cells (lineA x) 59 (0, 0)) ∧ wx.heap[rb]? = some (.cells #[.string ⟨#[]⟩, .int .u8 0, .int .u8 0, .int .u8 0, .int .u8 0, .int .u32 0, .string ⟨#[]⟩, .string ⟨#[]⟩] 59 (0, 0)) ∧ Below w.heap.size w wx)
          case first =>
            rcases hIC with rfl | ⟨t, rfl⟩ | ⟨t, rfl⟩ | ⟨c, t, rfl, hc1, hc2⟩
            · have HL : Hid (LN = (⟨lab, ⟨op, xd, xa, xbb, 0⟩, [], []⟩, bis)) := Lib.hid (by rw [HLR.out]; simp [immR])
              clear HLR
              have hem0 : (bsOf []).toList.isEmpty = true := by rw [hni]; rfl
              have hbb : b12 = false := by rw [hb12.out]; simp
              subst hbb
              go_wp2
              go_meet
              exact ⟨_, _, rfl, HL.out, hX6, hR6, HB6.out⟩
            · have HL : Hid (LN = (⟨lab, ⟨op, xd, xa, xbb, 0⟩, t, []⟩, bis)) := Lib.hid (by rw [HLR.out]; simp [immR])
              clear HLR
              have hbb : b12 = true := by rw [hb12.out]; simp
              subst hbb
              have b0 : ∀ h : 0 < (bsOf (62 :: t)).size, (bsOf (62 :: t))[0]'h = 62 := fun _ => rfl
              have q1 : (62 : UInt8).toNat = 62 := rfl
              have hx1 := ext_drop (62 :: t) 1
              simp only [List.drop_succ_cons, List.drop_zero] at hx1
              have hx2 : (bsOf (62 :: t)).extract 1 (t.length + 1) = bsOf t := hx1
              have hln : 0 < (62 :: t : BL).length := by simp
              have hln2 : (0 : Int) < ((62 :: t : BL).length : Int) := by omega
              have hln3 : 1 ≤ (62 :: t : BL).length := hln
              have x6 : w6.cell? ⟨xb, 6, none⟩ = some (.string ⟨#[]⟩) := Lib.cell_of_heap hX6 6
              have f6 := Lib.frozen_of_heap hX6 6
              have hX8 := set33 hX6 6 (.string (bsOf t))
              simp only [List.setIfInBounds_toArray, List.set_cons_zero, List.set_cons_succ] at hX8
              have hR8 := (Below.heap_setCell w6 ⟨xb, 6, none⟩ (.string (bsOf t)) rb (by simpa using hxr.symm)).trans hR6
              have HB8 := Lib.hid (HB6.out.setCell (p := ⟨xb, 6, none⟩) hx0 (.string (bsOf t)))
              go_wp2
              go_meet
              first
                | exact ⟨_, _, rfl, HL.out, hX8, hR8, HB8.out⟩
                | (rw [hx2]; exact ⟨_, _, rfl, HL.out, hX8, hR8, HB8.out⟩)
                | (refine ⟨_, _, rfl, HL.out, ?_, ?_, ?_⟩ <;> rw [hx2] <;> first | exact hX8 | exact hR8 | exact HB8.out)
            · have HPC := Lib.hid (fun W => rplace33 (64 :: t) W (by omega))
              have HL : Hid (LN = (⟨lab, ⟨op, xd, xa, xbb, ((placeR (64 :: t)).2.1 : Int)⟩, [], (placeR (64 :: t)).1⟩, bis && (placeR (64 :: t)).2.2)) := Lib.hid (by rw [HLR.out]; simp [immR])
              clear HLR
              unfold placeRV at HPC
              generalize placeR (64 :: t) = pr at HPC HL
              obtain ⟨pn, pk, pb⟩ := pr
              simp only [] at HPC HL
              have hbb : b12 = false := by rw [hb12.out]; simp
              subst hbb
              have b0 : ∀ h : 0 < (bsOf (64 :: t)).size, (bsOf (64 :: t))[0]'h = 64 := fun _ => rfl
              have q1 : (64 : UInt8).toNat = 64 := rfl
              have hln : 0 < (64 :: t : BL).length := by simp
              have hln2 : (0 : Int) < ((64 :: t : BL).length : Int) := by omega
              go_wp2_with fail
              refine (HPC.out _).mono ?_
              rintro e w7 ⟨rfl, hB⟩
              have hX7 := (hB.block xb (Array.getElem?_eq_some_iff.1 hX6).1).trans hX6
              have hR7 := (hB.block rb (Array.getElem?_eq_some_iff.1 hR6).1).trans hR6
              have HB7 := Lib.hid (HB6.out.trans (hB.mono HB6.out.size))
              clear hB hX6 hR6 HB6 HPC b0
              have x5 : w7.cell? ⟨xb, 5, none⟩ = some (.int .u32 0) := Lib.cell_of_heap hX7 5
              have x7 : w7.cell? ⟨xb, 7, none⟩ = some (.string ⟨#[]⟩) := Lib.cell_of_heap hX7 7
              have f5 := Lib.frozen_of_heap hX7 5
              have f7 := Lib.frozen_of_heap hX7 7
              have hX8 := set33 (set33 hX7 7 (.string (bsOf pn))) 5 (.int .u32 (pk : Int))
              simp only [List.setIfInBounds_toArray, List.set_cons_zero, List.set_cons_succ] at hX8
              have hR8 := (Below.heap_setCell (w7.setCell ⟨xb, 7, none⟩ (.string (bsOf pn))) ⟨xb, 5, none⟩ (.int .u32 (pk : Int)) rb (by simpa using hxr.symm)).trans ((Below.heap_setCell w7 ⟨xb, 7, none⟩ (.string (bsOf pn)) rb (by simpa using hxr.symm)).trans hR7)
              have HB8 := Lib.hid ((HB7.out.setCell (p := ⟨xb, 7, none⟩) hx0 (.string (bsOf pn))).setCell (p := ⟨xb, 5, none⟩) hx0 (.int .u32 (pk : Int)))
              cases bis <;> cases pb
              ·
                go_wp2
                go_meet
                exact ⟨_, _, rfl, HL.out, hX8, hR8, HB8.out⟩
              ·
                go_wp2
                go_meet
                exact ⟨_, _, rfl, HL.out, hX8, hR8, HB8.out⟩
              ·
                go_wp2
                go_meet
                exact ⟨_, _, rfl, HL.out, hX8, hR8, HB8.out⟩
              ·
                go_wp2
                go_meet
                exact ⟨_, _, rfl, HL.out, hX8, hR8, HB8.out⟩
            · have HPC := Lib.hid (fun W => rnumber33 (c :: t) W)
              have HL : Hid (LN = (⟨lab, ⟨op, xd, xa, xbb, ((numR (c :: t)).1 : Int)⟩, [], []⟩, bis && (numR (c :: t)).2)) := Lib.hid (by rw [HLR.out]; simp [immR, hc1, hc2])
              clear HLR
              unfold numRV at HPC
              generalize numR (c :: t) = pr at HPC HL
              obtain ⟨pk, pb⟩ := pr
              simp only [] at HPC HL
              have hbb : b12 = false := by rw [hb12.out]; simp [hc1]
              subst hbb
              have b0 : ∀ h : 0 < (bsOf (c :: t)).size, (bsOf (c :: t))[0]'h = c := fun _ => rfl
              have q1 : ¬ ((c.toNat : Nat) : Int) = 62 := u8_ne hc1 rfl
              have q2 : ¬ ((c.toNat : Nat) : Int) = 64 := u8_ne hc2 rfl
              have hln : 0 < (c :: t : BL).length := by simp
              have hln2 : (0 : Int) < ((c :: t : BL).length : Int) := by omega
              have hem0 : (bsOf (c :: t)).toList.isEmpty = false := by rw [hni]; rfl
              clear hc1 hc2
              go_wp2_with fail
              refine (HPC.out _).mono ?_
              rintro e w7 ⟨rfl, hB⟩
              have hX7 := (hB.block xb (Array.getElem?_eq_some_iff.1 hX6).1).trans hX6
              have hR7 := (hB.block rb (Array.getElem?_eq_some_iff.1 hR6).1).trans hR6
              have HB7 := Lib.hid (HB6.out.trans (hB.mono HB6.out.size))
              clear hB hX6 hR6 HB6 HPC b0
              have x5 : w7.cell? ⟨xb, 5, none⟩ = some (.int .u32 0) := Lib.cell_of_heap hX7 5
              have f5 := Lib.frozen_of_heap hX7 5
              have hX8 := set33 hX7 5 (.int .u32 (pk : Int))
              simp only [List.setIfInBounds_toArray, List.set_cons_zero, List.set_cons_succ] at hX8
              have hR8 := (Below.heap_setCell w7 ⟨xb, 5, none⟩ (.int .u32 (pk : Int)) rb (by simpa using hxr.symm)).trans hR7
              have HB8 := Lib.hid (HB7.out.setCell (p := ⟨xb, 5, none⟩) hx0 (.int .u32 (pk : Int)))
              cases bis <;> cases pb
              ·
                go_wp2
                go_meet
                exact ⟨_, _, rfl, HL.out, hX8, hR8, HB8.out⟩
              ·
                go_wp2
                go_meet
                exact ⟨_, _, rfl, HL.out, hX8, hR8, HB8.out⟩
              ·
                go_wp2
                go_meet
                exact ⟨_, _, rfl, HL.out, hX8, hR8, HB8.out⟩
              ·
                go_wp2
                go_meet
                exact ⟨_, _, rfl, HL.out, hX8, hR8, HB8.out⟩
          case rest =>
            obtain ⟨x0, bis, rfl, hLN, hX9, hR9, hB9⟩ := hcut
            have HLN := Lib.hid hLN
            have HB9 := Lib.hid hB9
            clear hLN hB9 HLR hX6 hR6 HB6 hIC hni hiz
            rw [← show LN.1 = x0 by rw [HLN.out]] at hX9
            have hI9 : LN.2 = bis := by rw [HLN.out]
            clear HLN
            obtain ⟨x, b9⟩ := LN
            simp only [] at hX9 hI9 HRD HLB
            obtain rfl := hI9.symm
            have HM := Lib.hid (fun W => rmay33 x W HLB.out.x (by have := HLB.out.label; omega) (by have := HLB.out.dest; omega) (by have := HLB.out.name; omega))
            have HLI := Lib.hid (fun W (h : lineOk x = true) => rline33 x W HLB.out h)
            have heq := str_eq33 (lineL x) s
            have HLV : Hid (lineV x = .agg (lineA x)) := Lib.hid rfl
            generalize lineOk x = ok at HM HLI HRD
            generalize decide (lineL x = s) = bq at heq HRD
            generalize lineL x = LL at *
            unfold lineV at HM HLI
            unfold lineA at HM HLI HLV hX9
            clear HLB
            have HX0 : Hid (readLnRV RES = .tuple #[lineV RES.1, .bool RES.2]) := Lib.hid rfl
            rw [Hid] at HRD
            replace HRD := Lib.hid HRD
            obtain ⟨zl, ⟨zo, zd, za, zb, zi⟩, zt, zn⟩ := x
            simp only [] at HM HLI HLV hX9
            have HRES : Hid (readLnRV RES = .tuple #[.agg #[.string (bsOf zl), .int .u8 zo, .int .u8 zd, .int .u8 za, .int .u8 zb, .int .u32 zi, .string (bsOf zt), .string (bsOf zn)], .bool (bis && (ok && bq))]) := Lib.hid (by rw [HX0.out, HRD.out]; simp only []; rw [HLV.out])
            clear HX0 HRD HLV
            skip
            generalize bsOf LL = SLL at *
            generalize bsOf zl = SL at *
            generalize bsOf zt = SD at *
            generalize bsOf zn = SN at *
            generalize bsOf s = SS at *
            have e1 : (SLL.toList == SS.toList) = bq := heq
            clear heq
            go_upto_region 23 with fail
            obtain ⟨RS, HSD⟩ : ∃ RS : World → Prop, ∀ w', RS w' ↔ w'.heap[xb]? = some (.cells #[.string SL, .int .u8 zo, .int .u8 zd, .int .u8 za, .int .u8 zb, .int .u32 zi, .string SD, .string SN] 59 (0, 0)) := ⟨_, fun _ => Iff.rfl⟩
            have r0 : ∀ z : HW RS, z.u.cell? ⟨xb, 0, none⟩ = some (.string SL) := fun z => Lib.cell_of_heap ((HSD _).1 z.h) 0
            have r1 : ∀ z : HW RS, z.u.cell? ⟨xb, 1, none⟩ = some (.int .u8 zo) := fun z => Lib.cell_of_heap ((HSD _).1 z.h) 1
            have r2 : ∀ z : HW RS, z.u.cell? ⟨xb, 2, none⟩ = some (.int .u8 zd) := fun z => Lib.cell_of_heap ((HSD _).1 z.h) 2
            have r3 : ∀ z : HW RS, z.u.cell? ⟨xb, 3, none⟩ = some (.int .u8 za) := fun z => Lib.cell_of_heap ((HSD _).1 z.h) 3
            have r4 : ∀ z : HW RS, z.u.cell? ⟨xb, 4, none⟩ = some (.int .u8 zb) := fun z => Lib.cell_of_heap ((HSD _).1 z.h) 4
            have r5 : ∀ z : HW RS, z.u.cell? ⟨xb, 5, none⟩ = some (.int .u32 zi) := fun z => Lib.cell_of_heap ((HSD _).1 z.h) 5
            have r6 : ∀ z : HW RS, z.u.cell? ⟨xb, 6, none⟩ = some (.string SD) := fun z => Lib.cell_of_heap ((HSD _).1 z.h) 6
            have r7 : ∀ z : HW RS, z.u.cell? ⟨xb, 7, none⟩ = some (.string SN) := fun z => Lib.cell_of_heap ((HSD _).1 z.h) 7
            have hS0 : RS wc.drew := (HSD _).2 hX9
            have HS := Lib.hid HSD; clear HSD
            haveI : Nonempty (HW RS) := ⟨⟨_, hS0⟩⟩
            refine wp_region_turn RS rfl (n := 14) rfl rfl ?_
            have hB9d := Lib.hid HB9.out.drew
            have hX9d : wc.drew.heap[xb]? = some (.cells #[.string SL, .int .u8 zo, .int .u8 zd, .int .u8 za, .int .u8 zb, .int .u32 zi, .string SD, .string SN] 59 (0, 0)) := hX9
            have hR9d : wc.drew.heap[rb]? = some (.cells #[.string ⟨#[]⟩, .int .u8 0, .int .u8 0, .int .u8 0, .int .u8 0, .int .u32 0, .string ⟨#[]⟩, .string ⟨#[]⟩] 59 (0, 0)) := hR9
            clear hX9 hR9 HB9
            generalize wc.drew = wd at *
            cases bis with
            | false =>
              refine wpAnyS_take [0, 1, 2, 3, 4, 5, 6, 7, 8, 9, 10, 11] (by kernel_rfl) (by kernel_rfl) (n := 2) rfl rfl rfl hS0 ?_
              (refine wpReads_step (fun K hK => ?_); go_simp; refine hK _ ?_; clear hK K)
              (refine wpReads_step (fun K hK => ?_); go_simp; refine hK _ ?_; clear hK K)
              (refine wpReads_step (fun K hK => ?_); go_simp; refine hK _ ?_; clear hK K)
              (refine wpReads_step (fun K hK => ?_); go_simp; refine hK _ ?_; clear hK K)
              (refine wpReads_step (fun K hK => ?_); go_simp; refine hK _ ?_; clear hK K)
              (refine wpReads_step (fun K hK => ?_); go_simp; refine hK _ ?_; clear hK K)
              (refine wpReads_step (fun K hK => ?_); go_simp; refine hK _ ?_; clear hK K)
              (refine wpReads_step (fun K hK => ?_); go_simp; refine hK _ ?_; clear hK K)
              (refine wpReads_step (fun K hK => ?_); go_simp; refine hK _ ?_; clear hK K)
              (refine wpReads_step (fun K hK => ?_); go_simp; refine hK _ ?_; clear hK K)
              (refine wpReads_step (fun K hK => ?_); go_simp; refine hK _ ?_; clear hK K)
              (refine wpReads_step (fun K hK => ?_); go_simp; refine hK _ ?_; clear hK K)
              refine wpReads_nil ?_
              have c0 : wd.cell? ⟨rb, 0, none⟩ = some (.string ⟨#[]⟩) := Lib.cell_of_heap hR9d 0
              have g0 := Lib.frozen_of_heap hR9d 0
              have c1 : wd.cell? ⟨rb, 1, none⟩ = some (.int .u8 0) := Lib.cell_of_heap hR9d 1
              have g1 := Lib.frozen_of_heap hR9d 1
              have c2 : wd.cell? ⟨rb, 2, none⟩ = some (.int .u8 0) := Lib.cell_of_heap hR9d 2
              have g2 := Lib.frozen_of_heap hR9d 2
              have c3 : wd.cell? ⟨rb, 3, none⟩ = some (.int .u8 0) := Lib.cell_of_heap hR9d 3
              have g3 := Lib.frozen_of_heap hR9d 3
              have c4 : wd.cell? ⟨rb, 4, none⟩ = some (.int .u8 0) := Lib.cell_of_heap hR9d 4
              have g4 := Lib.frozen_of_heap hR9d 4
              have c5 : wd.cell? ⟨rb, 5, none⟩ = some (.int .u32 0) := Lib.cell_of_heap hR9d 5
              have g5 := Lib.frozen_of_heap hR9d 5
              have c6 : wd.cell? ⟨rb, 6, none⟩ = some (.string ⟨#[]⟩) := Lib.cell_of_heap hR9d 6
              have g6 := Lib.frozen_of_heap hR9d 6
              have c7 : wd.cell? ⟨rb, 7, none⟩ = some (.string ⟨#[]⟩) := Lib.cell_of_heap hR9d 7
              have g7 := Lib.frozen_of_heap hR9d 7
              have hRE := (set33 (set33 (set33 (set33 (set33 (set33 (set33 (set33 hR9d 0 (.string SL)) 1 (.int .u8 zo)) 2 (.int .u8 zd)) 3 (.int .u8 za)) 4 (.int .u8 zb)) 5 (.int .u32 zi)) 6 (.string SD)) 7 (.string SN))
              simp only [List.setIfInBounds_toArray, List.set_cons_zero, List.set_cons_succ] at hRE
              have HBE := Lib.hid ((((((((hB9d.out.setCell (p := ⟨rb, 0, none⟩) hr0 (.string SL)).setCell (p := ⟨rb, 1, none⟩) hr0 (.int .u8 zo)).setCell (p := ⟨rb, 2, none⟩) hr0 (.int .u8 zd)).setCell (p := ⟨rb, 3, none⟩) hr0 (.int .u8 za)).setCell (p := ⟨rb, 4, none⟩) hr0 (.int .u8 zb)).setCell (p := ⟨rb, 5, none⟩) hr0 (.int .u32 zi)).setCell (p := ⟨rb, 6, none⟩) hr0 (.string SD)).setCell (p := ⟨rb, 7, none⟩) hr0 (.string SN))
              have hSE : RS ((((((((wd.setCell ⟨rb, 0, none⟩ (.string SL)).setCell ⟨rb, 1, none⟩ (.int .u8 zo)).setCell ⟨rb, 2, none⟩ (.int .u8 zd)).setCell ⟨rb, 3, none⟩ (.int .u8 za)).setCell ⟨rb, 4, none⟩ (.int .u8 zb)).setCell ⟨rb, 5, none⟩ (.int .u32 zi)).setCell ⟨rb, 6, none⟩ (.string SD)).setCell ⟨rb, 7, none⟩ (.string SN)) := (HS.out _).2 ((Below.heap_setCell (((((((wd.setCell ⟨rb, 0, none⟩ (.string SL)).setCell ⟨rb, 1, none⟩ (.int .u8 zo)).setCell ⟨rb, 2, none⟩ (.int .u8 zd)).setCell ⟨rb, 3, none⟩ (.int .u8 za)).setCell ⟨rb, 4, none⟩ (.int .u8 zb)).setCell ⟨rb, 5, none⟩ (.int .u32 zi)).setCell ⟨rb, 6, none⟩ (.string SD)) ⟨rb, 7, none⟩ (.string SN) xb (by simpa using hxr)).trans ((Below.heap_setCell ((((((wd.setCell ⟨rb, 0, none⟩ (.string SL)).setCell ⟨rb, 1, none⟩ (.int .u8 zo)).setCell ⟨rb, 2, none⟩ (.int .u8 zd)).setCell ⟨rb, 3, none⟩ (.int .u8 za)).setCell ⟨rb, 4, none⟩ (.int .u8 zb)).setCell ⟨rb, 5, none⟩ (.int .u32 zi)) ⟨rb, 6, none⟩ (.string SD) xb (by simpa using hxr)).trans ((Below.heap_setCell (((((wd.setCell ⟨rb, 0, none⟩ (.string SL)).setCell ⟨rb, 1, none⟩ (.int .u8 zo)).setCell ⟨rb, 2, none⟩ (.int .u8 zd)).setCell ⟨rb, 3, none⟩ (.int .u8 za)).setCell ⟨rb, 4, none⟩ (.int .u8 zb)) ⟨rb, 5, none⟩ (.int .u32 zi) xb (by simpa using hxr)).trans ((Below.heap_setCell ((((wd.setCell ⟨rb, 0, none⟩ (.string SL)).setCell ⟨rb, 1, none⟩ (.int .u8 zo)).setCell ⟨rb, 2, none⟩ (.int .u8 zd)).setCell ⟨rb, 3, none⟩ (.int .u8 za)) ⟨rb, 4, none⟩ (.int .u8 zb) xb (by simpa using hxr)).trans ((Below.heap_setCell (((wd.setCell ⟨rb, 0, none⟩ (.string SL)).setCell ⟨rb, 1, none⟩ (.int .u8 zo)).setCell ⟨rb, 2, none⟩ (.int .u8 zd)) ⟨rb, 3, none⟩ (.int .u8 za) xb (by simpa using hxr)).trans ((Below.heap_setCell ((wd.setCell ⟨rb, 0, none⟩ (.string SL)).setCell ⟨rb, 1, none⟩ (.int .u8 zo)) ⟨rb, 2, none⟩ (.int .u8 zd) xb (by simpa using hxr)).trans ((Below.heap_setCell (wd.setCell ⟨rb, 0, none⟩ (.string SL)) ⟨rb, 1, none⟩ (.int .u8 zo) xb (by simpa using hxr)).trans ((Below.heap_setCell wd ⟨rb, 0, none⟩ (.string SL) xb (by simpa using hxr)).trans hX9d))))))))
              refine wpAnyS_one (i := 12) (by kernel_rfl) rfl (fun K hK => ?_)
              go_simp
              refine hK _ _ hSE ?_
              clear hK K
              clear c0 c1 c2 c3 c4 c5 c6 c7 g0 g1 g2 g3 g4 g5 g6 g7
              generalize ((((((((wd.setCell ⟨rb, 0, none⟩ (.string SL)).setCell ⟨rb, 1, none⟩ (.int .u8 zo)).setCell ⟨rb, 2, none⟩ (.int .u8 zd)).setCell ⟨rb, 3, none⟩ (.int .u8 za)).setCell ⟨rb, 4, none⟩ (.int .u8 zb)).setCell ⟨rb, 5, none⟩ (.int .u32 zi)).setCell ⟨rb, 6, none⟩ (.string SD)).setCell ⟨rb, 7, none⟩ (.string SN)) = wE at *
              refine wpAnyS_one (i := 13) (by kernel_rfl) rfl (fun K hK => ?_)
              go_simp
              refine hK _ _ hSE ?_
              clear hK K
              refine wpAnyS_done (by kernel_rfl) (NoPanic.normal ?_)
              clear hSE HS r0 r1 r2 r3 r4 r5 r6 r7
              have c0 : wE.cell? ⟨rb, 0, none⟩ = some (.string SL) := Lib.cell_of_heap hRE 0
              have c1 : wE.cell? ⟨rb, 1, none⟩ = some (.int .u8 zo) := Lib.cell_of_heap hRE 1
              have c2 : wE.cell? ⟨rb, 2, none⟩ = some (.int .u8 zd) := Lib.cell_of_heap hRE 2
              have c3 : wE.cell? ⟨rb, 3, none⟩ = some (.int .u8 za) := Lib.cell_of_heap hRE 3
              have c4 : wE.cell? ⟨rb, 4, none⟩ = some (.int .u8 zb) := Lib.cell_of_heap hRE 4
              have c5 : wE.cell? ⟨rb, 5, none⟩ = some (.int .u32 zi) := Lib.cell_of_heap hRE 5
              have c6 : wE.cell? ⟨rb, 6, none⟩ = some (.string SD) := Lib.cell_of_heap hRE 6
              have c7 : wE.cell? ⟨rb, 7, none⟩ = some (.string SN) := Lib.cell_of_heap hRE 7
              go_wp2
              refine bodyPost_ret (v := .tuple #[.agg #[.string SL, .int .u8 zo, .int .u8 zd, .int .u8 za, .int .u8 zb, .int .u32 zi, .string SD, .string SN], .bool false]) (by simp [results, Tryz.results61, go_sem, c0, c1, c2, c3, c4, c5, c6, c7]) rfl ?_
              exact ⟨by rw [HRES.out]; rfl, HBE.out⟩
            | true =>
              refine wpAnyS_take [0, 1, 2, 3] (by kernel_rfl) (by kernel_rfl) (n := 10) rfl rfl rfl hS0 ?_
              (refine wpReads_step (fun K hK => ?_); go_simp; refine hK _ ?_; clear hK K)
              (refine wpReads_step (fun K hK => ?_); go_simp; refine hK _ ?_; clear hK K)
              (refine wpReads_step (fun K hK => ?_); go_simp; refine hK _ ?_; clear hK K)
              (refine wpReads_step (fun K hK => ?_); go_simp; refine hK _ ?_; clear hK K)
              refine wpReads_nil ?_
              refine wpAnyS_one (i := 4) (by kernel_rfl) rfl (fun K hK => ?_)
              refine step_callW rfl 54 #[.tmp 112] #[59] rfl Tryz.func54 (by kernel_rfl) (by kernel_rfl) #[.agg #[.string SL, .int .u8 zo, .int .u8 zd, .int .u8 za, .int .u8 zb, .int .u32 zi, .string SD, .string SN]] (by simp [Act.eval]) (HM.out _) ?_
              rintro e wf ⟨rfl, hB⟩
              have hXf := (hB.block xb (Array.getElem?_eq_some_iff.1 hX9d).1).trans hX9d
              have hRf := (hB.block rb (Array.getElem?_eq_some_iff.1 hR9d).1).trans hR9d
              have HBf := Lib.hid (hB9d.out.trans (hB.mono hB9d.out.size))
              clear hB hX9d hR9d hB9d hS0 HM
              have hSf : RS wf := (HS.out _).2 hXf
              refine ⟨_, rfl, hK _ _ hSf ?_⟩
              clear hK K
              simp only [Act.put, List.setIfInBounds_toArray, List.set_cons_zero, List.set_cons_succ]
              cases ok with
              | false =>
                refine wpAnyS_take [5, 6, 7, 8, 9, 10, 11] (by kernel_rfl) (by kernel_rfl) (n := 2) rfl rfl rfl hSf ?_
                (refine wpReads_step (fun K hK => ?_); go_simp; refine hK _ ?_; clear hK K)
                (refine wpReads_step (fun K hK => ?_); go_simp; refine hK _ ?_; clear hK K)
                (refine wpReads_step (fun K hK => ?_); go_simp; refine hK _ ?_; clear hK K)
                (refine wpReads_step (fun K hK => ?_); go_simp; refine hK _ ?_; clear hK K)
                (refine wpReads_step (fun K hK => ?_); go_simp; refine hK _ ?_; clear hK K)
                (refine wpReads_step (fun K hK => ?_); go_simp; refine hK _ ?_; clear hK K)
                (refine wpReads_step (fun K hK => ?_); go_simp; refine hK _ ?_; clear hK K)
                refine wpReads_nil ?_
                have c0 : wf.cell? ⟨rb, 0, none⟩ = some (.string ⟨#[]⟩) := Lib.cell_of_heap hRf 0
                have g0 := Lib.frozen_of_heap hRf 0
                have c1 : wf.cell? ⟨rb, 1, none⟩ = some (.int .u8 0) := Lib.cell_of_heap hRf 1
                have g1 := Lib.frozen_of_heap hRf 1
                have c2 : wf.cell? ⟨rb, 2, none⟩ = some (.int .u8 0) := Lib.cell_of_heap hRf 2
                have g2 := Lib.frozen_of_heap hRf 2
                have c3 : wf.cell? ⟨rb, 3, none⟩ = some (.int .u8 0) := Lib.cell_of_heap hRf 3
                have g3 := Lib.frozen_of_heap hRf 3
                have c4 : wf.cell? ⟨rb, 4, none⟩ = some (.int .u8 0) := Lib.cell_of_heap hRf 4
                have g4 := Lib.frozen_of_heap hRf 4
                have c5 : wf.cell? ⟨rb, 5, none⟩ = some (.int .u32 0) := Lib.cell_of_heap hRf 5
                have g5 := Lib.frozen_of_heap hRf 5
                have c6 : wf.cell? ⟨rb, 6, none⟩ = some (.string ⟨#[]⟩) := Lib.cell_of_heap hRf 6
                have g6 := Lib.frozen_of_heap hRf 6
                have c7 : wf.cell? ⟨rb, 7, none⟩ = some (.string ⟨#[]⟩) := Lib.cell_of_heap hRf 7
                have g7 := Lib.frozen_of_heap hRf 7
                have hRE := (set33 (set33 (set33 (set33 (set33 (set33 (set33 (set33 hRf 0 (.string SL)) 1 (.int .u8 zo)) 2 (.int .u8 zd)) 3 (.int .u8 za)) 4 (.int .u8 zb)) 5 (.int .u32 zi)) 6 (.string SD)) 7 (.string SN))
                simp only [List.setIfInBounds_toArray, List.set_cons_zero, List.set_cons_succ] at hRE
                have HBE := Lib.hid ((((((((HBf.out.setCell (p := ⟨rb, 0, none⟩) hr0 (.string SL)).setCell (p := ⟨rb, 1, none⟩) hr0 (.int .u8 zo)).setCell (p := ⟨rb, 2, none⟩) hr0 (.int .u8 zd)).setCell (p := ⟨rb, 3, none⟩) hr0 (.int .u8 za)).setCell (p := ⟨rb, 4, none⟩) hr0 (.int .u8 zb)).setCell (p := ⟨rb, 5, none⟩) hr0 (.int .u32 zi)).setCell (p := ⟨rb, 6, none⟩) hr0 (.string SD)).setCell (p := ⟨rb, 7, none⟩) hr0 (.string SN))
                have hSE : RS ((((((((wf.setCell ⟨rb, 0, none⟩ (.string SL)).setCell ⟨rb, 1, none⟩ (.int .u8 zo)).setCell ⟨rb, 2, none⟩ (.int .u8 zd)).setCell ⟨rb, 3, none⟩ (.int .u8 za)).setCell ⟨rb, 4, none⟩ (.int .u8 zb)).setCell ⟨rb, 5, none⟩ (.int .u32 zi)).setCell ⟨rb, 6, none⟩ (.string SD)).setCell ⟨rb, 7, none⟩ (.string SN)) := (HS.out _).2 ((Below.heap_setCell (((((((wf.setCell ⟨rb, 0, none⟩ (.string SL)).setCell ⟨rb, 1, none⟩ (.int .u8 zo)).setCell ⟨rb, 2, none⟩ (.int .u8 zd)).setCell ⟨rb, 3, none⟩ (.int .u8 za)).setCell ⟨rb, 4, none⟩ (.int .u8 zb)).setCell ⟨rb, 5, none⟩ (.int .u32 zi)).setCell ⟨rb, 6, none⟩ (.string SD)) ⟨rb, 7, none⟩ (.string SN) xb (by simpa using hxr)).trans ((Below.heap_setCell ((((((wf.setCell ⟨rb, 0, none⟩ (.string SL)).setCell ⟨rb, 1, none⟩ (.int .u8 zo)).setCell ⟨rb, 2, none⟩ (.int .u8 zd)).setCell ⟨rb, 3, none⟩ (.int .u8 za)).setCell ⟨rb, 4, none⟩ (.int .u8 zb)).setCell ⟨rb, 5, none⟩ (.int .u32 zi)) ⟨rb, 6, none⟩ (.string SD) xb (by simpa using hxr)).trans ((Below.heap_setCell (((((wf.setCell ⟨rb, 0, none⟩ (.string SL)).setCell ⟨rb, 1, none⟩ (.int .u8 zo)).setCell ⟨rb, 2, none⟩ (.int .u8 zd)).setCell ⟨rb, 3, none⟩ (.int .u8 za)).setCell ⟨rb, 4, none⟩ (.int .u8 zb)) ⟨rb, 5, none⟩ (.int .u32 zi) xb (by simpa using hxr)).trans ((Below.heap_setCell ((((wf.setCell ⟨rb, 0, none⟩ (.string SL)).setCell ⟨rb, 1, none⟩ (.int .u8 zo)).setCell ⟨rb, 2, none⟩ (.int .u8 zd)).setCell ⟨rb, 3, none⟩ (.int .u8 za)) ⟨rb, 4, none⟩ (.int .u8 zb) xb (by simpa using hxr)).trans ((Below.heap_setCell (((wf.setCell ⟨rb, 0, none⟩ (.string SL)).setCell ⟨rb, 1, none⟩ (.int .u8 zo)).setCell ⟨rb, 2, none⟩ (.int .u8 zd)) ⟨rb, 3, none⟩ (.int .u8 za) xb (by simpa using hxr)).trans ((Below.heap_setCell ((wf.setCell ⟨rb, 0, none⟩ (.string SL)).setCell ⟨rb, 1, none⟩ (.int .u8 zo)) ⟨rb, 2, none⟩ (.int .u8 zd) xb (by simpa using hxr)).trans ((Below.heap_setCell (wf.setCell ⟨rb, 0, none⟩ (.string SL)) ⟨rb, 1, none⟩ (.int .u8 zo) xb (by simpa using hxr)).trans ((Below.heap_setCell wf ⟨rb, 0, none⟩ (.string SL) xb (by simpa using hxr)).trans hXf))))))))
                refine wpAnyS_one (i := 12) (by kernel_rfl) rfl (fun K hK => ?_)
                go_simp
                refine hK _ _ hSE ?_
                clear hK K
                clear c0 c1 c2 c3 c4 c5 c6 c7 g0 g1 g2 g3 g4 g5 g6 g7
                generalize ((((((((wf.setCell ⟨rb, 0, none⟩ (.string SL)).setCell ⟨rb, 1, none⟩ (.int .u8 zo)).setCell ⟨rb, 2, none⟩ (.int .u8 zd)).setCell ⟨rb, 3, none⟩ (.int .u8 za)).setCell ⟨rb, 4, none⟩ (.int .u8 zb)).setCell ⟨rb, 5, none⟩ (.int .u32 zi)).setCell ⟨rb, 6, none⟩ (.string SD)).setCell ⟨rb, 7, none⟩ (.string SN)) = wE at *
                refine wpAnyS_one (i := 13) (by kernel_rfl) rfl (fun K hK => ?_)
                go_simp
                refine hK _ _ hSE ?_
                clear hK K
                refine wpAnyS_done (by kernel_rfl) (NoPanic.normal ?_)
                clear hSE HS r0 r1 r2 r3 r4 r5 r6 r7
                have c0 : wE.cell? ⟨rb, 0, none⟩ = some (.string SL) := Lib.cell_of_heap hRE 0
                have c1 : wE.cell? ⟨rb, 1, none⟩ = some (.int .u8 zo) := Lib.cell_of_heap hRE 1
                have c2 : wE.cell? ⟨rb, 2, none⟩ = some (.int .u8 zd) := Lib.cell_of_heap hRE 2
                have c3 : wE.cell? ⟨rb, 3, none⟩ = some (.int .u8 za) := Lib.cell_of_heap hRE 3
                have c4 : wE.cell? ⟨rb, 4, none⟩ = some (.int .u8 zb) := Lib.cell_of_heap hRE 4
                have c5 : wE.cell? ⟨rb, 5, none⟩ = some (.int .u32 zi) := Lib.cell_of_heap hRE 5
                have c6 : wE.cell? ⟨rb, 6, none⟩ = some (.string SD) := Lib.cell_of_heap hRE 6
                have c7 : wE.cell? ⟨rb, 7, none⟩ = some (.string SN) := Lib.cell_of_heap hRE 7
                go_wp2
                refine bodyPost_ret (v := .tuple #[.agg #[.string SL, .int .u8 zo, .int .u8 zd, .int .u8 za, .int .u8 zb, .int .u32 zi, .string SD, .string SN], .bool false]) (by simp [results, Tryz.results61, go_sem, c0, c1, c2, c3, c4, c5, c6, c7]) rfl ?_
                exact ⟨by rw [HRES.out]; rfl, HBE.out⟩
              | true =>
                refine wpAnyS_take [5, 6, 7, 9] (by kernel_rfl) (by kernel_rfl) (n := 5) rfl rfl rfl hSf ?_
                (refine wpReads_step (fun K hK => ?_); go_simp; refine hK _ ?_; clear hK K)
                (refine wpReads_step (fun K hK => ?_); go_simp; refine hK _ ?_; clear hK K)
                (refine wpReads_step (fun K hK => ?_); go_simp; refine hK _ ?_; clear hK K)
                (refine wpReads_step (fun K hK => ?_); go_simp; refine hK _ ?_; clear hK K)
                refine wpReads_nil ?_
                refine wpAnyS_one (i := 8) (by kernel_rfl) rfl (fun K hK => ?_)
                refine step_callW rfl 55 #[.tmp 116] #[59] rfl Tryz.func55 (by kernel_rfl) (by kernel_rfl) #[.agg #[.string SL, .int .u8 zo, .int .u8 zd, .int .u8 za, .int .u8 zb, .int .u32 zi, .string SD, .string SN]] (by simp [Act.eval]) (HLI.out _ (by trivial)) ?_
                rintro e wg ⟨rfl, hB⟩
                have hXg := (hB.block xb (Array.getElem?_eq_some_iff.1 hXf).1).trans hXf
                have hRg := (hB.block rb (Array.getElem?_eq_some_iff.1 hRf).1).trans hRf
                have HBg := Lib.hid (HBf.out.trans (hB.mono HBf.out.size))
                clear hB hXf hRf HBf hSf
                have hSg : RS wg := (HS.out _).2 hXg
                refine ⟨_, rfl, hK _ _ hSg ?_⟩
                clear hK K
                simp only [Act.put, List.setIfInBounds_toArray, List.set_cons_zero, List.set_cons_succ]
                refine wpAnyS_take [10, 11] (by kernel_rfl) (by kernel_rfl) (n := 2) rfl rfl rfl hSg ?_
                (refine wpReads_step (fun K hK => ?_); go_simp; refine hK _ ?_; clear hK K)
                (refine wpReads_step (fun K hK => ?_); go_simp; refine hK _ ?_; clear hK K)
                refine wpReads_nil ?_
                have c0 : wg.cell? ⟨rb, 0, none⟩ = some (.string ⟨#[]⟩) := Lib.cell_of_heap hRg 0
                have g0 := Lib.frozen_of_heap hRg 0
                have c1 : wg.cell? ⟨rb, 1, none⟩ = some (.int .u8 0) := Lib.cell_of_heap hRg 1
                have g1 := Lib.frozen_of_heap hRg 1
                have c2 : wg.cell? ⟨rb, 2, none⟩ = some (.int .u8 0) := Lib.cell_of_heap hRg 2
                have g2 := Lib.frozen_of_heap hRg 2
                have c3 : wg.cell? ⟨rb, 3, none⟩ = some (.int .u8 0) := Lib.cell_of_heap hRg 3
                have g3 := Lib.frozen_of_heap hRg 3
                have c4 : wg.cell? ⟨rb, 4, none⟩ = some (.int .u8 0) := Lib.cell_of_heap hRg 4
                have g4 := Lib.frozen_of_heap hRg 4
                have c5 : wg.cell? ⟨rb, 5, none⟩ = some (.int .u32 0) := Lib.cell_of_heap hRg 5
                have g5 := Lib.frozen_of_heap hRg 5
                have c6 : wg.cell? ⟨rb, 6, none⟩ = some (.string ⟨#[]⟩) := Lib.cell_of_heap hRg 6
                have g6 := Lib.frozen_of_heap hRg 6
                have c7 : wg.cell? ⟨rb, 7, none⟩ = some (.string ⟨#[]⟩) := Lib.cell_of_heap hRg 7
                have g7 := Lib.frozen_of_heap hRg 7
                have hRE := (set33 (set33 (set33 (set33 (set33 (set33 (set33 (set33 hRg 0 (.string SL)) 1 (.int .u8 zo)) 2 (.int .u8 zd)) 3 (.int .u8 za)) 4 (.int .u8 zb)) 5 (.int .u32 zi)) 6 (.string SD)) 7 (.string SN))
                simp only [List.setIfInBounds_toArray, List.set_cons_zero, List.set_cons_succ] at hRE
                have HBE := Lib.hid ((((((((HBg.out.setCell (p := ⟨rb, 0, none⟩) hr0 (.string SL)).setCell (p := ⟨rb, 1, none⟩) hr0 (.int .u8 zo)).setCell (p := ⟨rb, 2, none⟩) hr0 (.int .u8 zd)).setCell (p := ⟨rb, 3, none⟩) hr0 (.int .u8 za)).setCell (p := ⟨rb, 4, none⟩) hr0 (.int .u8 zb)).setCell (p := ⟨rb, 5, none⟩) hr0 (.int .u32 zi)).setCell (p := ⟨rb, 6, none⟩) hr0 (.string SD)).setCell (p := ⟨rb, 7, none⟩) hr0 (.string SN))
                have hSE : RS ((((((((wg.setCell ⟨rb, 0, none⟩ (.string SL)).setCell ⟨rb, 1, none⟩ (.int .u8 zo)).setCell ⟨rb, 2, none⟩ (.int .u8 zd)).setCell ⟨rb, 3, none⟩ (.int .u8 za)).setCell ⟨rb, 4, none⟩ (.int .u8 zb)).setCell ⟨rb, 5, none⟩ (.int .u32 zi)).setCell ⟨rb, 6, none⟩ (.string SD)).setCell ⟨rb, 7, none⟩ (.string SN)) := (HS.out _).2 ((Below.heap_setCell (((((((wg.setCell ⟨rb, 0, none⟩ (.string SL)).setCell ⟨rb, 1, none⟩ (.int .u8 zo)).setCell ⟨rb, 2, none⟩ (.int .u8 zd)).setCell ⟨rb, 3, none⟩ (.int .u8 za)).setCell ⟨rb, 4, none⟩ (.int .u8 zb)).setCell ⟨rb, 5, none⟩ (.int .u32 zi)).setCell ⟨rb, 6, none⟩ (.string SD)) ⟨rb, 7, none⟩ (.string SN) xb (by simpa using hxr)).trans ((Below.heap_setCell ((((((wg.setCell ⟨rb, 0, none⟩ (.string SL)).setCell ⟨rb, 1, none⟩ (.int .u8 zo)).setCell ⟨rb, 2, none⟩ (.int .u8 zd)).setCell ⟨rb, 3, none⟩ (.int .u8 za)).setCell ⟨rb, 4, none⟩ (.int .u8 zb)).setCell ⟨rb, 5, none⟩ (.int .u32 zi)) ⟨rb, 6, none⟩ (.string SD) xb (by simpa using hxr)).trans ((Below.heap_setCell (((((wg.setCell ⟨rb, 0, none⟩ (.string SL)).setCell ⟨rb, 1, none⟩ (.int .u8 zo)).setCell ⟨rb, 2, none⟩ (.int .u8 zd)).setCell ⟨rb, 3, none⟩ (.int .u8 za)).setCell ⟨rb, 4, none⟩ (.int .u8 zb)) ⟨rb, 5, none⟩ (.int .u32 zi) xb (by simpa using hxr)).trans ((Below.heap_setCell ((((wg.setCell ⟨rb, 0, none⟩ (.string SL)).setCell ⟨rb, 1, none⟩ (.int .u8 zo)).setCell ⟨rb, 2, none⟩ (.int .u8 zd)).setCell ⟨rb, 3, none⟩ (.int .u8 za)) ⟨rb, 4, none⟩ (.int .u8 zb) xb (by simpa using hxr)).trans ((Below.heap_setCell (((wg.setCell ⟨rb, 0, none⟩ (.string SL)).setCell ⟨rb, 1, none⟩ (.int .u8 zo)).setCell ⟨rb, 2, none⟩ (.int .u8 zd)) ⟨rb, 3, none⟩ (.int .u8 za) xb (by simpa using hxr)).trans ((Below.heap_setCell ((wg.setCell ⟨rb, 0, none⟩ (.string SL)).setCell ⟨rb, 1, none⟩ (.int .u8 zo)) ⟨rb, 2, none⟩ (.int .u8 zd) xb (by simpa using hxr)).trans ((Below.heap_setCell (wg.setCell ⟨rb, 0, none⟩ (.string SL)) ⟨rb, 1, none⟩ (.int .u8 zo) xb (by simpa using hxr)).trans ((Below.heap_setCell wg ⟨rb, 0, none⟩ (.string SL) xb (by simpa using hxr)).trans hXg))))))))
                refine wpAnyS_one (i := 12) (by kernel_rfl) rfl (fun K hK => ?_)
                go_simp
                refine hK _ _ hSE ?_
                clear hK K
                clear c0 c1 c2 c3 c4 c5 c6 c7 g0 g1 g2 g3 g4 g5 g6 g7
                generalize ((((((((wg.setCell ⟨rb, 0, none⟩ (.string SL)).setCell ⟨rb, 1, none⟩ (.int .u8 zo)).setCell ⟨rb, 2, none⟩ (.int .u8 zd)).setCell ⟨rb, 3, none⟩ (.int .u8 za)).setCell ⟨rb, 4, none⟩ (.int .u8 zb)).setCell ⟨rb, 5, none⟩ (.int .u32 zi)).setCell ⟨rb, 6, none⟩ (.string SD)).setCell ⟨rb, 7, none⟩ (.string SN)) = wE at *
                refine wpAnyS_one (i := 13) (by kernel_rfl) rfl (fun K hK => ?_)
                go_simp
                refine hK _ _ hSE ?_
                clear hK K
                refine wpAnyS_done (by kernel_rfl) (NoPanic.normal ?_)
                clear hSE HS r0 r1 r2 r3 r4 r5 r6 r7
                have c0 : wE.cell? ⟨rb, 0, none⟩ = some (.string SL) := Lib.cell_of_heap hRE 0
                have c1 : wE.cell? ⟨rb, 1, none⟩ = some (.int .u8 zo) := Lib.cell_of_heap hRE 1
                have c2 : wE.cell? ⟨rb, 2, none⟩ = some (.int .u8 zd) := Lib.cell_of_heap hRE 2
                have c3 : wE.cell? ⟨rb, 3, none⟩ = some (.int .u8 za) := Lib.cell_of_heap hRE 3
                have c4 : wE.cell? ⟨rb, 4, none⟩ = some (.int .u8 zb) := Lib.cell_of_heap hRE 4
                have c5 : wE.cell? ⟨rb, 5, none⟩ = some (.int .u32 zi) := Lib.cell_of_heap hRE 5
                have c6 : wE.cell? ⟨rb, 6, none⟩ = some (.string SD) := Lib.cell_of_heap hRE 6
                have c7 : wE.cell? ⟨rb, 7, none⟩ = some (.string SN) := Lib.cell_of_heap hRE 7
                go_wp2
                refine bodyPost_ret (v := .tuple #[.agg #[.string SL, .int .u8 zo, .int .u8 zd, .int .u8 za, .int .u8 zb, .int .u32 zi, .string SD, .string SN], .bool bq]) (by simp [results, Tryz.results61, go_sem, c0, c1, c2, c3, c4, c5, c6, c7]) rfl ?_
                exact ⟨by rw [HRES.out]; rfl, HBE.out⟩
end Go.Proofs.YtoonkfhphbojcaaGreatDoor
