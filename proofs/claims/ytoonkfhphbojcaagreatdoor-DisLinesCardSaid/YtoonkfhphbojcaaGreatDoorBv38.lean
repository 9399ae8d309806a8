/- The walk of dis.readLine. -/
import Derived.Test.YtoonkfhphbojcaaGreatDoorBv37
import Derived.Test.YtoonkfhphbojcaaGreatDoorBv22
namespace Go.Proofs.YtoonkfhphbojcaaGreatDoor
open Go.RowKit Go.Maps
theorem cut33 (s sep : BL) (w : World) (hL : Lib33 w) (hs : s.length ≤ 1000000) : Calls Tryz.prog 107 #[.string (bsOf s), .string (bsOf sep)] w fun e w' => e = .returned (.tuple #[.string (bsOf (Lib.cut s sep).1), .string (bsOf (Lib.cut s sep).2.1), .bool (Lib.cut s sep).2.2]) ∧ Below w.heap.size w w' := by
  obtain ⟨m, hm⟩ := hL.maxl
  refine (Any.strings_Cut Tryz.lCut (bsOf s) (bsOf sep) m w (by rw [bsOf_size]; omega) hm).mono ?_
  rintro e w' ⟨rfl, n, rfl⟩
  exact ⟨rfl, below_drewN (Below.refl _ _) n⟩
def readLnE : Option GLine → Ending
  | none => wrongE
  | some x => .returned (lineV x)
theorem cut_tail {c : UInt8} {s : BL} (h : ∀ r, s ≠ c :: r) {w : World} : Calls Tryz.prog 75 #[.string (bsOf s), .string (bsOf [c])] w fun e w' => e = .returned (.tuple #[.string (bsOf s), .bool false]) ∧ w' = w := cutPre_no c s h w
set_option maxHeartbeats 8000000 in
set_option maxRecDepth 100000 in
theorem readLine33 (s : BL) (w : World) (hL : Lib33 w) (hs : s.length ≤ 100000) :
    Calls Tryz.prog 59 #[.string (bsOf s)] w fun e w' => e = readLnE (readLineL s) ∧ Below w.heap.size w w' := by
  have HL := Lib.hid hL
  clear hL
  have HEQ : Hid (readLineL s = (restOf s).bind fun p => (parsedW (cutAt 32 p.2)).bind fun q => (immOf q.1.op q.2).bind fun r => okLn (lineOf p.1 q.1 r)) := Lib.hid rfl
  have HRO : Hid (restOf s = if (Lib.cut s [58, 32]).2.2 then (if (Lib.cut s [58, 32]).1 = [] then none else some ((Lib.cut s [58, 32]).1, (Lib.cut s [58, 32]).2.1)) else some ([], s)) := Lib.hid rfl
  have hcl := lcut_len s [58, 32]
  have HC1 := Lib.hid (fun W (hW : Below w.heap.size w W) => cut33 s [58, 32] W (HL.out.keep hW) (by omega))
  generalize Lib.cut s [58, 32] = c at HC1 HRO hcl
  obtain ⟨ca, cb, cc⟩ := c
  simp only [] at HC1 HRO hcl
  rw [show bsOf [58, 32] = ⟨#[58, 32]⟩ from rfl] at HC1
  have hne := bs_nil33 ca
  generalize readLineL s = res at HEQ ⊢
  have HB1 := Lib.hid (alloc_old w (.cells #[.string ⟨#[]⟩, .int .u8 0, .int .u8 0, .int .u8 0, .int .u8 0, .int .u32 0, .string ⟨#[]⟩, .string ⟨#[]⟩] 59))
  have hX1 := new_block w (.cells #[.string ⟨#[]⟩, .int .u8 0, .int .u8 0, .int .u8 0, .int .u8 0, .int .u32 0, .string ⟨#[]⟩, .string ⟨#[]⟩] 59)
  go_enter Tryz.func59, Tryz.ntmps59
  go_upto_region 2 with fail
  generalize (w.alloc (.cells #[.string ⟨#[]⟩, .int .u8 0, .int .u8 0, .int .u8 0, .int .u8 0, .int .u32 0, .string ⟨#[]⟩, .string ⟨#[]⟩] 59)) = w1 at *
  obtain ⟨xb, hxb⟩ : ∃ xb, xb = w.heap.size := ⟨_, rfl⟩
  rw [← hxb] at hX1 ⊢
  have hxl := (Array.getElem?_eq_some_iff.1 hX1).1
  have hx0 : w.heap.size ≤ xb := by omega
  clear hxb
  go_wp2_with fail
  refine (HC1.out _ HB1.out).mono ?_
  rintro e w2 ⟨rfl, hB⟩
  have hX2 := (hB.block xb hxl).trans hX1
  have HB2 := Lib.hid (HB1.out.trans (hB.mono HB1.out.size))
  clear hB hX1 hxl HC1 HB1
  have hCASE : (cc = true ∧ ca = []) ∨ (cc = true ∧ ca ≠ []) ∨ cc = false := by
    cases cc
    · exact .inr (.inr rfl)
    · by_cases h : ca = []
      · exact .inl ⟨rfl, h⟩
      · exact .inr (.inl ⟨rfl, h⟩)
  rcases hCASE with ⟨hcc, h0⟩ | ⟨hcc, h0⟩ | hcc
  case' inl =>
    have HR : Hid (res = none) := Lib.hid (by rw [HEQ.out, HRO.out, hcc, h0]; rfl)
    have hne2 : (bsOf ca).toList.isEmpty = true := by rw [hne]; simp [h0]
    clear hne h0 HEQ HRO
    subst hcc
    have f0 := Lib.frozen_of_heap hX2 0
    have z0 : w2.cell? ⟨xb, 0, none⟩ = some (.string ⟨#[]⟩) := Lib.cell_of_heap hX2 0
    go_wp2_with fail
    refine (need_no _).mono ?_
    rintro e w3 ⟨rfl, rfl⟩
    go_wp2
    exact ⟨rfl, by rw [HR.out]; rfl, HB2.out.setCell (p := ⟨xb, 0, none⟩) hx0 _⟩
  case' inr.inl =>
    have HR1 : Hid (restOf s = some (ca, cb)) := Lib.hid (by rw [HRO.out, hcc, if_pos rfl, if_neg h0])
    have hne2 : (bsOf ca).toList.isEmpty = false := by rw [hne]; simp [h0]
    have hcbl : cb.length ≤ 100000 := by omega
    have hcal : ca.length ≤ 100000 := by omega
    clear hne h0 HRO hcl hs
    subst hcc
    have f0 := Lib.frozen_of_heap hX2 0
    have z0 : w2.cell? ⟨xb, 0, none⟩ = some (.string ⟨#[]⟩) := Lib.cell_of_heap hX2 0
    have hX3 := set33 hX2 0 (.string (bsOf ca))
    have HB3 := Lib.hid (HB2.out.setCell (p := ⟨xb, 0, none⟩) hx0 (.string (bsOf ca)))
    go_wp2_with fail
    refine (need_yes _).mono ?_
    rintro e w3 ⟨rfl, rfl⟩
    clear hX2 HB2 z0 f0
    generalize (w2.setCell ⟨xb, 0, none⟩ (.string (bsOf ca))) = w3 at *
    clear hne2
    generalize ca = lab at *
    generalize cb = rest at *
  case' inr.inr =>
    have HR1 : Hid (restOf s = some ([], s)) := Lib.hid (by rw [HRO.out, hcc]; rfl)
    subst hcc
    have hcbl := hs
    obtain ⟨lab, hlab⟩ : ∃ lab : BL, Hid (lab = []) := ⟨_, rfl⟩
    have hcal : lab.length ≤ 100000 := by rw [hlab.out]; simp
    have hX3 : w2.heap[xb]? = some (.cells (Array.setIfInBounds #[.string ⟨#[]⟩, .int .u8 0, .int .u8 0, .int .u8 0, .int .u8 0, .int .u32 0, .string ⟨#[]⟩, .string ⟨#[]⟩] 0 (.string (bsOf lab))) 59 (0, 0)) := by rw [hX2, hlab.out]; rfl
    rw [Hid, ← hlab.out] at HR1
    replace HR1 := Lib.hid HR1
    have HB3 := HB2
    clear hne HRO hcl hs HB2 hX2
    generalize hrs : s = rest at hcbl ⊢
    replace HR1 := Lib.hid (show restOf s = some (lab, rest) by rw [← hrs]; exact HR1.out)
    clear hrs
    go_upto_region 6 with fail
    generalize w2 = w3 at *

  all_goals
    have HR2 : Hid (res = (parsedW (cutAt 32 rest)).bind fun q => (immOf q.1.op q.2).bind fun r => okLn (lineOf lab q.1 r)) := Lib.hid (by rw [HEQ.out, HR1.out]; rfl)
    have HPA := Lib.hid (parsed33 rest w3 (HL.out.keep HB3.out) hcbl)
    have hcr := (cutAt_len 32 rest).2
    unfold parsedE at HPA
    clear HEQ HR1
    go_wp2_with fail
    refine HPA.out.mono ?_
    rintro e w4 ⟨he, hB⟩
    have hX4 := (hB.block xb (Array.getElem?_eq_some_iff.1 hX3).1).trans hX3
    have HB4 := Lib.hid (HB3.out.trans (hB.mono HB3.out.size))
    clear hB hX3 HB3 HPA
    cases hp : parsedW (cutAt 32 rest) with
    | none =>
      rw [hp] at he
      unfold wrongE wrongV at he
      simp only [] at he
      subst he
      have HR : Hid (res = none) := Lib.hid (by rw [HR2.out, hp]; rfl)
      go_wp2
      exact ⟨rfl, by rw [HR.out]; rfl, HB4.out⟩
    | some q =>
      obtain ⟨y, imm⟩ := q
      rw [hp] at he
      simp only [] at he
      subst he
      have HPO := Lib.hid (parsedW_ok hp)
      have hil : imm.length ≤ 100002 := by
        have := parsedW_imm (n := 100002) hp (fun p h => by have := hcr p h; omega) (by omega)
        exact this
      have HR3 : Hid (res = (immOf y.op imm).bind fun r => okLn (lineOf lab y r)) := Lib.hid (by rw [HR2.out, hp]; rfl)
      have hyz : y.imm = 0 := HPO.out.num
      have HYB : Hid (InsB y) := Lib.hid (by
        obtain ⟨-, -, h1, ⟨h2, h3, -⟩, ⟨h4, h5, -⟩, ⟨h6, h7, -⟩, h8, -⟩ := HPO.out
        exact ⟨by omega, by omega, by omega, by omega, by omega⟩)
      have HIO := Lib.hid (fun r (hr : immOf y.op imm = some r) => immOf_back hr HPO.out.imm y rfl lab)
      clear hp HR2 hcr HPO
      obtain ⟨op, xd, xa, xbb, xi⟩ := y
      simp only [] at hyz HR3 HIO
      subst hyz
      unfold insV
      simp only []
      have HU := Lib.hid (fun W => uses33 op W HYB.out.1.1 HYB.out.1.2)
      unfold usesV at HU
      have hrf := run_use3
      have hB5 := HB4.out.alloc HB4.out.size (.cells #[.int .u8 op, .int .u8 xd, .int .u8 xa, .int .u8 xbb, .int .u32 0] 24)
      have hY5 := new_block w4 (.cells #[.int .u8 op, .int .u8 xd, .int .u8 xa, .int .u8 xbb, .int .u32 0] 24)
      have hx4 := (Array.getElem?_eq_some_iff.1 hX4).1
      have hX5 := (Below.heap_alloc w4 (.cells #[.int .u8 op, .int .u8 xd, .int .u8 xa, .int .u8 xbb, .int .u32 0] 24) xb hx4).trans hX4
      go_upto_region 7 with fail
      generalize (w4.alloc (.cells #[.int .u8 op, .int .u8 xd, .int .u8 xa, .int .u8 xbb, .int .u32 0] 24)) = w5 at *
      obtain ⟨yb, hyb⟩ : ∃ yb, yb = w4.heap.size := ⟨_, rfl⟩
      rw [← hyb] at hY5 ⊢
      have hyx : yb ≠ xb := by omega
      have hy0 : w.heap.size ≤ yb := by have := HB4.out.size; omega
      clear hyb hx4 hX4 HB4
      have HY5 := Lib.hid hY5
      have y0 : w5.cell? ⟨yb, 0, none⟩ = some (.int .u8 op) := Lib.cell_of_heap hY5 0
      have y1 : w5.cell? ⟨yb, 1, none⟩ = some (.int .u8 xd) := Lib.cell_of_heap hY5 1
      have y2 : w5.cell? ⟨yb, 2, none⟩ = some (.int .u8 xa) := Lib.cell_of_heap hY5 2
      have y3 : w5.cell? ⟨yb, 3, none⟩ = some (.int .u8 xbb) := Lib.cell_of_heap hY5 3
      have y4 : w5.cell? ⟨yb, 4, none⟩ = some (.int .u32 0) := Lib.cell_of_heap hY5 4
      have x1 : w5.cell? ⟨xb, 1, none⟩ = some (.int .u8 0) := Lib.cell_of_heap hX5 1
      have x2 : w5.cell? ⟨xb, 2, none⟩ = some (.int .u8 0) := Lib.cell_of_heap hX5 2
      have x3 : w5.cell? ⟨xb, 3, none⟩ = some (.int .u8 0) := Lib.cell_of_heap hX5 3
      have x4 : w5.cell? ⟨xb, 4, none⟩ = some (.int .u8 0) := Lib.cell_of_heap hX5 4
      have x5 : w5.cell? ⟨xb, 5, none⟩ = some (.int .u32 0) := Lib.cell_of_heap hX5 5
      have f1 := Lib.frozen_of_heap hX5 1
      have f2 := Lib.frozen_of_heap hX5 2
      have f3 := Lib.frozen_of_heap hX5 3
      have f4 := Lib.frozen_of_heap hX5 4
      have f5 := Lib.frozen_of_heap hX5 5
      have hX6 := set33 (set33 (set33 (set33 (set33 hX5 1 (.int .u8 op)) 2 (.int .u8 xd)) 3 (.int .u8 xa)) 4 (.int .u8 xbb)) 5 (.int .u32 0)
      have HB6 := Lib.hid (((((hB5.setCell (p := ⟨xb, 1, none⟩) hx0 (.int .u8 op)).setCell (p := ⟨xb, 2, none⟩) hx0 (.int .u8 xd)).setCell (p := ⟨xb, 3, none⟩) hx0 (.int .u8 xa)).setCell (p := ⟨xb, 4, none⟩) hx0 (.int .u8 xbb)).setCell (p := ⟨xb, 5, none⟩) hx0 (.int .u32 0))
      have hY6 : (((((w5.setCell ⟨xb, 1, none⟩ (.int .u8 op)).setCell ⟨xb, 2, none⟩ (.int .u8 xd)).setCell ⟨xb, 3, none⟩ (.int .u8 xa)).setCell ⟨xb, 4, none⟩ (.int .u8 xbb)).setCell ⟨xb, 5, none⟩ (.int .u32 0)).heap[yb]? = some (.cells #[.int .u8 op, .int .u8 xd, .int .u8 xa, .int .u8 xbb, .int .u32 0] 24 (0, 0)) := by
        rw [Below.heap_setCell _ _ _ _ (by simpa using hyx), Below.heap_setCell _ _ _ _ (by simpa using hyx), Below.heap_setCell _ _ _ _ (by simpa using hyx), Below.heap_setCell _ _ _ _ (by simpa using hyx), Below.heap_setCell _ _ _ _ (by simpa using hyx)]
        exact hY5
      go_upto_region 8 with fail
      generalize (((((w5.setCell ⟨xb, 1, none⟩ (.int .u8 op)).setCell ⟨xb, 2, none⟩ (.int .u8 xd)).setCell ⟨xb, 3, none⟩ (.int .u8 xa)).setCell ⟨xb, 4, none⟩ (.int .u8 xbb)).setCell ⟨xb, 5, none⟩ (.int .u32 0)) = w6 at *
      clear y0 y1 y2 y3 y4 x1 x2 x3 x4 x5 f1 f2 f3 f4 f5 hX5 hY5 HY5 hB5
      replace hX6 : w6.heap[xb]? = some (.cells #[.string (bsOf lab), .int .u8 op, .int .u8 xd, .int .u8 xa, .int .u8 xbb, .int .u32 0, .string ⟨#[]⟩, .string ⟨#[]⟩] 59 (0, 0)) := hX6

      have hxl6 := (Array.getElem?_eq_some_iff.1 hX6).1
      have hIC : (∃ t, imm = 62 :: t) ∨ (∃ t, imm = 64 :: t) ∨ ((∀ t, imm ≠ 62 :: t) ∧ ∀ t, imm ≠ 64 :: t) := by
        match imm with
        | [] => exact .inr (.inr ⟨by simp, by simp⟩)
        | c :: t =>
          by_cases h1 : c = 62
          · subst h1; exact .inl ⟨t, rfl⟩
          · by_cases h2 : c = 64
            · subst h2; exact .inr (.inl ⟨t, rfl⟩)
            · exact .inr (.inr ⟨by simp [h1], by simp [h2]⟩)
      rcases hIC with ⟨t, rfl⟩ | ⟨t, rfl⟩ | ⟨hn62, hn64⟩
      · have HP1 := Lib.hid (fun W => cutPre_yes 62 t W)
        have HP2 := Lib.hid (fun W => cutPre_no 64 (62 :: t) (by simp) W)
        rw [show bsOf [62] = ⟨#[62]⟩ from rfl] at HP1
        rw [show bsOf [64] = ⟨#[64]⟩ from rfl] at HP2
        have htl : t.length ≤ 100002 := by simp only [List.length_cons] at hil; omega
        have hne := bs_nil33 t
        go_wp2_with fail
        refine (HP1.out _).mono ?_
        rintro e w7 ⟨rfl, hw7⟩
        obtain rfl := hw7.symm
        go_wp2_with fail
        refine (HP2.out _).mono ?_
        rintro e w7 ⟨rfl, hw7⟩
        obtain rfl := hw7.symm
        have x6 : w6.cell? ⟨xb, 6, none⟩ = some (.string ⟨#[]⟩) := Lib.cell_of_heap hX6 6
        have f6 := Lib.frozen_of_heap hX6 6
        have hX7 := set33 hX6 6 (.string (bsOf t))
        have HB7 := Lib.hid (HB6.out.setCell (p := ⟨xb, 6, none⟩) hx0 (.string (bsOf t)))
        by_cases h0 : t = []
        · have hne2 : (bsOf t).toList.isEmpty = true := by rw [hne]; simp [h0]
          have HR : Hid (res = none) := Lib.hid (by rw [HR3.out, h0]; rfl)
          clear h0 hne
          go_wp2_with fail
          refine (need_no _).mono ?_
          rintro e w8 ⟨rfl, hw8⟩
          subst hw8
          go_wp2
          exact ⟨rfl, by rw [HR.out]; rfl, HB7.out⟩
        · have hne2 : (bsOf t).toList.isEmpty = false := by rw [hne]; simp [h0]
          have HRI : Hid (immOf op (62 :: t) = some (t, 0, [])) := Lib.hid (immOf_dest op h0)
          clear hne h0
          go_wp2_with fail
          refine (need_yes _).mono ?_
          rintro e w8 ⟨rfl, rfl⟩
          clear hX6 HB6 hY6 x6 f6 hne2 HP1 HP2
          generalize (w6.setCell ⟨xb, 6, none⟩ (.string (bsOf t))) = w9 at *
          have HR9 : Hid (res = okLn (lineOf lab ⟨op, xd, xa, xbb, 0⟩ (t, 0, []))) := Lib.hid (by rw [HR3.out, HRI.out]; rfl)
          have HZB : LineB (lineOf lab ⟨op, xd, xa, xbb, 0⟩ (t, 0, [])) := ⟨HYB.out, by show lab.length ≤ _; omega, by show t.length ≤ _; omega, by show ([] : BL).length ≤ _; simp⟩
          have hX9 : w9.heap[xb]? = some (.cells (lineA (lineOf lab ⟨op, xd, xa, xbb, 0⟩ (t, 0, []))) 59 (0, 0)) := hX7
          have HB9 := HB7
          clear HR3 HRI hX7 HB7
          generalize lineOf lab ⟨op, xd, xa, xbb, 0⟩ (t, 0, []) = z at HR9 HZB hX9
          have HNM := Lib.hid (fun W => disName33 z.label W (by have := HZB.label; omega))
          have HCK := Lib.hid (fun W => check33 z W HZB)
          have HOK : Hid (okLn z = if (nameOk z.label && tellMay z) = true then some z else none) := Lib.hid rfl
          have HLZ : Hid (lineV z = .agg (lineA z)) := Lib.hid rfl
          generalize nameOk z.label = n1 at HNM HOK
          generalize tellMay z = n2 at HCK HOK
          unfold lineV at HCK
          clear HZB
          have hlt9 := (Array.getElem?_eq_some_iff.1 hX9).1
          have x0 : w9.cell? ⟨xb, 0, none⟩ = some (.string (bsOf z.label)) := Lib.cell_of_heap hX9 0
          go_wp2_with fail
          refine (HNM.out _).mono ?_
          rintro e w10 ⟨rfl, hB⟩
          have hX10 := (hB.block xb hlt9).trans hX9
          have HB10 := Lib.hid (HB9.out.trans (hB.mono HB9.out.size))
          clear hB hX9 HB9 hlt9 x0 HNM
          cases n1 with
          | false =>
            have HR : Hid (res = none) := Lib.hid (by rw [HR9.out, HOK.out]; rfl)
            go_wp2_with fail
            refine (need_no _).mono ?_
            rintro e w11 ⟨rfl, hw11⟩
            obtain rfl := hw11.symm
            go_wp2
            exact ⟨rfl, by rw [HR.out]; rfl, HB10.out⟩
          | true =>
            unfold lineA at hX10 HCK HLZ
            obtain ⟨zl, ⟨zo, zd, za, zb, zi⟩, zt, zn⟩ := z
            simp only [] at hX10 HCK HLZ
            generalize bsOf zl = SL at *
            generalize bsOf zt = SD at *
            generalize bsOf zn = SN at *
            have x0 : w10.cell? ⟨xb, 0, none⟩ = some (.string SL) := Lib.cell_of_heap hX10 0
            have x1 : w10.cell? ⟨xb, 1, none⟩ = some (.int .u8 zo) := Lib.cell_of_heap hX10 1
            have x2 : w10.cell? ⟨xb, 2, none⟩ = some (.int .u8 zd) := Lib.cell_of_heap hX10 2
            have x3 : w10.cell? ⟨xb, 3, none⟩ = some (.int .u8 za) := Lib.cell_of_heap hX10 3
            have x4 : w10.cell? ⟨xb, 4, none⟩ = some (.int .u8 zb) := Lib.cell_of_heap hX10 4
            have x5 : w10.cell? ⟨xb, 5, none⟩ = some (.int .u32 zi) := Lib.cell_of_heap hX10 5
            have x6 : w10.cell? ⟨xb, 6, none⟩ = some (.string SD) := Lib.cell_of_heap hX10 6
            have x7 : w10.cell? ⟨xb, 7, none⟩ = some (.string SN) := Lib.cell_of_heap hX10 7
            go_wp2_with fail
            refine (HCK.out _).mono ?_
            rintro e w11 ⟨rfl, hB⟩
            have hX11 := (hB.block xb (Array.getElem?_eq_some_iff.1 hX10).1).trans hX10
            have HB11 := Lib.hid (HB10.out.trans (hB.mono HB10.out.size))
            clear hB hX10 HB10 HCK x0 x1 x2 x3 x4 x5 x6 x7
            cases n2 with
            | false =>
              have HR : Hid (res = none) := Lib.hid (by rw [HR9.out, HOK.out]; rfl)
              go_wp2_with fail
              refine (need_no _).mono ?_
              rintro e w12 ⟨rfl, hw12⟩
              obtain rfl := hw12.symm
              go_wp2
              exact ⟨rfl, by rw [HR.out]; rfl, HB11.out⟩
            | true =>
              have HR := Lib.hid (HR9.out.trans HOK.out)
              go_wp2_with fail
              refine (need_yes _).mono ?_
              rintro e w12 ⟨rfl, hw12⟩
              obtain rfl := hw12.symm
              have x0 : w11.cell? ⟨xb, 0, none⟩ = some (.string SL) := Lib.cell_of_heap hX11 0
              have f0 := Lib.frozen_of_heap hX11 0
              have s0 := setCell_self x0
              have x1 : w11.cell? ⟨xb, 1, none⟩ = some (.int .u8 zo) := Lib.cell_of_heap hX11 1
              have f1 := Lib.frozen_of_heap hX11 1
              have s1 := setCell_self x1
              have x2 : w11.cell? ⟨xb, 2, none⟩ = some (.int .u8 zd) := Lib.cell_of_heap hX11 2
              have f2 := Lib.frozen_of_heap hX11 2
              have s2 := setCell_self x2
              have x3 : w11.cell? ⟨xb, 3, none⟩ = some (.int .u8 za) := Lib.cell_of_heap hX11 3
              have f3 := Lib.frozen_of_heap hX11 3
              have s3 := setCell_self x3
              have x4 : w11.cell? ⟨xb, 4, none⟩ = some (.int .u8 zb) := Lib.cell_of_heap hX11 4
              have f4 := Lib.frozen_of_heap hX11 4
              have s4 := setCell_self x4
              have x5 : w11.cell? ⟨xb, 5, none⟩ = some (.int .u32 zi) := Lib.cell_of_heap hX11 5
              have f5 := Lib.frozen_of_heap hX11 5
              have s5 := setCell_self x5
              have x6 : w11.cell? ⟨xb, 6, none⟩ = some (.string SD) := Lib.cell_of_heap hX11 6
              have f6 := Lib.frozen_of_heap hX11 6
              have s6 := setCell_self x6
              have x7 : w11.cell? ⟨xb, 7, none⟩ = some (.string SN) := Lib.cell_of_heap hX11 7
              have f7 := Lib.frozen_of_heap hX11 7
              have s7 := setCell_self x7
              go_wp2
              refine bodyPost_ret (v := .agg #[.string SL, .int .u8 zo, .int .u8 zd, .int .u8 za, .int .u8 zb, .int .u32 zi, .string SD, .string SN]) (by simp [results, Tryz.results59, go_sem, x0, x1, x2, x3, x4, x5, x6, x7]) rfl ?_
              exact ⟨by rw [HR.out, ← HLZ.out]; rfl, HB11.out⟩
      · have HP1 := Lib.hid (fun W => cutPre_no 62 (64 :: t) (by simp) W)
        have HP2 := Lib.hid (fun W => cutPre_yes 64 t W)
        rw [show bsOf [62] = ⟨#[62]⟩ from rfl] at HP1
        rw [show bsOf [64] = ⟨#[64]⟩ from rfl] at HP2
        have htl : t.length ≤ 100002 := by simp only [List.length_cons] at hil; omega
        have HIM : Hid (immOf op (64 :: t) = if (Lib.cut t [43]).2.2 = true ∧ (Lib.cut t [43]).1 ≠ [] then (numL (Lib.cut t [43]).2.1).map fun k => ([], k, (Lib.cut t [43]).1) else none) := Lib.hid rfl
        have hcl2 := lcut_len t [43]
        have HC2 := Lib.hid (cut33 t [43] w6 (HL.out.keep HB6.out) (by omega))
        rw [show bsOf [43] = ⟨#[43]⟩ from rfl] at HC2
        generalize Lib.cut t [43] = c2 at HIM hcl2 HC2
        obtain ⟨na, nb, nc⟩ := c2
        simp only [] at HIM hcl2 HC2
        have hne := bs_nil33 na
        go_wp2_with fail
        refine (HP1.out _).mono ?_
        rintro e w7 ⟨rfl, hw7⟩
        obtain rfl := hw7.symm
        go_wp2_with fail
        refine (HP2.out _).mono ?_
        rintro e w7 ⟨rfl, hw7⟩
        obtain rfl := hw7.symm
        go_wp2_with fail
        refine HC2.out.mono ?_
        rintro e w7 ⟨rfl, hB⟩
        have hX7 := (hB.block xb hxl6).trans hX6
        have HB7 := Lib.hid (HB6.out.trans (hB.mono HB6.out.size))
        clear hX6 HB6 hY6 hB HP1 HP2 HC2
        cases nc with
        | false =>
          have HR : Hid (res = none) := Lib.hid (by rw [HR3.out, HIM.out, if_neg (by simp)]; rfl)
          go_wp2_with fail
          refine (need_no _).mono ?_
          rintro e w8 ⟨rfl, hw8⟩
          subst hw8
          go_wp2
          exact ⟨rfl, by rw [HR.out]; rfl, HB7.out⟩
        | true =>
          by_cases h0 : na = []
          · have hne2 : (bsOf na).toList.isEmpty = true := by rw [hne]; simp [h0]
            have HR : Hid (res = none) := Lib.hid (by rw [HR3.out, HIM.out, if_neg (by simp [h0])]; rfl)
            clear h0 hne
            go_wp2_with fail
            refine (need_no _).mono ?_
            rintro e w8 ⟨rfl, hw8⟩
            subst hw8
            go_wp2
            exact ⟨rfl, by rw [HR.out]; rfl, HB7.out⟩
          · have hne2 : (bsOf na).toList.isEmpty = false := by rw [hne]; simp [h0]
            have HIN : Hid (immOf op (64 :: t) = (numL nb).map fun k => ([], k, na)) := Lib.hid (by rw [HIM.out, if_pos ⟨rfl, h0⟩])
            clear hne h0 HIM
            have HNU := Lib.hid (number33 nb w7 (HL.out.keep HB7.out) (by omega))
            unfold numE at HNU
            go_wp2_with fail
            refine (need_yes _).mono ?_
            rintro e w8 ⟨rfl, hw8⟩
            obtain rfl := hw8.symm
            go_wp2_with fail
            refine HNU.out.mono ?_
            rintro e w8 ⟨he, hB⟩
            have hX8 := (hB.block xb (Array.getElem?_eq_some_iff.1 hX7).1).trans hX7
            have HB8 := Lib.hid (HB7.out.trans (hB.mono HB7.out.size))
            clear hX7 HB7 hB HNU
            cases hnu : numL nb with
            | none =>
              rw [hnu] at he
              unfold wrongE wrongV at he
              simp only [] at he
              subst he
              have HR : Hid (res = none) := Lib.hid (by rw [HR3.out, HIN.out, hnu]; rfl)
              go_wp2
              exact ⟨rfl, by rw [HR.out]; rfl, HB8.out⟩
            | some k =>
              rw [hnu] at he
              simp only [] at he
              subst he
              have HRI : Hid (immOf op (64 :: t) = some ([], k, na)) := Lib.hid (by rw [HIN.out, hnu]; rfl)
              have hk := ((numL_iff _ _).1 hnu).2
              clear hnu HIN
              have x5 : w8.cell? ⟨xb, 5, none⟩ = some (.int .u32 0) := Lib.cell_of_heap hX8 5
              have f5 := Lib.frozen_of_heap hX8 5
              have x7 : w8.cell? ⟨xb, 7, none⟩ = some (.string ⟨#[]⟩) := Lib.cell_of_heap hX8 7
              have f7 := Lib.frozen_of_heap hX8 7
              have hX9' := set33 (set33 hX8 7 (.string (bsOf na))) 5 (.int .u32 (k : Int))
              have HB9' := Lib.hid ((HB8.out.setCell (p := ⟨xb, 7, none⟩) hx0 (.string (bsOf na))).setCell (p := ⟨xb, 5, none⟩) hx0 (.int .u32 (k : Int)))
              go_upto_region 19 with fail
              generalize ((w8.setCell ⟨xb, 7, none⟩ (.string (bsOf na))).setCell ⟨xb, 5, none⟩ (.int .u32 (k : Int))) = w9 at *
              clear x5 x7 f5 f7 hX8 HB8 hne2
              have HR9 : Hid (res = okLn (lineOf lab ⟨op, xd, xa, xbb, 0⟩ ([], k, na))) := Lib.hid (by rw [HR3.out, HRI.out]; rfl)
              have HZB : LineB (lineOf lab ⟨op, xd, xa, xbb, 0⟩ ([], k, na)) := ⟨⟨HYB.out.1, HYB.out.2.1, HYB.out.2.2.1, HYB.out.2.2.2.1, by show 0 ≤ (k : Int) ∧ (k : Int) ≤ _; omega⟩, by show lab.length ≤ _; omega, by show ([] : BL).length ≤ _; simp, by show na.length ≤ _; omega⟩
              have hX9 : w9.heap[xb]? = some (.cells (lineA (lineOf lab ⟨op, xd, xa, xbb, 0⟩ ([], k, na))) 59 (0, 0)) := hX9'
              have HB9 := HB9'
              clear HR3 HRI hX9' HB9'
              generalize lineOf lab ⟨op, xd, xa, xbb, 0⟩ ([], k, na) = z at HR9 HZB hX9
              have HNM := Lib.hid (fun W => disName33 z.label W (by have := HZB.label; omega))
              have HCK := Lib.hid (fun W => check33 z W HZB)
              have HOK : Hid (okLn z = if (nameOk z.label && tellMay z) = true then some z else none) := Lib.hid rfl
              have HLZ : Hid (lineV z = .agg (lineA z)) := Lib.hid rfl
              generalize nameOk z.label = n1 at HNM HOK
              generalize tellMay z = n2 at HCK HOK
              unfold lineV at HCK
              clear HZB
              have hlt9 := (Array.getElem?_eq_some_iff.1 hX9).1
              have x0 : w9.cell? ⟨xb, 0, none⟩ = some (.string (bsOf z.label)) := Lib.cell_of_heap hX9 0
              go_wp2_with fail
              refine (HNM.out _).mono ?_
              rintro e w10 ⟨rfl, hB⟩
              have hX10 := (hB.block xb hlt9).trans hX9
              have HB10 := Lib.hid (HB9.out.trans (hB.mono HB9.out.size))
              clear hB hX9 HB9 hlt9 x0 HNM
              cases n1 with
              | false =>
                have HR : Hid (res = none) := Lib.hid (by rw [HR9.out, HOK.out]; rfl)
                go_wp2_with fail
                refine (need_no _).mono ?_
                rintro e w11 ⟨rfl, hw11⟩
                obtain rfl := hw11.symm
                go_wp2
                exact ⟨rfl, by rw [HR.out]; rfl, HB10.out⟩
              | true =>
                unfold lineA at hX10 HCK HLZ
                obtain ⟨zl, ⟨zo, zd, za, zb, zi⟩, zt, zn⟩ := z
                simp only [] at hX10 HCK HLZ
                generalize bsOf zl = SL at *
                generalize bsOf zt = SD at *
                generalize bsOf zn = SN at *
                have x0 : w10.cell? ⟨xb, 0, none⟩ = some (.string SL) := Lib.cell_of_heap hX10 0
                have x1 : w10.cell? ⟨xb, 1, none⟩ = some (.int .u8 zo) := Lib.cell_of_heap hX10 1
                have x2 : w10.cell? ⟨xb, 2, none⟩ = some (.int .u8 zd) := Lib.cell_of_heap hX10 2
                have x3 : w10.cell? ⟨xb, 3, none⟩ = some (.int .u8 za) := Lib.cell_of_heap hX10 3
                have x4 : w10.cell? ⟨xb, 4, none⟩ = some (.int .u8 zb) := Lib.cell_of_heap hX10 4
                have x5 : w10.cell? ⟨xb, 5, none⟩ = some (.int .u32 zi) := Lib.cell_of_heap hX10 5
                have x6 : w10.cell? ⟨xb, 6, none⟩ = some (.string SD) := Lib.cell_of_heap hX10 6
                have x7 : w10.cell? ⟨xb, 7, none⟩ = some (.string SN) := Lib.cell_of_heap hX10 7
                go_wp2_with fail
                refine (HCK.out _).mono ?_
                rintro e w11 ⟨rfl, hB⟩
                have hX11 := (hB.block xb (Array.getElem?_eq_some_iff.1 hX10).1).trans hX10
                have HB11 := Lib.hid (HB10.out.trans (hB.mono HB10.out.size))
                clear hB hX10 HB10 HCK x0 x1 x2 x3 x4 x5 x6 x7
                cases n2 with
                | false =>
                  have HR : Hid (res = none) := Lib.hid (by rw [HR9.out, HOK.out]; rfl)
                  go_wp2_with fail
                  refine (need_no _).mono ?_
                  rintro e w12 ⟨rfl, hw12⟩
                  obtain rfl := hw12.symm
                  go_wp2
                  exact ⟨rfl, by rw [HR.out]; rfl, HB11.out⟩
                | true =>
                  have HR := Lib.hid (HR9.out.trans HOK.out)
                  go_wp2_with fail
                  refine (need_yes _).mono ?_
                  rintro e w12 ⟨rfl, hw12⟩
                  obtain rfl := hw12.symm
                  have x0 : w11.cell? ⟨xb, 0, none⟩ = some (.string SL) := Lib.cell_of_heap hX11 0
                  have f0 := Lib.frozen_of_heap hX11 0
                  have s0 := setCell_self x0
                  have x1 : w11.cell? ⟨xb, 1, none⟩ = some (.int .u8 zo) := Lib.cell_of_heap hX11 1
                  have f1 := Lib.frozen_of_heap hX11 1
                  have s1 := setCell_self x1
                  have x2 : w11.cell? ⟨xb, 2, none⟩ = some (.int .u8 zd) := Lib.cell_of_heap hX11 2
                  have f2 := Lib.frozen_of_heap hX11 2
                  have s2 := setCell_self x2
                  have x3 : w11.cell? ⟨xb, 3, none⟩ = some (.int .u8 za) := Lib.cell_of_heap hX11 3
                  have f3 := Lib.frozen_of_heap hX11 3
                  have s3 := setCell_self x3
                  have x4 : w11.cell? ⟨xb, 4, none⟩ = some (.int .u8 zb) := Lib.cell_of_heap hX11 4
                  have f4 := Lib.frozen_of_heap hX11 4
                  have s4 := setCell_self x4
                  have x5 : w11.cell? ⟨xb, 5, none⟩ = some (.int .u32 zi) := Lib.cell_of_heap hX11 5
                  have f5 := Lib.frozen_of_heap hX11 5
                  have s5 := setCell_self x5
                  have x6 : w11.cell? ⟨xb, 6, none⟩ = some (.string SD) := Lib.cell_of_heap hX11 6
                  have f6 := Lib.frozen_of_heap hX11 6
                  have s6 := setCell_self x6
                  have x7 : w11.cell? ⟨xb, 7, none⟩ = some (.string SN) := Lib.cell_of_heap hX11 7
                  have f7 := Lib.frozen_of_heap hX11 7
                  have s7 := setCell_self x7
                  go_wp2
                  refine bodyPost_ret (v := .agg #[.string SL, .int .u8 zo, .int .u8 zd, .int .u8 za, .int .u8 zb, .int .u32 zi, .string SD, .string SN]) (by simp [results, Tryz.results59, go_sem, x0, x1, x2, x3, x4, x5, x6, x7]) rfl ?_
                  exact ⟨by rw [HR.out, ← HLZ.out]; rfl, HB11.out⟩
      · have HP1 := Lib.hid (fun W => cutPre_no 62 imm hn62 W)
        have HP2 := Lib.hid (fun W => cutPre_no 64 imm hn64 W)
        rw [show bsOf [62] = ⟨#[62]⟩ from rfl] at HP1
        rw [show bsOf [64] = ⟨#[64]⟩ from rfl] at HP2
        have HIM : Hid (immOf op imm = if bitOf (useOf op) 8 then (numL imm).map fun k => ([], k, []) else some ([], 0, [])) := Lib.hid (by
          unfold immOf
          split
          · rename_i t; exact absurd rfl (hn62 t)
          · rename_i t; exact absurd rfl (hn64 t)
          · rfl)
        clear hn62 hn64
        have y0 : w6.cell? ⟨yb, 0, none⟩ = some (.int .u8 op) := Lib.cell_of_heap hY6 0
        go_wp2_with fail
        refine (HP1.out _).mono ?_
        rintro e w7 ⟨rfl, hw7⟩
        obtain rfl := hw7.symm
        go_wp2_with fail
        refine (HP2.out _).mono ?_
        rintro e w7 ⟨rfl, hw7⟩
        obtain rfl := hw7.symm
        go_wp2_with fail
        refine (HU.out _).mono ?_
        rintro e w7 ⟨rfl, hB⟩
        have hX7 := (hB.block xb hxl6).trans hX6
        have HB7 := Lib.hid (HB6.out.trans (hB.mono HB6.out.size))
        clear hX6 HB6 hY6 hB HP1 HP2 HU y0
        cases h8 : bitOf (useOf op) 8 with
        | false =>
          have HRI : Hid (immOf op imm = some ([], 0, [])) := Lib.hid (by rw [HIM.out, h8]; rfl)
          clear HIM h8
          go_upto_region 19 with fail
          have HR9 : Hid (res = okLn (lineOf lab ⟨op, xd, xa, xbb, 0⟩ ([], 0, []))) := Lib.hid (by rw [HR3.out, HRI.out]; rfl)
          have HZB : LineB (lineOf lab ⟨op, xd, xa, xbb, 0⟩ ([], 0, [])) := ⟨HYB.out, by show lab.length ≤ _; omega, by show ([] : BL).length ≤ _; simp, by show ([] : BL).length ≤ _; simp⟩
          have hX9 : w7.heap[xb]? = some (.cells (lineA (lineOf lab ⟨op, xd, xa, xbb, 0⟩ ([], 0, []))) 59 (0, 0)) := hX7
          have HB9 := HB7
          clear HR3 HRI hX7 HB7
          generalize lineOf lab ⟨op, xd, xa, xbb, 0⟩ ([], 0, []) = z at HR9 HZB hX9
          have HNM := Lib.hid (fun W => disName33 z.label W (by have := HZB.label; omega))
          have HCK := Lib.hid (fun W => check33 z W HZB)
          have HOK : Hid (okLn z = if (nameOk z.label && tellMay z) = true then some z else none) := Lib.hid rfl
          have HLZ : Hid (lineV z = .agg (lineA z)) := Lib.hid rfl
          generalize nameOk z.label = n1 at HNM HOK
          generalize tellMay z = n2 at HCK HOK
          unfold lineV at HCK
          clear HZB
          have hlt9 := (Array.getElem?_eq_some_iff.1 hX9).1
          have x0 : w7.cell? ⟨xb, 0, none⟩ = some (.string (bsOf z.label)) := Lib.cell_of_heap hX9 0
          go_wp2_with fail
          refine (HNM.out _).mono ?_
          rintro e w10 ⟨rfl, hB⟩
          have hX10 := (hB.block xb hlt9).trans hX9
          have HB10 := Lib.hid (HB9.out.trans (hB.mono HB9.out.size))
          clear hB hX9 HB9 hlt9 x0 HNM
          cases n1 with
          | false =>
            have HR : Hid (res = none) := Lib.hid (by rw [HR9.out, HOK.out]; rfl)
            go_wp2_with fail
            refine (need_no _).mono ?_
            rintro e w11 ⟨rfl, hw11⟩
            obtain rfl := hw11.symm
            go_wp2
            exact ⟨rfl, by rw [HR.out]; rfl, HB10.out⟩
          | true =>
            unfold lineA at hX10 HCK HLZ
            obtain ⟨zl, ⟨zo, zd, za, zb, zi⟩, zt, zn⟩ := z
            simp only [] at hX10 HCK HLZ
            generalize bsOf zl = SL at *
            generalize bsOf zt = SD at *
            generalize bsOf zn = SN at *
            have x0 : w10.cell? ⟨xb, 0, none⟩ = some (.string SL) := Lib.cell_of_heap hX10 0
            have x1 : w10.cell? ⟨xb, 1, none⟩ = some (.int .u8 zo) := Lib.cell_of_heap hX10 1
            have x2 : w10.cell? ⟨xb, 2, none⟩ = some (.int .u8 zd) := Lib.cell_of_heap hX10 2
            have x3 : w10.cell? ⟨xb, 3, none⟩ = some (.int .u8 za) := Lib.cell_of_heap hX10 3
            have x4 : w10.cell? ⟨xb, 4, none⟩ = some (.int .u8 zb) := Lib.cell_of_heap hX10 4
            have x5 : w10.cell? ⟨xb, 5, none⟩ = some (.int .u32 zi) := Lib.cell_of_heap hX10 5
            have x6 : w10.cell? ⟨xb, 6, none⟩ = some (.string SD) := Lib.cell_of_heap hX10 6
            have x7 : w10.cell? ⟨xb, 7, none⟩ = some (.string SN) := Lib.cell_of_heap hX10 7
            go_wp2_with fail
            refine (HCK.out _).mono ?_
            rintro e w11 ⟨rfl, hB⟩
            have hX11 := (hB.block xb (Array.getElem?_eq_some_iff.1 hX10).1).trans hX10
            have HB11 := Lib.hid (HB10.out.trans (hB.mono HB10.out.size))
            clear hB hX10 HB10 HCK x0 x1 x2 x3 x4 x5 x6 x7
            cases n2 with
            | false =>
              have HR : Hid (res = none) := Lib.hid (by rw [HR9.out, HOK.out]; rfl)
              go_wp2_with fail
              refine (need_no _).mono ?_
              rintro e w12 ⟨rfl, hw12⟩
              obtain rfl := hw12.symm
              go_wp2
              exact ⟨rfl, by rw [HR.out]; rfl, HB11.out⟩
            | true =>
              have HR := Lib.hid (HR9.out.trans HOK.out)
              go_wp2_with fail
              refine (need_yes _).mono ?_
              rintro e w12 ⟨rfl, hw12⟩
              obtain rfl := hw12.symm
              have x0 : w11.cell? ⟨xb, 0, none⟩ = some (.string SL) := Lib.cell_of_heap hX11 0
              have f0 := Lib.frozen_of_heap hX11 0
              have s0 := setCell_self x0
              have x1 : w11.cell? ⟨xb, 1, none⟩ = some (.int .u8 zo) := Lib.cell_of_heap hX11 1
              have f1 := Lib.frozen_of_heap hX11 1
              have s1 := setCell_self x1
              have x2 : w11.cell? ⟨xb, 2, none⟩ = some (.int .u8 zd) := Lib.cell_of_heap hX11 2
              have f2 := Lib.frozen_of_heap hX11 2
              have s2 := setCell_self x2
              have x3 : w11.cell? ⟨xb, 3, none⟩ = some (.int .u8 za) := Lib.cell_of_heap hX11 3
              have f3 := Lib.frozen_of_heap hX11 3
              have s3 := setCell_self x3
              have x4 : w11.cell? ⟨xb, 4, none⟩ = some (.int .u8 zb) := Lib.cell_of_heap hX11 4
              have f4 := Lib.frozen_of_heap hX11 4
              have s4 := setCell_self x4
              have x5 : w11.cell? ⟨xb, 5, none⟩ = some (.int .u32 zi) := Lib.cell_of_heap hX11 5
              have f5 := Lib.frozen_of_heap hX11 5
              have s5 := setCell_self x5
              have x6 : w11.cell? ⟨xb, 6, none⟩ = some (.string SD) := Lib.cell_of_heap hX11 6
              have f6 := Lib.frozen_of_heap hX11 6
              have s6 := setCell_self x6
              have x7 : w11.cell? ⟨xb, 7, none⟩ = some (.string SN) := Lib.cell_of_heap hX11 7
              have f7 := Lib.frozen_of_heap hX11 7
              have s7 := setCell_self x7
              go_wp2
              refine bodyPost_ret (v := .agg #[.string SL, .int .u8 zo, .int .u8 zd, .int .u8 za, .int .u8 zb, .int .u32 zi, .string SD, .string SN]) (by simp [results, Tryz.results59, go_sem, x0, x1, x2, x3, x4, x5, x6, x7]) rfl ?_
              exact ⟨by rw [HR.out, ← HLZ.out]; rfl, HB11.out⟩
        | true =>
          have HIN : Hid (immOf op imm = (numL imm).map fun k => ([], k, [])) := Lib.hid (by rw [HIM.out, h8]; rfl)
          clear HIM h8
          have HNU := Lib.hid (number33 imm w7 (HL.out.keep HB7.out) (by omega))
          unfold numE at HNU
          go_wp2_with fail
          refine HNU.out.mono ?_
          rintro e w8 ⟨he, hB⟩
          have hX8 := (hB.block xb (Array.getElem?_eq_some_iff.1 hX7).1).trans hX7
          have HB8 := Lib.hid (HB7.out.trans (hB.mono HB7.out.size))
          clear hX7 HB7 hB HNU
          cases hnu : numL imm with
          | none =>
            rw [hnu] at he
            unfold wrongE wrongV at he
            simp only [] at he
            subst he
            have HR : Hid (res = none) := Lib.hid (by rw [HR3.out, HIN.out, hnu]; rfl)
            go_wp2
            exact ⟨rfl, by rw [HR.out]; rfl, HB8.out⟩
          | some k =>
            rw [hnu] at he
            simp only [] at he
            subst he
            have HRI : Hid (immOf op imm = some ([], k, [])) := Lib.hid (by rw [HIN.out, hnu]; rfl)
            have hk := ((numL_iff _ _).1 hnu).2
            clear hnu HIN
            have x5 : w8.cell? ⟨xb, 5, none⟩ = some (.int .u32 0) := Lib.cell_of_heap hX8 5
            have f5 := Lib.frozen_of_heap hX8 5
            have hX9' := set33 hX8 5 (.int .u32 (k : Int))
            have HB9' := Lib.hid (HB8.out.setCell (p := ⟨xb, 5, none⟩) hx0 (.int .u32 (k : Int)))
            go_upto_region 19 with fail
            generalize (w8.setCell ⟨xb, 5, none⟩ (.int .u32 (k : Int))) = w9 at *
            clear x5 f5 hX8 HB8
            have HR9 : Hid (res = okLn (lineOf lab ⟨op, xd, xa, xbb, 0⟩ ([], k, []))) := Lib.hid (by rw [HR3.out, HRI.out]; rfl)
            have HZB : LineB (lineOf lab ⟨op, xd, xa, xbb, 0⟩ ([], k, [])) := ⟨⟨HYB.out.1, HYB.out.2.1, HYB.out.2.2.1, HYB.out.2.2.2.1, by show 0 ≤ (k : Int) ∧ (k : Int) ≤ _; omega⟩, by show lab.length ≤ _; omega, by show ([] : BL).length ≤ _; simp, by show ([] : BL).length ≤ _; simp⟩
            have hX9 : w9.heap[xb]? = some (.cells (lineA (lineOf lab ⟨op, xd, xa, xbb, 0⟩ ([], k, []))) 59 (0, 0)) := hX9'
            have HB9 := HB9'
            clear HR3 HRI hX9' HB9'
            generalize lineOf lab ⟨op, xd, xa, xbb, 0⟩ ([], k, []) = z at HR9 HZB hX9
            have HNM := Lib.hid (fun W => disName33 z.label W (by have := HZB.label; omega))
            have HCK := Lib.hid (fun W => check33 z W HZB)
            have HOK : Hid (okLn z = if (nameOk z.label && tellMay z) = true then some z else none) := Lib.hid rfl
            have HLZ : Hid (lineV z = .agg (lineA z)) := Lib.hid rfl
            generalize nameOk z.label = n1 at HNM HOK
            generalize tellMay z = n2 at HCK HOK
            unfold lineV at HCK
            clear HZB
            have hlt9 := (Array.getElem?_eq_some_iff.1 hX9).1
            have x0 : w9.cell? ⟨xb, 0, none⟩ = some (.string (bsOf z.label)) := Lib.cell_of_heap hX9 0
            go_wp2_with fail
            refine (HNM.out _).mono ?_
            rintro e w10 ⟨rfl, hB⟩
            have hX10 := (hB.block xb hlt9).trans hX9
            have HB10 := Lib.hid (HB9.out.trans (hB.mono HB9.out.size))
            clear hB hX9 HB9 hlt9 x0 HNM
            cases n1 with
            | false =>
              have HR : Hid (res = none) := Lib.hid (by rw [HR9.out, HOK.out]; rfl)
              go_wp2_with fail
              refine (need_no _).mono ?_
              rintro e w11 ⟨rfl, hw11⟩
              obtain rfl := hw11.symm
              go_wp2
              exact ⟨rfl, by rw [HR.out]; rfl, HB10.out⟩
            | true =>
              unfold lineA at hX10 HCK HLZ
              obtain ⟨zl, ⟨zo, zd, za, zb, zi⟩, zt, zn⟩ := z
              simp only [] at hX10 HCK HLZ
              generalize bsOf zl = SL at *
              generalize bsOf zt = SD at *
              generalize bsOf zn = SN at *
              have x0 : w10.cell? ⟨xb, 0, none⟩ = some (.string SL) := Lib.cell_of_heap hX10 0
              have x1 : w10.cell? ⟨xb, 1, none⟩ = some (.int .u8 zo) := Lib.cell_of_heap hX10 1
              have x2 : w10.cell? ⟨xb, 2, none⟩ = some (.int .u8 zd) := Lib.cell_of_heap hX10 2
              have x3 : w10.cell? ⟨xb, 3, none⟩ = some (.int .u8 za) := Lib.cell_of_heap hX10 3
              have x4 : w10.cell? ⟨xb, 4, none⟩ = some (.int .u8 zb) := Lib.cell_of_heap hX10 4
              have x5 : w10.cell? ⟨xb, 5, none⟩ = some (.int .u32 zi) := Lib.cell_of_heap hX10 5
              have x6 : w10.cell? ⟨xb, 6, none⟩ = some (.string SD) := Lib.cell_of_heap hX10 6
              have x7 : w10.cell? ⟨xb, 7, none⟩ = some (.string SN) := Lib.cell_of_heap hX10 7
              go_wp2_with fail
              refine (HCK.out _).mono ?_
              rintro e w11 ⟨rfl, hB⟩
              have hX11 := (hB.block xb (Array.getElem?_eq_some_iff.1 hX10).1).trans hX10
              have HB11 := Lib.hid (HB10.out.trans (hB.mono HB10.out.size))
              clear hB hX10 HB10 HCK x0 x1 x2 x3 x4 x5 x6 x7
              cases n2 with
              | false =>
                have HR : Hid (res = none) := Lib.hid (by rw [HR9.out, HOK.out]; rfl)
                go_wp2_with fail
                refine (need_no _).mono ?_
                rintro e w12 ⟨rfl, hw12⟩
                obtain rfl := hw12.symm
                go_wp2
                exact ⟨rfl, by rw [HR.out]; rfl, HB11.out⟩
              | true =>
                have HR := Lib.hid (HR9.out.trans HOK.out)
                go_wp2_with fail
                refine (need_yes _).mono ?_
                rintro e w12 ⟨rfl, hw12⟩
                obtain rfl := hw12.symm
                have x0 : w11.cell? ⟨xb, 0, none⟩ = some (.string SL) := Lib.cell_of_heap hX11 0
                have f0 := Lib.frozen_of_heap hX11 0
                have s0 := setCell_self x0
                have x1 : w11.cell? ⟨xb, 1, none⟩ = some (.int .u8 zo) := Lib.cell_of_heap hX11 1
                have f1 := Lib.frozen_of_heap hX11 1
                have s1 := setCell_self x1
                have x2 : w11.cell? ⟨xb, 2, none⟩ = some (.int .u8 zd) := Lib.cell_of_heap hX11 2
                have f2 := Lib.frozen_of_heap hX11 2
                have s2 := setCell_self x2
                have x3 : w11.cell? ⟨xb, 3, none⟩ = some (.int .u8 za) := Lib.cell_of_heap hX11 3
                have f3 := Lib.frozen_of_heap hX11 3
                have s3 := setCell_self x3
                have x4 : w11.cell? ⟨xb, 4, none⟩ = some (.int .u8 zb) := Lib.cell_of_heap hX11 4
                have f4 := Lib.frozen_of_heap hX11 4
                have s4 := setCell_self x4
                have x5 : w11.cell? ⟨xb, 5, none⟩ = some (.int .u32 zi) := Lib.cell_of_heap hX11 5
                have f5 := Lib.frozen_of_heap hX11 5
                have s5 := setCell_self x5
                have x6 : w11.cell? ⟨xb, 6, none⟩ = some (.string SD) := Lib.cell_of_heap hX11 6
                have f6 := Lib.frozen_of_heap hX11 6
                have s6 := setCell_self x6
                have x7 : w11.cell? ⟨xb, 7, none⟩ = some (.string SN) := Lib.cell_of_heap hX11 7
                have f7 := Lib.frozen_of_heap hX11 7
                have s7 := setCell_self x7
                go_wp2
                refine bodyPost_ret (v := .agg #[.string SL, .int .u8 zo, .int .u8 zd, .int .u8 za, .int .u8 zb, .int .u32 zi, .string SD, .string SN]) (by simp [results, Tryz.results59, go_sem, x0, x1, x2, x3, x4, x5, x6, x7]) rfl ?_
                exact ⟨by rw [HR.out, ← HLZ.out]; rfl, HB11.out⟩
end Go.Proofs.YtoonkfhphbojcaaGreatDoor
