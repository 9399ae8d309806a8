/- The walk of ref33.ReadLines. The walk of DisLines. -/
import Derived.Test.YtoonkfhphbojcaaGreatDoorBv43
import Derived.Test.YtoonkfhphbojcaaGreatDoorBv35
import Derived.Test.YtoonkfhphbojcaaGreatDoorBv42
import Derived.Test.YtoonkfhphbojcaaGreatDoorBv44
import Derived.Test.YtoonkfhphbojcaaGreatDoorBv32
import Derived.Test.YtoonkfhphbojcaaGreatDoorBv31
import Derived.Test.YtoonkfhphbojcaaGreatDoorBv41
namespace Go.Proofs.YtoonkfhphbojcaaGreatDoor
open Go.RowKit Go.Maps
theorem readLn_len {s : BL} (hs : s.length ≤ 100000) : LineB (readLnR s).1 := lnR_B s hs
set_option maxHeartbeats 8000000 in
set_option maxRecDepth 100000 in
theorem rreadLines33 (s : BL) (w : World) (hs : s.length ≤ 100000) : Calls Tryz.prog 18 #[.string (bsOf s)] w (RLPost (readLinesL s) w) := by
  have HC := Lib.hid (fun W => rcut33 s 10 W (by omega))
  have hcl := cutAt_len 10 s
  have hcn := cutAt_ne 10 s
  have HRD : Hid (readLinesL s = if (cutAt 10 s).getLastD [] = [] then readAll (cutAt 10 s).dropLast else none) := Lib.hid rfl
  have hlast := getLast_at hcn
  generalize cutAt 10 s = ps at *
  generalize readLinesL s = res at HRD ⊢
  have hpos : 0 < ps.length := List.length_pos_iff.2 hcn
  have HPD : Hid (∀ e w', RLPost res w e w' ↔ (Below w.heap.size w w' ∧ match (generalizing := false) res with
    | some l => ∃ v B, e = .returned (.tuple #[v, .int .i64 0]) ∧ w.heap.size ≤ B ∧ w'.ownsRow B 59 8 v l.length (l.flatMap lineC) ∧ ∀ y ∈ l, LineB y
    | none => e = .returned (.tuple #[.slice none 0 0, .int .i64 7]))) := Lib.hid fun _ _ => Iff.rfl
  go_enter Tryz.func18, Tryz.ntmps18
  go_wp2_with fail
  refine (HC.out _).mono ?_
  rintro e w1 ⟨vr, rfl, hrow, hB⟩
  have HB1 := Lib.hid hB
  have HRW := Lib.hid hrow
  obtain ⟨g, cap, rfl, -, hg⟩ := World.ownsRow.form hrow hpos
  have hgb : w.heap.size ≤ g := (World.ownsRow.lt hrow g rfl).1
  have HGC : Hid (∀ W, Below w1.heap.size w1 W → ∀ i (hi : i < ps.length), W.cell? ⟨g, i, none⟩ = some (.string (bsOf ps[i]))) := Lib.hid fun W hW i hi => by
    have := World.ownsRow.cells HRW.out (g := g) rfl i (.string (bsOf ps[i])) (by unfold strCells; simp [hi])
    rw [add_at, Nat.zero_add] at this
    exact cell_keep hW hg this
  clear hrow hB HC HRW
  have cl := HGC.out w1 (Below.refl _ _) (ps.length - 1) (by omega)
  have hne := bs_nil33 (ps[ps.length - 1]'(by omega))
  have qn : ((ps.length : Int) - 1) = ((ps.length - 1 : Nat) : Int) := by omega
  have qi : (0 : Int) ≤ (ps.length : Int) - 1 := by omega
  by_cases hlz : ps[ps.length - 1]'(by omega) = []
  · have hem : (bsOf (ps[ps.length - 1]'(by omega))).toList.isEmpty = true := by rw [hne]; simp [hlz]
    have HR1 : Hid (res = readAll ps.dropLast) := Lib.hid (by rw [HRD.out, hlast, if_pos hlz])
    clear hlz hlast hne HRD
    generalize bsOf (ps[ps.length - 1]'(by omega)) = SL at *
    have HDL : Hid (ps.dropLast = ps.take (ps.length - 1)) := Lib.hid (by rw [List.dropLast_eq_take])
    obtain ⟨iL, i0, i1, i2, i3⟩ := info_parts line_info33
    have HI := Lib.hid (And.intro i0 (And.intro i1 (And.intro i2 i3)))
    clear i0 i1 i2 i3
    go_upto_region 6 with fail
    go_loopw [5, 6] (fun v5 v6 wr => ∃ (l' : List GLine), l'.length ≤ ps.length - 1 ∧ v6 = .int .i64 l'.length ∧ readAll (ps.take l'.length) = some l' ∧ wr.ownsRow w1.heap.size 59 8 v5 l'.length (l'.flatMap lineC) ∧ (∀ y ∈ l', LineB y) ∧ Below w1.heap.size w1 wr) (fun _ v6 _ => ps.length - (intOf v6).toNat)
    case atStart => exact ⟨[], Nat.zero_le _, rfl, rfl, World.ownsRow_nil _ _ _ _, by simp, Below.refl _ _⟩
    case round =>
      obtain ⟨l', hk, rfl, hra, hrow, hlB, hbl⟩ := hrel
      have HRA := Lib.hid hra
      have HRW := Lib.hid hrow
      have HLB := Lib.hid hlB
      have HBR := Lib.hid hbl
      obtain ⟨pv, cv, rfl⟩ := own_shape hrow
      clear hra hrow hlB hbl
      by_cases hlt : l'.length + 1 < ps.length
      · have cs := HGC.out wr HBR.out l'.length (by omega)
        have htl : (ps[l'.length]'(by omega)).length ≤ 100000 := by have := hcl.2 _ (List.getElem_mem (show l'.length < ps.length by omega)); omega
        have HRL := Lib.hid (fun W => rreadLine33 (Lib.hid rparsed33) (ps[l'.length]'(by omega)) W htl)
        have HTK : Hid (ps.take (l'.length + 1) = ps.take l'.length ++ [ps[l'.length]'(by omega)]) := Lib.hid (by rw [List.take_succ_eq_append_getElem (by omega)])
        have HSM := Lib.hid (readLn_same (ps[l'.length]'(by omega)) htl)
        have HYB := Lib.hid (readLn_len htl)
        generalize ps[l'.length]'(by omega) = t at *
        generalize readLnR t = r at HRL HSM HYB
        obtain ⟨y, b⟩ := r
        unfold readLnRV lineV at HRL
        simp only [] at HRL HSM HYB
        have HLL : Hid (lineC y = [.string (bsOf y.label), .int .u8 y.x.op, .int .u8 y.x.d, .int .u8 y.x.a, .int .u8 y.x.b, .int .u32 y.x.imm, .string (bsOf y.dest), .string (bsOf y.name)]) := Lib.hid rfl
        have HNW := Lib.hid (fun W : World => line_new33 (lnAt_new y W))
        have HON := Lib.hid (line_one (y := y))
        have HLC : Hid ((l' ++ [y]).flatMap lineC = l'.flatMap lineC ++ lineC y) := Lib.hid (by simp [List.flatMap_append])
        have HRA2 : Hid (b = true → readAll (ps.take (l'.length + 1)) = some (l' ++ [y])) := Lib.hid fun h => by rw [HTK.out, readAll_snoc, HRA.out, HSM.out, h]; rfl
        have HRN : Hid (b = false → res = none) := Lib.hid fun h => by
            rw [HR1.out, HDL.out]
            have e : ps.take (ps.length - 1) = ps.take (l'.length + 1) ++ (ps.take (ps.length - 1)).drop (l'.length + 1) := by
              conv => lhs; rw [← List.take_append_drop (l'.length + 1) (ps.take (ps.length - 1))]
              rw [List.take_take, Nat.min_eq_left (by omega)]
            rw [e]
            refine readAll_none _ _ ?_
            rw [HTK.out, readAll_snoc, HRA.out, HSM.out, h]
            rfl
        have HLB2 : Hid (∀ x ∈ l' ++ [y], LineB x) := Lib.hid fun x hx => by
            rcases List.mem_append.1 hx with h | h
            · exact HLB.out x h
            · simp at h; subst h; exact HYB.out
        clear HTK HSM HYB
        unfold LnAt at HNW
        unfold lineA at HNW HRL
        rw [HLL.out] at HNW HON
        rw [Hid, HLL.out] at HLC
        replace HLC := Lib.hid HLC
        clear HLL
        obtain ⟨yl, ⟨yo, yd, ya, yb, yi⟩, yt, yn⟩ := y
        simp only [] at HNW HON HLC HRL
        generalize bsOf yl = YL at *
        generalize bsOf yt = YT at *
        generalize bsOf yn = YN at *
        generalize bsOf t = ST at *
        go_wp2_with fail
        refine (HRL.out _).mono ?_
        rintro e w4 ⟨rfl, hB⟩
        have HB4 := Lib.hid (HBR.out.trans (hB.mono HBR.out.size))
        have HR4 := Lib.hid (ownsRow_below hB HRW.out)
        have hX5 := new_block w4 (.cells #[.string YL, .int .u8 yo, .int .u8 yd, .int .u8 ya, .int .u8 yb, .int .u32 yi, .string YT, .string YN] 59)
        have HB5 := Lib.hid (HB4.out.alloc HB4.out.size (.cells #[.string YL, .int .u8 yo, .int .u8 yd, .int .u8 ya, .int .u8 yb, .int .u32 yi, .string YT, .string YN] 59))
        have HR5 := Lib.hid (HR4.out.alloc (.cells #[.string YL, .int .u8 yo, .int .u8 yd, .int .u8 ya, .int .u8 yb, .int .u32 yi, .string YT, .string YN] 59))
        clear hB HR4 HB4 HRL
        go_upto_region 9 with fail
        generalize (w4.alloc (.cells #[.string YL, .int .u8 yo, .int .u8 yd, .int .u8 ya, .int .u8 yb, .int .u32 yi, .string YT, .string YN] 59)) = w5 at *
        cases b with
        | false =>
          have HR := Lib.hid (HRN.out rfl)
          go_wp2
          go_ret2
          rw [HR.out]
          exact ⟨HB1.out.trans (HB5.out.mono HB1.out.size), rfl⟩
        | true =>
          have HRA3 := Lib.hid (HRA2.out rfl)
          clear HRN HRA2
          obtain ⟨ub, hub⟩ : ∃ ub, Hid (ub = w4.heap.size) := ⟨_, Lib.hid rfl⟩
          rw [← hub.out] at hX5 ⊢
          clear hub
          have z0 : w5.cell? ⟨ub, 0, none⟩ = some (.string YL) := Lib.cell_of_heap hX5 0
          have z1 : w5.cell? ⟨ub, 1, none⟩ = some (.int .u8 yo) := Lib.cell_of_heap hX5 1
          have z2 : w5.cell? ⟨ub, 2, none⟩ = some (.int .u8 yd) := Lib.cell_of_heap hX5 2
          have z3 : w5.cell? ⟨ub, 3, none⟩ = some (.int .u8 ya) := Lib.cell_of_heap hX5 3
          have z4 : w5.cell? ⟨ub, 4, none⟩ = some (.int .u8 yb) := Lib.cell_of_heap hX5 4
          have z5 : w5.cell? ⟨ub, 5, none⟩ = some (.int .u32 yi) := Lib.cell_of_heap hX5 5
          have z6 : w5.cell? ⟨ub, 6, none⟩ = some (.string YT) := Lib.cell_of_heap hX5 6
          have z7 : w5.cell? ⟨ub, 7, none⟩ = some (.string YN) := Lib.cell_of_heap hX5 7
          go_wp2_with (at_builtin; refine wpList_append_own _ rfl _ _ 33 rfl w1.heap.size 59 iL _ 8 56 Tryz.underlying33 HI.out.1 HI.out.2.1 HI.out.2.2.1 HI.out.2.2.2 rfl (by decide) _ _ _ rfl (HR5.out.alloc _) ⟨w5.heap.size, 0, none⟩ 1 1 [.string YL, .int .u8 yo, .int .u8 yd, .int .u8 ya, .int .u8 yb, .int .u32 yi, .string YT, .string YN] rfl rfl (HNW.out w5) HON.out (by unfold maxLen; have := hcl.1; omega) (by have := hcl.1; omega) (by simp; have := HB5.out.size; omega) ?_)
          intro v7 w7 hown hgrow _
          have HB7 := Lib.hid ((HB5.out.alloc HB5.out.size _).grown hgrow (by simp; have := HB5.out.size; omega) (fun q e => (World.ownsRow.lt HR5.out q e).1))
          have HR7 : Hid (w7.ownsRow w1.heap.size 59 8 v7 (l' ++ [(⟨yl, ⟨yo, yd, ya, yb, yi⟩, yt, yn⟩ : GLine)]).length ((l' ++ [(⟨yl, ⟨yo, yd, ya, yb, yi⟩, yt, yn⟩ : GLine)]).flatMap lineC)) := Lib.hid (by rw [HLC.out, List.length_append]; exact hown)
          clear hown hgrow z0 z1 z2 z3 z4 z5 z6 z7
          go_wp2
          go_roundw
          case rel => exact ⟨_, by simp; omega, by first | go_num | (simp; done) | (simp; go_num), by simpa using HRA3.out, HR7.out, HLB2.out, HB7.out⟩
          case measure => simp [intOf]; omega
      · have hkm : l'.length = ps.length - 1 := by omega
        have HR : Hid (res = some l') := Lib.hid (by rw [HR1.out, HDL.out, ← hkm, HRA.out])
        have hcd : ¬ l'.length + 1 < ps.length := hlt
        clear hkm
        go_wp2
        go_ret2
        rw [HR.out]
        exact ⟨HB1.out.trans (HBR.out.mono HB1.out.size), _, _, rfl, HB1.out.size, HRW.out, HLB.out⟩
  · have hem : (bsOf (ps[ps.length - 1]'(by omega))).toList.isEmpty = false := by rw [hne]; simp [hlz]
    have HR : Hid (res = none) := Lib.hid (by rw [HRD.out, hlast, if_neg hlz])
    clear hlz hlast hne HRD
    generalize bsOf (ps[ps.length - 1]'(by omega)) = SL at *
    go_wp2
    go_ret2
    rw [HR.out]
    exact ⟨HB1.out, rfl⟩
end Go.Proofs.YtoonkfhphbojcaaGreatDoor
namespace Go.Proofs.YtoonkfhphbojcaaGreatDoor
open Go.RowKit Go.Maps
theorem readAll_len : ∀ (ps : List BL) (L : List GLine), readAll ps = some L → L.length = ps.length
  | [], L, h => by cases h; rfl
  | t :: r, L, h => by
    rw [readAll] at h
    cases ht : readLineL t with
    | none => rw [ht] at h; cases h
    | some x =>
      rw [ht] at h
      cases hr : readAll r with
      | none => rw [hr] at h; cases h
      | some l =>
        rw [hr] at h
        cases h
        simp [readAll_len r l hr]
theorem readLines_len {s : BL} {L : List GLine} (h : readLinesL s = some L) : L.length ≤ s.length := by
  unfold readLinesL at h
  split at h
  · have := readAll_len _ _ h
    rw [this, List.length_dropLast]
    have := (cutAt_len 10 s).1
    omega
  · cases h
theorem lines_strong {w : World} {vl : Value} {l : List GLine} (hl : RowAt 8 LineRw w vl l) (h : longB l = false) (hn : l.length ≤ 1200) : RowAt 8 LineR w vl l := by
  have hb := longB_no h hn
  obtain ⟨p, cap, b, o, rfl, hcap, hmax, hp, hc⟩ := hl
  refine ⟨p, cap, b, o, rfl, hcap, hmax, hp, fun i hi => ?_⟩
  obtain ⟨h0, h1, h2, h3, h4, h5, h6, h7, h8, hI, -⟩ := hc i hi
  obtain ⟨b1, b2, b3⟩ := hb _ (List.getElem_mem hi)
  exact ⟨h0, h1, h2, h3, h4, h5, h6, h7, h8, hI, by omega, by omega, by omega⟩
theorem lines_B {w : World} {vl : Value} {l : List GLine} (hl : RowAt 8 LineR w vl l) : ∀ y ∈ l, LineB y := by
  obtain ⟨p, cap, b, o, -, -, -, -, hc⟩ := hl
  intro y hy
  obtain ⟨i, hi, rfl⟩ := List.mem_iff_getElem.1 hy
  exact (hc i hi).2.2.2.2.2.2.2.2.2
theorem lines_newsR {w : World} {b o : Nat} {l : List GLine} (h : ∀ i (hi : i < l.length), LineR w b (o + i * 8) l[i]) : ∀ j u, (l.flatMap lineC)[j]? = some u → w.cell? ((⟨b, o, none⟩ : Addr).add j) = some u := by
  refine row_news lineC_len (by omega) fun i hi j u hu => ?_
  have := line_news (h i hi) j u hu
  rw [add_at] at this
  exact this
theorem lines_oneR {l : List GLine} : ∀ u ∈ l.flatMap lineC, u.oneCell' = true := by
  intro u hu
  obtain ⟨x, _, hx⟩ := List.mem_flatMap.1 hu
  exact line_one u hx
/-- two readings of one text: the same lines, the same answer -/
def RowsOr (r : Option (List GLine)) (w : World) (v : Value) (e : Int) : Prop := ∃ L : List GLine, RowAt 8 LineR w v L ∧ (r = some L ∧ e = 0 ∨ r = none ∧ L = [] ∧ e = 7)
theorem rl_rows {s : BL} (hs : s.length ≤ 100000) {w : World} {e : Ending} {w' : World} (h : RLPost (readLinesL s) w e w') : Below w.heap.size w w' ∧ ∃ v n, e = .returned (.tuple #[v, .int .i64 n]) ∧ RowsOr (readLinesL s) w' v n ∧ ∃ p c L, v = .slice p L c := by
  obtain ⟨hB, hm⟩ := h
  cases hr : readLinesL s with
  | none =>
    rw [hr] at hm
    simp only [] at hm
    exact ⟨hB, _, _, hm, ⟨[], row_none _ _ _, .inr ⟨rfl, rfl, rfl⟩⟩, none, 0, 0, rfl⟩
  | some L =>
    rw [hr] at hm
    simp only [] at hm
    obtain ⟨v, B, he, -, hrow, hB2⟩ := hm
    have hl := readLines_len hr
    obtain ⟨p, c, hv⟩ := own_shape hrow
    exact ⟨hB, _, _, he, ⟨L, line_back hrow (by omega) hB2, .inl ⟨rfl, rfl⟩⟩, p, c, _, hv⟩
theorem rows_two {r : Option (List GLine)} {w : World} {v1 v2 : Value} {e1 e2 : Int} (h1 : RowsOr r w v1 e1) (h2 : RowsOr r w v2 e2) : e1 = e2 ∧ ∃ L, RowAt 8 LineR w v1 L ∧ RowAt 8 LineR w v2 L := by
  obtain ⟨L1, a1, b1⟩ := h1
  obtain ⟨L2, a2, b2⟩ := h2
  rcases b1 with ⟨c1, rfl⟩ | ⟨c1, d1, rfl⟩
  · rcases b2 with ⟨c2, rfl⟩ | ⟨c2, -, rfl⟩
    · rw [c1] at c2; cases c2; exact ⟨rfl, L1, a1, a2⟩
    · rw [c1] at c2; cases c2
  · rcases b2 with ⟨c2, rfl⟩ | ⟨c2, d2, rfl⟩
    · rw [c1] at c2; cases c2
    · subst d1; subst d2; exact ⟨rfl, [], a1, a2⟩
theorem RowsOr.keep {r : Option (List GLine)} {w w' : World} {v : Value} {e : Int} (h : RowsOr r w v e) (hb : Below w.heap.size w w') : RowsOr r w' v e := by
  obtain ⟨L, h1, h2⟩ := h
  exact ⟨L, h1.keep lineR_keeps hb, h2⟩
theorem linesE_two (l : List GLine) : ∃ t e, linesE l = .returned (.tuple #[.string t, .int .i64 e]) := by
  unfold linesE
  split
  · exact ⟨_, _, rfl⟩
  · exact ⟨_, _, rfl⟩
set_option maxHeartbeats 8000000 in
set_option maxRecDepth 100000 in
theorem disLines33 (l : List GLine) (vl : Value) (s : BL) (w : World) (hL : Lib33 w) (hl : RowAt 8 LineRw w vl l) :
    Calls Tryz.prog 4 #[vl, .string (bsOf s)] w fun e w' => e = .returned (.bool true) ∧ Below w.heap.size w w' := by
  have HL := Lib.hid hL
  clear hL
  have HA := Lib.hid (fun W (hW : Below w.heap.size w W) => alive33 W (HL.out.keep hW))
  have HLG := Lib.hid (long10 l vl w hl)
  have HST := Lib.hid (fun h hn => lines_strong hl h hn)
  have hss := bsOf_size s
  obtain ⟨p, cap, b, o, rfl, hcap, hmax, hp, -⟩ := hl
  clear hp
  go_enter Tryz.func4, Tryz.ntmps4
  go_wp2_with fail
  refine HLG.out.mono ?_
  rintro e w1 ⟨rfl, hB⟩
  have HB1 := Lib.hid hB
  clear hB HLG
  cases hlong : longB l with
  | true =>
    clear HST
    go_wp2_with fail
    refine (HA.out _ HB1.out).mono ?_
    rintro e w2 ⟨rfl, hB⟩
    go_wp2
    go_ret
    exact ⟨rfl, HB1.out.trans (hB.mono HB1.out.size)⟩
  | false =>
    have HLN := Lib.hid hlong
    clear hlong
    by_cases h200 : 200 < l.length
    · have q1 : (200 : Int) < (l.length : Int) := by omega
      clear HST
      go_wp2_with fail
      refine (HA.out _ HB1.out).mono ?_
      rintro e w2 ⟨rfl, hB⟩
      go_wp2
      go_ret
      exact ⟨rfl, HB1.out.trans (hB.mono HB1.out.size)⟩
    have q1 : ¬ (200 : Int) < (l.length : Int) := by omega
    by_cases h8 : 8192 < s.length
    · have q2 : (8192 : Int) < (s.length : Int) := by omega
      clear HST
      go_wp2_with fail
      refine (HA.out _ HB1.out).mono ?_
      rintro e w2 ⟨rfl, hB⟩
      go_wp2
      go_ret
      exact ⟨rfl, HB1.out.trans (hB.mono HB1.out.size)⟩
    have q2 : ¬ (8192 : Int) < (s.length : Int) := by omega
    have HRW := Lib.hid ((HST.out HLN.out (by omega)).keep lineR_keeps HB1.out)
    have HLB := Lib.hid (lines_B HRW.out)
    have hn200 : l.length ≤ 200 := by omega
    obtain ⟨T, E, hTE⟩ := linesE_two l
    have C1 := Lib.hid (fun W (hW : Below w.heap.size w W) v (hr : RowAt 8 LineR W v l) => hTE ▸ dLines33 l v W (HL.out.keep hW) hr (by omega))
    have C2 := Lib.hid (fun W v (hr : RowAt 8 LineR W v l) => hTE ▸ rLines33 l v W hr (by omega))
    have C3 := Lib.hid (fun W (hW : Below w.heap.size w W) => (readLines33 s W (HL.out.keep hW) (by omega)).mono fun e w' h => rl_rows (s := s) (by omega) h)
    have C4 := Lib.hid (fun W => (rreadLines33 s W (by omega)).mono fun e w' h => rl_rows (s := s) (by omega) h)
    generalize readLinesL s = res at C3 C4
    obtain ⟨p', cap', b', o', hsl, -, -, hp, hc⟩ := HRW.out
    cases hsl
    have HP := Lib.hid hp
    have HC := Lib.hid hc
    obtain ⟨iL, i0, i1, i2, i3⟩ := info_parts line_info33
    have HI := Lib.hid (And.intro i0 (And.intro i1 (And.intro i2 i3)))
    clear i0 i1 i2 i3 hp hc hTE HST
    go_wp2_with (at_builtin; refine wpList_append_src rfl _ _ 33 rfl w1.heap.size 59 iL _ 8 56 Tryz.underlying33 HI.out.1 HI.out.2.1 HI.out.2.2.1 HI.out.2.2.2 rfl (by decide) (.slice none 0 0) 0 [] rfl (World.ownsRow_nil _ _ _ _) p l.length cap b' o' (l.flatMap lineC) rfl (fun h0 => HP.out h0) (by rw [flat_len lineC_len]) (fun _ => lines_newsR HC.out) lines_oneR (by unfold maxLen; omega) (by omega) (Nat.le_refl _) ?_)
    intro v2 w2 hown hgrow
    have HB2 := Lib.hid (HB1.out.grown hgrow HB1.out.size (fun _ e => by cases e))
    have hown : w2.ownsRow w1.heap.size 59 8 v2 l.length (l.flatMap lineC) := (Nat.zero_add l.length) ▸ hown
    obtain ⟨pv, cv, rfl⟩ := own_shape hown
    have HO2 := Lib.hid (line_back hown (by omega) HLB.out)
    have HR2 := Lib.hid (HRW.out.keep lineR_keeps (Below.refl _ _ |>.grown hgrow (Nat.le_refl _) (fun _ e => by cases e)))
    clear hown hgrow HRW HP HC HI
    go_wp2_with fail
    refine (C1.out _ HB2.out _ HO2.out).mono ?_
    rintro e w3 ⟨rfl, hB⟩
    have HB3 := Lib.hid (HB2.out.trans (hB.mono HB2.out.size))
    have HO3 := Lib.hid (HO2.out.keep lineR_keeps hB)
    have HR3 := Lib.hid (HR2.out.keep lineR_keeps hB)
    clear hB HO2 HR2 HB2 C1
    go_wp2_with fail
    refine (C2.out _ _ HR3.out).mono ?_
    rintro e w4 ⟨rfl, hB⟩
    have HB4 := Lib.hid (HB3.out.trans (hB.mono HB3.out.size))
    have HO4 := Lib.hid (HO3.out.keep lineR_keeps hB)
    have HR4 := Lib.hid (HR3.out.keep lineR_keeps hB)
    clear hB HO3 HR3 HB3 C2
    go_wp2_with fail
    refine (C3.out _ HB4.out).mono ?_
    rintro e w5 ⟨hB, v5, n5, rfl, hrow, p5, c5, l5, rfl⟩
    have HB5 := Lib.hid (HB4.out.trans (hB.mono HB4.out.size))
    have HO5 := Lib.hid (HO4.out.keep lineR_keeps hB)
    have HR5 := Lib.hid (HR4.out.keep lineR_keeps hB)
    have HM5 := Lib.hid hrow
    clear hB hrow HO4 HR4 HB4 C3
    go_wp2_with fail
    refine (C4.out _).mono ?_
    rintro e w6 ⟨hB, v6, n6, rfl, hrow, p6, c6, l6, rfl⟩
    have HB6 := Lib.hid (HB5.out.trans (hB.mono HB5.out.size))
    have HO6 := Lib.hid (HO5.out.keep lineR_keeps hB)
    have HR6 := Lib.hid (HR5.out.keep lineR_keeps hB)
    obtain ⟨hn, L, h5, h6⟩ := rows_two (HM5.out.keep hB) hrow
    obtain rfl := hn
    have HM6 := Lib.hid h5
    have HN6 := Lib.hid h6
    clear hB hrow h5 h6 HO5 HR5 HB5 HM5 C4
    go_wp2_with fail
    refine (same10 L _ _ _ HM6.out HN6.out).mono ?_
    rintro e w7 ⟨rfl, hB⟩
    have HB7 := Lib.hid (HB6.out.trans (hB.mono HB6.out.size))
    have HO7 := Lib.hid (HO6.out.keep lineR_keeps hB)
    have HR7 := Lib.hid (HR6.out.keep lineR_keeps hB)
    clear hB HO6 HR6 HB6 HM6 HN6
    go_wp2_with fail
    refine (same10 l _ _ _ HO7.out HR7.out).mono ?_
    rintro e w8 ⟨rfl, hB⟩
    have HB8 := Lib.hid (HB7.out.trans (hB.mono HB7.out.size))
    clear hB HO7 HR7 HB7
    go_wp2_with fail
    refine (HA.out _ HB8.out).mono ?_
    rintro e w9 ⟨rfl, hB⟩
    have HB9 := Lib.hid (HB8.out.trans (hB.mono HB8.out.size))
    go_wp2
    go_ret
    exact ⟨rfl, HB9.out⟩
theorem disLines_any (l : List GLine) (vl : Value) (s : ByteArray) (w : World) (hL : Lib33 w) (hl : RowAt 8 LineRw w vl l) :
    Calls Tryz.prog 4 #[vl, .string s] w fun e w' => e = .returned (.bool true) ∧ Below w.heap.size w w' := by
  have h := disLines33 l vl s.data.toList w hL hl
  rw [bs_back] at h
  exact h
end Go.Proofs.YtoonkfhphbojcaaGreatDoor
