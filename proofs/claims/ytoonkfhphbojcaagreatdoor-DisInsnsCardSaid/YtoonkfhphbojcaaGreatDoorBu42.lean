/- The walk of dis.ReadLines' closure. -/
import Derived.Test.YtoonkfhphbojcaaGreatDoorBu41
namespace Go.Proofs.YtoonkfhphbojcaaGreatDoor
open Go.RowKit Go.Maps
theorem step_callP {P : Program} {ops : Array Oper} {o : Oper} {a : Act} {w : World} {K : Act → World → Prop} {Q : Exit → Act → World → Prop} {E : Prop}
    (hg : o.guard = none) (f : FuncId) (xs : Array Operand) (ats : Array TypeId) (hop : o.op = Op.call { callee := Callee.value (Operand.func f), args := xs, argTypes := ats })
    {fn : Func} (hf : P.funcs[f]? = some fn) (hn : (fn.name == "runtime.NumGoroutine") = false) (hb : fn.body.isNone = false)
    (vs : Array Value) (hv : xs.map a.eval = vs) {Post : Ending → World → Prop} (hC : Calls P f vs w Post) (hK : ∀ e w', Post e w' → ∃ c, e = .panicked c ∧ Q (.panic c) a w') :
    if Region.wanted o (yielded ops a.tmps) = true then Oper.wp P o a w K Q else E := by
  have hw : Region.wanted o (yielded ops a.tmps) = true := by simp [Region.wanted, hg]
  rw [if_pos hw]
  obtain ⟨dst, op, ty, pos, after, guard⟩ := o
  simp only at hg hop
  subst hg; subst hop; subst hv
  unfold Oper.wp
  rw [execOp_call_go]
  have e : (#[] ++ xs.map a.eval ++ #[] : Array Value) = xs.map a.eval := by simp
  rw [e, run_call_go hf hn hb, Oper.upon_enter]
  refine Calls.mono hC fun e w' hp => ?_
  obtain ⟨c, rfl, hk⟩ := hK e w' hp
  exact hk
/-- all lines, or none where one is none -/
def readAll : List BL → Option (List GLine)
  | [] => some []
  | t :: r => (readLineL t).bind fun x => (readAll r).map (x :: ·)
theorem readAll_snoc : ∀ (a : List BL) (t : BL), readAll (a ++ [t]) = (readAll a).bind fun x => (readLineL t).map fun y => x ++ [y]
  | [], t => by simp only [List.nil_append, readAll]; cases readLineL t <;> rfl
  | u :: a, t => by
    rw [List.cons_append, readAll, readAll_snoc a t, readAll]
    cases readLineL u with
    | none => rfl
    | some x =>
      cases readAll a with
      | none => rfl
      | some l => cases readLineL t <;> rfl
theorem readAll_none : ∀ (a b : List BL), readAll a = none → readAll (a ++ b) = none
  | [], b, h => by cases h
  | u :: a, b, h => by
    rw [List.cons_append, readAll]
    rw [readAll] at h
    cases hu : readLineL u with
    | none => rfl
    | some x =>
      rw [hu] at h
      cases ha : readAll a with
      | none => rw [readAll_none a b ha]; rfl
      | some l => rw [ha] at h; cases h
/-- the lines of a text -/
def readLinesL (s : BL) : Option (List GLine) := if (cutAt 10 s).getLastD [] = [] then readAll (cutAt 10 s).dropLast else none
theorem readLine_B {s : BL} {x : GLine} (h : readLineL s = some x) (hs : s.length ≤ 100000) : LineB x := by
  unfold readLineL at h
  cases hr : restOf s with
  | none => rw [hr] at h; cases h
  | some p =>
    rw [hr] at h
    simp only [Option.bind_some] at h
    have hb := restOf_back hr
    have hl : p.1.length ≤ s.length ∧ p.2.length ≤ s.length := by
      have hb2 := congrArg List.length hb
      rw [List.length_append] at hb2
      by_cases h0 : p.1 = []
      · rw [if_pos h0] at hb2
        rw [h0]
        simp at hb2 ⊢
        omega
      · rw [if_neg h0, List.length_append] at hb2
        constructor <;> omega
    cases hp : parsedW (cutAt 32 p.2) with
    | none => rw [hp] at h; cases h
    | some q =>
      rw [hp] at h
      simp only [Option.bind_some] at h
      have hk := parsedW_ok (x := q.1) (imm := q.2) hp
      have him := parsedW_imm (x := q.1) (imm := q.2) (n := s.length + 2) hp (fun t ht => by have := (cutAt_len 32 p.2).2 t ht; omega) (by omega)
      cases hi : immOf q.1.op q.2 with
      | none => rw [hi] at h; cases h
      | some r =>
        rw [hi] at h
        simp only [Option.bind_some] at h
        unfold okLn at h
        split at h
        · cases h
          obtain ⟨-, h1, -, -, -, h5, h6⟩ := immOf_back hi hk.imm q.1 rfl p.1
          obtain ⟨-, -, g1, ⟨g2, g3, -⟩, ⟨g4, g5, -⟩, ⟨g6, g7, -⟩, g8, -⟩ := hk
          exact ⟨⟨by show 0 ≤ q.1.op ∧ q.1.op ≤ _; omega, by show 0 ≤ q.1.d ∧ q.1.d ≤ _; omega, by show 0 ≤ q.1.a ∧ q.1.a ≤ _; omega, by show 0 ≤ q.1.b ∧ q.1.b ≤ _; omega, by show 0 ≤ (r.2.1 : Int) ∧ (r.2.1 : Int) ≤ _; omega⟩, by show p.1.length ≤ _; omega, by show r.1.length ≤ _; omega, by show r.2.2.length ≤ _; omega⟩
        · cases h
def LinesAt (B lb : Nat) (l : List GLine) (w : World) : Prop := ∃ v, w.heap[lb]? = some (.cells #[v] 33 (0, 0)) ∧ w.ownsRow B 59 8 v l.length (l.flatMap lineC) ∧ ∀ y ∈ l, LineB y
def DoLPost (r : Option (List GLine)) (B lb : Nat) (w : World) (e : Ending) (w' : World) : Prop := KB (fun k => k = lb) w w' ∧ match r with
  | some l => e = .returned (.tuple #[]) ∧ LinesAt B lb l w'
  | none => e = wrongE ∧ ∃ v, w'.heap[lb]? = some (.cells #[v] 33 (0, 0))
theorem line_info33 : (Tryz.prog.info? 59).map (fun i => (i.zero, i.size, i.bytes)) = some (some (.agg #[.string ⟨#[]⟩, .int .u8 0, .int .u8 0, .int .u8 0, .int .u8 0, .int .u32 0, .string ⟨#[]⟩, .string ⟨#[]⟩]), 8, 56) := by kernel_rfl
theorem line_new33 {w : World} {g : Nat} {x : GLine} (h : LnAt g x w) : ∀ j u, (lineC x)[j]? = some u → w.cell? ((⟨g, 0, none⟩ : Addr).add j) = some u := by
  intro j u hu
  have := h.cell j
  rw [add_at, Nat.zero_add, this]
  simpa [lineC] using hu
theorem getLast_at {l : List BL} (h : l ≠ []) : l.getLastD [] = l[l.length - 1]'(by have := List.length_pos_iff.2 h; omega) := by
  rw [List.getLastD_eq_getLast?, List.getLast?_eq_getElem?, List.getElem?_eq_getElem (by have := List.length_pos_iff.2 h; omega)]
  rfl
set_option maxHeartbeats 8000000 in
set_option maxRecDepth 100000 in
theorem doLines33 (s : BL) (sb lb : Nat) (w0 w : World) (hL0 : Lib33 w0) (h0 : Below w0.heap.size w0 w) (hlb0 : w0.heap.size ≤ lb) (hs : s.length ≤ 100000) (hsb : w.cell? ⟨sb, 0, none⟩ = some (.string (bsOf s))) (hlb : w.heap[lb]? = some (.cells #[.slice none 0 0] 33 (0, 0))) :
    Calls Tryz.prog 56 #[.pointer (some ⟨sb, 0, none⟩), .pointer (some ⟨lb, 0, none⟩)] w (DoLPost (readLinesL s) w.heap.size lb w) := by
  have HL := Lib.hid hL0
  have HW0 := Lib.hid h0
  have hL := hL0.keep h0
  have HSP := Lib.hid (fun W (hW : Below w.heap.size w W) => split33 10 s W (hL.keep hW) (by omega))
  have hcl := cutAt_len 10 s
  have hcn := cutAt_ne 10 s
  have HRD : Hid (readLinesL s = if (cutAt 10 s).getLastD [] = [] then readAll (cutAt 10 s).dropLast else none) := Lib.hid rfl
  have hlast := getLast_at hcn
  generalize cutAt 10 s = ps at *
  generalize readLinesL s = res at HRD ⊢
  have hpos : 0 < ps.length := List.length_pos_iff.2 hcn
  have hl0 := (Array.getElem?_eq_some_iff.1 hlb).1
  have HB1 := Lib.hid (alloc_old w (.cells (ps.map fun t => Value.string (bsOf t)).toArray 9))
  have hG1 := new_block w (.cells (ps.map fun t => Value.string (bsOf t)).toArray 9)
  have hX1 := (Below.heap_alloc w (.cells (ps.map fun t => Value.string (bsOf t)).toArray 9) lb hl0).trans hlb
  have HPD : Hid (∀ e w', DoLPost res w.heap.size lb w e w' ↔ (KB (fun k => k = lb) w w' ∧ match (generalizing := false) res with
    | some l => e = .returned (.tuple #[]) ∧ LinesAt w.heap.size lb l w'
    | none => e = wrongE ∧ ∃ v, w'.heap[lb]? = some (.cells #[v] 33 (0, 0)))) := Lib.hid fun _ _ => Iff.rfl
  clear hL hL0 h0
  rw [show bsOf [10] = ⟨#[10]⟩ from rfl] at HSP
  go_enter Tryz.func56, Tryz.ntmps56
  go_wp2_with fail
  refine (HSP.out _ (Below.refl _ _)).mono ?_
  rintro e w1 ⟨rfl, hw1⟩
  rw [← hw1] at HB1 hG1 hX1
  clear hw1 HSP hsb hlb
  obtain ⟨g, HGE⟩ : ∃ g, Hid (g = w.heap.size) := ⟨_, Lib.hid rfl⟩
  rw [← HGE.out] at hG1 ⊢
  have HGC : Hid (∀ W : World, W.heap[g]? = some (.cells (ps.map fun t => Value.string (bsOf t)).toArray 9 (0, 0)) → ∀ i (hi : i < ps.length), W.cell? ⟨g, i, none⟩ = some (.string (bsOf ps[i]))) := Lib.hid fun W h i hi => by
    rw [Lib.cell_of_heap h i]
    simp [hi]
  have hgl : g ≠ lb := by have := HGE.out; omega
  have cl := HGC.out w1 hG1 (ps.length - 1) (by omega)
  have hne := bs_nil33 (ps[ps.length - 1]'(by omega))
  have qn : ((ps.length : Int) - 1) = ((ps.length - 1 : Nat) : Int) := by omega
  have qi : (0 : Int) ≤ (ps.length : Int) - 1 := by omega
  by_cases hlz : ps[ps.length - 1]'(by omega) = []
  · have hem : (bsOf (ps[ps.length - 1]'(by omega))).toList.isEmpty = true := by rw [hne]; simp [hlz]
    have HR1 : Hid (res = readAll ps.dropLast) := Lib.hid (by rw [HRD.out, hlast, if_pos hlz])
    clear hlz hlast hne HRD
    generalize bsOf (ps[ps.length - 1]'(by omega)) = SL at *
    go_wp2_with fail
    refine (need_yes _).mono ?_
    rintro e w2 ⟨rfl, hw2⟩
    obtain rfl := hw2.symm
    go_upto_region 3 with fail
    have HDL : Hid (ps.dropLast = ps.take (ps.length - 1)) := Lib.hid (by rw [List.dropLast_eq_take])
    obtain ⟨iL, i0, i1, i2, i3⟩ := info_parts line_info33
    have HI := Lib.hid (And.intro i0 (And.intro i1 (And.intro i2 i3)))
    clear i0 i1 i2 i3
    go_loopw [21] (fun v21 wr => ∃ (k : Nat) (l' : List GLine) (v : Value), k ≤ ps.length - 1 ∧ v21 = .int .i64 k ∧ readAll (ps.take k) = some l' ∧ l'.length = k ∧ wr.heap[lb]? = some (.cells #[v] 33 (0, 0)) ∧ wr.ownsRow w.heap.size 59 8 v l'.length (l'.flatMap lineC) ∧ (∀ y ∈ l', LineB y) ∧ KB (fun b => b = lb) w wr ∧ wr.heap[g]? = some (.cells (ps.map fun t => Value.string (bsOf t)).toArray 9 (0, 0))) (fun v21 _ => (ps.length - 1) - (intOf v21).toNat)
    case atStart => exact ⟨0, [], .slice none 0 0, Nat.zero_le _, rfl, rfl, rfl, hX1, World.ownsRow_nil _ _ _ _, by simp, KB.of_below HB1.out, hG1⟩
    case round =>
      obtain ⟨k, l', v, hk, rfl, hra, rfl, hx, hrow, hlB, hkb, hgr⟩ := hrel
      have HRA := Lib.hid hra
      have HX := Lib.hid hx
      have HRW := Lib.hid hrow
      have HLB := Lib.hid hlB
      have HKB := Lib.hid hkb
      have HGR := Lib.hid hgr
      obtain ⟨pv, cv, rfl⟩ := own_shape hrow
      have hlr := (Array.getElem?_eq_some_iff.1 hx).1
      have HWR : Hid (Below w0.heap.size w0 wr) := Lib.hid (HW0.out.trans (hkb.below (B := w0.heap.size) HW0.out.size (fun q hq e => by omega)))
      clear hra hx hrow hlB hkb hgr
      by_cases hlt : l'.length < ps.length - 1
      · have cs := HGC.out wr HGR.out l'.length (by omega)
        have HRL := Lib.hid (fun W (hW : Below wr.heap.size wr W) => readLine33 (ps[l'.length]'(by omega)) W ((HL.out.keep HWR.out).keep (hW.mono (Nat.le_refl _))) (by have := hcl.2 _ (List.getElem_mem (show l'.length < ps.length by omega)); omega))
        have HTK : Hid (ps.take (l'.length + 1) = ps.take l'.length ++ [ps[l'.length]'(by omega)]) := Lib.hid (by rw [List.take_succ_eq_append_getElem (by omega)])
        have HYB := Lib.hid (fun y (h : readLineL (ps[l'.length]'(by omega)) = some y) => readLine_B h (by have := hcl.2 _ (List.getElem_mem (show l'.length < ps.length by omega)); omega))
        obtain ⟨RS, HSD⟩ : ∃ RS : World → Prop, ∀ w', RS w' ↔ w'.heap[lb]? = some (.cells #[.slice pv l'.length cv] 33 (0, 0)) := ⟨_, fun _ => Iff.rfl⟩
        have r0 : ∀ z : HW RS, z.u.cell? ⟨lb, 0, none⟩ = some (.slice pv l'.length cv) := fun z => Lib.cell_of_heap ((HSD _).1 z.h) 0
        have hS0 : RS wr.drew := (HSD _).2 HX.out
        have HS := Lib.hid HSD; clear HSD
        haveI : Nonempty (HW RS) := ⟨⟨_, hS0⟩⟩
        generalize ps[l'.length]'(by omega) = t at *
        cases hrl : readLineL t with
        | none =>
          rw [hrl] at HRL
          unfold readLnE wrongE wrongV at HRL
          simp only [] at HRL
          have HR : Hid (res = none) := Lib.hid (by
            rw [HR1.out, HDL.out]
            have e : ps.take (ps.length - 1) = ps.take (l'.length + 1) ++ (ps.take (ps.length - 1)).drop (l'.length + 1) := by
              conv => lhs; rw [← List.take_append_drop (l'.length + 1) (ps.take (ps.length - 1))]
              rw [List.take_take, Nat.min_eq_left (by omega)]
            rw [e]
            refine readAll_none _ _ ?_
            rw [HTK.out, readAll_snoc, HRA.out, hrl]
            rfl)
          clear HTK HYB hrl
          go_upto_region 5 with fail
          refine wp_region_marksQ RS [.r, .r, .u, .u, .u, .p] rfl (by kernel_rfl) (fun c a d v w h => by cases d <;> exact h) hS0 ?_
          repeat (refine wpReads_step (fun K hK => ?_); go_simp; refine hK _ ?_; clear hK K)
          refine wpReads_nil ?_
          clear r0 hS0
          refine wpTurns_step fun K hK => ?_
          refine step_callP rfl 59 #[.tmp 26] #[9] rfl Tryz.func59 (by kernel_rfl) (by kernel_rfl) #[.string (bsOf t)] (by simp [Act.eval]) (HRL.out _ (below_drewN (Below.refl _ _) 1)) ?_
          rintro e w4 ⟨rfl, hB⟩
          refine ⟨_, rfl, ?_⟩
          have HK4 := Lib.hid (HKB.out.trans (KB.of_below (S := fun b => b = lb) ((below_drewN (Below.refl wr.heap.size wr) 1).trans hB)))
          have HX4 := Lib.hid ((((below_drewN (Below.refl wr.heap.size wr) 1).trans hB).block lb hlr).trans HX.out)
          clear hB hK K
          go_wp2
          exact ⟨rfl, by rw [HR.out]; exact ⟨HK4.out, rfl, _, HX4.out⟩⟩
        | some y =>
          rw [hrl] at HRL
          unfold readLnE at HRL
          simp only [] at HRL
          have hyB := HYB.out y hrl
          have HRA2 : Hid (readAll (ps.take (l'.length + 1)) = some (l' ++ [y])) := Lib.hid (by rw [HTK.out, readAll_snoc, HRA.out, hrl]; rfl)
          have HLB2 : Hid (∀ x ∈ l' ++ [y], LineB x) := Lib.hid fun x hx => by
            rcases List.mem_append.1 hx with h | h
            · exact HLB.out x h
            · simp at h; subst h; exact hyB
          have HLC : Hid ((l' ++ [y]).flatMap lineC = l'.flatMap lineC ++ lineC y) := Lib.hid (by simp [List.flatMap_append])
          clear HTK HYB hrl hyB
          unfold lineV at HRL
          have HNW := Lib.hid (fun W : World => line_new33 (lnAt_new y W))
          have HON := Lib.hid (line_one (y := y))
          go_upto_region 5 with fail
          refine wp_region_marks RS [.r, .r, .u, .u, .u, .p] rfl (by kernel_rfl) hS0 ?_
          repeat (refine wpReads_step (fun K hK => ?_); go_simp; refine hK _ ?_; clear hK K)
          refine wpReads_nil ?_
          clear r0 hS0
          refine wpTurns_step fun K hK => ?_
          refine step_call rfl 59 #[.tmp 26] #[9] rfl Tryz.func59 (by kernel_rfl) (by kernel_rfl) #[.string (bsOf t)] (by simp [Act.eval]) (HRL.out _ (below_drewN (Below.refl _ _) 1)) ?_
          rintro e w4 ⟨rfl, hB⟩
          have hB' : Below wr.heap.size wr w4 := (below_drewN (Below.refl _ _) 1).trans hB
          have HK4 := Lib.hid (HKB.out.trans (KB.of_below (S := fun b => b = lb) hB'))
          have hX4 := (hB'.block lb hlr).trans HX.out
          have hG4 := (hB'.block g (Array.getElem?_eq_some_iff.1 HGR.out).1).trans HGR.out
          have HR4 := Lib.hid (ownsRow_below hB' HRW.out)
          clear hB hB'
          refine ⟨_, rfl, hK _ _ ((HS.out _).2 hX4) ?_⟩
          clear hK K
          simp only [Act.put, List.setIfInBounds_toArray, List.set_cons_zero, List.set_cons_succ]
          have hl4 := (Array.getElem?_eq_some_iff.1 hX4).1
          have HLL : Hid (lineC y = [.string (bsOf y.label), .int .u8 y.x.op, .int .u8 y.x.d, .int .u8 y.x.a, .int .u8 y.x.b, .int .u32 y.x.imm, .string (bsOf y.dest), .string (bsOf y.name)]) := Lib.hid rfl
          have HX5 := Lib.hid ((Below.heap_alloc w4 (.cells (lineA y) 59) lb hl4).trans hX4)
          have HG5 := Lib.hid ((Below.heap_alloc w4 (.cells (lineA y) 59) g (Array.getElem?_eq_some_iff.1 hG4).1).trans hG4)
          have HR5 := Lib.hid (HR4.out.alloc (.cells (lineA y) 59))
          have HK5 := Lib.hid (HK4.out.alloc (.cells (lineA y) 59))
          unfold LnAt at HNW
          unfold lineA at HNW HX5 HG5 HR5 HK5 ⊢
          rw [HLL.out] at HNW HON
          rw [Hid, HLL.out] at HLC
          replace HLC := Lib.hid HLC
          clear HLL
          obtain ⟨yl, ⟨yo, yd, ya, yb, yi⟩, yt, yn⟩ := y
          simp only [] at HNW HX5 HG5 HR5 HK5 HON HLC ⊢
          generalize bsOf yl = YL at *
          generalize bsOf yt = YT at *
          generalize bsOf yn = YN at *
          refine wpTurns_step fun K hK => ?_
          go_simp
          refine hK _ _ ((HS.out _).2 HX5.out) ?_
          clear hK K
          refine wpTurns_step fun K hK => ?_
          refine step_append_own_at rfl (.tmp 25) (.tmp 28) 33 rfl w.heap.size 59 iL _ 8 56 Tryz.underlying33 HI.out.1 HI.out.2.1 HI.out.2.2.1 HI.out.2.2.2 rfl (by decide) (.slice pv l'.length cv) l'.length (l'.flatMap lineC) (by simp [Act.eval]) HR5.out ⟨w4.heap.size, 0, none⟩ 1 1 [.string YL, .int .u8 yo, .int .u8 yd, .int .u8 ya, .int .u8 yb, .int .u32 yi, .string YT, .string YN] (by simp [Act.eval]) rfl (HNW.out w4) HON.out (by unfold maxLen; have := hcl.1; omega) (by have := hcl.1; omega) HK5.out.size ?_
          intro v5 w5 hown hgrow _
          obtain ⟨pv5, cv5, rfl⟩ := own_shape hown
          have hX6 := (hgrow.block lb (by have := (Array.getElem?_eq_some_iff.1 HX5.out).1; exact this) (fun e => own_ne_box HR5.out HX5.out (by decide) e.symm)).trans HX5.out
          have hG6 := (hgrow.block g (by have := (Array.getElem?_eq_some_iff.1 HG5.out).1; exact this) (fun e => own_ne_box HR5.out HG5.out (by decide) e.symm)).trans HG5.out
          have HK6 := Lib.hid ((HK5.out.grown hgrow (fun q e => .inr (World.ownsRow.lt HR5.out q e).1)).setCell (p := ⟨lb, 0, none⟩) (.inl rfl) (.slice pv5 (l'.length + 1) cv5))
          have hS6 : RS w5 := (HS.out _).2 hX6
          have e0 : w5.cell? ⟨lb, 0, none⟩ = some (.slice pv l'.length cv) := Lib.cell_of_heap hX6 0
          have e1 := Lib.frozen_of_heap hX6 0
          have HX7 := Lib.hid (set33 hX6 0 (.slice pv5 (l'.length + 1) cv5))
          have HG7 := Lib.hid ((Below.heap_setCell w5 ⟨lb, 0, none⟩ (.slice pv5 (l'.length + 1) cv5) g (by simpa using hgl)).trans hG6)
          have hown2 : w5.ownsRow w.heap.size 59 8 (.slice pv5 (l'.length + 1) cv5) (l' ++ [(⟨yl, ⟨yo, yd, ya, yb, yi⟩, yt, yn⟩ : GLine)]).length ((l' ++ [(⟨yl, ⟨yo, yd, ya, yb, yi⟩, yt, yn⟩ : GLine)]).flatMap lineC) := by
            rw [HLC.out, List.length_append]
            exact hown
          have HR7 := Lib.hid (own_congr (w' := w5.setCell ⟨lb, 0, none⟩ (.slice pv5 (l'.length + 1) cv5)) hown2 fun q hq => Below.heap_setCell _ _ _ _ (fun e => own_ne_box hown2 hX6 (by decide) (by rw [hq, e])))
          clear hown hown2 hgrow hX6 hG6
          refine hK _ _ hS6 ?_
          clear hK K
          simp only [Act.put, List.setIfInBounds_toArray, List.set_cons_zero, List.set_cons_succ]
          refine wpTurns_nil ?_
          simp only [pickP]
          go_wp2
          refine NoPanic.normal ?_
          go_wp2
          go_roundw
          case rel => exact ⟨l'.length + 1, _, _, by omega, by go_num, HRA2.out, by simp, HX7.out, HR7.out, HLB2.out, HK6.out, HG7.out⟩
          case measure => simp [intOf]; omega
      · have hkm : l'.length = ps.length - 1 := by omega
        have HR : Hid (res = some l') := Lib.hid (by rw [HR1.out, HDL.out, ← hkm, HRA.out])
        have hcd : ¬ l'.length < ps.length - 1 := hlt
        clear hkm
        go_wp2
        go_end0
        rw [HR.out]
        exact ⟨HKB.out, rfl, _, HX.out, HRW.out, HLB.out⟩
  · have hem : (bsOf (ps[ps.length - 1]'(by omega))).toList.isEmpty = false := by rw [hne]; simp [hlz]
    have HR : Hid (res = none) := Lib.hid (by rw [HRD.out, hlast, if_neg hlz])
    clear hlz hlast hne HRD
    generalize bsOf (ps[ps.length - 1]'(by omega)) = SL at *
    go_wp2_with fail
    refine (need_no _).mono ?_
    rintro e w2 ⟨rfl, hw2⟩
    obtain rfl := hw2.symm
    go_wp2
    exact ⟨rfl, by rw [HR.out]; exact ⟨KB.of_below HB1.out, rfl, _, hX1⟩⟩
end Go.Proofs.YtoonkfhphbojcaaGreatDoor
