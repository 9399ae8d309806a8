/- The walk of dis.ReadLines' closure. The document's reading of a line, in plain words: the same lines as dis.readLine. No walk. The document reads the same lines as dis.readLine. No walk. The walk of ref33.place. -/
import Derived.Test.YtoonkfhphbojcaaGreatDoorBv38
import Derived.Test.YtoonkfhphbojcaaGreatDoorBv33
import Derived.Test.YtoonkfhphbojcaaGreatDoorBv29
import Derived.Test.YtoonkfhphbojcaaGreatDoorBv32
namespace Go.Proofs.YtoonkfhphbojcaaGreatDoor
open Go.RowKit Go.Maps
theorem step_callP {P : Program} {ops : Array Oper} {o : Oper} {a : Act} {w : World} {K : Act → World → Prop} {Q : Exit → Act → World → Prop} {E : Prop}
    (hg : o.guard = none) (f : FuncId) (xs : Array Operand) (ats : Array TypeId) (hop : o.op = Op.call { callee := Callee.value (Operand.func f), args := xs, argTypes := ats })
    {fn : Func} (hf : P.funcs[f]? = some fn) (hn : (fn.name == "runtime.NumGoroutine") = false) (hb : fn.body.isNone = false)
    (vs : Array Value) (hv : xs.map a.eval = vs) {Post : Ending → World → Prop} (hC : Calls P f vs w Post) (hK : ∀ e w', Post e w' → ∃ c, e = .panicked c ∧ Q (.panic c) a w') :
    if Region.wanted o (yielded ops a.tmps) = true then Oper.wp P o a w K Q else E := by
  have hw : Region.wanted o (yielded ops a.tmps) = true := by simp [Region.wanted, hg]
  rw [if_pos hw]
  obtain ⟨dst, op, ty, pos, after, guard⟩ := o
  simp only at hg hop
  subst hg; subst hop; subst hv
  unfold Oper.wp
  rw [execOp_call_go]
  have e : (#[] ++ xs.map a.eval ++ #[] : Array Value) = xs.map a.eval := by simp
  rw [e, run_call_go hf hn hb, Oper.upon_enter]
  refine Calls.mono hC fun e w' hp => ?_
  obtain ⟨c, rfl, hk⟩ := hK e w' hp
  exact hk
/-- all lines, or none where one is none -/
def readAll : List BL → Option (List GLine)
  | [] => some []
  | t :: r => (readLineL t).bind fun x => (readAll r).map (x :: ·)
theorem readAll_snoc : ∀ (a : List BL) (t : BL), readAll (a ++ [t]) = (readAll a).bind fun x => (readLineL t).map fun y => x ++ [y]
  | [], t => by simp only [List.nil_append, readAll]; cases readLineL t <;> rfl
  | u :: a, t => by
    rw [List.cons_append, readAll, readAll_snoc a t, readAll]
    cases readLineL u with
    | none => rfl
    | some x =>
      cases readAll a with
      | none => rfl
      | some l => cases readLineL t <;> rfl
theorem readAll_none : ∀ (a b : List BL), readAll a = none → readAll (a ++ b) = none
  | [], b, h => by cases h
  | u :: a, b, h => by
    rw [List.cons_append, readAll]
    rw [readAll] at h
    cases hu : readLineL u with
    | none => rfl
    | some x =>
      rw [hu] at h
      cases ha : readAll a with
      | none => rw [readAll_none a b ha]; rfl
      | some l => rw [ha] at h; cases h
/-- the lines of a text -/
def readLinesL (s : BL) : Option (List GLine) := if (cutAt 10 s).getLastD [] = [] then readAll (cutAt 10 s).dropLast else none
theorem readLine_B {s : BL} {x : GLine} (h : readLineL s = some x) (hs : s.length ≤ 100000) : LineB x := by
  unfold readLineL at h
  cases hr : restOf s with
  | none => rw [hr] at h; cases h
  | some p =>
    rw [hr] at h
    simp only [Option.bind_some] at h
    have hb := restOf_back hr
    have hl : p.1.length ≤ s.length ∧ p.2.length ≤ s.length := by
      have hb2 := congrArg List.length hb
      rw [List.length_append] at hb2
      by_cases h0 : p.1 = []
      · rw [if_pos h0] at hb2
        rw [h0]
        simp at hb2 ⊢
        omega
      · rw [if_neg h0, List.length_append] at hb2
        constructor <;> omega
    cases hp : parsedW (cutAt 32 p.2) with
    | none => rw [hp] at h; cases h
    | some q =>
      rw [hp] at h
      simp only [Option.bind_some] at h
      have hk := parsedW_ok (x := q.1) (imm := q.2) hp
      have him := parsedW_imm (x := q.1) (imm := q.2) (n := s.length + 2) hp (fun t ht => by have := (cutAt_len 32 p.2).2 t ht; omega) (by omega)
      cases hi : immOf q.1.op q.2 with
      | none => rw [hi] at h; cases h
      | some r =>
        rw [hi] at h
        simp only [Option.bind_some] at h
        unfold okLn at h
        split at h
        · cases h
          obtain ⟨-, h1, -, -, -, h5, h6⟩ := immOf_back hi hk.imm q.1 rfl p.1
          obtain ⟨-, -, g1, ⟨g2, g3, -⟩, ⟨g4, g5, -⟩, ⟨g6, g7, -⟩, g8, -⟩ := hk
          exact ⟨⟨by show 0 ≤ q.1.op ∧ q.1.op ≤ _; omega, by show 0 ≤ q.1.d ∧ q.1.d ≤ _; omega, by show 0 ≤ q.1.a ∧ q.1.a ≤ _; omega, by show 0 ≤ q.1.b ∧ q.1.b ≤ _; omega, by show 0 ≤ (r.2.1 : Int) ∧ (r.2.1 : Int) ≤ _; omega⟩, by show p.1.length ≤ _; omega, by show r.1.length ≤ _; omega, by show r.2.2.length ≤ _; omega⟩
        · cases h
def LinesAt (B lb : Nat) (l : List GLine) (w : World) : Prop := ∃ v, w.heap[lb]? = some (.cells #[v] 33 (0, 0)) ∧ w.ownsRow B 59 8 v l.length (l.flatMap lineC) ∧ ∀ y ∈ l, LineB y
def DoLPost (r : Option (List GLine)) (B lb : Nat) (w : World) (e : Ending) (w' : World) : Prop := KB (fun k => k = lb) w w' ∧ match r with
  | some l => e = .returned (.tuple #[]) ∧ LinesAt B lb l w'
  | none => e = wrongE ∧ ∃ v, w'.heap[lb]? = some (.cells #[v] 33 (0, 0))
theorem line_info33 : (Tryz.prog.info? 59).map (fun i => (i.zero, i.size, i.bytes)) = some (some (.agg #[.string ⟨#[]⟩, .int .u8 0, .int .u8 0, .int .u8 0, .int .u8 0, .int .u32 0, .string ⟨#[]⟩, .string ⟨#[]⟩]), 8, 56) := by kernel_rfl
theorem line_new33 {w : World} {g : Nat} {x : GLine} (h : LnAt g x w) : ∀ j u, (lineC x)[j]? = some u → w.cell? ((⟨g, 0, none⟩ : Addr).add j) = some u := by
  intro j u hu
  have := h.cell j
  rw [add_at, Nat.zero_add, this]
  simpa [lineC] using hu
theorem getLast_at {l : List BL} (h : l ≠ []) : l.getLastD [] = l[l.length - 1]'(by have := List.length_pos_iff.2 h; omega) := by
  rw [List.getLastD_eq_getLast?, List.getLast?_eq_getElem?, List.getElem?_eq_getElem (by have := List.length_pos_iff.2 h; omega)]
  rfl
set_option maxHeartbeats 8000000 in
set_option maxRecDepth 100000 in
theorem doLines33 (s : BL) (sb lb : Nat) (w0 w : World) (hL0 : Lib33 w0) (h0 : Below w0.heap.size w0 w) (hlb0 : w0.heap.size ≤ lb) (hs : s.length ≤ 100000) (hsb : w.cell? ⟨sb, 0, none⟩ = some (.string (bsOf s))) (hlb : w.heap[lb]? = some (.cells #[.slice none 0 0] 33 (0, 0))) :
    Calls Tryz.prog 56 #[.pointer (some ⟨sb, 0, none⟩), .pointer (some ⟨lb, 0, none⟩)] w (DoLPost (readLinesL s) w.heap.size lb w) := by
  have HL := Lib.hid hL0
  have HW0 := Lib.hid h0
  have hL := hL0.keep h0
  have HSP := Lib.hid (fun W (hW : Below w.heap.size w W) => split33 10 s W (hL.keep hW) (by omega))
  have hcl := cutAt_len 10 s
  have hcn := cutAt_ne 10 s
  have HRD : Hid (readLinesL s = if (cutAt 10 s).getLastD [] = [] then readAll (cutAt 10 s).dropLast else none) := Lib.hid rfl
  have hlast := getLast_at hcn
  generalize cutAt 10 s = ps at *
  generalize readLinesL s = res at HRD ⊢
  have hpos : 0 < ps.length := List.length_pos_iff.2 hcn
  have hl0 := (Array.getElem?_eq_some_iff.1 hlb).1
  have HB1 := Lib.hid (alloc_old w (.cells (ps.map fun t => Value.string (bsOf t)).toArray 9))
  have hG1 := new_block w (.cells (ps.map fun t => Value.string (bsOf t)).toArray 9)
  have hX1 := (Below.heap_alloc w (.cells (ps.map fun t => Value.string (bsOf t)).toArray 9) lb hl0).trans hlb
  have HPD : Hid (∀ e w', DoLPost res w.heap.size lb w e w' ↔ (KB (fun k => k = lb) w w' ∧ match (generalizing := false) res with
    | some l => e = .returned (.tuple #[]) ∧ LinesAt w.heap.size lb l w'
    | none => e = wrongE ∧ ∃ v, w'.heap[lb]? = some (.cells #[v] 33 (0, 0)))) := Lib.hid fun _ _ => Iff.rfl
  clear hL hL0 h0
  rw [show bsOf [10] = ⟨#[10]⟩ from rfl] at HSP
  go_enter Tryz.func56, Tryz.ntmps56
  go_wp2_with fail
  refine (HSP.out _ (Below.refl _ _)).mono ?_
  rintro e w1 ⟨rfl, hw1⟩
  rw [← hw1] at HB1 hG1 hX1
  clear hw1 HSP hsb hlb
  obtain ⟨g, HGE⟩ : ∃ g, Hid (g = w.heap.size) := ⟨_, Lib.hid rfl⟩
  rw [← HGE.out] at hG1 ⊢
  have HGC : Hid (∀ W : World, W.heap[g]? = some (.cells (ps.map fun t => Value.string (bsOf t)).toArray 9 (0, 0)) → ∀ i (hi : i < ps.length), W.cell? ⟨g, i, none⟩ = some (.string (bsOf ps[i]))) := Lib.hid fun W h i hi => by
    rw [Lib.cell_of_heap h i]
    simp [hi]
  have hgl : g ≠ lb := by have := HGE.out; omega
  have cl := HGC.out w1 hG1 (ps.length - 1) (by omega)
  have hne := bs_nil33 (ps[ps.length - 1]'(by omega))
  have qn : ((ps.length : Int) - 1) = ((ps.length - 1 : Nat) : Int) := by omega
  have qi : (0 : Int) ≤ (ps.length : Int) - 1 := by omega
  by_cases hlz : ps[ps.length - 1]'(by omega) = []
  · have hem : (bsOf (ps[ps.length - 1]'(by omega))).toList.isEmpty = true := by rw [hne]; simp [hlz]
    have HR1 : Hid (res = readAll ps.dropLast) := Lib.hid (by rw [HRD.out, hlast, if_pos hlz])
    clear hlz hlast hne HRD
    generalize bsOf (ps[ps.length - 1]'(by omega)) = SL at *
    go_wp2_with fail
    refine (need_yes _).mono ?_
    rintro e w2 ⟨rfl, hw2⟩
    obtain rfl := hw2.symm
    go_upto_region 3 with fail
    have HDL : Hid (ps.dropLast = ps.take (ps.length - 1)) := Lib.hid (by rw [List.dropLast_eq_take])
    obtain ⟨iL, i0, i1, i2, i3⟩ := info_parts line_info33
    have HI := Lib.hid (And.intro i0 (And.intro i1 (And.intro i2 i3)))
    clear i0 i1 i2 i3
    go_loopw [21] (fun v21 wr => ∃ (k : Nat) (l' : List GLine) (v : Value), k ≤ ps.length - 1 ∧ v21 = .int .i64 k ∧ readAll (ps.take k) = some l' ∧ l'.length = k ∧ wr.heap[lb]? = some (.cells #[v] 33 (0, 0)) ∧ wr.ownsRow w.heap.size 59 8 v l'.length (l'.flatMap lineC) ∧ (∀ y ∈ l', LineB y) ∧ KB (fun b => b = lb) w wr ∧ wr.heap[g]? = some (.cells (ps.map fun t => Value.string (bsOf t)).toArray 9 (0, 0))) (fun v21 _ => (ps.length - 1) - (intOf v21).toNat)
    case atStart => exact ⟨0, [], .slice none 0 0, Nat.zero_le _, rfl, rfl, rfl, hX1, World.ownsRow_nil _ _ _ _, by simp, KB.of_below HB1.out, hG1⟩
    case round =>
      obtain ⟨k, l', v, hk, rfl, hra, rfl, hx, hrow, hlB, hkb, hgr⟩ := hrel
      have HRA := Lib.hid hra
      have HX := Lib.hid hx
      have HRW := Lib.hid hrow
      have HLB := Lib.hid hlB
      have HKB := Lib.hid hkb
      have HGR := Lib.hid hgr
      obtain ⟨pv, cv, rfl⟩ := own_shape hrow
      have hlr := (Array.getElem?_eq_some_iff.1 hx).1
      have HWR : Hid (Below w0.heap.size w0 wr) := Lib.hid (HW0.out.trans (hkb.below (B := w0.heap.size) HW0.out.size (fun q hq e => by omega)))
      clear hra hx hrow hlB hkb hgr
      by_cases hlt : l'.length < ps.length - 1
      · have cs := HGC.out wr HGR.out l'.length (by omega)
        have HRL := Lib.hid (fun W (hW : Below wr.heap.size wr W) => readLine33 (ps[l'.length]'(by omega)) W ((HL.out.keep HWR.out).keep (hW.mono (Nat.le_refl _))) (by have := hcl.2 _ (List.getElem_mem (show l'.length < ps.length by omega)); omega))
        have HTK : Hid (ps.take (l'.length + 1) = ps.take l'.length ++ [ps[l'.length]'(by omega)]) := Lib.hid (by rw [List.take_succ_eq_append_getElem (by omega)])
        have HYB := Lib.hid (fun y (h : readLineL (ps[l'.length]'(by omega)) = some y) => readLine_B h (by have := hcl.2 _ (List.getElem_mem (show l'.length < ps.length by omega)); omega))
        obtain ⟨RS, HSD⟩ : ∃ RS : World → Prop, ∀ w', RS w' ↔ w'.heap[lb]? = some (.cells #[.slice pv l'.length cv] 33 (0, 0)) := ⟨_, fun _ => Iff.rfl⟩
        have r0 : ∀ z : HW RS, z.u.cell? ⟨lb, 0, none⟩ = some (.slice pv l'.length cv) := fun z => Lib.cell_of_heap ((HSD _).1 z.h) 0
        have hS0 : RS wr.drew := (HSD _).2 HX.out
        have HS := Lib.hid HSD; clear HSD
        haveI : Nonempty (HW RS) := ⟨⟨_, hS0⟩⟩
        generalize ps[l'.length]'(by omega) = t at *
        cases hrl : readLineL t with
        | none =>
          rw [hrl] at HRL
          unfold readLnE wrongE wrongV at HRL
          simp only [] at HRL
          have HR : Hid (res = none) := Lib.hid (by
            rw [HR1.out, HDL.out]
            have e : ps.take (ps.length - 1) = ps.take (l'.length + 1) ++ (ps.take (ps.length - 1)).drop (l'.length + 1) := by
              conv => lhs; rw [← List.take_append_drop (l'.length + 1) (ps.take (ps.length - 1))]
              rw [List.take_take, Nat.min_eq_left (by omega)]
            rw [e]
            refine readAll_none _ _ ?_
            rw [HTK.out, readAll_snoc, HRA.out, hrl]
            rfl)
          clear HTK HYB hrl
          go_upto_region 5 with fail
          refine wp_region_marksQ RS [.r, .r, .u, .u, .u, .p] rfl (by kernel_rfl) (fun c a d v w h => by cases d <;> exact h) hS0 ?_
          repeat (refine wpReads_step (fun K hK => ?_); go_simp; refine hK _ ?_; clear hK K)
          refine wpReads_nil ?_
          clear r0 hS0
          refine wpTurns_step fun K hK => ?_
          refine step_callP rfl 59 #[.tmp 26] #[9] rfl Tryz.func59 (by kernel_rfl) (by kernel_rfl) #[.string (bsOf t)] (by simp [Act.eval]) (HRL.out _ (below_drewN (Below.refl _ _) 1)) ?_
          rintro e w4 ⟨rfl, hB⟩
          refine ⟨_, rfl, ?_⟩
          have HK4 := Lib.hid (HKB.out.trans (KB.of_below (S := fun b => b = lb) ((below_drewN (Below.refl wr.heap.size wr) 1).trans hB)))
          have HX4 := Lib.hid ((((below_drewN (Below.refl wr.heap.size wr) 1).trans hB).block lb hlr).trans HX.out)
          clear hB hK K
          go_wp2
          exact ⟨rfl, by rw [HR.out]; exact ⟨HK4.out, rfl, _, HX4.out⟩⟩
        | some y =>
          rw [hrl] at HRL
          unfold readLnE at HRL
          simp only [] at HRL
          have hyB := HYB.out y hrl
          have HRA2 : Hid (readAll (ps.take (l'.length + 1)) = some (l' ++ [y])) := Lib.hid (by rw [HTK.out, readAll_snoc, HRA.out, hrl]; rfl)
          have HLB2 : Hid (∀ x ∈ l' ++ [y], LineB x) := Lib.hid fun x hx => by
            rcases List.mem_append.1 hx with h | h
            · exact HLB.out x h
            · simp at h; subst h; exact hyB
          have HLC : Hid ((l' ++ [y]).flatMap lineC = l'.flatMap lineC ++ lineC y) := Lib.hid (by simp [List.flatMap_append])
          clear HTK HYB hrl hyB
          unfold lineV at HRL
          have HNW := Lib.hid (fun W : World => line_new33 (lnAt_new y W))
          have HON := Lib.hid (line_one (y := y))
          go_upto_region 5 with fail
          refine wp_region_marks RS [.r, .r, .u, .u, .u, .p] rfl (by kernel_rfl) hS0 ?_
          repeat (refine wpReads_step (fun K hK => ?_); go_simp; refine hK _ ?_; clear hK K)
          refine wpReads_nil ?_
          clear r0 hS0
          refine wpTurns_step fun K hK => ?_
          refine step_call rfl 59 #[.tmp 26] #[9] rfl Tryz.func59 (by kernel_rfl) (by kernel_rfl) #[.string (bsOf t)] (by simp [Act.eval]) (HRL.out _ (below_drewN (Below.refl _ _) 1)) ?_
          rintro e w4 ⟨rfl, hB⟩
          have hB' : Below wr.heap.size wr w4 := (below_drewN (Below.refl _ _) 1).trans hB
          have HK4 := Lib.hid (HKB.out.trans (KB.of_below (S := fun b => b = lb) hB'))
          have hX4 := (hB'.block lb hlr).trans HX.out
          have hG4 := (hB'.block g (Array.getElem?_eq_some_iff.1 HGR.out).1).trans HGR.out
          have HR4 := Lib.hid (ownsRow_below hB' HRW.out)
          clear hB hB'
          refine ⟨_, rfl, hK _ _ ((HS.out _).2 hX4) ?_⟩
          clear hK K
          simp only [Act.put, List.setIfInBounds_toArray, List.set_cons_zero, List.set_cons_succ]
          have hl4 := (Array.getElem?_eq_some_iff.1 hX4).1
          have HLL : Hid (lineC y = [.string (bsOf y.label), .int .u8 y.x.op, .int .u8 y.x.d, .int .u8 y.x.a, .int .u8 y.x.b, .int .u32 y.x.imm, .string (bsOf y.dest), .string (bsOf y.name)]) := Lib.hid rfl
          have HX5 := Lib.hid ((Below.heap_alloc w4 (.cells (lineA y) 59) lb hl4).trans hX4)
          have HG5 := Lib.hid ((Below.heap_alloc w4 (.cells (lineA y) 59) g (Array.getElem?_eq_some_iff.1 hG4).1).trans hG4)
          have HR5 := Lib.hid (HR4.out.alloc (.cells (lineA y) 59))
          have HK5 := Lib.hid (HK4.out.alloc (.cells (lineA y) 59))
          unfold LnAt at HNW
          unfold lineA at HNW HX5 HG5 HR5 HK5 ⊢
          rw [HLL.out] at HNW HON
          rw [Hid, HLL.out] at HLC
          replace HLC := Lib.hid HLC
          clear HLL
          obtain ⟨yl, ⟨yo, yd, ya, yb, yi⟩, yt, yn⟩ := y
          simp only [] at HNW HX5 HG5 HR5 HK5 HON HLC ⊢
          generalize bsOf yl = YL at *
          generalize bsOf yt = YT at *
          generalize bsOf yn = YN at *
          refine wpTurns_step fun K hK => ?_
          go_simp
          refine hK _ _ ((HS.out _).2 HX5.out) ?_
          clear hK K
          refine wpTurns_step fun K hK => ?_
          refine step_append_own_at rfl (.tmp 25) (.tmp 28) 33 rfl w.heap.size 59 iL _ 8 56 Tryz.underlying33 HI.out.1 HI.out.2.1 HI.out.2.2.1 HI.out.2.2.2 rfl (by decide) (.slice pv l'.length cv) l'.length (l'.flatMap lineC) (by simp [Act.eval]) HR5.out ⟨w4.heap.size, 0, none⟩ 1 1 [.string YL, .int .u8 yo, .int .u8 yd, .int .u8 ya, .int .u8 yb, .int .u32 yi, .string YT, .string YN] (by simp [Act.eval]) rfl (HNW.out w4) HON.out (by unfold maxLen; have := hcl.1; omega) (by have := hcl.1; omega) HK5.out.size ?_
          intro v5 w5 hown hgrow _
          obtain ⟨pv5, cv5, rfl⟩ := own_shape hown
          have hX6 := (hgrow.block lb (by have := (Array.getElem?_eq_some_iff.1 HX5.out).1; exact this) (fun e => own_ne_box HR5.out HX5.out (by decide) e.symm)).trans HX5.out
          have hG6 := (hgrow.block g (by have := (Array.getElem?_eq_some_iff.1 HG5.out).1; exact this) (fun e => own_ne_box HR5.out HG5.out (by decide) e.symm)).trans HG5.out
          have HK6 := Lib.hid ((HK5.out.grown hgrow (fun q e => .inr (World.ownsRow.lt HR5.out q e).1)).setCell (p := ⟨lb, 0, none⟩) (.inl rfl) (.slice pv5 (l'.length + 1) cv5))
          have hS6 : RS w5 := (HS.out _).2 hX6
          have e0 : w5.cell? ⟨lb, 0, none⟩ = some (.slice pv l'.length cv) := Lib.cell_of_heap hX6 0
          have e1 := Lib.frozen_of_heap hX6 0
          have HX7 := Lib.hid (set33 hX6 0 (.slice pv5 (l'.length + 1) cv5))
          have HG7 := Lib.hid ((Below.heap_setCell w5 ⟨lb, 0, none⟩ (.slice pv5 (l'.length + 1) cv5) g (by simpa using hgl)).trans hG6)
          have hown2 : w5.ownsRow w.heap.size 59 8 (.slice pv5 (l'.length + 1) cv5) (l' ++ [(⟨yl, ⟨yo, yd, ya, yb, yi⟩, yt, yn⟩ : GLine)]).length ((l' ++ [(⟨yl, ⟨yo, yd, ya, yb, yi⟩, yt, yn⟩ : GLine)]).flatMap lineC) := by
            rw [HLC.out, List.length_append]
            exact hown
          have HR7 := Lib.hid (own_congr (w' := w5.setCell ⟨lb, 0, none⟩ (.slice pv5 (l'.length + 1) cv5)) hown2 fun q hq => Below.heap_setCell _ _ _ _ (fun e => own_ne_box hown2 hX6 (by decide) (by rw [hq, e])))
          clear hown hown2 hgrow hX6 hG6
          refine hK _ _ hS6 ?_
          clear hK K
          simp only [Act.put, List.setIfInBounds_toArray, List.set_cons_zero, List.set_cons_succ]
          refine wpTurns_nil ?_
          simp only [pickP]
          go_wp2
          refine NoPanic.normal ?_
          go_wp2
          go_roundw
          case rel => exact ⟨l'.length + 1, _, _, by omega, by go_num, HRA2.out, by simp, HX7.out, HR7.out, HLB2.out, HK6.out, HG7.out⟩
          case measure => simp [intOf]; omega
      · have hkm : l'.length = ps.length - 1 := by omega
        have HR : Hid (res = some l') := Lib.hid (by rw [HR1.out, HDL.out, ← hkm, HRA.out])
        have hcd : ¬ l'.length < ps.length - 1 := hlt
        clear hkm
        go_wp2
        go_end0
        rw [HR.out]
        exact ⟨HKB.out, rfl, _, HX.out, HRW.out, HLB.out⟩
  · have hem : (bsOf (ps[ps.length - 1]'(by omega))).toList.isEmpty = false := by rw [hne]; simp [hlz]
    have HR : Hid (res = none) := Lib.hid (by rw [HRD.out, hlast, if_neg hlz])
    clear hlz hlast hne HRD
    generalize bsOf (ps[ps.length - 1]'(by omega)) = SL at *
    go_wp2_with fail
    refine (need_no _).mono ?_
    rintro e w2 ⟨rfl, hw2⟩
    obtain rfl := hw2.symm
    go_wp2
    exact ⟨rfl, by rw [HR.out]; exact ⟨KB.of_below HB1.out, rfl, _, hX1⟩⟩
end Go.Proofs.YtoonkfhphbojcaaGreatDoor
namespace Go.Proofs.YtoonkfhphbojcaaGreatDoor
open Go.RowKit Go.Maps
def labStep (s : BL) (lab : BL) (i : Nat) : BL := if s.getD i 0 = 58 ∧ s.getD (i + 1) 0 = 32 ∧ lab = [] then s.take i else lab
def labI (s : BL) (k : Nat) : BL := (List.range k).foldl (labStep s) []
def labR (s : BL) : BL := labI s (s.length - 1)
theorem labI_zero (s : BL) : labI s 0 = [] := rfl
theorem labI_succ (s : BL) (k : Nat) : labI s (k + 1) = labStep s (labI s k) k := by unfold labI; rw [List.range_succ, List.foldl_append]; rfl
theorem labI_none {s : BL} (h : (58 : UInt8) ∉ s) : ∀ k, labI s k = []
  | 0 => rfl
  | k + 1 => by
    rw [labI_succ, labI_none h k]
    unfold labStep
    rw [if_neg]
    rintro ⟨h1, -⟩
    rcases Nat.lt_or_ge k s.length with hk | hk
    · exact h (by rw [← h1, List.getD_eq_getElem?_getD, List.getElem?_eq_getElem hk]; exact List.getElem_mem hk)
    · rw [List.getD_eq_getElem?_getD, List.getElem?_eq_none hk] at h1; cases h1
theorem labI_hit {l r : BL} (hl : (58 : UInt8) ∉ l) (h0 : l ≠ []) : ∀ k, labI (l ++ [58, 32] ++ r) k = if l.length < k then l else []
  | 0 => by rw [if_neg (by omega)]; rfl
  | k + 1 => by
    rw [labI_succ, labI_hit hl h0 k]
    unfold labStep
    rcases Nat.lt_trichotomy k l.length with hk | hk | hk
    · rw [if_neg (show ¬ l.length < k by omega), if_neg (show ¬ l.length < k + 1 by omega)]
      rw [if_neg]
      rintro ⟨h1, -⟩
      apply hl
      rw [← h1, List.getD_eq_getElem?_getD, List.append_assoc, List.getElem?_append_left hk, List.getElem?_eq_getElem hk]
      exact List.getElem_mem hk
    · subst hk
      rw [if_neg (show ¬ l.length < l.length by omega), if_pos (show l.length < l.length + 1 by omega)]
      rw [if_pos]
      · rw [List.append_assoc, List.take_left]
      · refine ⟨?_, ?_, rfl⟩
        · rw [List.getD_eq_getElem?_getD, List.append_assoc, List.getElem?_append_right (Nat.le_refl _)]; simp
        · rw [List.getD_eq_getElem?_getD, List.append_assoc, List.getElem?_append_right (by omega)]; simp
    · rw [if_pos hk, if_pos (show l.length < k + 1 by omega), if_neg]
      rintro ⟨-, -, h⟩
      exact h0 h
def placeR (s : BL) : BL × Nat × Bool := if (cutAt 43 s).length = 2 ∧ ¬ ((cutAt 43 s).getD 0 []).length < 2 ∧ ((cutAt 43 s).getD 0 []).getD 0 0 = 64 then (((cutAt 43 s).getD 0 []).drop 1, (numR ((cutAt 43 s).getD 1 [])).1, (numR ((cutAt 43 s).getD 1 [])).2) else ([], 0, false)
/-- where a line goes to, its number, its name, whether they may be -/
def immR (i0 : Int) (imm : BL) : BL × Int × BL × Bool :=
  if imm = [] then ([], i0, [], true)
  else if imm.getD 0 0 = 62 then (imm.drop 1, i0, [], true)
  else if imm.getD 0 0 = 64 then ([], ((placeR imm).2.1 : Int), (placeR imm).1, (placeR imm).2.2)
  else ([], ((numR imm).1 : Int), [], (numR imm).2)
def restR (s : BL) : BL := if labR s = [] then s else s.drop ((labR s).length + 2)
def lnR (s : BL) : GLine × Bool :=
  let p := parsedR (cutAt 32 (restR s))
  let q := immR p.1.imm p.2.1
  (⟨labR s, ⟨p.1.op, p.1.d, p.1.a, p.1.b, q.2.1⟩, q.1, q.2.2.1⟩, p.2.2 && q.2.2.2)
def readLnR (s : BL) : GLine × Bool := ((lnR s).1, (lnR s).2 && (lineOk (lnR s).1 && decide (lineL (lnR s).1 = s)))
theorem placeR_name {n : BL} (hn : nameOk n = true) (h0 : n ≠ []) {k : Nat} (hk : k < 4294967296) : placeR (64 :: (n ++ 43 :: decD k)) = (n, k, true) := by
  have h43 : (43 : UInt8) ∉ (64 :: n : BL) := by
    simp only [List.mem_cons, not_or]
    exact ⟨by decide, nameOk_not hn (by decide)⟩
  have hc : cutAt 43 (64 :: (n ++ 43 :: decD k)) = [64 :: n, decD k] := by
    have := cut_app 43 (64 :: n) (decD k) h43
    rw [show (64 :: n : BL) ++ 43 :: decD k = 64 :: (n ++ 43 :: decD k) from rfl] at this
    rw [this, cut_none 43 _ (dec_not (by simp) k)]
  unfold placeR
  rw [hc]
  have hl : 0 < n.length := List.length_pos_iff.2 h0
  rw [if_pos ⟨rfl, by simp; omega, rfl⟩]
  have := (numR_iff (decD k) k).2 ⟨rfl, hk⟩
  simp [this]
theorem immR_of {x : GLine} (hx : LineB x) (h : tellMay x = true) (imm : BL) (him : imm = (if bitOf (useOf x.x.op) 8 then placeL x else [])) : immR 0 imm = (x.dest, x.x.imm, x.name, true) := by
  obtain ⟨h1, h2, h3, h4, h5⟩ := tellMay_parts h
  have hi0 := hx.x.2.2.2.2
  rcases h5 with ⟨hd, hn, h5⟩ | ⟨hdn, h8, -⟩
  · cases h8 : bitOf (useOf x.x.op) 8 with
    | true =>
      rw [h8, if_pos rfl] at him
      have hp : placeL x = decD x.x.imm.toNat := by unfold placeL; rw [if_pos hd, if_pos hn]
      rw [him, hp, hd, hn]
      have hne := decD_ne x.x.imm.toNat
      have hm := decD_mem x.x.imm.toNat
      have hnr := (numR_iff (decD x.x.imm.toNat) x.x.imm.toNat).2 ⟨rfl, by omega⟩
      generalize decD x.x.imm.toNat = D at *
      cases D with
      | nil => exact absurd rfl hne
      | cons c t =>
        have hc := hm c (by simp)
        unfold immR
        rw [if_neg (by simp), if_neg (by intro e; simp at e; rw [e] at hc; simp at hc), if_neg (by intro e; simp at e; rw [e] at hc; simp at hc), hnr]
        simp only [Prod.mk.injEq, and_true, true_and]
        omega
    | false =>
      rw [h8, if_neg (by simp)] at him
      rw [him, hd, hn]
      unfold insOk at h5
      simp [h8] at h5
      rw [h5.2]; rfl
  · rw [h8, if_pos rfl] at him
    by_cases hd : x.dest = []
    · have hn : x.name ≠ [] := by
        rcases hdn with e | e
        · exact absurd hd e
        · exact e
      have hp : placeL x = 64 :: (x.name ++ 43 :: decD x.x.imm.toNat) := by unfold placeL; rw [if_pos hd, if_neg hn]
      rw [him, hp, hd]
      unfold immR
      rw [if_neg (by simp), if_neg (by simp), if_pos (by simp), placeR_name h4 hn (by omega)]
      simp only [Prod.mk.injEq, and_true, true_and]
      omega
    · have hn : x.name = [] := by
        rcases h1 with e | e
        · exact absurd e hd
        · exact e
      have hi : x.x.imm = 0 := by
        rcases h2 with e | e
        · exact absurd e hd
        · exact e
      have hp : placeL x = 62 :: x.dest := by unfold placeL; rw [if_neg hd]
      rw [him, hp, hn, hi]
      unfold immR
      rw [if_neg (by simp), if_pos (by simp)]
      simp
theorem labR_line {x : GLine} (h : lineOk x = true) : labR (lineL x) = x.label ∧ restR (lineL x) = toldL x.x (placeL x) := by
  have h' := h
  unfold lineOk at h'
  simp only [Bool.and_eq_true] at h'
  have h58 := told_58 h'.2
  have hne : toldL x.x (placeL x) ≠ [] := by
    unfold toldL
    have := nameL_ne (lineOk_use h)
    intro e
    rw [List.append_assoc] at e
    simp at e
    have hu := use_op (lineOk_use h)
    exact this (by omega) (by omega) e.1
  unfold restR
  by_cases hl : x.label = []
  · have hL : lineL x = toldL x.x (placeL x) := by unfold lineL; rw [if_pos hl, List.nil_append]
    have : labR (lineL x) = [] := by rw [hL]; exact labI_none h58 _
    rw [this, if_pos rfl, hl]
    exact ⟨rfl, hL⟩
  · have hL : lineL x = x.label ++ [58, 32] ++ toldL x.x (placeL x) := by unfold lineL; rw [if_neg hl]
    have : labR (lineL x) = x.label := by
      unfold labR
      rw [hL, labI_hit (nameOk_not h'.1 (by decide)) hl, if_pos]
      have := List.length_pos_iff.2 hne
      simp only [List.length_append, List.length_cons, List.length_nil]
      omega
    rw [this, if_neg hl]
    refine ⟨rfl, ?_⟩
    rw [hL]
    have e : x.label.length + 2 = (x.label ++ [58, 32]).length := by simp
    rw [e, List.drop_left]
theorem labStep_len (s lab : BL) (i : Nat) : (labStep s lab i).length ≤ s.length ∨ labStep s lab i = lab := by
  unfold labStep
  split
  · left; simp; omega
  · right; rfl
theorem labI_len (s : BL) : ∀ k, (labI s k).length ≤ s.length
  | 0 => by simp [labI_zero]
  | k + 1 => by
    rw [labI_succ]
    rcases labStep_len s (labI s k) k with h | h
    · exact h
    · rw [h]; exact labI_len s k
end Go.Proofs.YtoonkfhphbojcaaGreatDoor
namespace Go.Proofs.YtoonkfhphbojcaaGreatDoor
open Go.RowKit Go.Maps
theorem getD_len {l : List BL} {n : Nat} (h : ∀ p ∈ l, p.length ≤ n) (j : Nat) : (l.getD j []).length ≤ n := by
  rw [List.getD_eq_getElem?_getD]
  rcases Nat.lt_or_ge j l.length with hj | hj
  · rw [List.getElem?_eq_getElem hj]; exact h _ (List.getElem_mem hj)
  · rw [List.getElem?_eq_none hj]; simp
theorem immR_B (imm : BL) : (0 ≤ (immR 0 imm).2.1 ∧ (immR 0 imm).2.1 ≤ 4294967295) ∧ (immR 0 imm).1.length ≤ imm.length ∧ (immR 0 imm).2.2.1.length ≤ imm.length := by
  unfold immR
  split
  · simp
  · split
    · refine ⟨by simp, by simp, by simp⟩
    · split
      · have h := (cutAt_len 43 imm).2
        unfold placeR
        split
        · have h1 := numR_lt ((cutAt 43 imm).getD 1 [])
          have h2 := getD_len h 0
          refine ⟨by simp only []; omega, by simp, ?_⟩
          simp only [List.length_drop]
          omega
        · simp
      · have h1 := numR_lt imm
        refine ⟨by simp only []; omega, by simp, by simp⟩
theorem restR_len (s : BL) : (restR s).length ≤ s.length := by
  unfold restR
  split
  · omega
  · simp
theorem lnR_B (s : BL) (hs : s.length ≤ 100000) : LineB (lnR s).1 := by
  have hr := restR_len s
  have hc := (cutAt_len 32 (restR s)).2
  obtain ⟨h1, h2, h3, h4, h5, h6⟩ := parsedR_bd (n := 100000) (ps := cutAt 32 (restR s)) (fun p hp => by have := hc p hp; omega)
  have hl : (labR s).length ≤ s.length := labI_len s _
  unfold lnR
  simp only []
  rw [h5]
  obtain ⟨g1, g2, g3⟩ := immR_B (parsedR (cutAt 32 (restR s))).2.1
  exact ⟨⟨h1, by simp only []; omega, by simp only []; omega, by simp only []; omega, g1⟩, by simp only []; omega, by simp only []; omega, by simp only []; omega⟩
/-- the document's line of a text that a line is told as -/
theorem lnR_line {x : GLine} (hx : LineB x) (h : lineOk x = true) : lnR (lineL x) = (x, true) := by
  have ht : tellMay x = true := by unfold lineOk at h; simp only [Bool.and_eq_true] at h; exact h.2
  obtain ⟨h1, h2⟩ := labR_line h
  obtain ⟨imm, hp, him, -⟩ := parsed_line hx ht
  have hw := parsedW_R (cutAt 32 (toldL x.x (placeL x)))
  rw [hp] at hw
  have h3 : (parsedR (cutAt 32 (toldL x.x (placeL x)))).2.2 = true := by
    cases hb : (parsedR (cutAt 32 (toldL x.x (placeL x)))).2.2 with
    | true => rfl
    | false => rw [hb] at hw; simp at hw
  rw [h3, if_pos rfl] at hw
  simp only [Option.some.injEq, Prod.mk.injEq] at hw
  unfold lnR
  simp only []
  rw [h2, h1, h3, ← hw.1, ← hw.2]
  rw [show (noImm x.x).imm = 0 from rfl, immR_of hx ht imm him]
  obtain ⟨l, ⟨op, d, a, b, i⟩, dd, n⟩ := x
  rfl
theorem readLn_same (s : BL) (hs : s.length ≤ 100000) : readLineL s = if (readLnR s).2 then some (readLnR s).1 else none := by
  cases hb : (readLnR s).2 with
  | true =>
    rw [if_pos rfl]
    unfold readLnR at hb ⊢
    simp only [Bool.and_eq_true, decide_eq_true_eq] at hb
    obtain ⟨-, h1, h2⟩ := hb
    have := readLine_told (lnR_B s hs) h1
    rw [h2] at this
    exact this
  | false =>
    rw [if_neg (by simp)]
    cases hr : readLineL s with
    | none => rfl
    | some x =>
      have hxB := readLine_B hr hs
      obtain ⟨h1, h2⟩ := readLine_back hr
      have := lnR_line hxB h2
      rw [h1] at this
      unfold readLnR at hb
      rw [this] at hb
      simp [h1, h2] at hb
end Go.Proofs.YtoonkfhphbojcaaGreatDoor
namespace Go.Proofs.YtoonkfhphbojcaaGreatDoor
open Go.RowKit Go.Maps
def placeRV (r : BL × Nat × Bool) : Value := .tuple #[.string (bsOf r.1), .int .u32 (r.2.1 : Int), .bool r.2.2]
set_option maxHeartbeats 4000000 in
set_option maxRecDepth 100000 in
theorem rplace33 (s : BL) (w : World) (hs : s.length ≤ 1000000) : Calls Tryz.prog 108 #[.string (bsOf s)] w fun e w' => e = .returned (placeRV (placeR s)) ∧ Below w.heap.size w w' := by
  have HC := Lib.hid (fun W => rcut33 s 43 W hs)
  have hcl := cutAt_len 43 s
  have hcn := cutAt_ne 43 s
  have HD : Hid (placeR s = if (cutAt 43 s).length = 2 ∧ ¬ ((cutAt 43 s).getD 0 []).length < 2 ∧ ((cutAt 43 s).getD 0 []).getD 0 0 = 64 then (((cutAt 43 s).getD 0 []).drop 1, (numR ((cutAt 43 s).getD 1 [])).1, (numR ((cutAt 43 s).getD 1 [])).2) else ([], 0, false)) := Lib.hid rfl
  generalize placeR s = res at HD ⊢
  generalize cutAt 43 s = ps at *
  have hpos : 0 < ps.length := List.length_pos_iff.2 hcn
  have HEV : Hid (placeRV res = .tuple #[.string (bsOf res.1), .int .u32 (res.2.1 : Int), .bool res.2.2]) := Lib.hid rfl
  generalize placeRV res = VV at HEV ⊢
  go_enter Tryz.func108, Tryz.ntmps108
  go_wp2_with fail
  refine (HC.out _).mono ?_
  rintro e w1 ⟨v, rfl, hrow, hB⟩
  have HB := Lib.hid hB
  have HRW := Lib.hid hrow
  obtain ⟨g, cap, rfl, -, hg⟩ := World.ownsRow.form hrow hpos
  clear hrow hB HC
  by_cases h2 : ps.length = 2
  · match ps, h2 with
    | [a, c], _ =>
    have q0 := World.ownsRow.cells HRW.out (g := g) rfl 0 (.string (bsOf a)) rfl
    have q1 := World.ownsRow.cells HRW.out (g := g) rfl 1 (.string (bsOf c)) rfl
    rw [add_at] at q0 q1
    simp only [List.length_cons, List.length_nil, Nat.zero_add, Nat.reduceAdd] at HRW ⊢
    have ha := hcl.2 a (by simp)
    have hc := hcl.2 c (by simp)
    have hsa := bsOf_size a
    simp only [List.getD_cons_zero, List.getD_cons_succ, List.length_cons, List.length_nil] at HD
    by_cases hal : a.length < 2
    · have HR : Hid (res = ([], 0, false)) := Lib.hid (by rw [HD.out, if_neg (by intro h; exact h.2.1 hal)])
      have qq : (((bsOf a).size : Nat) : Int) < 2 := by omega
      clear HD
      generalize bsOf a = SA at *
      generalize bsOf c = SC at *
      go_wp2
      go_ret3
      exact ⟨by rw [HEV.out, HR.out]; rfl, HB.out⟩
    · obtain ⟨c0, t, rfl⟩ : ∃ c0 t, a = c0 :: t := by
        cases a with
        | nil => simp at hal
        | cons c0 t => exact ⟨c0, t, rfl⟩
      have qq : ¬ (((bsOf (c0 :: t)).size : Nat) : Int) < 2 := by omega
      have b0 : ∀ h : 0 < (bsOf (c0 :: t)).size, (bsOf (c0 :: t))[0]'h = c0 := fun _ => rfl
      have ql : ¬ (((c0 :: t).length : Nat) : Int) < 2 := by omega
      have hx := ext_drop (c0 :: t) 1
      have hlt : (2 : Int) ≤ ((c0 :: t).length : Int) := by omega
      by_cases h64 : c0 = 64
      · subst h64
        have HR : Hid (res = (t, (numR c).1, (numR c).2)) := Lib.hid (by rw [HD.out, if_pos ⟨by trivial, hal, by trivial⟩]; rfl)
        have HN := Lib.hid (fun W => rnumber33 c W)
        have hnl := numR_lt c
        unfold numRV at HN
        clear HD
        simp only [List.drop_succ_cons, List.drop_zero] at hx
        generalize numR c = nr at HN HR hnl
        obtain ⟨nv, nb⟩ := nr
        simp only [] at HN HR hnl
        have q2 : (64 : UInt8).toNat = 64 := rfl
        generalize (64 :: t : BL).length = ln at *
        obtain ⟨ST, HT⟩ : ∃ ST, Hid (bsOf t = ST) := ⟨_, Lib.hid rfl⟩
        rw [HT.out] at hx
        generalize bsOf (64 :: t) = SA at *
        generalize bsOf c = SC at *
        go_wp2_with fail
        refine (HN.out _).mono ?_
        rintro e w2 ⟨rfl, hB⟩
        have HB2 := Lib.hid (HB.out.trans (hB.mono HB.out.size))
        replace q0 := cell_keep hB hg q0
        clear hB
        go_wp2
        go_ret3
        exact ⟨by rw [HEV.out, HR.out]; simp only []; rw [HT.out]; rfl, HB2.out⟩
      · have HR : Hid (res = ([], 0, false)) := Lib.hid (by rw [HD.out, if_neg (by intro h; exact h64 h.2.2)])
        have q2 : ¬ ((c0.toNat : Nat) : Int) = 64 := by
          intro h
          apply h64
          rw [← UInt8.toNat_inj]
          have : ((64 : UInt8).toNat) = 64 := rfl
          omega
        clear HD
        generalize (c0 :: t : BL).length = ln at *
        generalize bsOf (c0 :: t) = SA at *
        generalize bsOf c = SC at *
        go_wp2
        go_ret3
        exact ⟨by rw [HEV.out, HR.out]; rfl, HB.out⟩
  · have HR : Hid (res = ([], 0, false)) := Lib.hid (by rw [HD.out, if_neg (by intro h; exact h2 h.1)])
    have qq : ¬ (ps.length : Int) = 2 := by omega
    clear HD
    go_wp2
    go_ret3
    exact ⟨by rw [HEV.out, HR.out]; rfl, HB.out⟩
end Go.Proofs.YtoonkfhphbojcaaGreatDoor
