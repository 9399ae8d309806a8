/- The walk of audit's finds. The walk of audit.Image. The walk of audit.Calls. -/
import Derived.Test.YtghopakbefageaaGreatBt31
import Derived.Test.YtghopakbefageaaGreatBt30
import Derived.Test.YtghopakbefageaaGreatBt23
namespace Go.Proofs.YtghopakbefageaaGreat
open Go.RowKit Go.Maps
def FindsPost (m : GMan) (L : List GLn) (y : GLn) (w : World) (e : Ending) (w' : World) : Prop := ∃ v, e = .returned v ∧ RowAt 2 FindR w' v (findsL m L y) ∧ Below w.heap.size w w'
def lineArr (y : GLn) : Array Value := #[.int .u8 y.ins.op, .int .u8 y.ins.d, .int .u8 y.ins.a, .int .u8 y.ins.b, .int .u32 y.ins.imm, .int .u32 y.addr, .bool y.is]
/-- what finds keeps while it gathers -/
def FndSt (base lb yb : Nat) (l : List Fd) (y : GLn) (w0 w : World) : Prop := ∃ v, FindSt base lb l v w ∧ w.heap[yb]? = some (.cells (lineArr y) 60 (0, 0)) ∧ Below base w0 w
theorem FndSt.keep {base lb yb : Nat} {l : List Fd} {y : GLn} {w0 w w' : World} (h : FndSt base lb yb l y w0 w) (hb : Below w.heap.size w w') (hz : base ≤ w.heap.size) : FndSt base lb yb l y w0 w' := by
  obtain ⟨v, h1, h2, h3⟩ := h
  exact ⟨v, h1.keep hb, (hb.block yb (Array.getElem?_eq_some_iff.1 h2).1).trans h2, h3.trans (hb.mono hz)⟩
theorem FndSt.cells {base lb yb : Nat} {l : List Fd} {y : GLn} {w0 w : World} (h : FndSt base lb yb l y w0 w) : yb < w.heap.size ∧ w.cell? ⟨yb, 0, none⟩ = some (.int .u8 y.ins.op) ∧ w.cell? ⟨yb, 1, none⟩ = some (.int .u8 y.ins.d) ∧ w.cell? ⟨yb, 2, none⟩ = some (.int .u8 y.ins.a) ∧ w.cell? ⟨yb, 3, none⟩ = some (.int .u8 y.ins.b) ∧ w.cell? ⟨yb, 4, none⟩ = some (.int .u32 y.ins.imm) ∧ w.cell? ⟨yb, 5, none⟩ = some (.int .u32 y.addr) ∧ w.cell? ⟨yb, 6, none⟩ = some (.bool y.is) := by
  obtain ⟨v, h1, h2, h3⟩ := h
  exact ⟨(Array.getElem?_eq_some_iff.1 h2).1, Lib.cell_of_heap h2 0, Lib.cell_of_heap h2 1, Lib.cell_of_heap h2 2, Lib.cell_of_heap h2 3, Lib.cell_of_heap h2 4, Lib.cell_of_heap h2 5, Lib.cell_of_heap h2 6⟩
def NPost (base lb yb : Nat) (l : List Fd) (b : Bool) (y : GLn) (k : Int) (w0 : World) (e : Ending) (w' : World) : Prop := e = .returned (.tuple #[]) ∧ FndSt base lb yb (l ++ noteL b y.addr k) y w0 w'
theorem note_at {base lb yb : Nat} {l : List Fd} {y : GLn} {w0 w : World} (h : FndSt base lb yb l y w0 w) (hl : l.length ≤ 100) (hz : base ≤ w.heap.size) (b : Bool) (k : Int) (g : Nat) (hg : g = w.heap.size) :
    Calls Tryz.prog 44 #[.bool b, .slice (some ⟨g, 0, none⟩) 1 1, .pointer (some ⟨lb, 0, none⟩), .pointer (some ⟨yb, 0, none⟩)] (w.alloc (.cells #[.int .u8 k] 5)) (NPost base lb yb l b y k w0) := by
  subst hg
  obtain ⟨v, h1, h2, h3⟩ := h.keep (alloc_old w (.cells #[.int .u8 k] 5)) hz
  refine (note36 base lb yb w.heap.size 1 l v b y.addr k (lineArr y) w0 _ h1 h2 rfl h3 hl (by simp; omega) (by simp [go_sem]) (by simp)).mono ?_
  rintro e w' ⟨rfl, v', k1, k2, k3⟩
  exact ⟨rfl, v', k1, k2, k3⟩
theorem findsL_no {m : GMan} {L : List GLn} {y : GLn} (h : y.is = false) : findsL m L y = [] ++ noteL true y.addr 1 := by
  unfold findsL; rw [h]; rfl
theorem findsL_yes {m : GMan} {L : List GLn} {y : GLn} (h : y.is = true) : findsL m L y = ((([] ++ noteL (jumpsB y.ins && !hasA L y.ins.imm) y.addr 2) ++ noteL (goesB y.ins && !hasA L (w32 (y.addr + 8))) y.addr 3) ++ noteL (decide (y.ins.op = 50) && (decide (y.ins.imm < 1) || decide (10 < y.ins.imm))) y.addr 4) ++ noteL (decide (y.ins.op = 50) && deniedB m y.ins.imm) y.addr 5 := by
  unfold findsL noteL
  rw [if_pos h]
  simp
theorem noteL_len (b : Bool) (a k : Int) : (noteL b a k).length ≤ 1 := by unfold noteL; split <;> simp
theorem FndSt.ret {base lb yb : Nat} {l : List Fd} {y : GLn} {w0 w : World} (h : FndSt base lb yb l y w0 w) (hb : ∀ x ∈ l, (0 ≤ x.1 ∧ x.1 ≤ 4294967295) ∧ (0 ≤ x.2 ∧ x.2 ≤ 255)) (hl : l.length ≤ 100) : ∃ v, w.cell? ⟨lb, 0, none⟩ = some v ∧ RowAt 2 FindR w v l ∧ Below base w0 w ∧ w.frozen? ⟨lb, 0, none⟩ = false ∧ (∃ p c, v = .slice p l.length c) := by
  obtain ⟨v, h1, h2, h3⟩ := h
  exact ⟨v, Lib.cell_of_heap h1.box 0, find_back h1.row (by omega) hb, h3, Lib.frozen_of_heap h1.box 0, own_shape h1.row⟩
theorem noteL_bd {a k : Int} (ha : 0 ≤ a ∧ a ≤ 4294967295) (hk : 0 ≤ k ∧ k ≤ 255) {b : Bool} : ∀ x ∈ noteL b a k, (0 ≤ x.1 ∧ x.1 ≤ 4294967295) ∧ (0 ≤ x.2 ∧ x.2 ≤ 255) := by
  intro x hx
  unfold noteL at hx
  split at hx
  · simp at hx; subst hx; exact ⟨ha, hk⟩
  · cases hx
set_option maxHeartbeats 8000000 in
set_option maxRecDepth 100000 in
theorem finds36 {base cb mb : Nat} {c : CodeH} {v : Value} {L : List GLn} {x : GImg} (y : GLn) (w : World) (h : LookSt base cb mb c v L w) (hx : HeadOf x c) (hy : LnB y) :
    Calls Tryz.prog 24 #[.pointer (some ⟨cb, 0, none⟩), lineV y] w (FindsPost x.man L y w) := by
  have HJ := Lib.hid (fun W => jumps36 y W)
  have HG := Lib.hid (fun W => goesOn36 y W)
  have HA := Lib.hid (fun (a : Int) (ha : u32ok a) W (hb : Below w.heap.size w W) => has36 a W (h.keep hb) ha)
  have HD := Lib.hid (fun (n : Int) W (hb : Below w.heap.size w W) => denied36 n W (h.keep hb) hx)
  have HNO := Lib.hid (fun hi : y.is = false => findsL_no (m := x.man) (L := L) hi)
  have HYES := Lib.hid (fun hi : y.is = true => findsL_yes (m := x.man) (L := L) hi)
  have HYB := Lib.hid hy.2
  have HIM : Hid (u32ok y.ins.imm) := Lib.hid hy.1.2.2.2.2
  clear h hx hy
  have HS0 : Hid (FndSt w.heap.size (w.heap.size + 1) w.heap.size [] y w ((w.alloc (.cells (lineArr y) 60)).alloc (.cells #[.slice none 0 0] 30))) := Lib.hid (by
    refine ⟨.slice none 0 0, ⟨?_, World.ownsRow_nil _ _ _ _, by omega⟩, ?_, (alloc_old w _).alloc (by simp) _⟩
    · have := new_block (w.alloc (.cells (lineArr y) 60)) (.cells #[.slice none 0 0] 30)
      simpa using this
    · exact (Below.heap_alloc _ _ _ (by simp)).trans (new_block w _))
  unfold lineV at *
  generalize hjj : jumpsB y.ins = j1 at HJ HYES
  generalize hgg : goesB y.ins = j2 at HG HYES
  clear hjj hgg
  generalize hr : findsL x.man L y = res at HNO HYES
  have HR := Lib.hid hr; clear hr
  have HA1 := Lib.hid (HA.out y.ins.imm HIM.out)
  have HA2 := Lib.hid (HA.out (w32 (y.addr + 8)) (by unfold u32ok w32; omega))
  have HD1 := Lib.hid (HD.out y.ins.imm)
  clear HA HD
  generalize hasA L y.ins.imm = h1 at HA1 HYES
  generalize hasA L (w32 (y.addr + 8)) = h2 at HA2 HYES
  generalize deniedB x.man y.ins.imm = h3 at HD1 HYES
  obtain ⟨ya, ⟨io, id, ia, ib, im⟩, yi⟩ := y
  simp only [] at *
  have r1 : IntKind.u32.wrap (ya + 8) = w32 (ya + 8) := by rw [IntKind.wrap_u32]; rfl
  have r2 : (ya + 8) % 4294967296 = w32 (ya + 8) := rfl
  generalize hWA : w32 (ya + 8) = wa at r1 r2 HA2
  clear hWA
  have HEND : Hid (∀ (wx : World) (l : List Fd), l = res → l.length ≤ 4 → (∀ x ∈ l, (0 ≤ x.1 ∧ x.1 ≤ 4294967295) ∧ (0 ≤ x.2 ∧ x.2 ≤ 255)) → FndSt w.heap.size (w.heap.size + 1) w.heap.size l ⟨ya, ⟨io, id, ia, ib, im⟩, yi⟩ w wx →
      ∃ v, wx.cell? ⟨w.heap.size + 1, 0, none⟩ = some v ∧ (∃ p c, v = .slice p l.length c) ∧ wx.frozen? ⟨w.heap.size + 1, 0, none⟩ = false ∧ w.heap.size + 1 < wx.heap.size ∧ FindsPost x.man L ⟨ya, ⟨io, id, ia, ib, im⟩, yi⟩ w (.returned v) (wx.setCell ⟨w.heap.size + 1, 0, none⟩ v)) := fun wx l hl hn hb hst => by
    have hlt : w.heap.size + 1 < wx.heap.size := by obtain ⟨v', k1, -⟩ := hst; exact k1.lt
    obtain ⟨v, k1, k2, k3, k4, k5⟩ := hst.ret hb (by omega)
    refine ⟨v, k1, k5, k4, hlt, v, rfl, ?_, k3.setCell (by simp) _⟩
    rw [HR.out, ← hl]
    obtain ⟨v', q1, -⟩ := hst
    have e : v' = v := by have := Lib.cell_of_heap q1.box 0; rw [k1] at this; simpa using this.symm
    subst e
    have hown : (wx.setCell ⟨w.heap.size + 1, 0, none⟩ v').ownsRow w.heap.size 51 2 v' l.length (l.flatMap findCells) := own_congr q1.row fun g hg => Below.heap_setCell _ _ _ _ (fun e => q1.nev (by rw [hg, e]))
    exact find_back hown (by omega) hb
  generalize hlb : w.heap.size + 1 = lb at HS0 HEND
  go_enter Tryz.func24, Tryz.ntmps24
  go_upto_region 2 with fail
  generalize hW1 : ((w.alloc (.cells (lineArr ⟨ya, ⟨io, id, ia, ib, im⟩, yi⟩) 60)).alloc (.cells #[.slice none 0 0] 30)) = w1 at HS0
  unfold lineArr at hW1
  simp only [] at hW1
  rw [hW1]
  clear hW1
  have HLB := Lib.hid hlb; clear hlb
  obtain ⟨hyl, b0, b1, b2, b3, b4, b5, b6⟩ := HS0.out.cells
  have HB1 : Hid (Below w.heap.size w w1) := Lib.hid (by obtain ⟨_, _, _, k⟩ := HS0.out; exact k)
  have hbz1 : w.heap.size ≤ w1.heap.size := HB1.out.size
  simp only [] at b0 b1 b2 b3 b4 b5 b6
  cases yi with
  | false =>
    go_wp2_with fail
    refine (note_at HS0.out (by simp) hbz1 true 1 _ rfl).mono ?_
    rintro e w2 ⟨rfl, hst2⟩
    obtain ⟨vr, k1, ⟨pr, cr, rfl⟩, k2, k3, k4⟩ := HEND.out w2 _ (HNO.out (by simp)).symm (by have := noteL_len true ya 1; simp; omega) (by intro z hz; simp at hz; exact noteL_bd HYB.out (by omega) z hz) hst2
    have K4 := Lib.hid k4; clear k4
    go_wp2_with fail
    exact bodyPost_ret (v := .slice pr ([] ++ noteL true ya 1).length cr) (by simp [results, Tryz.results24, go_sem, k1]) rfl K4.out
  | true =>
    have HYY := Lib.hid (HYES.out (by simp)); clear HYES HNO
    go_upto_region 5 with fail
    go_cut [] (fun wx => FndSt w.heap.size lb w.heap.size ([] ++ noteL (j1 && !h1) ya 2) ⟨ya, ⟨io, id, ia, ib, im⟩, true⟩ w wx)
    case first =>
      go_wp2_with fail
      refine (HJ.out _).mono ?_
      rintro e w2 ⟨rfl, hB2⟩
      have HS2 := Lib.hid (HS0.out.keep hB2 hbz1)
      have HB2 := Lib.hid (HB1.out.trans (hB2.mono hbz1))
      replace b4 := cell_keep hB2 hyl b4
      clear hB2
      cases j1 with
      | false =>
        go_wp2_with fail
        refine (note_at HS2.out (by simp) HB2.out.size false 2 _ rfl).mono ?_
        rintro e w3 ⟨rfl, hst3⟩
        go_wp2
        go_meet
        exact hst3
      | true =>
        go_wp2_with fail
        refine (HA1.out _ HB2.out).mono ?_
        rintro e w3 ⟨rfl, hB3⟩
        have HS3 := Lib.hid (HS2.out.keep hB3 HB2.out.size)
        have HB3 := Lib.hid (HB2.out.trans (hB3.mono HB2.out.size))
        clear hB3
        go_wp2_with fail
        refine (note_at HS3.out (by simp) HB3.out.size (!h1) 2 _ rfl).mono ?_
        rintro e w4 ⟨rfl, hst4⟩
        go_wp2
        go_meet
        exact hst4
    case rest =>
      have HS5 := Lib.hid hcut; clear hcut
      clear b0 b1 b2 b3 b4 b5 b6 hyl HS0 HB1 hbz1
      obtain ⟨hyl, b0, b1, b2, b3, b4, b5, b6⟩ := HS5.out.cells
      have HB1 : Hid (Below w.heap.size w wc) := Lib.hid (by obtain ⟨_, _, _, k⟩ := HS5.out; exact k)
      have hbz1 : w.heap.size ≤ wc.heap.size := HB1.out.size
      simp only [] at b0 b1 b2 b3 b4 b5 b6
      have n1 : ([] ++ noteL (j1 && !h1) ya 2).length ≤ 1 := by have := noteL_len (j1 && !h1) ya 2; simp only [List.length_append, List.length_nil]; omega
      have n2 : (([] ++ noteL (j1 && !h1) ya 2) ++ noteL (j2 && !h2) ya 3).length ≤ 2 := by have := noteL_len (j2 && !h2) ya 3; rw [List.length_append]; omega
      have n3 : ((([] ++ noteL (j1 && !h1) ya 2) ++ noteL (j2 && !h2) ya 3) ++ noteL (decide (io = 50) && (decide (im < 1) || decide (10 < im))) ya 4).length ≤ 3 := by have := noteL_len (decide (io = 50) && (decide (im < 1) || decide (10 < im))) ya 4; rw [List.length_append]; omega
      have n4 : (((([] ++ noteL (j1 && !h1) ya 2) ++ noteL (j2 && !h2) ya 3) ++ noteL (decide (io = 50) && (decide (im < 1) || decide (10 < im))) ya 4) ++ noteL (decide (io = 50) && h3) ya 5).length ≤ 4 := by have := noteL_len (decide (io = 50) && h3) ya 5; rw [List.length_append]; omega
      have m1 : ∀ z ∈ ([] ++ noteL (j1 && !h1) ya 2), (0 ≤ z.1 ∧ z.1 ≤ 4294967295) ∧ (0 ≤ z.2 ∧ z.2 ≤ 255) := fun z hz => by
        rw [List.nil_append] at hz; exact noteL_bd HYB.out (by omega) z hz
      have m2 : ∀ z ∈ (([] ++ noteL (j1 && !h1) ya 2) ++ noteL (j2 && !h2) ya 3), (0 ≤ z.1 ∧ z.1 ≤ 4294967295) ∧ (0 ≤ z.2 ∧ z.2 ≤ 255) := fun z hz => by
        rcases List.mem_append.1 hz with h | h
        · exact m1 z h
        · exact noteL_bd HYB.out (by omega) z h
      have m4 : ∀ z ∈ (((([] ++ noteL (j1 && !h1) ya 2) ++ noteL (j2 && !h2) ya 3) ++ noteL (decide (io = 50) && (decide (im < 1) || decide (10 < im))) ya 4) ++ noteL (decide (io = 50) && h3) ya 5), (0 ≤ z.1 ∧ z.1 ≤ 4294967295) ∧ (0 ≤ z.2 ∧ z.2 ≤ 255) := fun z hz => by
        rcases List.mem_append.1 hz with h | h
        · rcases List.mem_append.1 h with h | h
          · exact m2 z h
          · exact noteL_bd HYB.out (by omega) z h
        · exact noteL_bd HYB.out (by omega) z h
      have HM2 := Lib.hid m2
      have HM4 := Lib.hid m4
      have HN1 := Lib.hid n1
      have HN2 := Lib.hid n2
      have HN3 := Lib.hid n3
      have HN4 := Lib.hid n4
      clear m1 m2 m4 n1 n2 n3 n4
      go_upto_region 6 with fail
      go_cut [] (fun wx => FndSt w.heap.size lb w.heap.size (([] ++ noteL (j1 && !h1) ya 2) ++ noteL (j2 && !h2) ya 3) ⟨ya, ⟨io, id, ia, ib, im⟩, true⟩ w wx)
      case first =>
        go_wp2_with fail
        refine (HG.out _).mono ?_
        rintro e w2 ⟨rfl, hB2⟩
        have HS2 := Lib.hid (HS5.out.keep hB2 hbz1)
        have HB2 := Lib.hid (HB1.out.trans (hB2.mono hbz1))
        replace b5 := cell_keep hB2 hyl b5
        clear hB2
        cases j2 with
        | false =>
          go_wp2_with fail
          refine (note_at HS2.out (by have := HN1.out; omega) HB2.out.size false 3 _ rfl).mono ?_
          rintro e w3 ⟨rfl, hst3⟩
          go_wp2
          go_meet
          exact hst3
        | true =>
          go_wp2_with fail
          refine (HA2.out _ HB2.out).mono ?_
          rintro e w3 ⟨rfl, hB3⟩
          have HS3 := Lib.hid (HS2.out.keep hB3 HB2.out.size)
          have HB3 := Lib.hid (HB2.out.trans (hB3.mono HB2.out.size))
          clear hB3
          go_wp2_with fail
          refine (note_at HS3.out (by have := HN1.out; omega) HB3.out.size (!h2) 3 _ rfl).mono ?_
          rintro e w4 ⟨rfl, hst4⟩
          go_wp2
          go_meet
          exact hst4
      case rest =>
        clear HS5
        have HS6 := Lib.hid hcut; clear hcut
        clear b0 b1 b2 b3 b4 b5 b6 hyl HB1 hbz1
        obtain ⟨hyl, b0, b1, b2, b3, b4, b5, b6⟩ := HS6.out.cells
        have HB1 : Hid (Below w.heap.size w wc) := Lib.hid (by obtain ⟨_, _, _, k⟩ := HS6.out; exact k)
        have hbz1 : w.heap.size ≤ wc.heap.size := HB1.out.size
        simp only [] at b0 b1 b2 b3 b4 b5 b6
        by_cases h50 : io = 50
        case neg =>
          have hio : (io == 50) = false := by simpa using h50
          obtain ⟨vr, k1, ⟨pr, cr, rfl⟩, k2, k3, k4⟩ := HEND.out wc (([] ++ noteL (j1 && !h1) ya 2) ++ noteL (j2 && !h2) ya 3) (by rw [HYY.out]; simp [noteL, h50]) (by have := HN2.out; omega) HM2.out HS6.out
          have K4 := Lib.hid k4; clear k4 h50
          clear HN2 HM2
          generalize (([] ++ noteL (j1 && !h1) ya 2) ++ noteL (j2 && !h2) ya 3) = lz at k1 K4
          go_wp2_with fail
          exact bodyPost_ret (v := .slice pr lz.length cr) (by simp [results, Tryz.results24, go_sem, k1]) rfl K4.out
        subst h50
        go_upto_region 8 with fail
        go_cut [] (fun wx => FndSt w.heap.size lb w.heap.size ((([] ++ noteL (j1 && !h1) ya 2) ++ noteL (j2 && !h2) ya 3) ++ noteL (decide ((50 : Int) = 50) && (decide (im < 1) || decide (10 < im))) ya 4) ⟨ya, ⟨50, id, ia, ib, im⟩, true⟩ w wx)
        case first =>
          have hcs : (decide (im < 1) = true ∧ im < 1) ∨ (decide (im < 1) = false ∧ ¬ im < 1 ∧ decide (10 < im) = true ∧ 10 < im) ∨ (decide (im < 1) = false ∧ ¬ im < 1 ∧ decide (10 < im) = false ∧ ¬ 10 < im) := by
            by_cases k1 : im < 1
            · exact .inl ⟨decide_eq_true k1, k1⟩
            · by_cases k2 : 10 < im
              · exact .inr (.inl ⟨decide_eq_false k1, k1, decide_eq_true k2, k2⟩)
              · exact .inr (.inr ⟨decide_eq_false k1, k1, decide_eq_false k2, k2⟩)
          rcases hcs with ⟨e1, e2⟩ | ⟨e1, e2, e3, e4⟩ | ⟨e1, e2, e3, e4⟩
          · have E1 := Lib.hid e1; clear e1
            go_wp2_with fail
            refine (note_at HS6.out (by have := HN2.out; omega) hbz1 true 4 _ rfl).mono ?_
            rintro e w3 ⟨rfl, hst3⟩
            go_wp2
            go_meet
            rw [E1.out]
            exact hst3
          · have E1 := Lib.hid e1; clear e1
            have E3 := Lib.hid e3; clear e3
            go_wp2_with fail
            refine (note_at HS6.out (by have := HN2.out; omega) hbz1 true 4 _ rfl).mono ?_
            rintro e w3 ⟨rfl, hst3⟩
            go_wp2
            go_meet
            rw [E1.out, E3.out]
            exact hst3
          · have E1 := Lib.hid e1; clear e1
            have E3 := Lib.hid e3; clear e3
            go_wp2_with fail
            refine (note_at HS6.out (by have := HN2.out; omega) hbz1 false 4 _ rfl).mono ?_
            rintro e w3 ⟨rfl, hst3⟩
            go_wp2
            go_meet
            rw [E1.out, E3.out]
            exact hst3
        case rest =>
          clear HS6
          have HS7 := Lib.hid hcut; clear hcut
          clear b0 b1 b2 b3 b4 b5 b6 hyl HB1 hbz1
          obtain ⟨hyl, b0, b1, b2, b3, b4, b5, b6⟩ := HS7.out.cells
          have HB1 : Hid (Below w.heap.size w wc) := Lib.hid (by obtain ⟨_, _, _, k⟩ := HS7.out; exact k)
          have hbz1 : w.heap.size ≤ wc.heap.size := HB1.out.size
          simp only [] at b0 b1 b2 b3 b4 b5 b6
          go_wp2_with fail
          refine (HD1.out _ HB1.out).mono ?_
          rintro e w2 ⟨rfl, rfl⟩
          go_wp2_with fail
          refine (note_at HS7.out (by have := HN3.out; omega) hbz1 h3 5 _ rfl).mono ?_
          rintro e w3 ⟨rfl, hst3⟩
          obtain ⟨vr, k1, ⟨pr, cr, rfl⟩, k2, k3, k4⟩ := HEND.out w3 (((([] ++ noteL (j1 && !h1) ya 2) ++ noteL (j2 && !h2) ya 3) ++ noteL (decide ((50 : Int) = 50) && (decide (im < 1) || decide (10 < im))) ya 4) ++ noteL (decide ((50 : Int) = 50) && h3) ya 5) (by rw [HYY.out]; simp) HN4.out HM4.out hst3
          have K4 := Lib.hid k4; clear k4
          generalize (((([] ++ noteL (j1 && !h1) ya 2) ++ noteL (j2 && !h2) ya 3) ++ noteL (decide ((50 : Int) = 50) && (decide (im < 1) || decide (10 < im))) ya 4) ++ noteL (decide ((50 : Int) = 50) && h3) ya 5) = lz at k1 K4
          go_wp2_with fail
          exact bodyPost_ret (v := .slice pr lz.length cr) (by simp [results, Tryz.results24, go_sem, k1]) rfl K4.out
end Go.Proofs.YtghopakbefageaaGreat
namespace Go.Proofs.YtghopakbefageaaGreat
open Go.RowKit Go.Maps
theorem insOf_B (s : List UInt8) : InsB (insOf s) := by
  unfold insOf decI
  split
  · exact rawB
  · unfold InsB ins0; simp
theorem lnAt_B {s : GSeg} {j : Nat} (h : 0 ≤ s.addr ∧ s.addr + 8 * (j : Int) ≤ 4294967295) : LnB (lnAt s j) := by
  refine ⟨?_, by rw [lnAt_addr]; omega, by rw [lnAt_addr]; omega⟩
  unfold lnAt
  rw [lnOf_eq]
  exact insOf_B _
def ImgPost (x : GImg) (w : World) (e : Ending) (w' : World) : Prop := ∃ v, e = .returned v ∧ RowAt 2 FindR w' v (imageL x) ∧ Below w.heap.size w w'
theorem head_of {x : GImg} {p1 p2 : Option Addr} {c1 c2 : Nat} {vs : Value} : HeadOf x ⟨x.man.pages, .slice p1 x.man.exts.length c1, .slice p2 x.man.ports.length c2, x.man.cons, x.entry, vs⟩ := ⟨rfl, rfl, ⟨_, _, rfl⟩, ⟨_, _, rfl⟩, rfl⟩
set_option maxHeartbeats 8000000 in
set_option maxRecDepth 100000 in
theorem audImage36 (x : GImg) (ve vp vs : Value) (w : World) (h : ImgAt w x ve vp vs) :
    Calls Tryz.prog 8 #[imgV x ve vp vs] w (ImgPost x w) := by
  have HLK : Hid (∀ W, Below w.heap.size w W → Calls Tryz.prog 23 #[imgV x ve vp vs] W (LookPost x ve vp vs W)) := fun W hW => look36 x ve vp vs W (h.keep hW)
  unfold imgV at *
  obtain ⟨⟨⟨p1, c1, _, _, rfl, -⟩, ⟨p2, c2, _, _, rfl, -⟩, -⟩, ⟨p3, c3, b3, o3, rfl, -, hmx3, hp3, hc3⟩, hen0, hen1⟩ := h
  have HC := Lib.hid hc3; clear hc3
  have HP := Lib.hid hp3; clear hp3
  have HB1 : Hid (Below w.heap.size w (w.alloc (.cells #[.int .u32 x.man.pages, .slice p1 x.man.exts.length c1, .slice p2 x.man.ports.length c2, .bool x.man.cons, .int .u32 x.entry, .slice p3 x.segs.length c3] 29))) := alloc_old w _
  go_enter Tryz.func8, Tryz.ntmps8
  go_wp2_with fail
  refine (HLK.out _ HB1.out).mono ?_
  rintro e w2 ⟨cb, mb, v, vs', rfl, hst, hvs, hB2⟩
  have HB2 : Hid (Below w.heap.size w w2) := HB1.out.trans (hB2.mono HB1.out.size)
  have HST := Lib.hid hst; clear hst
  have hbb : w.heap.size ≤ (w.alloc (.cells #[.int .u32 x.man.pages, .slice p1 x.man.exts.length c1, .slice p2 x.man.ports.length c2, .bool x.man.cons, .int .u32 x.entry, .slice p3 x.segs.length c3] 29)).heap.size := by simp
  generalize (w.alloc (.cells #[.int .u32 x.man.pages, .slice p1 x.man.exts.length c1, .slice p2 x.man.ports.length c2, .bool x.man.cons, .int .u32 x.entry, .slice p3 x.segs.length c3] 29)).heap.size = B1 at *
  clear HB1 hB2 HLK
  cases hk : imgOkB x with
  | false =>
    rw [hk] at hvs
    subst hvs
    obtain ⟨a5, -, -, -, -⟩ := HST.out.cells
    have HFN : Hid (ImgPost x w (.returned (.slice none 0 0)) w2) := Lib.hid ⟨_, rfl, by rw [imageL_no hk]; exact rowAt_nil, HB2.out⟩
    clear hk
    go_wp2_with fail
    go_loopw [2, 16] (fun v2 i wr => v2 = .slice none 0 0 ∧ i = .int .i64 0 ∧ wr = w2) (fun _ _ _ => 0)
    case atStart => exact ⟨rfl, rfl, rfl⟩
    case round =>
      obtain ⟨rfl, rfl, rfl⟩ := hrel
      go_wp2
      go_ret
      exact HFN.out
  | true =>
    rw [hk] at hvs
    subst hvs
    obtain ⟨a5, -, -, -, -⟩ := HST.out.cells
    have HIM := Lib.hid (imageL_yes hk)
    have hsg := (imgOk_parts hk).2.2.2.1
    have hn8 := (imgOk_parts hk).1
    have hn1 := (imgOk_parts hk).2.1
    have HSG := Lib.hid hsg; clear hsg
    have HK := Lib.hid hk; clear hk
    obtain rfl := HP.out (by omega)
    obtain ⟨iF, hi, hz0, hz1, hz2⟩ := info_parts info_find
    have HI := Lib.hid (And.intro hi (And.intro hz0 (And.intro hz1 hz2)))
    clear hi hz0 hz1 hz2
    have hcb : cb < w2.heap.size := HST.out.lt
    have hcbz : w.heap.size ≤ cb := by have := HST.out.cbl; omega
    go_wp2_with fail
    clear a5
    go_loopw [2, 16] (fun v2 v16 wr => ∃ k : Nat, v16 = .int .i64 k ∧ k ≤ x.segs.length ∧ wr.ownsRow w2.heap.size 51 2 v2 (fdSegs x.man (linesX x) (x.segs.take k)).length ((fdSegs x.man (linesX x) (x.segs.take k)).flatMap findCells) ∧ Below w2.heap.size w2 wr) (fun _ v16 _ => x.segs.length - (intOf v16).toNat)
    case atStart => exact ⟨0, by go_num, Nat.zero_le _, World.ownsRow_nil _ _ _ _, Below.refl _ _⟩
    case round =>
      obtain ⟨k, rfl, hk, hown, hB⟩ := hrel
      obtain ⟨pv, cv, rfl⟩ := own_shape hown
      have HOWN := Lib.hid hown; clear hown
      have HB := Lib.hid hB; clear hB
      have HBO : Hid (Below w.heap.size w wr) := HB2.out.trans (HB.out.mono HB2.out.size)
      have HSTr := Lib.hid (HST.out.keep HB.out)
      by_cases hlt : k < x.segs.length
      · obtain ⟨g0, g1, g2, g3, g4, g5, g6⟩ := segR_keeps _ _ _ _ _ HBO.out (HC.out k hlt)
        have HTK := Lib.hid (fdSegs_take (m := x.man) (L := linesX x) hlt)
        have HMEM := Lib.hid (fun (j : Nat) (h5 : x.segs[k].perm = 5) (hj : j < x.segs[k].bytes.size / 8) => lnAt_mem HK.out hlt h5 hj)
        have HLEN : Hid (∀ j, x.segs[k].perm = 5 → j ≤ x.segs[k].bytes.size / 8 → (fdSegs x.man (linesX x) (x.segs.take k) ++ fdTo x.man (linesX x) x.segs[k] j).length ≤ 600000) := Lib.hid (fun j h5 hj => by
          have q1 := fdSegs_len x.man (linesX x) (x.segs.take k)
          have q2 := flat_findsL_len x.man (linesX x) (linesTo x.segs[k] j)
          have q3 := code_len HSG.out hn8 hlt h5 hj
          rw [List.length_append] at q3 ⊢
          unfold fdTo
          have q4 : (x.segs.take k).length ≤ 8 := by rw [List.length_take]; omega
          omega)
        have HSP : Hid ((x.segs[k].perm = 1 ∨ x.segs[k].perm = 3 ∨ x.segs[k].perm = 5) ∧ 256 ≤ x.segs[k].addr ∧ x.segs[k].addr + x.segs[k].bytes.size ≤ 131072) := segsGo_each HSG.out hlt (by omega)
        have HUP := Lib.hid (linesX_up x)
        generalize hF : fdSegs x.man (linesX x) (x.segs.take k) = F at *
        have HF := Lib.hid hF; clear hF
        generalize x.segs[k] = s at *
        obtain ⟨xa, xp, xb⟩ := s
        simp only [] at *
        obtain ⟨hp, ha0, ha1⟩ := HSP.out
        have k1 : bits BinOp.and IntKind.u8 1 4 = 0 := by decide +kernel
        have k3 : bits BinOp.and IntKind.u8 3 4 = 0 := by decide +kernel
        have k5 : bits BinOp.and IntKind.u8 5 4 = 4 := by decide +kernel
        have hp' : (xp = 1 ∨ xp = 3) ∨ xp = 5 := by omega
        rcases hp' with hp2 | rfl
        · have HT2 : Hid (fdSegs x.man (linesX x) (x.segs.take (k + 1)) = F) := Lib.hid (by rw [HTK.out]; unfold fdSeg; rw [if_neg (show ¬ xp = 5 by omega)]; simp)
          clear HTK HMEM HLEN HSP hp
          rcases hp2 with rfl | rfl
          all_goals
            go_wp2
            go_roundw
            case rel => exact ⟨k + 1, by go_num, by omega, by rw [HT2.out]; exact HOWN.out.alloc _, HB.out.alloc HB.out.size _⟩
            case measure => simp [intOf]; omega
        · have HT2 : Hid (fdSegs x.man (linesX x) (x.segs.take (k + 1)) = F ++ (fdTo x.man (linesX x) ⟨xa, 5, xb⟩ (xb.size / 8) ++ restL ⟨xa, 5, xb⟩)) := Lib.hid (by rw [HTK.out]; unfold fdSeg; rw [if_pos rfl, fdTo_all])
          clear HTK HSP hp
          obtain ⟨N, hN⟩ : ∃ N, xb.size / 8 = N := ⟨_, rfl⟩
          rw [hN] at HT2 HMEM HLEN
          have hN1 : 8 * N ≤ xb.size := by omega
          have hN2 : xb.size < 8 * N + 8 := by omega
          have r1 : ((xb.size : Int)).tdiv 8 = (N : Int) := by rw [Int.tdiv_eq_ediv_of_nonneg (by omega)]; omega
          have r2 : (xb.size : Int) / 8 = (N : Int) := by omega
          have r3 : IntKind.i64.wrap (N : Int) = (N : Int) := IntWalk.i64_in _ (by omega)
          have r4 : IntKind.i64.wrap ((N : Int) * 8) = (N : Int) * 8 := IntWalk.i64_in _ (by omega)
          have HNN := Lib.hid hN; clear hN
          have HST1 := Lib.hid (HSTr.out.keep (alloc_old wr (.cells #[.int .u32 xa, .int .u8 5, .string xb] 45)))
          have HBW : Hid (Below w2.heap.size w2 (wr.alloc (.cells #[.int .u32 xa, .int .u8 5, .string xb] 45))) := HB.out.alloc HB.out.size _
          have HSX := Lib.hid (new_block wr (.cells #[.int .u32 xa, .int .u8 5, .string xb] 45))
          have HOW := Lib.hid (HOWN.out.alloc (.cells #[.int .u32 xa, .int .u8 5, .string xb] 45))
          obtain ⟨wo, rfl⟩ : ∃ wo : World, wo = wr := ⟨_, rfl⟩
          go_wp2_with fail
          generalize hsb : wo.heap.size = sb at HSX
          have HSB := Lib.hid hsb; clear hsb
          generalize wo.alloc (.cells #[.int .u32 xa, .int .u8 5, .string xb] 45) = w3 at *
          clear HOWN HB HBO g0 g1 g2 g3 HSTr r1 r2 r3 r4
          have hcb3 : cb < w3.heap.size := by have := HBW.out.size; omega
          go_loopw [2, 7] (fun v2 v7 wi => ∃ j : Nat, v7 = .int .i64 (8 * (j : Int)) ∧ j ≤ N ∧ wi.ownsRow w2.heap.size 51 2 v2 (F ++ fdTo x.man (linesX x) ⟨xa, 5, xb⟩ j).length ((F ++ fdTo x.man (linesX x) ⟨xa, 5, xb⟩ j).flatMap findCells) ∧ wi.heap[sb]? = some (.cells #[.int .u32 xa, .int .u8 5, .string xb] 45 (0, 0)) ∧ Below w2.heap.size w2 wi) (fun _ v7 _ => 1000000 - (intOf v7).toNat)
          case atStart => exact ⟨0, by go_num, Nat.zero_le _, by rw [show fdTo x.man (linesX x) ⟨xa, 5, xb⟩ 0 = [] from rfl, List.append_nil]; exact HOW.out, HSX.out, HBW.out⟩
          case round =>
            obtain ⟨j, rfl, hj, hown, hsx, hB⟩ := hrel
            obtain ⟨pq, cq, rfl⟩ := own_shape hown
            have HOQ := Lib.hid hown; clear hown
            have HSXQ := Lib.hid hsx; clear hsx
            have HBQ := Lib.hid hB; clear hB
            have HBQO : Hid (Below w.heap.size w wr) := HB2.out.trans (HBQ.out.mono HB2.out.size)
            have s0 := Lib.cell_of_heap HSXQ.out 0
            have s2 := Lib.cell_of_heap HSXQ.out 2
            have hsbl : sb < wr.heap.size := (Array.getElem?_eq_some_iff.1 HSXQ.out).1
            by_cases hjl : j < N
            · have hcond : 8 * (j : Int) < (N : Int) * 8 := by omega
              have HTS := Lib.hid (fdTo_succ x.man (linesX x) ⟨xa, 5, xb⟩ j)
              have HMJ := Lib.hid (HMEM.out j (by simp) hjl)
              have hlen := HLEN.out (j + 1) (by simp) (by omega)
              have HLB : Hid (LnB (lnAt ⟨xa, 5, xb⟩ j)) := lnAt_B (by simp only []; omega)
              have hla : (lnAt ⟨xa, 5, xb⟩ j).addr = xa + 8 * (j : Int) := lnAt_addr _ _
              have HLA := Lib.hid hla; clear hla
              rw [HTS.out, ← List.append_assoc] at hlen
              generalize hY : lnAt ⟨xa, 5, xb⟩ j = y at HTS HMJ HLB HLA hlen
              clear hY
              have hfl := findsL_len x.man (linesX x) y
              generalize hL : F ++ fdTo x.man (linesX x) ⟨xa, 5, xb⟩ j = LL at *
              have HL := Lib.hid hL; clear hL
              rw [List.length_append] at hlen
              have hlk : ∀ W : World, Below w2.heap.size w2 W → (Instr.lookup 55 (.map (some mb)) (.int .u32 (xa + 8 * (j : Int))) false).run Tryz.prog W = .ok (lineV y) W := fun W hW => by
                have h1 := (HST.out.keep hW).map.look (a := xa + 8 * (j : Int)) u32Keyed Tryz.underlying55 (zeroLine W) (by show u32ok _; unfold u32ok; omega)
                rw [linesF_get, ← HLA.out, findA_mem HUP.out HMJ.out] at h1
                rw [← HLA.out]; exact h1
              have HFC : Hid (∀ W, Below w2.heap.size w2 W → Calls Tryz.prog 24 #[.pointer (some ⟨cb, 0, none⟩), lineV y] W (FindsPost x.man (linesX x) y W)) := fun W hW => finds36 y W (HST.out.keep hW) head_of HLB.out
              have q3 : IntKind.u32.wrap (8 * (j : Int)) = 8 * (j : Int) := by rw [IntKind.wrap_u32]; omega
              have q4 : IntKind.u32.wrap (xa + 8 * (j : Int)) = xa + 8 * (j : Int) := by rw [IntKind.wrap_u32]; omega
              have q5 : 8 * (j : Int) % 4294967296 = 8 * (j : Int) := by omega
              have q6 : (xa + 8 * (j : Int)) % 4294967296 = xa + 8 * (j : Int) := by omega
              obtain ⟨S, hSd⟩ : ∃ S : World → Prop, ∀ w', S w' ↔ (Below w2.heap.size w2 w' ∧ w'.heap[sb]? = some (.cells #[.int .u32 xa, .int .u8 5, .string xb] 45 (0, 0))) := ⟨_, fun _ => Iff.rfl⟩
              have HSD := Lib.hid hSd; clear hSd
              have hS0 : S wr.drew := (HSD.out _).2 ⟨HBQ.out.drew, HSXQ.out⟩
              have a6 := HST.out.cells.2.1
              have c6 : ∀ z : HW S, z.u.cell? ⟨cb, 6, none⟩ = some (.map (some mb)) := fun z => cell_keep ((HSD.out _).1 z.h).1 hcb a6
              have cs : ∀ z : HW S, z.u.cell? ⟨sb, 0, none⟩ = some (.int .u32 xa) := fun z => Lib.cell_of_heap ((HSD.out _).1 z.h).2 0
              have hlk2 : ∀ z : HW S, (Instr.lookup 55 (.map (some mb)) (.int .u32 (xa + 8 * (j : Int))) false).run Tryz.prog z.u = .ok (lineV y) z.u := fun z => hlk z.u ((HSD.out _).1 z.h).1
              have HLK := Lib.hid hlk; clear hlk
              haveI : Nonempty (HW S) := ⟨⟨_, hS0⟩⟩
              go_wp2_with fail
              refine wp_region_marks S [.r, .r, .r, .r, .r, .r, .r, .r, .r, .r, .r, .r, .u, .u, .p] rfl (by kernel_rfl) hS0 ?_
              repeat (refine wpReads_step (fun K hK => ?_); go_simp; refine hK _ ?_; clear hK K)
              refine wpReads_nil ?_
              clear c6 cs hlk2
              refine wpTurns_step fun K hK => ?_
              refine step_call rfl 24 #[.tmp 35, .tmp 45] #[53, 60] rfl Tryz.func24 (by kernel_rfl) (by kernel_rfl) #[.pointer (some ⟨cb, 0, none⟩), lineV y] (by simp [Act.eval]) (HFC.out _ HBQ.out.drew) ?_
              rintro e w4 ⟨vf, rfl, hrow, hB4⟩
              have HB4 : Hid (Below w2.heap.size w2 w4) := HBQ.out.drew.trans (hB4.mono HBQ.out.size)
              have hs4 : w4.heap[sb]? = some (.cells #[.int .u32 xa, .int .u8 5, .string xb] 45 (0, 0)) := (hB4.block sb hsbl).trans HSXQ.out
              have HO4 := Lib.hid (ownsRow_below (w := wr.drew) hB4 HOQ.out.drew)
              refine ⟨_, rfl, hK _ _ ((HSD.out _).2 ⟨HB4.out, hs4⟩) ?_⟩
              clear hK K
              have HS4 := Lib.hid hs4; clear hs4 hB4
              simp only [Act.put, List.setIfInBounds_toArray, List.set_cons_zero, List.set_cons_succ]
              obtain ⟨pf, cf, bf, of, rfl, -, -, hpf, hcf⟩ := hrow
              have HPF := Lib.hid hpf; clear hpf
              have HCF := Lib.hid hcf; clear hcf
              refine wpTurns_step fun K hK => ?_
              refine step_append_src rfl (.tmp 34) (.tmp 46) 30 rfl w2.heap.size 51 iF _ 2 8 Tryz.underlying30 HI.out.1 HI.out.2.1 HI.out.2.2.1 HI.out.2.2.2 rfl (by decide) (.slice pq LL.length cq) LL.length (LL.flatMap findCells) (by simp [Act.eval]) HO4.out pf (findsL x.man (linesX x) y).length cf bf of ((findsL x.man (linesX x) y).flatMap findCells) (by simp [Act.eval]) HPF.out (flat_len find_len _) (fun _ => find_news HCF.out) find_one (by unfold maxLen; omega) (by omega) HB4.out.size ?_
              intro v5 w5 hown5 hgrow5
              have hs5 : w5.heap[sb]? = some (.cells #[.int .u32 xa, .int .u8 5, .string xb] 45 (0, 0)) := (hgrow5.block sb (by have := (Array.getElem?_eq_some_iff.1 HS4.out).1; exact this) (fun e => own_ne_box HO4.out HS4.out (by decide) e.symm)).trans HS4.out
              have HB5 : Hid (Below w2.heap.size w2 w5) := HB4.out.grown hgrow5 HB4.out.size (fun g hg => (HO4.out.lt g hg).1)
              refine hK _ _ ((HSD.out _).2 ⟨HB5.out, hs5⟩) ?_
              clear hK K
              have HS5 := Lib.hid hs5; clear hs5
              have HO5 : Hid (w5.ownsRow w2.heap.size 51 2 v5 (LL ++ findsL x.man (linesX x) y).length ((LL ++ findsL x.man (linesX x) y).flatMap findCells)) := Lib.hid (by rw [List.length_append, List.flatMap_append]; exact hown5)
              have HL5 : Hid (F ++ fdTo x.man (linesX x) ⟨xa, 5, xb⟩ (j + 1) = LL ++ findsL x.man (linesX x) y) := Lib.hid (by rw [HTS.out, ← List.append_assoc, HL.out])
              clear hown5 hgrow5 q3 q4 q5 q6
              simp only [Act.put, List.setIfInBounds_toArray, List.set_cons_zero, List.set_cons_succ]
              refine wpTurns_nil ?_
              simp only [pickP]
              go_wp2
              refine NoPanic.normal ?_
              go_wp2
              go_roundw
              case rel => exact ⟨j + 1, by go_num, by omega, by rw [HL5.out]; exact HO5.out, HS5.out, HB5.out⟩
              case measure => simp [intOf]; omega
            · obtain rfl : j = N := by omega
              have hcond : ¬ 8 * (j : Int) < (j : Int) * 8 := by omega
              have hlen := HLEN.out j (by simp) (Nat.le_refl _)
              by_cases hrs : xb.size % 8 = 0
              · have HRL : Hid (restL ⟨xa, 5, xb⟩ = []) := Lib.hid (by unfold restL; rw [if_pos hrs])
                have hcd : ¬ (j : Int) * 8 < (xb.size : Int) := by omega
                have HOR := Lib.hid HOQ.out
                have HTR : Hid (fdSegs x.man (linesX x) (x.segs.take (k + 1)) = F ++ fdTo x.man (linesX x) ⟨xa, 5, xb⟩ j) := Lib.hid (by rw [HT2.out, HRL.out, List.append_nil])
                clear hrs hlen
                generalize F ++ fdTo x.man (linesX x) ⟨xa, 5, xb⟩ j = LL at *
                go_wp2
                go_roundw
                case rel => exact ⟨k + 1, by go_num, by omega, by rw [HTR.out]; exact HOR.out, HBQ.out⟩
                case measure => simp [intOf]; omega
              · have hcd : (j : Int) * 8 < (xb.size : Int) := by omega
                have HRL : Hid (restL ⟨xa, 5, xb⟩ = [(xa + (j : Int) * 8, 1)]) := Lib.hid (by
                  unfold restL
                  rw [if_neg hrs]
                  have := HNN.out
                  simp only [List.cons.injEq, and_true, Prod.mk.injEq]
                  omega)
                have HTR : Hid (fdSegs x.man (linesX x) (x.segs.take (k + 1)) = (F ++ fdTo x.man (linesX x) ⟨xa, 5, xb⟩ j) ++ [(xa + (j : Int) * 8, 1)]) := Lib.hid (by rw [HT2.out, HRL.out, ← List.append_assoc])
                clear hrs
                generalize F ++ fdTo x.man (linesX x) ⟨xa, 5, xb⟩ j = LL at *
                have q3 : IntKind.u32.wrap ((j : Int) * 8) = (j : Int) * 8 := by rw [IntKind.wrap_u32]; omega
                have q4 : IntKind.u32.wrap (xa + (j : Int) * 8) = xa + (j : Int) * 8 := by rw [IntKind.wrap_u32]; omega
                have q5 : (j : Int) * 8 % 4294967296 = (j : Int) * 8 := by omega
                have q6 : (xa + (j : Int) * 8) % 4294967296 = xa + (j : Int) * 8 := by omega
                have HNEW : Hid (∀ i u, [Value.int .u32 (xa + (j : Int) * 8), Value.int .u8 1][i]? = some u → (wr.alloc (.cells #[.int .u32 (xa + (j : Int) * 8), .int .u8 1] 51)).cell? ((⟨wr.heap.size, 0, none⟩ : Addr).add i) = some u) := two_news8 (by simp [go_sem]) (by simp [go_sem])
                have hbz := HBQ.out.size
                go_wp2_with (at_builtin; refine wpList_append_own _ rfl _ _ 30 rfl w2.heap.size 51 iF (.agg #[.int .u32 0, .int .u8 0]) 2 8 Tryz.underlying30 HI.out.1 HI.out.2.1 HI.out.2.2.1 HI.out.2.2.2 rfl (by decide) _ _ _ rfl (HOQ.out.alloc _) ⟨wr.heap.size, 0, none⟩ 1 1 [.int .u32 (xa + (j : Int) * 8), .int .u8 1] rfl rfl HNEW.out two_one8 (by unfold maxLen; omega) (by omega) (by simp; omega) ?_)
                intro v7 w7 hown7 hgrow7 _
                have HO7 : Hid (w7.ownsRow w2.heap.size 51 2 v7 (LL ++ [(xa + (j : Int) * 8, (1 : Int))]).length ((LL ++ [(xa + (j : Int) * 8, (1 : Int))]).flatMap findCells)) := Lib.hid (by rw [List.length_append, List.flatMap_append]; exact hown7)
                have HB7 : Hid (Below w2.heap.size w2 w7) := (HBQ.out.alloc HBQ.out.size _).grown hgrow7 (by simp; omega) (fun g hg => (HOQ.out.lt g hg).1)
                clear hown7 hgrow7 q3 q4 q5 q6
                go_wp2
                go_roundw
                case rel => exact ⟨k + 1, by go_num, by omega, by rw [HTR.out]; exact HO7.out, HB7.out⟩
                case measure => simp [intOf]; omega
      · obtain rfl : k = x.segs.length := by omega
        have HOF := Lib.hid HOWN.out
        rw [List.take_length] at HOF
        have HFN : Hid (ImgPost x w (.returned (.slice pv (fdSegs x.man (linesX x) (x.segs.take x.segs.length)).length cv)) wr) := Lib.hid (by
          refine ⟨_, rfl, ?_, HBO.out⟩
          rw [List.take_length, HIM.out]
          have h1 := fdSegs_len x.man (linesX x) x.segs
          have h2 := codeLines_len x.segs 256 (by omega) HSG.out
          exact find_back HOF.out (by omega) (fdSegs_bd x.segs 256 (by omega) HSG.out))
        go_wp2
        go_ret
        exact HFN.out
end Go.Proofs.YtghopakbefageaaGreat
namespace Go.Proofs.YtghopakbefageaaGreat
open Go.RowKit Go.Maps
def NumsPost (l : List Int) (w : World) (e : Ending) (w' : World) : Prop := ∃ v, e = .returned v ∧ RowAt 1 NumR w' v l ∧ Below w.heap.size w w'
theorem linesX_B {x : GImg} {y : GLn} (h : y ∈ linesX x) : LnB y := by
  have hb := linesX_bd h
  rw [linesX_eq] at h
  split at h
  · obtain ⟨s, hs, hy⟩ := List.mem_flatMap.1 h
    obtain ⟨k, hk, rfl, ha⟩ := linesSeg_mem hy
    refine ⟨?_, by omega, by omega⟩
    unfold lnAt
    rw [lnOf_eq]
    exact insOf_B _
  · cases h
theorem sysL_take {L : List GLn} {k : Nat} (h : k < L.length) : sysL (L.take (k + 1)) = sysL (L.take k) ++ (if (L[k].is && decide (L[k].ins.op = 50)) = true then [L[k].ins.imm] else []) := by
  unfold sysL
  rw [List.take_succ_eq_append_getElem h, List.filter_append, List.map_append]
  congr 1
  rw [List.filter_cons]
  split
  · rfl
  · rfl
theorem sysL_len (L : List GLn) : (sysL L).length ≤ L.length := by
  unfold sysL; rw [List.length_map]; exact List.length_filter_le _ _
theorem sysL_bd {x : GImg} : ∀ n ∈ sysL (linesX x), 0 ≤ n ∧ n ≤ 4294967295 := by
  intro n hn
  unfold sysL at hn
  obtain ⟨y, hy, rfl⟩ := List.mem_map.1 hn
  exact (linesX_B (List.mem_filter.1 hy).1).1.2.2.2.2
theorem LookSt.at {base cb mb : Nat} {c : CodeH} {v : Value} {L : List GLn} {w : World} (h : LookSt base cb mb c v L w) (h0 : 0 < L.length) : ∃ g cap, v = .slice (some ⟨g, 0, none⟩) L.length cap ∧ g < w.heap.size ∧ ∀ k (hk : k < L.length), w.cell? ⟨g, k, none⟩ = some (.int .u32 L[k].addr) := by
  obtain ⟨g, cap, rfl, -, hg⟩ := World.ownsRow.form h.row h0
  refine ⟨g, cap, rfl, hg, fun k hk => ?_⟩
  have := World.ownsRow.cells h.row (g := g) rfl k (.int .u32 L[k].addr) (by simp [hk])
  rw [add_at] at this
  simpa using this
theorem LookSt.look {base cb mb : Nat} {c : CodeH} {v : Value} {x : GImg} {w : World} (h : LookSt base cb mb c v (linesX x) w) {y : GLn} (hy : y ∈ linesX x) :
    (Instr.lookup 55 (.map (some mb)) (.int .u32 y.addr) false).run Tryz.prog w = .ok (lineV y) w := by
  have hb := linesX_B hy
  have h1 := h.map.look (a := y.addr) u32Keyed Tryz.underlying55 (zeroLine w) hb.2
  rw [linesF_get, findA_mem (linesX_up x) hy] at h1
  exact h1
set_option maxHeartbeats 8000000 in
set_option maxRecDepth 100000 in
theorem audCalls36 (x : GImg) (ve vp vs : Value) (w : World) (h : ImgAt w x ve vp vs) :
    Calls Tryz.prog 11 #[imgV x ve vp vs] w (NumsPost (callsL x) w) := by
  have HLK : Hid (∀ W, Below w.heap.size w W → Calls Tryz.prog 23 #[imgV x ve vp vs] W (LookPost x ve vp vs W)) := fun W hW => look36 x ve vp vs W (h.keep hW)
  unfold imgV at *
  obtain ⟨⟨⟨p1, c1, _, _, rfl, -⟩, ⟨p2, c2, _, _, rfl, -⟩, -⟩, ⟨p3, c3, b3, o3, rfl, -, -, -, -⟩, -, -⟩ := h
  have HB1 : Hid (Below w.heap.size w (w.alloc (.cells #[.int .u32 x.man.pages, .slice p1 x.man.exts.length c1, .slice p2 x.man.ports.length c2, .bool x.man.cons, .int .u32 x.entry, .slice p3 x.segs.length c3] 29))) := alloc_old w _
  go_enter Tryz.func11, Tryz.ntmps11
  go_wp2_with fail
  refine (HLK.out _ HB1.out).mono ?_
  rintro e w2 ⟨cb, mb, v, vs', rfl, hst, -, hB2⟩
  have HB2 : Hid (Below w.heap.size w w2) := HB1.out.trans (hB2.mono HB1.out.size)
  obtain ⟨pa, ca, rfl⟩ := own_shape hst.row
  have HST := Lib.hid hst; clear hst
  have hLL := linesX_len x
  have HBD := Lib.hid (sysL_bd (x := x))
  have HDEF : Hid (callsL x = onceI (sortI (sysL (linesX x)))) := Lib.hid rfl
  obtain ⟨-, a6, a7, -, -⟩ := HST.out.cells
  have hcb : cb < w2.heap.size := HST.out.lt
  clear HB1 hB2 HLK
  obtain ⟨iN, hi, hz0, hz1, hz2⟩ := info_parts info_num
  have HI := Lib.hid (And.intro hi (And.intro hz0 (And.intro hz1 hz2)))
  clear hi hz0 hz1 hz2
  go_wp2_with fail
  go_loopw [2, 14] (fun v2 v14 wr => ∃ k : Nat, v14 = .int .i64 k ∧ k ≤ (linesX x).length ∧ wr.ownsRow w2.heap.size 22 1 v2 (sysL ((linesX x).take k)).length ((sysL ((linesX x).take k)).map (Value.int .u32)) ∧ Below w2.heap.size w2 wr) (fun _ v14 _ => (linesX x).length - (intOf v14).toNat)
  case atStart => exact ⟨0, by go_num, Nat.zero_le _, World.ownsRow_nil _ _ _ _, Below.refl _ _⟩
  case round =>
    obtain ⟨k, rfl, hk, hown, hB⟩ := hrel
    obtain ⟨pv, cv, rfl⟩ := own_shape hown
    have HOWN := Lib.hid hown; clear hown
    have HB := Lib.hid hB; clear hB
    have HSTr := Lib.hid (HST.out.keep HB.out)
    by_cases hlt : k < (linesX x).length
    · obtain ⟨g, cap, hv, hgl, hcell⟩ := HSTr.out.at (by omega)
      cases hv
      have c0 := hcell k hlt
      have HMEM := Lib.hid (List.getElem_mem hlt)
      have HTK := Lib.hid (sysL_take hlt)
      have hln : (sysL ((linesX x).take (k + 1))).length ≤ 131072 := Nat.le_trans (sysL_len _) (by rw [List.length_take]; omega)
      have HL0 := Lib.hid (HSTr.out.look HMEM.out)
      have hb6 := cell_keep HB.out hcb a6
      rw [HTK.out, List.length_append] at hln
      clear hcell
      generalize (linesX x)[k] = y at c0 HMEM HTK HL0 hln
      obtain ⟨ya, ⟨io, id, ia, ib, im⟩, yi⟩ := y
      unfold lineV at HL0
      simp only [] at c0 HTK HL0 hln
      have hlk := HL0.out
      generalize hF : sysL ((linesX x).take k) = F at *
      have HF := Lib.hid hF; clear hF
      have hcs : (yi = false ∧ True) ∨ (yi = true ∧ (io == 50) = false ∧ Hid (¬ io = 50)) ∨ (yi = true ∧ io = 50) := by
        cases yi with
        | false => exact .inl ⟨rfl, trivial⟩
        | true =>
          by_cases h5 : io = 50
          · exact .inr (.inr ⟨rfl, h5⟩)
          · exact .inr (.inl ⟨rfl, by simpa using h5, h5⟩)
      rcases hcs with ⟨rfl, -⟩ | ⟨rfl, h5, H5⟩ | ⟨rfl, rfl⟩
      · have HT2 : Hid (sysL ((linesX x).take (k + 1)) = F) := Lib.hid (by rw [HTK.out]; simp)
        clear HTK
        go_wp2
        go_roundw
        case rel => exact ⟨k + 1, by go_num, by omega, by rw [HT2.out]; exact HOWN.out.alloc _, HB.out.alloc HB.out.size _⟩
        case measure => simp [intOf]; omega
      · have HT2 : Hid (sysL ((linesX x).take (k + 1)) = F) := Lib.hid (by rw [HTK.out]; simp [H5.out])
        clear HTK
        go_wp2
        go_roundw
        case rel => exact ⟨k + 1, by go_num, by omega, by rw [HT2.out]; exact HOWN.out.alloc _, HB.out.alloc HB.out.size _⟩
        case measure => simp [intOf]; omega
      · have HT2 : Hid (sysL ((linesX x).take (k + 1)) = F ++ [im]) := Lib.hid (by rw [HTK.out]; simp)
        clear HTK
        simp at hln
        have hbz := HB.out.size
        go_wp2_with (at_builtin; refine wpList_append_own _ rfl _ _ 38 rfl w2.heap.size 22 iN (.int .u32 0) 1 4 Tryz.underlying38 HI.out.1 HI.out.2.1 HI.out.2.2.1 HI.out.2.2.2 rfl (by decide) _ _ _ rfl ((HOWN.out.alloc _).alloc _) ⟨wr.heap.size + 1, 0, none⟩ 1 1 [.int .u32 im] rfl rfl (one_news (by simp [go_sem])) one_u32 (by unfold maxLen; omega) (by omega) (by simp; omega) ?_)
        intro v7 w7 hown7 hgrow7 _
        have HO7 : Hid (w7.ownsRow w2.heap.size 22 1 v7 (F ++ [im]).length ((F ++ [im]).map (Value.int .u32))) := Lib.hid (by rw [List.length_append, List.map_append]; exact hown7)
        have HB7 : Hid (Below w2.heap.size w2 w7) := ((HB.out.alloc HB.out.size _).alloc (by simp; omega) _).grown hgrow7 (by simp; omega) (fun g hg => (HOWN.out.lt g hg).1)
        clear hown7 hgrow7 hlk
        go_wp2
        go_roundw
        case rel => exact ⟨k + 1, by go_num, by omega, by rw [HT2.out]; exact HO7.out, HB7.out⟩
        case measure => simp [intOf]; omega
    · obtain rfl : k = (linesX x).length := by omega
      have HOF := Lib.hid HOWN.out
      rw [List.take_length] at HOF
      rw [show (sysL ((linesX x).take (linesX x).length)).length = (sysL (linesX x)).length by rw [List.take_length]]
      have hsl := sysL_len (linesX x)
      have HSORT := Lib.hid (s32_all (sysL (linesX x)) w2.heap.size _ wr HOF.out (by omega))
      clear a6 a7
      go_wp2_with fail
      refine HSORT.out.mono ?_
      rintro e w3 ⟨rfl, hU3, hk3⟩
      have HC := Lib.hid (compact32_row w2.heap.size _ (sortI (sysL (linesX x))) w3 hU3 (by rw [sortI_length]; omega))
      have HB3 : Hid (Below w2.heap.size w2 w3) := HB.out.trans (hk3.below HB.out.size (fun g hg hs => by have := (HOF.out.lt g hs).1; omega))
      clear hk3
      have HU3 := Lib.hid hU3; clear hU3
      go_wp2_with fail
      refine HC.out.mono ?_
      rintro e w4 ⟨v4, rfl, hU4, hv4, hk4⟩
      have HB4 : Hid (Below w2.heap.size w2 w4) := HB3.out.trans (hk4.below HB3.out.size (fun g hg hs => by have := (HU3.out.lt g hs).1; omega))
      have HFN : Hid (NumsPost (callsL x) w (.returned v4) w4) := Lib.hid (by
        refine ⟨_, rfl, ?_, HB2.out.trans (HB4.out.mono HB2.out.size)⟩
        rw [HDEF.out]
        have hle : (onceI (sortI (sysL (linesX x)))).length ≤ 131072 := by
          have h1 := once_len (sortI (sysL (linesX x)))
          rw [sortI_length] at h1
          omega
        exact num_back hU4 (by omega) (fun n hn => HBD.out n ((sortI_mem _ _).1 (once_mem _ n hn))))
      clear hk4 hv4 hU4
      obtain ⟨p4, n4, c4, rfl⟩ : ∃ p n c, v4 = .slice p n c := by
        obtain ⟨v', hv', ⟨p, c, _, _, hs, -⟩, -⟩ := HFN.out
        cases hv'
        exact ⟨_, _, _, hs⟩
      go_wp2
      go_ret
      exact HFN.out
end Go.Proofs.YtghopakbefageaaGreat
