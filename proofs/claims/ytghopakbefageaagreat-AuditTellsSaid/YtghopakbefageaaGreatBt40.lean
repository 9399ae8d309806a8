/- The walk of ref36's finds. The walk of ref36's rest. The walk of ref36.Image. -/
import Derived.Test.YtghopakbefageaaGreatBt37
import Derived.Test.YtghopakbefageaaGreatBt33
import Derived.Test.YtghopakbefageaaGreatBt24
import Derived.Test.YtghopakbefageaaGreatBt14
import Derived.BigQuiet
namespace Go.Proofs.YtghopakbefageaaGreat
open Go.RowKit Go.Maps
/-- what finds keeps while it gathers -/
structure RfSt (w0 : World) (lb : Nat) (F : List Fd) (y : GLn) (im : Array Value) (v : Value) (w : World) : Prop where
  own : w.ownsRow w0.heap.size 51 2 v F.length (F.flatMap findCells)
  ln : w.heap[lb]? = some (.cells (lnCells y).toArray 64 (0, 0))
  im : w.heap[w0.heap.size]? = some (.cells im 29 (0, 0))
  bl : Below w0.heap.size w0 w
section
variable {w0 : World} {lb : Nat} {F : List Fd} {y : GLn} {im : Array Value} {v : Value} {w : World}
theorem RfSt.keep (h : RfSt w0 lb F y im v w) {w' : World} (hb : Below w.heap.size w w') : RfSt w0 lb F y im v w' :=
  ⟨ownsRow_below hb h.own, (hb.block _ (Array.getElem?_eq_some_iff.1 h.ln).1).trans h.ln, (hb.block _ (Array.getElem?_eq_some_iff.1 h.im).1).trans h.im, h.bl.trans (hb.mono h.bl.size)⟩
theorem RfSt.push (h : RfSt w0 lb F y im v w) {f : Fd} {w5 : World} {v' : Value} {X : Obj} (hown : w5.ownsRow w0.heap.size 51 2 v' (F.length + 1) (F.flatMap findCells ++ [.int .u32 f.1, .int .u8 f.2])) (hg5 : (w.alloc X).grownBy w5 v.ownBlock) : RfSt w0 lb (F ++ [f]) y im v' w5 := by
  have hl := (Array.getElem?_eq_some_iff.1 h.ln).1
  have hi := (Array.getElem?_eq_some_iff.1 h.im).1
  refine ⟨?_, ?_, ?_, ?_⟩
  · rw [List.length_append, List.flatMap_append]; simpa [findCells] using hown
  · exact (hg5.block lb (by simp; omega) (fun e => own_ne_box h.own h.ln (by decide) e.symm)).trans ((Below.heap_alloc w _ lb hl).trans h.ln)
  · exact (hg5.block _ (by simp; omega) (fun e => own_ne_box h.own h.im (by decide) e.symm)).trans ((Below.heap_alloc w _ _ hi).trans h.im)
  · exact (h.bl.alloc h.bl.size _).grown hg5 (by have := h.bl.size; simp; omega) (fun k hk => (h.own.lt k hk).1)
theorem RfSt.cells (h : RfSt w0 lb F y im v w) : lb < w.heap.size ∧ w.cell? ⟨lb, 0, none⟩ = some (.int .u32 y.addr) ∧ w.cell? ⟨lb, 1, none⟩ = some (.int .u8 y.ins.op) ∧ w.cell? ⟨lb, 2, none⟩ = some (.int .u8 y.ins.d) ∧ w.cell? ⟨lb, 3, none⟩ = some (.int .u8 y.ins.a) ∧ w.cell? ⟨lb, 4, none⟩ = some (.int .u8 y.ins.b) ∧ w.cell? ⟨lb, 5, none⟩ = some (.int .u32 y.ins.imm) ∧ w.cell? ⟨lb, 6, none⟩ = some (.bool y.is) :=
  ⟨(Array.getElem?_eq_some_iff.1 h.ln).1, Lib.cell_of_heap h.ln 0, Lib.cell_of_heap h.ln 1, Lib.cell_of_heap h.ln 2, Lib.cell_of_heap h.ln 3, Lib.cell_of_heap h.ln 4, Lib.cell_of_heap h.ln 5, Lib.cell_of_heap h.ln 6⟩
end
set_option maxHeartbeats 8000000 in
set_option maxRecDepth 100000 in
theorem rfinds36 (x : GImg) (ve vp vs vl : Value) (k : Nat) (w : World) (h : ImgAt w x ve vp vs) (hl : RowAt 7 LnR w vl (linesX x)) (hk : k < (linesX x).length) :
    Calls Tryz.prog 26 #[imgV x ve vp vs, vl, .int .i64 k] w (FindsPost x.man (linesX x) (linesX x)[k] w) := by
  have HJ := Lib.hid (fun W => rjumps36 (linesX x)[k].ins W)
  have HG := Lib.hid (fun W => rgoesOn36 (linesX x)[k].ins W)
  have HA := Lib.hid (fun (a : Int) W (hb : Below w.heap.size w W) => (at36 vl (linesX x) a W (hl.keep lnR_keeps hb) (linesX_up x)).mono fun e w' (hp : (∃ r, e = .returned (.int .i64 r) ∧ AtIs (linesX x) a r) ∧ w' = W) => (show (∃ r, e = .returned (.int .i64 r) ∧ decide (r < 0) = !hasA (linesX x) a) ∧ w' = W from ⟨by obtain ⟨⟨r, h1, h2⟩, -⟩ := hp; exact ⟨r, h1, h2.neg⟩, hp.2⟩))
  unfold imgV at *
  obtain ⟨⟨⟨p1', c1', _, _, rfl, -⟩, ⟨p2', c2', _, _, rfl, -⟩, -⟩, ⟨p3', c3', _, _, rfl, -⟩, -⟩ := h
  have HD := Lib.hid (fun W => rdenied36 x.man p1' p2' c1' c2' (linesX x)[k].ins.imm W)
  have HNO := Lib.hid (fun hi : (linesX x)[k].is = false => findsL_no (m := x.man) (L := linesX x) hi)
  have HYES := Lib.hid (fun hi : (linesX x)[k].is = true => findsL_yes (m := x.man) (L := linesX x) hi)
  have HYB : Hid (LnB (linesX x)[k]) := Lib.hid (linesX_B (List.getElem_mem hk))
  obtain ⟨pl, cl, bl, ol, rfl, hlc, hlm, hlp, hlr⟩ := hl
  obtain rfl := hlp (by omega)
  obtain ⟨-, g0, g1, g2, g3, g4, g5, g6, -⟩ := lnR_keeps _ _ _ _ _ (alloc_old w (.cells #[.int .u32 x.man.pages, .slice p1' x.man.exts.length c1', .slice p2' x.man.ports.length c2', .bool x.man.cons, .int .u32 x.entry, .slice p3' x.segs.length c3'] 29)) (hlr k hk)
  clear hlr hlp
  have HRB : Hid (∀ z ∈ findsL x.man (linesX x) (linesX x)[k], (0 ≤ z.1 ∧ z.1 ≤ 4294967295) ∧ (0 ≤ z.2 ∧ z.2 ≤ 255)) := Lib.hid (findsL_bd HYB.out.2)
  unfold FindsPost
  generalize findsL x.man (linesX x) (linesX x)[k] = res at *
  generalize hjj : jumpsB (linesX x)[k].ins = j1 at HJ HYES
  generalize hgg : goesB (linesX x)[k].ins = j2 at HG HYES
  clear hjj hgg
  have HA1 := Lib.hid (HA.out (linesX x)[k].ins.imm)
  have HA2 := Lib.hid (HA.out (w32 ((linesX x)[k].addr + 8)))
  clear HA
  generalize hasA (linesX x) (linesX x)[k].ins.imm = h1 at HA1 HYES
  generalize hasA (linesX x) (w32 ((linesX x)[k].addr + 8)) = h2 at HA2 HYES
  generalize deniedB x.man (linesX x)[k].ins.imm = h3 at HD HYES
  have kk1 : (0 : Int) ≤ (k : Int) := by omega
  have kk2 : (k : Int) < ((linesX x).length : Int) := by omega
  generalize (linesX x)[k] = y at *
  obtain ⟨ya, ⟨io, id, ia, ib, im⟩, yi⟩ := y
  unfold insV at HJ HG
  simp only [] at *
  have r1 : IntKind.u32.wrap (ya + 8) = w32 (ya + 8) := by rw [IntKind.wrap_u32]; rfl
  have r2 : (ya + 8) % 4294967296 = w32 (ya + 8) := rfl
  generalize hWA : w32 (ya + 8) = wa at r1 r2 HA2
  clear hWA
  obtain ⟨iF, hi, hz0, hz1, hz2⟩ := info_parts info_find
  have HI := Lib.hid (And.intro hi (And.intro hz0 (And.intro hz1 hz2)))
  clear hi hz0 hz1 hz2
  obtain ⟨IM, hIM⟩ : ∃ IM : Array Value, IM = #[.int .u32 x.man.pages, .slice p1' x.man.exts.length c1', .slice p2' x.man.ports.length c2', .bool x.man.cons, .int .u32 x.entry, .slice p3' x.segs.length c3'] := ⟨_, rfl⟩
  have HS0 : Hid (RfSt w (w.heap.size + 1) [] ⟨ya, ⟨io, id, ia, ib, im⟩, yi⟩ IM (.slice none 0 0) ((w.alloc (.cells IM 29)).alloc (.cells (lnCells ⟨ya, ⟨io, id, ia, ib, im⟩, yi⟩).toArray 64))) := Lib.hid (by
    refine ⟨World.ownsRow_nil _ _ _ _, ?_, ?_, (alloc_old w _).alloc (by simp) _⟩
    · have := new_block (w.alloc (.cells IM 29)) (.cells (lnCells ⟨ya, ⟨io, id, ia, ib, im⟩, yi⟩).toArray 64)
      simpa using this
    · exact (Below.heap_alloc _ _ _ (by simp)).trans (new_block w _))
  have HIM := Lib.hid hIM; clear hIM
  go_enter Tryz.func26, Tryz.ntmps26
  go_upto_region 2 with fail
  rw [HIM.out] at HS0
  generalize hW1 : ((w.alloc (.cells #[.int .u32 x.man.pages, .slice p1' x.man.exts.length c1', .slice p2' x.man.ports.length c2', .bool x.man.cons, .int .u32 x.entry, .slice p3' x.segs.length c3'] 29)).alloc (.cells (lnCells ⟨ya, ⟨io, id, ia, ib, im⟩, yi⟩).toArray 64)) = w1 at HS0
  unfold lnCells at hW1
  simp only [] at hW1
  rw [hW1]
  rw [← HIM.out] at HS0
  clear hW1 g0 g1 g2 g3 g4 g5 g6
  obtain ⟨hyl, b0, b1, b2, b3, b4, b5, b6⟩ := HS0.out.cells
  simp only [] at b0 b1 b2 b3 b4 b5 b6
  have hG0 : ([] : List Fd).length ≤ 0 := by simp
  cases yi with
  | false =>
    have hr1 := HNO.out (by simp)
    have HRR : Hid (res = [(ya, 1)]) := Lib.hid (by rw [hr1]; rfl)
    clear hr1 HNO HYES
    have HFN : Hid (∃ v, (Ending.returned (.slice (some ⟨w1.heap.size, 0, none⟩) 1 1)) = .returned v ∧ RowAt 2 FindR (w1.alloc (.cells #[.int .u32 ya, .int .u8 1] 51)) v res ∧ Below w.heap.size w (w1.alloc (.cells #[.int .u32 ya, .int .u8 1] 51))) := Lib.hid (by
      refine ⟨_, rfl, ?_, HS0.out.bl.alloc HS0.out.bl.size _⟩
      rw [HRR.out]
      exact find_back (base := w1.heap.size) (World.ownsRow_lit w1 #[.int .u32 ya, .int .u8 1] 1 (Nat.le_refl _) (by unfold maxLen; omega) rfl) (by simp) (fun z hz => by simp at hz; subst hz; exact ⟨HYB.out.2, by omega, by omega⟩))
    go_wp2
    go_ret
    exact HFN.out
  | true =>
    have HYY := HYES.out (by simp); clear HYES HNO
    go_upto_region 5 with fail
    go_cut [30] (fun vc wx => vc = .bool (j1 && !h1) ∧ RfSt w (w.heap.size + 1) ([] : List Fd) ⟨ya, ⟨io, id, ia, ib, im⟩, true⟩ IM (.slice none 0 0) wx)
    case first =>
      go_wp2_with fail
      refine (HJ.out _).mono ?_
      rintro e wa0 ⟨rfl, hB⟩
      have HA := Lib.hid (HS0.out.keep hB)
      clear hB
      clear b0 b1 b2 b3 b4 b5 b6 hyl
      obtain ⟨hyl, b0, b1, b2, b3, b4, b5, b6⟩ := HA.out.cells
      simp only [] at b0 b1 b2 b3 b4 b5 b6
      cases j1 with
      | false =>
        go_wp2
        go_meet
        exact ⟨by simp, HA.out⟩
      | true =>
        have HAT := Lib.hid (HA1.out wa0 HA.out.bl)
        go_wp2_with fail
        refine HAT.out.mono ?_
        rintro e wb ⟨⟨r, rfl, hr⟩, rfl⟩
        have HR0 := Lib.hid hr
        clear hr
        go_wp2
        go_meet
        exact ⟨by rw [HR0.out]; simp, HA.out⟩
    case rest =>
      obtain ⟨rfl, hT⟩ := hcut
      have HT0 := Lib.hid hT; clear hT
      clear b0 b1 b2 b3 b4 b5 b6 hyl
      obtain ⟨hyl, b0, b1, b2, b3, b4, b5, b6⟩ := HT0.out.cells
      simp only [] at b0 b1 b2 b3 b4 b5 b6
      generalize hq0 : (j1 && !h1) = q0 at HYY
      clear hq0
      go_upto_if 30 with fail
      go_cut [8] (fun v8 wx => ∃ G, G = [] ++ noteL q0 ya 2 ∧ G.length ≤ 1 ∧ RfSt w (w.heap.size + 1) G ⟨ya, ⟨io, id, ia, ib, im⟩, true⟩ IM v8 wx)
      case first =>
        cases q0 with
        | false =>
          go_wp2
          go_meet
          exact ⟨_, by unfold noteL; rw [if_neg (by simp), List.append_nil], by simp, HT0.out⟩
        | true =>
          go_wp2_with (at_builtin; refine wpList_append_own _ rfl _ _ 30 rfl w.heap.size 51 iF _ 2 8 Tryz.underlying30 HI.out.1 HI.out.2.1 HI.out.2.2.1 HI.out.2.2.2 rfl (by decide) _ _ _ rfl (HT0.out.own.alloc _) ⟨wc.heap.size, 0, none⟩ 1 1 [.int .u32 ya, .int .u8 2] rfl rfl (two_news8 (by simp [go_sem]) (by simp [go_sem])) two_one8 (by unfold maxLen; omega) (by omega) (by have := HT0.out.bl.size; simp; omega) ?_; intro v5 w5 hown5 hgrow5 _; have HN := Lib.hid (HT0.out.push (f := (ya, 2)) hown5 hgrow5); clear hown5 hgrow5)
          go_meet
          exact ⟨_, rfl, by simp [noteL], HN.out⟩
      case rest =>
        obtain ⟨G0, hG0, hl0, hS⟩ := hcut
        have HG0 := Lib.hid hG0; clear hG0
        have HS1 := Lib.hid hS; clear hS
        obtain ⟨p0, c0, rfl⟩ := own_shape HS1.out.own
        rw [← HG0.out] at HYY
        clear b0 b1 b2 b3 b4 b5 b6 hyl
        obtain ⟨hyl, b0, b1, b2, b3, b4, b5, b6⟩ := HS1.out.cells
        simp only [] at b0 b1 b2 b3 b4 b5 b6
        go_upto_region 7 with fail
        go_cut [47] (fun vc wx => vc = .bool (j2 && !h2) ∧ RfSt w (w.heap.size + 1) G0 ⟨ya, ⟨io, id, ia, ib, im⟩, true⟩ IM (.slice p0 G0.length c0) wx)
        case first =>
          go_wp2_with fail
          refine (HG.out _).mono ?_
          rintro e wa1 ⟨rfl, hB⟩
          have HA := Lib.hid (HS1.out.keep hB)
          clear hB
          clear b0 b1 b2 b3 b4 b5 b6 hyl
          obtain ⟨hyl, b0, b1, b2, b3, b4, b5, b6⟩ := HA.out.cells
          simp only [] at b0 b1 b2 b3 b4 b5 b6
          cases j2 with
          | false =>
            go_wp2
            go_meet
            exact ⟨by simp, HA.out⟩
          | true =>
            have HAT := Lib.hid (HA2.out wa1 HA.out.bl)
            go_wp2_with fail
            refine HAT.out.mono ?_
            rintro e wb ⟨⟨r, rfl, hr⟩, rfl⟩
            have HR0 := Lib.hid hr
            clear hr
            go_wp2
            go_meet
            exact ⟨by rw [HR0.out]; simp, HA.out⟩
        case rest =>
          obtain ⟨rfl, hT⟩ := hcut
          have HT1 := Lib.hid hT; clear hT
          clear b0 b1 b2 b3 b4 b5 b6 hyl
          obtain ⟨hyl, b0, b1, b2, b3, b4, b5, b6⟩ := HT1.out.cells
          simp only [] at b0 b1 b2 b3 b4 b5 b6
          generalize hq1 : (j2 && !h2) = q1 at HYY
          clear hq1
          go_upto_if 47 with fail
          go_cut [8] (fun v8 wx => ∃ G, G = G0 ++ noteL q1 ya 3 ∧ G.length ≤ 2 ∧ RfSt w (w.heap.size + 1) G ⟨ya, ⟨io, id, ia, ib, im⟩, true⟩ IM v8 wx)
          case first =>
            cases q1 with
            | false =>
              go_wp2
              go_meet
              exact ⟨_, by unfold noteL; rw [if_neg (by simp), List.append_nil], by omega, HT1.out⟩
            | true =>
              go_wp2_with (at_builtin; refine wpList_append_own _ rfl _ _ 30 rfl w.heap.size 51 iF _ 2 8 Tryz.underlying30 HI.out.1 HI.out.2.1 HI.out.2.2.1 HI.out.2.2.2 rfl (by decide) _ _ _ rfl (HT1.out.own.alloc _) ⟨wc.heap.size, 0, none⟩ 1 1 [.int .u32 ya, .int .u8 3] rfl rfl (two_news8 (by simp [go_sem]) (by simp [go_sem])) two_one8 (by unfold maxLen; omega) (by omega) (by have := HT1.out.bl.size; simp; omega) ?_; intro v5 w5 hown5 hgrow5 _; have HN := Lib.hid (HT1.out.push (f := (ya, 3)) hown5 hgrow5); clear hown5 hgrow5)
              go_meet
              exact ⟨_, rfl, by simp [noteL]; omega, HN.out⟩
          case rest =>
            obtain ⟨G1, hG1, hl1, hS⟩ := hcut
            have HG1 := Lib.hid hG1; clear hG1
            have HS2 := Lib.hid hS; clear hS
            obtain ⟨p1, c1, rfl⟩ := own_shape HS2.out.own
            rw [← HG1.out] at HYY
            clear b0 b1 b2 b3 b4 b5 b6 hyl
            obtain ⟨hyl, b0, b1, b2, b3, b4, b5, b6⟩ := HS2.out.cells
            simp only [] at b0 b1 b2 b3 b4 b5 b6
            go_upto_region 9 with fail
            go_cut [69] (fun vc wx => vc = .bool (decide (io = 50) && (decide (im < 1) || decide (10 < im))) ∧ RfSt w (w.heap.size + 1) G1 ⟨ya, ⟨io, id, ia, ib, im⟩, true⟩ IM (.slice p1 G1.length c1) wx)
            case first =>
              by_cases hi5 : io = 50
              · have e5 : (io == 50) = true := by simpa using hi5
                by_cases hm1 : im < 1
                · go_wp2
                  go_meet
                  exact ⟨by simp [hi5, hm1], HS2.out⟩
                · by_cases hm2 : 10 < im
                  · go_wp2
                    go_meet
                    exact ⟨by simp [hi5, hm2], HS2.out⟩
                  · go_wp2
                    go_meet
                    exact ⟨by simp [hi5, hm1, hm2], HS2.out⟩
              · have e5 : (io == 50) = false := by simpa using hi5
                go_wp2
                go_meet
                exact ⟨by simp [hi5], HS2.out⟩
            case rest =>
              obtain ⟨rfl, hT⟩ := hcut
              have HT2 := Lib.hid hT; clear hT
              clear b0 b1 b2 b3 b4 b5 b6 hyl
              obtain ⟨hyl, b0, b1, b2, b3, b4, b5, b6⟩ := HT2.out.cells
              simp only [] at b0 b1 b2 b3 b4 b5 b6
              generalize hq2 : (decide (io = 50) && (decide (im < 1) || decide (10 < im))) = q2 at HYY
              clear hq2
              go_upto_if 69 with fail
              go_cut [8] (fun v8 wx => ∃ G, G = G1 ++ noteL q2 ya 4 ∧ G.length ≤ 3 ∧ RfSt w (w.heap.size + 1) G ⟨ya, ⟨io, id, ia, ib, im⟩, true⟩ IM v8 wx)
              case first =>
                cases q2 with
                | false =>
                  go_wp2
                  go_meet
                  exact ⟨_, by unfold noteL; rw [if_neg (by simp), List.append_nil], by omega, HT2.out⟩
                | true =>
                  go_wp2_with (at_builtin; refine wpList_append_own _ rfl _ _ 30 rfl w.heap.size 51 iF _ 2 8 Tryz.underlying30 HI.out.1 HI.out.2.1 HI.out.2.2.1 HI.out.2.2.2 rfl (by decide) _ _ _ rfl (HT2.out.own.alloc _) ⟨wc.heap.size, 0, none⟩ 1 1 [.int .u32 ya, .int .u8 4] rfl rfl (two_news8 (by simp [go_sem]) (by simp [go_sem])) two_one8 (by unfold maxLen; omega) (by omega) (by have := HT2.out.bl.size; simp; omega) ?_; intro v5 w5 hown5 hgrow5 _; have HN := Lib.hid (HT2.out.push (f := (ya, 4)) hown5 hgrow5); clear hown5 hgrow5)
                  go_meet
                  exact ⟨_, rfl, by simp [noteL]; omega, HN.out⟩
              case rest =>
                obtain ⟨G2, hG2, hl2, hS⟩ := hcut
                have HG2 := Lib.hid hG2; clear hG2
                have HS3 := Lib.hid hS; clear hS
                obtain ⟨p2, c2, rfl⟩ := own_shape HS3.out.own
                rw [← HG2.out] at HYY
                clear b0 b1 b2 b3 b4 b5 b6 hyl
                obtain ⟨hyl, b0, b1, b2, b3, b4, b5, b6⟩ := HS3.out.cells
                simp only [] at b0 b1 b2 b3 b4 b5 b6
                go_upto_region 11 with fail
                go_cut [87] (fun vc wx => vc = .bool (decide (io = 50) && h3) ∧ RfSt w (w.heap.size + 1) G2 ⟨ya, ⟨io, id, ia, ib, im⟩, true⟩ IM (.slice p2 G2.length c2) wx)
                case first =>
                  have a0 : wc.cell? ⟨w.heap.size, 0, none⟩ = some (.int .u32 x.man.pages) := by have := Lib.cell_of_heap HS3.out.im 0; rw [HIM.out] at this; exact this
                  have a1 : wc.cell? ⟨w.heap.size, 1, none⟩ = some (.slice p1' x.man.exts.length c1') := by have := Lib.cell_of_heap HS3.out.im 1; rw [HIM.out] at this; exact this
                  have a2 : wc.cell? ⟨w.heap.size, 2, none⟩ = some (.slice p2' x.man.ports.length c2') := by have := Lib.cell_of_heap HS3.out.im 2; rw [HIM.out] at this; exact this
                  have a3 : wc.cell? ⟨w.heap.size, 3, none⟩ = some (.bool x.man.cons) := by have := Lib.cell_of_heap HS3.out.im 3; rw [HIM.out] at this; exact this
                  by_cases hi5 : io = 50
                  · have e5 : (io == 50) = true := by simpa using hi5
                    go_wp2_with fail
                    refine (HD.out _).mono ?_
                    rintro e wa3 ⟨rfl, hB⟩
                    have HA := Lib.hid (HS3.out.keep hB)
                    clear hB a0 a1 a2 a3
                    go_wp2
                    go_meet
                    exact ⟨by simp [hi5], HA.out⟩
                  · have e5 : (io == 50) = false := by simpa using hi5
                    go_wp2
                    go_meet
                    exact ⟨by simp [hi5], HS3.out⟩
                case rest =>
                  obtain ⟨rfl, hT⟩ := hcut
                  have HT3 := Lib.hid hT; clear hT
                  clear b0 b1 b2 b3 b4 b5 b6 hyl
                  obtain ⟨hyl, b0, b1, b2, b3, b4, b5, b6⟩ := HT3.out.cells
                  simp only [] at b0 b1 b2 b3 b4 b5 b6
                  generalize hq3 : (decide (io = 50) && h3) = q3 at HYY
                  clear hq3
                  go_upto_if 87 with fail
                  go_cut [8] (fun v8 wx => ∃ G, G = G2 ++ noteL q3 ya 5 ∧ G.length ≤ 4 ∧ RfSt w (w.heap.size + 1) G ⟨ya, ⟨io, id, ia, ib, im⟩, true⟩ IM v8 wx)
                  case first =>
                    cases q3 with
                    | false =>
                      go_wp2
                      go_meet
                      exact ⟨_, by unfold noteL; rw [if_neg (by simp), List.append_nil], by omega, HT3.out⟩
                    | true =>
                      go_wp2_with (at_builtin; refine wpList_append_own _ rfl _ _ 30 rfl w.heap.size 51 iF _ 2 8 Tryz.underlying30 HI.out.1 HI.out.2.1 HI.out.2.2.1 HI.out.2.2.2 rfl (by decide) _ _ _ rfl (HT3.out.own.alloc _) ⟨wc.heap.size, 0, none⟩ 1 1 [.int .u32 ya, .int .u8 5] rfl rfl (two_news8 (by simp [go_sem]) (by simp [go_sem])) two_one8 (by unfold maxLen; omega) (by omega) (by have := HT3.out.bl.size; simp; omega) ?_; intro v5 w5 hown5 hgrow5 _; have HN := Lib.hid (HT3.out.push (f := (ya, 5)) hown5 hgrow5); clear hown5 hgrow5)
                      go_meet
                      exact ⟨_, rfl, by simp [noteL]; omega, HN.out⟩
                  case rest =>
                    obtain ⟨G3, hG3, hl3, hS⟩ := hcut
                    have HG3 := Lib.hid hG3; clear hG3
                    have HS4 := Lib.hid hS; clear hS
                    obtain ⟨p3, c3, rfl⟩ := own_shape HS4.out.own
                    rw [← HG3.out] at HYY
                    clear b0 b1 b2 b3 b4 b5 b6 hyl
                    obtain ⟨hyl, b0, b1, b2, b3, b4, b5, b6⟩ := HS4.out.cells
                    simp only [] at b0 b1 b2 b3 b4 b5 b6
                    have HFB : Hid (∀ z ∈ G3, (0 ≤ z.1 ∧ z.1 ≤ 4294967295) ∧ (0 ≤ z.2 ∧ z.2 ≤ 255)) := Lib.hid (by
                      rw [← HYY]; exact HRB.out)
                    have HFN : Hid (∃ v, (Ending.returned (.slice p3 G3.length c3)) = .returned v ∧ RowAt 2 FindR wc v res ∧ Below w.heap.size w wc) := Lib.hid ⟨_, rfl, by rw [HYY]; exact find_back HS4.out.own (by omega) HFB.out, HS4.out.bl⟩
                    go_wp2
                    go_ret
                    exact HFN.out
end Go.Proofs.YtghopakbefageaaGreat
namespace Go.Proofs.YtghopakbefageaaGreat
open Go.RowKit Go.Maps
set_option maxHeartbeats 2000000 in
theorem rest36 (s : GSeg) (w : World) (h0 : 0 ≤ s.addr) (h1 : s.addr + s.bytes.size ≤ 131072) :
    Calls Tryz.prog 27 #[.agg #[.int .u32 s.addr, .int .u8 s.perm, .string s.bytes]] w fun e w' => e = .returned (.tuple #[.int .u32 (s.addr + (s.bytes.size / 8 * 8 : Nat)), .bool (decide (s.perm = 5) && decide (0 < s.bytes.size % 8))]) ∧ Below w.heap.size w w' := by
  obtain ⟨a, p, b⟩ := s
  simp only [] at *
  have t1 : (b.size : Int).tmod 8 = ((b.size % 8 : Nat) : Int) := by rw [Int.tmod_eq_emod_of_nonneg (by omega)]; omega
  have t2 : (b.size : Int) % 8 = ((b.size % 8 : Nat) : Int) := by omega
  have t3 : (b.size : Int) - ((b.size % 8 : Nat) : Int) = ((b.size / 8 * 8 : Nat) : Int) := by omega
  have q0 : b.size / 8 * 8 ≤ b.size := by omega
  generalize b.size / 8 * 8 = N at *
  have q3 : IntKind.u32.wrap (N : Int) = (N : Int) := by rw [IntKind.wrap_u32]; omega
  have q4 : IntKind.u32.wrap (a + (N : Int)) = a + (N : Int) := by rw [IntKind.wrap_u32]; omega
  have q5 : (N : Int) % 4294967296 = (N : Int) := by omega
  have q6 : (a + (N : Int)) % 4294967296 = a + (N : Int) := by omega
  have hr8 : b.size % 8 < 8 := by omega
  generalize b.size % 8 = R at *
  have hR : decide ((0 : Int) < (R : Int)) = decide (0 < R) := by rw [Bool.eq_iff_iff]; simp
  by_cases h5 : p = 5
  · have e5 : (p == 5) = true := by simpa using h5
    have HP : Hid (decide (p = 5) = true) := Lib.hid (decide_eq_true h5)
    clear h5
    go_enter Tryz.func27, Tryz.ntmps27
    go_wp2
    go_ret2
    exact ⟨by rw [HP.out]; simp, alloc_old w _⟩
  · have e5 : (p == 5) = false := by simpa using h5
    have HP : Hid (decide (p = 5) = false) := Lib.hid (decide_eq_false h5)
    clear h5
    go_enter Tryz.func27, Tryz.ntmps27
    go_wp2
    go_ret2
    exact ⟨by rw [HP.out]; simp, alloc_old w _⟩
end Go.Proofs.YtghopakbefageaaGreat
namespace Go.Proofs.YtghopakbefageaaGreat
open Go.RowKit Go.Maps
theorem inSeg_eq (s : GSeg) (y : GLn) : inSeg s y = (decide (s.addr ≤ y.addr) && decide (y.addr < s.addr + s.bytes.size)) := rfl
set_option maxHeartbeats 8000000 in
set_option maxRecDepth 100000 in
theorem rimageF36 (x : GImg) (ve vp vs : Value) (w : World) (h : ImgAt w x ve vp vs) :
    Calls Tryz.prog 9 #[imgV x ve vp vs] w (ImgPost x w) := by
  have HLN : Hid (∀ W, Below w.heap.size w W → Calls Tryz.prog 25 #[imgV x ve vp vs] W (LinesPost x W)) := fun W hW => rlines36 x ve vp vs W (h.keep hW)
  have HFD : Hid (∀ (vl : Value) (k : Nat) W (hk : k < (linesX x).length), Below w.heap.size w W → RowAt 7 LnR W vl (linesX x) → Calls Tryz.prog 26 #[imgV x ve vp vs, vl, .int .i64 k] W (FindsPost x.man (linesX x) (linesX x)[k] W)) := fun vl k W hk hW hr => rfinds36 x ve vp vs vl k W (h.keep hW) hr hk
  unfold imgV at *
  obtain ⟨⟨⟨p1, c1, _, _, rfl, -⟩, ⟨p2, c2, _, _, rfl, -⟩, -⟩, ⟨p3, c3, b3, o3, rfl, -, hmx3, hp3, hc3⟩, hen0, hen1⟩ := h
  have HC := Lib.hid hc3; clear hc3
  have HP := Lib.hid hp3; clear hp3
  have HB1 : Hid (Below w.heap.size w (w.alloc (.cells #[.int .u32 x.man.pages, .slice p1 x.man.exts.length c1, .slice p2 x.man.ports.length c2, .bool x.man.cons, .int .u32 x.entry, .slice p3 x.segs.length c3] 29))) := alloc_old w _
  have HBX := Lib.hid (new_block w (.cells #[.int .u32 x.man.pages, .slice p1 x.man.exts.length c1, .slice p2 x.man.ports.length c2, .bool x.man.cons, .int .u32 x.entry, .slice p3 x.segs.length c3] 29))
  have hz1 : w.heap.size < (w.alloc (.cells #[.int .u32 x.man.pages, .slice p1 x.man.exts.length c1, .slice p2 x.man.ports.length c2, .bool x.man.cons, .int .u32 x.entry, .slice p3 x.segs.length c3] 29)).heap.size := by simp
  go_enter Tryz.func9, Tryz.ntmps9
  go_wp2_with fail
  refine (HLN.out _ HB1.out).mono ?_
  rintro e w2 ⟨vl, rfl, hrl, hB2⟩
  have HB2 : Hid (Below w.heap.size w w2) := HB1.out.trans (hB2.mono HB1.out.size)
  have HBX2 : Hid (w2.heap[w.heap.size]? = some (.cells #[.int .u32 x.man.pages, .slice p1 x.man.exts.length c1, .slice p2 x.man.ports.length c2, .bool x.man.cons, .int .u32 x.entry, .slice p3 x.segs.length c3] 29 (0, 0))) := Lib.hid ((hB2.block _ hz1).trans HBX.out)
  have hz2 : w.heap.size < w2.heap.size := by have := hB2.size; omega
  have HRL := Lib.hid hrl
  obtain ⟨pl, cl, bl, ol, rfl, hlc, hlm, hlp, hlr⟩ := hrl
  have HLP := Lib.hid hlp; clear hlp
  have HLR := Lib.hid hlr; clear hlr
  have e5 : w2.cell? ⟨w.heap.size, 5, none⟩ = some (.slice p3 x.segs.length c3) := Lib.cell_of_heap HBX2.out 5
  have hLL := linesX_len x
  clear HB1 hB2 HBX hz1 HLN
  cases hk : imgOkB x with
  | false =>
    have HFN : Hid (ImgPost x w (.returned (.slice none 0 0)) w2) := Lib.hid ⟨_, rfl, by rw [imageL_no hk]; exact rowAt_nil, HB2.out⟩
    have hl0 : (linesX x).length = 0 := by rw [linesX_no hk]; rfl
    have hl1 : ¬ (0 : Int) < ((linesX x).length : Int) := by omega
    clear hl0 hk
    go_wp2_with fail
    go_loopw [3, 5] (fun v3 v5 wr => v3 = .slice none 0 0 ∧ v5 = .int .i64 0 ∧ wr = w2) (fun _ _ _ => 0)
    case atStart => exact ⟨rfl, by go_num, rfl⟩
    case round =>
      obtain ⟨rfl, rfl, rfl⟩ := hrel
      by_cases h0 : (0 : Int) < (x.segs.length : Int)
      all_goals
        go_wp2
        go_ret
        exact HFN.out
  | true =>
    have HIM := Lib.hid (imageL_yes hk)
    obtain ⟨hn8, hn1, -, hsg, -⟩ := imgOk_parts hk
    have HSG := Lib.hid hsg; clear hsg
    have hl0 : 0 < (linesX x).length := by
      have h1 := entry_has hk
      obtain ⟨y, hy, -⟩ := hasA_mem.1 h1
      exact List.length_pos_of_mem hy
    have hl1 : (0 : Int) < ((linesX x).length : Int) := by omega
    have HK := Lib.hid hk; clear hk
    obtain rfl := HP.out (by omega)
    obtain rfl := HLP.out hl0
    obtain ⟨iF, hi, hz0', hz1', hz2'⟩ := info_parts info_find
    have HI := Lib.hid (And.intro hi (And.intro hz0' (And.intro hz1' hz2')))
    clear hi hz0' hz1' hz2'
    go_wp2_with fail
    go_loopw [3, 5] (fun v3 v5 wr => ∃ k : Nat, v5 = .int .i64 k ∧ k ≤ x.segs.length ∧ wr.ownsRow w2.heap.size 51 2 v3 (fdSegs x.man (linesX x) (x.segs.take k)).length ((fdSegs x.man (linesX x) (x.segs.take k)).flatMap findCells) ∧ Below w2.heap.size w2 wr) (fun _ v5 _ => x.segs.length - (intOf v5).toNat)
    case atStart => exact ⟨0, by go_num, Nat.zero_le _, World.ownsRow_nil _ _ _ _, Below.refl _ _⟩
    case round =>
      obtain ⟨k, rfl, hk, hown, hB⟩ := hrel
      have HOWN := Lib.hid hown; clear hown
      have HB := Lib.hid hB; clear hB
      obtain ⟨pv, cv, rfl⟩ := own_shape HOWN.out
      have e5r := cell_keep HB.out hz2 e5
      have hz3 : w.heap.size < wr.heap.size := by have := HB.out.size; omega
      by_cases hlt : k < x.segs.length
      · obtain ⟨g0, g1, g2, g3, g4, g5, g6⟩ := segR_keeps _ _ _ _ _ (HB2.out.trans (HB.out.mono HB2.out.size)) (HC.out k hlt)
        have HTK := Lib.hid (fdSegs_take (m := x.man) (L := linesX x) hlt)
        have HAL := Lib.hid (fdIn_all HK.out hlt)
        have HFL := Lib.hid (fdSegs_pre_len HK.out k)
        have HSP : Hid ((x.segs[k].perm = 1 ∨ x.segs[k].perm = 3 ∨ x.segs[k].perm = 5) ∧ 256 ≤ x.segs[k].addr ∧ x.segs[k].addr + x.segs[k].bytes.size ≤ 131072) := segsGo_each HSG.out hlt (by omega)
        rw [fdSeg_rest, ← HAL.out] at HTK
        generalize x.segs[k] = s at *
        obtain ⟨xa, xp, xb⟩ := s
        simp only [] at *
        obtain ⟨hp, ha0, ha1⟩ := HSP.out
        have HRST := Lib.hid (fun W => rest36 ⟨xa, xp, xb⟩ W (by simp only []; omega) (by simp only []; omega))
        simp only [] at HRST
        generalize (decide (xp = 5) && decide (0 < xb.size % 8)) = fl at HTK HRST
        have hra : 0 ≤ xa + (xb.size / 8 * 8 : Nat) ∧ xa + (xb.size / 8 * 8 : Nat) ≤ 131072 := by omega
        generalize xa + (xb.size / 8 * 8 : Nat) = ra at HTK HRST hra
        generalize hF : fdSegs x.man (linesX x) (x.segs.take k) = F at *
        have HF := Lib.hid hF; clear hF HAL
        obtain ⟨wo, rfl⟩ : ∃ wo : World, wo = wr := ⟨_, rfl⟩
        go_wp2_with fail
        have HOW1 := Lib.hid (HOWN.out.alloc (.cells #[.int .u32 xa, .int .u8 xp, .string xb] 45))
        have HB1 : Hid (Below w2.heap.size w2 (wo.alloc (.cells #[.int .u32 xa, .int .u8 xp, .string xb] 45))) := HB.out.alloc HB.out.size _
        have HSX := Lib.hid (new_block wo (.cells #[.int .u32 xa, .int .u8 xp, .string xb] 45))
        have hso : w2.heap.size ≤ wo.heap.size := HB.out.size
        generalize hsb : wo.heap.size = sb at HSX hso
        have HSB := Lib.hid hsb; clear hsb
        generalize wo.alloc (.cells #[.int .u32 xa, .int .u8 xp, .string xb] 45) = w3 at *
        clear HOWN HB g0 g1 g2 g3 e5r
        go_loopw [3, 7] (fun v3 v7 wi => ∃ j : Nat, v7 = .int .i64 j ∧ j ≤ (linesX x).length ∧ wi.ownsRow w2.heap.size 51 2 v3 (F ++ fdIn x.man (linesX x) ⟨xa, xp, xb⟩ j).length ((F ++ fdIn x.man (linesX x) ⟨xa, xp, xb⟩ j).flatMap findCells) ∧ wi.heap[sb]? = some (.cells #[.int .u32 xa, .int .u8 xp, .string xb] 45 (0, 0)) ∧ Below w2.heap.size w2 wi) (fun _ v7 _ => (linesX x).length - (intOf v7).toNat)
        case atStart => exact ⟨0, by go_num, Nat.zero_le _, by rw [fdIn_zero, List.append_nil]; exact HOW1.out, HSX.out, HB1.out⟩
        case round =>
          obtain ⟨j, rfl, hj, hown, hsx, hB⟩ := hrel
          obtain ⟨pv', cv', rfl⟩ := own_shape hown
          have HOW2 := Lib.hid hown; clear hown
          have HBI := Lib.hid hB; clear hB
          have HSX2 := Lib.hid hsx; clear hsx
          have s0 := Lib.cell_of_heap HSX2.out 0
          have s1 := Lib.cell_of_heap HSX2.out 1
          have s2 := Lib.cell_of_heap HSX2.out 2
          have hsbl : sb < wr.heap.size := (Array.getElem?_eq_some_iff.1 HSX2.out).1
          have HBXr : Hid (wr.heap[w.heap.size]? = some (.cells #[.int .u32 x.man.pages, .slice p1 x.man.exts.length c1, .slice p2 x.man.ports.length c2, .bool x.man.cons, .int .u32 x.entry, .slice (some ⟨b3, o3, none⟩) x.segs.length c3] 29 (0, 0))) := Lib.hid ((HBI.out.block _ hz2).trans HBX2.out)
          have hbz := HBI.out.size
          have HIL := Lib.hid (fdIn_len x.man (linesX x) ⟨xa, xp, xb⟩ j)
          have HFL2 : Hid ((F ++ fdIn x.man (linesX x) ⟨xa, xp, xb⟩ j).length ≤ 1200000) := Lib.hid (by rw [List.length_append]; have := HFL.out; have := HIL.out; omega)
          clear HOW1 HB1 HSX
          by_cases hjl : j < (linesX x).length
          · have HSC := Lib.hid (fdIn_succ x.man (linesX x) ⟨xa, xp, xb⟩ hjl)
            obtain ⟨hbll, y0, -⟩ := lnR_keeps _ _ _ _ _ HBI.out (HLR.out j hjl)
            have HFC := Lib.hid (fun W (hW : Below w.heap.size w W) (hr : RowAt 7 LnR W _ (linesX x)) => HFD.out (.slice (some ⟨bl, ol, none⟩) (linesX x).length cl) j W hjl hW hr)
            have HFB := Lib.hid (findsL_bd (m := x.man) (L := linesX x) (linesX_B (List.getElem_mem hjl)).2)
            have HFBL := Lib.hid (findsL_len x.man (linesX x) (linesX x)[j])
            rw [inSeg_eq] at HSC
            unfold FindsPost at HFC
            generalize findsL x.man (linesX x) (linesX x)[j] = fy at *
            generalize hyy : (linesX x)[j].addr = ya at *
            have HYA := Lib.hid hyy; clear hyy
            have q3 : IntKind.u32.wrap (xb.size : Int) = (xb.size : Int) := by rw [IntKind.wrap_u32]; omega
            have q4 : IntKind.u32.wrap (xa + (xb.size : Int)) = xa + (xb.size : Int) := by rw [IntKind.wrap_u32]; omega
            have q5 : (xb.size : Int) % 4294967296 = (xb.size : Int) := by omega
            have q6 : (xa + (xb.size : Int)) % 4294967296 = xa + (xb.size : Int) := by omega
            have k1 : (0 : Int) ≤ (j : Int) := by omega
            have k2 : (j : Int) < ((linesX x).length : Int) := by omega
            generalize hLL' : F ++ fdIn x.man (linesX x) ⟨xa, xp, xb⟩ j = LL at *
            have HLL := Lib.hid hLL'; clear hLL'
            go_upto_region 10 with fail
            go_cut [57] (fun v57 wx => v57 = .bool (decide (xa ≤ ya) && decide (ya < xa + xb.size)) ∧ Below wr.heap.size wr wx)
            case first =>
              by_cases h1 : xa ≤ ya
              · have d1 : decide (xa ≤ ya) = true := decide_eq_true h1
                by_cases h2 : ya < xa + xb.size
                · have d2 : decide (ya < xa + xb.size) = true := decide_eq_true h2
                  go_quiet (fail)
                  go_wp2
                  go_meet
                  exact ⟨by simp [d1, d2], below_drewN (Below.refl _ _) _⟩
                · have d2 : decide (ya < xa + xb.size) = false := decide_eq_false h2
                  go_quiet (fail)
                  go_wp2
                  go_meet
                  exact ⟨by simp [d1, d2], below_drewN (Below.refl _ _) _⟩
              · have d1 : decide (xa ≤ ya) = false := decide_eq_false h1
                go_quiet (fail)
                go_wp2
                go_meet
                exact ⟨by simp [d1], below_drewN (Below.refl _ _) _⟩
            case rest =>
              obtain ⟨rfl, hbx⟩ := hcut
              have HOWC := Lib.hid (ownsRow_below hbx HOW2.out)
              have HSXC := Lib.hid ((hbx.block _ hsbl).trans HSX2.out)
              have HBIC : Hid (Below w2.heap.size w2 wc) := HBI.out.trans (hbx.mono hbz)
              have HBXC : Hid (wc.heap[w.heap.size]? = some (.cells #[.int .u32 x.man.pages, .slice p1 x.man.exts.length c1, .slice p2 x.man.ports.length c2, .bool x.man.cons, .int .u32 x.entry, .slice (some ⟨b3, o3, none⟩) x.segs.length c3] 29 (0, 0))) := Lib.hid ((HBIC.out.block _ hz2).trans HBX2.out)
              clear s0 s1 s2 y0 q3 q4 q5 q6 hbx HOW2 HSX2 HBXr HBI
              generalize (decide (xa ≤ ya) && decide (ya < xa + xb.size)) = q at HSC
              cases q with
              | false =>
                have HSC2 : Hid (F ++ fdIn x.man (linesX x) ⟨xa, xp, xb⟩ (j + 1) = LL) := Lib.hid (by rw [HSC.out, if_neg (by simp), List.append_nil, HLL.out])
                clear HSC
                go_wp2
                go_roundw
                case rel => exact ⟨j + 1, by go_num, by omega, by rw [HSC2.out]; exact HOWC.out, HSXC.out, HBIC.out⟩
                case measure => simp [intOf]; omega
              | true =>
                have HSC2 : Hid (F ++ fdIn x.man (linesX x) ⟨xa, xp, xb⟩ (j + 1) = LL ++ fy) := Lib.hid (by rw [HSC.out, if_pos rfl, ← List.append_assoc, HLL.out])
                clear HSC
                have x0 : wc.cell? ⟨w.heap.size, 0, none⟩ = some (.int .u32 x.man.pages) := Lib.cell_of_heap HBXC.out 0
                have x1 : wc.cell? ⟨w.heap.size, 1, none⟩ = some (.slice p1 x.man.exts.length c1) := Lib.cell_of_heap HBXC.out 1
                have x2 : wc.cell? ⟨w.heap.size, 2, none⟩ = some (.slice p2 x.man.ports.length c2) := Lib.cell_of_heap HBXC.out 2
                have x3 : wc.cell? ⟨w.heap.size, 3, none⟩ = some (.bool x.man.cons) := Lib.cell_of_heap HBXC.out 3
                have x4 : wc.cell? ⟨w.heap.size, 4, none⟩ = some (.int .u32 x.entry) := Lib.cell_of_heap HBXC.out 4
                have x5 : wc.cell? ⟨w.heap.size, 5, none⟩ = some (.slice (some ⟨b3, o3, none⟩) x.segs.length c3) := Lib.cell_of_heap HBXC.out 5
                have HFCC := Lib.hid (HFC.out wc (HB2.out.trans (HBIC.out.mono HB2.out.size)) (HRL.out.keep lnR_keeps HBIC.out))
                have hlen := HFL2.out
                have hfyl := HFBL.out
                go_wp2_with fail
                refine HFCC.out.mono ?_
                rintro e w4 ⟨vf, rfl, hrow, hB4⟩
                have HB4 : Hid (Below w2.heap.size w2 w4) := HBIC.out.trans (hB4.mono HBIC.out.size)
                have HS4 := Lib.hid ((hB4.block sb (Array.getElem?_eq_some_iff.1 HSXC.out).1).trans HSXC.out)
                have HO4 := Lib.hid (ownsRow_below hB4 HOWC.out)
                obtain ⟨pf, cf, bf, of, rfl, -, -, hpf, hcf⟩ := hrow
                have HPF := Lib.hid hpf; clear hpf
                have HCF := Lib.hid hcf; clear hcf
                clear x0 x1 x2 x3 x4 x5 hB4 HFCC
                go_wp2_with (at_builtin; refine wpList_append_src rfl _ _ 30 rfl w2.heap.size 51 iF _ 2 8 Tryz.underlying30 HI.out.1 HI.out.2.1 HI.out.2.2.1 HI.out.2.2.2 rfl (by decide) (.slice pv' LL.length cv') LL.length (LL.flatMap findCells) rfl HO4.out pf fy.length cf bf of (fy.flatMap findCells) rfl (fun h0 => HPF.out h0) (by rw [flat_len find_len]) (fun _ => find_news HCF.out) find_one (by unfold maxLen; omega) (by omega) HB4.out.size ?_)
                intro v5 w5 hown5 hgrow5
                have HS5 : Hid (w5.heap[sb]? = some (.cells #[.int .u32 xa, .int .u8 xp, .string xb] 45 (0, 0))) := Lib.hid ((hgrow5.block sb (Array.getElem?_eq_some_iff.1 HS4.out).1 (fun e => own_ne_box HO4.out HS4.out (by decide) e.symm)).trans HS4.out)
                have HB5 : Hid (Below w2.heap.size w2 w5) := Lib.hid (HB4.out.grown hgrow5 HB4.out.size (fun g hg => (HO4.out.lt g hg).1))
                have HO5 : Hid (w5.ownsRow w2.heap.size 51 2 v5 (LL ++ fy).length ((LL ++ fy).flatMap findCells)) := Lib.hid (by rw [List.length_append, List.flatMap_append]; exact hown5)
                clear hown5 hgrow5
                go_wp2
                go_roundw
                case rel => exact ⟨j + 1, by go_num, by omega, by rw [HSC2.out]; exact HO5.out, HS5.out, HB5.out⟩
                case measure => simp [intOf]; omega
          · obtain rfl : j = (linesX x).length := by omega
            have HRR := Lib.hid (HRST.out wr)
            have hlen := HFL2.out
            have HLL : Hid (fdSegs x.man (linesX x) (x.segs.take (k + 1)) = (F ++ fdIn x.man (linesX x) ⟨xa, xp, xb⟩ (linesX x).length) ++ (if fl = true then [(ra, 1)] else [])) := Lib.hid (by rw [HTK.out, List.append_assoc])
            clear HTK
            generalize hLL' : F ++ fdIn x.man (linesX x) ⟨xa, xp, xb⟩ (linesX x).length = LL at *
            clear hLL'
            go_wp2_with fail
            refine HRR.out.mono ?_
            rintro e w4 ⟨rfl, hB4⟩
            have HB4 : Hid (Below w2.heap.size w2 w4) := HBI.out.trans (hB4.mono hbz)
            have HO4 := Lib.hid (ownsRow_below hB4 HOW2.out)
            have hb4 := HB4.out.size
            clear hB4 s0 s1 s2
            cases fl with
            | false =>
              have HL2 : Hid (fdSegs x.man (linesX x) (x.segs.take (k + 1)) = LL) := Lib.hid (by rw [HLL.out, if_neg (by simp), List.append_nil])
              go_wp2
              go_roundw
              case rel => exact ⟨k + 1, by go_num, by omega, by rw [HL2.out]; exact HO4.out, HB4.out⟩
              case measure => simp [intOf]; omega
            | true =>
              have HL2 : Hid (fdSegs x.man (linesX x) (x.segs.take (k + 1)) = LL ++ [(ra, 1)]) := Lib.hid (by rw [HLL.out, if_pos rfl])
              go_wp2_with (at_builtin; refine wpList_append_own _ rfl _ _ 30 rfl w2.heap.size 51 iF _ 2 8 Tryz.underlying30 HI.out.1 HI.out.2.1 HI.out.2.2.1 HI.out.2.2.2 rfl (by decide) _ _ _ rfl (HO4.out.alloc _) ⟨w4.heap.size, 0, none⟩ 1 1 [.int .u32 ra, .int .u8 1] rfl rfl (two_news8 (by simp [go_sem]) (by simp [go_sem])) two_one8 (by unfold maxLen; omega) (by omega) (by simp; omega) ?_)
              intro v5 w5 hown5 hgrow5 _
              have HB5 : Hid (Below w2.heap.size w2 w5) := Lib.hid ((HB4.out.alloc HB4.out.size _).grown hgrow5 (by simp; omega) (fun g hg => (HO4.out.lt g hg).1))
              have HO5 : Hid (w5.ownsRow w2.heap.size 51 2 v5 (LL ++ [((ra, 1) : Int × Int)]).length ((LL ++ [((ra, 1) : Int × Int)]).flatMap findCells)) := Lib.hid (by rw [List.length_append, List.flatMap_append]; exact hown5)
              clear hown5 hgrow5
              go_wp2
              go_roundw
              case rel => exact ⟨k + 1, by go_num, by omega, by rw [HL2.out]; exact HO5.out, HB5.out⟩
              case measure => simp [intOf]; omega
      · obtain rfl : k = x.segs.length := by omega
        have HOF := Lib.hid HOWN.out
        rw [List.take_length] at HOF
        have HFL := fdSegs_pre_len HK.out x.segs.length
        rw [List.take_length] at HFL
        have HFN : Hid (ImgPost x w (.returned (.slice pv (fdSegs x.man (linesX x) x.segs).length cv)) wr) := Lib.hid (by
          refine ⟨_, rfl, ?_, HB2.out.trans (HB.out.mono HB2.out.size)⟩
          rw [HIM.out]
          exact find_back HOF.out (by omega) (fdSegs_bd x.segs 256 (by omega) HSG.out))
        rw [List.take_length]
        go_wp2
        go_ret
        exact HFN.out
end Go.Proofs.YtghopakbefageaaGreat
