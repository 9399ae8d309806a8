/- The walk of objfile.reading.sym's second function. The walks of objfile.reading.goes, for places and for notes. -/
import Derived.Test.YtboegjdkedjhcaaGreatDoorBs17
namespace Go.Proofs.YtboegjdkedjhcaaGreatDoor
set_option maxRecDepth 100000
section
open Go.RowKit Go.Maps
theorem SymSt.addN {R : Nat} {Q : Nat → Prop} {sb rb : Nat} {s : ByteArray} {st : RS} {y : GSym} {w0 w1 wa w2 : World} {vr vn v' : Value} {x : GNote} (h : SymSt R Q sb rb s st y w0 w1)
 (hs : w1.heap[sb]? = some (.cells #[.string y.name, .int .u8 y.bind, .int .u8 y.kind, .int .u32 y.size, .string y.bytes, vr, vn] 55 (0, 0)))
 (hr : w1.ownsRow w0.heap.size 133 4 vr y.rels.length (y.rels.flatMap relCells)) (hn : w1.ownsRow w0.heap.size 155 3 vn y.notes.length (y.notes.flatMap noteCells))
 (ha : Below w1.heap.size w1 wa) (ho : w2.ownsRow w0.heap.size 155 3 v' (y.notes.length + 1) (y.notes.flatMap noteCells ++ noteCells x)) (hg : wa.grownBy w2 vn.ownBlock) :
 SymSt (w2.setCell ⟨sb, 6, none⟩ v').heap.size Q sb rb s st (addNote y x) w0 (w2.setCell ⟨sb, 6, none⟩ v') := by
 have r1 := h.rlt; have r3 := h.sle; have r5 := h.slt; have r6 := h.rle; have z1 := ha.size; have z2 := hg.size; have hz : (w2.setCell ⟨sb, 6, none⟩ v').heap.size = w2.heap.size := by simp
 have hk : ∀ g, g < w1.heap.size → vn.ownBlock ≠ some g → w2.heap[g]? = w1.heap[g]? := fun g hg' hne => by
  rw [hg.block g (by omega) (fun e => hne e.symm), ha.block g hg']
 have hs2 := hk sb (by omega) (own_ne_box hn hs (by decide))
 have hset : ∀ g, g ≠ sb → (w2.setCell ⟨sb, 6, none⟩ v').heap[g]? = w2.heap[g]? := fun g hgs => Below.heap_setCell _ _ _ _ (by simpa using hgs)
 have hqs : ∀ g, Q g → g ≠ sb := fun g hg e => by have h2 := (h.q g hg).1; rw [e, hs] at h2; simp at h2
 have hrb : vn.ownBlock ≠ some rb := fun e => by have := (hn.lt rb e).1; omega
 have hn2 : w2.ownsRow w0.heap.size 133 4 vr y.rels.length (y.rels.flatMap relCells) := own_congr hr fun g hg' => hk g (hr.lt g hg').2 fun e => own_ne hr hn (by decide) hg' e
 have hs2' : w2.heap[sb]? = some (.cells #[.string y.name, .int .u8 y.bind, .int .u8 y.kind, .int .u32 y.size, .string y.bytes, vr, vn] 55 (0, 0)) := hs2.trans hs; have e1 : (addNote y x).notes.length = y.notes.length + 1 := by simp [addNote]
 have e2 : (addNote y x).notes.flatMap noteCells = y.notes.flatMap noteCells ++ noteCells x := by simp [addNote]
 have ho3 : (w2.setCell ⟨sb, 6, none⟩ v').ownsRow w0.heap.size 155 3 v' (addNote y x).notes.length ((addNote y x).notes.flatMap noteCells) := by
  rw [e1, e2]; exact own_congr ho fun g hg' => hset g fun e => own_ne_box ho (e ▸ hs2') (by decide) hg'
 have hn3 : (w2.setCell ⟨sb, 6, none⟩ v').ownsRow w0.heap.size 133 4 vr y.rels.length (y.rels.flatMap relCells) := own_congr hn2 fun g hg' => hset g fun e => own_ne_box hn2 (e ▸ hs2') (by decide) hg'
 refine ⟨fun g hg => by obtain ⟨q1, q2, q3⟩ := h.q g hg; exact ⟨by rw [hset g (hqs g hg), hk g (by omega) (own_ne_box hn q1 (by decide))]; exact q1, q2, by rw [hz]; omega⟩, ⟨vr, v', ?_, hn3, ho3, fun g hg' => (hn3.lt g hg').2, fun g hg' => (ho3.lt g hg').2⟩, ?_, ?_, r1, r3, by rw [hz]; omega, Nat.le_refl _⟩
 ·simp [World.setCell, Array.getElem?_modify, hs2', addNote]
 ·exact h.rd.congr (by rw [hset rb (by omega), hk rb (by omega) hrb])
 ·have hg0 := h.kb.grown (w' := w2) (r := vn.ownBlock) ⟨hg.os.trans ha.os, hg.tape.trans ha.tape, hg.output.trans ha.output, Nat.le_trans z1 z2, fun k hk' hne => hk k hk' (fun e => hne e.symm)⟩ (fun k e => .inr (hn.lt k e).1)
  exact KB.setCell hg0 (.inr r3) _
set_option maxHeartbeats 2000000 in
theorem sym2_any (R : Nat) (Q : Nat → Prop) (qb sb rb : Nat) (hq : Q qb) (s : ByteArray) (st : RS) (y : GSym) (w0 w : World) (h : SymSt R Q sb rb s st y w0 w) (hlen : y.notes.length ≤ 70000) :
 Calls Tryz.prog 131 #[.pointer (some ⟨qb, 0, none⟩), .pointer (some ⟨sb, 0, none⟩)] w fun e w' => e = .returned (.tuple #[]) ∧ ∃ R', SymSt R' Q sb rb s (rNote st).2 (addNote y (rNote st).1) w0 w' := by
 replace h := h.fresh; have c := h.c hq; have HS : Hid (SymSt w.heap.size Q sb rb s st y w0 w.drew) := h.keep (Below.refl _ _).drew; have HSA : Hid (SymSt w.heap.size Q sb rb s st y w0 (w.alloc (.cells #[.int .u8 0, .int .u32 0, .int .u32 0] 155)).drew) := h.keep (alloc_old _ _).drew; have HXA : Hid ((w.alloc (.cells #[.int .u8 0, .int .u32 0, .int .u32 0] 155)).drew.heap[w.heap.size]? = some (.cells #[.int .u8 0, .int .u32 0, .int .u32 0] 155)) := heap_alloc_new w _; have hbd := rNum_bd 1 st; rw [p1] at hbd; have hb0 := hbd.1; have hb1 : (rNum 1 st).1 ≤ 255 := by omega
 have hwr : IntKind.u8.wrap (rNum 1 st).1 = (rNum 1 st).1 := by rw [IntKind.wrap_u8]; omega
 clear h hbd; go_enter Tryz.func131, Tryz.ntmps131; go_wp2
 go_cut [2] from 3 to 17 (fun s2 wx => ∃ xb, s2 = .pointer (some ⟨xb, 0, none⟩) ∧ w.heap.size ≤ xb ∧ wx.heap[xb]? = some (.cells #[.int .u8 (rNum 1 st).1, .int .u32 (rNum 4 (rNum 1 st).2).1, .int .u32 0] 155 (0, 0)) ∧ SymSt w.heap.size Q sb rb s (rNum 4 (rNum 1 st).2).2 y w0 wx)
 case first =>
  go_region_held3 (fun w' => w'.cell? ⟨qb, 0, none⟩ = some (.pointer (some ⟨rb, 0, none⟩))) (go_keep) ((first | (go_at_call 90; (with_reducible refine (readNum1 rb s _ _ HS.out.rd).mono ?_); rintro e wn ⟨rfl, k1, k2⟩; replace HX := Lib.hid ((k2.block _ (Array.getElem?_eq_some_iff.1 HX.out).1 (by have := HS.out.rlt; have := HS.out.sle; have := HS.out.slt; have := HXR.out; omega)).trans HX.out); replace HS := Lib.hid (HS.out.read k1 (KRR.of_kr k2)); have cn := HS.out.c hq; have b0 : wn.cell? ⟨_, 0, none⟩ = some (.int .u8 0) := Lib.cell_of_heap HX.out 0; have f0 : wn.frozen? ⟨_, 0, none⟩ = false := Lib.frozen_of_heap HX.out 0; have b1 : wn.cell? ⟨_, 1, none⟩ = some (.int .u32 0) := Lib.cell_of_heap HX.out 1; have f1 : wn.frozen? ⟨_, 1, none⟩ = false := Lib.frozen_of_heap HX.out 1; have b2 : wn.cell? ⟨_, 2, none⟩ = some (.int .u32 0) := Lib.cell_of_heap HX.out 2; have f2 : wn.frozen? ⟨_, 2, none⟩ = false := Lib.frozen_of_heap HX.out 2; clear k1 k2) | (go_at_call 90; (with_reducible refine (readNum1 rb s _ _ HS.out.rd).mono ?_); rintro e wn ⟨rfl, k1, k2⟩; replace HS := Lib.hid (HS.out.read k1 (KRR.of_kr k2)); have cn := HS.out.c hq; clear k1 k2) | (go_at_call 90; (with_reducible refine (readNum1 rb s _ _ HSA.out.rd).mono ?_); rintro e wn ⟨rfl, k1, k2⟩; have HX := Lib.hid ((k2.block _ (Array.getElem?_eq_some_iff.1 HXA.out).1 (by have := HS.out.rlt; have := HS.out.sle; have := HS.out.slt; omega)).trans HXA.out); have HXR : Hid (w.heap.size ≤ w.heap.size) := Nat.le_refl _; have nx : ¬ w.heap.size = qb := (by have := (HS.out.q qb hq).2.2; omega); have nx' : ¬ qb = w.heap.size := (by omega); replace HS := Lib.hid (HSA.out.read k1 (KRR.of_kr k2)); have cn := HS.out.c hq; have b0 : wn.cell? ⟨_, 0, none⟩ = some (.int .u8 0) := Lib.cell_of_heap HX.out 0; have f0 : wn.frozen? ⟨_, 0, none⟩ = false := Lib.frozen_of_heap HX.out 0; have b1 : wn.cell? ⟨_, 1, none⟩ = some (.int .u32 0) := Lib.cell_of_heap HX.out 1; have f1 : wn.frozen? ⟨_, 1, none⟩ = false := Lib.frozen_of_heap HX.out 1; have b2 : wn.cell? ⟨_, 2, none⟩ = some (.int .u32 0) := Lib.cell_of_heap HX.out 2; have f2 : wn.frozen? ⟨_, 2, none⟩ = false := Lib.frozen_of_heap HX.out 2; clear k1 k2) | (go_at_call 90; (with_reducible refine (readNum4 rb s _ _ HS.out.rd).mono ?_); rintro e wn ⟨rfl, k1, k2⟩; replace HX := Lib.hid ((k2.block _ (Array.getElem?_eq_some_iff.1 HX.out).1 (by have := HS.out.rlt; have := HS.out.sle; have := HS.out.slt; have := HXR.out; omega)).trans HX.out); replace HS := Lib.hid (HS.out.read k1 (KRR.of_kr k2)); have cn := HS.out.c hq; have b0 : wn.cell? ⟨_, 0, none⟩ = some (.int .u8 0) := Lib.cell_of_heap HX.out 0; have f0 : wn.frozen? ⟨_, 0, none⟩ = false := Lib.frozen_of_heap HX.out 0; have b1 : wn.cell? ⟨_, 1, none⟩ = some (.int .u32 0) := Lib.cell_of_heap HX.out 1; have f1 : wn.frozen? ⟨_, 1, none⟩ = false := Lib.frozen_of_heap HX.out 1; have b2 : wn.cell? ⟨_, 2, none⟩ = some (.int .u32 0) := Lib.cell_of_heap HX.out 2; have f2 : wn.frozen? ⟨_, 2, none⟩ = false := Lib.frozen_of_heap HX.out 2; clear k1 k2) | (go_at_call 90; (with_reducible refine (readNum4 rb s _ _ HS.out.rd).mono ?_); rintro e wn ⟨rfl, k1, k2⟩; replace HS := Lib.hid (HS.out.read k1 (KRR.of_kr k2)); have cn := HS.out.c hq; clear k1 k2) | (go_at_call 90; have HSB := Lib.hid (HS.out.keep (alloc_old wn (.cells #[.int .u8 0, .int .u32 0, .int .u32 0] 155))); (with_reducible refine (readNum4 rb s _ _ HSB.out.rd).mono ?_); have HXR : Hid (w.heap.size ≤ wn.heap.size) := HS.out.rle; have nx : ¬ wn.heap.size = qb := (by have := (HS.out.q qb hq).2.2; have := HXR.out; omega); have nx' : ¬ qb = wn.heap.size := (by omega); have HXB : Hid ((wn.alloc (.cells #[.int .u8 0, .int .u32 0, .int .u32 0] 155)).heap[wn.heap.size]? = some (.cells #[.int .u8 0, .int .u32 0, .int .u32 0] 155)) := heap_alloc_new wn _; rintro e wn ⟨rfl, k1, k2⟩; have HX := Lib.hid ((k2.block _ (Array.getElem?_eq_some_iff.1 HXB.out).1 (by have := HS.out.rlt; have := HS.out.sle; have := HS.out.slt; have := HXR.out; omega)).trans HXB.out); replace HS := Lib.hid (HSB.out.read k1 (KRR.of_kr k2)); have cn := HS.out.c hq; have b0 : wn.cell? ⟨_, 0, none⟩ = some (.int .u8 0) := Lib.cell_of_heap HX.out 0; have f0 : wn.frozen? ⟨_, 0, none⟩ = false := Lib.frozen_of_heap HX.out 0; have b1 : wn.cell? ⟨_, 1, none⟩ = some (.int .u32 0) := Lib.cell_of_heap HX.out 1; have f1 : wn.frozen? ⟨_, 1, none⟩ = false := Lib.frozen_of_heap HX.out 1; have b2 : wn.cell? ⟨_, 2, none⟩ = some (.int .u32 0) := Lib.cell_of_heap HX.out 2; have f2 : wn.frozen? ⟨_, 2, none⟩ = false := Lib.frozen_of_heap HX.out 2; clear k1 k2)))
  all_goals
   go_wp2_with fail
   go_meet
   first
    | exact ⟨_, rfl, HS.out.rle, heap_alloc_new wn _, HS.out.keep (alloc_old _ _)⟩
    | exact ⟨_, rfl, HXR.out, box3 HX.out _ _ _, HS.out.still ((((KB.refl _ wn).setR HXR.out 0 _).setR HXR.out 1 _).setR HXR.out 2 _)⟩
 case rest =>
  obtain ⟨xb, rfl, hxr, hbx, hst⟩ := hcut; clear HSA HXA HS c hwr hb0 hb1; have HS := Lib.hid hst; clear hst; have HX := Lib.hid hbx; clear hbx; obtain ⟨wk, rfl⟩ : ∃ wk : World, wk = wc := ⟨_, rfl⟩; have c := HS.out.c hq; go_wp2_with fail; refine (readNum4 rb s _ _ HS.out.rd).mono ?_; rintro e wn ⟨rfl, k1, k2⟩; replace HX := Lib.hid ((k2.block xb (Array.getElem?_eq_some_iff.1 HX.out).1 (by have := HS.out.rlt; have := HS.out.sle; have := HS.out.slt; omega)).trans HX.out)
  replace HS := Lib.hid (HS.out.read k1 (KRR.of_kr k2)); clear c k1 k2; have b3 : wn.cell? ⟨xb, 2, none⟩ = some (.int .u32 0) := Lib.cell_of_heap HX.out 2; have f3 : wn.frozen? ⟨xb, 2, none⟩ = false := Lib.frozen_of_heap HX.out 2; go_upto_region 2 with fail
  have HX2 : Hid ((wn.setCell ⟨xb, 2, none⟩ (.int .u32 (rNote st).1.m)).heap[xb]? = some (.cells #[.int .u8 (rNote st).1.kind, .int .u32 (rNote st).1.n, .int .u32 (rNote st).1.m] 155 (0, 0))) := by
   rw [Hid]; simp [World.setCell, Array.getElem?_modify, HX.out, rNote]
  have HS2 : Hid (SymSt w.heap.size Q sb rb s (rNote st).2 y w0 (wn.setCell ⟨xb, 2, none⟩ (.int .u32 (rNote st).1.m))) := HS.out.still ((KB.refl _ wn).setR hxr 2 _); clear HX HS b3 f3; change Code.wp _ _ _ _ (wn.setCell ⟨xb, 2, none⟩ (.int .u32 (rNote st).1.m)); generalize wn.setCell ⟨xb, 2, none⟩ (.int .u32 (rNote st).1.m) = wm at HX2 HS2 ⊢; generalize hrr : rNote st = rr at HX2 HS2; have HRR := Lib.hid hrr; clear hrr; obtain ⟨⟨rk, rn, ra⟩, rst⟩ := rr; simp only [] at HX2 HS2; obtain ⟨vr, vn, g1, g2, g3, -, -⟩ := HS2.out.y; obtain ⟨pR, cR, rfl⟩ := own_shape g3; have G1 := Lib.hid g1; have G2 := Lib.hid g2; have G3 := Lib.hid g3; clear g1 g2 g3; have s5 : wm.cell? ⟨sb, 6, none⟩ = some (.slice pR y.notes.length cR) := Lib.cell_of_heap G1.out 6; have x0 : wm.cell? ⟨xb, 0, none⟩ = some (.int .u8 rk) := Lib.cell_of_heap HX2.out 0; have x1 : wm.cell? ⟨xb, 1, none⟩ = some (.int .u32 rn) := Lib.cell_of_heap HX2.out 1; have x2 : wm.cell? ⟨xb, 2, none⟩ = some (.int .u32 ra) := Lib.cell_of_heap HX2.out 2; obtain ⟨iR, r0, r1, r2, r3⟩ := info_parts info_note; have HA := Lib.hid (And.intro r0 (And.intro r1 (And.intro r2 r3))); clear r0 r1 r2 r3; have hz0 := HS2.out.kb.size; have hzs : sb < wm.heap.size := (Array.getElem?_eq_some_iff.1 G1.out).1
  go_wp2_with (at_builtin; refine wpList_append_own_at _ rfl _ _ 53 rfl w0.heap.size 155 iR _ 3 12 Tryz.underlying53 HA.out.1 HA.out.2.1 HA.out.2.2.1 HA.out.2.2.2 rfl (by decide) _ y.notes.length (y.notes.flatMap noteCells) rfl ?c0 _ 1 1 (noteCells ⟨rk, rn, ra⟩) rfl rfl ?c1 ?c2 ?c3 ?c4 ?c5 ?_)
  case c0 => exact G3.out.alloc _
  case c1 =>
   intro j u hu; rw [add_at, Nat.zero_add]
   match j, hu with
   | 0, hu => cases hu; simp [go_sem]
   | 1, hu => cases hu; simp [go_sem]
   | 2, hu => cases hu; simp [go_sem]
  case c2 =>
   intro u hu; simp only [noteCells, List.mem_cons, List.not_mem_nil, or_false] at hu; rcases hu with rfl | rfl | rfl <;> rfl
  case c3 => unfold maxLen; omega
  case c4 => omega
  case c5 => simp; omega
  intro v' w2 hown hgrow _ _; have HF := Lib.hid (HS2.out.addN (x := ⟨rk, rn, ra⟩) G1.out G2.out G3.out (alloc_old _ _) hown hgrow); have hb : w2.heap[sb]? = wm.heap[sb]? := by rw [hgrow.block sb (by simp; omega) (fun e => own_ne_box G3.out G1.out (by decide) e.symm), Below.heap_alloc _ _ _ hzs]
  have t5 : w2.cell? ⟨sb, 6, none⟩ = some (.slice pR y.notes.length cR) := by rw [World.cell?_of_block (w := wm) hb]; exact s5
  have tf : w2.frozen? ⟨sb, 6, none⟩ = false := Lib.frozen_of_heap (hb.trans G1.out) 6; obtain ⟨pv, cv, rfl⟩ := own_shape hown; clear hown hgrow hb s5 x0 x1 x2; go_wp2; go_end0; rw [HRR.out]; exact ⟨rfl, _, HF.out⟩
end
section
open Go.RowKit Go.Maps
def withRels (y : GSym) (l : List GRel) : GSym := { y with rels := l }
def withNotes (y : GSym) (l : List GNote) : GSym := { y with notes := l }
def GR (y : GSym) (T : List GRel × RS) (k : Nat) (st : RS) (y' : GSym) : Prop := y' = withRels y y'.rels ∧ y'.rels ++ (rMany rRel k st).1 = T.1 ∧ (rMany rRel k st).2 = T.2 ∧ y'.rels.length + k ≤ 70000
def GN (y : GSym) (T : List GNote × RS) (k : Nat) (st : RS) (y' : GSym) : Prop := y' = withNotes y y'.notes ∧ y'.notes ++ (rMany rNote k st).1 = T.1 ∧ (rMany rNote k st).2 = T.2 ∧ y'.notes.length + k ≤ 70000
theorem GR.step {y : GSym} {T : List GRel × RS} {k : Nat} {r : BL} {y' : GSym} (h : GR y T (k + 1) (some r) y') : GR y T k (rRel (some r)).2 (addRel y' (rRel (some r)).1) := by
 obtain ⟨h1, h2, h3, h4⟩ := h; rw [rMany] at h2 h3; refine ⟨by rw [h1]; rfl, by simp [addRel, ← h2], h3, by simp [addRel]; omega⟩
theorem GN.step {y : GSym} {T : List GNote × RS} {k : Nat} {r : BL} {y' : GSym} (h : GN y T (k + 1) (some r) y') : GN y T k (rNote (some r)).2 (addNote y' (rNote (some r)).1) := by
 obtain ⟨h1, h2, h3, h4⟩ := h; rw [rMany] at h2 h3; refine ⟨by rw [h1]; rfl, by simp [addNote, ← h2], h3, by simp [addNote]; omega⟩
theorem rMany_zero {α : Type} (f : RS → α × RS) (st : RS) : rMany f 0 st = ([], st) := by cases st <;> rfl
theorem rMany_none {α : Type} (f : RS → α × RS) (k : Nat) : rMany f k none = ([], none) := by cases k <;> rfl
theorem GR.done {y : GSym} {T : List GRel × RS} {k : Nat} {st : RS} {y' : GSym} (h : GR y T k st y') (hk : k = 0 ∨ st = none) : y' = withRels y T.1 ∧ st = T.2 := by
 obtain ⟨h1, h2, h3, -⟩ := h; rcases hk with rfl | rfl
 ·rw [rMany_zero] at h2 h3; rw [List.append_nil] at h2; exact ⟨by rw [← h2]; exact h1, h3⟩
 ·rw [rMany_none] at h2 h3; rw [List.append_nil] at h2; exact ⟨by rw [← h2]; exact h1, h3⟩
theorem GN.done {y : GSym} {T : List GNote × RS} {k : Nat} {st : RS} {y' : GSym} (h : GN y T k st y') (hk : k = 0 ∨ st = none) : y' = withNotes y T.1 ∧ st = T.2 := by
 obtain ⟨h1, h2, h3, -⟩ := h; rcases hk with rfl | rfl
 ·rw [rMany_zero] at h2 h3; rw [List.append_nil] at h2; exact ⟨by rw [← h2]; exact h1, h3⟩
 ·rw [rMany_none] at h2 h3; rw [List.append_nil] at h2; exact ⟨by rw [← h2]; exact h1, h3⟩
theorem SymSt.box {R : Nat} {Q : Nat → Prop} {sb rb : Nat} {s : ByteArray} {st : RS} {y : GSym} {w0 w : World} (h : SymSt R Q sb rb s st y w0 w) :
 SymSt (w.alloc (.cells #[.pointer (some ⟨rb, 0, none⟩)] 166)).heap.size (fun g => Q g ∨ g = w.heap.size) sb rb s st y w0 (w.alloc (.cells #[.pointer (some ⟨rb, 0, none⟩)] 166)) := by
 have k := (h.keep (alloc_old w (.cells #[.pointer (some ⟨rb, 0, none⟩)] 166))).fresh; refine ⟨fun g hg => ?_, k.y, k.rd, k.kb, k.rlt, k.sle, k.slt, k.rle⟩
 rcases hg with hg | rfl
 ·exact k.q g hg
 ·exact ⟨heap_alloc_new w _, h.kb.size, by simp⟩
theorem SymSt.sub {R : Nat} {Q Q' : Nat → Prop} {sb rb : Nat} {s : ByteArray} {st : RS} {y : GSym} {w0 w : World} (h : SymSt R Q sb rb s st y w0 w) (hq : ∀ g, Q' g → Q g) : SymSt R Q' sb rb s st y w0 w :=
 ⟨fun g hg => h.q g (hq g hg), h.y, h.rd, h.kb, h.rlt, h.sle, h.slt, h.rle⟩
set_option maxHeartbeats 2000000 in
theorem goesR (R : Nat) (Q : Nat → Prop) (qb sb rb : Nat) (hq : Q qb) (s : ByteArray) (st : RS) (y : GSym) (w0 w : World) (k : Nat) (h : SymSt R Q sb rb s st y w0 w) (hlen : y.rels.length + k ≤ 70000) :
 Calls Tryz.prog 89 #[.agg #[.pointer (some ⟨rb, 0, none⟩)], .int .u32 k, .func (.func 130) #[] #[.pointer (some ⟨qb, 0, none⟩), .pointer (some ⟨sb, 0, none⟩)]] w fun e w' => e = .returned (.tuple #[]) ∧ ∃ R', SymSt R' Q sb rb s (rMany rRel k st).2 (withRels y (y.rels ++ (rMany rRel k st).1)) w0 w' := by
 have HS0 := Lib.hid h.box; clear h; have HG0 : Hid (GR y (y.rels ++ (rMany rRel k st).1, (rMany rRel k st).2) k st y) := ⟨rfl, rfl, rfl, hlen⟩; generalize hT : (y.rels ++ (rMany rRel k st).1, (rMany rRel k st).2) = T at HG0; have HT := Lib.hid hT; clear hT; go_enter Tryz.func89, Tryz.ntmps89; go_wp2; generalize w.alloc (.cells #[.pointer (some ⟨rb, 0, none⟩)] 166) = w1 at HS0 ⊢; generalize w.heap.size = gb at HS0 ⊢
 go_loopw [1] (fun v1 wr => ∃ (j : Nat) (st' : RS) (y' : GSym) (R' : Nat), v1 = .int .u32 j ∧ GR y T j st' y' ∧ SymSt R' (fun g => Q g ∨ g = gb) sb rb s st' y' w0 wr) (fun v1 _ => (intOf v1).toNat)
 case atStart => exact ⟨k, st, y, _, rfl, HG0.out, HS0.out⟩
 case round =>
  clear HG0 HS0; obtain ⟨j, st', y', R', rfl, hg, hs⟩ := hrel; have HG := Lib.hid hg; have HS := Lib.hid hs; have hj := hg.2.2.2; clear hg hs
  by_cases hj0 : j = 0
  ·have d : decide ((0 : Int) < (j : Int)) = false := by simp; omega
   have d' : decide (0 < j) = false := by simp; omega
   have HD := Lib.hid (HG.out.done (.inl hj0)); clear hj0; go_wp2; go_end0; obtain ⟨h1, h2⟩ := HD.out; refine ⟨rfl, R', ?_⟩; have hs := HS.out.sub (Q' := Q) (fun g hg => .inl hg)
   rw [h1, h2, ← HT.out] at hs; exact hs
  ·have d : decide ((0 : Int) < (j : Int)) = true := by simp; omega
   have d' : decide (0 < j) = true := by simp; omega
   have c := HS.out.c (qb := gb) (.inr rfl); obtain ⟨a, f, hb, he⟩ := HS.out.rd; have HF := Lib.hid (fault_any rb s a f wr hb); have HE := Lib.hid he; clear hb he
   by_cases hf : f = 0
   ·subst hf; have HE2 : Hid (st' = some (s.data.toList.drop a)) := HE.out.trans stOf_ok; generalize s.data.toList.drop a = r at HE2; obtain ⟨i, rfl⟩ : ∃ i, j = i + 1 := ⟨j - 1, by omega⟩
    have hg := HG.out; rw [HE2.out] at hg; have HGS := Lib.hid hg.step; have HCL := Lib.hid (sym1_any R' (fun g => Q g ∨ g = gb) qb sb rb (.inl hq) s st' y' w0 wr HS.out (by omega))
    rw [HE2.out] at HCL; clear hg HE; go_wp2_with fail; refine HF.out.mono ?_; rintro e w2 ⟨rfl, rfl⟩; clear HF c; go_wp2_with fail; refine HCL.out.mono ?_; rintro e w3 ⟨rfl, R2, hs3⟩; have H3 := Lib.hid hs3; clear hs3 HCL; have hs1 : ((i : Int) + 1) - 1 = (i : Int) := by omega
    go_wp2; go_roundw
    case rel => exact ⟨i, _, _, R2, by first | rfl | go_num, HGS.out, H3.out⟩
    case measure => simp [intOf]
   ·have HN : Hid (st' = none) := HE.out.trans (stOf_spoilt hf); have bf : (f == 0) = false := by simpa using hf
    have HD := Lib.hid (HG.out.done (.inr HN.out)); clear hf; go_wp2_with fail; refine HF.out.mono ?_; rintro e w2 ⟨rfl, rfl⟩; clear HF c; go_wp2; go_end0; obtain ⟨h1, h2⟩ := HD.out; refine ⟨rfl, R', ?_⟩; have hs := HS.out.sub (Q' := Q) (fun g hg => .inl hg)
    rw [h1, h2, ← HT.out] at hs; exact hs
set_option maxHeartbeats 2000000 in
theorem goesN (R : Nat) (Q : Nat → Prop) (qb sb rb : Nat) (hq : Q qb) (s : ByteArray) (st : RS) (y : GSym) (w0 w : World) (k : Nat) (h : SymSt R Q sb rb s st y w0 w) (hlen : y.notes.length + k ≤ 70000) :
 Calls Tryz.prog 89 #[.agg #[.pointer (some ⟨rb, 0, none⟩)], .int .u32 k, .func (.func 131) #[] #[.pointer (some ⟨qb, 0, none⟩), .pointer (some ⟨sb, 0, none⟩)]] w fun e w' => e = .returned (.tuple #[]) ∧ ∃ R', SymSt R' Q sb rb s (rMany rNote k st).2 (withNotes y (y.notes ++ (rMany rNote k st).1)) w0 w' := by
 have HS0 := Lib.hid h.box; clear h; have HG0 : Hid (GN y (y.notes ++ (rMany rNote k st).1, (rMany rNote k st).2) k st y) := ⟨rfl, rfl, rfl, hlen⟩; generalize hT : (y.notes ++ (rMany rNote k st).1, (rMany rNote k st).2) = T at HG0; have HT := Lib.hid hT; clear hT; go_enter Tryz.func89, Tryz.ntmps89; go_wp2; generalize w.alloc (.cells #[.pointer (some ⟨rb, 0, none⟩)] 166) = w1 at HS0 ⊢; generalize w.heap.size = gb at HS0 ⊢
 go_loopw [1] (fun v1 wr => ∃ (j : Nat) (st' : RS) (y' : GSym) (R' : Nat), v1 = .int .u32 j ∧ GN y T j st' y' ∧ SymSt R' (fun g => Q g ∨ g = gb) sb rb s st' y' w0 wr) (fun v1 _ => (intOf v1).toNat)
 case atStart => exact ⟨k, st, y, _, rfl, HG0.out, HS0.out⟩
 case round =>
  clear HG0 HS0; obtain ⟨j, st', y', R', rfl, hg, hs⟩ := hrel; have HG := Lib.hid hg; have HS := Lib.hid hs; have hj := hg.2.2.2; clear hg hs
  by_cases hj0 : j = 0
  ·have d : decide ((0 : Int) < (j : Int)) = false := by simp; omega
   have d' : decide (0 < j) = false := by simp; omega
   have HD := Lib.hid (HG.out.done (.inl hj0)); clear hj0; go_wp2; go_end0; obtain ⟨h1, h2⟩ := HD.out; refine ⟨rfl, R', ?_⟩; have hs := HS.out.sub (Q' := Q) (fun g hg => .inl hg)
   rw [h1, h2, ← HT.out] at hs; exact hs
  ·have d : decide ((0 : Int) < (j : Int)) = true := by simp; omega
   have d' : decide (0 < j) = true := by simp; omega
   have c := HS.out.c (qb := gb) (.inr rfl); obtain ⟨a, f, hb, he⟩ := HS.out.rd; have HF := Lib.hid (fault_any rb s a f wr hb); have HE := Lib.hid he; clear hb he
   by_cases hf : f = 0
   ·subst hf; have HE2 : Hid (st' = some (s.data.toList.drop a)) := HE.out.trans stOf_ok; generalize s.data.toList.drop a = r at HE2; obtain ⟨i, rfl⟩ : ∃ i, j = i + 1 := ⟨j - 1, by omega⟩
    have hg := HG.out; rw [HE2.out] at hg; have HGS := Lib.hid hg.step; have HCL := Lib.hid (sym2_any R' (fun g => Q g ∨ g = gb) qb sb rb (.inl hq) s st' y' w0 wr HS.out (by omega))
    rw [HE2.out] at HCL; clear hg HE; go_wp2_with fail; refine HF.out.mono ?_; rintro e w2 ⟨rfl, rfl⟩; clear HF c; go_wp2_with fail; refine HCL.out.mono ?_; rintro e w3 ⟨rfl, R2, hs3⟩; have H3 := Lib.hid hs3; clear hs3 HCL; have hs1 : ((i : Int) + 1) - 1 = (i : Int) := by omega
    go_wp2; go_roundw
    case rel => exact ⟨i, _, _, R2, by first | rfl | go_num, HGS.out, H3.out⟩
    case measure => simp [intOf]
   ·have HN : Hid (st' = none) := HE.out.trans (stOf_spoilt hf); have bf : (f == 0) = false := by simpa using hf
    have HD := Lib.hid (HG.out.done (.inr HN.out)); clear hf; go_wp2_with fail; refine HF.out.mono ?_; rintro e w2 ⟨rfl, rfl⟩; clear HF c; go_wp2; go_end0; obtain ⟨h1, h2⟩ := HD.out; refine ⟨rfl, R', ?_⟩; have hs := HS.out.sub (Q' := Q) (fun g hg => .inl hg)
    rw [h1, h2, ← HT.out] at hs; exact hs
end
end Go.Proofs.YtboegjdkedjhcaaGreatDoor
