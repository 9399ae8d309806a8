/- The walk of objfile.reading.sym. The walks of reach's begin and goes. A scope whose label is jumped back to, and walked into once. No program in sight. The walks of reach's entry, told and Kept. The walks of reach's told and All. The walk of reach.All. -/
import Derived.Test.YtboegjdkedjhcaaGreatDoorBs23
import Derived.Test.YtboegjdkedjhcaaGreatDoorBs22
import Derived.Test.YtboegjdkedjhcaaGreatDoorBs20
import Derived.Test.YtboegjdkedjhcaaGreatDoorBs14
import Derived.WalkMore
import Derived.ScopeJumps
import Derived.Test.YtboegjdkedjhcaaGreatDoorBs18
import Derived.Test.YtboegjdkedjhcaaGreatDoorBs07
namespace Go.Proofs.YtboegjdkedjhcaaGreatDoor
set_option maxRecDepth 100000
section
open Go.RowKit Go.Maps
theorem SymSt.put {R : Nat} {Q : Nat → Prop} {sb rb : Nat} {s : ByteArray} {st : RS} {y : GSym} {w0 w : World} (h : SymSt R Q sb rb s st y w0 w) (y' : GSym) (j : Nat) (v : Value) (hr : y'.rels = y.rels) (hn : y'.notes = y.notes)
 (hs : ∀ vr vn, (#[.string y.name, .int .u8 y.bind, .int .u8 y.kind, .int .u32 y.size, .string y.bytes, vr, vn] : Array Value).setIfInBounds j v = #[.string y'.name, .int .u8 y'.bind, .int .u8 y'.kind, .int .u32 y'.size, .string y'.bytes, vr, vn]) :
 SymSt R Q sb rb s st y' w0 (w.setCell ⟨sb, j, none⟩ v) := by
 obtain ⟨vr, vn, h1, h2, h3, h4, h5⟩ := h.y; have r1 := h.rlt; have r3 := h.sle; have r5 := h.slt; have r6 := h.rle; have hset : ∀ g, g ≠ sb → (w.setCell ⟨sb, j, none⟩ v).heap[g]? = w.heap[g]? := fun g hgs => Below.heap_setCell _ _ _ _ (by simpa using hgs)
 have hqs : ∀ g, Q g → g ≠ sb := fun g hg e => by have h2 := (h.q g hg).1; rw [e, h1] at h2; simp at h2
 refine ⟨fun g hg => by rw [hset g (hqs g hg)]; exact h.q g hg, ⟨vr, vn, ?_, ?_, ?_, h4, h5⟩, h.rd.congr (hset rb (by omega)), KB.setCell h.kb (.inr r3) _, r1, r3, r5, by simpa using r6⟩
 ·rw [← hs]; simp [World.setCell, Array.getElem?_modify, h1]
 ·rw [hr]; exact own_congr h2 fun g hg => hset g fun e => own_ne_box h2 (e ▸ h1) (by decide) hg
 ·rw [hn]; exact own_congr h3 fun g hg => hset g fun e => own_ne_box h3 (e ▸ h1) (by decide) hg
theorem SymSt.five {R : Nat} {Q : Nat → Prop} {sb rb : Nat} {s : ByteArray} {st : RS} {y : GSym} {w0 w : World} (h : SymSt R Q sb rb s st y w0 w) :
 (w.cell? ⟨sb, 0, none⟩ = some (.string y.name) ∧ w.cell? ⟨sb, 1, none⟩ = some (.int .u8 y.bind) ∧ w.cell? ⟨sb, 2, none⟩ = some (.int .u8 y.kind) ∧ w.cell? ⟨sb, 3, none⟩ = some (.int .u32 y.size) ∧ w.cell? ⟨sb, 4, none⟩ = some (.string y.bytes)) ∧ ∀ j, w.frozen? ⟨sb, j, none⟩ = false := by
 obtain ⟨vr, vn, h1, -⟩ := h.y; exact ⟨⟨Lib.cell_of_heap h1 0, Lib.cell_of_heap h1 1, Lib.cell_of_heap h1 2, Lib.cell_of_heap h1 3, Lib.cell_of_heap h1 4⟩, fun j => Lib.frozen_of_heap h1 j⟩
theorem SymSt.nq {R : Nat} {Q : Nat → Prop} {sb rb : Nat} {s : ByteArray} {st : RS} {y : GSym} {w0 w : World} (h : SymSt R Q sb rb s st y w0 w) {qb : Nat} (hq : Q qb) : qb ≠ sb := fun e => by
 obtain ⟨vr, vn, h1, -⟩ := h.y; have h2 := (h.q qb hq).1; rw [e, h1] at h2; simp at h2
theorem goesR_int (R : Nat) (Q : Nat → Prop) (qb sb rb : Nat) (hq : Q qb) (s : ByteArray) (st : RS) (y : GSym) (w0 w : World) (k : Int) (h : SymSt R Q sb rb s st y w0 w) (hk : 0 ≤ k ∧ k < 65536) (hy : y.rels = []) :
 Calls Tryz.prog 89 #[.agg #[.pointer (some ⟨rb, 0, none⟩)], .int .u32 k, .func (.func 130) #[] #[.pointer (some ⟨qb, 0, none⟩), .pointer (some ⟨sb, 0, none⟩)]] w fun e w' => e = .returned (.tuple #[]) ∧ ∃ R', SymSt R' Q sb rb s (rMany rRel k.toNat st).2 (withRels y (rMany rRel k.toNat st).1) w0 w' := by
 obtain ⟨n, rfl⟩ := Int.eq_ofNat_of_zero_le hk.1; have := goesR R Q qb sb rb hq s st y w0 w n h (by rw [hy]; simp; omega)
 rw [hy, List.nil_append] at this; exact this
theorem goesN_int (R : Nat) (Q : Nat → Prop) (qb sb rb : Nat) (hq : Q qb) (s : ByteArray) (st : RS) (y : GSym) (w0 w : World) (k : Int) (h : SymSt R Q sb rb s st y w0 w) (hk : 0 ≤ k ∧ k < 65536) (hy : y.notes = []) :
 Calls Tryz.prog 89 #[.agg #[.pointer (some ⟨rb, 0, none⟩)], .int .u32 k, .func (.func 131) #[] #[.pointer (some ⟨qb, 0, none⟩), .pointer (some ⟨sb, 0, none⟩)]] w fun e w' => e = .returned (.tuple #[]) ∧ ∃ R', SymSt R' Q sb rb s (rMany rNote k.toNat st).2 (withNotes y (rMany rNote k.toNat st).1) w0 w' := by
 obtain ⟨n, rfl⟩ := Int.eq_ofNat_of_zero_le hk.1; have := goesN R Q qb sb rb hq s st y w0 w n h (by rw [hy]; simp; omega)
 rw [hy, List.nil_append] at this; exact this
def sym0 : GSym := ⟨⟨#[]⟩, 0, 0, 0, ⟨#[]⟩, [], []⟩
def SymRPost (rb : Nat) (s : ByteArray) (r : GSym × RS) (w : World) (e : Ending) (w' : World) : Prop := ∃ vr vn, e = .returned (.agg #[.string r.1.name, .int .u8 r.1.bind, .int .u8 r.1.kind, .int .u32 r.1.size, .string r.1.bytes, vr, vn]) ∧
 w'.ownsRow w.heap.size 133 4 vr r.1.rels.length (r.1.rels.flatMap relCells) ∧ w'.ownsRow w.heap.size 155 3 vn r.1.notes.length (r.1.notes.flatMap noteCells) ∧ RdS w' rb s r.2 ∧ KR rb w w'
set_option maxHeartbeats 4000000 in
theorem symRd_any (rb : Nat) (s : ByteArray) (st : RS) (w : World) (h : RdS w rb s st) :
 Calls Tryz.prog 92 #[.agg #[.pointer (some ⟨rb, 0, none⟩)]] w (SymRPost rb s (rSym st) w) := by
 have hlt := h.lt; have H := Lib.hid h; clear h; go_enter Tryz.func92, Tryz.ntmps92; go_upto_region 1 with fail
 generalize hw1 : (w.alloc (.cells #[.pointer (some ⟨rb, 0, none⟩)] 166)).alloc (.cells #[.string ⟨#[]⟩, .int .u8 0, .int .u8 0, .int .u32 0, .string ⟨#[]⟩, .slice none 0 0, .slice none 0 0] 55) = w1
 have HS : Hid (SymSt w1.heap.size (fun g => g = w.heap.size) (w.heap.size + 1) rb s st sym0 w w1) := by
  subst hw1; have hb : Below w.heap.size w ((w.alloc (.cells #[.pointer (some ⟨rb, 0, none⟩)] 166)).alloc (.cells #[.string ⟨#[]⟩, .int .u8 0, .int .u8 0, .int .u32 0, .string ⟨#[]⟩, .slice none 0 0, .slice none 0 0] 55)) := (alloc_old w _).alloc (by simp) _
  refine ⟨fun g hg => ?_, ⟨.slice none 0 0, .slice none 0 0, ?_, World.ownsRow_nil _ _ _ _, World.ownsRow_nil _ _ _ _, fun g hg => (by cases hg), fun g hg => (by cases hg)⟩, H.out.congr (hb.block rb hlt), KB.of_below hb, hlt, by omega, by simp, Nat.le_refl _⟩
  ·subst hg; exact ⟨by rw [Below.heap_alloc _ _ _ (by simp)]; exact heap_alloc_new w _, Nat.le_refl _, by simp; omega⟩
  ·have := heap_alloc_new (w.alloc (.cells #[.pointer (some ⟨rb, 0, none⟩)] 166)) (.cells #[.string ⟨#[]⟩, .int .u8 0, .int .u8 0, .int .u32 0, .string ⟨#[]⟩, .slice none 0 0, .slice none 0 0] 55); rw [show (w.alloc (.cells #[.pointer (some ⟨rb, 0, none⟩)] 166)).heap.size = w.heap.size + 1 by simp] at this
   exact this
 clear hw1 H; generalize hqb : w.heap.size = qb at HS ⊢; generalize qb + 1 = sb at HS ⊢; have HQB := Lib.hid hqb; clear hqb; have c := HS.out.c (qb := qb) rfl; go_wp2_with fail; refine (readWord_any rb s _ _ HS.out.rd).mono ?_; rintro e wn ⟨rfl, k1, k2⟩; replace HS := Lib.hid (HS.out.read k1 (KRR.of_kr k2)); clear c k1 k2; obtain ⟨⟨b0, b1, b2, b3, b4⟩, bf⟩ := HS.out.five; have f0 := bf 0; clear bf b1 b2 b3 b4; go_upto_region 2 with fail
 replace HS := Lib.hid (HS.out.put { sym0 with name := (rText st).1 } 0 (.string (rText st).1) rfl rfl (fun _ _ => rfl))
 clear b0 f0; generalize wn.setCell ⟨sb, 0, none⟩ (.string (rText st).1) = w2 at HS ⊢; have HD := Lib.hid (HS.out.keep (Below.refl _ _).drew); replace HS := HD; clear HD; have c := HS.out.c (qb := qb) rfl; have nq := HS.out.nq (qb := qb) rfl; have nq1 : ¬ qb = sb := nq; have nq2 : ¬ sb = qb := fun e => nq e.symm
 have hbd := rNum_bd 1 (rText st).2; have hbd2 := rNum_bd 1 (rNum 1 (rText st).2).2; rw [p1] at hbd hbd2; have hw1 : IntKind.u8.wrap (rNum 1 (rText st).2).1 = (rNum 1 (rText st).2).1 := by rw [IntKind.wrap_u8]; omega
 have hw2 : IntKind.u8.wrap (rNum 1 (rNum 1 (rText st).2).2).1 = (rNum 1 (rNum 1 (rText st).2).2).1 := by rw [IntKind.wrap_u8]; omega
 clear hbd hbd2; go_wp2
 go_region_held3 (fun w' => w'.cell? ⟨qb, 0, none⟩ = some (.pointer (some ⟨rb, 0, none⟩))) (go_keep) (first | (go_at_call 90; (with_reducible refine (readNum1 rb s _ _ HS.out.rd).mono ?_); rintro e wn ⟨rfl, k1, k2⟩; replace HS := Lib.hid (HS.out.read k1 (KRR.of_kr k2)); have cn := HS.out.c (qb := qb) rfl; obtain ⟨⟨b0, b1, b2, b3, b4⟩, bf⟩ := HS.out.five; have f1 := bf 1; have f2 := bf 2; have f3 := bf 3; have f4 := bf 4; clear bf k1 k2))
 replace HS := Lib.hid ((HS.out.put { sym0 with name := (rText st).1, bind := (rNum 1 (rText st).2).1 } 1 (.int .u8 (rNum 1 (rText st).2).1) rfl rfl (fun _ _ => rfl)).put { sym0 with name := (rText st).1, bind := (rNum 1 (rText st).2).1, kind := (rNum 1 (rNum 1 (rText st).2).2).1 } 2 (.int .u8 (rNum 1 (rNum 1 (rText st).2).2).1) rfl rfl (fun _ _ => rfl))
 clear b0 b1 b2 b3 b4 f1 f2 f3 f4 hw1 hw2 c; generalize (wn.setCell ⟨sb, 1, none⟩ (.int .u8 (rNum 1 (rText st).2).1)).setCell ⟨sb, 2, none⟩ (.int .u8 (rNum 1 (rNum 1 (rText st).2).2).1) = w3 at HS ⊢; generalize hst3 : (rNum 1 (rNum 1 (rText st).2).2).2 = st3 at HS; have HST3 := Lib.hid hst3; clear hst3; generalize hy3 : ({ sym0 with name := (rText st).1, bind := (rNum 1 (rText st).2).1, kind := (rNum 1 (rNum 1 (rText st).2).2).1 } : GSym) = y3 at HS
 have HY3 := Lib.hid hy3; clear hy3; have HD := Lib.hid (HS.out.keep (Below.refl _ _).drew); replace HS := HD; clear HD; have c := HS.out.c (qb := qb) rfl; go_wp2
 go_region_held3 (fun w' => w'.cell? ⟨qb, 0, none⟩ = some (.pointer (some ⟨rb, 0, none⟩))) (go_keep) (first | (go_at_call 90; (with_reducible refine (readNum4 rb s _ _ HS.out.rd).mono ?_); rintro e wn ⟨rfl, k1, k2⟩; replace HS := Lib.hid (HS.out.read k1 (KRR.of_kr k2)); have cn := HS.out.c (qb := qb) rfl; obtain ⟨⟨b0, b1, b2, b3, b4⟩, bf⟩ := HS.out.five; have f1 := bf 1; have f2 := bf 2; have f3 := bf 3; have f4 := bf 4; clear bf k1 k2) | (go_at_call 88; (with_reducible refine (readWord_any rb s _ _ HS.out.rd).mono ?_); rintro e wn ⟨rfl, k1, k2⟩; replace HS := Lib.hid (HS.out.read k1 (KRR.of_kr k2)); have cn := HS.out.c (qb := qb) rfl; obtain ⟨⟨b0, b1, b2, b3, b4⟩, bf⟩ := HS.out.five; have f1 := bf 1; have f2 := bf 2; have f3 := bf 3; have f4 := bf 4; clear bf k1 k2))
 replace HS := Lib.hid ((HS.out.put { y3 with size := (rNum 4 st3).1 } 3 (.int .u32 (rNum 4 st3).1) rfl rfl (fun _ _ => rfl)).put { y3 with size := (rNum 4 st3).1, bytes := (rText (rNum 4 st3).2).1 } 4 (.string (rText (rNum 4 st3).2).1) rfl rfl (fun _ _ => rfl))
 clear b0 b1 b2 b3 b4 f1 f2 f3 f4 c; generalize (wn.setCell ⟨sb, 3, none⟩ (.int .u32 (rNum 4 st3).1)).setCell ⟨sb, 4, none⟩ (.string (rText (rNum 4 st3).2).1) = w4 at HS ⊢; generalize hst4 : (rText (rNum 4 st3).2).2 = st4 at HS; have HST4 := Lib.hid hst4; clear hst4; generalize hy4 : ({ y3 with size := (rNum 4 st3).1, bytes := (rText (rNum 4 st3).2).1 } : GSym) = y4 at HS
 have HY4 := Lib.hid hy4; clear hy4; have HR4 : Hid (y4.rels = [] ∧ y4.notes = []) := by rw [Hid, ← HY4.out, ← HY3.out]; exact ⟨rfl, rfl⟩
 have HD := Lib.hid (HS.out.keep (Below.refl _ _).drew); replace HS := HD; clear HD; have c := HS.out.c (qb := qb) rfl; have HB2 := Lib.hid (rNum_bd 2 st4); rw [p2] at HB2; go_wp2
 go_cut [24] from 20 to 24 (fun _ wx => ∃ R', SymSt R' (fun g => g = qb) sb rb s (rMany rRel (rNum 2 st4).1.toNat (rNum 2 st4).2).2 (withRels y4 (rMany rRel (rNum 2 st4).1.toNat (rNum 2 st4).2).1) w wx)
 case first =>
  go_region_held3 (fun w' => w'.cell? ⟨qb, 0, none⟩ = some (.pointer (some ⟨rb, 0, none⟩))) (go_keep) (first | (go_at_call 90; (with_reducible refine (readNum2 rb s _ _ HS.out.rd).mono ?_); rintro e wn ⟨rfl, k1, k2⟩; replace HS := Lib.hid (HS.out.read k1 (KRR.of_kr k2)); have cn := HS.out.c (qb := qb) rfl; clear k1 k2) | (go_at_call 89; (with_reducible refine (goesR_int _ (fun g => g = qb) qb sb rb rfl s _ _ w _ _ HS.out HB2.out HR4.out.1).mono ?_); rintro e wn ⟨rfl, R2, hs2⟩; replace HS := Lib.hid hs2; have cn := HS.out.c (qb := qb) rfl; clear hs2))
  all_goals (go_wp2_with fail; go_meet; exact ⟨_, HS.out⟩)
 case rest =>
 obtain ⟨R2, hs2⟩ := hcut; replace HS := Lib.hid hs2; clear hs2; generalize hst5 : (rMany rRel (rNum 2 st4).1.toNat (rNum 2 st4).2).2 = st5 at HS; have HST5 := Lib.hid hst5; clear hst5; generalize hy5 : withRels y4 (rMany rRel (rNum 2 st4).1.toNat (rNum 2 st4).2).1 = y5 at HS; have HY5 := Lib.hid hy5; clear hy5; have HR5 : Hid (y5.notes = []) := by rw [Hid, ← HY5.out]; exact HR4.out.2
 obtain ⟨w5, rfl⟩ : ∃ w5 : World, w5 = wc := ⟨_, rfl⟩; have HD := Lib.hid (HS.out.keep (Below.refl _ _).drew); replace HS := HD; clear HD c HB2 HR4; have c := HS.out.c (qb := qb) rfl; have HB2 := Lib.hid (rNum_bd 1 st5); rw [p1] at HB2; go_wp2
 go_cut [29] from 25 to 29 (fun _ wx => ∃ R', SymSt R' (fun g => g = qb) sb rb s (rMany rNote (rNum 1 st5).1.toNat (rNum 1 st5).2).2 (withNotes y5 (rMany rNote (rNum 1 st5).1.toNat (rNum 1 st5).2).1) w wx)
 case first =>
  go_region_held3 (fun w' => w'.cell? ⟨qb, 0, none⟩ = some (.pointer (some ⟨rb, 0, none⟩))) (go_keep) (first | (go_at_call 90; (with_reducible refine (readNum1 rb s _ _ HS.out.rd).mono ?_); rintro e wn ⟨rfl, k1, k2⟩; replace HS := Lib.hid (HS.out.read k1 (KRR.of_kr k2)); have cn := HS.out.c (qb := qb) rfl; clear k1 k2) | (go_at_call 89; (with_reducible refine (goesN_int _ (fun g => g = qb) qb sb rb rfl s _ _ w _ _ HS.out (by have := HB2.out; omega) HR5.out).mono ?_); rintro e wn ⟨rfl, R2, hs2⟩; replace HS := Lib.hid hs2; have cn := HS.out.c (qb := qb) rfl; clear hs2))
  all_goals (go_wp2_with fail; go_meet; exact ⟨_, HS.out⟩)
 case rest =>
 obtain ⟨R3, hs2⟩ := hcut; replace HS := Lib.hid hs2; clear hs2; obtain ⟨w6, rfl⟩ : ∃ w6 : World, w6 = wc := ⟨_, rfl⟩
 have HE : Hid (rSym st = (withNotes y5 (rMany rNote (rNum 1 st5).1.toNat (rNum 1 st5).2).1, (rMany rNote (rNum 1 st5).1.toNat (rNum 1 st5).2).2)) := by
  rw [Hid, ← HST5.out, ← HY5.out, ← HST4.out, ← HY4.out, ← HST3.out, ← HY3.out]; rfl
 generalize rMany rNote (rNum 1 st5).1.toNat (rNum 1 st5).2 = tn at HS HE; generalize withNotes y5 tn.1 = y6 at HS HE; generalize tn.2 = st6 at HS HE; clear HST5 HY5 HST4 HY4 HST3 HY3 c HB2 HR5 nq nq1 nq2; obtain ⟨vr, vn, g1, g2, g3, -, -⟩ := HS.out.y; obtain ⟨pR, cR, rfl⟩ := own_shape g2; obtain ⟨pN, cN, rfl⟩ := own_shape g3; have G1 := Lib.hid g1; have G2 := Lib.hid g2; have G3 := Lib.hid g3; clear g1 g2 g3; obtain ⟨yn, yb, yk, ys, yy, yr, yt⟩ := y6; simp only [] at G1 G2 G3; have a0 : w6.cell? ⟨sb, 0, none⟩ = some (.string yn) := Lib.cell_of_heap G1.out 0; have a1 : w6.cell? ⟨sb, 1, none⟩ = some (.int .u8 yb) := Lib.cell_of_heap G1.out 1; have a2 : w6.cell? ⟨sb, 2, none⟩ = some (.int .u8 yk) := Lib.cell_of_heap G1.out 2; have a3 : w6.cell? ⟨sb, 3, none⟩ = some (.int .u32 ys) := Lib.cell_of_heap G1.out 3; have a4 : w6.cell? ⟨sb, 4, none⟩ = some (.string yy) := Lib.cell_of_heap G1.out 4; have a5 : w6.cell? ⟨sb, 5, none⟩ = some (.slice pR yr.length cR) := Lib.cell_of_heap G1.out 5; have a6 : w6.cell? ⟨sb, 6, none⟩ = some (.slice pN yt.length cN) := Lib.cell_of_heap G1.out 6; have e0 : w6.frozen? ⟨sb, 0, none⟩ = false := Lib.frozen_of_heap G1.out 0; have e1 : w6.frozen? ⟨sb, 1, none⟩ = false := Lib.frozen_of_heap G1.out 1; have e2 : w6.frozen? ⟨sb, 2, none⟩ = false := Lib.frozen_of_heap G1.out 2; have e3 : w6.frozen? ⟨sb, 3, none⟩ = false := Lib.frozen_of_heap G1.out 3; have e4 : w6.frozen? ⟨sb, 4, none⟩ = false := Lib.frozen_of_heap G1.out 4
 have e5 : w6.frozen? ⟨sb, 5, none⟩ = false := Lib.frozen_of_heap G1.out 5; have e6 : w6.frozen? ⟨sb, 6, none⟩ = false := Lib.frozen_of_heap G1.out 6; go_wp2; refine bodyPost_ret (v := .agg #[.string yn, .int .u8 yb, .int .u8 yk, .int .u32 ys, .string yy, .slice pR yr.length cR, .slice pN yt.length cN]) (by simp [results, Tryz.results92, go_sem, *]) rfl ?_
 rw [HE.out]; have hset : ∀ (W : World) (j : Nat) (u : Value) (g : Nat), g ≠ sb → (W.setCell ⟨sb, j, none⟩ u).heap[g]? = W.heap[g]? := fun W j u g hg => Below.heap_setCell _ _ _ _ (by simpa using hg)
 have hsb := HS.out.sle; have hrb := HS.out.rlt; refine ⟨_, _, rfl, own_congr G2.out fun g hg => ?_, own_congr G3.out fun g hg => ?_, HS.out.rd.congr ?_, ((((((KB.setCell HS.out.kb (.inr hsb) _).setCell (.inr hsb) _).setCell (.inr hsb) _).setCell (.inr hsb) _).setCell (.inr hsb) _).setCell (.inr hsb) _).setCell (.inr hsb) _⟩
 ·have hgs : g ≠ sb := fun e => own_ne_box G2.out (e ▸ G1.out) (by decide) hg
  simp only [hset _ _ _ g hgs]
 ·have hgs : g ≠ sb := fun e => own_ne_box G3.out (e ▸ G1.out) (by decide) hg
  simp only [hset _ _ _ g hgs]
 ·simp only [hset _ _ _ rb (show rb ≠ sb by omega)]
end
section
theorem wp_scope_jumps2 {P : Program} {a : Act} {w : World} {Q : Exit → Act → World → Prop} {c X : Code} (l : Nat) (J : Act → World → Prop) (μ : Act → World → Nat) (hf : findLabel c l = some (Code.seq Code.skip X))
 (hX : ∀ a w, J a w → X.wp P (Exit.jump l (fun a' w' => J a' w' ∧ μ a' w' < μ a w) Q) a w)
 (first : (∀ a w, J a w → X.wp P (Exit.jump l J Q) a w) → c.wp P (Exit.jump l J Q) a w) : (Code.scope c).wp P Q a w :=
 wp_scope_jumps l J μ hf (first fun a w h => wp_mono (hX a w h) fun e a' w' hq => by
  cases e with
  | goto l' => exact ⟨hq.1, hq.2.1⟩
  | normal => exact hq
  | exit id => exact hq
  | ret => exact hq
  | panic ch => exact hq
  | outgrown => exact hq) (fun a w h => wp_seq (wp_skip (hX a w h)))
end
section
open Go.RowKit Go.Maps
set_option maxHeartbeats 1000000 in
theorem rbegin_any (pv : Option Addr) (nv cv : Nat) (w : World) :
 Calls Tryz.prog 109 #[.slice pv nv cv] w fun e w' => (∃ sb mb, e = .returned (.pointer (some ⟨sb, 0, none⟩)) ∧ SrchSt w.heap.size sb mb (.slice pv nv cv) (.slice none 0 0) [] (fun _ => none) w') ∧ Below w.heap.size w w' := by
 have hmm := @run_makeMap Tryz.prog; go_enter Tryz.func109, Tryz.ntmps109; go_wp2; go_ret; refine ⟨⟨_, _, rfl, ⟨?_, PRow.nil _ _, (MapKFn.made placeE w).alloc _, by omega, by omega⟩⟩, (alloc_old w _).alloc (by simp) _⟩
 have := heap_alloc_new (w.alloc (.map #[] 0)) (.cells #[.slice none 0 0, .map (some w.heap.size), .slice pv nv cv] 196); simpa using this
theorem valid_ok {l : List GObj} {p : PP} (hm : mayAll l = true) (h : validP l p) : placeOkK p := by
 obtain ⟨o, s, h1, h2⟩ := h; simp only [mayAll, Bool.and_eq_true, decide_eq_true_eq, List.all_eq_true] at hm; have h3 := hm.2 o (List.mem_of_getElem? h1); simp only [mayP, Bool.and_eq_true, decide_eq_true_eq] at h3; have h4 := (List.getElem?_eq_some_iff.1 h1).1; have h5 := (List.getElem?_eq_some_iff.1 h2).1; exact ⟨by omega, by omega⟩
def GoesPost (w0 : World) (sb mb : Nat) (ov : Value) (l : List GObj) (p : PP) (e : Ending) (w' : World) : Prop :=
 e = .returned (.tuple #[]) ∧ ∃ v' L F, SrchSt w0.heap.size sb mb ov v' L F w' ∧ Goes l p L F L.length ∧ Below w0.heap.size w0 w'
def GoesJ (w0 : World) (wb sb mb : Nat) (ov : Value) (l : List GObj) (p1 p2 : Nat) (a' : Act) (wr : World) : Prop :=
 ∃ (n : Nat) (v : Value) (L : List PP) (F : PP → Option PP) (u2 u5 u6 u7 u8 u9 u10 u11 u12 u13 u14 u15 u16 u17 u18 u19 u20 u21 u22 u23 u24 u25 u26 u27 u28 u29 u30 u31 u32 u33 u34 u35 u36 u37 u38 u39 u40 u41 u42 u43 u44 u45 u46 u47 u48 u49 u50 u51 : Value), a' = { tmps := #[.pointer (some ⟨sb, 0, none⟩), .agg #[.int .i64 p1, .int .i64 p2], u2, .pointer (some ⟨wb, 0, none⟩), .int .i64 n, u5, u6, u7, u8, u9, u10, u11, u12, u13, u14, u15, u16, u17, u18, u19, u20, u21, u22, u23, u24, u25, u26, u27, u28, u29, u30, u31, u32, u33, u34, u35, u36, u37, u38, u39, u40, u41, u42, u43, u44, u45, u46, u47, u48, u49, u50, u51], defers := [] } ∧ SrchSt w0.heap.size sb mb ov v L F wr ∧ Goes l (p1, p2) L F n ∧ n < L.length ∧ Below w0.heap.size w0 wr
set_option maxHeartbeats 4000000 in
theorem goes_any (hsort : SortOk) (sb mb : Nat) (ov : Value) (l : List GObj) (p : PP) (w0 w : World) (h : SrchSt w0.heap.size sb mb ov (.slice none 0 0) [] (fun _ => none) w) (hb : Below w0.heap.size w0 w) (ho : ObjsAt w0 ov l) (hc : (beginR l).2 = 0) (hv : validP l p) :
 Calls Tryz.prog 110 #[.pointer (some ⟨sb, 0, none⟩), placeV p] w (GoesPost w0 sb mb ov l p) := by
 have HSORT := Lib.hid hsort; clear hsort; have HS := Lib.hid h; clear h; have HB := Lib.hid hb; clear hb; have HO := Lib.hid ho; clear ho; have HC := Lib.hid hc; clear hc; have HV := Lib.hid hv; clear hv; obtain ⟨p1, p2⟩ := p; have HPO : Hid (placeOkK (p1, p2)) := Lib.hid (valid_ok (beginR_zero HC.out).1 HV.out); unfold placeV; simp only []; go_enter Tryz.func110, Tryz.ntmps110; go_wp2_with fail; refine wp_scope_jumps2 0 (GoesJ w0 w.heap.size sb mb ov l p1 p2) (fun a' _ => 2000 - (intOf (a'.tmps.getD 4 undef)).toNat) rfl ?_ ?_
 ·rintro a' wr ⟨n, v, L, F, u2, u5, u6, u7, u8, u9, u10, u11, u12, u13, u14, u15, u16, u17, u18, u19, u20, u21, u22, u23, u24, u25, u26, u27, u28, u29, u30, u31, u32, u33, u34, u35, u36, u37, u38, u39, u40, u41, u42, u43, u44, u45, u46, u47, u48, u49, u50, u51, rfl, hs, hg, hn, hbel⟩; have hxv : validP l L[n] := hg.valid HV.out _ (List.getElem_mem hn); have hx : L[n]? = some L[n] := List.getElem?_eq_getElem hn; have hL := hg.len HV.out HC.out; obtain ⟨gv, cv, rfl, hgb, hgl⟩ := World.ownsRow.form hs.row (by omega)
  have c0 : wr.cell? ⟨sb, 0, none⟩ = some (.slice (some ⟨gv, 0, none⟩) L.length cv) := Lib.cell_of_heap hs.box 0; have c2 : wr.cell? ⟨sb, 2, none⟩ = some ov := Lib.cell_of_heap hs.box 2; obtain ⟨-, e0, e1⟩ := (placeRow_at hs.row n hn : PlaceR wr gv (n * 2) L[n]); generalize L[n] = x at *; obtain ⟨x1, x2⟩ := x; simp only [] at e0 e1; obtain ⟨o, s, hv1, hv2⟩ := hxv; simp only [] at hv1 hv2; obtain ⟨ha, rfl⟩ := List.getElem?_eq_some_iff.1 hv1; obtain ⟨hb2, -⟩ := List.getElem?_eq_some_iff.1 hv2; have HK := Lib.hid (known_any HSORT.out sb ov l x1 x2 wr hs.lt c2 (ObjsAt.keep hbel HO.out) HC.out ha hb2); unfold placeV at HK; simp only [] at HK; clear hv1 hv2 ha hb2; have HX := Lib.hid hx; clear hx; have HS1 := Lib.hid hs; clear hs; have HG := Lib.hid hg; clear hg; have HBE := Lib.hid hbel; clear hbel; have d1 : (0 : Int) ≤ (n : Int) := by omega
  go_wp2_with (go_at_call 145; refine HK.out.mono ?_; rintro e wk ⟨vo, rfl, ks, ⟨pk, ck, bk, ok, rfl, hck, hmk, hpk, hrk⟩, hmem, hlen, hob, hbk⟩); have HBK := Lib.hid hbk; clear hbk; have HPK := Lib.hid hpk; clear hpk; have HRK := Lib.hid hrk; clear hrk; have HMEM := Lib.hid hmem; clear hmem
  have HI0 : Hid (Inn w0 wk sb mb ov l (p1, p2) (x1, x2) n ks bk 0 (.slice (some ⟨gv, 0, none⟩) L.length cv) L F wk) := by
   refine ⟨HS1.out.keep HBK.out, HG.out, HX.out, fun i hi h0 => by omega, fun hks0 => ⟨rfl, ?_, (HRK.out 0 hks0).1, ?_, ?_⟩, HBE.out.trans (HBK.out.mono HBE.out.size)⟩
   ·have := hob bk (by rw [HPK.out hks0]; rfl)
    intro e; simp [Value.ownBlock] at e; omega
   ·have := hob bk (by rw [HPK.out hks0]; rfl)
    have := HS1.out.lt; omega
   ·have := hob bk (by rw [HPK.out hks0]; rfl)
    have := HS1.out.map.lt; omega
  clear hob; obtain ⟨wo, rfl⟩ : ∃ wo : World, wo = wr := ⟨_, rfl⟩
  go_loopw [24] (fun v24 wi => ∃ (k : Nat) (v : Value) (L' : List PP) (F' : PP → Option PP), k ≤ ks.length ∧ v24 = .int .i64 k ∧ Inn w0 wk sb mb ov l (p1, p2) (x1, x2) n ks bk k v L' F' wi) (fun v24 _ => ks.length - (intOf v24).toNat)
  case atStart => exact ⟨0, _, _, _, Nat.zero_le _, rfl, HI0.out⟩
  case round =>
   obtain ⟨k, v, L', F', hk, rfl, hinn⟩ := hrel; have HI := Lib.hid hinn; clear hinn; clear c0 c2 e0 e1
   by_cases hlt : k < ks.length
   ·obtain rfl := HPK.out (by omega)
    have hLn := (List.getElem?_eq_some_iff.1 HI.out.x).1; have hLx := (List.getElem?_eq_some_iff.1 HI.out.x).2; obtain ⟨gv', cv', rfl, hgb', hgl'⟩ := World.ownsRow.form HI.out.st.row (by omega)
    obtain ⟨hb1, hb2, hb3, hb4, hb5⟩ := HI.out.hb (by omega)
    have c0 : wr.cell? ⟨sb, 0, none⟩ = some (.slice (some ⟨gv', 0, none⟩) L'.length cv') := Lib.cell_of_heap HI.out.st.box 0; obtain ⟨-, e0, e1⟩ := (placeRow_at HI.out.st.row n hLn : PlaceR wr gv' (n * 2) L'[n]); rw [hLx] at e0 e1; obtain ⟨-, y0, y1⟩ := HRK.out k hlt; have t0 : wr.cell? ⟨bk, ok + k * 2, none⟩ = some (.int .i64 ks[k].1) := (World.cell?_of_block (w := wk) (a := ⟨bk, ok + k * 2, none⟩) hb1).trans y0; have t1 : wr.cell? ⟨bk, ok + k * 2 + 1, none⟩ = some (.int .i64 ks[k].2) := (World.cell?_of_block (w := wk) (a := ⟨bk, ok + k * 2 + 1, none⟩) hb1).trans y1; have hsl := HI.out.st.lt; have hL' := HI.out.g.len HV.out HC.out
    have hyk : placeOkK ks[k] := by
     obtain ⟨_, _, hf⟩ := (HMEM.out ks[k]).1 (List.getElem_mem hlt); exact valid_ok (beginR_zero HC.out).1 (findR_valid hf)
    have HSTEP := Lib.hid (fun (w5 w6 : World) (e : Ending) (hb : Below wr.heap.size wr w5) (hp : PutPost w0.heap.size sb mb ov (.slice (some ⟨gv', 0, none⟩) L'.length cv') L' F' ks[k] (x1, x2) w5 e w6) => HI.out.step hlt (fun q hq => (HMEM.out q).1 hq) hb hp)
    have HPU := Lib.hid (fun (w5 : World) (hb : Below wr.heap.size wr w5) => put_any w0.heap.size sb mb ov (.slice (some ⟨gv', 0, none⟩) L'.length cv') L' F' ks[k] (x1, x2) w5 (HI.out.st.keep hb) hyk (by omega))
    clear y0 y1 hb1 hb2 hb3 hb4 hb5 hyk hLx; generalize ks[k] = y at *; obtain ⟨y1, y2⟩ := y; simp only [] at t0 t1 e0 e1; unfold placeV at HPU; simp only [] at HPU; have d2 : (0 : Int) ≤ (k : Int) := by omega
    go_wp2_with fail; have HW1 : Hid (Below wr.heap.size wr (wr.alloc (.cells #[.int .i64 y1, .int .i64 y2] 185))) := alloc_old wr _; have b0 : (wr.alloc (.cells #[.int .i64 y1, .int .i64 y2] 185)).cell? ⟨wr.heap.size, 0, none⟩ = some (.int .i64 y1) := by simp [go_sem]
    have b1 : (wr.alloc (.cells #[.int .i64 y1, .int .i64 y2] 185)).cell? ⟨wr.heap.size, 1, none⟩ = some (.int .i64 y2) := by simp [go_sem]
    replace c0 := cell_keep HW1.out hsl c0; replace e0 := cell_keep HW1.out hgl' e0; replace e1 := cell_keep HW1.out hgl' e1; clear t0 t1; generalize wr.alloc (.cells #[.int .i64 y1, .int .i64 y2] 185) = w5 at *
    go_still_tail 12, (by kernel_rfl)
    change wpList _ _ _ _ _ w5.drew; go_wp2_with (go_at_call 144; refine (HPU.out w5.drew HW1.out.drew).mono ?_; rintro e w6 ⟨rfl, hp6⟩; have HP6 := Lib.hid hp6; clear hp6); go_roundw
    case rel =>
     obtain ⟨v2, L2, F2, h2⟩ := HSTEP.out w5.drew w6 _ HW1.out.drew ⟨rfl, HP6.out⟩; exact ⟨k + 1, v2, L2, F2, by omega, by go_num, h2⟩
    case measure => simp [intOf]; omega
   ·have HL := Lib.hid (HI.out.st); obtain ⟨pv', cv', rfl⟩ := own_shape HL.out.row; have c0 : wr.cell? ⟨sb, 0, none⟩ = some (.slice pv' L'.length cv') := Lib.cell_of_heap HL.out.box 0
    have HG2 : Hid (Goes l (p1, p2) L' F' (n + 1)) := HI.out.g.next _ HI.out.x fun q hq => by
     obtain ⟨i, hi, rfl⟩ := List.mem_iff_getElem.1 ((HMEM.out q).2 hq); exact HI.out.m i hi (by omega)
    by_cases hlast : n + 1 < L'.length
    ·have d3 : decide ((n : Int) + 1 < (L'.length : Int)) = true := by simp; omega
     have d4 : decide (n + 1 < L'.length) = true := by simpa using hlast
     go_wp2_with fail
     go_step3
     refine ⟨rfl, ⟨n + 1, _, L', F', _, _, _, _, _, _, _, _, _, _, _, _, _, _, _, _, _, _, _, _, _, _, _, _, _, _, _, _, _, _, _, _, _, _, _, _, _, _, _, _, _, _, _, _, _, _, _, _, rfl, HL.out, HG2.out, hlast, HI.out.b⟩, ?_⟩; simp [intOf]; omega
    ·have d3 : decide ((n : Int) + 1 < (L'.length : Int)) = false := by simp; omega
     have d4 : decide (n + 1 < L'.length) = false := by simpa using hlast
     go_wp2_with fail; simp only [Exit.jump]; go_end0; exact ⟨rfl, _, L', F', HL.out, HG2.out.full (by omega), HI.out.b⟩
 ·intro hX; have HX := Lib.hid hX; clear hX; go_wp2_with fail; have HW1 : Hid (Below w.heap.size w (w.alloc (.cells #[.int .i64 p1, .int .i64 p2] 185))) := alloc_old w _; have b0 : (w.alloc (.cells #[.int .i64 p1, .int .i64 p2] 185)).cell? ⟨w.heap.size, 0, none⟩ = some (.int .i64 p1) := by simp [go_sem]
  have b1 : (w.alloc (.cells #[.int .i64 p1, .int .i64 p2] 185)).cell? ⟨w.heap.size, 1, none⟩ = some (.int .i64 p2) := by simp [go_sem]
  generalize w.alloc (.cells #[.int .i64 p1, .int .i64 p2] 185) = w1 at *; have HPU := Lib.hid (put_any w0.heap.size sb mb ov (.slice none 0 0) [] (fun _ => none) (p1, p2) (p1, p2) w1.drew (HS.out.keep HW1.out.drew) HPO.out (by simp))
  unfold placeV at HPU; simp only [] at HPU
  go_still_tail 5, (by kernel_rfl)
  change wpList _ _ _ _ _ w1.drew; go_wp2_with (go_at_call 144; refine HPU.out.mono ?_; rintro e w2 ⟨rfl, v', hs2, hkb2, hv2⟩)
  go_step3
  rename_i K1 hK1; show K1 _ _; refine hK1 _ _ (HX.out _ _ ⟨0, v', [(p1, p2)], updF (fun _ => none) (p1, p2) (p1, p2), _, _, _, _, _, _, _, _, _, _, _, _, _, _, _, _, _, _, _, _, _, _, _, _, _, _, _, _, _, _, _, _, _, _, _, _, _, _, _, _, _, _, _, _, _, _, _, _, rfl, hs2, Goes.start l (p1, p2), by simp, ?_⟩)
  exact (HB.out.trans ((HW1.out.drew).mono HB.out.size)).trans (hkb2.below (by have := HB.out.size; have := HW1.out.size; simp; omega) (fun k hk e => by have h1 := HS.out.sbl; have h2 := HS.out.mbl; rcases e with e | e | e; omega; omega; cases e))
end
section
open Go.RowKit Go.Maps
theorem box2 (w : World) (a b : Value) (T : TypeId) {w1 : World} (hB : Below (w.alloc (.cells #[a, b] T)).heap.size (w.alloc (.cells #[a, b] T)) w1) :
 w1.cell? ⟨w.heap.size, 0, none⟩ = some a ∧ w1.cell? ⟨w.heap.size, 1, none⟩ = some b ∧ w1.frozen? ⟨w.heap.size, 0, none⟩ = false ∧ w1.frozen? ⟨w.heap.size, 1, none⟩ = false ∧ w.heap.size < w1.heap.size ∧ Below w.heap.size w w1 := by
 refine ⟨cell_keep hB (by simp) (by simp [go_sem]), cell_keep hB (by simp) (by simp [go_sem]), (hB.frozen (p := ⟨w.heap.size, 0, none⟩) (by simp)).trans (by simp [go_sem]), (hB.frozen (p := ⟨w.heap.size, 1, none⟩) (by simp)).trans (by simp [go_sem]), ?_, (alloc_old w _).trans (hB.mono (by simp))⟩
 have := hB.size; simp at this; omega
def entryR (l : List GObj) (nm : ByteArray) : PP × ByteArray × Int :=
 if (beginR l).2 ≠ 0 then ((0, 0), (beginR l).1, (beginR l).2) else match findR l (-1) nm.data.toList with | some p => (p, emptyB, 0) | none => ((0, 0), nm, 121)
def EntryPost (l : List GObj) (nm : ByteArray) (w : World) (e : Ending) (w' : World) : Prop :=
 e = .returned (.tuple #[placeV (entryR l nm).1, .string (entryR l nm).2.1, .int .i64 (entryR l nm).2.2]) ∧ Below w.heap.size w w'
theorem findOut {l : List GObj} {n : List UInt8} (hc : (beginR l).2 = 0) : findAll l (-1) n = fndR (findR l (-1) n) := by
 unfold findAll fndR; rw [hc, if_neg (by simp), if_neg (by omega)]
 cases findR l (-1) n <;> rfl
set_option maxHeartbeats 2000000 in
theorem entry_any (v : Value) (l : List GObj) (nm : ByteArray) (w : World) (h : ObjsAt w v l) (hn : nm.size ≤ 9223372036854775807) :
 Calls Tryz.prog 108 #[.string nm, v] w (EntryPost l nm w) := by
 have HO := Lib.hid h; have HCK := Lib.hid (resCheck_any v l (w.alloc (.cells #[.int .i64 0, .int .i64 0] 185)) (ObjsAt.keep (alloc_old w _) h)); obtain ⟨p, cap, bb, o, rfl, -⟩ := h
 by_cases hc : (beginR l).2 = 0
 ·have HE : Hid (entryR l nm = match findR l (-1) nm.data.toList with | some p => (p, emptyB, 0) | none => ((0, 0), nm, 121)) := by
   unfold entryR; rw [if_neg (by simpa using hc)]; rfl
  have HFA := Lib.hid (findOut (n := nm.data.toList) hc); rw [hc] at HCK; clear hc; generalize (beginR l).1 = bn at HCK; generalize hf : findR l (-1) nm.data.toList = fp at HE HFA; clear hf; obtain ⟨pa, pb, c, hfp⟩ : ∃ (pa pb : Nat) (c : Int), fndR fp = ((pa, pb), c) := ⟨_, _, _, rfl⟩; have HFP := Lib.hid hfp; clear hfp
  have HF : Hid (∀ W, Below w.heap.size w W → Calls Tryz.prog 114 #[.slice p l.length cap, .int .i64 (-1), .string nm] W fun e w' => e = .returned (.tuple #[.agg #[.int .i64 pa, .int .i64 pb], .int .i64 c]) ∧ Below W.heap.size W w') := fun W hW => by
   have := resFind_any (.slice p l.length cap) l (-1) nm W (ObjsAt.keep hW HO.out) hn; rw [HFA.out, HFP.out] at this; exact this
  go_enter Tryz.func108, Tryz.ntmps108; go_wp2_with fail; refine HCK.out.mono ?_; rintro e w1 ⟨rfl, hB⟩; obtain ⟨q0, q1, r0, r1, hz, hb1⟩ := box2 w _ _ _ hB; have HB1 := Lib.hid hb1; clear hb1; clear hB HCK; go_wp2_with fail; refine (HF.out w1 HB1.out).mono ?_; rintro e w2 ⟨rfl, hB2⟩; replace q0 := cell_keep hB2 hz q0; replace q1 := cell_keep hB2 hz q1; replace r0 := (hB2.frozen (p := ⟨w.heap.size, 0, none⟩) hz).trans r0; replace r1 := (hB2.frozen (p := ⟨w.heap.size, 1, none⟩) hz).trans r1; have hz2 : w.heap.size < w2.heap.size := by have := hB2.size; omega
  have HB2 : Hid (Below w.heap.size w w2) := HB1.out.trans (hB2.mono HB1.out.size); clear hB2 HB1 hz
  by_cases hc0 : c = 0
  ·subst hc0
   have HE2 : Hid (entryR l nm = ((pa, pb), emptyB, 0)) := by
    have h1 := HE.out; have h2 := HFP.out; cases fp with
    | none => simp [fndR] at h2
    | some pq => simp only [fndR, Prod.mk.injEq, and_true] at h2; rw [h1, ← h2]; rfl
   go_wp2_with fail; refine bodyPost_ret (v := .tuple #[.agg #[.int .i64 pa, .int .i64 pb], .string ⟨#[]⟩, .int .i64 0]) (by simp [results, Tryz.results108, go_sem, q0, q1, hz2]) rfl ⟨by rw [HE2.out]; rfl, ?_⟩
   exact ((HB2.out.setCell (by simp) _).setCell (by simp) _).alloc (by simp; omega) _
  ·have hcb : (c != 0) = true := by simpa using hc0
   have HE2 : Hid (entryR l nm = ((pa, pb), nm, c)) := by
    have h1 := HE.out; have h2 := HFP.out; cases fp with
    | none => simp only [fndR, Prod.mk.injEq] at h2; rw [h1, ← h2.1.1, ← h2.1.2, ← h2.2]; rfl
    | some pq => simp only [fndR, Prod.mk.injEq] at h2; exact absurd h2.2.symm hc0
   clear hc0; go_wp2_with fail; refine bodyPost_ret (v := .tuple #[.agg #[.int .i64 pa, .int .i64 pb], .string nm, .int .i64 c]) (by simp [results, Tryz.results108, go_sem, q0, q1, hz2]) rfl ⟨by rw [HE2.out]; rfl, ?_⟩
   exact ((HB2.out.setCell (by simp) _).setCell (by simp) _).alloc (by simp; omega) _
 ·have HE : Hid (entryR l nm = ((0, 0), (beginR l).1, (beginR l).2)) := by unfold entryR; rw [if_pos hc]; rfl
  have hcb : ((beginR l).2 != 0) = true := by simpa using hc
  clear hc; generalize (beginR l).1 = bn at *; generalize (beginR l).2 = bc at *; go_enter Tryz.func108, Tryz.ntmps108; go_wp2_with fail; refine HCK.out.mono ?_; rintro e w1 ⟨rfl, hB⟩; obtain ⟨q0, q1, r0, r1, hz, hb1⟩ := box2 w _ _ _ hB; go_wp2_with fail; refine bodyPost_ret (v := .tuple #[.agg #[.int .i64 0, .int .i64 0], .string bn, .int .i64 bc]) (by simp [results, Tryz.results108, go_sem, q0, q1]) rfl ⟨by rw [HE.out]; rfl, ?_⟩
  exact (hb1.setCell (by simp) _).setCell (by simp) _
end
section
open Go.RowKit Go.Maps
def refsC (l : List GObj) (x : PP) : Int := (refsV (beginR l) l x.1 x.2).2.2
end
section
open Go.RowKit Go.Maps
def allK (l : List GObj) : List PP := selPlaces (flat l) (flat l)
end
end Go.Proofs.YtboegjdkedjhcaaGreatDoor
