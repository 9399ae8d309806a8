/- The walk of objfile.reading.sym. Copied objects: each has blocks of its own. What the reading of an object keeps, whatever the reader. append onto a row of one's own, as one step of a region that draws its order. No program in sight. The walks of objfile.Get's function and of goes with it. Where nothing is large, the program and the reference accept the same objects. No program in sight. What may be fits its bytes. No program in sight. One object that is not large: what may be, and whether its bytes are few. No program in sight. -/
import Derived.Test.YtboegjdkedjhcaaGreatDoorBd05
import Derived.Test.YtboegjdkedjhcaaGreatDoorBd04
import Derived.Deep.Onto
import Derived.WalkKit
import Derived.OwnWalk
import Derived.Maps.AppendAt
import Derived.Deep.RegionLawGrows
import Derived.Deep.RegionHeld3
import Derived.Test.YtboegjdkedjhcaaGreatDoorBd02
import Derived.IntWalk
import Derived.Test.YtboegjdkedjhcaaGreatDoorBd03
namespace Go.Proofs.YtboegjdkedjhcaaGreatDoor
open Go.RowKit Go.Maps
theorem SymSt.put {R : Nat} {Q : Nat → Prop} {sb rb : Nat} {s : ByteArray} {st : RS} {y : GSym} {w0 w : World} (h : SymSt R Q sb rb s st y w0 w) (y' : GSym) (j : Nat) (v : Value) (hr : y'.rels = y.rels) (hn : y'.notes = y.notes)
    (hs : ∀ vr vn, (#[.string y.name, .int .u8 y.bind, .int .u8 y.kind, .int .u32 y.size, .string y.bytes, vr, vn] : Array Value).setIfInBounds j v = #[.string y'.name, .int .u8 y'.bind, .int .u8 y'.kind, .int .u32 y'.size, .string y'.bytes, vr, vn]) :
    SymSt R Q sb rb s st y' w0 (w.setCell ⟨sb, j, none⟩ v) := by
  obtain ⟨vr, vn, h1, h2, h3, h4, h5⟩ := h.y
  have r1 := h.rlt; have r3 := h.sle; have r5 := h.slt; have r6 := h.rle
  have hset : ∀ g, g ≠ sb → (w.setCell ⟨sb, j, none⟩ v).heap[g]? = w.heap[g]? := fun g hgs => Below.heap_setCell _ _ _ _ (by simpa using hgs)
  have hqs : ∀ g, Q g → g ≠ sb := fun g hg e => by have h2 := (h.q g hg).1; rw [e, h1] at h2; simp at h2
  refine ⟨fun g hg => by rw [hset g (hqs g hg)]; exact h.q g hg, ⟨vr, vn, ?_, ?_, ?_, h4, h5⟩, h.rd.congr (hset rb (by omega)), KB.setCell h.kb (.inr r3) _, r1, r3, r5, by simpa using r6⟩
  · rw [← hs]; simp [World.setCell, Array.getElem?_modify, h1]
  · rw [hr]; exact own_congr h2 fun g hg => hset g fun e => own_ne_box h2 (e ▸ h1) (by decide) hg
  · rw [hn]; exact own_congr h3 fun g hg => hset g fun e => own_ne_box h3 (e ▸ h1) (by decide) hg
/-- the symbol's first five cells -/
theorem SymSt.five {R : Nat} {Q : Nat → Prop} {sb rb : Nat} {s : ByteArray} {st : RS} {y : GSym} {w0 w : World} (h : SymSt R Q sb rb s st y w0 w) :
    (w.cell? ⟨sb, 0, none⟩ = some (.string y.name) ∧ w.cell? ⟨sb, 1, none⟩ = some (.int .u8 y.bind) ∧ w.cell? ⟨sb, 2, none⟩ = some (.int .u8 y.kind) ∧ w.cell? ⟨sb, 3, none⟩ = some (.int .u32 y.size) ∧ w.cell? ⟨sb, 4, none⟩ = some (.string y.bytes)) ∧ ∀ j, w.frozen? ⟨sb, j, none⟩ = false := by
  obtain ⟨vr, vn, h1, -⟩ := h.y
  exact ⟨⟨Lib.cell_of_heap h1 0, Lib.cell_of_heap h1 1, Lib.cell_of_heap h1 2, Lib.cell_of_heap h1 3, Lib.cell_of_heap h1 4⟩, fun j => Lib.frozen_of_heap h1 j⟩
theorem SymSt.nq {R : Nat} {Q : Nat → Prop} {sb rb : Nat} {s : ByteArray} {st : RS} {y : GSym} {w0 w : World} (h : SymSt R Q sb rb s st y w0 w) {qb : Nat} (hq : Q qb) : qb ≠ sb := fun e => by
  obtain ⟨vr, vn, h1, -⟩ := h.y
  have h2 := (h.q qb hq).1; rw [e, h1] at h2; simp at h2
theorem goesR_int (R : Nat) (Q : Nat → Prop) (qb sb rb : Nat) (hq : Q qb) (s : ByteArray) (st : RS) (y : GSym) (w0 w : World) (k : Int) (h : SymSt R Q sb rb s st y w0 w) (hk : 0 ≤ k ∧ k < 65536) (hy : y.rels = []) :
    Calls Tryz.prog 89 #[.agg #[.pointer (some ⟨rb, 0, none⟩)], .int .u32 k, .func (.func 130) #[] #[.pointer (some ⟨qb, 0, none⟩), .pointer (some ⟨sb, 0, none⟩)]] w fun e w' => e = .returned (.tuple #[]) ∧ ∃ R', SymSt R' Q sb rb s (rMany rRel k.toNat st).2 (withRels y (rMany rRel k.toNat st).1) w0 w' := by
  obtain ⟨n, rfl⟩ := Int.eq_ofNat_of_zero_le hk.1
  have := goesR R Q qb sb rb hq s st y w0 w n h (by rw [hy]; simp; omega)
  rw [hy, List.nil_append] at this
  exact this
theorem goesN_int (R : Nat) (Q : Nat → Prop) (qb sb rb : Nat) (hq : Q qb) (s : ByteArray) (st : RS) (y : GSym) (w0 w : World) (k : Int) (h : SymSt R Q sb rb s st y w0 w) (hk : 0 ≤ k ∧ k < 65536) (hy : y.notes = []) :
    Calls Tryz.prog 89 #[.agg #[.pointer (some ⟨rb, 0, none⟩)], .int .u32 k, .func (.func 131) #[] #[.pointer (some ⟨qb, 0, none⟩), .pointer (some ⟨sb, 0, none⟩)]] w fun e w' => e = .returned (.tuple #[]) ∧ ∃ R', SymSt R' Q sb rb s (rMany rNote k.toNat st).2 (withNotes y (rMany rNote k.toNat st).1) w0 w' := by
  obtain ⟨n, rfl⟩ := Int.eq_ofNat_of_zero_le hk.1
  have := goesN R Q qb sb rb hq s st y w0 w n h (by rw [hy]; simp; omega)
  rw [hy, List.nil_append] at this
  exact this
def sym0 : GSym := ⟨⟨#[]⟩, 0, 0, 0, ⟨#[]⟩, [], []⟩
def SymRPost (rb : Nat) (s : ByteArray) (r : GSym × RS) (w : World) (e : Ending) (w' : World) : Prop := ∃ vr vn, e = .returned (.agg #[.string r.1.name, .int .u8 r.1.bind, .int .u8 r.1.kind, .int .u32 r.1.size, .string r.1.bytes, vr, vn]) ∧
  w'.ownsRow w.heap.size 133 4 vr r.1.rels.length (r.1.rels.flatMap relCells) ∧ w'.ownsRow w.heap.size 155 3 vn r.1.notes.length (r.1.notes.flatMap noteCells) ∧ RdS w' rb s r.2 ∧ KR rb w w'
set_option maxRecDepth 100000 in
set_option maxHeartbeats 4000000 in
theorem symRd_any (rb : Nat) (s : ByteArray) (st : RS) (w : World) (h : RdS w rb s st) :
    Calls Tryz.prog 92 #[.agg #[.pointer (some ⟨rb, 0, none⟩)]] w (SymRPost rb s (rSym st) w) := by
  have hlt := h.lt
  have H := Lib.hid h; clear h
  go_enter Tryz.func92, Tryz.ntmps92
  go_upto_region 1 with fail
  generalize hw1 : (w.alloc (.cells #[.pointer (some ⟨rb, 0, none⟩)] 166)).alloc (.cells #[.string ⟨#[]⟩, .int .u8 0, .int .u8 0, .int .u32 0, .string ⟨#[]⟩, .slice none 0 0, .slice none 0 0] 55) = w1
  have HS : Hid (SymSt w1.heap.size (fun g => g = w.heap.size) (w.heap.size + 1) rb s st sym0 w w1) := by
    subst hw1
    have hb : Below w.heap.size w ((w.alloc (.cells #[.pointer (some ⟨rb, 0, none⟩)] 166)).alloc (.cells #[.string ⟨#[]⟩, .int .u8 0, .int .u8 0, .int .u32 0, .string ⟨#[]⟩, .slice none 0 0, .slice none 0 0] 55)) := (alloc_old w _).alloc (by simp) _
    refine ⟨fun g hg => ?_, ⟨.slice none 0 0, .slice none 0 0, ?_, World.ownsRow_nil _ _ _ _, World.ownsRow_nil _ _ _ _, fun g hg => (by cases hg), fun g hg => (by cases hg)⟩, H.out.congr (hb.block rb hlt), KB.of_below hb, hlt, by omega, by simp, Nat.le_refl _⟩
    · subst hg
      exact ⟨by rw [Below.heap_alloc _ _ _ (by simp)]; exact heap_alloc_new w _, Nat.le_refl _, by simp; omega⟩
    · have := heap_alloc_new (w.alloc (.cells #[.pointer (some ⟨rb, 0, none⟩)] 166)) (.cells #[.string ⟨#[]⟩, .int .u8 0, .int .u8 0, .int .u32 0, .string ⟨#[]⟩, .slice none 0 0, .slice none 0 0] 55)
      rw [show (w.alloc (.cells #[.pointer (some ⟨rb, 0, none⟩)] 166)).heap.size = w.heap.size + 1 by simp] at this
      exact this
  clear hw1 H
  generalize hqb : w.heap.size = qb at HS ⊢
  generalize qb + 1 = sb at HS ⊢
  have HQB := Lib.hid hqb; clear hqb
  have c := HS.out.c (qb := qb) rfl
  go_wp2_with fail
  refine (readWord_any rb s _ _ HS.out.rd).mono ?_
  rintro e wn ⟨rfl, k1, k2⟩
  replace HS := Lib.hid (HS.out.read k1 (KRR.of_kr k2))
  clear c k1 k2
  obtain ⟨⟨b0, b1, b2, b3, b4⟩, bf⟩ := HS.out.five
  have f0 := bf 0
  clear bf b1 b2 b3 b4
  go_upto_region 2 with fail
  replace HS := Lib.hid (HS.out.put { sym0 with name := (rText st).1 } 0 (.string (rText st).1) rfl rfl (fun _ _ => rfl))
  clear b0 f0
  generalize wn.setCell ⟨sb, 0, none⟩ (.string (rText st).1) = w2 at HS ⊢
  have HD := Lib.hid (HS.out.keep (Below.refl _ _).drew)
  replace HS := HD; clear HD
  have c := HS.out.c (qb := qb) rfl
  have nq := HS.out.nq (qb := qb) rfl
  have nq1 : ¬ qb = sb := nq
  have nq2 : ¬ sb = qb := fun e => nq e.symm
  have hbd := rNum_bd 1 (rText st).2
  have hbd2 := rNum_bd 1 (rNum 1 (rText st).2).2
  rw [p1] at hbd hbd2
  have hw1 : IntKind.u8.wrap (rNum 1 (rText st).2).1 = (rNum 1 (rText st).2).1 := by rw [IntKind.wrap_u8]; omega
  have hw2 : IntKind.u8.wrap (rNum 1 (rNum 1 (rText st).2).2).1 = (rNum 1 (rNum 1 (rText st).2).2).1 := by rw [IntKind.wrap_u8]; omega
  clear hbd hbd2
  go_wp2
  go_region_held3 (fun w' => w'.cell? ⟨qb, 0, none⟩ = some (.pointer (some ⟨rb, 0, none⟩))) (go_keep) (first | (go_at_call 90; (with_reducible refine (readNum1 rb s _ _ HS.out.rd).mono ?_); rintro e wn ⟨rfl, k1, k2⟩; replace HS := Lib.hid (HS.out.read k1 (KRR.of_kr k2)); have cn := HS.out.c (qb := qb) rfl; obtain ⟨⟨b0, b1, b2, b3, b4⟩, bf⟩ := HS.out.five; have f1 := bf 1; have f2 := bf 2; have f3 := bf 3; have f4 := bf 4; clear bf k1 k2))
  replace HS := Lib.hid ((HS.out.put { sym0 with name := (rText st).1, bind := (rNum 1 (rText st).2).1 } 1 (.int .u8 (rNum 1 (rText st).2).1) rfl rfl (fun _ _ => rfl)).put { sym0 with name := (rText st).1, bind := (rNum 1 (rText st).2).1, kind := (rNum 1 (rNum 1 (rText st).2).2).1 } 2 (.int .u8 (rNum 1 (rNum 1 (rText st).2).2).1) rfl rfl (fun _ _ => rfl))
  clear b0 b1 b2 b3 b4 f1 f2 f3 f4 hw1 hw2 c
  generalize (wn.setCell ⟨sb, 1, none⟩ (.int .u8 (rNum 1 (rText st).2).1)).setCell ⟨sb, 2, none⟩ (.int .u8 (rNum 1 (rNum 1 (rText st).2).2).1) = w3 at HS ⊢
  generalize hst3 : (rNum 1 (rNum 1 (rText st).2).2).2 = st3 at HS
  have HST3 := Lib.hid hst3; clear hst3
  generalize hy3 : ({ sym0 with name := (rText st).1, bind := (rNum 1 (rText st).2).1, kind := (rNum 1 (rNum 1 (rText st).2).2).1 } : GSym) = y3 at HS
  have HY3 := Lib.hid hy3; clear hy3
  have HD := Lib.hid (HS.out.keep (Below.refl _ _).drew)
  replace HS := HD; clear HD
  have c := HS.out.c (qb := qb) rfl
  go_wp2
  go_region_held3 (fun w' => w'.cell? ⟨qb, 0, none⟩ = some (.pointer (some ⟨rb, 0, none⟩))) (go_keep) (first | (go_at_call 90; (with_reducible refine (readNum4 rb s _ _ HS.out.rd).mono ?_); rintro e wn ⟨rfl, k1, k2⟩; replace HS := Lib.hid (HS.out.read k1 (KRR.of_kr k2)); have cn := HS.out.c (qb := qb) rfl; obtain ⟨⟨b0, b1, b2, b3, b4⟩, bf⟩ := HS.out.five; have f1 := bf 1; have f2 := bf 2; have f3 := bf 3; have f4 := bf 4; clear bf k1 k2) | (go_at_call 88; (with_reducible refine (readWord_any rb s _ _ HS.out.rd).mono ?_); rintro e wn ⟨rfl, k1, k2⟩; replace HS := Lib.hid (HS.out.read k1 (KRR.of_kr k2)); have cn := HS.out.c (qb := qb) rfl; obtain ⟨⟨b0, b1, b2, b3, b4⟩, bf⟩ := HS.out.five; have f1 := bf 1; have f2 := bf 2; have f3 := bf 3; have f4 := bf 4; clear bf k1 k2))
  replace HS := Lib.hid ((HS.out.put { y3 with size := (rNum 4 st3).1 } 3 (.int .u32 (rNum 4 st3).1) rfl rfl (fun _ _ => rfl)).put { y3 with size := (rNum 4 st3).1, bytes := (rText (rNum 4 st3).2).1 } 4 (.string (rText (rNum 4 st3).2).1) rfl rfl (fun _ _ => rfl))
  clear b0 b1 b2 b3 b4 f1 f2 f3 f4 c
  generalize (wn.setCell ⟨sb, 3, none⟩ (.int .u32 (rNum 4 st3).1)).setCell ⟨sb, 4, none⟩ (.string (rText (rNum 4 st3).2).1) = w4 at HS ⊢
  generalize hst4 : (rText (rNum 4 st3).2).2 = st4 at HS
  have HST4 := Lib.hid hst4; clear hst4
  generalize hy4 : ({ y3 with size := (rNum 4 st3).1, bytes := (rText (rNum 4 st3).2).1 } : GSym) = y4 at HS
  have HY4 := Lib.hid hy4; clear hy4
  have HR4 : Hid (y4.rels = [] ∧ y4.notes = []) := by rw [Hid, ← HY4.out, ← HY3.out]; exact ⟨rfl, rfl⟩
  have HD := Lib.hid (HS.out.keep (Below.refl _ _).drew)
  replace HS := HD; clear HD
  have c := HS.out.c (qb := qb) rfl
  have HB2 := Lib.hid (rNum_bd 2 st4)
  rw [p2] at HB2
  go_wp2
  go_cut [24] from 20 to 24 (fun _ wx => ∃ R', SymSt R' (fun g => g = qb) sb rb s (rMany rRel (rNum 2 st4).1.toNat (rNum 2 st4).2).2 (withRels y4 (rMany rRel (rNum 2 st4).1.toNat (rNum 2 st4).2).1) w wx)
  case first =>
    go_region_held3 (fun w' => w'.cell? ⟨qb, 0, none⟩ = some (.pointer (some ⟨rb, 0, none⟩))) (go_keep) (first | (go_at_call 90; (with_reducible refine (readNum2 rb s _ _ HS.out.rd).mono ?_); rintro e wn ⟨rfl, k1, k2⟩; replace HS := Lib.hid (HS.out.read k1 (KRR.of_kr k2)); have cn := HS.out.c (qb := qb) rfl; clear k1 k2) | (go_at_call 89; (with_reducible refine (goesR_int _ (fun g => g = qb) qb sb rb rfl s _ _ w _ _ HS.out HB2.out HR4.out.1).mono ?_); rintro e wn ⟨rfl, R2, hs2⟩; replace HS := Lib.hid hs2; have cn := HS.out.c (qb := qb) rfl; clear hs2))
    all_goals (go_wp2_with fail; go_meet; exact ⟨_, HS.out⟩)
  case rest =>
  obtain ⟨R2, hs2⟩ := hcut
  replace HS := Lib.hid hs2; clear hs2
  generalize hst5 : (rMany rRel (rNum 2 st4).1.toNat (rNum 2 st4).2).2 = st5 at HS
  have HST5 := Lib.hid hst5; clear hst5
  generalize hy5 : withRels y4 (rMany rRel (rNum 2 st4).1.toNat (rNum 2 st4).2).1 = y5 at HS
  have HY5 := Lib.hid hy5; clear hy5
  have HR5 : Hid (y5.notes = []) := by rw [Hid, ← HY5.out]; exact HR4.out.2
  obtain ⟨w5, rfl⟩ : ∃ w5 : World, w5 = wc := ⟨_, rfl⟩
  have HD := Lib.hid (HS.out.keep (Below.refl _ _).drew)
  replace HS := HD
  clear HD c HB2 HR4
  have c := HS.out.c (qb := qb) rfl
  have HB2 := Lib.hid (rNum_bd 1 st5)
  rw [p1] at HB2
  go_wp2
  go_cut [29] from 25 to 29 (fun _ wx => ∃ R', SymSt R' (fun g => g = qb) sb rb s (rMany rNote (rNum 1 st5).1.toNat (rNum 1 st5).2).2 (withNotes y5 (rMany rNote (rNum 1 st5).1.toNat (rNum 1 st5).2).1) w wx)
  case first =>
    go_region_held3 (fun w' => w'.cell? ⟨qb, 0, none⟩ = some (.pointer (some ⟨rb, 0, none⟩))) (go_keep) (first | (go_at_call 90; (with_reducible refine (readNum1 rb s _ _ HS.out.rd).mono ?_); rintro e wn ⟨rfl, k1, k2⟩; replace HS := Lib.hid (HS.out.read k1 (KRR.of_kr k2)); have cn := HS.out.c (qb := qb) rfl; clear k1 k2) | (go_at_call 89; (with_reducible refine (goesN_int _ (fun g => g = qb) qb sb rb rfl s _ _ w _ _ HS.out (by have := HB2.out; omega) HR5.out).mono ?_); rintro e wn ⟨rfl, R2, hs2⟩; replace HS := Lib.hid hs2; have cn := HS.out.c (qb := qb) rfl; clear hs2))
    all_goals (go_wp2_with fail; go_meet; exact ⟨_, HS.out⟩)
  case rest =>
  obtain ⟨R3, hs2⟩ := hcut
  replace HS := Lib.hid hs2; clear hs2
  obtain ⟨w6, rfl⟩ : ∃ w6 : World, w6 = wc := ⟨_, rfl⟩
  have HE : Hid (rSym st = (withNotes y5 (rMany rNote (rNum 1 st5).1.toNat (rNum 1 st5).2).1, (rMany rNote (rNum 1 st5).1.toNat (rNum 1 st5).2).2)) := by
    rw [Hid, ← HST5.out, ← HY5.out, ← HST4.out, ← HY4.out, ← HST3.out, ← HY3.out]; rfl
  generalize rMany rNote (rNum 1 st5).1.toNat (rNum 1 st5).2 = tn at HS HE
  generalize withNotes y5 tn.1 = y6 at HS HE
  generalize tn.2 = st6 at HS HE
  clear HST5 HY5 HST4 HY4 HST3 HY3 c HB2 HR5 nq nq1 nq2
  obtain ⟨vr, vn, g1, g2, g3, -, -⟩ := HS.out.y
  obtain ⟨pR, cR, rfl⟩ := own_shape g2
  obtain ⟨pN, cN, rfl⟩ := own_shape g3
  have G1 := Lib.hid g1; have G2 := Lib.hid g2; have G3 := Lib.hid g3
  clear g1 g2 g3
  obtain ⟨yn, yb, yk, ys, yy, yr, yt⟩ := y6
  simp only [] at G1 G2 G3
  have a0 : w6.cell? ⟨sb, 0, none⟩ = some (.string yn) := Lib.cell_of_heap G1.out 0
  have a1 : w6.cell? ⟨sb, 1, none⟩ = some (.int .u8 yb) := Lib.cell_of_heap G1.out 1
  have a2 : w6.cell? ⟨sb, 2, none⟩ = some (.int .u8 yk) := Lib.cell_of_heap G1.out 2
  have a3 : w6.cell? ⟨sb, 3, none⟩ = some (.int .u32 ys) := Lib.cell_of_heap G1.out 3
  have a4 : w6.cell? ⟨sb, 4, none⟩ = some (.string yy) := Lib.cell_of_heap G1.out 4
  have a5 : w6.cell? ⟨sb, 5, none⟩ = some (.slice pR yr.length cR) := Lib.cell_of_heap G1.out 5
  have a6 : w6.cell? ⟨sb, 6, none⟩ = some (.slice pN yt.length cN) := Lib.cell_of_heap G1.out 6
  have e0 : w6.frozen? ⟨sb, 0, none⟩ = false := Lib.frozen_of_heap G1.out 0
  have e1 : w6.frozen? ⟨sb, 1, none⟩ = false := Lib.frozen_of_heap G1.out 1
  have e2 : w6.frozen? ⟨sb, 2, none⟩ = false := Lib.frozen_of_heap G1.out 2
  have e3 : w6.frozen? ⟨sb, 3, none⟩ = false := Lib.frozen_of_heap G1.out 3
  have e4 : w6.frozen? ⟨sb, 4, none⟩ = false := Lib.frozen_of_heap G1.out 4
  have e5 : w6.frozen? ⟨sb, 5, none⟩ = false := Lib.frozen_of_heap G1.out 5
  have e6 : w6.frozen? ⟨sb, 6, none⟩ = false := Lib.frozen_of_heap G1.out 6
  go_wp2
  refine bodyPost_ret (v := .agg #[.string yn, .int .u8 yb, .int .u8 yk, .int .u32 ys, .string yy, .slice pR yr.length cR, .slice pN yt.length cN]) (by simp [results, Tryz.results92, go_sem, *]) rfl ?_
  rw [HE.out]
  have hset : ∀ (W : World) (j : Nat) (u : Value) (g : Nat), g ≠ sb → (W.setCell ⟨sb, j, none⟩ u).heap[g]? = W.heap[g]? := fun W j u g hg => Below.heap_setCell _ _ _ _ (by simpa using hg)
  have hsb := HS.out.sle
  have hrb := HS.out.rlt
  refine ⟨_, _, rfl, own_congr G2.out fun g hg => ?_, own_congr G3.out fun g hg => ?_, HS.out.rd.congr ?_, ((((((KB.setCell HS.out.kb (.inr hsb) _).setCell (.inr hsb) _).setCell (.inr hsb) _).setCell (.inr hsb) _).setCell (.inr hsb) _).setCell (.inr hsb) _).setCell (.inr hsb) _⟩
  · have hgs : g ≠ sb := fun e => own_ne_box G2.out (e ▸ G1.out) (by decide) hg
    simp only [hset _ _ _ g hgs]
  · have hgs : g ≠ sb := fun e => own_ne_box G3.out (e ▸ G1.out) (by decide) hg
    simp only [hset _ _ _ g hgs]
  · simp only [hset _ _ _ rb (show rb ≠ sb by omega)]
end Go.Proofs.YtboegjdkedjhcaaGreatDoor
namespace Go.Proofs.YtboegjdkedjhcaaGreatDoor
open Go.RowKit Go.Maps Go.WideMaps
theorem owns_congr {w w' : World} {base : Nat} {e : TypeId} {k : Nat} {v : Value} {n : Nat} {xs : List Value} (h : w.ownsRow base e k v n xs) (hg : ∀ g, v.ownBlock = some g → w'.heap[g]? = w.heap[g]?) : w'.ownsRow base e k v n xs := by
  refine ⟨h.1, ?_⟩
  rcases h.2 with hn | ⟨g, cap, cur, rfl, hb, h1, rest⟩
  · exact .inl hn
  · exact .inr ⟨g, cap, cur, rfl, hb, by rw [hg g rfl]; exact h1, rest⟩
/-- a copied object, its row of symbols, and the range of its blocks -/
structure CT where
  o : GObj
  vs : Value
  lo : Nat
  hi : Nat
def InR (lo hi : Nat) (v : Value) : Prop := ∀ g, v.ownBlock = some g → lo ≤ g ∧ g < hi
def ObjSep (w : World) (c : CT) : Prop := ∃ ts : List SymT, ts.map (·.1) = c.o.syms ∧ w.ownsRow c.lo 55 7 c.vs ts.length (ts.flatMap symCells) ∧ (∀ t ∈ ts, SymOwn c.lo w c.vs t ∧ InR c.lo c.hi t.2.1 ∧ InR c.lo c.hi t.2.2) ∧ InR c.lo c.hi c.vs
theorem ObjSep.congr {w w' : World} {c : CT} (h : ObjSep w c) (hk : ∀ g, c.lo ≤ g → g < c.hi → w'.heap[g]? = w.heap[g]?) : ObjSep w' c := by
  obtain ⟨ts, h1, h2, h3, h4⟩ := h
  refine ⟨ts, h1, owns_congr h2 fun g hg => hk g (h4 g hg).1 (h4 g hg).2, fun t ht => ?_, h4⟩
  obtain ⟨⟨s1, s2, s3, s4⟩, i1, i2⟩ := h3 t ht
  exact ⟨⟨owns_congr s1 fun g hg => hk g (i1 g hg).1 (i1 g hg).2, owns_congr s2 fun g hg => hk g (i2 g hg).1 (i2 g hg).2, s3, s4⟩, i1, i2⟩
theorem CopyPost.sep {w w' : World} {x : GObj} {e : Ending} (h : CopyPost w x e w') : ∃ vs, e = .returned (.agg #[.string x.name, vs]) ∧ ObjSep w' ⟨x, vs, w.heap.size, w'.heap.size⟩ ∧ (∃ p c, vs = .slice p x.syms.length c) ∧ Below w.heap.size w w' := by
  obtain ⟨vs, ts, he, h1, h2, h3, h4⟩ := h
  refine ⟨vs, he, ⟨ts, h1, h2, fun t ht => ?_, h2.lt⟩, ?_, h4⟩
  · have := h3 t ht
    exact ⟨this, this.1.lt, this.2.1.lt⟩
  · have := own_shape h2
    rw [← h1, List.length_map]; exact this
theorem ObjSep.objIn {w0 w : World} {c : CT} {v0 : Value} (h0 : ObjIn w0 c.o v0) (h : ObjSep w c) : ObjIn w c.o c.vs := by
  obtain ⟨ts, h1, h2, h3, h4⟩ := h
  obtain ⟨⟨p, cap, b, o, -, -, hm, -, hc⟩, hn⟩ := h0
  refine ⟨?_, hn⟩
  have hl : ts.length = c.o.syms.length := by rw [← h1, List.length_map]
  rw [← h1]
  refine sym_back h2 (by omega) fun t ht => ?_
  obtain ⟨i, hi, rfl⟩ := List.mem_iff_getElem.1 ht
  have hi' : i < c.o.syms.length := by omega
  obtain ⟨vr, vn, -, -, -, -, -, -, -, -, hin⟩ := hc i hi'
  have he : ts[i].1 = c.o.syms[i] := by
    have : (ts.map (·.1))[i]? = c.o.syms[i]? := by rw [h1]
    rw [List.getElem?_map, List.getElem?_eq_getElem hi, List.getElem?_eq_getElem hi'] at this
    exact Option.some.inj this
  obtain ⟨⟨s1, s2, s3, s4⟩, -, -⟩ := h3 _ ht
  rw [← he] at hin
  exact ⟨rel_back hin.1 s1, note_back hin.2.1 s2, hin.2.2⟩
def objCells (c : CT) : List Value := [.string c.o.name, c.vs]
theorem objCells_len (c : CT) : (objCells c).length = 2 := rfl
/-- what CopyAll leaves: a row of its own, each object with blocks of its own, apart from the row and from each other -/
def AllSep (B : Nat) (w : World) (v : Value) (us : List CT) : Prop :=
  w.ownsRow B 50 2 v us.length (us.flatMap objCells) ∧ (∀ u ∈ us, ObjSep w u ∧ B ≤ u.lo ∧ u.lo ≤ u.hi ∧ u.hi ≤ w.heap.size ∧ ∀ g, v.ownBlock = some g → g < u.lo ∨ u.hi ≤ g) ∧ us.Pairwise (fun a b => a.hi ≤ b.lo)
theorem AllSep.objs {B : Nat} {w0 w : World} {v0 v : Value} {l : List GObj} {us : List CT} (h0 : ObjsAt w0 v0 l) (hl : us.map (·.o) = l) (h : AllSep B w v us) : ObjsAt w v l := by
  obtain ⟨h1, h2, -⟩ := h
  obtain ⟨p, cap, b, o, -, -, hm, -, hc⟩ := h0
  have hlen : us.length = l.length := by rw [← hl, List.length_map]
  have h5 : RowAt 2 (fun w b o (u : CT) => ObjR w b o u.o) w v us := owned_row objCells_len h1 (by omega) fun g o' i hi hg hcell => by
    have hi' : i < l.length := by omega
    obtain ⟨vs, -, -, -, hin⟩ := hc i hi'
    have he : us[i].o = l[i] := by
      have : (us.map (·.o))[i]? = l[i]? := by rw [hl]
      rw [List.getElem?_map, List.getElem?_eq_getElem hi, List.getElem?_eq_getElem hi'] at this
      exact Option.some.inj this
    rw [← he] at hin
    exact ⟨us[i].vs, hg, hcell 0 _ (by omega) rfl, hcell 1 _ (by omega) rfl, ObjSep.objIn hin (h2 _ (List.getElem_mem hi)).1⟩
  obtain ⟨p, cap, b, o, rfl, q2, q3, q4, q5⟩ := h5
  subst hl
  exact ⟨p, cap, b, o, by simp, by simpa using q2, by simpa using q3, by simpa using q4, fun i hi => by simpa using q5 i (by simpa using hi)⟩
/-- one object more -/
theorem AllSep.snoc {B : Nat} {w0 w1 w2 : World} {v v' : Value} {us : List CT} {x : GObj} {vs : Value} (h : AllSep B w0 v us) (hb : Below w0.heap.size w0 w1) (hx : ObjSep w1 ⟨x, vs, w0.heap.size, w1.heap.size⟩) (hB : B ≤ w0.heap.size) {ob : Obj}
    (hown : w2.ownsRow B 50 2 v' (us.length + 1) (us.flatMap objCells ++ [.string x.name, vs])) (hg : (w1.alloc ob).grownBy w2 v.ownBlock) (hv : v'.ownBlock = v.ownBlock ∨ v'.ownBlock = some (w1.alloc ob).heap.size) :
    AllSep B w2 v' (us ++ [⟨x, vs, w0.heap.size, w1.heap.size⟩]) := by
  obtain ⟨h1, h2, h3⟩ := h
  have hs1 := hb.size
  have hs2 : w1.heap.size + 1 ≤ w2.heap.size := by have := hg.size; simpa using this
  have hlt := h1.lt
  have hkeep : ∀ g, g < w1.heap.size → v.ownBlock ≠ some g → w2.heap[g]? = w1.heap[g]? := fun g hgl hne => by
    rw [hg.block g (by simp; omega) (fun e => hne e.symm), Below.heap_alloc _ _ _ hgl]
  refine ⟨?_, ?_, ?_⟩
  · simpa [objCells] using hown
  · intro u hu
    rcases List.mem_append.1 hu with hu | hu
    · obtain ⟨q1, q2, q3, q4, q5⟩ := h2 u hu
      refine ⟨(q1.congr (w' := w1) fun g hg1 hg2 => hb.block g (by omega)).congr fun g hg1 hg2 => hkeep g (by omega) fun e => ?_, q2, q3, by omega, fun g hg' => ?_⟩
      · have := q5 g e; omega
      · rcases hv with hv | hv
        · exact q5 g (hv ▸ hg')
        · rw [hv] at hg'; cases hg'; simp; omega
    · obtain rfl : u = _ := by simpa using hu
      refine ⟨hx.congr fun g hg1 hg2 => hkeep g hg2 fun e => ?_, hB, hs1, by simp; omega, fun g hg' => ?_⟩
      · have := hlt g e; simp at hg1; omega
      · rcases hv with hv | hv
        · rw [hv] at hg'; have := hlt g hg'; simp; omega
        · rw [hv] at hg'; cases hg'; simp
  · rw [List.pairwise_append]
    refine ⟨h3, List.pairwise_singleton _ _, fun a ha b hb' => ?_⟩
    obtain rfl : b = _ := by simpa using hb'
    exact (h2 a ha).2.2.2.1
end Go.Proofs.YtboegjdkedjhcaaGreatDoor
namespace Go.Proofs.YtboegjdkedjhcaaGreatDoor
open Go.RowKit Go.Maps
/-- what is asked of a reader's predicate: it speaks of the reader's block alone -/
structure Rdr (rb : Nat) (RD : World → RS → Prop) : Prop where
  congr : ∀ {w w' : World} {st : RS}, RD w st → w'.heap[rb]? = w.heap[rb]? → RD w' st
  lt : ∀ {w : World} {st : RS}, RD w st → rb < w.heap.size
theorem rdr_obj (rb : Nat) (s : ByteArray) : Rdr rb (fun w st => RdS w rb s st) := ⟨fun h k => h.congr k, fun h => h.lt⟩
/-- an object's box and its row of symbols -/
def ObjRow (B : Nat) (ob : Nat) (nm : ByteArray) (v : Value) (ts : List SymT) (w : World) : Prop :=
  w.heap[ob]? = some (.cells #[.string nm, v] 50 (0, 0)) ∧ w.ownsRow B 55 7 v ts.length (ts.flatMap symCells) ∧ ∀ t ∈ ts, SymOwn B w v t
theorem ObjRow.congr {B ob : Nat} {nm : ByteArray} {v : Value} {ts : List SymT} {w w' : World} (h : ObjRow B ob nm v ts w) (hob : B ≤ ob) (hk : ∀ g, g < w.heap.size → B ≤ g → w'.heap[g]? = w.heap[g]?) : ObjRow B ob nm v ts w' := by
  obtain ⟨h1, h2, h3⟩ := h
  refine ⟨(hk ob (Array.getElem?_eq_some_iff.1 h1).1 hob).trans h1, own_congr h2 fun g hg => hk g (h2.lt g hg).2 (h2.lt g hg).1, fun t ht => ?_⟩
  obtain ⟨a, b, c, d⟩ := h3 t ht
  exact ⟨own_congr a fun g hg => hk g (a.lt g hg).2 (a.lt g hg).1, own_congr b fun g hg => hk g (b.lt g hg).2 (b.lt g hg).1, c, d⟩
structure ObjSt (RD : World → RS → Prop) (Q : Nat → Prop) (ob rb : Nat) (st : RS) (nm : ByteArray) (ys : List GSym) (w0 w : World) : Prop where
  r : Rdr rb RD
  q : ∀ g, Q g → w.heap[g]? = some (.cells #[.pointer (some ⟨rb, 0, none⟩)] 166 (0, 0)) ∧ w0.heap.size ≤ g
  o : ∃ v ts, ObjRow w0.heap.size ob nm v ts w ∧ ts.map (·.1) = ys
  rd : RD w st
  kb : KR rb w0 w
  rlt : rb < w0.heap.size
  ole : w0.heap.size ≤ ob
theorem ObjSt.read {RD : World → RS → Prop} {Q : Nat → Prop} {ob rb : Nat} {st st' : RS} {nm : ByteArray} {ys : List GSym} {w0 w w' : World} (h : ObjSt RD Q ob rb st nm ys w0 w) (hr : RD w' st') (k : KR rb w w') : ObjSt RD Q ob rb st' nm ys w0 w' := by
  have h1 := h.rlt; have h2 := h.ole
  obtain ⟨v, ts, h3, h4⟩ := h.o
  refine ⟨h.r, fun g hg => ?_, ⟨v, ts, h3.congr h2 fun g hg hb => k.block g hg (by omega), h4⟩, hr, h.kb.trans k, h1, h2⟩
  obtain ⟨q1, q2⟩ := h.q g hg
  exact ⟨(k.block g (Array.getElem?_eq_some_iff.1 q1).1 (by omega)).trans q1, q2⟩
theorem ObjSt.keep {RD : World → RS → Prop} {Q : Nat → Prop} {ob rb : Nat} {st : RS} {nm : ByteArray} {ys : List GSym} {w0 w w' : World} (h : ObjSt RD Q ob rb st nm ys w0 w) (k : Below w.heap.size w w') : ObjSt RD Q ob rb st nm ys w0 w' :=
  h.read (h.r.congr h.rd (k.block rb (h.r.lt h.rd))) (KB.of_below k)
theorem ObjSt.c {RD : World → RS → Prop} {Q : Nat → Prop} {ob rb : Nat} {st : RS} {nm : ByteArray} {ys : List GSym} {w0 w : World} (h : ObjSt RD Q ob rb st nm ys w0 w) {qb : Nat} (hq : Q qb) : w.cell? ⟨qb, 0, none⟩ = some (.pointer (some ⟨rb, 0, none⟩)) := Lib.cell_of_heap (h.q qb hq).1 0
theorem ObjSt.box {RD : World → RS → Prop} {Q : Nat → Prop} {ob rb : Nat} {st : RS} {nm : ByteArray} {ys : List GSym} {w0 w : World} (h : ObjSt RD Q ob rb st nm ys w0 w) :
    ObjSt RD (fun g => Q g ∨ g = w.heap.size) ob rb st nm ys w0 (w.alloc (.cells #[.pointer (some ⟨rb, 0, none⟩)] 166)) := by
  have k := h.keep (alloc_old w (.cells #[.pointer (some ⟨rb, 0, none⟩)] 166))
  refine ⟨k.r, fun g hg => ?_, k.o, k.rd, k.kb, k.rlt, k.ole⟩
  rcases hg with hg | rfl
  · exact k.q g hg
  · exact ⟨heap_alloc_new w _, h.kb.size⟩
theorem ObjSt.sub {RD : World → RS → Prop} {Q Q' : Nat → Prop} {ob rb : Nat} {st : RS} {nm : ByteArray} {ys : List GSym} {w0 w : World} (h : ObjSt RD Q ob rb st nm ys w0 w) (hq : ∀ g, Q' g → Q g) : ObjSt RD Q' ob rb st nm ys w0 w :=
  ⟨h.r, fun g hg => h.q g (hq g hg), h.o, h.rd, h.kb, h.rlt, h.ole⟩
theorem own_none_or {v : Value} {r : Value} (h : ∀ g, v.ownBlock = some g → r.ownBlock ≠ some g) : v.ownBlock = none ∨ v.ownBlock ≠ r.ownBlock := by
  cases hv : v.ownBlock with
  | none => exact .inl rfl
  | some g => exact .inr fun e => h g hv e.symm
/-- behind the append of a symbol that was read -/
theorem ObjSt.add {RD : World → RS → Prop} {Q : Nat → Prop} {ob rb : Nat} {st st' : RS} {nm : ByteArray} {ys : List GSym} {w0 w1 w2 w3 w4 : World} {v v' vr vn : Value} {ts : List SymT} {y : GSym}
    (h : ObjSt RD Q ob rb st nm ys w0 w1) (ho : ObjRow w0.heap.size ob nm v ts w1) (ht : ts.map (·.1) = ys)
    (hr : RD w2 st') (k : KR rb w1 w2)
    (h2 : w2.ownsRow w1.heap.size 133 4 vr y.rels.length (y.rels.flatMap relCells)) (h3 : w2.ownsRow w1.heap.size 155 3 vn y.notes.length (y.notes.flatMap noteCells))
    (ha : Below w2.heap.size w2 w3) (hown : w4.ownsRow w0.heap.size 55 7 v' (ts.length + 1) (ts.flatMap symCells ++ symCells (y, vr, vn))) (hg : w3.grownBy w4 v.ownBlock) (hv : v'.ownBlock = v.ownBlock ∨ v'.ownBlock = some w3.heap.size) :
    ObjSt RD Q ob rb st' nm (ys ++ [y]) w0 (w4.setCell ⟨ob, 1, none⟩ v') := by
  have r1 := h.rlt; have r2 := h.ole
  have z0 := h.kb.size; have z1 := k.size; have z2 := ha.size; have z3 := hg.size
  have hs := h.read hr k
  have ho2 : ObjRow w0.heap.size ob nm v ts w2 := ho.congr r2 fun g hg hb => k.block g hg (by omega)
  have ho3 : ObjRow w0.heap.size ob nm v ts w3 := ho2.congr r2 fun g hg hb => ha.block g hg
  obtain ⟨b1, b2, b3⟩ := ho3
  have hvo : ∀ g, v.ownBlock = some g → g < w1.heap.size := fun g hg => (ho.2.1.lt g hg).2
  have hset : ∀ g, g ≠ ob → (w4.setCell ⟨ob, 1, none⟩ v').heap[g]? = w4.heap[g]? := fun g hgs => Below.heap_setCell _ _ _ _ (by simpa using hgs)
  have hob4 : w4.heap[ob]? = some (.cells #[.string nm, v] 50 (0, 0)) := (hg.block ob (Array.getElem?_eq_some_iff.1 b1).1 fun e => own_ne_box b2 b1 (by decide) e.symm).trans b1
  have hrb : rb < w3.heap.size := by omega
  have hrbv : v.ownBlock ≠ some rb := fun e => by have := (b2.lt rb e).1; omega
  have hrb4 : w4.heap[rb]? = w3.heap[rb]? := hg.block rb hrb fun e => hrbv e.symm
  have n2 := ownsRow_below ha h2
  have n3 := ownsRow_below ha h3
  have m2 := n2.kept hg (own_none_or fun g hg' e => by have := (h2.lt g hg').1; have := hvo g e; omega)
  have m3 := n3.kept hg (own_none_or fun g hg' e => by have := (h3.lt g hg').1; have := hvo g e; omega)
  have hso : ∀ t ∈ ts ++ [(y, vr, vn)], SymOwn w0.heap.size w4 v' t := by
    intro t ht
    rcases List.mem_append.1 ht with ht | ht
    · exact (b3 t ht).grown hg hv
    · obtain rfl : t = (y, vr, vn) := by simpa using ht
      refine ⟨m2.mono z0, m3.mono z0, own_none_or fun g hg' e => ?_, own_none_or fun g hg' e => ?_⟩
      · have q1 := h2.lt g hg'
        rcases hv with hv | hv
        · rw [hv] at e; have := hvo g e; omega
        · rw [hv] at e; cases e; omega
      · have q1 := h3.lt g hg'
        rcases hv with hv | hv
        · rw [hv] at e; have := hvo g e; omega
        · rw [hv] at e; cases e; omega
  have hr3 : w3.heap[rb]? = w2.heap[rb]? := ha.block rb (h.r.lt hr)
  have hKB4 : KR rb w0 w4 := (hs.kb.trans (KB.of_below ha)).grown hg fun g e => .inr (b2.lt g e).1
  refine ⟨h.r, fun g hq => ?_, ⟨v', ts ++ [(y, vr, vn)], ⟨?_, ?_, fun t ht => ?_⟩, by simp [ht]⟩, h.r.congr hr ?_, KB.setCell hKB4 (.inr r2) _, r1, r2⟩
  · obtain ⟨q1, q2⟩ := hs.q g hq
    have q3 := (ha.block g (Array.getElem?_eq_some_iff.1 q1).1).trans q1
    have hgo : g ≠ ob := fun e => by rw [e, b1] at q3; simp at q3
    exact ⟨by rw [hset g hgo, hg.block g (Array.getElem?_eq_some_iff.1 q3).1 fun e => own_ne_box b2 q3 (by decide) e.symm]; exact q3, q2⟩
  · simp [World.setCell, Array.getElem?_modify, hob4]
  · have e2 : (ts ++ [(y, vr, vn)]).flatMap symCells = ts.flatMap symCells ++ symCells (y, vr, vn) := by simp
    rw [List.length_append, e2]
    exact own_congr hown fun g hg' => hset g fun e => own_ne_box hown (e ▸ hob4) (by decide) hg'
  · obtain ⟨p1, p2, p3, p4⟩ := hso t ht
    exact ⟨own_congr p1 fun g hg' => hset g fun e => own_ne_box p1 (e ▸ hob4) (by decide) hg', own_congr p2 fun g hg' => hset g fun e => own_ne_box p2 (e ▸ hob4) (by decide) hg', p3, p4⟩
  · rw [hset rb (by omega), hrb4, hr3]
end Go.Proofs.YtboegjdkedjhcaaGreatDoor
namespace Go.Proofs.YtboegjdkedjhcaaGreatDoor
open Go.RowKit
/-- append onto a row of one's own, as one step of a region that draws -/
theorem step_append_own_at {P : Program} {ops : Array Oper} {o : Oper} {a : Act} {w : World} {K : Act → World → Prop} {Q : Exit → Act → World → Prop} {E : Prop}
    (hg : o.guard = none) (s x : Operand) (t : TypeId) (hop : o.op = Op.call { callee := Callee.builtin Builtin.append, args := #[s, x], argTypes := #[t, t] })
    (base : Nat) (e : TypeId) (i : TypeInfo) (z : Value) (size bytes : Nat) (h1 : P.underlying t = some (.slice e)) (h2 : P.info? e = some i) (h3 : i.zero = some z) (h4 : i.size = size) (h5 : i.bytes = bytes) (h6 : z.cells.size = size) (h7 : 0 < size)
    (v : Value) (n : Nat) (xs : List Value) (hs : a.eval s = v) (hown : w.ownsRow base e size v n xs)
    (ad : Addr) (m c : Nat) (news : List Value) (hx : a.eval x = .slice (some ad) m c) (hn : news.length = m * size) (hc : ∀ j u, news[j]? = some u → w.cell? (ad.add j) = some u) (h1c : ∀ u ∈ news, u.oneCell' = true)
    (b1 : n + m ≤ maxLen) (b2 : (n + m) * bytes ≤ 140737488355328) (hbase : base ≤ w.heap.size)
    (hK : ∀ v' w', w'.ownsRow base e size v' (n + m) (xs ++ news) → w.grownBy w' v.ownBlock → (v'.ownBlock = v.ownBlock ∨ v'.ownBlock = some w.heap.size) → K (a.put o.dst v') w') :
    if Region.wanted o (yielded ops a.tmps) = true then Oper.wp P o a w K Q else E := by
  have hw : Region.wanted o (yielded ops a.tmps) = true := by simp [Region.wanted, hg]
  rw [if_pos hw]
  obtain ⟨v', w', hrun, r1, r2, r3, r4⟩ := run_append_own_at (P := P) w base t o.type e i z size bytes h1 h2 h3 h4 h5 h6 h7 v n xs hown ad m c news hn hc h1c b1 b2 hbase
  unfold Oper.wp
  simp [execOp, hop, resolve, invoke, builtin, hs, hx, hrun, Result.andThen]
  exact hK v' w' r1 r2 r4
theorem run_call_go {P : Program} {w : World} {f : FuncId} {fn : Func} (hf : P.funcs[f]? = some fn) (hn : (fn.name == "runtime.NumGoroutine") = false) (hb : fn.body.isNone = false) (args : Array Value) :
    (callFunc f args).run P w = .ok (.enter f args) w := by
  have hn' : ¬ fn.name = "runtime.NumGoroutine" := by simpa using hn
  cases hbb : fn.body with
  | none => rw [hbb] at hb; cases hb
  | some c => simp [callFunc, go_sem, hf, hn', hbb]
/-- a call of a Go function, as one step of a region that draws -/
theorem step_call {P : Program} {ops : Array Oper} {o : Oper} {a : Act} {w : World} {K : Act → World → Prop} {Q : Exit → Act → World → Prop} {E : Prop}
    (hg : o.guard = none) (f : FuncId) (xs : Array Operand) (ats : Array TypeId) (hop : o.op = Op.call { callee := Callee.value (Operand.func f), args := xs, argTypes := ats })
    {fn : Func} (hf : P.funcs[f]? = some fn) (hn : (fn.name == "runtime.NumGoroutine") = false) (hb : fn.body.isNone = false)
    (vs : Array Value) (hv : xs.map a.eval = vs) {Post : Ending → World → Prop} (hC : Calls P f vs w Post) (hK : ∀ e w', Post e w' → ∃ v, e = .returned v ∧ K (a.put o.dst v) w') :
    if Region.wanted o (yielded ops a.tmps) = true then Oper.wp P o a w K Q else E := by
  have hw : Region.wanted o (yielded ops a.tmps) = true := by simp [Region.wanted, hg]
  rw [if_pos hw]
  obtain ⟨dst, op, ty, pos, after, guard⟩ := o
  simp only at hg hop
  subst hg; subst hop; subst hv
  unfold Oper.wp
  rw [execOp_call_go]
  have e : (#[] ++ xs.map a.eval ++ #[] : Array Value) = xs.map a.eval := by simp
  rw [e, run_call_go hf hn hb, Oper.upon_enter]
  refine Calls.mono hC fun e w' hp => ?_
  obtain ⟨v, rfl, hk⟩ := hK e w' hp
  exact hk
end Go.Proofs.YtboegjdkedjhcaaGreatDoor
namespace Go.Proofs.YtboegjdkedjhcaaGreatDoor
open Go.RowKit Go.Maps
theorem new_seven (w : World) (a : ByteArray) (b c d : Int) (e : ByteArray) (l : List GRel) (k : List GNote) (vr vn : Value) :
    ∀ j u, (symCells (⟨a, b, c, d, e, l, k⟩, vr, vn))[j]? = some u → (w.alloc (.cells #[.string a, .int .u8 b, .int .u8 c, .int .u32 d, .string e, vr, vn] 55)).cell? ((⟨w.heap.size, 0, none⟩ : Addr).add j) = some u := by
  refine seven_news fun j u hj hu => ?_
  match j, hu with
  | 0, hu => cases hu; simp [go_sem]
  | 1, hu => cases hu; simp [go_sem]
  | 2, hu => cases hu; simp [go_sem]
  | 3, hu => cases hu; simp [go_sem]
  | 4, hu => cases hu; simp [go_sem]
  | 5, hu => cases hu; simp [go_sem]
  | 6, hu => cases hu; simp [go_sem]
theorem grow_box {wn w5 : World} {B ob k n : Nat} {e t : TypeId} {v : Value} {xs : List Value} {cs : Array Value} {o : Obj} (hg : (wn.alloc o).grownBy w5 v.ownBlock) (hown : (wn.alloc o).ownsRow B e k v n xs) (hb : wn.heap[ob]? = some (.cells cs t (0, 0))) (hne : e ≠ t) :
    w5.heap[ob]? = some (.cells cs t (0, 0)) := by
  have hlt := (Array.getElem?_eq_some_iff.1 hb).1
  have h1 : (wn.alloc o).heap[ob]? = some (.cells cs t (0, 0)) := (Below.heap_alloc _ _ _ hlt).trans hb
  exact (hg.block ob (by simp; omega) fun e' => own_ne_box hown h1 hne e'.symm).trans h1
set_option maxRecDepth 100000 in
set_option maxHeartbeats 2000000 in
theorem get1_any (Q : Nat → Prop) (qb ob rb : Nat) (hq : Q qb) (s : ByteArray) (st : RS) (nm : ByteArray) (ys : List GSym) (w0 w : World) (h : ObjSt (fun w st => RdS w rb s st) Q ob rb st nm ys w0 w) (hlen : ys.length ≤ 70000) :
    Calls Tryz.prog 91 #[.pointer (some ⟨ob, 0, none⟩), .pointer (some ⟨qb, 0, none⟩)] w fun e w' => e = .returned (.tuple #[]) ∧ ObjSt (fun w st => RdS w rb s st) Q ob rb (rSym st).2 nm (ys ++ [(rSym st).1]) w0 w' := by
  have HS := Lib.hid (h.keep (Below.refl _ _).drew); clear h
  obtain ⟨v, ts, ho, hts⟩ := HS.out.o
  obtain ⟨pv, cv, rfl⟩ := own_shape ho.2.1
  have HO := Lib.hid ho; clear ho
  have HTS := Lib.hid hts; clear hts
  have htl : ts.length ≤ 70000 := by have := congrArg List.length HTS.out; simp at this; omega
  have c := HS.out.c hq
  have c1 : w.drew.cell? ⟨ob, 1, none⟩ = some (.slice pv ts.length cv) := Lib.cell_of_heap HO.out.1 1
  have f1 : w.drew.frozen? ⟨ob, 1, none⟩ = false := Lib.frozen_of_heap HO.out.1 1
  have HRB := Lib.hid HS.out.rlt
  have HOB := Lib.hid HS.out.ole
  have HK := Lib.hid HS.out.kb.size
  have HC := Lib.hid (symRd_any rb s st w.drew HS.out.rd)
  generalize hr : rSym st = r at HC
  have HR := Lib.hid hr; clear hr
  obtain ⟨⟨yn, yb, yk, ys', yy, yr, yt⟩, st'⟩ := r
  unfold SymRPost at HC
  simp only [] at HC
  obtain ⟨iS, s0, s1, s2, s3⟩ := info_parts info_sym
  have HI := Lib.hid (And.intro s0 (And.intro s1 (And.intro s2 s3)))
  clear s0 s1 s2 s3
  go_enter Tryz.func91, Tryz.ntmps91
  go_wp2
  go_region_law (first
    | ((refine step_call rfl 92 #[.tmp 4] #[166] rfl Tryz.func92 (by kernel_rfl) (by kernel_rfl) #[.agg #[.pointer (some ⟨rb, 0, none⟩)]] (by simp [Act.eval]) HC.out ?_); rintro e wn ⟨vr, vn, rfl, k1, k2, k3, k4⟩; refine ⟨_, rfl, ?_⟩; obtain ⟨pr, cr, rfl⟩ := own_shape k1; obtain ⟨pn, cn, rfl⟩ := own_shape k2; have HP := Lib.hid (And.intro k1 (And.intro k2 (And.intro k3 k4))); have d0 : wn.heap[ob]? = some (.cells #[.string nm, .slice pv ts.length cv] 50 (0, 0)) := (k4.block ob (Array.getElem?_eq_some_iff.1 HO.out.1).1 (by have := HRB.out; have := HOB.out; omega)).trans HO.out.1; have d4 : (wn.alloc (.cells #[.string yn, .int .u8 yb, .int .u8 yk, .int .u32 ys', .string yy, .slice pr yr.length cr, .slice pn yt.length cn] 55)).cell? ⟨ob, 1, none⟩ = some (.slice pv ts.length cv) := Lib.cell_of_heap ((Below.heap_alloc _ _ _ (Array.getElem?_eq_some_iff.1 d0).1).trans d0) 1; have d1 : wn.cell? ⟨ob, 1, none⟩ = some (.slice pv ts.length cv) := Lib.cell_of_heap d0 1; have d3 : wn.heap[qb]? = some (.cells #[.pointer (some ⟨rb, 0, none⟩)] 166 (0, 0)) := (k4.block qb (Array.getElem?_eq_some_iff.1 (HS.out.q qb hq).1).1 (by have := HRB.out; have := (HS.out.q qb hq).2; omega)).trans (HS.out.q qb hq).1; have d2 : wn.cell? ⟨qb, 0, none⟩ = some (.pointer (some ⟨rb, 0, none⟩)) := Lib.cell_of_heap d3 0; have HOWN : Hid ((wn.alloc (.cells #[.string yn, .int .u8 yb, .int .u8 yk, .int .u32 ys', .string yy, .slice pr yr.length cr, .slice pn yt.length cn] 55)).ownsRow w0.heap.size 55 7 (.slice pv ts.length cv) ts.length (ts.flatMap symCells)) := (own_congr HO.out.2.1 fun g hg => k4.block g (HO.out.2.1.lt g hg).2 (by have := (HO.out.2.1.lt g hg).1; have := HRB.out; omega)).alloc _; have HNEWS : Hid (∀ j u, (symCells (⟨yn, yb, yk, ys', yy, yr, yt⟩, .slice pr yr.length cr, .slice pn yt.length cn))[j]? = some u → (wn.alloc (.cells #[.string yn, .int .u8 yb, .int .u8 yk, .int .u32 ys', .string yy, .slice pr yr.length cr, .slice pn yt.length cn] 55)).cell? ((⟨wn.heap.size, 0, none⟩ : Addr).add j) = some u) := new_seven wn _ _ _ _ _ _ _ _ _; have hz : w0.heap.size ≤ wn.heap.size := Nat.le_trans HK.out k4.size; clear k1 k2 k3 k4)
    | (refine step_append_own_at rfl (.tmp 3) (.tmp 6) 48 rfl w0.heap.size 55 iS _ 7 88 Tryz.underlying48 HI.out.1 HI.out.2.1 HI.out.2.2.1 HI.out.2.2.2 rfl (by decide) (.slice pv ts.length cv) ts.length (ts.flatMap symCells) (by simp [Act.eval]) HOWN.out ⟨wn.heap.size, 0, none⟩ 1 1 (symCells (⟨yn, yb, yk, ys', yy, yr, yt⟩, .slice pr yr.length cr, .slice pn yt.length cn)) (by simp [Act.eval]) rfl HNEWS.out (seven_one rfl rfl) (by unfold maxLen; omega) (by omega) (by simp; omega) ?_); intro v' w5 hown hgrow hv; obtain ⟨pw, cw, rfl⟩ := own_shape hown; have HG := Lib.hid (And.intro hown (And.intro hgrow hv)); have hb5 : w5.heap[ob]? = some (.cells #[.string nm, .slice pv ts.length cv] 50 (0, 0)) := (grow_box hgrow HOWN.out d0 (by decide)); have e1 : w5.cell? ⟨ob, 1, none⟩ = some (.slice pv ts.length cv) := Lib.cell_of_heap hb5 1; have e2 : w5.frozen? ⟨ob, 1, none⟩ = false := Lib.frozen_of_heap hb5 1; have e3 : w5.cell? ⟨qb, 0, none⟩ = some (.pointer (some ⟨rb, 0, none⟩)) := Lib.cell_of_heap (grow_box hgrow HOWN.out d3 (by decide)) 0; clear hown hgrow hv hb5)
  all_goals
    go_wp2_with fail
    go_end0
    exact ⟨rfl, HS.out.add HO.out HTS.out HP.out.2.2.1 HP.out.2.2.2 HP.out.1 HP.out.2.1 (alloc_old _ _) HG.out.1 HG.out.2.1 HG.out.2.2⟩
/-- how far the symbols are read -/
def GO (ys : List GSym) (T : List GSym × RS) (k : Nat) (st : RS) (zs : List GSym) : Prop := ys ++ T.1 = zs ++ (rMany rSym k st).1 ∧ (rMany rSym k st).2 = T.2 ∧ zs.length + k ≤ 70000
theorem GO.step {ys zs : List GSym} {T : List GSym × RS} {k : Nat} {r : BL} (h : GO ys T (k + 1) (some r) zs) : GO ys T k (rSym (some r)).2 (zs ++ [(rSym (some r)).1]) := by
  obtain ⟨h2, h3, h4⟩ := h
  rw [rMany] at h2 h3
  exact ⟨by simp [h2], h3, by simp; omega⟩
theorem GO.done {ys zs : List GSym} {T : List GSym × RS} {k : Nat} {st : RS} (h : GO ys T k st zs) (hk : k = 0 ∨ st = none) : zs = ys ++ T.1 ∧ st = T.2 := by
  obtain ⟨h2, h3, -⟩ := h
  rcases hk with rfl | rfl
  · rw [rMany_zero] at h2 h3; rw [List.append_nil] at h2; exact ⟨h2.symm, h3⟩
  · rw [rMany_none] at h2 h3; rw [List.append_nil] at h2; exact ⟨h2.symm, h3⟩
set_option maxRecDepth 100000 in
set_option maxHeartbeats 2000000 in
theorem goesO (Q : Nat → Prop) (qb ob rb : Nat) (hq : Q qb) (s : ByteArray) (st : RS) (nm : ByteArray) (ys : List GSym) (w0 w : World) (k : Nat) (h : ObjSt (fun w st => RdS w rb s st) Q ob rb st nm ys w0 w) (hlen : ys.length + k ≤ 70000) :
    Calls Tryz.prog 89 #[.agg #[.pointer (some ⟨rb, 0, none⟩)], .int .u32 k, .func (.func 91) #[] #[.pointer (some ⟨ob, 0, none⟩), .pointer (some ⟨qb, 0, none⟩)]] w fun e w' => e = .returned (.tuple #[]) ∧ ObjSt (fun w st => RdS w rb s st) Q ob rb (rMany rSym k st).2 nm (ys ++ (rMany rSym k st).1) w0 w' := by
  have HS0 := Lib.hid h.box; clear h
  have HG0 : Hid (GO ys (rMany rSym k st) k st ys) := ⟨rfl, rfl, hlen⟩
  generalize hT : rMany rSym k st = T at HG0
  have HT := Lib.hid hT; clear hT
  go_enter Tryz.func89, Tryz.ntmps89
  go_wp2
  generalize w.alloc (.cells #[.pointer (some ⟨rb, 0, none⟩)] 166) = w1 at HS0 ⊢
  generalize w.heap.size = gb at HS0 ⊢
  go_loopw [1] (fun v1 wr => ∃ (j : Nat) (st' : RS) (zs : List GSym), v1 = .int .u32 j ∧ GO ys T j st' zs ∧ ObjSt (fun w st => RdS w rb s st) (fun g => Q g ∨ g = gb) ob rb st' nm zs w0 wr) (fun v1 _ => (intOf v1).toNat)
  case atStart => exact ⟨k, st, ys, rfl, HG0.out, HS0.out⟩
  case round =>
    clear HG0 HS0
    obtain ⟨j, st', zs, rfl, hg, hs⟩ := hrel
    have HG := Lib.hid hg; have HS := Lib.hid hs
    have hj := hg.2.2
    clear hg hs
    by_cases hj0 : j = 0
    · have d : decide ((0 : Int) < (j : Int)) = false := by simp; omega
      have d' : decide (0 < j) = false := by simp; omega
      have HD := Lib.hid (HG.out.done (.inl hj0))
      clear hj0
      go_wp2
      go_end0
      obtain ⟨h1, h2⟩ := HD.out
      have hs := HS.out.sub (Q' := Q) (fun g hg => .inl hg)
      rw [h1, h2] at hs
      exact ⟨rfl, hs⟩
    · have d : decide ((0 : Int) < (j : Int)) = true := by simp; omega
      have d' : decide (0 < j) = true := by simp; omega
      have c := HS.out.c (qb := gb) (.inr rfl)
      obtain ⟨a, f, hb, he⟩ := HS.out.rd
      have HF := Lib.hid (fault_any rb s a f wr hb)
      have HE := Lib.hid he; clear hb he
      by_cases hf : f = 0
      · subst hf
        have HE2 : Hid (st' = some (s.data.toList.drop a)) := HE.out.trans stOf_ok
        generalize s.data.toList.drop a = r at HE2
        obtain ⟨i, rfl⟩ : ∃ i, j = i + 1 := ⟨j - 1, by omega⟩
        have hg := HG.out
        rw [HE2.out] at hg
        have HGS := Lib.hid hg.step
        have HCL := Lib.hid (get1_any (fun g => Q g ∨ g = gb) qb ob rb (.inl hq) s st' nm zs w0 wr HS.out (by omega))
        rw [HE2.out] at HCL
        clear hg HE
        go_wp2_with fail
        refine HF.out.mono ?_
        rintro e w2 ⟨rfl, rfl⟩
        clear HF c
        go_wp2_with fail
        refine HCL.out.mono ?_
        rintro e w3 ⟨rfl, hs3⟩
        have H3 := Lib.hid hs3; clear hs3 HCL
        have hs1 : ((i : Int) + 1) - 1 = (i : Int) := by omega
        go_wp2
        go_roundw
        case rel => exact ⟨i, _, _, by first | rfl | go_num, HGS.out, H3.out⟩
        case measure => simp [intOf]
      · have HN : Hid (st' = none) := HE.out.trans (stOf_spoilt hf)
        have bf : (f == 0) = false := by simpa using hf
        have HD := Lib.hid (HG.out.done (.inr HN.out))
        clear hf
        go_wp2_with fail
        refine HF.out.mono ?_
        rintro e w2 ⟨rfl, rfl⟩
        clear HF c
        go_wp2
        go_end0
        obtain ⟨h1, h2⟩ := HD.out
        have hs := HS.out.sub (Q' := Q) (fun g hg => .inl hg)
        rw [h1, h2] at hs
        exact ⟨rfl, hs⟩
end Go.Proofs.YtboegjdkedjhcaaGreatDoor
namespace Go.Proofs.YtboegjdkedjhcaaGreatDoor
open Go.RowKit
theorem isName_le {s : ByteArray} (h : isName s = true) : s.size ≤ 32 := by
  simp only [isName, Bool.and_eq_true, decide_eq_true_eq] at h
  exact h.2
theorem relsGo_names {n : Int} : ∀ {l : List GRel} {e : Int}, relsGo n e l = true → ∀ x ∈ l, isName x.name = true
  | [], _, _, x, hx => by cases hx
  | a :: r, e, h, x, hx => by
    simp only [relsGo, Bool.and_eq_true] at h
    rcases List.mem_cons.1 hx with rfl | hx
    · exact h.1.1.1.1.2
    · exact relsGo_names h.2 x hx
/-- what both readings ask -/
def weakSym (s : GSym) : Prop := s.name.size ≤ 32 ∧ s.rels.length ≤ 1024 ∧ s.notes.length ≤ 8 ∧ ∀ x ∈ s.rels, x.name.size ≤ 32
theorem weak_of_P {s : GSym} (h : symOkP s = true) : weakSym s := by
  simp only [symOkP, placesOk, Bool.and_eq_true, decide_eq_true_eq] at h
  exact ⟨isName_le h.1.1.1.1.1.1.1, h.1.1.2.2, h.1.2, fun x hx => isName_le (relsGo_names h.1.1.2.1 x hx)⟩
end Go.Proofs.YtboegjdkedjhcaaGreatDoor
namespace Go.Proofs.YtboegjdkedjhcaaGreatDoor
/-- a symbol's numbers are of their kinds -/
def SymNum (s : GSym) : Prop := (0 ≤ s.bind ∧ s.bind ≤ 255) ∧ (0 ≤ s.kind ∧ s.kind ≤ 255) ∧ (0 ≤ s.size ∧ s.size ≤ 4294967295) ∧
  (∀ x ∈ s.rels, (0 ≤ x.off ∧ x.off ≤ 4294967295) ∧ (0 ≤ x.kind ∧ x.kind ≤ 255) ∧ (0 ≤ x.add ∧ x.add ≤ 4294967295)) ∧
  (∀ x ∈ s.notes, (0 ≤ x.kind ∧ x.kind ≤ 255) ∧ (0 ≤ x.n ∧ x.n ≤ 4294967295) ∧ (0 ≤ x.m ∧ x.m ≤ 4294967295))
theorem symNum_of {w : World} {s : GSym} {vr vn : Value} (h : SymIn w s vr vn) : SymNum s := by
  obtain ⟨⟨_, _, _, _, _, _, _, _, h1⟩, ⟨_, _, _, _, _, _, _, _, h2⟩, h3, h4, h5, -⟩ := h
  refine ⟨h3, h4, h5, fun x hx => ?_, fun x hx => ?_⟩
  · obtain ⟨i, hi, rfl⟩ := List.mem_iff_getElem.1 hx
    obtain ⟨-, -, -, -, -, a, b, c, -⟩ := h1 i hi
    exact ⟨a, b, c⟩
  · obtain ⟨i, hi, rfl⟩ := List.mem_iff_getElem.1 hx
    obtain ⟨-, -, -, -, a, b, c⟩ := h2 i hi
    exact ⟨a, b, c⟩
theorem objNum_of {w : World} {o : GObj} {vs : Value} (h : ObjIn w o vs) : ∀ s ∈ o.syms, SymNum s := by
  obtain ⟨⟨_, _, _, _, _, _, _, _, h1⟩, -⟩ := h
  intro s hs
  obtain ⟨i, hi, rfl⟩ := List.mem_iff_getElem.1 hs
  obtain ⟨vr, vn, -, -, -, -, -, -, -, -, h2⟩ := h1 i hi
  exact symNum_of h2
/-- a symbol that may be, with few bytes -/
structure SymSm (s : GSym) : Prop where
  fit : SymFit s
  name : s.name.size ≤ 32
  bytes : s.bytes.size ≤ 8192
  rels : s.rels.length ≤ 1024
  rnames : ∀ x ∈ s.rels, x.name.size ≤ 32
  notes : s.notes.length ≤ 8
theorem symSm_of {s : GSym} (h : symOkP s = true) (hn : SymNum s) (hb : s.bytes.size < 4294967296) : SymSm s := by
  obtain ⟨w1, w2, w3, w4⟩ := weak_of_P h
  obtain ⟨n1, n2, n3, n4, n5⟩ := hn
  have hz : s.bytes.size ≤ 8192 := by
    have hl : len32 s.bytes = (s.bytes.size : Int) := by unfold len32; omega
    simp only [symOkP, sizedOk, sizedB, hl, Bool.and_eq_true, decide_eq_true_eq] at h
    have := h.1.1.1.2.1
    omega
  refine ⟨⟨by omega, by omega, by omega, by omega, by omega, by omega, fun x hx => ?_, by omega, fun x hx => ?_⟩, w1, hz, w2, w4, w3⟩
  · have := n4 x hx; have := w4 x hx; exact ⟨by omega, by omega, by omega, by omega⟩
  · have := n5 x hx; exact ⟨by omega, by omega, by omega⟩
theorem objSm_of {o : GObj} (h : mayP o = true) (hn : ∀ s ∈ o.syms, SymNum s) (hb : ∀ s ∈ o.syms, s.bytes.size < 4294967296) : o.name.size ≤ 32 ∧ o.syms.length ≤ 64 ∧ ∀ s ∈ o.syms, SymSm s := by
  simp only [mayP, Bool.and_eq_true, decide_eq_true_eq] at h
  exact ⟨isName_le h.1.2, h.2, fun s hs => symSm_of (symsGo_each _ _ h.1.1 s hs) (hn s hs) (hb s hs)⟩
theorem objFit_of {o : GObj} (h : o.name.size ≤ 32 ∧ o.syms.length ≤ 64 ∧ ∀ s ∈ o.syms, SymSm s) : ObjFit o := ⟨by omega, by omega, fun s hs => (h.2.2 s hs).fit⟩
theorem encText_len (s : ByteArray) : (encText s).length = 2 + s.size := by simp [encText, leB_length]
theorem flat_le {α : Type} {f : α → BL} {c : Nat} : ∀ {l : List α}, (∀ x ∈ l, (f x).length ≤ c) → (l.flatMap f).length ≤ l.length * c
  | [], _ => by simp
  | x :: r, h => by
    have := flat_le fun y hy => h y (List.mem_cons_of_mem x hy)
    have := h x (List.mem_cons_self ..)
    rw [List.flatMap_cons, List.length_append, List.length_cons, Nat.succ_mul]; omega
theorem encRel_len (x : GRel) : (encRel x).length = 11 + x.name.size := by simp [encRel, leB_length, encText_len]; omega
theorem encNote_len (x : GNote) : (encNote x).length = 9 := by simp [encNote, leB_length]
theorem encSym_len {s : GSym} (h : SymSm s) : (encSym s).length ≤ 60000 := by
  have h1 := flat_le (f := encRel) (c := 43) (l := s.rels) fun x hx => by rw [encRel_len]; have := h.rnames x hx; omega
  have h2 := flat_le (f := encNote) (c := 9) (l := s.notes) fun x _ => by rw [encNote_len]; exact Nat.le_refl _
  have := h.name; have := h.bytes; have := h.rels; have := h.notes
  simp only [encSym, List.length_append, leB_length, encText_len]
  omega
theorem take_flat {α : Type} {f : α → BL} {l : List α} {i : Nat} (h : i < l.length) : (l.take (i + 1)).flatMap f = (l.take i).flatMap f ++ f l[i] := by
  rw [List.take_succ_eq_append_getElem h, List.flatMap_append, List.flatMap_singleton]
theorem take_flat_le {α : Type} {f : α → BL} {c : Nat} {l : List α} (h : ∀ x ∈ l, (f x).length ≤ c) (i : Nat) : ((l.take i).flatMap f).length ≤ l.length * c := by
  have h1 := flat_le (f := f) (c := c) (l := l.take i) fun x hx => h x (List.mem_of_mem_take hx)
  have h2 : (l.take i).length * c ≤ l.length * c := Nat.mul_le_mul_right _ (by rw [List.length_take]; omega)
  omega
end Go.Proofs.YtboegjdkedjhcaaGreatDoor
namespace Go.Proofs.YtboegjdkedjhcaaGreatDoor
end Go.Proofs.YtboegjdkedjhcaaGreatDoor
