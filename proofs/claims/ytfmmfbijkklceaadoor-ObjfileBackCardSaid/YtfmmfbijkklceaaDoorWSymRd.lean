/- The walk of objfile.reading.sym. -/
import Derived.Test.YtfmmfbijkklceaaDoorWGoes
namespace Go.Proofs.YtfmmfbijkklceaaDoor
open Go.RowKit Go.Maps
theorem SymSt.put {R : Nat} {Q : Nat → Prop} {sb rb : Nat} {s : ByteArray} {st : RS} {y : GSym} {w0 w : World} (h : SymSt R Q sb rb s st y w0 w) (y' : GSym) (j : Nat) (v : Value) (hr : y'.rels = y.rels) (hn : y'.notes = y.notes)
    (hs : ∀ vr vn, (#[.string y.name, .int .u8 y.bind, .int .u8 y.kind, .int .u32 y.size, .string y.bytes, vr, vn] : Array Value).setIfInBounds j v = #[.string y'.name, .int .u8 y'.bind, .int .u8 y'.kind, .int .u32 y'.size, .string y'.bytes, vr, vn]) :
    SymSt R Q sb rb s st y' w0 (w.setCell ⟨sb, j, none⟩ v) := by
  obtain ⟨vr, vn, h1, h2, h3, h4, h5⟩ := h.y
  have r1 := h.rlt; have r3 := h.sle; have r5 := h.slt; have r6 := h.rle
  have hset : ∀ g, g ≠ sb → (w.setCell ⟨sb, j, none⟩ v).heap[g]? = w.heap[g]? := fun g hgs => Below.heap_setCell _ _ _ _ (by simpa using hgs)
  have hqs : ∀ g, Q g → g ≠ sb := fun g hg e => by have h2 := (h.q g hg).1; rw [e, h1] at h2; simp at h2
  refine ⟨fun g hg => by rw [hset g (hqs g hg)]; exact h.q g hg, ⟨vr, vn, ?_, ?_, ?_, h4, h5⟩, h.rd.congr (hset rb (by omega)), KB.setCell h.kb (.inr r3) _, r1, r3, r5, by simpa using r6⟩
  · rw [← hs]; simp [World.setCell, Array.getElem?_modify, h1]
  · rw [hr]; exact own_congr h2 fun g hg => hset g fun e => own_ne_box h2 (e ▸ h1) (by decide) hg
  · rw [hn]; exact own_congr h3 fun g hg => hset g fun e => own_ne_box h3 (e ▸ h1) (by decide) hg
/-- the symbol's first five cells -/
theorem SymSt.five {R : Nat} {Q : Nat → Prop} {sb rb : Nat} {s : ByteArray} {st : RS} {y : GSym} {w0 w : World} (h : SymSt R Q sb rb s st y w0 w) :
    (w.cell? ⟨sb, 0, none⟩ = some (.string y.name) ∧ w.cell? ⟨sb, 1, none⟩ = some (.int .u8 y.bind) ∧ w.cell? ⟨sb, 2, none⟩ = some (.int .u8 y.kind) ∧ w.cell? ⟨sb, 3, none⟩ = some (.int .u32 y.size) ∧ w.cell? ⟨sb, 4, none⟩ = some (.string y.bytes)) ∧ ∀ j, w.frozen? ⟨sb, j, none⟩ = false := by
  obtain ⟨vr, vn, h1, -⟩ := h.y
  exact ⟨⟨Lib.cell_of_heap h1 0, Lib.cell_of_heap h1 1, Lib.cell_of_heap h1 2, Lib.cell_of_heap h1 3, Lib.cell_of_heap h1 4⟩, fun j => Lib.frozen_of_heap h1 j⟩
theorem SymSt.nq {R : Nat} {Q : Nat → Prop} {sb rb : Nat} {s : ByteArray} {st : RS} {y : GSym} {w0 w : World} (h : SymSt R Q sb rb s st y w0 w) {qb : Nat} (hq : Q qb) : qb ≠ sb := fun e => by
  obtain ⟨vr, vn, h1, -⟩ := h.y
  have h2 := (h.q qb hq).1; rw [e, h1] at h2; simp at h2
theorem goesR_int (R : Nat) (Q : Nat → Prop) (qb sb rb : Nat) (hq : Q qb) (s : ByteArray) (st : RS) (y : GSym) (w0 w : World) (k : Int) (h : SymSt R Q sb rb s st y w0 w) (hk : 0 ≤ k ∧ k < 65536) (hy : y.rels = []) :
    Calls Tryd.prog 29 #[.agg #[.pointer (some ⟨rb, 0, none⟩)], .int .u32 k, .func (.func 53) #[] #[.pointer (some ⟨qb, 0, none⟩), .pointer (some ⟨sb, 0, none⟩)]] w fun e w' => e = .returned (.tuple #[]) ∧ ∃ R', SymSt R' Q sb rb s (rMany rRel k.toNat st).2 (withRels y (rMany rRel k.toNat st).1) w0 w' := by
  obtain ⟨n, rfl⟩ := Int.eq_ofNat_of_zero_le hk.1
  have := goesR R Q qb sb rb hq s st y w0 w n h (by rw [hy]; simp; omega)
  rw [hy, List.nil_append] at this
  exact this
theorem goesN_int (R : Nat) (Q : Nat → Prop) (qb sb rb : Nat) (hq : Q qb) (s : ByteArray) (st : RS) (y : GSym) (w0 w : World) (k : Int) (h : SymSt R Q sb rb s st y w0 w) (hk : 0 ≤ k ∧ k < 65536) (hy : y.notes = []) :
    Calls Tryd.prog 29 #[.agg #[.pointer (some ⟨rb, 0, none⟩)], .int .u32 k, .func (.func 54) #[] #[.pointer (some ⟨qb, 0, none⟩), .pointer (some ⟨sb, 0, none⟩)]] w fun e w' => e = .returned (.tuple #[]) ∧ ∃ R', SymSt R' Q sb rb s (rMany rNote k.toNat st).2 (withNotes y (rMany rNote k.toNat st).1) w0 w' := by
  obtain ⟨n, rfl⟩ := Int.eq_ofNat_of_zero_le hk.1
  have := goesN R Q qb sb rb hq s st y w0 w n h (by rw [hy]; simp; omega)
  rw [hy, List.nil_append] at this
  exact this
def sym0 : GSym := ⟨⟨#[]⟩, 0, 0, 0, ⟨#[]⟩, [], []⟩
def SymRPost (rb : Nat) (s : ByteArray) (r : GSym × RS) (w : World) (e : Ending) (w' : World) : Prop := ∃ vr vn, e = .returned (.agg #[.string r.1.name, .int .u8 r.1.bind, .int .u8 r.1.kind, .int .u32 r.1.size, .string r.1.bytes, vr, vn]) ∧
  w'.ownsRow w.heap.size 49 4 vr r.1.rels.length (r.1.rels.flatMap relCells) ∧ w'.ownsRow w.heap.size 64 3 vn r.1.notes.length (r.1.notes.flatMap noteCells) ∧ RdS w' rb s r.2 ∧ KR rb w w'
set_option maxRecDepth 100000 in
set_option maxHeartbeats 4000000 in
theorem symRd_any (rb : Nat) (s : ByteArray) (st : RS) (w : World) (h : RdS w rb s st) :
    Calls Tryd.prog 32 #[.agg #[.pointer (some ⟨rb, 0, none⟩)]] w (SymRPost rb s (rSym st) w) := by
  have hlt := h.lt
  have H := Lib.hid h; clear h
  go_enter Tryd.func32, Tryd.ntmps32
  go_upto_region 1 with fail
  generalize hw1 : (w.alloc (.cells #[.pointer (some ⟨rb, 0, none⟩)] 74)).alloc (.cells #[.string ⟨#[]⟩, .int .u8 0, .int .u8 0, .int .u32 0, .string ⟨#[]⟩, .slice none 0 0, .slice none 0 0] 47) = w1
  have HS : Hid (SymSt w1.heap.size (fun g => g = w.heap.size) (w.heap.size + 1) rb s st sym0 w w1) := by
    subst hw1
    have hb : Below w.heap.size w ((w.alloc (.cells #[.pointer (some ⟨rb, 0, none⟩)] 74)).alloc (.cells #[.string ⟨#[]⟩, .int .u8 0, .int .u8 0, .int .u32 0, .string ⟨#[]⟩, .slice none 0 0, .slice none 0 0] 47)) := (alloc_old w _).alloc (by simp) _
    refine ⟨fun g hg => ?_, ⟨.slice none 0 0, .slice none 0 0, ?_, World.ownsRow_nil _ _ _ _, World.ownsRow_nil _ _ _ _, fun g hg => (by cases hg), fun g hg => (by cases hg)⟩, H.out.congr (hb.block rb hlt), KB.of_below hb, hlt, by omega, by simp, Nat.le_refl _⟩
    · subst hg
      exact ⟨by rw [Below.heap_alloc _ _ _ (by simp)]; exact heap_alloc_new w _, Nat.le_refl _, by simp; omega⟩
    · have := heap_alloc_new (w.alloc (.cells #[.pointer (some ⟨rb, 0, none⟩)] 74)) (.cells #[.string ⟨#[]⟩, .int .u8 0, .int .u8 0, .int .u32 0, .string ⟨#[]⟩, .slice none 0 0, .slice none 0 0] 47)
      rw [show (w.alloc (.cells #[.pointer (some ⟨rb, 0, none⟩)] 74)).heap.size = w.heap.size + 1 by simp] at this
      exact this
  clear hw1 H
  generalize hqb : w.heap.size = qb at HS ⊢
  generalize qb + 1 = sb at HS ⊢
  have HQB := Lib.hid hqb; clear hqb
  have c := HS.out.c (qb := qb) rfl
  go_wp2_with fail
  refine (readWord_any rb s _ _ HS.out.rd).mono ?_
  rintro e wn ⟨rfl, k1, k2⟩
  replace HS := Lib.hid (HS.out.read k1 (KRR.of_kr k2))
  clear c k1 k2
  obtain ⟨⟨b0, b1, b2, b3, b4⟩, bf⟩ := HS.out.five
  have f0 := bf 0
  clear bf b1 b2 b3 b4
  go_upto_region 2 with fail
  replace HS := Lib.hid (HS.out.put { sym0 with name := (rText st).1 } 0 (.string (rText st).1) rfl rfl (fun _ _ => rfl))
  clear b0 f0
  generalize wn.setCell ⟨sb, 0, none⟩ (.string (rText st).1) = w2 at HS ⊢
  have HD := Lib.hid (HS.out.keep (Below.refl _ _).drew)
  replace HS := HD; clear HD
  have c := HS.out.c (qb := qb) rfl
  have nq := HS.out.nq (qb := qb) rfl
  have nq1 : ¬ qb = sb := nq
  have nq2 : ¬ sb = qb := fun e => nq e.symm
  have hbd := rNum_bd 1 (rText st).2
  have hbd2 := rNum_bd 1 (rNum 1 (rText st).2).2
  rw [p1] at hbd hbd2
  have hw1 : IntKind.u8.wrap (rNum 1 (rText st).2).1 = (rNum 1 (rText st).2).1 := by rw [IntKind.wrap_u8]; omega
  have hw2 : IntKind.u8.wrap (rNum 1 (rNum 1 (rText st).2).2).1 = (rNum 1 (rNum 1 (rText st).2).2).1 := by rw [IntKind.wrap_u8]; omega
  clear hbd hbd2
  go_wp2
  go_region_held3 (fun w' => w'.cell? ⟨qb, 0, none⟩ = some (.pointer (some ⟨rb, 0, none⟩))) (go_keep) (first | (go_at_call 30; (with_reducible refine (readNum1 rb s _ _ HS.out.rd).mono ?_); rintro e wn ⟨rfl, k1, k2⟩; replace HS := Lib.hid (HS.out.read k1 (KRR.of_kr k2)); have cn := HS.out.c (qb := qb) rfl; obtain ⟨⟨b0, b1, b2, b3, b4⟩, bf⟩ := HS.out.five; have f1 := bf 1; have f2 := bf 2; have f3 := bf 3; have f4 := bf 4; clear bf k1 k2))
  replace HS := Lib.hid ((HS.out.put { sym0 with name := (rText st).1, bind := (rNum 1 (rText st).2).1 } 1 (.int .u8 (rNum 1 (rText st).2).1) rfl rfl (fun _ _ => rfl)).put { sym0 with name := (rText st).1, bind := (rNum 1 (rText st).2).1, kind := (rNum 1 (rNum 1 (rText st).2).2).1 } 2 (.int .u8 (rNum 1 (rNum 1 (rText st).2).2).1) rfl rfl (fun _ _ => rfl))
  clear b0 b1 b2 b3 b4 f1 f2 f3 f4 hw1 hw2 c
  generalize (wn.setCell ⟨sb, 1, none⟩ (.int .u8 (rNum 1 (rText st).2).1)).setCell ⟨sb, 2, none⟩ (.int .u8 (rNum 1 (rNum 1 (rText st).2).2).1) = w3 at HS ⊢
  generalize hst3 : (rNum 1 (rNum 1 (rText st).2).2).2 = st3 at HS
  have HST3 := Lib.hid hst3; clear hst3
  generalize hy3 : ({ sym0 with name := (rText st).1, bind := (rNum 1 (rText st).2).1, kind := (rNum 1 (rNum 1 (rText st).2).2).1 } : GSym) = y3 at HS
  have HY3 := Lib.hid hy3; clear hy3
  have HD := Lib.hid (HS.out.keep (Below.refl _ _).drew)
  replace HS := HD; clear HD
  have c := HS.out.c (qb := qb) rfl
  go_wp2
  go_region_held3 (fun w' => w'.cell? ⟨qb, 0, none⟩ = some (.pointer (some ⟨rb, 0, none⟩))) (go_keep) (first | (go_at_call 30; (with_reducible refine (readNum4 rb s _ _ HS.out.rd).mono ?_); rintro e wn ⟨rfl, k1, k2⟩; replace HS := Lib.hid (HS.out.read k1 (KRR.of_kr k2)); have cn := HS.out.c (qb := qb) rfl; obtain ⟨⟨b0, b1, b2, b3, b4⟩, bf⟩ := HS.out.five; have f1 := bf 1; have f2 := bf 2; have f3 := bf 3; have f4 := bf 4; clear bf k1 k2) | (go_at_call 28; (with_reducible refine (readWord_any rb s _ _ HS.out.rd).mono ?_); rintro e wn ⟨rfl, k1, k2⟩; replace HS := Lib.hid (HS.out.read k1 (KRR.of_kr k2)); have cn := HS.out.c (qb := qb) rfl; obtain ⟨⟨b0, b1, b2, b3, b4⟩, bf⟩ := HS.out.five; have f1 := bf 1; have f2 := bf 2; have f3 := bf 3; have f4 := bf 4; clear bf k1 k2))
  replace HS := Lib.hid ((HS.out.put { y3 with size := (rNum 4 st3).1 } 3 (.int .u32 (rNum 4 st3).1) rfl rfl (fun _ _ => rfl)).put { y3 with size := (rNum 4 st3).1, bytes := (rText (rNum 4 st3).2).1 } 4 (.string (rText (rNum 4 st3).2).1) rfl rfl (fun _ _ => rfl))
  clear b0 b1 b2 b3 b4 f1 f2 f3 f4 c
  generalize (wn.setCell ⟨sb, 3, none⟩ (.int .u32 (rNum 4 st3).1)).setCell ⟨sb, 4, none⟩ (.string (rText (rNum 4 st3).2).1) = w4 at HS ⊢
  generalize hst4 : (rText (rNum 4 st3).2).2 = st4 at HS
  have HST4 := Lib.hid hst4; clear hst4
  generalize hy4 : ({ y3 with size := (rNum 4 st3).1, bytes := (rText (rNum 4 st3).2).1 } : GSym) = y4 at HS
  have HY4 := Lib.hid hy4; clear hy4
  have HR4 : Hid (y4.rels = [] ∧ y4.notes = []) := by rw [Hid, ← HY4.out, ← HY3.out]; exact ⟨rfl, rfl⟩
  have HD := Lib.hid (HS.out.keep (Below.refl _ _).drew)
  replace HS := HD; clear HD
  have c := HS.out.c (qb := qb) rfl
  have HB2 := Lib.hid (rNum_bd 2 st4)
  rw [p2] at HB2
  go_wp2
  go_cut [24] from 20 to 24 (fun _ wx => ∃ R', SymSt R' (fun g => g = qb) sb rb s (rMany rRel (rNum 2 st4).1.toNat (rNum 2 st4).2).2 (withRels y4 (rMany rRel (rNum 2 st4).1.toNat (rNum 2 st4).2).1) w wx)
  case first =>
    go_region_held3 (fun w' => w'.cell? ⟨qb, 0, none⟩ = some (.pointer (some ⟨rb, 0, none⟩))) (go_keep) (first | (go_at_call 30; (with_reducible refine (readNum2 rb s _ _ HS.out.rd).mono ?_); rintro e wn ⟨rfl, k1, k2⟩; replace HS := Lib.hid (HS.out.read k1 (KRR.of_kr k2)); have cn := HS.out.c (qb := qb) rfl; clear k1 k2) | (go_at_call 29; (with_reducible refine (goesR_int _ (fun g => g = qb) qb sb rb rfl s _ _ w _ _ HS.out HB2.out HR4.out.1).mono ?_); rintro e wn ⟨rfl, R2, hs2⟩; replace HS := Lib.hid hs2; have cn := HS.out.c (qb := qb) rfl; clear hs2))
    all_goals (go_wp2_with fail; go_meet; exact ⟨_, HS.out⟩)
  case rest =>
  obtain ⟨R2, hs2⟩ := hcut
  replace HS := Lib.hid hs2; clear hs2
  generalize hst5 : (rMany rRel (rNum 2 st4).1.toNat (rNum 2 st4).2).2 = st5 at HS
  have HST5 := Lib.hid hst5; clear hst5
  generalize hy5 : withRels y4 (rMany rRel (rNum 2 st4).1.toNat (rNum 2 st4).2).1 = y5 at HS
  have HY5 := Lib.hid hy5; clear hy5
  have HR5 : Hid (y5.notes = []) := by rw [Hid, ← HY5.out]; exact HR4.out.2
  obtain ⟨w5, rfl⟩ : ∃ w5 : World, w5 = wc := ⟨_, rfl⟩
  have HD := Lib.hid (HS.out.keep (Below.refl _ _).drew)
  replace HS := HD
  clear HD c HB2 HR4
  have c := HS.out.c (qb := qb) rfl
  have HB2 := Lib.hid (rNum_bd 1 st5)
  rw [p1] at HB2
  go_wp2
  go_cut [29] from 25 to 29 (fun _ wx => ∃ R', SymSt R' (fun g => g = qb) sb rb s (rMany rNote (rNum 1 st5).1.toNat (rNum 1 st5).2).2 (withNotes y5 (rMany rNote (rNum 1 st5).1.toNat (rNum 1 st5).2).1) w wx)
  case first =>
    go_region_held3 (fun w' => w'.cell? ⟨qb, 0, none⟩ = some (.pointer (some ⟨rb, 0, none⟩))) (go_keep) (first | (go_at_call 30; (with_reducible refine (readNum1 rb s _ _ HS.out.rd).mono ?_); rintro e wn ⟨rfl, k1, k2⟩; replace HS := Lib.hid (HS.out.read k1 (KRR.of_kr k2)); have cn := HS.out.c (qb := qb) rfl; clear k1 k2) | (go_at_call 29; (with_reducible refine (goesN_int _ (fun g => g = qb) qb sb rb rfl s _ _ w _ _ HS.out (by have := HB2.out; omega) HR5.out).mono ?_); rintro e wn ⟨rfl, R2, hs2⟩; replace HS := Lib.hid hs2; have cn := HS.out.c (qb := qb) rfl; clear hs2))
    all_goals (go_wp2_with fail; go_meet; exact ⟨_, HS.out⟩)
  case rest =>
  obtain ⟨R3, hs2⟩ := hcut
  replace HS := Lib.hid hs2; clear hs2
  obtain ⟨w6, rfl⟩ : ∃ w6 : World, w6 = wc := ⟨_, rfl⟩
  have HE : Hid (rSym st = (withNotes y5 (rMany rNote (rNum 1 st5).1.toNat (rNum 1 st5).2).1, (rMany rNote (rNum 1 st5).1.toNat (rNum 1 st5).2).2)) := by
    rw [Hid, ← HST5.out, ← HY5.out, ← HST4.out, ← HY4.out, ← HST3.out, ← HY3.out]; rfl
  generalize rMany rNote (rNum 1 st5).1.toNat (rNum 1 st5).2 = tn at HS HE
  generalize withNotes y5 tn.1 = y6 at HS HE
  generalize tn.2 = st6 at HS HE
  clear HST5 HY5 HST4 HY4 HST3 HY3 c HB2 HR5 nq nq1 nq2
  obtain ⟨vr, vn, g1, g2, g3, -, -⟩ := HS.out.y
  obtain ⟨pR, cR, rfl⟩ := own_shape g2
  obtain ⟨pN, cN, rfl⟩ := own_shape g3
  have G1 := Lib.hid g1; have G2 := Lib.hid g2; have G3 := Lib.hid g3
  clear g1 g2 g3
  obtain ⟨yn, yb, yk, ys, yy, yr, yt⟩ := y6
  simp only [] at G1 G2 G3
  have a0 : w6.cell? ⟨sb, 0, none⟩ = some (.string yn) := Lib.cell_of_heap G1.out 0
  have a1 : w6.cell? ⟨sb, 1, none⟩ = some (.int .u8 yb) := Lib.cell_of_heap G1.out 1
  have a2 : w6.cell? ⟨sb, 2, none⟩ = some (.int .u8 yk) := Lib.cell_of_heap G1.out 2
  have a3 : w6.cell? ⟨sb, 3, none⟩ = some (.int .u32 ys) := Lib.cell_of_heap G1.out 3
  have a4 : w6.cell? ⟨sb, 4, none⟩ = some (.string yy) := Lib.cell_of_heap G1.out 4
  have a5 : w6.cell? ⟨sb, 5, none⟩ = some (.slice pR yr.length cR) := Lib.cell_of_heap G1.out 5
  have a6 : w6.cell? ⟨sb, 6, none⟩ = some (.slice pN yt.length cN) := Lib.cell_of_heap G1.out 6
  have e0 : w6.frozen? ⟨sb, 0, none⟩ = false := Lib.frozen_of_heap G1.out 0
  have e1 : w6.frozen? ⟨sb, 1, none⟩ = false := Lib.frozen_of_heap G1.out 1
  have e2 : w6.frozen? ⟨sb, 2, none⟩ = false := Lib.frozen_of_heap G1.out 2
  have e3 : w6.frozen? ⟨sb, 3, none⟩ = false := Lib.frozen_of_heap G1.out 3
  have e4 : w6.frozen? ⟨sb, 4, none⟩ = false := Lib.frozen_of_heap G1.out 4
  have e5 : w6.frozen? ⟨sb, 5, none⟩ = false := Lib.frozen_of_heap G1.out 5
  have e6 : w6.frozen? ⟨sb, 6, none⟩ = false := Lib.frozen_of_heap G1.out 6
  go_wp2
  refine bodyPost_ret (v := .agg #[.string yn, .int .u8 yb, .int .u8 yk, .int .u32 ys, .string yy, .slice pR yr.length cR, .slice pN yt.length cN]) (by simp [results, Tryd.results32, go_sem, *]) rfl ?_
  rw [HE.out]
  have hset : ∀ (W : World) (j : Nat) (u : Value) (g : Nat), g ≠ sb → (W.setCell ⟨sb, j, none⟩ u).heap[g]? = W.heap[g]? := fun W j u g hg => Below.heap_setCell _ _ _ _ (by simpa using hg)
  have hsb := HS.out.sle
  have hrb := HS.out.rlt
  refine ⟨_, _, rfl, own_congr G2.out fun g hg => ?_, own_congr G3.out fun g hg => ?_, HS.out.rd.congr ?_, ((((((KB.setCell HS.out.kb (.inr hsb) _).setCell (.inr hsb) _).setCell (.inr hsb) _).setCell (.inr hsb) _).setCell (.inr hsb) _).setCell (.inr hsb) _).setCell (.inr hsb) _⟩
  · have hgs : g ≠ sb := fun e => own_ne_box G2.out (e ▸ G1.out) (by decide) hg
    simp only [hset _ _ _ g hgs]
  · have hgs : g ≠ sb := fun e => own_ne_box G3.out (e ▸ G1.out) (by decide) hg
    simp only [hset _ _ _ g hgs]
  · simp only [hset _ _ _ rb (show rb ≠ sb by omega)]
end Go.Proofs.YtfmmfbijkklceaaDoor
