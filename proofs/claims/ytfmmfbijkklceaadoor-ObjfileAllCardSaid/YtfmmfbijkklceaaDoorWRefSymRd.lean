/- The walk of aediculeref09.sym. -/
import Derived.Test.YtfmmfbijkklceaaDoorRefSymSt
import Derived.Deep.Onto
namespace Go.Proofs.YtfmmfbijkklceaaDoor
open Go.RowKit Go.Maps
theorem one1 (rb : Nat) (st : RS) (w : World) (h : RrS w rb st) : Calls Tryd.prog 36 #[.pointer (some ⟨rb, 0, none⟩), .int .i64 1] w (OnPost rb 1 st w) := one_any rb 1 st w h (by omega) (by omega)
theorem one2 (rb : Nat) (st : RS) (w : World) (h : RrS w rb st) : Calls Tryd.prog 36 #[.pointer (some ⟨rb, 0, none⟩), .int .i64 2] w (OnPost rb 2 st w) := one_any rb 2 st w h (by omega) (by omega)
theorem one4 (rb : Nat) (st : RS) (w : World) (h : RrS w rb st) : Calls Tryd.prog 36 #[.pointer (some ⟨rb, 0, none⟩), .int .i64 4] w (OnPost rb 4 st w) := one_any rb 4 st w h (by omega) (by omega)
def RSPost (rb : Nat) (r : GSym × RS) (w : World) (e : Ending) (w' : World) : Prop := ∃ vr vn, e = .returned (.agg #[.string r.1.name, .int .u8 r.1.bind, .int .u8 r.1.kind, .int .u32 r.1.size, .string r.1.bytes, vr, vn]) ∧
  w'.ownsRow w.heap.size 49 4 vr r.1.rels.length (r.1.rels.flatMap relCells) ∧ w'.ownsRow w.heap.size 64 3 vn r.1.notes.length (r.1.notes.flatMap noteCells) ∧ RrS w' rb r.2 ∧ KR rb w w'
/-- what stands behind the copy into the result's block -/
theorem refSym_fin {w w0 wr : World} {sb rb R : Nat} {st' : RS} {yn yy : ByteArray} {yb yk ys : Int} {yr : List GRel} {yt : List GNote} {pR pN : Option Addr} {cR cN : Nat} {r : GSym × RS}
    (hb0 : Below w.heap.size w w0) (hz0 : w.heap.size < w0.heap.size) (hs : RSymSt R (fun _ => False) sb rb st' ⟨yn, yb, yk, ys, yy, yr, yt⟩ w0 wr)
    (g2 : wr.ownsRow w0.heap.size 49 4 (.slice pR yr.length cR) yr.length (yr.flatMap relCells)) (g3 : wr.ownsRow w0.heap.size 64 3 (.slice pN yt.length cN) yt.length (yt.flatMap noteCells))
    (he : r = (⟨yn, yb, yk, ys, yy, yr, yt⟩, st')) (hlt : rb < w.heap.size) (u0 u1 u2 u3 u4 u5 u6 : Value) :
    RSPost rb r w (.returned (.agg #[.string yn, .int .u8 yb, .int .u8 yk, .int .u32 ys, .string yy, .slice pR yr.length cR, .slice pN yt.length cN]))
      (((((((wr.setCell ⟨w.heap.size, 0, none⟩ u0).setCell ⟨w.heap.size, 1, none⟩ u1).setCell ⟨w.heap.size, 2, none⟩ u2).setCell ⟨w.heap.size, 3, none⟩ u3).setCell ⟨w.heap.size, 4, none⟩ u4).setCell ⟨w.heap.size, 5, none⟩ u5).setCell ⟨w.heap.size, 6, none⟩ u6) := by
  subst he
  have hset : ∀ (W : World) (j : Nat) (u : Value) (g : Nat), g ≠ w.heap.size → (W.setCell ⟨w.heap.size, j, none⟩ u).heap[g]? = W.heap[g]? := fun W j u g hg => Below.heap_setCell _ _ _ _ (by simpa using hg)
  have hle : w.heap.size ≤ w0.heap.size := by omega
  have k0 : KR rb w wr := (KB.of_below hb0).trans hs.kb
  refine ⟨_, _, rfl, own_congr (g2.mono hle) fun g hg => ?_, own_congr (g3.mono hle) fun g hg => ?_, hs.rd.congr ?_, ((((((KB.setCell k0 (.inr (Nat.le_refl _)) _).setCell (.inr (Nat.le_refl _)) _).setCell (.inr (Nat.le_refl _)) _).setCell (.inr (Nat.le_refl _)) _).setCell (.inr (Nat.le_refl _)) _).setCell (.inr (Nat.le_refl _)) _).setCell (.inr (Nat.le_refl _)) _⟩
  · have := (g2.lt g hg).1
    simp only [hset _ _ _ g (by omega)]
  · have := (g3.lt g hg).1
    simp only [hset _ _ _ g (by omega)]
  · simp only [hset _ _ _ rb (show rb ≠ w.heap.size by omega)]
set_option maxRecDepth 100000 in
set_option maxHeartbeats 4000000 in
theorem refSymRd_any (rb : Nat) (st : RS) (w : World) (h : RrS w rb st) :
    Calls Tryd.prog 37 #[.pointer (some ⟨rb, 0, none⟩)] w (RSPost rb (rSym st) w) := by
  have hlt := h.lt
  have H := Lib.hid h; clear h
  go_enter Tryd.func37, Tryd.ntmps37
  go_upto_region 1 with fail
  generalize hw0 : w.alloc (.cells #[.string ⟨#[]⟩, .int .u8 0, .int .u8 0, .int .u32 0, .string ⟨#[]⟩, .slice none 0 0, .slice none 0 0] 47) = w0
  have HB0 : Hid (Below w.heap.size w w0) := by subst hw0; exact alloc_old _ _
  have hz0 : w.heap.size < w0.heap.size := by subst hw0; simp
  have HR0 : Hid (w0.heap[w.heap.size]? = some (.cells #[.string ⟨#[]⟩, .int .u8 0, .int .u8 0, .int .u32 0, .string ⟨#[]⟩, .slice none 0 0, .slice none 0 0] 47 (0, 0))) := by subst hw0; exact heap_alloc_new w _
  clear hw0
  replace H := Lib.hid (H.out.congr (HB0.out.block rb hlt))
  go_wp2_with fail
  refine (word09_any rb st w0 H.out).mono ?_
  rintro e w1 ⟨rfl, k1, k2⟩
  have K1 := Lib.hid k1; have K2 := Lib.hid k2
  clear k1 k2
  go_upto_region 2 with fail
  have HS : Hid (RSymSt (w1.alloc (.cells #[.string (rText st).1, .int .u8 0, .int .u8 0, .int .u32 0, .string ⟨#[]⟩, .slice none 0 0, .slice none 0 0] 47)).heap.size (fun _ => False) w1.heap.size rb (rText st).2 { sym0 with name := (rText st).1 } w0 (w1.alloc (.cells #[.string (rText st).1, .int .u8 0, .int .u8 0, .int .u32 0, .string ⟨#[]⟩, .slice none 0 0, .slice none 0 0] 47))) := by
    have hb := alloc_old w1 (.cells #[.string (rText st).1, .int .u8 0, .int .u8 0, .int .u32 0, .string ⟨#[]⟩, .slice none 0 0, .slice none 0 0] 47)
    exact ⟨fun g hg => hg.elim, ⟨.slice none 0 0, .slice none 0 0, heap_alloc_new w1 _, World.ownsRow_nil _ _ _ _, World.ownsRow_nil _ _ _ _, fun g hg => (by cases hg), fun g hg => (by cases hg)⟩, K1.out.congr (hb.block rb K1.out.lt), K2.out.trans (KB.of_below hb), by omega, K2.out.size, by simp, Nat.le_refl _⟩
  generalize w1.alloc (.cells #[.string (rText st).1, .int .u8 0, .int .u8 0, .int .u32 0, .string ⟨#[]⟩, .slice none 0 0, .slice none 0 0] 47) = w2 at HS ⊢
  generalize w1.heap.size = sb at HS ⊢
  have hbd := rNum_bd 1 (rText st).2
  rw [p1] at hbd
  have hb0 := hbd.1
  have hb1 : (rNum 1 (rText st).2).1 ≤ 255 := by omega
  clear hbd
  go_wp2_with fail
  refine (one1 rb _ _ HS.out.rd).mono ?_
  rintro e wn ⟨rfl, k1, k2⟩
  replace HS := Lib.hid (HS.out.read k1 (KRR.of_kr k2)); clear k1 k2
  obtain ⟨⟨b0, b1, b2, b3, b4⟩, bf⟩ := HS.out.five
  have ff := bf 1
  clear bf
  go_upto_region 3 with fail
  replace HS := Lib.hid (HS.out.put { sym0 with name := (rText st).1, bind := (rNum 1 (rText st).2).1 } 1 (.int .u8 (rNum 1 (rText st).2).1) rfl rfl (fun _ _ => rfl))
  clear b0 b1 b2 b3 b4 ff hb0 hb1
  generalize wn.setCell ⟨sb, 1, none⟩ (.int .u8 (rNum 1 (rText st).2).1) = w3 at HS ⊢
  have hbd := rNum_bd 1 (rNum 1 (rText st).2).2
  rw [p1] at hbd
  have hb0 := hbd.1
  have hb1 : (rNum 1 (rNum 1 (rText st).2).2).1 ≤ 255 := by omega
  clear hbd
  go_wp2_with fail
  refine (one1 rb _ _ HS.out.rd).mono ?_
  rintro e wn ⟨rfl, k1, k2⟩
  replace HS := Lib.hid (HS.out.read k1 (KRR.of_kr k2)); clear k1 k2
  obtain ⟨⟨b0, b1, b2, b3, b4⟩, bf⟩ := HS.out.five
  have ff := bf 2
  clear bf
  go_upto_region 4 with fail
  replace HS := Lib.hid (HS.out.put { sym0 with name := (rText st).1, bind := (rNum 1 (rText st).2).1, kind := (rNum 1 (rNum 1 (rText st).2).2).1 } 2 (.int .u8 (rNum 1 (rNum 1 (rText st).2).2).1) rfl rfl (fun _ _ => rfl))
  clear b0 b1 b2 b3 b4 ff hb0 hb1
  generalize wn.setCell ⟨sb, 2, none⟩ (.int .u8 (rNum 1 (rNum 1 (rText st).2).2).1) = w4 at HS ⊢
  go_wp2_with fail
  refine (one4 rb _ _ HS.out.rd).mono ?_
  rintro e wn ⟨rfl, k1, k2⟩
  replace HS := Lib.hid (HS.out.read k1 (KRR.of_kr k2)); clear k1 k2
  obtain ⟨⟨b0, b1, b2, b3, b4⟩, bf⟩ := HS.out.five
  have ff := bf 3
  clear bf
  go_upto_region 5 with fail
  replace HS := Lib.hid (HS.out.put { sym0 with name := (rText st).1, bind := (rNum 1 (rText st).2).1, kind := (rNum 1 (rNum 1 (rText st).2).2).1, size := (rNum 4 (rNum 1 (rNum 1 (rText st).2).2).2).1 } 3 (.int .u32 (rNum 4 (rNum 1 (rNum 1 (rText st).2).2).2).1) rfl rfl (fun _ _ => rfl))
  clear b0 b1 b2 b3 b4 ff
  generalize wn.setCell ⟨sb, 3, none⟩ (.int .u32 (rNum 4 (rNum 1 (rNum 1 (rText st).2).2).2).1) = w5 at HS ⊢
  go_wp2_with fail
  refine (word09_any rb _ _ HS.out.rd).mono ?_
  rintro e wn ⟨rfl, k1, k2⟩
  replace HS := Lib.hid (HS.out.read k1 (KRR.of_kr k2)); clear k1 k2
  obtain ⟨⟨b0, b1, b2, b3, b4⟩, bf⟩ := HS.out.five
  have ff := bf 4
  clear bf
  go_upto_region 6 with fail
  replace HS := Lib.hid (HS.out.put { sym0 with name := (rText st).1, bind := (rNum 1 (rText st).2).1, kind := (rNum 1 (rNum 1 (rText st).2).2).1, size := (rNum 4 (rNum 1 (rNum 1 (rText st).2).2).2).1, bytes := (rText (rNum 4 (rNum 1 (rNum 1 (rText st).2).2).2).2).1 } 4 (.string (rText (rNum 4 (rNum 1 (rNum 1 (rText st).2).2).2).2).1) rfl rfl (fun _ _ => rfl))
  clear b0 b1 b2 b3 b4 ff
  generalize wn.setCell ⟨sb, 4, none⟩ (.string (rText (rNum 4 (rNum 1 (rNum 1 (rText st).2).2).2).2).1) = w6 at HS ⊢
  generalize hst5 : (rText (rNum 4 (rNum 1 (rNum 1 (rText st).2).2).2).2).2 = st5 at HS
  have HST5 := Lib.hid hst5; clear hst5
  generalize hy5 : ({ sym0 with name := (rText st).1, bind := (rNum 1 (rText st).2).1, kind := (rNum 1 (rNum 1 (rText st).2).2).1, size := (rNum 4 (rNum 1 (rNum 1 (rText st).2).2).2).1, bytes := (rText (rNum 4 (rNum 1 (rNum 1 (rText st).2).2).2).2).1 } : GSym) = y5 at HS
  have HY5 := Lib.hid hy5; clear hy5
  have HR5 : Hid (y5.rels = [] ∧ y5.notes = []) := by rw [Hid, ← HY5.out]; exact ⟨rfl, rfl⟩
  have HBD := Lib.hid (rNum_bd 2 st5)
  rw [p2] at HBD
  have HC := Lib.hid (one2 rb st5 _ HS.out.rd)
  have HSY : Hid (rSym st = (fun (q : Int × RS) => (withNotes (withRels y5 (rMany rRel q.1.toNat q.2).1) (rMany rNote (rNum 1 (rMany rRel q.1.toNat q.2).2).1.toNat (rNum 1 (rMany rRel q.1.toNat q.2).2).2).1, (rMany rNote (rNum 1 (rMany rRel q.1.toNat q.2).2).1.toNat (rNum 1 (rMany rRel q.1.toNat q.2).2).2).2)) (rNum 2 st5)) := by
    rw [Hid, ← HST5.out, ← HY5.out]; rfl
  unfold OnPost at HC
  generalize rNum 2 st5 = nn at HC HBD HSY
  obtain ⟨n1, st6⟩ := nn
  simp only [] at HC HBD HSY
  obtain ⟨k, rfl⟩ := Int.eq_ofNat_of_zero_le HBD.out.1
  have hk : (k : Int) < 65536 := HBD.out.2
  rw [Int.toNat_natCast] at HSY
  go_wp2_with fail
  refine HC.out.mono ?_
  rintro e w7 ⟨rfl, k1, k2⟩
  replace HS := Lib.hid (HS.out.read k1 (KRR.of_kr k2)); clear k1 k2 HC HBD HST5 HY5
  have HG0 : Hid (GR y5 (rMany rRel k st6) k st6 y5) := ⟨rfl, by rw [HR5.out.1]; rfl, rfl, by rw [HR5.out.1]; simp; omega⟩
  generalize rMany rRel k st6 = T at HG0 HSY
  go_wp2
  go_loopw [5] (fun v5 wr => ∃ (i j : Nat) (st' : RS) (y' : GSym) (R' : Nat), v5 = .int .u32 i ∧ i + j = k ∧ GR y5 T j st' y' ∧ RSymSt R' (fun _ => False) sb rb st' y' w0 wr) (fun v5 _ => k - (intOf v5).toNat)
  case atStart => exact ⟨0, k, st6, y5, _, rfl, by omega, HG0.out, HS.out⟩
  case round =>
    clear HG0 HS
    obtain ⟨i, j, st', y', R', rfl, hij, hg, hs⟩ := hrel
    have HG := Lib.hid hg; have HS := Lib.hid hs.fresh
    have hj := hg.2.2.2
    clear hg hs
    obtain ⟨sS, fF, hb, he⟩ := HS.out.rd
    have c1 := hb.c1
    have HE := Lib.hid he; clear hb he
    by_cases hround : j ≠ 0 ∧ fF = 0
    · obtain ⟨hj0, rfl⟩ := hround
      have HE2 : Hid (st' = some sS.data.toList) := HE.out.trans rrOf_ok
      generalize sS.data.toList = r at HE2
      obtain ⟨j', rfl⟩ : ∃ j', j = j' + 1 := ⟨j - 1, by omega⟩
      have hg := HG.out
      rw [HE2.out] at hg
      have HGS := Lib.hid hg.step
      rw [HE2.out] at HS
      clear hg HE HG HE2
      have d1 : decide ((i : Int) < (k : Int)) = true := by simp; omega
      have d1' : decide (i < k) = true := by simp; omega
      go_wp2_with fail
      refine (one4 rb _ _ HS.out.rd).mono ?_
      rintro e wn ⟨rfl, k1, k2⟩
      replace HS := Lib.hid (HS.out.read k1 (KRR.of_kr k2)); clear k1 k2 c1
      go_upto_region 11 with fail
      have hxr : wr.heap.size ≤ wn.heap.size := HS.out.rle
      have HX : Hid ((wn.alloc (.cells #[.int .u32 (rNum 4 (some r)).1, .int .u8 0, .string ⟨#[]⟩, .int .u32 0] 49)).heap[wn.heap.size]? = some (.cells #[.int .u32 (rNum 4 (some r)).1, .int .u8 0, .string ⟨#[]⟩, .int .u32 0] 49 (0, 0))) := heap_alloc_new wn _
      replace HS := Lib.hid (HS.out.keep (alloc_old wn (.cells #[.int .u32 (rNum 4 (some r)).1, .int .u8 0, .string ⟨#[]⟩, .int .u32 0] 49)))
      generalize wn.alloc (.cells #[.int .u32 (rNum 4 (some r)).1, .int .u8 0, .string ⟨#[]⟩, .int .u32 0] 49) = wb at HS HX ⊢
      generalize wn.heap.size = xb at hxr HX ⊢
      have hbd := rNum_bd 1 (rNum 4 (some r)).2
      rw [p1] at hbd
      have hb0 := hbd.1
      have hb1 : (rNum 1 (rNum 4 (some r)).2).1 ≤ 255 := by omega
      clear hbd
      go_wp2_with fail
      refine (one1 rb _ _ HS.out.rd).mono ?_
      rintro e wn ⟨rfl, k1, k2⟩
      replace HX := Lib.hid ((k2.block xb (Array.getElem?_eq_some_iff.1 HX.out).1 (by have := HS.out.rlt; have := HS.out.sle; have := HS.out.slt; omega)).trans HX.out)
      replace HS := Lib.hid (HS.out.read k1 (KRR.of_kr k2)); clear k1 k2
      have bb : wn.cell? ⟨xb, 1, none⟩ = some (.int .u8 0) := Lib.cell_of_heap HX.out 1
      have ff : wn.frozen? ⟨xb, 1, none⟩ = false := Lib.frozen_of_heap HX.out 1
      go_upto_region 12 with fail
      replace HX : Hid ((wn.setCell ⟨xb, 1, none⟩ (.int .u8 (rNum 1 (rNum 4 (some r)).2).1)).heap[xb]? = some (.cells #[.int .u32 (rNum 4 (some r)).1, .int .u8 (rNum 1 (rNum 4 (some r)).2).1, .string ⟨#[]⟩, .int .u32 0] 49 (0, 0))) := by
        rw [Hid]; simp [World.setCell, Array.getElem?_modify, HX.out]
      replace HS := Lib.hid (HS.out.still ((KB.refl _ wn).setR hxr 1 (.int .u8 (rNum 1 (rNum 4 (some r)).2).1)))
      clear bb ff hb0 hb1
      generalize wn.setCell ⟨xb, 1, none⟩ (.int .u8 (rNum 1 (rNum 4 (some r)).2).1) = wb1 at HS HX ⊢
      go_wp2_with fail
      refine (word09_any rb _ _ HS.out.rd).mono ?_
      rintro e wn ⟨rfl, k1, k2⟩
      replace HX := Lib.hid ((k2.block xb (Array.getElem?_eq_some_iff.1 HX.out).1 (by have := HS.out.rlt; have := HS.out.sle; have := HS.out.slt; omega)).trans HX.out)
      replace HS := Lib.hid (HS.out.read k1 (KRR.of_kr k2)); clear k1 k2
      have bb : wn.cell? ⟨xb, 2, none⟩ = some (.string ⟨#[]⟩) := Lib.cell_of_heap HX.out 2
      have ff : wn.frozen? ⟨xb, 2, none⟩ = false := Lib.frozen_of_heap HX.out 2
      go_upto_region 13 with fail
      replace HX : Hid ((wn.setCell ⟨xb, 2, none⟩ (.string (rText (rNum 1 (rNum 4 (some r)).2).2).1)).heap[xb]? = some (.cells #[.int .u32 (rNum 4 (some r)).1, .int .u8 (rNum 1 (rNum 4 (some r)).2).1, .string (rText (rNum 1 (rNum 4 (some r)).2).2).1, .int .u32 0] 49 (0, 0))) := by
        rw [Hid]; simp [World.setCell, Array.getElem?_modify, HX.out]
      replace HS := Lib.hid (HS.out.still ((KB.refl _ wn).setR hxr 2 (.string (rText (rNum 1 (rNum 4 (some r)).2).2).1)))
      clear bb ff
      generalize wn.setCell ⟨xb, 2, none⟩ (.string (rText (rNum 1 (rNum 4 (some r)).2).2).1) = wb2 at HS HX ⊢
      go_wp2_with fail
      refine (one4 rb _ _ HS.out.rd).mono ?_
      rintro e wn ⟨rfl, k1, k2⟩
      replace HX := Lib.hid ((k2.block xb (Array.getElem?_eq_some_iff.1 HX.out).1 (by have := HS.out.rlt; have := HS.out.sle; have := HS.out.slt; omega)).trans HX.out)
      replace HS := Lib.hid (HS.out.read k1 (KRR.of_kr k2)); clear k1 k2
      have bb : wn.cell? ⟨xb, 3, none⟩ = some (.int .u32 0) := Lib.cell_of_heap HX.out 3
      have ff : wn.frozen? ⟨xb, 3, none⟩ = false := Lib.frozen_of_heap HX.out 3
      go_upto_region 14 with fail
      replace HX : Hid ((wn.setCell ⟨xb, 3, none⟩ (.int .u32 (rNum 4 (rText (rNum 1 (rNum 4 (some r)).2).2).2).1)).heap[xb]? = some (.cells #[.int .u32 (rNum 4 (some r)).1, .int .u8 (rNum 1 (rNum 4 (some r)).2).1, .string (rText (rNum 1 (rNum 4 (some r)).2).2).1, .int .u32 (rNum 4 (rText (rNum 1 (rNum 4 (some r)).2).2).2).1] 49 (0, 0))) := by
        rw [Hid]; simp [World.setCell, Array.getElem?_modify, HX.out]
      replace HS := Lib.hid (HS.out.still ((KB.refl _ wn).setR hxr 3 (.int .u32 (rNum 4 (rText (rNum 1 (rNum 4 (some r)).2).2).2).1)))
      clear bb ff
      generalize wn.setCell ⟨xb, 3, none⟩ (.int .u32 (rNum 4 (rText (rNum 1 (rNum 4 (some r)).2).2).2).1) = wb3 at HS HX ⊢
      generalize hrr : rRel (some r) = rr at HGS
      have HX3 : Hid (wb3.heap[xb]? = some (.cells #[.int .u32 rr.1.off, .int .u8 rr.1.kind, .string rr.1.name, .int .u32 rr.1.add] 49 (0, 0))) := by rw [Hid, ← hrr]; exact HX.out
      have HS3 : Hid (RSymSt wr.heap.size (fun _ => False) sb rb rr.2 y' w0 wb3) := by rw [← hrr]; exact HS.out
      clear hrr HX HS
      obtain ⟨⟨ro, rk, rn, ra⟩, rst⟩ := rr
      simp only [] at HX3 HS3 HGS
      have HX := HX3; have HS := HS3
      clear HX3 HS3
      obtain ⟨vr, vn, g1, g2, g3, -, -⟩ := HS.out.y
      obtain ⟨pR, cR, rfl⟩ := own_shape g2
      have G1 := Lib.hid g1; have G2 := Lib.hid g2; have G3 := Lib.hid g3
      clear g1 g2 g3
      have s5 : wb3.cell? ⟨sb, 5, none⟩ = some (.slice pR y'.rels.length cR) := Lib.cell_of_heap G1.out 5
      have x0 : wb3.cell? ⟨xb, 0, none⟩ = some (.int .u32 ro) := Lib.cell_of_heap HX.out 0
      have x1 : wb3.cell? ⟨xb, 1, none⟩ = some (.int .u8 rk) := Lib.cell_of_heap HX.out 1
      have x2 : wb3.cell? ⟨xb, 2, none⟩ = some (.string rn) := Lib.cell_of_heap HX.out 2
      have x3 : wb3.cell? ⟨xb, 3, none⟩ = some (.int .u32 ra) := Lib.cell_of_heap HX.out 3
      obtain ⟨iR, r0, r1, r2, r3⟩ := info_parts info_rel
      have HA := Lib.hid (And.intro r0 (And.intro r1 (And.intro r2 r3)))
      clear r0 r1 r2 r3
      have hz1 := HS.out.kb.size
      have hzs : sb < wb3.heap.size := (Array.getElem?_eq_some_iff.1 G1.out).1
      go_wp2_with (at_builtin; refine wpList_append_own_at _ rfl _ _ 44 rfl w0.heap.size 49 iR _ 4 32 Tryd.underlying44 HA.out.1 HA.out.2.1 HA.out.2.2.1 HA.out.2.2.2 rfl (by decide) _ y'.rels.length (y'.rels.flatMap relCells) rfl ?c0 _ 1 1 (relCells ⟨ro, rk, rn, ra⟩) rfl rfl ?c1 ?c2 ?c3 ?c4 ?c5 ?_)
      case c0 => exact G2.out.alloc _
      case c1 =>
        intro j u hu
        rw [add_at, Nat.zero_add]
        match j, hu with
        | 0, hu => cases hu; simp [go_sem]
        | 1, hu => cases hu; simp [go_sem]
        | 2, hu => cases hu; simp [go_sem]
        | 3, hu => cases hu; simp [go_sem]
      case c2 =>
        intro u hu
        simp only [relCells, List.mem_cons, List.not_mem_nil, or_false] at hu
        rcases hu with rfl | rfl | rfl | rfl <;> rfl
      case c3 => unfold maxLen; omega
      case c4 => omega
      case c5 => simp; omega
      intro v' w9 hown hgrow _ _
      have HF := Lib.hid (HS.out.addR (x := ⟨ro, rk, rn, ra⟩) G1.out G2.out G3.out (alloc_old _ _) hown hgrow)
      have hb : w9.heap[sb]? = wb3.heap[sb]? := by rw [hgrow.block sb (by simp; omega) (fun e => own_ne_box G2.out G1.out (by decide) e.symm), Below.heap_alloc _ _ _ hzs]
      have t5 : w9.cell? ⟨sb, 5, none⟩ = some (.slice pR y'.rels.length cR) := by rw [World.cell?_of_block (w := wb3) hb]; exact s5
      have tf : w9.frozen? ⟨sb, 5, none⟩ = false := Lib.frozen_of_heap (hb.trans G1.out) 5
      obtain ⟨pv, cv, rfl⟩ := own_shape hown
      clear hown hgrow hb s5 x0 x1 x2 x3
      go_wp2
      go_roundw
      case rel => exact ⟨i + 1, j', _, _, _, by go_num, by omega, HGS.out, HF.out⟩
      case measure => simp [intOf]; omega
    · have HD := Lib.hid (HG.out.done (by
        by_cases hj0 : j = 0
        · exact .inl hj0
        · exact .inr (HE.out.trans (rrOf_bad fun e => hround ⟨hj0, e⟩))))
      have hdone : (decide ((i : Int) < (k : Int)) = false ∧ decide (i < k) = false) ∨ (decide ((i : Int) < (k : Int)) = true ∧ decide (i < k) = true ∧ (fF == 0) = false) := by
        by_cases hj0 : j = 0
        · exact .inl ⟨by simp; omega, by simp; omega⟩
        · exact .inr ⟨by simp; omega, by simp; omega, by simp; exact fun e => hround ⟨hj0, e⟩⟩
      clear hround
      obtain ⟨T1, T2⟩ := T
      simp only [] at HD HSY
      obtain ⟨h1, h2⟩ := HD.out
      rw [h1, h2] at HS
      clear h1 h2 HD HG HE hj hij
      have HC := Lib.hid (one1 rb T2 _ HS.out.rd)
      have HBD := Lib.hid (rNum_bd 1 T2)
      rw [p1] at HBD
      have HN5 : Hid ((withRels y5 T1).notes = []) := HR5.out.2
      unfold OnPost at HC
      generalize withRels y5 T1 = y6 at HS HSY HN5
      generalize rNum 1 T2 = nn at HC HBD HSY
      obtain ⟨n2, st7⟩ := nn
      simp only [] at HC HBD HSY
      obtain ⟨kn, rfl⟩ := Int.eq_ofNat_of_zero_le HBD.out.1
      have hkn : (kn : Int) < 256 := HBD.out.2
      rw [Int.toNat_natCast] at HSY
      rcases hdone with ⟨d, d'⟩ | ⟨d, d', bf⟩
      all_goals
        go_wp2_with fail
        refine HC.out.mono ?_
        rintro e w8 ⟨rfl, k1, k2⟩
        replace HS := Lib.hid (HS.out.read k1 (KRR.of_kr k2)); clear k1 k2 HC HBD c1
        have HG0 : Hid (GN y6 (rMany rNote kn st7) kn st7 y6) := ⟨rfl, by rw [HN5.out]; rfl, rfl, by rw [HN5.out]; simp; omega⟩
        generalize rMany rNote kn st7 = T at HG0 HSY
        go_wp2
        go_loopw [7] (fun v7 wr => ∃ (i j : Nat) (st' : RS) (y' : GSym) (R' : Nat), v7 = .int .u32 i ∧ i + j = kn ∧ GN y6 T j st' y' ∧ RSymSt R' (fun _ => False) sb rb st' y' w0 wr) (fun v7 _ => kn - (intOf v7).toNat)
        case atStart => exact ⟨0, kn, st7, y6, _, rfl, by omega, HG0.out, HS.out⟩
        case round =>
          clear HG0 HS d d'
          obtain ⟨i2, j, st', y', R', rfl, hij, hg, hs⟩ := hrel
          have HG := Lib.hid hg; have HS := Lib.hid hs.fresh
          have hj := hg.2.2.2
          clear hg hs
          obtain ⟨sS2, fF2, hb, he⟩ := HS.out.rd
          have c1 := hb.c1
          have HE := Lib.hid he; clear hb he
          by_cases hround : j ≠ 0 ∧ fF2 = 0
          · obtain ⟨hj0, rfl⟩ := hround
            have HE2 : Hid (st' = some sS2.data.toList) := HE.out.trans rrOf_ok
            generalize sS2.data.toList = r at HE2
            obtain ⟨j', rfl⟩ : ∃ j', j = j' + 1 := ⟨j - 1, by omega⟩
            have hg := HG.out
            rw [HE2.out] at hg
            have HGS := Lib.hid hg.step
            rw [HE2.out] at HS
            clear hg HE HG HE2
            have d1 : decide ((i2 : Int) < (kn : Int)) = true := by simp; omega
            have d1' : decide (i2 < kn) = true := by simp; omega
            have hbd := rNum_bd 1 (some r)
            rw [p1] at hbd
            have hb0 := hbd.1
            have hb1 : (rNum 1 (some r)).1 ≤ 255 := by omega
            clear hbd
            go_wp2_with fail
            refine (one1 rb _ _ HS.out.rd).mono ?_
            rintro e wn ⟨rfl, k1, k2⟩
            replace HS := Lib.hid (HS.out.read k1 (KRR.of_kr k2)); clear k1 k2 c1
            go_upto_region 20 with fail
            have hxr : wr.heap.size ≤ wn.heap.size := HS.out.rle
            have HX : Hid ((wn.alloc (.cells #[.int .u8 (rNum 1 (some r)).1, .int .u32 0, .int .u32 0] 64)).heap[wn.heap.size]? = some (.cells #[.int .u8 (rNum 1 (some r)).1, .int .u32 0, .int .u32 0] 64 (0, 0))) := heap_alloc_new wn _
            replace HS := Lib.hid (HS.out.keep (alloc_old wn (.cells #[.int .u8 (rNum 1 (some r)).1, .int .u32 0, .int .u32 0] 64)))
            clear hb0 hb1
            generalize wn.alloc (.cells #[.int .u8 (rNum 1 (some r)).1, .int .u32 0, .int .u32 0] 64) = wb at HS HX ⊢
            generalize wn.heap.size = xb at hxr HX ⊢
            go_wp2_with fail
            refine (one4 rb _ _ HS.out.rd).mono ?_
            rintro e wn ⟨rfl, k1, k2⟩
            replace HX := Lib.hid ((k2.block xb (Array.getElem?_eq_some_iff.1 HX.out).1 (by have := HS.out.rlt; have := HS.out.sle; have := HS.out.slt; omega)).trans HX.out)
            replace HS := Lib.hid (HS.out.read k1 (KRR.of_kr k2)); clear k1 k2
            have bb : wn.cell? ⟨xb, 1, none⟩ = some (.int .u32 0) := Lib.cell_of_heap HX.out 1
            have ff : wn.frozen? ⟨xb, 1, none⟩ = false := Lib.frozen_of_heap HX.out 1
            go_upto_region 21 with fail
            replace HX : Hid ((wn.setCell ⟨xb, 1, none⟩ (.int .u32 (rNum 4 (rNum 1 (some r)).2).1)).heap[xb]? = some (.cells #[.int .u8 (rNum 1 (some r)).1, .int .u32 (rNum 4 (rNum 1 (some r)).2).1, .int .u32 0] 64 (0, 0))) := by
              rw [Hid]; simp [World.setCell, Array.getElem?_modify, HX.out]
            replace HS := Lib.hid (HS.out.still ((KB.refl _ wn).setR hxr 1 (.int .u32 (rNum 4 (rNum 1 (some r)).2).1)))
            clear bb ff
            generalize wn.setCell ⟨xb, 1, none⟩ (.int .u32 (rNum 4 (rNum 1 (some r)).2).1) = wb1 at HS HX ⊢
            go_wp2_with fail
            refine (one4 rb _ _ HS.out.rd).mono ?_
            rintro e wn ⟨rfl, k1, k2⟩
            replace HX := Lib.hid ((k2.block xb (Array.getElem?_eq_some_iff.1 HX.out).1 (by have := HS.out.rlt; have := HS.out.sle; have := HS.out.slt; omega)).trans HX.out)
            replace HS := Lib.hid (HS.out.read k1 (KRR.of_kr k2)); clear k1 k2
            have bb : wn.cell? ⟨xb, 2, none⟩ = some (.int .u32 0) := Lib.cell_of_heap HX.out 2
            have ff : wn.frozen? ⟨xb, 2, none⟩ = false := Lib.frozen_of_heap HX.out 2
            go_upto_region 22 with fail
            replace HX : Hid ((wn.setCell ⟨xb, 2, none⟩ (.int .u32 (rNum 4 (rNum 4 (rNum 1 (some r)).2).2).1)).heap[xb]? = some (.cells #[.int .u8 (rNum 1 (some r)).1, .int .u32 (rNum 4 (rNum 1 (some r)).2).1, .int .u32 (rNum 4 (rNum 4 (rNum 1 (some r)).2).2).1] 64 (0, 0))) := by
              rw [Hid]; simp [World.setCell, Array.getElem?_modify, HX.out]
            replace HS := Lib.hid (HS.out.still ((KB.refl _ wn).setR hxr 2 (.int .u32 (rNum 4 (rNum 4 (rNum 1 (some r)).2).2).1)))
            clear bb ff
            generalize wn.setCell ⟨xb, 2, none⟩ (.int .u32 (rNum 4 (rNum 4 (rNum 1 (some r)).2).2).1) = wb3 at HS HX ⊢
            generalize hrr : rNote (some r) = rr at HGS
            have HX3 : Hid (wb3.heap[xb]? = some (.cells #[.int .u8 rr.1.kind, .int .u32 rr.1.n, .int .u32 rr.1.m] 64 (0, 0))) := by rw [Hid, ← hrr]; exact HX.out
            have HS3 : Hid (RSymSt wr.heap.size (fun _ => False) sb rb rr.2 y' w0 wb3) := by rw [← hrr]; exact HS.out
            clear hrr HX HS
            obtain ⟨⟨rk, rn, ra⟩, rst⟩ := rr
            simp only [] at HX3 HS3 HGS
            have HX := HX3; have HS := HS3
            clear HX3 HS3
            obtain ⟨vr, vn, g1, g2, g3, -, -⟩ := HS.out.y
            obtain ⟨pR, cR, rfl⟩ := own_shape g3
            have G1 := Lib.hid g1; have G2 := Lib.hid g2; have G3 := Lib.hid g3
            clear g1 g2 g3
            have s5 : wb3.cell? ⟨sb, 6, none⟩ = some (.slice pR y'.notes.length cR) := Lib.cell_of_heap G1.out 6
            have x0 : wb3.cell? ⟨xb, 0, none⟩ = some (.int .u8 rk) := Lib.cell_of_heap HX.out 0
            have x1 : wb3.cell? ⟨xb, 1, none⟩ = some (.int .u32 rn) := Lib.cell_of_heap HX.out 1
            have x2 : wb3.cell? ⟨xb, 2, none⟩ = some (.int .u32 ra) := Lib.cell_of_heap HX.out 2
            obtain ⟨iR, r0, r1, r2, r3⟩ := info_parts info_note
            have HA := Lib.hid (And.intro r0 (And.intro r1 (And.intro r2 r3)))
            clear r0 r1 r2 r3
            have hz1 := HS.out.kb.size
            have hzs : sb < wb3.heap.size := (Array.getElem?_eq_some_iff.1 G1.out).1
            go_wp2_with (at_builtin; refine wpList_append_own_at _ rfl _ _ 45 rfl w0.heap.size 64 iR _ 3 12 Tryd.underlying45 HA.out.1 HA.out.2.1 HA.out.2.2.1 HA.out.2.2.2 rfl (by decide) _ y'.notes.length (y'.notes.flatMap noteCells) rfl ?c0 _ 1 1 (noteCells ⟨rk, rn, ra⟩) rfl rfl ?c1 ?c2 ?c3 ?c4 ?c5 ?_)
            case c0 => exact G3.out.alloc _
            case c1 =>
              intro j u hu
              rw [add_at, Nat.zero_add]
              match j, hu with
              | 0, hu => cases hu; simp [go_sem]
              | 1, hu => cases hu; simp [go_sem]
              | 2, hu => cases hu; simp [go_sem]
            case c2 =>
              intro u hu
              simp only [noteCells, List.mem_cons, List.not_mem_nil, or_false] at hu
              rcases hu with rfl | rfl | rfl <;> rfl
            case c3 => unfold maxLen; omega
            case c4 => omega
            case c5 => simp; omega
            intro v' w9 hown hgrow _ _
            have HF := Lib.hid (HS.out.addN (x := ⟨rk, rn, ra⟩) G1.out G2.out G3.out (alloc_old _ _) hown hgrow)
            have hb : w9.heap[sb]? = wb3.heap[sb]? := by rw [hgrow.block sb (by simp; omega) (fun e => own_ne_box G3.out G1.out (by decide) e.symm), Below.heap_alloc _ _ _ hzs]
            have t5 : w9.cell? ⟨sb, 6, none⟩ = some (.slice pR y'.notes.length cR) := by rw [World.cell?_of_block (w := wb3) hb]; exact s5
            have tf : w9.frozen? ⟨sb, 6, none⟩ = false := Lib.frozen_of_heap (hb.trans G1.out) 6
            obtain ⟨pv, cv, rfl⟩ := own_shape hown
            clear hown hgrow hb s5 x0 x1 x2
            go_wp2
            go_roundw
            case rel => exact ⟨i2 + 1, j', _, _, _, by go_num, by omega, HGS.out, HF.out⟩
            case measure => simp [intOf]; omega
          · have HD := Lib.hid (HG.out.done (by
              by_cases hj0 : j = 0
              · exact .inl hj0
              · exact .inr (HE.out.trans (rrOf_bad fun e => hround ⟨hj0, e⟩))))
            have hdone : (decide ((i2 : Int) < (kn : Int)) = false ∧ decide (i2 < kn) = false) ∨ (decide ((i2 : Int) < (kn : Int)) = true ∧ decide (i2 < kn) = true ∧ (fF2 == 0) = false) := by
              by_cases hj0 : j = 0
              · exact .inl ⟨by simp; omega, by simp; omega⟩
              · exact .inr ⟨by simp; omega, by simp; omega, by simp; exact fun e => hround ⟨hj0, e⟩⟩
            clear hround
            obtain ⟨T1', T2'⟩ := T
            simp only [] at HD HSY
            obtain ⟨h1, h2⟩ := HD.out
            rw [h1, h2] at HS
            clear h1 h2 HD HG HE hj hij
            generalize withNotes y6 T1' = y7 at HS HSY
            have HR1 : Hid (wr.heap[w.heap.size]? = some (.cells #[.string ⟨#[]⟩, .int .u8 0, .int .u8 0, .int .u32 0, .string ⟨#[]⟩, .slice none 0 0, .slice none 0 0] 47 (0, 0))) := (HS.out.kb.block w.heap.size hz0 (fun e => by omega)).trans HR0.out
            obtain ⟨vr, vn, g1, g2, g3, -, -⟩ := HS.out.y
            obtain ⟨pR, cR, rfl⟩ := own_shape g2
            obtain ⟨pN, cN, rfl⟩ := own_shape g3
            have G1 := Lib.hid g1; have G2 := Lib.hid g2; have G3 := Lib.hid g3
            clear g1 g2 g3
            obtain ⟨yn, yb, yk, ys, yy, yr, yt⟩ := y7
            simp only [] at G1 G2 G3
            have a0 : wr.cell? ⟨sb, 0, none⟩ = some (.string yn) := Lib.cell_of_heap G1.out 0
            have a1 : wr.cell? ⟨sb, 1, none⟩ = some (.int .u8 yb) := Lib.cell_of_heap G1.out 1
            have a2 : wr.cell? ⟨sb, 2, none⟩ = some (.int .u8 yk) := Lib.cell_of_heap G1.out 2
            have a3 : wr.cell? ⟨sb, 3, none⟩ = some (.int .u32 ys) := Lib.cell_of_heap G1.out 3
            have a4 : wr.cell? ⟨sb, 4, none⟩ = some (.string yy) := Lib.cell_of_heap G1.out 4
            have a5 : wr.cell? ⟨sb, 5, none⟩ = some (.slice pR yr.length cR) := Lib.cell_of_heap G1.out 5
            have a6 : wr.cell? ⟨sb, 6, none⟩ = some (.slice pN yt.length cN) := Lib.cell_of_heap G1.out 6
            have q0 : wr.cell? ⟨w.heap.size, 0, none⟩ = some (.string ⟨#[]⟩) := Lib.cell_of_heap HR1.out 0
            have q1 : wr.cell? ⟨w.heap.size, 1, none⟩ = some (.int .u8 0) := Lib.cell_of_heap HR1.out 1
            have q2 : wr.cell? ⟨w.heap.size, 2, none⟩ = some (.int .u8 0) := Lib.cell_of_heap HR1.out 2
            have q3 : wr.cell? ⟨w.heap.size, 3, none⟩ = some (.int .u32 0) := Lib.cell_of_heap HR1.out 3
            have q4 : wr.cell? ⟨w.heap.size, 4, none⟩ = some (.string ⟨#[]⟩) := Lib.cell_of_heap HR1.out 4
            have q5 : wr.cell? ⟨w.heap.size, 5, none⟩ = some (.slice none 0 0) := Lib.cell_of_heap HR1.out 5
            have q6 : wr.cell? ⟨w.heap.size, 6, none⟩ = some (.slice none 0 0) := Lib.cell_of_heap HR1.out 6
            have e0 : wr.frozen? ⟨w.heap.size, 0, none⟩ = false := Lib.frozen_of_heap HR1.out 0
            have e1 : wr.frozen? ⟨w.heap.size, 1, none⟩ = false := Lib.frozen_of_heap HR1.out 1
            have e2 : wr.frozen? ⟨w.heap.size, 2, none⟩ = false := Lib.frozen_of_heap HR1.out 2
            have e3 : wr.frozen? ⟨w.heap.size, 3, none⟩ = false := Lib.frozen_of_heap HR1.out 3
            have e4 : wr.frozen? ⟨w.heap.size, 4, none⟩ = false := Lib.frozen_of_heap HR1.out 4
            have e5 : wr.frozen? ⟨w.heap.size, 5, none⟩ = false := Lib.frozen_of_heap HR1.out 5
            have e6 : wr.frozen? ⟨w.heap.size, 6, none⟩ = false := Lib.frozen_of_heap HR1.out 6
            have hsb := HS.out.sle
            rcases hdone with ⟨d, d'⟩ | ⟨d, d', bf2⟩
            all_goals
              go_wp2
              refine bodyPost_ret (v := .agg #[.string yn, .int .u8 yb, .int .u8 yk, .int .u32 ys, .string yy, .slice pR yr.length cR, .slice pN yt.length cN]) (by simp [results, Tryd.results37, go_sem, *]) rfl ?_
              exact refSym_fin HB0.out hz0 HS.out G2.out G3.out HSY.out hlt _ _ _ _ _ _ _
end Go.Proofs.YtfmmfbijkklceaaDoor
