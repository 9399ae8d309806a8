/- The walk of aediculelaw35.alive. -/
import Derived.Test.YtboegjdkedjhcaaGreatDoorBs41
import Derived.Test.YtboegjdkedjhcaaGreatDoorBs39
import Derived.Test.YtboegjdkedjhcaaGreatDoorBs43
import Derived.Test.YtboegjdkedjhcaaGreatDoorBs27
import Derived.Test.YtboegjdkedjhcaaGreatDoorBs30
import Derived.Test.YtboegjdkedjhcaaGreatDoorBs36
import Derived.Test.YtboegjdkedjhcaaGreatDoorBs35
namespace Go.Proofs.YtboegjdkedjhcaaGreatDoor
open Go.RowKit Go.Maps
theorem arcs35_at {W : World} {vc : Value} (h : ObjsAt W vc mems35) : ArcsAt (W.alloc (.cells #[.string lib35, vc] 24)) (.slice (some ⟨W.heap.size, 0, none⟩) 1 1) [arc35] := by
 refine ⟨_, _, W.heap.size, 0, rfl, Nat.le_refl _, by decide, fun _ => rfl, fun i hi => ?_⟩
 obtain rfl : i = 0 := by simpa using hi
 exact ⟨vc, by simp, by simp [go_sem, arc35], by simp [go_sem], h.keep (alloc_old W _), (by decide : lib35.size ≤ 140737488355328)⟩
theorem small35 : SmallA base35 [arc35] where
 mems := by rw [memsOf35]; decide
 base := fun o ho => small_may (List.all_eq_true.1 base35_may o ho)
 arcs := fun o ho => by
  rw [memsOf35] at ho; exact small_may (List.all_eq_true.1 (by decide +kernel : mems35.all mayP = true) o ho)
theorem ok35 : pullOkB base35 [arc35] = true := by decide +kernel
theorem notes35 (I : Nat → Bool) (ps : List GP) : notesOf (base35 ++ selGo I 0 mems35) ps = [] := by
 unfold notesOf; rw [List.flatMap_eq_nil_iff]; intro p _; cases h : symAt (base35 ++ selGo I 0 mems35) p with
 | none => rfl
 | some s =>
   obtain ⟨o, ho, hs⟩ := mem_sym h; have h1 : (base35 ++ mems35).all (fun o => o.syms.all fun s => s.notes.length == 0) = true := by decide +kernel
   have h2 : o ∈ base35 ++ mems35 := by
    rcases List.mem_append.1 ho with h3 | h3
    ·exact List.mem_append_left _ h3
    ·obtain ⟨k, hk, -, rfl⟩ := mem_selGo.1 h3; exact List.mem_append_right _ (List.getElem_mem hk)
   have h3 := List.all_eq_true.1 (List.all_eq_true.1 h1 o h2) s hs; exact List.eq_nil_of_length_eq_zero (by simpa using h3)
theorem pull_call {W : World} {g : Nat} {vb vc : Value} (hg : g = W.heap.size) (hb : ObjsAt W vb base35) (hc : ObjsAt W vc mems35) :
 Calls Tryz.prog 17 #[.string n35, vb, .slice (some ⟨g, 0, none⟩) 1 1] (W.alloc (.cells #[.string lib35, vc] 24)) fun e w' => ∃ vo, e = .returned (.tuple #[vo, .int .i64 0]) ∧ ObjsAt w' vo l35 ∧ Below W.heap.size W w' := by
 subst hg; refine (pull_any n35 vb base35 _ [arc35] _ (hb.keep (alloc_old W _)) (arcs35_at hc) small35 (by decide)).mono ?_
 rintro e w' (⟨h, -⟩ | ⟨-, I, hpo, h, hB⟩)
 ·rw [ok35] at h; cases h
 ·rw [memsOf35] at hpo h; rw [sel35 hpo] at h; rcases h with ⟨h1, -⟩ | ⟨-, vo, rfl, h2⟩
  ·exact absurd h1 (by decide)
  ·exact ⟨vo, rfl, h2, (alloc_old W _).trans (hB.mono (by simp))⟩
theorem link_call {W : World} {g : Nat} {vb vc : Value} (hsort : SortOk) (hg : g = W.heap.size) (hb : ObjsAt W vb base35) (hc : ObjsAt W vc mems35) :
 Calls Tryz.prog 24 #[.string n35, vb, .slice (some ⟨g, 0, none⟩) 1 1] (W.alloc (.cells #[.string lib35, vc] 24)) fun e w' => ∃ r : GLink × ByteArray × Int, r.2.2 = 0 ∧ r.1.addrs.length = 3 ∧ LPost W r e w' := by
 subst hg; refine (link35_any hsort n35 vb base35 _ [arc35] _ (hb.keep (alloc_old W _)) (arcs35_at hc) small35 (by decide) (fun I ps => by rw [memsOf35, notes35]; exact s16_nil) (fun o ho _ s hs => ?_)).mono ?_
 ·rw [memsOf35] at ho; have h1 : (base35 ++ mems35).all (fun o => o.syms.all fun s => decide (s.bytes.size < 4294967296)) = true := by decide +kernel
  exact of_decide_eq_true (List.all_eq_true.1 (List.all_eq_true.1 h1 o ho) s hs)
 ·rintro e w' ⟨r, h, ve, vp, vs, va, rfl, h2, hB⟩; rcases h with ⟨h, -⟩ | ⟨-, I, hpo, h⟩
  ·rw [ok35] at h; cases h
  ·rw [memsOf35] at hpo h; rw [sel35 hpo] at h; rcases h with ⟨h1, -⟩ | ⟨-, h1⟩
   ·exact absurd h1 (by decide)
   ·obtain ⟨a1, a2⟩ := alive35_link h1; exact ⟨r, a1, by rw [a2]; rfl, ve, vp, vs, va, rfl, h2, (alloc_old W _).trans (hB.mono (by simp))⟩
theorem index_call {W : World} {g : Nat} {vc : Value} (hg : g = W.heap.size) (hc : ObjsAt W vc mems35) :
 Calls Tryz.prog 19 #[.slice (some ⟨g, 0, none⟩) 1 1] (W.alloc (.cells #[.string lib35, vc] 24)) fun e w' => ∃ p c, e = .returned (.slice p 3 c) ∧ Below W.heap.size W w' := by
 subst hg; refine (index_any _ [arc35] _ (arcs35_at hc) (by rw [memsOf35]; decide) (by rw [memsOf35]; decide +kernel)).mono ?_
 rintro e w' ⟨vo, es, rfl, hr, hp, hB⟩; obtain ⟨p, c, rfl⟩ := own_shape hr; have e3 : es.length = 3 := by rw [hp.length_eq, ents35]
 rw [e3]; exact ⟨p, c, rfl, (alloc_old W _).trans (hB.mono (by simp))⟩
def e35 : ByteArray := bsOf (encArc arc35)
theorem e35_len : e35.size ≤ 1000 := by unfold e35; rw [bsOf_size]; decide +kernel
theorem e35_get : arcGetV e35 = (arc35, 0) := by unfold arcGetV e35; rw [bsOf_list, enc35]
theorem e35_x : arcGetV (e35 ++ ⟨#[120]⟩) = (⟨⟨#[]⟩, []⟩, 7) := by
 unfold arcGetV; rw [show (e35 ++ ⟨#[120]⟩ : ByteArray).data.toList = encArc arc35 ++ [120] by rw [← bsOf_list (encArc arc35)]; simp [e35]]
 rw [enc35_x]
structure Al35 (w0 : World) (b c tb : Nat) (w : World) : Prop where
 bel : Below w0.heap.size w0 w
 tbx : w.heap[tb]? = some (.cells #[.string lib35, .slice (some ⟨c, 0, none⟩) 3 3] 24 (0, 0))
 ob : ObjsAt w (.slice (some ⟨b, 0, none⟩) 1 1) base35
 om : ObjsAt w (.slice (some ⟨c, 0, none⟩) 3 3) mems35
theorem Al35.keep {w0 w w' : World} {b c tb : Nat} (h : Al35 w0 b c tb w) (hb : Below w.heap.size w w') : Al35 w0 b c tb w' :=
 ⟨h.bel.trans (hb.mono h.bel.size), (hb.block tb (Array.getElem?_eq_some_iff.1 h.tbx).1).trans h.tbx, h.ob.keep hb, h.om.keep hb⟩
theorem Al35.c0 {w0 w : World} {b c tb : Nat} (h : Al35 w0 b c tb w) : w.cell? ⟨tb, 0, none⟩ = some (.string lib35) := Lib.cell_of_heap h.tbx 0
theorem Al35.c1 {w0 w : World} {b c tb : Nat} (h : Al35 w0 b c tb w) : w.cell? ⟨tb, 1, none⟩ = some (.slice (some ⟨c, 0, none⟩) 3 3) := Lib.cell_of_heap h.tbx 1
def NameAt (w : World) (g o : Nat) (s : ByteArray) : Prop := g < w.heap.size ∧ w.cell? ⟨g, o, none⟩ = some (.string s)
theorem NameAt.keep {w w' : World} {g o : Nat} {s : ByteArray} (h : NameAt w g o s) (hb : Below w.heap.size w w') : NameAt w' g o s := ⟨size_keep hb h.1, cell_keep hb h.1 h.2⟩
def ArcBox (w : World) (g : Nat) (x : GArc) (v : Value) : Prop := w.heap[g]? = some (.cells #[.string x.name, v] 24 (0, 0)) ∧ ArcIn w x v
theorem ArcBox.keep {w w' : World} {g : Nat} {x : GArc} {v : Value} (h : ArcBox w g x v) (hb : Below w.heap.size w w') : ArcBox w' g x v := ⟨(hb.block g (Array.getElem?_eq_some_iff.1 h.1).1).trans h.1, h.2.keep hb⟩
theorem put35_call {w0 w : World} {b c tb : Nat} (h : Al35 w0 b c tb w) : Calls Tryz.prog 11 #[.agg #[.string lib35, .slice (some ⟨c, 0, none⟩) 3 3]] w fun e w' => e = .returned (.tuple #[.string e35, .int .i64 0]) ∧ Below w.heap.size w w' :=
 arcPut_ok arc35 _ w ⟨h.om, by decide⟩ arc35_ok fun o ho s hs => by
  have h1 : mems35.all (fun o => o.syms.all fun s => decide (s.bytes.size < 4294967296)) = true := by decide +kernel
  exact of_decide_eq_true (List.all_eq_true.1 (List.all_eq_true.1 h1 o ho) s hs)
theorem get35_call (w : World) : Calls Tryz.prog 15 #[.string e35] w fun e w' => ∃ p k, e = .returned (.tuple #[.agg #[.string lib35, .slice p 3 k], .int .i64 0]) ∧ ArcIn w' arc35 (.slice p 3 k) ∧ Below w.heap.size w w' := by
 have h := arcGet_any e35 w (by have := e35_len; omega)
 rw [e35_get] at h; refine h.mono ?_; rintro e w' ⟨vs, rfl, ⟨p, k, rfl⟩, h1, h2⟩; exact ⟨p, k, rfl, h1, h2⟩
theorem getx35_call (w : World) : Calls Tryz.prog 15 #[.string (e35 ++ ⟨#[120]⟩)] w fun e w' => ∃ p k, e = .returned (.tuple #[.agg #[.string ⟨#[]⟩, .slice p 0 k], .int .i64 7]) ∧ Below w.heap.size w w' := by
 have h := arcGet_any (e35 ++ ⟨#[120]⟩) w (by have := e35_len; rw [ByteArray.size_append]; have : (⟨#[120]⟩ : ByteArray).size = 1 := rfl; omega)
 rw [e35_x] at h; refine h.mono ?_; rintro e w' ⟨vs, rfl, ⟨p, k, rfl⟩, h1, h2⟩; exact ⟨p, k, rfl, h2⟩
theorem want35_call {w0 w : World} {b c tb : Nat} (h : Al35 w0 b c tb w) : Calls Tryz.prog 20 #[.string n35, .slice (some ⟨b, 0, none⟩) 1 1] w fun e w' => ∃ g k, e = .returned (.slice (some ⟨g, 0, none⟩) 1 k) ∧ NameAt w' g 0 ⟨#[102]⟩ ∧ Below w.heap.size w w' := by
 refine (wanting_any _ base35 n35 w h.ob (fun o ho => small35.base o ho) (by decide) (by decide)).mono ?_
 rintro e w' ⟨vo, rfl, hr, hB⟩; rw [show n35.data.toList = m35 from rfl, wanting35] at hr
 obtain ⟨p, k, rfl⟩ := own_shape hr; obtain ⟨g, rfl, hg, hc⟩ := erow_at hr (j := 0) (by decide)
 exact ⟨g, k, rfl, ⟨hg, hc⟩, hB⟩
set_option maxRecDepth 100000 in
set_option maxHeartbeats 4000000 in
theorem alive35_any (hsort : SortOk) (w : World) : Calls Tryz.prog 8 #[] w fun e w' => e = .returned (.bool true) ∧ Below w.heap.size w w' := by
 have HSORT := Lib.hid hsort; clear hsort; go_enter Tryz.func8, Tryz.ntmps8; go_wp2_with fail; refine (three35_any _).mono ?_; rintro e w1 ⟨⟨b, c, rfl, hob, hom⟩, hB1⟩; have HA : Hid (Al35 w b c w1.heap.size (w1.alloc (.cells #[.string lib35, .slice (some ⟨c, 0, none⟩) 3 3] 24))) := ⟨hB1.trans ((alloc_old w1 _).mono hB1.size), heap_alloc_new w1 _, hob.keep (alloc_old w1 _), hom.keep (alloc_old w1 _)⟩; clear hob hom hB1; go_upto_region 2 with fail
 generalize w1.alloc (.cells #[.string lib35, .slice (some ⟨c, 0, none⟩) 3 3] 24) = w2 at HA ⊢; generalize w1.heap.size = tb at HA ⊢; have a0 := HA.out.c0; have a1 := HA.out.c1; have HPC := Lib.hid (pull_call (W := w2) (g := w2.heap.size) rfl HA.out.ob HA.out.om); go_wp2_with fail; refine HPC.out.mono ?_; rintro e w3 ⟨vo, rfl, hvo, hB⟩; replace HA := Lib.hid (HA.out.keep hB); obtain ⟨pv, cv, bv, ov, rfl, hcap, -, hp, hc⟩ := hvo; obtain rfl := hp (by decide)
 obtain ⟨v1, q0, q1, -⟩ := hc 1 (by decide)
 obtain ⟨v2, q2, q3, -⟩ := hc 2 (by decide)
 have HN1 : Hid (NameAt w3 bv (ov + 2) ⟨#[97]⟩) := ⟨q0, q1⟩; have HN2 : Hid (NameAt w3 bv (ov + 4) ⟨#[98]⟩) := ⟨q2, q3⟩; rw [show l35.length = 3 from rfl] at *
 clear hp hc q0 q1 q2 q3 hB a0 a1 HPC hcap; have a0 := HA.out.c0; have a1 := HA.out.c1; have HPC := Lib.hid (put35_call HA.out); go_wp2_with fail; refine HPC.out.mono ?_; rintro e w4 ⟨rfl, hB⟩; replace HA := Lib.hid (HA.out.keep hB); replace HN1 := Lib.hid (HN1.out.keep hB); replace HN2 := Lib.hid (HN2.out.keep hB); clear hB a0 a1 HPC; go_wp2_with fail; refine (get35_call w4).mono ?_; rintro e w5 ⟨p5, k5, rfl, hin, hB⟩; replace HA := Lib.hid (HA.out.keep hB); replace HN1 := Lib.hid (HN1.out.keep hB); replace HN2 := Lib.hid (HN2.out.keep hB); have hB2 := alloc_old w5 (.cells #[.string lib35, .slice p5 3 k5] 24); have HX : Hid (ArcBox (w5.alloc (.cells #[.string lib35, .slice p5 3 k5] 24)) w5.heap.size arc35 (.slice p5 3 k5)) := ⟨heap_alloc_new w5 _, hin.keep hB2⟩; replace HA := Lib.hid (HA.out.keep hB2); replace HN1 := Lib.hid (HN1.out.keep hB2); replace HN2 := Lib.hid (HN2.out.keep hB2); clear hB hB2 hin; go_upto_region 5 with fail
 generalize w5.alloc (.cells #[.string lib35, .slice p5 3 k5] 24) = w6 at HA HN1 HN2 HX ⊢; generalize w5.heap.size = xb at HX ⊢; have hsz : ¬ 9223372036854775807 < e35.size + (⟨#[120]⟩ : ByteArray).size := by have := e35_len; have : (⟨#[120]⟩ : ByteArray).size = 1 := rfl; omega
 go_wp2_with fail; refine (getx35_call w6).mono ?_; rintro e w7 ⟨p7, k7, rfl, hB⟩; have hB2 := alloc_old w7 (.cells #[.string ⟨#[]⟩, .slice p7 0 k7] 24); have hB3 := hB.trans (hB2.mono hB.size); replace HA := Lib.hid (HA.out.keep hB3); replace HN1 := Lib.hid (HN1.out.keep hB3); replace HN2 := Lib.hid (HN2.out.keep hB3); replace HX := Lib.hid (HX.out.keep hB3); clear hB hB2 hB3 hsz; go_upto_region 6 with fail
 generalize w7.alloc (.cells #[.string ⟨#[]⟩, .slice p7 0 k7] 24) = w8 at HA HN1 HN2 HX ⊢; have a0 := HA.out.c0; have a1 := HA.out.c1; have HPC := Lib.hid (link_call (W := w8) (g := w8.heap.size) HSORT.out rfl HA.out.ob HA.out.om); go_wp2_with fail; refine HPC.out.mono ?_; rintro e w9 ⟨r, hr0, hr3, ve, vp, vs, va, rfl, hla, hB⟩; obtain ⟨x1, x2, x3, x4, x5, x6, x7, x8, rfl, rfl, rfl, rfl⟩ := hla.shape; obtain ⟨⟨⟨rp, re, rq, rc⟩, ren, rs, ra⟩, rn, rcd⟩ := r; simp only [] at hr0 hr3 hB; subst hr0; have hB2 := alloc_old w9 (.cells #[.int .u32 rp, .slice x1 re.length x2, .slice x3 rq.length x4, .bool rc, .int .u32 ren, .slice x5 rs.length x6, .slice x7 ra.length x8] 68); have hB3 := hB.trans (hB2.mono hB.size); have HL : Hid (w9.heap.size < (w9.alloc (.cells #[.int .u32 rp, .slice x1 re.length x2, .slice x3 rq.length x4, .bool rc, .int .u32 ren, .slice x5 rs.length x6, .slice x7 ra.length x8] 68)).heap.size ∧ (w9.alloc (.cells #[.int .u32 rp, .slice x1 re.length x2, .slice x3 rq.length x4, .bool rc, .int .u32 ren, .slice x5 rs.length x6, .slice x7 ra.length x8] 68)).cell? ⟨w9.heap.size, 6, none⟩ = some (.slice x7 3 x8)) := ⟨by simp, by rw [← hr3]; simp [go_sem]⟩
 replace HA := Lib.hid (HA.out.keep hB3); replace HN1 := Lib.hid (HN1.out.keep hB3); replace HN2 := Lib.hid (HN2.out.keep hB3); replace HX := Lib.hid (HX.out.keep hB3); clear hB hB2 hB3 hla a0 a1 HPC hr3; unfold linkV; go_upto_region 7 with fail
 try simp only []
 generalize (w9.alloc (.cells #[.int .u32 rp, .slice x1 re.length x2, .slice x3 rq.length x4, .bool rc, .int .u32 ren, .slice x5 rs.length x6, .slice x7 ra.length x8] 68)) = w10 at HA HN1 HN2 HX HL ⊢; generalize w9.heap.size = lb at HL ⊢; have HPC := Lib.hid (want35_call HA.out); go_wp2_with fail; refine HPC.out.mono ?_; rintro e w11 ⟨g, k, rfl, hg, hB⟩; have HG := Lib.hid hg; replace HA := Lib.hid (HA.out.keep hB); replace HN1 := Lib.hid (HN1.out.keep hB); replace HN2 := Lib.hid (HN2.out.keep hB); replace HX := Lib.hid (HX.out.keep hB); replace HL : Hid (NameAt w11 g 0 ⟨#[102]⟩ ∧ lb < w11.heap.size ∧ w11.cell? ⟨lb, 6, none⟩ = some (.slice x7 3 x8)) := ⟨hg, size_keep hB HL.out.1, cell_keep hB HL.out.1 HL.out.2⟩; clear hB hg HG HPC; have n1 := HN1.out.2; have n2 := HN2.out.2; have l6 := HL.out.2.2; have a0 := HA.out.c0; have a1 := HA.out.c1; have b0 : w11.cell? ⟨xb, 0, none⟩ = some (.string lib35) := Lib.cell_of_heap HX.out.1 0; have b1 : w11.cell? ⟨xb, 1, none⟩ = some (.slice p5 3 k5) := Lib.cell_of_heap HX.out.1 1; have HSM := Lib.hid (same35_any arc35 _ _ w11 HX.out.2 ⟨HA.out.om, (by decide : lib35.size ≤ 140737488355328)⟩)
 go_wp2_with fail; refine HSM.out.mono ?_; rintro e w12 ⟨rfl, hB⟩; replace HA := Lib.hid (HA.out.keep hB); replace HL : Hid (NameAt w12 g 0 ⟨#[102]⟩ ∧ lb < w12.heap.size ∧ w12.cell? ⟨lb, 6, none⟩ = some (.slice x7 3 x8)) := ⟨HL.out.1.keep hB, size_keep hB HL.out.2.1, cell_keep hB HL.out.2.1 HL.out.2.2⟩; clear hB n1 n2 l6 a0 a1 b0 b1 HSM HN1 HN2 HX; have a0 := HA.out.c0; have a1 := HA.out.c1; have l6 := HL.out.2.2; have HIX := Lib.hid (index_call (W := w12) (g := w12.heap.size) rfl HA.out.om); go_wp2_with fail; refine HIX.out.mono ?_; rintro e w13 ⟨pi, ci, rfl, hB⟩; replace HA := Lib.hid (HA.out.keep hB); replace HL : Hid (NameAt w13 g 0 ⟨#[102]⟩) := HL.out.1.keep hB; clear hB a0 a1 l6 HIX; have hB2 := alloc_old w13 (.cells #[.string ⟨#[102]⟩] 9)
 have HS7 := Lib.hid (same07_any g 0 k w13.heap.size 0 1 [⟨#[102]⟩] (w13.alloc (.cells #[.string ⟨#[102]⟩] 9)) (by decide) (fun i hi => by
  obtain rfl : i = 0 := by simpa using hi
  exact (HL.out.keep hB2).2) (fun i hi => by
  obtain rfl : i = 0 := by simpa using hi
  simp [go_sem]) (HL.out.keep hB2).1 (by simp))
 go_wp2_with fail; refine HS7.out.mono ?_; rintro e w14 ⟨rfl, hB⟩; replace HA := Lib.hid (HA.out.keep (hB2.trans (hB.mono (by simp))))
 clear hB hB2 HS7 HL; have HCK := arcCheck_any ⟨⟨#[]⟩, []⟩ (.slice none 0 0) w14 ⟨rowAt_nil, by decide⟩
 rw [empty35] at HCK; replace HCK := Lib.hid HCK; go_wp2_with fail; refine HCK.out.mono ?_; rintro e w15 ⟨rfl, hB⟩; replace HA := Lib.hid (HA.out.keep hB); clear hB HCK; simp only [errB, Bool.false_eq_true, if_false]; go_wp2; go_ret; exact ⟨rfl, HA.out.bel⟩
end Go.Proofs.YtboegjdkedjhcaaGreatDoor
