/- The walks of objfile.Get's function and of goes with it. The walk of objfile.Get. The walk of archive.Check. The walk of archive.Get. -/
import Derived.Test.YtboegjdkedjhcaaGreatDoorBs25
import Derived.Test.YtboegjdkedjhcaaGreatDoorBs11
import Derived.Deep.RegionHeld3
import Derived.Test.YtboegjdkedjhcaaGreatDoorBs06
import Derived.Test.YtboegjdkedjhcaaGreatDoorBs07
namespace Go.Proofs.YtboegjdkedjhcaaGreatDoor
set_option maxRecDepth 100000
section
open Go.RowKit Go.Maps
theorem new_seven (w : World) (a : ByteArray) (b c d : Int) (e : ByteArray) (l : List GRel) (k : List GNote) (vr vn : Value) :
 ∀ j u, (symCells (⟨a, b, c, d, e, l, k⟩, vr, vn))[j]? = some u → (w.alloc (.cells #[.string a, .int .u8 b, .int .u8 c, .int .u32 d, .string e, vr, vn] 55)).cell? ((⟨w.heap.size, 0, none⟩ : Addr).add j) = some u := by
 refine seven_news fun j u hj hu => ?_
 match j, hu with
 | 0, hu => cases hu; simp [go_sem]
 | 1, hu => cases hu; simp [go_sem]
 | 2, hu => cases hu; simp [go_sem]
 | 3, hu => cases hu; simp [go_sem]
 | 4, hu => cases hu; simp [go_sem]
 | 5, hu => cases hu; simp [go_sem]
 | 6, hu => cases hu; simp [go_sem]
theorem grow_box {wn w5 : World} {B ob k n : Nat} {e t : TypeId} {v : Value} {xs : List Value} {cs : Array Value} {o : Obj} (hg : (wn.alloc o).grownBy w5 v.ownBlock) (hown : (wn.alloc o).ownsRow B e k v n xs) (hb : wn.heap[ob]? = some (.cells cs t (0, 0))) (hne : e ≠ t) :
 w5.heap[ob]? = some (.cells cs t (0, 0)) := by
 have hlt := (Array.getElem?_eq_some_iff.1 hb).1; have h1 : (wn.alloc o).heap[ob]? = some (.cells cs t (0, 0)) := (Below.heap_alloc _ _ _ hlt).trans hb; exact (hg.block ob (by simp; omega) fun e' => own_ne_box hown h1 hne e'.symm).trans h1
set_option maxHeartbeats 2000000 in
theorem get1_any (Q : Nat → Prop) (qb ob rb : Nat) (hq : Q qb) (s : ByteArray) (st : RS) (nm : ByteArray) (ys : List GSym) (w0 w : World) (h : ObjSt (fun w st => RdS w rb s st) Q ob rb st nm ys w0 w) (hlen : ys.length ≤ 70000) :
 Calls Tryz.prog 91 #[.pointer (some ⟨ob, 0, none⟩), .pointer (some ⟨qb, 0, none⟩)] w fun e w' => e = .returned (.tuple #[]) ∧ ObjSt (fun w st => RdS w rb s st) Q ob rb (rSym st).2 nm (ys ++ [(rSym st).1]) w0 w' := by
 have HS := Lib.hid (h.keep (Below.refl _ _).drew); clear h; obtain ⟨v, ts, ho, hts⟩ := HS.out.o; obtain ⟨pv, cv, rfl⟩ := own_shape ho.2.1; have HO := Lib.hid ho; clear ho; have HTS := Lib.hid hts; clear hts; have htl : ts.length ≤ 70000 := by have := congrArg List.length HTS.out; simp at this; omega
 have c := HS.out.c hq; have c1 : w.drew.cell? ⟨ob, 1, none⟩ = some (.slice pv ts.length cv) := Lib.cell_of_heap HO.out.1 1; have f1 : w.drew.frozen? ⟨ob, 1, none⟩ = false := Lib.frozen_of_heap HO.out.1 1; have HRB := Lib.hid HS.out.rlt; have HOB := Lib.hid HS.out.ole; have HK := Lib.hid HS.out.kb.size; have HC := Lib.hid (symRd_any rb s st w.drew HS.out.rd); generalize hr : rSym st = r at HC; have HR := Lib.hid hr; clear hr; obtain ⟨⟨yn, yb, yk, ys', yy, yr, yt⟩, st'⟩ := r; unfold SymRPost at HC; simp only [] at HC; obtain ⟨iS, s0, s1, s2, s3⟩ := info_parts info_sym; have HI := Lib.hid (And.intro s0 (And.intro s1 (And.intro s2 s3))); clear s0 s1 s2 s3; go_enter Tryz.func91, Tryz.ntmps91; go_wp2
 go_region_law (first
  | ((refine step_call rfl 92 #[.tmp 4] #[166] rfl Tryz.func92 (by kernel_rfl) (by kernel_rfl) #[.agg #[.pointer (some ⟨rb, 0, none⟩)]] (by simp [Act.eval]) HC.out ?_); rintro e wn ⟨vr, vn, rfl, k1, k2, k3, k4⟩; refine ⟨_, rfl, ?_⟩; obtain ⟨pr, cr, rfl⟩ := own_shape k1; obtain ⟨pn, cn, rfl⟩ := own_shape k2; have HP := Lib.hid (And.intro k1 (And.intro k2 (And.intro k3 k4))); have d0 : wn.heap[ob]? = some (.cells #[.string nm, .slice pv ts.length cv] 50 (0, 0)) := (k4.block ob (Array.getElem?_eq_some_iff.1 HO.out.1).1 (by have := HRB.out; have := HOB.out; omega)).trans HO.out.1; have d4 : (wn.alloc (.cells #[.string yn, .int .u8 yb, .int .u8 yk, .int .u32 ys', .string yy, .slice pr yr.length cr, .slice pn yt.length cn] 55)).cell? ⟨ob, 1, none⟩ = some (.slice pv ts.length cv) := Lib.cell_of_heap ((Below.heap_alloc _ _ _ (Array.getElem?_eq_some_iff.1 d0).1).trans d0) 1; have d1 : wn.cell? ⟨ob, 1, none⟩ = some (.slice pv ts.length cv) := Lib.cell_of_heap d0 1; have d3 : wn.heap[qb]? = some (.cells #[.pointer (some ⟨rb, 0, none⟩)] 166 (0, 0)) := (k4.block qb (Array.getElem?_eq_some_iff.1 (HS.out.q qb hq).1).1 (by have := HRB.out; have := (HS.out.q qb hq).2; omega)).trans (HS.out.q qb hq).1; have d2 : wn.cell? ⟨qb, 0, none⟩ = some (.pointer (some ⟨rb, 0, none⟩)) := Lib.cell_of_heap d3 0; have HOWN : Hid ((wn.alloc (.cells #[.string yn, .int .u8 yb, .int .u8 yk, .int .u32 ys', .string yy, .slice pr yr.length cr, .slice pn yt.length cn] 55)).ownsRow w0.heap.size 55 7 (.slice pv ts.length cv) ts.length (ts.flatMap symCells)) := (own_congr HO.out.2.1 fun g hg => k4.block g (HO.out.2.1.lt g hg).2 (by have := (HO.out.2.1.lt g hg).1; have := HRB.out; omega)).alloc _; have HNEWS : Hid (∀ j u, (symCells (⟨yn, yb, yk, ys', yy, yr, yt⟩, .slice pr yr.length cr, .slice pn yt.length cn))[j]? = some u → (wn.alloc (.cells #[.string yn, .int .u8 yb, .int .u8 yk, .int .u32 ys', .string yy, .slice pr yr.length cr, .slice pn yt.length cn] 55)).cell? ((⟨wn.heap.size, 0, none⟩ : Addr).add j) = some u) := new_seven wn _ _ _ _ _ _ _ _ _; have hz : w0.heap.size ≤ wn.heap.size := Nat.le_trans HK.out k4.size; clear k1 k2 k3 k4)
  | (refine step_append_own_at rfl (.tmp 3) (.tmp 6) 48 rfl w0.heap.size 55 iS _ 7 88 Tryz.underlying48 HI.out.1 HI.out.2.1 HI.out.2.2.1 HI.out.2.2.2 rfl (by decide) (.slice pv ts.length cv) ts.length (ts.flatMap symCells) (by simp [Act.eval]) HOWN.out ⟨wn.heap.size, 0, none⟩ 1 1 (symCells (⟨yn, yb, yk, ys', yy, yr, yt⟩, .slice pr yr.length cr, .slice pn yt.length cn)) (by simp [Act.eval]) rfl HNEWS.out (seven_one rfl rfl) (by unfold maxLen; omega) (by omega) (by simp; omega) ?_); intro v' w5 hown hgrow hv; obtain ⟨pw, cw, rfl⟩ := own_shape hown; have HG := Lib.hid (And.intro hown (And.intro hgrow hv)); have hb5 : w5.heap[ob]? = some (.cells #[.string nm, .slice pv ts.length cv] 50 (0, 0)) := (grow_box hgrow HOWN.out d0 (by decide)); have e1 : w5.cell? ⟨ob, 1, none⟩ = some (.slice pv ts.length cv) := Lib.cell_of_heap hb5 1; have e2 : w5.frozen? ⟨ob, 1, none⟩ = false := Lib.frozen_of_heap hb5 1; have e3 : w5.cell? ⟨qb, 0, none⟩ = some (.pointer (some ⟨rb, 0, none⟩)) := Lib.cell_of_heap (grow_box hgrow HOWN.out d3 (by decide)) 0; clear hown hgrow hv hb5)
 all_goals
  go_wp2_with fail; go_end0; exact ⟨rfl, HS.out.add HO.out HTS.out HP.out.2.2.1 HP.out.2.2.2 HP.out.1 HP.out.2.1 (alloc_old _ _) HG.out.1 HG.out.2.1 HG.out.2.2⟩
def GO (ys : List GSym) (T : List GSym × RS) (k : Nat) (st : RS) (zs : List GSym) : Prop := ys ++ T.1 = zs ++ (rMany rSym k st).1 ∧ (rMany rSym k st).2 = T.2 ∧ zs.length + k ≤ 70000
theorem GO.step {ys zs : List GSym} {T : List GSym × RS} {k : Nat} {r : BL} (h : GO ys T (k + 1) (some r) zs) : GO ys T k (rSym (some r)).2 (zs ++ [(rSym (some r)).1]) := by
 obtain ⟨h2, h3, h4⟩ := h; rw [rMany] at h2 h3; exact ⟨by simp [h2], h3, by simp; omega⟩
theorem GO.done {ys zs : List GSym} {T : List GSym × RS} {k : Nat} {st : RS} (h : GO ys T k st zs) (hk : k = 0 ∨ st = none) : zs = ys ++ T.1 ∧ st = T.2 := by
 obtain ⟨h2, h3, -⟩ := h; rcases hk with rfl | rfl
 ·rw [rMany_zero] at h2 h3; rw [List.append_nil] at h2; exact ⟨h2.symm, h3⟩
 ·rw [rMany_none] at h2 h3; rw [List.append_nil] at h2; exact ⟨h2.symm, h3⟩
set_option maxHeartbeats 2000000 in
theorem goesO (Q : Nat → Prop) (qb ob rb : Nat) (hq : Q qb) (s : ByteArray) (st : RS) (nm : ByteArray) (ys : List GSym) (w0 w : World) (k : Nat) (h : ObjSt (fun w st => RdS w rb s st) Q ob rb st nm ys w0 w) (hlen : ys.length + k ≤ 70000) :
 Calls Tryz.prog 89 #[.agg #[.pointer (some ⟨rb, 0, none⟩)], .int .u32 k, .func (.func 91) #[] #[.pointer (some ⟨ob, 0, none⟩), .pointer (some ⟨qb, 0, none⟩)]] w fun e w' => e = .returned (.tuple #[]) ∧ ObjSt (fun w st => RdS w rb s st) Q ob rb (rMany rSym k st).2 nm (ys ++ (rMany rSym k st).1) w0 w' := by
 have HS0 := Lib.hid h.box; clear h; have HG0 : Hid (GO ys (rMany rSym k st) k st ys) := ⟨rfl, rfl, hlen⟩; generalize hT : rMany rSym k st = T at HG0; have HT := Lib.hid hT; clear hT; go_enter Tryz.func89, Tryz.ntmps89; go_wp2; generalize w.alloc (.cells #[.pointer (some ⟨rb, 0, none⟩)] 166) = w1 at HS0 ⊢; generalize w.heap.size = gb at HS0 ⊢
 go_loopw [1] (fun v1 wr => ∃ (j : Nat) (st' : RS) (zs : List GSym), v1 = .int .u32 j ∧ GO ys T j st' zs ∧ ObjSt (fun w st => RdS w rb s st) (fun g => Q g ∨ g = gb) ob rb st' nm zs w0 wr) (fun v1 _ => (intOf v1).toNat)
 case atStart => exact ⟨k, st, ys, rfl, HG0.out, HS0.out⟩
 case round =>
  clear HG0 HS0; obtain ⟨j, st', zs, rfl, hg, hs⟩ := hrel; have HG := Lib.hid hg; have HS := Lib.hid hs; have hj := hg.2.2; clear hg hs
  by_cases hj0 : j = 0
  ·have d : decide ((0 : Int) < (j : Int)) = false := by simp; omega
   have d' : decide (0 < j) = false := by simp; omega
   have HD := Lib.hid (HG.out.done (.inl hj0)); clear hj0; go_wp2; go_end0; obtain ⟨h1, h2⟩ := HD.out; have hs := HS.out.sub (Q' := Q) (fun g hg => .inl hg)
   rw [h1, h2] at hs; exact ⟨rfl, hs⟩
  ·have d : decide ((0 : Int) < (j : Int)) = true := by simp; omega
   have d' : decide (0 < j) = true := by simp; omega
   have c := HS.out.c (qb := gb) (.inr rfl); obtain ⟨a, f, hb, he⟩ := HS.out.rd; have HF := Lib.hid (fault_any rb s a f wr hb); have HE := Lib.hid he; clear hb he
   by_cases hf : f = 0
   ·subst hf; have HE2 : Hid (st' = some (s.data.toList.drop a)) := HE.out.trans stOf_ok; generalize s.data.toList.drop a = r at HE2; obtain ⟨i, rfl⟩ : ∃ i, j = i + 1 := ⟨j - 1, by omega⟩
    have hg := HG.out; rw [HE2.out] at hg; have HGS := Lib.hid hg.step; have HCL := Lib.hid (get1_any (fun g => Q g ∨ g = gb) qb ob rb (.inl hq) s st' nm zs w0 wr HS.out (by omega))
    rw [HE2.out] at HCL; clear hg HE; go_wp2_with fail; refine HF.out.mono ?_; rintro e w2 ⟨rfl, rfl⟩; clear HF c; go_wp2_with fail; refine HCL.out.mono ?_; rintro e w3 ⟨rfl, hs3⟩; have H3 := Lib.hid hs3; clear hs3 HCL; have hs1 : ((i : Int) + 1) - 1 = (i : Int) := by omega
    go_wp2; go_roundw
    case rel => exact ⟨i, _, _, by first | rfl | go_num, HGS.out, H3.out⟩
    case measure => simp [intOf]
   ·have HN : Hid (st' = none) := HE.out.trans (stOf_spoilt hf); have bf : (f == 0) = false := by simpa using hf
    have HD := Lib.hid (HG.out.done (.inr HN.out)); clear hf; go_wp2_with fail; refine HF.out.mono ?_; rintro e w2 ⟨rfl, rfl⟩; clear HF c; go_wp2; go_end0; obtain ⟨h1, h2⟩ := HD.out; have hs := HS.out.sub (Q' := Q) (fun g hg => .inl hg)
    rw [h1, h2] at hs; exact ⟨rfl, hs⟩
end
section
open Go.RowKit Go.Maps
def Fresh (B : Nat) (w : World) (o : GObj) (vs : Value) : Prop := ∃ ts : List SymT, ts.map (·.1) = o.syms ∧ w.ownsRow B 55 7 vs ts.length (ts.flatMap symCells) ∧ ∀ t ∈ ts, SymOwn B w vs t
theorem Fresh.keep {B : Nat} {w w' : World} {o : GObj} {vs : Value} (h : Fresh B w o vs) (hb : Below w.heap.size w w') : Fresh B w' o vs := by
 obtain ⟨ts, h1, h2, h3⟩ := h; exact ⟨ts, h1, ownsRow_below hb h2, fun t ht => SymOwn.keep hb (h3 t ht)⟩
theorem Fresh.mono {B B' : Nat} {w : World} {o : GObj} {vs : Value} (h : Fresh B w o vs) (hb : B' ≤ B) : Fresh B' w o vs := by
 obtain ⟨ts, h1, h2, h3⟩ := h; exact ⟨ts, h1, owns_mono h2 hb, fun t ht => ⟨owns_mono (h3 t ht).1 hb, owns_mono (h3 t ht).2.1 hb, (h3 t ht).2.2⟩⟩
theorem Fresh.shape {B : Nat} {w : World} {o : GObj} {vs : Value} (h : Fresh B w o vs) : ∃ p c, vs = .slice p o.syms.length c := by
 obtain ⟨ts, h1, h2, h3⟩ := h; rw [← h1, List.length_map]; exact own_shape h2
theorem rel_in {w : World} {v : Value} {base : Nat} {e : TypeId} {l : List GRel} (hf : ∀ x ∈ l, RelFit x) (hl : l.length ≤ 140737488355328) (h : w.ownsRow base e 4 v l.length (l.flatMap relCells)) : RowAt 4 RelR w v l := by
 refine owned_row relCells_len h hl fun g o' i hi hg hcell => ?_
 obtain ⟨f1, f2, f3, f4⟩ := hf _ (List.getElem_mem hi); exact ⟨hg, hcell 0 _ (by omega) rfl, hcell 1 _ (by omega) rfl, hcell 2 _ (by omega) rfl, hcell 3 _ (by omega) rfl, by omega, by omega, by omega, by omega⟩
theorem note_in {w : World} {v : Value} {base : Nat} {e : TypeId} {l : List GNote} (hf : ∀ x ∈ l, NoteFit x) (hl : l.length ≤ 140737488355328) (h : w.ownsRow base e 3 v l.length (l.flatMap noteCells)) : RowAt 3 NoteR w v l := by
 refine owned_row noteCells_len h hl fun g o' i hi hg hcell => ?_
 obtain ⟨f1, f2, f3⟩ := hf _ (List.getElem_mem hi); exact ⟨hg, hcell 0 _ (by omega) rfl, hcell 1 _ (by omega) rfl, hcell 2 _ (by omega) rfl, by omega, by omega, by omega⟩
theorem Fresh.objIn {B : Nat} {w : World} {o : GObj} {vs : Value} (h : Fresh B w o vs) (hf : ObjFit o) : ObjIn w o vs := by
 obtain ⟨ts, h1, h2, h3⟩ := h; obtain ⟨f1, f2, f3⟩ := hf; refine ⟨?_, by omega⟩
 have hl : ts.length = o.syms.length := by rw [← h1, List.length_map]
 rw [← h1]; refine sym_back h2 (by omega) fun t ht => ?_
 obtain ⟨q1, q2, q3, q4, q5, q6, q7, q8, q9⟩ := f3 t.1 (by rw [← h1]; exact List.mem_map_of_mem ht)
 obtain ⟨s1, s2, -, -⟩ := h3 t ht; exact ⟨rel_in q7 (by omega) s1, note_in q9 (by omega) s2, by omega, by omega, by omega, by omega, by omega⟩
theorem Fresh.congr {B : Nat} {w w' : World} {o : GObj} {vs : Value} (h : Fresh B w o vs) (hk : ∀ g, B ≤ g → w'.heap[g]? = w.heap[g]?) : Fresh B w' o vs := by
 obtain ⟨ts, h1, h2, h3⟩ := h; refine ⟨ts, h1, own_congr h2 fun g hg => hk g (h2.lt g hg).1, fun t ht => ?_⟩
 obtain ⟨a, b, c, d⟩ := h3 t ht; exact ⟨own_congr a fun g hg => hk g (a.lt g hg).1, own_congr b fun g hg => hk g (b.lt g hg).1, c, d⟩
theorem fresh_away {B B' : Nat} {w w' : World} {o : GObj} {vs : Value} (h : Fresh B w o vs) (hb : B' ≤ B) (hk : ∀ g, B ≤ g → w'.heap[g]? = w.heap[g]?) : Fresh B' w' o vs := (h.congr hk).mono hb
theorem rObj_fit {s m : BL} {o : GObj} (h : rObj s = (m, o, some [])) : ObjFit o := by
 unfold rObj at h; simp only [] at h; generalize ha : rTake 4 (some s) = a at h; obtain ⟨a1, a2⟩ := a; generalize hb : rText a2 = b at h; obtain ⟨b1, b2⟩ := b; generalize hn : rNum 2 b2 = n at h; obtain ⟨n1, n2⟩ := n; simp only [] at h; generalize hr : rMany rSym n1.toNat n2 = rr at h; obtain ⟨r1, r2⟩ := rr; simp only [Prod.mk.injEq] at h; obtain ⟨-, rfl, rfl⟩ := h; obtain ⟨rfl, q1, q2⟩ := rMany_some (fun _ _ _ => rSym_some) hr
 obtain ⟨rfl, q3⟩ := rNum_some hn; obtain ⟨rfl, q4⟩ := rText_some hb; rw [p2] at q3; exact ⟨q4, by simp only []; omega, q2⟩
def GetPost (s : ByteArray) (w : World) (e : Ending) (w' : World) : Prop :=
 (match getB s.data.toList with
   | some o => ∃ vs, e = .returned (.tuple #[.agg #[.string o.name, vs], .int .i64 0]) ∧ Fresh w.heap.size w' o vs
   | none => e = .returned (.tuple #[.agg #[.string ⟨#[]⟩, .slice none 0 0], .int .i64 7])) ∧ Below w.heap.size w w'
theorem goesO_int (Q : Nat → Prop) (qb ob rb : Nat) (hq : Q qb) (s : ByteArray) (st : RS) (nm : ByteArray) (w0 w : World) (k : Int) (h : ObjSt (fun w st => RdS w rb s st) Q ob rb st nm [] w0 w) (hk : 0 ≤ k ∧ k < 65536) :
 Calls Tryz.prog 89 #[.agg #[.pointer (some ⟨rb, 0, none⟩)], .int .u32 k, .func (.func 91) #[] #[.pointer (some ⟨ob, 0, none⟩), .pointer (some ⟨qb, 0, none⟩)]] w fun e w' => e = .returned (.tuple #[]) ∧ ObjSt (fun w st => RdS w rb s st) Q ob rb (rMany rSym k.toNat st).2 nm (rMany rSym k.toNat st).1 w0 w' := by
 obtain ⟨n, rfl⟩ := Int.eq_ofNat_of_zero_le hk.1; have := goesO Q qb ob rb hq s st nm [] w0 w n h (by simp; omega)
 rw [List.nil_append] at this; exact this
theorem rdTake4 (rb : Nat) (s : ByteArray) (st : RS) (w : World) (h : RdS w rb s st) : Calls Tryz.prog 43 #[.pointer (some ⟨rb, 0, none⟩), .int .i64 4] w (TkPost rb 4 s st w) := rdTake_any rb 4 s st w h
set_option maxHeartbeats 2000000 in
theorem get_any (s : ByteArray) (w : World) (hz : s.size ≤ 140737488355328) :
 Calls Tryz.prog 47 #[.string s] w (GetPost s w) := by
 go_enter Tryz.func47, Tryz.ntmps47; go_upto_region 1 with fail
 generalize hw0 : w.alloc (.cells #[.string ⟨#[]⟩, .slice none 0 0] 50) = w0; have HB0 : Hid (Below w.heap.size w w0) := by subst hw0; exact alloc_old _ _
 have hz0 : w.heap.size < w0.heap.size := by subst hw0; simp
 have HR0 : Hid (w0.heap[w.heap.size]? = some (.cells #[.string ⟨#[]⟩, .slice none 0 0] 50 (0, 0))) := by subst hw0; exact heap_alloc_new w _
 clear hw0; go_wp2_with fail; refine (new_any s w0 hz).mono ?_; rintro e w1 ⟨rfl, k1, k2⟩; have K1 : Hid (RdS w1 w0.heap.size s (some s.data.toList)) := ⟨0, 0, k1, by rw [stOf_ok]; rfl⟩
 have hz1 : w0.heap.size < w1.heap.size := k1.lt; have HB1 : Hid (Below w.heap.size w w1) := HB0.out.trans (k2.mono (by omega))
 replace HR0 := Lib.hid ((k2.block w.heap.size hz0).trans HR0.out); clear k1 k2 HB0; generalize hrb : w0.heap.size = rb at K1 hz1; have hrw : w.heap.size < rb := by omega
 clear hrb hz0; go_upto_region 2 with fail
 generalize hw2 : w1.alloc (.cells #[.pointer (some ⟨rb, 0, none⟩)] 166) = w2; have HB2 : Hid (Below w1.heap.size w1 w2) := by subst hw2; exact alloc_old _ _
 have HQ : Hid (w2.heap[w1.heap.size]? = some (.cells #[.pointer (some ⟨rb, 0, none⟩)] 166 (0, 0))) := by subst hw2; exact heap_alloc_new w1 _
 have K2 : Hid (RdS w2 rb s (some s.data.toList)) := K1.out.congr (HB2.out.block rb hz1); clear hw2 K1; generalize hqb : w1.heap.size = qb at HQ; have HQB := Lib.hid hqb; clear hqb; have c : w2.cell? ⟨qb, 0, none⟩ = some (.pointer (some ⟨rb, 0, none⟩)) := Lib.cell_of_heap HQ.out 0; go_wp2_with fail; refine (rdTake4 rb s _ w2 K2.out).mono ?_; rintro e w3 ⟨c3, rfl, -, k1, k2⟩; have K3 := Lib.hid k1; have HK3 : Hid (KR rb w1 w3) := (KB.of_below HB2.out).trans k2; have HQ3 : Hid (w3.heap[qb]? = some (.cells #[.pointer (some ⟨rb, 0, none⟩)] 166 (0, 0))) := (k2.block qb (Array.getElem?_eq_some_iff.1 HQ.out).1 (by have := HQB.out; omega)).trans HQ.out
 clear k1 k2 K2 HB2 HQ c; have HM : Hid ((rObj s.data.toList).1 = (rTake 4 (some s.data.toList)).1) := rfl; have c : w3.cell? ⟨qb, 0, none⟩ = some (.pointer (some ⟨rb, 0, none⟩)) := Lib.cell_of_heap HQ3.out 0; go_upto_region 3 with fail
 go_wp2_with fail; refine (readWord_any rb s _ w3 K3.out).mono ?_; rintro e w4 ⟨rfl, k1, k2⟩; have K4 := Lib.hid k1; have HK4 : Hid (KR rb w1 w4) := HK3.out.trans k2; have HQ4 : Hid (w4.heap[qb]? = some (.cells #[.pointer (some ⟨rb, 0, none⟩)] 166 (0, 0))) := (k2.block qb (Array.getElem?_eq_some_iff.1 HQ3.out).1 (by have := HQB.out; omega)).trans HQ3.out
 clear k1 k2 K3 HK3 HQ3 c; go_upto_region 4 with fail
 generalize hst4 : rText (rTake 4 (some s.data.toList)).2 = tt at K4 ⊢; have HT := Lib.hid hst4; clear hst4; obtain ⟨nm, st4⟩ := tt; simp only [] at K4 ⊢
 have HS : Hid (ObjSt (fun w st => RdS w rb s st) (fun g => g = qb) w4.heap.size rb st4 nm [] w1 (w4.alloc (.cells #[.string nm, .slice none 0 0] 50))) := by
  have hb := alloc_old w4 (.cells #[.string nm, .slice none 0 0] 50); refine ⟨rdr_obj rb s, fun g hg => ?_, ⟨.slice none 0 0, [], ⟨heap_alloc_new w4 _, World.ownsRow_nil _ _ _ _, fun t ht => by cases ht⟩, rfl⟩, K4.out.congr (hb.block rb K4.out.lt), HK4.out.trans (KB.of_below hb), hz1, HK4.out.size⟩
  subst hg; exact ⟨(hb.block _ (Array.getElem?_eq_some_iff.1 HQ4.out).1).trans HQ4.out, Nat.le_of_eq HQB.out⟩
 have HOB4 : Hid (w1.heap.size ≤ w4.heap.size) := HK4.out.size; generalize w4.alloc (.cells #[.string nm, .slice none 0 0] 50) = w5 at HS ⊢; generalize w4.heap.size = ob at HS HOB4 ⊢; clear K4 HK4 HQ4 w2 w3 w4; replace HS := Lib.hid (HS.out.keep (Below.refl _ _).drew); have c := HS.out.c (qb := qb) rfl; have HBD := Lib.hid (rNum_bd 2 st4); rw [p2] at HBD
 go_cut [24] from 20 to 24 (fun _ wx => ObjSt (fun w st => RdS w rb s st) (fun g => g = qb) ob rb (rMany rSym (rNum 2 st4).1.toNat (rNum 2 st4).2).2 nm (rMany rSym (rNum 2 st4).1.toNat (rNum 2 st4).2).1 w1 wx)
 case first =>
  go_region_held3 (fun w' => w'.cell? ⟨qb, 0, none⟩ = some (.pointer (some ⟨rb, 0, none⟩))) (go_keep) (first | (go_at_call 90; (with_reducible refine (readNum2 rb s _ _ HS.out.rd).mono ?_); rintro e wn ⟨rfl, k1, k2⟩; replace HS := Lib.hid (HS.out.read k1 k2); have cn := HS.out.c (qb := qb) rfl; clear k1 k2) | (go_at_call 89; (with_reducible refine (goesO_int (fun g => g = qb) qb ob rb rfl s _ nm w1 _ _ HS.out HBD.out).mono ?_); rintro e wn ⟨rfl, hs2⟩; replace HS := Lib.hid hs2; have cn := HS.out.c (qb := qb) rfl; clear hs2))
  all_goals (go_wp2_with fail; go_meet; exact HS.out)
 case rest =>
 replace HS := Lib.hid hcut; clear hcut c
 have HRO : Hid (rObj s.data.toList = ((rTake 4 (some s.data.toList)).1, ⟨nm, (rMany rSym (rNum 2 st4).1.toNat (rNum 2 st4).2).1⟩, (rMany rSym (rNum 2 st4).1.toNat (rNum 2 st4).2).2)) := by
  rw [Hid, rObj, HT.out]
 generalize rMany rSym (rNum 2 st4).1.toNat (rNum 2 st4).2 = rs at HS HRO; obtain ⟨ys, st5⟩ := rs; simp only [] at HS HRO; generalize (rTake 4 (some s.data.toList)).1 = mg at HRO ⊢; have c := HS.out.c (qb := qb) rfl; clear HM HBD HT; go_wp2_with fail; refine (rdEnd_any rb s st5 _ HS.out.rd).mono ?_; rintro e w7 ⟨c7, rfl, hc7, k1⟩; obtain ⟨v, ts, ho, hts⟩ := HS.out.o; have HO : Hid (ObjRow w1.heap.size ob nm v ts w7) := ho.congr HOB4.out fun g hg hb => k1.block g hg (by omega)
 have HK7 : Hid (KR rb w1 w7) := HS.out.kb.trans k1; have HTS := Lib.hid hts; clear ho hts k1 HS c; obtain ⟨pv, cv, rfl⟩ := own_shape HO.out.2.1; have HR7 : Hid (w7.heap[w.heap.size]? = some (.cells #[.string ⟨#[]⟩, .slice none 0 0] 50 (0, 0))) := (HK7.out.block _ (by omega) (by omega)).trans HR0.out
 have HB7 : Hid (Below w.heap.size w w7) := HB1.out.trans (HK7.out.below HB1.out.size (fun g hg => by omega))
 have HC7 := Lib.hid hc7; clear hc7; have q0 : w7.cell? ⟨w.heap.size, 0, none⟩ = some (.string ⟨#[]⟩) := Lib.cell_of_heap HR7.out 0; have q1 : w7.cell? ⟨w.heap.size, 1, none⟩ = some (.slice none 0 0) := Lib.cell_of_heap HR7.out 1; have e0 : w7.frozen? ⟨w.heap.size, 0, none⟩ = false := Lib.frozen_of_heap HR7.out 0; have e1 : w7.frozen? ⟨w.heap.size, 1, none⟩ = false := Lib.frozen_of_heap HR7.out 1; have a0 : w7.cell? ⟨ob, 0, none⟩ = some (.string nm) := Lib.cell_of_heap HO.out.1 0; have a1 : w7.cell? ⟨ob, 1, none⟩ = some (.slice pv ts.length cv) := Lib.cell_of_heap HO.out.1 1
 by_cases hst : st5 = some []
 ·have hc0 : c7 = 0 := HC7.out.2 hst; subst hc0
  by_cases hmg : mg = magicB
  ·have bl : (bsOf mg).toList = [65, 79, 66, 49] := by rw [hmg, ByteArray.toList_eq]; rfl
   have hro := HRO.out; rw [hst] at hro; have hfit := rObj_fit hro; have HFR : Hid (Fresh w1.heap.size w7 ⟨nm, ys⟩ (.slice pv ts.length cv)) := ⟨ts, HTS.out, HO.out.2.1, HO.out.2.2⟩; have HCK := Lib.hid (objCheck_any ⟨nm, ys⟩ (.slice pv ts.length cv) w7 (HFR.out.objIn hfit)); simp only [] at HCK; clear hro hfit
   by_cases hmay : mayP ⟨nm, ys⟩ = true
   ·rw [hmay] at HCK; simp only [errB, if_true] at HCK; have HN : Hid (getB s.data.toList = some ⟨nm, ys⟩) := by rw [Hid, getB, if_pos]; rw [HRO.out]; rw [HRO.out]; exact ⟨hst, hmg, hmay⟩
    clear hmg hst hmay; go_wp2_with fail; refine HCK.out.mono ?_; rintro e w8 ⟨rfl, hB8⟩; have HR8 : Hid (w8.heap[w.heap.size]? = some (.cells #[.string ⟨#[]⟩, .slice none 0 0] 50 (0, 0))) := (hB8.block _ (Array.getElem?_eq_some_iff.1 HR7.out).1).trans HR7.out; have HB8 : Hid (Below w.heap.size w w8) := HB7.out.trans (hB8.mono HB7.out.size); replace HFR := Lib.hid (HFR.out.keep hB8); have HO8 : Hid (w8.heap[ob]? = some (.cells #[.string nm, .slice pv ts.length cv] 50 (0, 0))) := (hB8.block ob (Array.getElem?_eq_some_iff.1 HO.out.1).1).trans HO.out.1; clear hB8 HCK q0 q1 e0 e1 a0 a1; have q0 : w8.cell? ⟨w.heap.size, 0, none⟩ = some (.string ⟨#[]⟩) := Lib.cell_of_heap HR8.out 0; have q1 : w8.cell? ⟨w.heap.size, 1, none⟩ = some (.slice none 0 0) := Lib.cell_of_heap HR8.out 1; have e0 : w8.frozen? ⟨w.heap.size, 0, none⟩ = false := Lib.frozen_of_heap HR8.out 0; have e1 : w8.frozen? ⟨w.heap.size, 1, none⟩ = false := Lib.frozen_of_heap HR8.out 1; have a0 : w8.cell? ⟨ob, 0, none⟩ = some (.string nm) := Lib.cell_of_heap HO8.out 0; have a1 : w8.cell? ⟨ob, 1, none⟩ = some (.slice pv ts.length cv) := Lib.cell_of_heap HO8.out 1; go_wp2; refine bodyPost_ret (v := .tuple #[.agg #[.string nm, .slice pv ts.length cv], .int .i64 0]) (by simp [results, Tryz.results47, go_sem, *]) rfl ?_
    unfold GetPost; rw [HN.out]; have hle : w.heap.size ≤ w1.heap.size := HB1.out.size; refine ⟨⟨_, rfl, fresh_away (HFR.out) (by omega) (fun g hg => ?_)⟩, (HB8.out.setCell (Nat.le_refl _) _).setCell (Nat.le_refl _) _⟩
    have hset : ∀ (W : World) (j : Nat) (u : Value), (W.setCell ⟨w.heap.size, j, none⟩ u).heap[g]? = W.heap[g]? := fun W j u => Below.heap_setCell _ _ _ _ (by simp; omega)
    simp only [hset]
   ·have hmay' : mayP ⟨nm, ys⟩ = false := by simpa using hmay
    rw [hmay'] at HCK; simp only [errB, Bool.false_eq_true, if_false] at HCK; have HN : Hid (getB s.data.toList = none) := by rw [Hid, getB, if_neg]; rw [HRO.out]; exact fun h => hmay h.2.2
    clear hmg hst hmay hmay'; go_wp2_with fail; refine HCK.out.mono ?_; rintro e w8 ⟨rfl, hB8⟩; have HR8 : Hid (w8.heap[w.heap.size]? = some (.cells #[.string ⟨#[]⟩, .slice none 0 0] 50 (0, 0))) := (hB8.block _ (Array.getElem?_eq_some_iff.1 HR7.out).1).trans HR7.out; have HB8 : Hid (Below w.heap.size w w8) := HB7.out.trans (hB8.mono HB7.out.size); clear hB8 HCK q0 q1 e0 e1 a0 a1; have q0 : w8.cell? ⟨w.heap.size, 0, none⟩ = some (.string ⟨#[]⟩) := Lib.cell_of_heap HR8.out 0; have q1 : w8.cell? ⟨w.heap.size, 1, none⟩ = some (.slice none 0 0) := Lib.cell_of_heap HR8.out 1; have e0 : w8.frozen? ⟨w.heap.size, 0, none⟩ = false := Lib.frozen_of_heap HR8.out 0; have e1 : w8.frozen? ⟨w.heap.size, 1, none⟩ = false := Lib.frozen_of_heap HR8.out 1; go_wp2; refine bodyPost_ret (v := .tuple #[.agg #[.string ⟨#[]⟩, .slice none 0 0], .int .i64 7]) (by simp [results, Tryz.results47, go_sem, *]) rfl ?_
    unfold GetPost; rw [HN.out]; exact ⟨rfl, (HB8.out.setCell (Nat.le_refl _) _).setCell (Nat.le_refl _) _⟩
  ·have bl : ¬ (bsOf mg).toList = [65, 79, 66, 49] := by rw [ByteArray.toList_eq]; exact hmg
   have HN : Hid (getB s.data.toList = none) := by rw [Hid, getB, if_neg]; rw [HRO.out]; exact fun h => hmg h.2.1
   clear hmg hst; go_wp2; refine bodyPost_ret (v := .tuple #[.agg #[.string ⟨#[]⟩, .slice none 0 0], .int .i64 7]) (by simp [results, Tryz.results47, go_sem, *]) rfl ?_
   unfold GetPost; rw [HN.out]; exact ⟨rfl, (HB7.out.setCell (Nat.le_refl _) _).setCell (Nat.le_refl _) _⟩
 ·have bc : (c7 != 0) = true := by simp; exact fun e => hst (HC7.out.1 e)
  have HN : Hid (getB s.data.toList = none) := by rw [Hid, getB, if_neg]; rw [HRO.out]; exact fun h => hst h.1
  clear hst; go_wp2; refine bodyPost_ret (v := .tuple #[.agg #[.string ⟨#[]⟩, .slice none 0 0], .int .i64 7]) (by simp [results, Tryz.results47, go_sem, *]) rfl ?_
  unfold GetPost; rw [HN.out]; exact ⟨rfl, (HB7.out.setCell (Nat.le_refl _) _).setCell (Nat.le_refl _) _⟩
end
section
open Go.RowKit Go.Maps Go.WideMaps
def ArcIn (w : World) (x : GArc) (vs : Value) : Prop := ObjsAt w vs x.members ∧ x.name.size ≤ 140737488355328
theorem ArcIn.keep {w w' : World} {x : GArc} {vs : Value} (hb : Below w.heap.size w w') (h : ArcIn w x vs) : ArcIn w' x vs := ⟨ObjsAt.keep hb h.1, h.2⟩
theorem hasObj_snoc (l : List GObj) (s : GObj) (n : List UInt8) : hasObj (l ++ [s]) n = (hasObj l n || s.name.data.toList == n) := by simp [hasObj]
def seenO (l : List GObj) (n : List UInt8) : Option Value := if hasObj l n then some (.int .i64 1) else none
theorem seenO_snoc {l : List GObj} {k : Nat} {x : GObj} (hlt : k < l.length) (hx : l[k] = x) : (fun n => if n = x.name.data.toList then some (Value.int .i64 1) else seenO (l.take k) n) = seenO (l.take (k + 1)) := by
 funext n
 simp only [seenO]; rw [List.take_succ_eq_append_getElem hlt, hx, hasObj_snoc]
 by_cases h : n = x.name.data.toList
 ·simp [h]
 ·have h2 : (x.name.data.toList == n) = false := by simp; exact fun e => h e.symm
  simp [h, h2]
theorem seenO_nil : (fun _ => none) = seenO [] := by funext n; simp [seenO, hasObj]
theorem seenO_yes {l : List GObj} {n : List UInt8} (h : hasObj l n = true) : (seenO l n).getD (.int .i64 0) = .int .i64 1 := by simp [seenO, h]
theorem seenO_no {l : List GObj} {n : List UInt8} (h : hasObj l n = false) : (seenO l n).getD (.int .i64 0) = .int .i64 0 := by simp [seenO, h]
theorem memsGo_yes {l : List GObj} {k : Nat} {x : GObj} (hlt : k < l.length) (hx : l[k] = x) (hgo : memsGo (l.take k) (l.drop k) = memsGo [] l)
 (h1 : hasObj (l.take k) x.name.data.toList = false) (h2 : mayP x = true) : memsGo (l.take (k + 1)) (l.drop (k + 1)) = memsGo [] l := by
 rw [← hgo, List.drop_eq_getElem_cons hlt, hx, memsGo, h1, h2, List.take_succ_eq_append_getElem hlt, hx]; simp
theorem arcOk_no {o : GArc} {k : Nat} {x : GObj} (hlt : k < o.members.length) (hx : o.members[k] = x) (hgo : memsGo (o.members.take k) (o.members.drop k) = memsGo [] o.members)
 (h : hasObj (o.members.take k) x.name.data.toList = true ∨ mayP x = false) : arcOk o = false := by
 rw [List.drop_eq_getElem_cons hlt, hx, memsGo] at hgo; rcases h with h | h <;> simp [arcOk, ← hgo, h]
theorem arcOk_end {o : GArc} {k : Nat} (hlt : ¬ k < o.members.length) (hgo : memsGo (o.members.take k) (o.members.drop k) = memsGo [] o.members) : arcOk o = (isName o.name && decide (o.members.length ≤ 32)) := by
 rw [List.drop_of_length_le (by omega), memsGo] at hgo
 simp [arcOk, ← hgo]
theorem mayP_name (n : ByteArray) : mayP ⟨n, []⟩ = isName n := by simp [mayP, symsGo]
set_option maxHeartbeats 2000000 in
theorem arcCheck_any (x : GArc) (vs : Value) (w : World) (h : ArcIn w x vs) :
 Calls Tryz.prog 10 #[.agg #[.string x.name, vs]] w fun e w' => e = .returned (.int .i64 (errB (arcOk x))) ∧ Below w.heap.size w w' := by
 obtain ⟨hr, hnm⟩ := h; have HR := Lib.hid hr; obtain ⟨p, cap, b, o, hvs, hcap, hmax, hp, -⟩ := hr; subst hvs; have HP := Lib.hid hp; clear hp; obtain ⟨an, am⟩ := x; simp only [] at *; have hmm := @run_makeMap Tryz.prog; go_enter Tryz.func10, Tryz.ntmps10; go_wp2; clear hmm
 go_loopw [10] (fun i wr => ∃ k : Nat, k ≤ am.length ∧ i = .int .i64 k ∧ memsGo (am.take k) (am.drop k) = memsGo [] am ∧ MapFn Tryz.prog 9 wr (w.heap.size + 1) k (seenO (am.take k)) ∧ Below (w.heap.size + 1) (w.alloc (.cells #[.string an, .slice p am.length cap] 24)) wr) (fun i _ => am.length - (intOf i).toNat)
 case atStart =>
  refine ⟨0, Nat.zero_le _, rfl, rfl, ?_, (Below.refl _ _).alloc (by simp) _⟩
  have := MapFn.made Tryz.prog 9 (w.alloc (.cells #[.string an, .slice p am.length cap] 24)); rw [seenO_nil] at this; simpa using this
 case round =>
  obtain ⟨k, hk, rfl, hgo, hmap, hbel⟩ := hrel; have HGO := Lib.hid hgo; clear hgo; have c0 : wr.cell? ⟨w.heap.size, 0, none⟩ = some (.string an) := by rw [hbel.cell (by simp)]; simp [go_sem]
  have c1 : wr.cell? ⟨w.heap.size, 1, none⟩ = some (.slice p am.length cap) := by rw [hbel.cell (by simp)]; simp [go_sem]
  have hsz : w.heap.size + 1 < wr.heap.size := hmap.lt; have hsz1 : w.heap.size < wr.heap.size := by omega
  have HBW : Hid (Below w.heap.size w wr) := (alloc_old w _).trans (hbel.mono (by omega))
  have HB := Lib.hid hbel; clear hbel; have HM := Lib.hid hmap; clear hmap
  by_cases hlt : k < am.length
  ·obtain rfl := HP.out (by omega)
   obtain ⟨p', cap', b', o', he, -, -, hp', hc'⟩ := ObjsAt.keep HBW.out HR.out; cases he; cases hp' (by omega)
   obtain ⟨vs, g0, g1, g2, hin⟩ := hc' k hlt; generalize hx : am[k] = y at g1 g2 hin; have HX := Lib.hid hx; clear hx hc' hp'; obtain ⟨yn, ys⟩ := y; simp only [] at g1 g2; have hns : yn.size ≤ maxLen := by have := hin.2; simp only [] at this; unfold maxLen; omega
   have hns' : yn.size ≤ 9223372036854775807 := hns; have HIN := Lib.hid hin; obtain ⟨⟨p1, q1, b1, o1, rfl, -⟩, -⟩ := hin; simp only [] at g2 HIN; have HB1 : Hid (Below (w.heap.size + 1) wr (wr.alloc (.cells #[.string yn, .slice p1 ys.length q1] 50))) := (Below.refl _ _).alloc (by omega) _
   replace HM := Lib.hid (HM.out.alloc (.cells #[.string yn, .slice p1 ys.length q1] 50))
   by_cases hseen : hasObj (am.take k) yn.data.toList = true
   ·have HV := Lib.hid (seenO_yes hseen); have HS := Lib.hid hseen; clear hseen; go_wp2_with (at_lookup; refine wpList_look _ rfl _ _ 78 rfl 9 3 keyedS Tryz.underlying78 Tryz.underlying9 (zeroInt _) rfl HM.out _ rfl hns' HV.out ?_); go_ret; rw [arcOk_no (o := ⟨an, am⟩) hlt HX.out HGO.out (.inl HS.out)]; exact ⟨rfl, HBW.out.alloc (by omega) _⟩
   ·have hseen' : hasObj (am.take k) yn.data.toList = false := by simpa using hseen
    have HV := Lib.hid (seenO_no hseen'); have HS := Lib.hid hseen'; clear hseen' hseen; have HCK := Lib.hid (objCheck_any ⟨yn, ys⟩ _ _ (ObjIn.keep (alloc_old wr (.cells #[.string yn, .slice p1 ys.length q1] 50)) HIN.out)); have HMY : Hid (mayP ⟨yn, ys⟩ = mayP ⟨yn, ys⟩) := rfl; generalize hmy : mayP ⟨yn, ys⟩ = my at HCK HMY; have HMY2 := Lib.hid hmy; clear hmy HMY; cases my with
    | false =>
      simp only [errB] at HCK; go_wp2_with (first | (at_lookup; refine wpList_look _ rfl _ _ 78 rfl 9 3 keyedS Tryz.underlying78 Tryz.underlying9 (zeroInt _) rfl HM.out _ rfl hns' HV.out ?_) | (go_at_call 30; refine HCK.out.mono ?_; rintro e w1 ⟨rfl, hB⟩))
      go_ret; rw [arcOk_no (o := ⟨an, am⟩) hlt HX.out HGO.out (.inr HMY2.out)]; exact ⟨rfl, HBW.out.trans ((HB1.out.trans (hB.mono (by simp; omega))).mono (by omega))⟩
    | true =>
      simp only [errB] at HCK; have d0 : (wr.alloc (.cells #[.string yn, .slice p1 ys.length q1] 50)).cell? ⟨wr.heap.size, 0, none⟩ = some (.string yn) := by simp [go_sem]
      have hza : wr.heap.size < (wr.alloc (.cells #[.string yn, .slice p1 ys.length q1] 50)).heap.size := by simp
      go_wp2_with (first | (at_lookup; refine wpList_look _ rfl _ _ 78 rfl 9 3 keyedS Tryz.underlying78 Tryz.underlying9 (zeroInt _) rfl HM.out _ rfl hns' HV.out ?_) | (go_at_call 30; refine HCK.out.mono ?_; rintro e w1 ⟨rfl, hB⟩; have d1 : w1.cell? ⟨wr.heap.size, 0, none⟩ = some (.string yn) := cell_keep hB hza d0; replace HM : Hid (MapFn Tryz.prog 9 w1 (w.heap.size + 1) k (seenO (am.take k))) := HM.out.below hB (by simp; omega); replace HB1 : Hid (Below (w.heap.size + 1) wr w1) := HB1.out.trans (hB.mono (by simp; omega)); have hz1 : w.heap.size + 1 < w1.heap.size := (by have := hB.size; simp at this; omega); clear hB) | (at_mapUpdate; refine wpList_put _ rfl _ _ _ 78 rfl 9 3 keyedS Tryz.underlying78 Tryz.underlying9 rfl HM.out (by unfold maxLen; omega) yn (.int .i64 1) rfl rfl hns' ?_; intro w2 hM2 hg2; have HM2 := Lib.hid hM2; have HG2 := Lib.hid hg2; clear hM2 hg2))
      have HM3 : Hid (MapFn Tryz.prog 9 w2 (w.heap.size + 1) (k + 1) (seenO (am.take (k + 1)))) := (seenO_snoc (x := ⟨yn, ys⟩) hlt HX.out) ▸ HM2.out; go_roundw
      case rel => exact ⟨k + 1, by omega, by go_num, memsGo_yes hlt HX.out HGO.out HS.out HMY2.out, HM3.out, HB.out.trans (HB1.out.grown HG2.out (by omega) (fun j e => by simp at e; omega))⟩
      case measure => simp [intOf]; omega
  ·have HCK := Lib.hid (objCheck_any ⟨an, []⟩ (.slice none 0 0) wr ⟨rowAt_nil, hnm⟩); have HE := Lib.hid (arcOk_end (o := ⟨an, am⟩) hlt HGO.out); rw [mayP_name] at HCK; simp only [] at HCK HE; generalize isName an = nb at HCK HE
   by_cases h32 : am.length ≤ 32
   ·have d1 : decide ((32 : Int) < (am.length : Int)) = false := by simp; omega
    have d2 : decide (32 < am.length) = false := by simp; omega
    have d3 : decide (am.length ≤ 32) = true := by simp; omega
    rw [d3] at HE; clear h32 d3; cases nb
    all_goals
     simp only [errB] at HCK; go_wp2_with fail; refine HCK.out.mono ?_; rintro e w1 ⟨rfl, hB⟩; replace c1 := cell_keep hB hsz1 c1; go_wp2_with fail; go_ret; rw [HE.out]; exact ⟨rfl, HBW.out.trans (hB.mono HBW.out.size)⟩
   ·have d1 : decide ((32 : Int) < (am.length : Int)) = true := by simp; omega
    have d2 : decide (32 < am.length) = true := by simp; omega
    have d3 : decide (am.length ≤ 32) = false := by simp; omega
    rw [d3] at HE; clear h32 d3; cases nb
    all_goals
     simp only [errB] at HCK; go_wp2_with fail; refine HCK.out.mono ?_; rintro e w1 ⟨rfl, hB⟩; replace c1 := cell_keep hB hsz1 c1; go_wp2_with fail; go_ret; rw [HE.out]; exact ⟨rfl, HBW.out.trans (hB.mono HBW.out.size)⟩
end
section
open Go.RowKit Go.Maps
def obCells (t : GObj × Value) : List Value := [.string t.1.name, t.2]
theorem obCells_len (t : GObj × Value) : (obCells t).length = 2 := rfl
theorem Fresh.stay {B : Nat} {w w' : World} {o : GObj} {vs : Value} (h : Fresh B w o vs) (hk : ∀ g cur e, B ≤ g → w.heap[g]? = some (.cells cur e (0, 0)) → e ≠ 50 → w'.heap[g]? = w.heap[g]?) : Fresh B w' o vs := by
 obtain ⟨ts, h1, h2, h3⟩ := h; refine ⟨ts, h1, own_congr h2 fun g hg => ?_, fun t ht => ?_⟩
 ·obtain ⟨cur, hc⟩ := own_type h2 hg; exact hk g cur _ (h2.lt g hg).1 hc (by decide)
 ·obtain ⟨a, b, c, d⟩ := h3 t ht; refine ⟨own_congr a fun g hg => ?_, own_congr b fun g hg => ?_, c, d⟩
  ·obtain ⟨cur, hc⟩ := own_type a hg; exact hk g cur _ (a.lt g hg).1 hc (by decide)
  ·obtain ⟨cur, hc⟩ := own_type b hg; exact hk g cur _ (b.lt g hg).1 hc (by decide)
structure ArcRow (B xb : Nat) (nm : ByteArray) (v : Value) (ts : List (GObj × Value)) (w : World) : Prop where
 box : w.heap[xb]? = some (.cells #[.string nm, v] 24 (0, 0))
 row : w.ownsRow B 50 2 v ts.length (ts.flatMap obCells)
 mem : ∀ t ∈ ts, Fresh B w t.1 t.2 ∧ ObjFit t.1
 lt : xb < B
theorem ArcRow.stay {B xb : Nat} {nm : ByteArray} {v : Value} {ts : List (GObj × Value)} {w w' : World} (h : ArcRow B xb nm v ts w) (hk : ∀ g, g < w.heap.size → xb ≤ g → w'.heap[g]? = w.heap[g]?) : ArcRow B xb nm v ts w' where
 box := (hk xb (Array.getElem?_eq_some_iff.1 h.box).1 (Nat.le_refl _)).trans h.box
 row := own_congr h.row fun g hg => hk g (h.row.lt g hg).2 (by have := (h.row.lt g hg).1; have := h.lt; omega)
 mem := fun t ht => ⟨(h.mem t ht).1.stay fun g cur e hg hc _ => hk g (Array.getElem?_eq_some_iff.1 hc).1 (by have := h.lt; omega), (h.mem t ht).2⟩
 lt := h.lt
theorem ArcRow.below {B xb : Nat} {nm : ByteArray} {v : Value} {ts : List (GObj × Value)} {w w' : World} (h : ArcRow B xb nm v ts w) (hb : Below w.heap.size w w') : ArcRow B xb nm v ts w' := h.stay fun g hg _ => hb.block g hg
theorem ArcRow.add {B xb : Nat} {nm : ByteArray} {v v' : Value} {ts : List (GObj × Value)} {w w' : World} {o : GObj} {vs : Value} (h : ArcRow B xb nm v ts w) (hg : w.grownBy w' v.ownBlock)
 (hown : w'.ownsRow B 50 2 v' (ts.length + 1) (ts.flatMap obCells ++ [.string o.name, vs])) (hf : Fresh B w o vs) (hfit : ObjFit o) : ArcRow B xb nm v' (ts ++ [(o, vs)]) (w'.setCell ⟨xb, 1, none⟩ v') := by
 have hlt := h.lt; have hset : ∀ g, g ≠ xb → (w'.setCell ⟨xb, 1, none⟩ v').heap[g]? = w'.heap[g]? := fun g hg => Below.heap_setCell _ _ _ _ hg
 have hnot : ∀ g, v.ownBlock = some g → B ≤ g := fun g hg => (h.row.lt g hg).1
 have hgr : ∀ g cur e, B ≤ g → w.heap[g]? = some (.cells cur e (0, 0)) → e ≠ 50 → (w'.setCell ⟨xb, 1, none⟩ v').heap[g]? = w.heap[g]? := fun g cur e hB hc he => by
  rw [hset g (by omega)]
  refine hg.block g (Array.getElem?_eq_some_iff.1 hc).1 fun e' => ?_
  obtain ⟨cur', hc'⟩ := own_type h.row e'.symm; rw [hc] at hc'; injection hc' with h2; injection h2 with _ h3 _; exact he h3
 have hb' : w'.heap[xb]? = some (.cells #[.string nm, v] 24 (0, 0)) := (hg.block xb (Array.getElem?_eq_some_iff.1 h.box).1 (fun e => by have := hnot _ e.symm; omega)).trans h.box
 refine ⟨?_, ?_, fun t ht => ?_, hlt⟩
 ·have := heap_setCell_same w' xb 1 _ _ v' hb'; simpa using this
 ·have e2 : (ts ++ [(o, vs)]).flatMap obCells = ts.flatMap obCells ++ [.string o.name, vs] := by simp [obCells]
  rw [List.length_append, e2]; exact own_congr hown fun g hg' => hset g (by have := (hown.lt g hg').1; omega)
 ·rcases List.mem_append.1 ht with ht | ht
  ·exact ⟨(h.mem t ht).1.stay hgr, (h.mem t ht).2⟩
  ·obtain rfl : t = (o, vs) := by simpa using ht
   exact ⟨hf.stay hgr, hfit⟩
theorem ArcRow.arcIn {B xb : Nat} {nm : ByteArray} {v : Value} {ts : List (GObj × Value)} {w : World} (h : ArcRow B xb nm v ts w) (hn : nm.size ≤ 140737488355328) (hl : ts.length ≤ 140737488355328) : ArcIn w ⟨nm, ts.map (·.1)⟩ v := by
 refine ⟨?_, hn⟩
 have h5 : RowAt 2 (fun w b o (u : GObj × Value) => ObjR w b o u.1) w v ts := owned_row obCells_len h.row hl fun g o' i hi hg hcell =>
  ⟨ts[i].2, hg, hcell 0 _ (by omega) rfl, hcell 1 _ (by omega) rfl, (h.mem _ (List.getElem_mem hi)).1.objIn (h.mem _ (List.getElem_mem hi)).2⟩
 obtain ⟨p, cap, b, o, rfl, q2, q3, q4, q5⟩ := h5; exact ⟨p, cap, b, o, by simp, by simpa using q2, by simpa using q3, by simpa using q4, fun i hi => by simpa using q5 i (by simpa using hi)⟩
theorem rTake_cap {w : World} {rb : Nat} {s : ByteArray} {st : RS} (h : RdS w rb s st) (k : Nat) (hk : s.size + 1 < k) : rTake (s.size + 1) st = rTake k st := by
 obtain ⟨a, f, hb, rfl⟩ := h
 by_cases hf : f = 0
 ·subst hf; rw [rTake_stOf hb.2.1, rTake_stOf hb.2.1, if_neg (by omega), if_neg (by omega)]
 ·rw [stOf_spoilt hf]; rfl
def arcGetV (s : ByteArray) : GArc × Int := match arcGet s.data.toList with | some a => (a, 0) | none => (⟨⟨#[]⟩, []⟩, 7)
def ArcGot (x : GArc) (c : Int) (w : World) (e : Ending) (w' : World) : Prop := ∃ vs, e = .returned (.tuple #[.agg #[.string x.name, vs], .int .i64 c]) ∧ (∃ p k, vs = .slice p x.members.length k) ∧ ArcIn w' x vs ∧ Below w.heap.size w w'
theorem arcNo_got {w w' : World} (h : Below w.heap.size w w') : ArcGot ⟨⟨#[]⟩, []⟩ 7 w (.returned (.tuple #[.agg #[.string ⟨#[]⟩, .slice none 0 0], .int .i64 7])) w' := ⟨_, rfl, ⟨_, _, rfl⟩, ⟨rowAt_nil, by decide⟩, h⟩
def arcEnd (mg : BL) (nm : ByteArray) : Option (List GObj × RS) → Option GArc
 | none => none
 | some (l, st) => if st = some [] ∧ mg = aMagic ∧ arcOk ⟨nm, l⟩ = true then some ⟨nm, l⟩ else none
theorem arcGet_is {s : BL} {nm : ByteArray} {mg : BL} {M : Option (List GObj × RS)} (h0 : (rTake 4 (some s)).1 = mg) (h1 : (rText (rTake 4 (some s)).2).1 = nm) (h2 : rMems (rNum 1 (rText (rTake 4 (some s)).2).2).1.toNat (rNum 1 (rText (rTake 4 (some s)).2).2).2 = M) :
 arcGet s = arcEnd mg nm M := by
 unfold arcGet; rw [h2, h1, h0]; cases M <;> rfl
theorem ob_one {a : ByteArray} {p : Option Addr} {n c : Nat} : ∀ u ∈ [Value.string a, Value.slice p n c], u.oneCell' = true := by
 intro u hu; simp at hu; rcases hu with rfl | rfl <;> rfl
theorem ob_news {w : World} {g : Nat} {a b : Value} (h0 : w.cell? ⟨g, 0, none⟩ = some a) (h1 : w.cell? ⟨g, 1, none⟩ = some b) : ∀ j u, [a, b][j]? = some u → w.cell? ((⟨g, 0, none⟩ : Addr).add j) = some u := by
 intro j u hu
 match j, hu with
 | 0, hu => simp at hu; subst hu; simpa [Addr.add] using h0
 | 1, hu => simp at hu; subst hu; simpa [Addr.add] using h1
theorem two_put {w : World} {b : Nat} {a0 a1 u0 u1 : Value} {T : TypeId} (h : w.heap[b]? = some (.cells #[a0, a1] T (0, 0))) : ((w.setCell ⟨b, 0, none⟩ u0).setCell ⟨b, 1, none⟩ u1).heap[b]? = some (.cells #[u0, u1] T (0, 0)) := by
 have e1 := heap_setCell_same _ b 1 _ _ u1 (heap_setCell_same w b 0 _ _ u0 h); simpa using e1
theorem twos {w : World} {b : Nat} {u0 u1 : Value} {T : TypeId} (h : w.heap[b]? = some (.cells #[u0, u1] T (0, 0))) : w.cell? ⟨b, 0, none⟩ = some u0 ∧ w.cell? ⟨b, 1, none⟩ = some u1 ∧ ∀ j, w.frozen? ⟨b, j, none⟩ = false :=
 ⟨Lib.cell_of_heap h 0, Lib.cell_of_heap h 1, fun _ => Lib.frozen_of_heap h _⟩
set_option maxHeartbeats 4000000 in
theorem arcGet_any (s : ByteArray) (w : World) (hs : s.size ≤ 2000000000) :
 Calls Tryz.prog 15 #[.string s] w (ArcGot (arcGetV s).1 (arcGetV s).2 w) := by
 generalize hw0 : w.alloc (.cells #[.string ⟨#[]⟩, .slice none 0 0] 24) = w0; have HB0 : Hid (Below w.heap.size w w0) := by subst hw0; exact alloc_old _ _
 have hz0 : w.heap.size < w0.heap.size := by subst hw0; simp
 have HR0 : Hid (w0.heap[w.heap.size]? = some (.cells #[.string ⟨#[]⟩, .slice none 0 0] 24 (0, 0))) := by subst hw0; exact heap_alloc_new w _
 go_enter Tryz.func15, Tryz.ntmps15; go_wp2_with fail; try rw [hw0]
 clear hw0; refine (new_any s w0 (by omega)).mono ?_
 rintro e w1 ⟨rfl, k1, k2⟩; have K1 : Hid (RdS w1 w0.heap.size s (some s.data.toList)) := ⟨0, 0, k1, by rw [stOf_ok]; rfl⟩
 have hz1 : w0.heap.size < w1.heap.size := k1.lt; have HB1 : Hid (Below w.heap.size w w1) := HB0.out.trans (k2.mono (by omega))
 replace HR0 := Lib.hid ((k2.block w.heap.size hz0).trans HR0.out); clear k1 k2 HB0; generalize hrb : w0.heap.size = rb at K1 hz1 ⊢; have hrw : w.heap.size < rb := by omega
 clear hrb hz0; go_wp2_with fail; refine (rdTake4 rb s _ w1 K1.out).mono ?_; rintro e w3 ⟨c3, rfl, -, k1, k2⟩; have K3 := Lib.hid k1; have HK3 : Hid (KR rb w1 w3) := k2; clear k1 k2 K1; go_wp2_with fail; refine (rdText_any rb s _ w3 K3.out).mono ?_; rintro e w4 ⟨c4, rfl, -, k1, k2⟩; have K4 := Lib.hid k1; have HK4 : Hid (KR rb w1 w4) := HK3.out.trans k2; clear k1 k2 K3 HK3; go_wp2_with fail; refine (rdNum_any rb 1 s _ w4 K4.out (by omega) (by omega)).mono ?_
 rintro e w5 ⟨c5, rfl, -, k1, k2⟩; have K5 := Lib.hid k1; have HK5 : Hid (KR rb w1 w5) := HK4.out.trans k2; clear k1 k2 K4 HK4; have HNB := rNum_bd 1 (rText (rTake 4 (some s.data.toList)).2).2; rw [p1] at HNB; have HAG := Lib.hid (fun M h2 => arcGet_is (s := s.data.toList) (M := M) rfl rfl h2)
 have hns : (rText (rTake 4 (some s.data.toList)).2).1.size < 65536 := by
  unfold rText; simp only []; have h1 := rTake_len (rNum 2 (rTake 4 (some s.data.toList)).2).1.toNat (rNum 2 (rTake 4 (some s.data.toList)).2).2; have h2 := rNum_bd 2 (rTake 4 (some s.data.toList)).2; rw [p2] at h2; rw [bsOf_size]; omega
 generalize (rTake 4 (some s.data.toList)).1 = mg at HAG ⊢; generalize rText (rTake 4 (some s.data.toList)).2 = tx at HAG HNB K5 hns ⊢; obtain ⟨nm, st4⟩ := tx; simp only [] at HAG HNB K5 hns ⊢; generalize rNum 1 st4 = nn at HAG HNB K5 ⊢; obtain ⟨n1, st5⟩ := nn; simp only [] at HAG HNB K5 ⊢; obtain ⟨n, rfl⟩ := Int.eq_ofNat_of_zero_le HNB.1; rw [Int.toNat_natCast] at HAG; obtain ⟨M, hM⟩ : ∃ M, rMems n st5 = M := ⟨_, rfl⟩; have HM := Lib.hid hM; replace HAG := Lib.hid (HAG.out M hM); clear hM; have hn255 : n ≤ 255 := by omega
 clear HNB; have HR5 := Lib.hid ((HK5.out.block _ (by omega) (by omega)).trans HR0.out)
 have HB5 : Hid (Below w.heap.size w w5) := HB1.out.trans (HK5.out.below HB1.out.size (fun g hg e => by omega))
 have hz5 : rb < w5.heap.size := K5.out.lt; clear HR0 HB1 HK5 hz1; have HX6 : Hid (ArcRow (w5.heap.size + 1) w5.heap.size nm (.slice none 0 0) [] (w5.alloc (.cells #[.string nm, .slice none 0 0] 24))) := ⟨heap_alloc_new w5 _, World.ownsRow_nil _ _ _ _, (fun t ht => by cases ht), Nat.lt_succ_self _⟩
 have HB6 : Hid (Below w5.heap.size w5 (w5.alloc (.cells #[.string nm, .slice none 0 0] 24))) := alloc_old _ _; go_wp2_with fail; generalize w5.alloc (.cells #[.string nm, .slice none 0 0] 24) = w6 at HX6 HB6 ⊢; generalize hxb : w5.heap.size = xb at HX6 HB6 hz5 ⊢; have HXB := Lib.hid hxb; clear hxb; have K6 : Hid (RdS w6 rb s st5) := K5.out.congr (HB6.out.block rb hz5); have HR6 : Hid (w6.heap[w.heap.size]? = some (.cells #[.string ⟨#[]⟩, .slice none 0 0] 24 (0, 0))) := (HB6.out.block _ (by omega)).trans HR5.out
 have HBW6 : Hid (Below w.heap.size w w6) := HB5.out.trans (HB6.out.mono (by rw [← HXB.out]; exact HB5.out.size))
 clear HB6 HR5 HB5 K5; obtain ⟨iO, s0, s1, s2, s3⟩ := info_parts info_obj; have HI := Lib.hid (And.intro s0 (And.intro s1 (And.intro s2 s3))); clear s0 s1 s2 s3; have hgw : IntKind.u32.wrap ((s.size : Int) + 1) = ((s.size + 1 : Nat) : Int) := by rw [IntKind.wrap_u32]; omega
 go_loopw [9] (fun v9 wr => ∃ (m : Nat) (ts : List (GObj × Value)) (v : Value) (st : RS), v9 = .int .u32 m ∧ ts.length + m ≤ 255 ∧ RdS wr rb s st ∧ ArcRow (xb + 1) xb nm v ts wr ∧ (rMems m st).map (fun r => (ts.map (·.1) ++ r.1, r.2)) = M ∧ wr.heap[w.heap.size]? = some (.cells #[.string ⟨#[]⟩, .slice none 0 0] 24 (0, 0)) ∧ Below w.heap.size w wr) (fun v9 _ => (intOf v9).toNat)
 case atStart => exact ⟨n, [], .slice none 0 0, st5, rfl, by simpa using hn255, K6.out, HX6.out, by rw [HM.out]; cases M <;> simp, HR6.out, HBW6.out⟩
 case round =>
  obtain ⟨m, ts, v, st, rfl, hml, hrd, har, hrel, hrr, hbw⟩ := hrel; have HRD := Lib.hid hrd; have HAR := Lib.hid har; have HREL := Lib.hid hrel; have HRR := Lib.hid hrr; have HBW := Lib.hid hbw; obtain ⟨pv, cv, rfl⟩ := own_shape har.row; have hxr : xb < wr.heap.size := (Array.getElem?_eq_some_iff.1 har.box).1; clear hrd har hrel hrr hbw HM HX6 HR6 HBW6 K6
  by_cases hm : m = 0
  ·subst hm; have HMM : Hid (M = some (ts.map (·.1), st)) := by rw [Hid, ← HREL.out]; simp [rMems]
   clear HREL; have HENDC := Lib.hid (rdEnd_any rb s st wr HRD.out); go_wp2_with fail; refine HENDC.out.mono ?_; rintro e w7 ⟨c7, rfl, hc7, k1⟩; have HC7 := Lib.hid hc7; have HAR7 : Hid (ArcRow (xb + 1) xb nm (.slice pv ts.length cv) ts w7) := HAR.out.stay fun g hg hx => k1.block g hg (by omega)
   have HRR7 := Lib.hid ((k1.block _ (by omega) (by omega)).trans HRR.out)
   have HBW7 : Hid (Below w.heap.size w w7) := HBW.out.trans (k1.below HBW.out.size (fun g hg e => by omega))
   have hz7 : xb < w7.heap.size := (Array.getElem?_eq_some_iff.1 HAR7.out.box).1; rw [HMM.out, arcEnd] at HAG; clear hc7 k1 HENDC HAR HRR HBW HRD; obtain ⟨r0, r1, rz⟩ := twos HRR7.out
   by_cases hok : st = some [] ∧ mg = aMagic
   ·obtain ⟨hst, hmg⟩ := hok; have hc0 : c7 = 0 := HC7.out.2 hst; subst hc0; have bl : (bsOf mg).toList = [65, 65, 82, 49] := by rw [hmg, ByteArray.toList_eq]; rfl
    have HCK := Lib.hid (arcCheck_any ⟨nm, ts.map (·.1)⟩ (.slice pv ts.length cv) w7 (HAR7.out.arcIn (by omega) (by omega)))
    simp only [] at HCK; have a0 : w7.cell? ⟨xb, 0, none⟩ = some (.string nm) := Lib.cell_of_heap HAR7.out.box 0; have a1 : w7.cell? ⟨xb, 1, none⟩ = some (.slice pv ts.length cv) := Lib.cell_of_heap HAR7.out.box 1
    by_cases hmay : arcOk ⟨nm, ts.map (·.1)⟩ = true
    ·rw [hmay] at HCK; rw [if_pos ⟨hst, hmg, hmay⟩] at HAG; simp only [errB, if_true] at HCK; have HV : Hid (arcGetV s = (⟨nm, ts.map (·.1)⟩, 0)) := by unfold arcGetV; rw [HAG.out]; rfl
     clear hst hmg hmay r0 r1 rz; go_wp2_with fail; refine HCK.out.mono ?_; rintro e w8 ⟨rfl, hB8⟩; have HAR8 := Lib.hid (HAR7.out.below hB8); have hr8 := (hB8.block _ (by omega)).trans HRR7.out
     have HBW8 : Hid (Below w.heap.size w w8) := HBW7.out.trans (hB8.mono HBW7.out.size); obtain ⟨r0, r1, rz⟩ := twos hr8; have HPUT := Lib.hid (twos (two_put (u0 := .string nm) (u1 := .slice pv ts.length cv) hr8)); replace a0 : w8.cell? ⟨xb, 0, none⟩ = some (.string nm) := Lib.cell_of_heap HAR8.out.box 0; replace a1 : w8.cell? ⟨xb, 1, none⟩ = some (.slice pv ts.length cv) := Lib.cell_of_heap HAR8.out.box 1; clear hB8 hr8 HCK; go_wp2_with fail; obtain ⟨x0, x1, -⟩ := HPUT.out; refine bodyPost_ret (v := .tuple #[.agg #[.string nm, .slice pv ts.length cv], .int .i64 0]) (by simp [results, Tryz.results15, go_sem, x0, x1]) rfl ?_
     rw [HV.out]; refine ⟨_, rfl, ⟨pv, cv, by simp⟩, ArcRow.arcIn (B := xb + 1) (xb := xb) (HAR8.out.stay fun g hg hx => ?_) (by omega) (by omega), (HBW8.out.setCell (Nat.le_refl _) _).setCell (Nat.le_refl _) _⟩
     exact (Below.heap_setCell _ _ _ _ (by show g ≠ w.heap.size; omega)).trans (Below.heap_setCell _ _ _ _ (by show g ≠ w.heap.size; omega))
    ·have hmay' : arcOk ⟨nm, ts.map (·.1)⟩ = false := by simpa using hmay
     rw [hmay'] at HCK; rw [if_neg (fun h => hmay h.2.2)] at HAG
     simp only [errB, Bool.false_eq_true, if_false] at HCK; have HV : Hid (arcGetV s = (⟨⟨#[]⟩, []⟩, 7)) := by rw [Hid, arcGetV, HAG.out]
     clear hst hmg hmay hmay' r0 r1 rz; go_wp2_with fail; refine HCK.out.mono ?_; rintro e w8 ⟨rfl, hB8⟩; have hr8 := (hB8.block _ (by omega)).trans HRR7.out
     have HBW8 : Hid (Below w.heap.size w w8) := HBW7.out.trans (hB8.mono HBW7.out.size); obtain ⟨r0, r1, rz⟩ := twos hr8; have HPUT := Lib.hid (twos (two_put (u0 := .string ⟨#[]⟩) (u1 := .slice none 0 0) hr8)); clear hB8 hr8 HCK; go_wp2_with fail; obtain ⟨x0, x1, -⟩ := HPUT.out; refine bodyPost_ret (v := .tuple #[.agg #[.string ⟨#[]⟩, .slice none 0 0], .int .i64 7]) (by simp [results, Tryz.results15, go_sem, x0, x1]) rfl ?_
     rw [HV.out]; exact arcNo_got ((HBW8.out.setCell (Nat.le_refl _) _).setCell (Nat.le_refl _) _)
   ·rw [if_neg (fun h => hok ⟨h.1, h.2.1⟩)] at HAG
    have HV : Hid (arcGetV s = (⟨⟨#[]⟩, []⟩, 7)) := by rw [Hid, arcGetV, HAG.out]
    have HPUT := Lib.hid (twos (two_put (u0 := .string ⟨#[]⟩) (u1 := .slice none 0 0) HRR7.out))
    by_cases hc0 : c7 = 0
    ·have bl : ¬ (bsOf mg).toList = [65, 65, 82, 49] := by rw [ByteArray.toList_eq]; exact fun e => hok ⟨HC7.out.1 hc0, e⟩
     subst hc0; clear hok; go_wp2_with fail; obtain ⟨x0, x1, -⟩ := HPUT.out; refine bodyPost_ret (v := .tuple #[.agg #[.string ⟨#[]⟩, .slice none 0 0], .int .i64 7]) (by simp [results, Tryz.results15, go_sem, x0, x1]) rfl ?_
     rw [HV.out]; exact arcNo_got ((HBW7.out.setCell (Nat.le_refl _) _).setCell (Nat.le_refl _) _)
    ·have bc : (c7 != 0) = true := by simpa using hc0
     clear hok hc0; go_wp2_with fail; obtain ⟨x0, x1, -⟩ := HPUT.out; refine bodyPost_ret (v := .tuple #[.agg #[.string ⟨#[]⟩, .slice none 0 0], .int .i64 7]) (by simp [results, Tryz.results15, go_sem, x0, x1]) rfl ?_
     rw [HV.out]; exact arcNo_got ((HBW7.out.setCell (Nat.le_refl _) _).setCell (Nat.le_refl _) _)
  ·obtain ⟨m', rfl⟩ : ∃ m', m = m' + 1 := ⟨m - 1, by omega⟩
   clear hm; obtain ⟨a, f, hrb, hst⟩ := HRD.out; have HFA := Lib.hid (fault_any rb s a f wr hrb)
   by_cases hf : f = 0
   rotate_left
   ·rw [stOf_spoilt hf] at hst; subst hst; have HMM : Hid (M = some (ts.map (·.1), none)) := by rw [Hid, ← HREL.out]; simp [rMems]
    have hfb : (f == 0) = false := by simpa using hf
    clear HREL hrb hf; go_wp2_with fail; refine HFA.out.mono ?_; rintro e w6' ⟨rfl, rfl⟩; clear HFA; have HENDC := Lib.hid (rdEnd_any rb s none wr HRD.out); go_wp2_with fail; refine HENDC.out.mono ?_; rintro e w7 ⟨c7, rfl, hc7, k1⟩; have HC7 := Lib.hid hc7; have HAR7 : Hid (ArcRow (xb + 1) xb nm (.slice pv ts.length cv) ts w7) := HAR.out.stay fun g hg hx => k1.block g hg (by omega)
    have HRR7 := Lib.hid ((k1.block _ (by omega) (by omega)).trans HRR.out)
    have HBW7 : Hid (Below w.heap.size w w7) := HBW.out.trans (k1.below HBW.out.size (fun g hg e => by omega))
    have hz7 : xb < w7.heap.size := (Array.getElem?_eq_some_iff.1 HAR7.out.box).1; rw [HMM.out, arcEnd] at HAG; clear hc7 k1 HENDC HAR HRR HBW HRD; obtain ⟨r0, r1, rz⟩ := twos HRR7.out
    by_cases hok : (none : RS) = some [] ∧ mg = aMagic
    ·obtain ⟨hst, hmg⟩ := hok; have hc0 : c7 = 0 := HC7.out.2 hst; subst hc0; have bl : (bsOf mg).toList = [65, 65, 82, 49] := by rw [hmg, ByteArray.toList_eq]; rfl
     have HCK := Lib.hid (arcCheck_any ⟨nm, ts.map (·.1)⟩ (.slice pv ts.length cv) w7 (HAR7.out.arcIn (by omega) (by omega)))
     simp only [] at HCK; have a0 : w7.cell? ⟨xb, 0, none⟩ = some (.string nm) := Lib.cell_of_heap HAR7.out.box 0; have a1 : w7.cell? ⟨xb, 1, none⟩ = some (.slice pv ts.length cv) := Lib.cell_of_heap HAR7.out.box 1
     by_cases hmay : arcOk ⟨nm, ts.map (·.1)⟩ = true
     ·rw [hmay] at HCK; rw [if_pos ⟨hst, hmg, hmay⟩] at HAG; simp only [errB, if_true] at HCK; have HV : Hid (arcGetV s = (⟨nm, ts.map (·.1)⟩, 0)) := by unfold arcGetV; rw [HAG.out]; rfl
      clear hst hmg hmay r0 r1 rz; go_wp2_with fail; refine HCK.out.mono ?_; rintro e w8 ⟨rfl, hB8⟩; have HAR8 := Lib.hid (HAR7.out.below hB8); have hr8 := (hB8.block _ (by omega)).trans HRR7.out
      have HBW8 : Hid (Below w.heap.size w w8) := HBW7.out.trans (hB8.mono HBW7.out.size); obtain ⟨r0, r1, rz⟩ := twos hr8; have HPUT := Lib.hid (twos (two_put (u0 := .string nm) (u1 := .slice pv ts.length cv) hr8)); replace a0 : w8.cell? ⟨xb, 0, none⟩ = some (.string nm) := Lib.cell_of_heap HAR8.out.box 0; replace a1 : w8.cell? ⟨xb, 1, none⟩ = some (.slice pv ts.length cv) := Lib.cell_of_heap HAR8.out.box 1; clear hB8 hr8 HCK; go_wp2_with fail; obtain ⟨x0, x1, -⟩ := HPUT.out; refine bodyPost_ret (v := .tuple #[.agg #[.string nm, .slice pv ts.length cv], .int .i64 0]) (by simp [results, Tryz.results15, go_sem, x0, x1]) rfl ?_
      rw [HV.out]; refine ⟨_, rfl, ⟨pv, cv, by simp⟩, ArcRow.arcIn (B := xb + 1) (xb := xb) (HAR8.out.stay fun g hg hx => ?_) (by omega) (by omega), (HBW8.out.setCell (Nat.le_refl _) _).setCell (Nat.le_refl _) _⟩
      exact (Below.heap_setCell _ _ _ _ (by show g ≠ w.heap.size; omega)).trans (Below.heap_setCell _ _ _ _ (by show g ≠ w.heap.size; omega))
     ·have hmay' : arcOk ⟨nm, ts.map (·.1)⟩ = false := by simpa using hmay
      rw [hmay'] at HCK; rw [if_neg (fun h => hmay h.2.2)] at HAG
      simp only [errB, Bool.false_eq_true, if_false] at HCK; have HV : Hid (arcGetV s = (⟨⟨#[]⟩, []⟩, 7)) := by rw [Hid, arcGetV, HAG.out]
      clear hst hmg hmay hmay' r0 r1 rz; go_wp2_with fail; refine HCK.out.mono ?_; rintro e w8 ⟨rfl, hB8⟩; have hr8 := (hB8.block _ (by omega)).trans HRR7.out
      have HBW8 : Hid (Below w.heap.size w w8) := HBW7.out.trans (hB8.mono HBW7.out.size); obtain ⟨r0, r1, rz⟩ := twos hr8; have HPUT := Lib.hid (twos (two_put (u0 := .string ⟨#[]⟩) (u1 := .slice none 0 0) hr8)); clear hB8 hr8 HCK; go_wp2_with fail; obtain ⟨x0, x1, -⟩ := HPUT.out; refine bodyPost_ret (v := .tuple #[.agg #[.string ⟨#[]⟩, .slice none 0 0], .int .i64 7]) (by simp [results, Tryz.results15, go_sem, x0, x1]) rfl ?_
      rw [HV.out]; exact arcNo_got ((HBW8.out.setCell (Nat.le_refl _) _).setCell (Nat.le_refl _) _)
    ·rw [if_neg (fun h => hok ⟨h.1, h.2.1⟩)] at HAG
     have HV : Hid (arcGetV s = (⟨⟨#[]⟩, []⟩, 7)) := by rw [Hid, arcGetV, HAG.out]
     have HPUT := Lib.hid (twos (two_put (u0 := .string ⟨#[]⟩) (u1 := .slice none 0 0) HRR7.out))
     by_cases hc0 : c7 = 0
     ·have bl : ¬ (bsOf mg).toList = [65, 65, 82, 49] := by rw [ByteArray.toList_eq]; exact fun e => hok ⟨HC7.out.1 hc0, e⟩
      subst hc0; clear hok; go_wp2_with fail; obtain ⟨x0, x1, -⟩ := HPUT.out; refine bodyPost_ret (v := .tuple #[.agg #[.string ⟨#[]⟩, .slice none 0 0], .int .i64 7]) (by simp [results, Tryz.results15, go_sem, x0, x1]) rfl ?_
      rw [HV.out]; exact arcNo_got ((HBW7.out.setCell (Nat.le_refl _) _).setCell (Nat.le_refl _) _)
     ·have bc : (c7 != 0) = true := by simpa using hc0
      clear hok hc0; go_wp2_with fail; obtain ⟨x0, x1, -⟩ := HPUT.out; refine bodyPost_ret (v := .tuple #[.agg #[.string ⟨#[]⟩, .slice none 0 0], .int .i64 7]) (by simp [results, Tryz.results15, go_sem, x0, x1]) rfl ?_
      rw [HV.out]; exact arcNo_got ((HBW7.out.setCell (Nat.le_refl _) _).setCell (Nat.le_refl _) _)
   ·subst hf; have hsm : ∃ r, st = some r := ⟨_, hst.trans stOf_ok⟩; obtain ⟨r, rfl⟩ := hsm; clear hst hrb; go_wp2_with fail; refine HFA.out.mono ?_; rintro e w6' ⟨rfl, rfl⟩; clear HFA; go_wp2_with fail; refine (rdNum_any rb 4 s _ wr HRD.out (by omega) (by omega)).mono ?_
    rintro e w7 ⟨c7, rfl, -, k1, k2⟩; have hkb := rNum_bd 4 (some r); rw [p4] at hkb
    have HRM : Hid (rMems (m' + 1) (some r) = match getB (rTake (rNum 4 (some r)).1.toNat (rNum 4 (some r)).2).1 with
     | none => none
     | some o => match rMems m' (rTake (rNum 4 (some r)).1.toNat (rNum 4 (some r)).2).2 with
       | none => none
       | some (l, st) => some (o :: l, st)) := rfl
    generalize rNum 4 (some r) = nk at hkb HRM k1 ⊢; obtain ⟨kk, st7⟩ := nk; simp only [] at hkb HRM k1 ⊢; obtain ⟨kn, rfl⟩ := Int.eq_ofNat_of_zero_le hkb.1; rw [Int.toNat_natCast] at HRM; have hkn : kn ≤ 4294967295 := by omega
    clear hkb
    have hcap : ∃ q : Nat, (if kn ≤ s.size + 1 then kn else s.size + 1) = q ∧ rTake kn st7 = rTake q st7 ∧ q ≤ s.size + 1 ∧ q ≤ kn := by
     by_cases hq : kn ≤ s.size + 1
     ·exact ⟨kn, if_pos hq, rfl, hq, Nat.le_refl _⟩
     ·exact ⟨s.size + 1, if_neg hq, (rTake_cap k1 kn (by omega)).symm, Nat.le_refl _, by omega⟩
    obtain ⟨q, hq1, hq2, hq3, hq4⟩ := hcap; rw [hq2] at HRM
    have hmin : min (kn : Int) ((s.size + 1 : Nat) : Int) = (q : Int) := by
     rw [← hq1]; split <;> omega
    have hmin' : min (kn : Int) ((s.size : Int) + 1) = (q : Int) := by
     rw [← hq1]; split <;> omega
    have K7 := Lib.hid k1; have HK7 := Lib.hid k2; clear k1 k2 HRD hq1 hq2; go_wp2_with fail; refine (rdTake_any rb q s _ w7 K7.out).mono ?_; rintro e w8 ⟨c8, rfl, -, k1, k2⟩; have hbl := rTake_len q st7; generalize rTake q st7 = tk at hbl HRM k1 ⊢; obtain ⟨bb, st8⟩ := tk; simp only [] at hbl HRM k1 ⊢; have K8 := Lib.hid k1; have HK8 : Hid (KR rb wr w8) := HK7.out.trans k2; clear k1 k2 K7 HK7 hmin hmin'; have HGT := Lib.hid (get_any (bsOf bb) w8 (by rw [bsOf_size]; omega))
    go_wp2_with fail; refine HGT.out.mono ?_; rintro e w9 ⟨hget, hB9⟩; rw [bsOf_list] at hget; have K9 : Hid (RdS w9 rb s st8) := K8.out.congr (hB9.block rb K8.out.lt); have HAR9 : Hid (ArcRow (xb + 1) xb nm (.slice pv ts.length cv) ts w9) := (HAR.out.stay fun g hg hx => HK8.out.block g hg (by omega)).below hB9
    have hz8 : wr.heap.size ≤ w8.heap.size := HK8.out.size; have hz9 : w8.heap.size ≤ w9.heap.size := hB9.size; have HRR9 := Lib.hid ((hB9.block _ (by omega)).trans ((HK8.out.block _ (by omega) (by omega)).trans HRR.out))
    have HBW9 : Hid (Below w.heap.size w w9) := (HBW.out.trans (HK8.out.below HBW.out.size (fun g hg e => by omega))).trans (hB9.mono (Nat.le_trans HBW.out.size hz8))
    clear HGT hB9 K8 HK8 HAR HRR HBW; cases hg : getB bb with
    | none =>
      rw [hg] at hget HRM; obtain rfl := hget; have HMM : Hid (M = none) := by rw [Hid, ← HREL.out, HRM.out]; rfl
      have HV : Hid (arcGetV s = (⟨⟨#[]⟩, []⟩, 7)) := by rw [Hid, arcGetV, HAG.out, HMM.out]; rfl
      have hr := ((alloc_old w9 (.cells #[.string ⟨#[]⟩, .slice none 0 0] 50)).block _ (by omega)).trans HRR9.out
      obtain ⟨r0, r1, rz⟩ := twos hr; have HPUT := Lib.hid (twos (two_put (u0 := .string ⟨#[]⟩) (u1 := .slice none 0 0) hr)); have HBF : Hid (Below w.heap.size w (w9.alloc (.cells #[.string ⟨#[]⟩, .slice none 0 0] 50))) := HBW9.out.alloc HBW9.out.size _; clear hr hg; go_wp2_with fail; obtain ⟨x0, x1, -⟩ := HPUT.out; refine bodyPost_ret (v := .tuple #[.agg #[.string ⟨#[]⟩, .slice none 0 0], .int .i64 7]) (by simp [results, Tryz.results15, go_sem, x0, x1]) rfl ?_
      rw [HV.out]; exact arcNo_got ((HBF.out.setCell (Nat.le_refl _) _).setCell (Nat.le_refl _) _)
    | some o =>
      rw [hg] at hget HRM; obtain ⟨vs, rfl, hfr⟩ := hget; obtain ⟨-, hfit, -⟩ := getB_some hg; simp only [] at HRM; obtain ⟨po, co, rfl⟩ := hfr.shape; have HFR := Lib.hid (hfr.mono (B' := xb + 1) (by omega))
      have HFIT := Lib.hid hfit; have hxz9 : xb < w9.heap.size := by omega
      have HARA : Hid (ArcRow (xb + 1) xb nm (.slice pv ts.length cv) ts ((w9.alloc (.cells #[.string o.name, .slice po o.syms.length co] 50)).alloc (.cells #[.string o.name, .slice po o.syms.length co] 50))) := (HAR9.out.below (alloc_old _ _)).below (alloc_old _ _); have HFRA : Hid (Fresh (xb + 1) ((w9.alloc (.cells #[.string o.name, .slice po o.syms.length co] 50)).alloc (.cells #[.string o.name, .slice po o.syms.length co] 50)) o (.slice po o.syms.length co)) := (HFR.out.keep (alloc_old _ _)).keep (alloc_old _ _); have x1 : w9.cell? ⟨xb, 1, none⟩ = some (.slice pv ts.length cv) := Lib.cell_of_heap HAR9.out.box 1; have xz : w9.frozen? ⟨xb, 1, none⟩ = false := Lib.frozen_of_heap HAR9.out.box 1; clear hfr hfit hg; go_wp2_with (at_builtin; refine wpList_append_own _ rfl _ _ 22 rfl (xb + 1) 50 iO _ 2 40 Tryz.underlying22 HI.out.1 HI.out.2.1 HI.out.2.2.1 HI.out.2.2.2 rfl (by decide) (.slice pv ts.length cv) ts.length (ts.flatMap obCells) rfl HARA.out.row _ 1 1 [.string o.name, .slice po o.syms.length co] rfl rfl (ob_news (by simp [go_sem]) (by simp [go_sem])) ob_one (by unfold maxLen; omega) (by omega) (by simp; omega) ?_)
      intro v' w' hown hgrow _; obtain ⟨pv', cv', rfl⟩ := own_shape hown; have HADD := Lib.hid (HARA.out.add hgrow hown HFRA.out HFIT.out); have hown0 : ∀ g, (Value.slice pv ts.length cv).ownBlock = some g → xb + 1 ≤ g := fun g hg => (HARA.out.row.lt g hg).1
      have hkeep : ∀ g, g < xb → w'.heap[g]? = w9.heap[g]? := fun g hg => (hgrow.block g (by simp; omega) (fun e => by have := hown0 _ e.symm; omega)).trans ((Below.heap_alloc _ _ _ (by simp; omega)).trans (Below.heap_alloc _ _ _ (by omega)))
      have hset : ∀ g u, g < xb → (w'.setCell ⟨xb, 1, none⟩ u).heap[g]? = w'.heap[g]? := fun g u hg => Below.heap_setCell _ _ _ _ (by show g ≠ xb; omega)
      have K10 : Hid (∀ u, RdS (w'.setCell ⟨xb, 1, none⟩ u) rb s st8) := fun u => K9.out.congr ((hset rb u hz5).trans (hkeep rb hz5))
      have HRR10 : Hid (∀ u, (w'.setCell ⟨xb, 1, none⟩ u).heap[w.heap.size]? = some (.cells #[.string ⟨#[]⟩, .slice none 0 0] 24 (0, 0))) := fun u => (hset _ u (by omega)).trans ((hkeep _ (by omega)).trans HRR9.out)
      have HBW10 : Hid (∀ u, Below w.heap.size w (w'.setCell ⟨xb, 1, none⟩ u)) := fun u => (((((HBW9.out.alloc HBW9.out.size _).alloc (by simp; have := HBW9.out.size; omega) _)).grown hgrow (by simp; have := HBW9.out.size; omega) (fun g e => by have := hown0 _ e; omega)).setCell (by show w.heap.size ≤ xb; omega) _)
      have hbx : w'.heap[xb]? = some (.cells #[.string nm, .slice pv ts.length cv] 24 (0, 0)) := (hgrow.block xb (by simp; omega) (fun e => by have := hown0 _ e.symm; omega)).trans HARA.out.box
      have y1 : w'.cell? ⟨xb, 1, none⟩ = some (.slice pv ts.length cv) := Lib.cell_of_heap hbx 1; have yz : w'.frozen? ⟨xb, 1, none⟩ = false := Lib.frozen_of_heap hbx 1; clear hown hgrow hown0 hkeep hset x1 xz hbx; go_wp2; go_roundw
      case rel =>
       refine ⟨m', ts ++ [(o, .slice po o.syms.length co)], _, st8, ?_, ?_, K10.out _, HADD.out, ?_, HRR10.out _, HBW10.out _⟩
       ·go_num
       ·simp; omega
       ·rw [← HREL.out, HRM.out]; cases rMems m' st8 with
        | none => rfl
        | some p => simp
      case measure => simp [intOf]
end
end Go.Proofs.YtboegjdkedjhcaaGreatDoor
