/- The walks of objfile.Get's function and of goes with it. -/
import Derived.Test.YtfmmfbijkklceaaDoorObjSt
import Derived.Test.YtfmmfbijkklceaaDoorStep
import Derived.Deep.RegionHeld3
namespace Go.Proofs.YtfmmfbijkklceaaDoor
open Go.RowKit Go.Maps
theorem new_seven (w : World) (a : ByteArray) (b c d : Int) (e : ByteArray) (l : List GRel) (k : List GNote) (vr vn : Value) :
    ∀ j u, (symCells (⟨a, b, c, d, e, l, k⟩, vr, vn))[j]? = some u → (w.alloc (.cells #[.string a, .int .u8 b, .int .u8 c, .int .u32 d, .string e, vr, vn] 47)).cell? ((⟨w.heap.size, 0, none⟩ : Addr).add j) = some u := by
  refine seven_news fun j u hj hu => ?_
  match j, hu with
  | 0, hu => cases hu; simp [go_sem]
  | 1, hu => cases hu; simp [go_sem]
  | 2, hu => cases hu; simp [go_sem]
  | 3, hu => cases hu; simp [go_sem]
  | 4, hu => cases hu; simp [go_sem]
  | 5, hu => cases hu; simp [go_sem]
  | 6, hu => cases hu; simp [go_sem]
theorem grow_box {wn w5 : World} {B ob k n : Nat} {e t : TypeId} {v : Value} {xs : List Value} {cs : Array Value} {o : Obj} (hg : (wn.alloc o).grownBy w5 v.ownBlock) (hown : (wn.alloc o).ownsRow B e k v n xs) (hb : wn.heap[ob]? = some (.cells cs t (0, 0))) (hne : e ≠ t) :
    w5.heap[ob]? = some (.cells cs t (0, 0)) := by
  have hlt := (Array.getElem?_eq_some_iff.1 hb).1
  have h1 : (wn.alloc o).heap[ob]? = some (.cells cs t (0, 0)) := (Below.heap_alloc _ _ _ hlt).trans hb
  exact (hg.block ob (by simp; omega) fun e' => own_ne_box hown h1 hne e'.symm).trans h1
set_option maxRecDepth 100000 in
set_option maxHeartbeats 2000000 in
theorem get1_any (Q : Nat → Prop) (qb ob rb : Nat) (hq : Q qb) (s : ByteArray) (st : RS) (nm : ByteArray) (ys : List GSym) (w0 w : World) (h : ObjSt (fun w st => RdS w rb s st) Q ob rb st nm ys w0 w) (hlen : ys.length ≤ 70000) :
    Calls Tryd.prog 31 #[.pointer (some ⟨ob, 0, none⟩), .pointer (some ⟨qb, 0, none⟩)] w fun e w' => e = .returned (.tuple #[]) ∧ ObjSt (fun w st => RdS w rb s st) Q ob rb (rSym st).2 nm (ys ++ [(rSym st).1]) w0 w' := by
  have HS := Lib.hid (h.keep (Below.refl _ _).drew); clear h
  obtain ⟨v, ts, ho, hts⟩ := HS.out.o
  obtain ⟨pv, cv, rfl⟩ := own_shape ho.2.1
  have HO := Lib.hid ho; clear ho
  have HTS := Lib.hid hts; clear hts
  have htl : ts.length ≤ 70000 := by have := congrArg List.length HTS.out; simp at this; omega
  have c := HS.out.c hq
  have c1 : w.drew.cell? ⟨ob, 1, none⟩ = some (.slice pv ts.length cv) := Lib.cell_of_heap HO.out.1 1
  have f1 : w.drew.frozen? ⟨ob, 1, none⟩ = false := Lib.frozen_of_heap HO.out.1 1
  have HRB := Lib.hid HS.out.rlt
  have HOB := Lib.hid HS.out.ole
  have HK := Lib.hid HS.out.kb.size
  have HC := Lib.hid (symRd_any rb s st w.drew HS.out.rd)
  generalize hr : rSym st = r at HC
  have HR := Lib.hid hr; clear hr
  obtain ⟨⟨yn, yb, yk, ys', yy, yr, yt⟩, st'⟩ := r
  unfold SymRPost at HC
  simp only [] at HC
  obtain ⟨iS, s0, s1, s2, s3⟩ := info_parts info_sym
  have HI := Lib.hid (And.intro s0 (And.intro s1 (And.intro s2 s3)))
  clear s0 s1 s2 s3
  go_enter Tryd.func31, Tryd.ntmps31
  go_wp2
  go_region_law (first
    | ((refine step_call rfl 32 #[.tmp 4] #[74] rfl Tryd.func32 (by kernel_rfl) (by kernel_rfl) #[.agg #[.pointer (some ⟨rb, 0, none⟩)]] (by simp [Act.eval]) HC.out ?_); rintro e wn ⟨vr, vn, rfl, k1, k2, k3, k4⟩; refine ⟨_, rfl, ?_⟩; obtain ⟨pr, cr, rfl⟩ := own_shape k1; obtain ⟨pn, cn, rfl⟩ := own_shape k2; have HP := Lib.hid (And.intro k1 (And.intro k2 (And.intro k3 k4))); have d0 : wn.heap[ob]? = some (.cells #[.string nm, .slice pv ts.length cv] 24 (0, 0)) := (k4.block ob (Array.getElem?_eq_some_iff.1 HO.out.1).1 (by have := HRB.out; have := HOB.out; omega)).trans HO.out.1; have d4 : (wn.alloc (.cells #[.string yn, .int .u8 yb, .int .u8 yk, .int .u32 ys', .string yy, .slice pr yr.length cr, .slice pn yt.length cn] 47)).cell? ⟨ob, 1, none⟩ = some (.slice pv ts.length cv) := Lib.cell_of_heap ((Below.heap_alloc _ _ _ (Array.getElem?_eq_some_iff.1 d0).1).trans d0) 1; have d1 : wn.cell? ⟨ob, 1, none⟩ = some (.slice pv ts.length cv) := Lib.cell_of_heap d0 1; have d3 : wn.heap[qb]? = some (.cells #[.pointer (some ⟨rb, 0, none⟩)] 74 (0, 0)) := (k4.block qb (Array.getElem?_eq_some_iff.1 (HS.out.q qb hq).1).1 (by have := HRB.out; have := (HS.out.q qb hq).2; omega)).trans (HS.out.q qb hq).1; have d2 : wn.cell? ⟨qb, 0, none⟩ = some (.pointer (some ⟨rb, 0, none⟩)) := Lib.cell_of_heap d3 0; have HOWN : Hid ((wn.alloc (.cells #[.string yn, .int .u8 yb, .int .u8 yk, .int .u32 ys', .string yy, .slice pr yr.length cr, .slice pn yt.length cn] 47)).ownsRow w0.heap.size 47 7 (.slice pv ts.length cv) ts.length (ts.flatMap symCells)) := (own_congr HO.out.2.1 fun g hg => k4.block g (HO.out.2.1.lt g hg).2 (by have := (HO.out.2.1.lt g hg).1; have := HRB.out; omega)).alloc _; have HNEWS : Hid (∀ j u, (symCells (⟨yn, yb, yk, ys', yy, yr, yt⟩, .slice pr yr.length cr, .slice pn yt.length cn))[j]? = some u → (wn.alloc (.cells #[.string yn, .int .u8 yb, .int .u8 yk, .int .u32 ys', .string yy, .slice pr yr.length cr, .slice pn yt.length cn] 47)).cell? ((⟨wn.heap.size, 0, none⟩ : Addr).add j) = some u) := new_seven wn _ _ _ _ _ _ _ _ _; have hz : w0.heap.size ≤ wn.heap.size := Nat.le_trans HK.out k4.size; clear k1 k2 k3 k4)
    | (refine step_append_own_at rfl (.tmp 3) (.tmp 6) 22 rfl w0.heap.size 47 iS _ 7 88 Tryd.underlying22 HI.out.1 HI.out.2.1 HI.out.2.2.1 HI.out.2.2.2 rfl (by decide) (.slice pv ts.length cv) ts.length (ts.flatMap symCells) (by simp [Act.eval]) HOWN.out ⟨wn.heap.size, 0, none⟩ 1 1 (symCells (⟨yn, yb, yk, ys', yy, yr, yt⟩, .slice pr yr.length cr, .slice pn yt.length cn)) (by simp [Act.eval]) rfl HNEWS.out (seven_one rfl rfl) (by unfold maxLen; omega) (by omega) (by simp; omega) ?_); intro v' w5 hown hgrow hv; obtain ⟨pw, cw, rfl⟩ := own_shape hown; have HG := Lib.hid (And.intro hown (And.intro hgrow hv)); have hb5 : w5.heap[ob]? = some (.cells #[.string nm, .slice pv ts.length cv] 24 (0, 0)) := (grow_box hgrow HOWN.out d0 (by decide)); have e1 : w5.cell? ⟨ob, 1, none⟩ = some (.slice pv ts.length cv) := Lib.cell_of_heap hb5 1; have e2 : w5.frozen? ⟨ob, 1, none⟩ = false := Lib.frozen_of_heap hb5 1; have e3 : w5.cell? ⟨qb, 0, none⟩ = some (.pointer (some ⟨rb, 0, none⟩)) := Lib.cell_of_heap (grow_box hgrow HOWN.out d3 (by decide)) 0; clear hown hgrow hv hb5)
  all_goals
    go_wp2_with fail
    go_end0
    exact ⟨rfl, HS.out.add HO.out HTS.out HP.out.2.2.1 HP.out.2.2.2 HP.out.1 HP.out.2.1 (alloc_old _ _) HG.out.1 HG.out.2.1 HG.out.2.2⟩
/-- how far the symbols are read -/
def GO (ys : List GSym) (T : List GSym × RS) (k : Nat) (st : RS) (zs : List GSym) : Prop := ys ++ T.1 = zs ++ (rMany rSym k st).1 ∧ (rMany rSym k st).2 = T.2 ∧ zs.length + k ≤ 70000
theorem GO.step {ys zs : List GSym} {T : List GSym × RS} {k : Nat} {r : BL} (h : GO ys T (k + 1) (some r) zs) : GO ys T k (rSym (some r)).2 (zs ++ [(rSym (some r)).1]) := by
  obtain ⟨h2, h3, h4⟩ := h
  rw [rMany] at h2 h3
  exact ⟨by simp [h2], h3, by simp; omega⟩
theorem GO.done {ys zs : List GSym} {T : List GSym × RS} {k : Nat} {st : RS} (h : GO ys T k st zs) (hk : k = 0 ∨ st = none) : zs = ys ++ T.1 ∧ st = T.2 := by
  obtain ⟨h2, h3, -⟩ := h
  rcases hk with rfl | rfl
  · rw [rMany_zero] at h2 h3; rw [List.append_nil] at h2; exact ⟨h2.symm, h3⟩
  · rw [rMany_none] at h2 h3; rw [List.append_nil] at h2; exact ⟨h2.symm, h3⟩
set_option maxRecDepth 100000 in
set_option maxHeartbeats 2000000 in
theorem goesO (Q : Nat → Prop) (qb ob rb : Nat) (hq : Q qb) (s : ByteArray) (st : RS) (nm : ByteArray) (ys : List GSym) (w0 w : World) (k : Nat) (h : ObjSt (fun w st => RdS w rb s st) Q ob rb st nm ys w0 w) (hlen : ys.length + k ≤ 70000) :
    Calls Tryd.prog 29 #[.agg #[.pointer (some ⟨rb, 0, none⟩)], .int .u32 k, .func (.func 31) #[] #[.pointer (some ⟨ob, 0, none⟩), .pointer (some ⟨qb, 0, none⟩)]] w fun e w' => e = .returned (.tuple #[]) ∧ ObjSt (fun w st => RdS w rb s st) Q ob rb (rMany rSym k st).2 nm (ys ++ (rMany rSym k st).1) w0 w' := by
  have HS0 := Lib.hid h.box; clear h
  have HG0 : Hid (GO ys (rMany rSym k st) k st ys) := ⟨rfl, rfl, hlen⟩
  generalize hT : rMany rSym k st = T at HG0
  have HT := Lib.hid hT; clear hT
  go_enter Tryd.func29, Tryd.ntmps29
  go_wp2
  generalize w.alloc (.cells #[.pointer (some ⟨rb, 0, none⟩)] 74) = w1 at HS0 ⊢
  generalize w.heap.size = gb at HS0 ⊢
  go_loopw [1] (fun v1 wr => ∃ (j : Nat) (st' : RS) (zs : List GSym), v1 = .int .u32 j ∧ GO ys T j st' zs ∧ ObjSt (fun w st => RdS w rb s st) (fun g => Q g ∨ g = gb) ob rb st' nm zs w0 wr) (fun v1 _ => (intOf v1).toNat)
  case atStart => exact ⟨k, st, ys, rfl, HG0.out, HS0.out⟩
  case round =>
    clear HG0 HS0
    obtain ⟨j, st', zs, rfl, hg, hs⟩ := hrel
    have HG := Lib.hid hg; have HS := Lib.hid hs
    have hj := hg.2.2
    clear hg hs
    by_cases hj0 : j = 0
    · have d : decide ((0 : Int) < (j : Int)) = false := by simp; omega
      have d' : decide (0 < j) = false := by simp; omega
      have HD := Lib.hid (HG.out.done (.inl hj0))
      clear hj0
      go_wp2
      go_end0
      obtain ⟨h1, h2⟩ := HD.out
      have hs := HS.out.sub (Q' := Q) (fun g hg => .inl hg)
      rw [h1, h2] at hs
      exact ⟨rfl, hs⟩
    · have d : decide ((0 : Int) < (j : Int)) = true := by simp; omega
      have d' : decide (0 < j) = true := by simp; omega
      have c := HS.out.c (qb := gb) (.inr rfl)
      obtain ⟨a, f, hb, he⟩ := HS.out.rd
      have HF := Lib.hid (fault_any rb s a f wr hb)
      have HE := Lib.hid he; clear hb he
      by_cases hf : f = 0
      · subst hf
        have HE2 : Hid (st' = some (s.data.toList.drop a)) := HE.out.trans stOf_ok
        generalize s.data.toList.drop a = r at HE2
        obtain ⟨i, rfl⟩ : ∃ i, j = i + 1 := ⟨j - 1, by omega⟩
        have hg := HG.out
        rw [HE2.out] at hg
        have HGS := Lib.hid hg.step
        have HCL := Lib.hid (get1_any (fun g => Q g ∨ g = gb) qb ob rb (.inl hq) s st' nm zs w0 wr HS.out (by omega))
        rw [HE2.out] at HCL
        clear hg HE
        go_wp2_with fail
        refine HF.out.mono ?_
        rintro e w2 ⟨rfl, rfl⟩
        clear HF c
        go_wp2_with fail
        refine HCL.out.mono ?_
        rintro e w3 ⟨rfl, hs3⟩
        have H3 := Lib.hid hs3; clear hs3 HCL
        have hs1 : ((i : Int) + 1) - 1 = (i : Int) := by omega
        go_wp2
        go_roundw
        case rel => exact ⟨i, _, _, by first | rfl | go_num, HGS.out, H3.out⟩
        case measure => simp [intOf]
      · have HN : Hid (st' = none) := HE.out.trans (stOf_spoilt hf)
        have bf : (f == 0) = false := by simpa using hf
        have HD := Lib.hid (HG.out.done (.inr HN.out))
        clear hf
        go_wp2_with fail
        refine HF.out.mono ?_
        rintro e w2 ⟨rfl, rfl⟩
        clear HF c
        go_wp2
        go_end0
        obtain ⟨h1, h2⟩ := HD.out
        have hs := HS.out.sub (Q' := Q) (fun g hg => .inl hg)
        rw [h1, h2] at hs
        exact ⟨rfl, hs⟩
end Go.Proofs.YtfmmfbijkklceaaDoor
