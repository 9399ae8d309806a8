/- The walks of lay.Find and lay.At, and lay.Of whatever it is given. -/
import Derived.Test.YteekdjlpfgkgjaaDoorWLayOf
namespace Go.Proofs.YteekdjlpfgkgjaaDoor
open Go.RowKit Go.Maps Go.WideMaps
theorem layOf_any (v v2 : Value) (l : List GObj) (ps : List GP) (w : World) (h : ObjsAt w v l) (h2 : RowAt 2 PlcR w v2 ps) (hlen : ps.length ≤ 1200) :
    Calls Tryd.prog 8 #[v, v2] w (OfPost w (layOf l ps)) := by
  by_cases hm : layMay l ps = true
  · have := layOf_ok v v2 l ps w h h2 hlen hm
    have e : layOf l ps = ofR (layKinds l ps [1, 3, 2] (List.replicate ps.length addr0) [] 256) := by unfold layOf ofR; rw [if_pos hm]; rfl
    rw [e]; exact this
  · have hm' : layMay l ps = false := by simpa using hm
    have HM := Lib.hid (layMay_any v v2 l ps w h h2)
    rw [hm'] at HM
    have HE : Hid (layOf l ps = ([], [], 2)) := by simp [Hid, layOf, hm']
    clear hm hm'
    obtain ⟨p, cap, b, o, rfl, hcap, hmax, -, -⟩ := h
    obtain ⟨p2, cap2, b2, o2, rfl, hcap2, hmax2, hp2, hc2⟩ := h2
    clear hp2 hc2
    go_enter Tryd.func8, Tryd.ntmps8
    go_wp2_with (go_at_call 22; refine HM.out.mono ?_; rintro e w1 ⟨rfl, hB1⟩)
    go_ret3
    rw [HE.out]
    exact ⟨_, _, rfl, rowAt_nil, rowAt_nil, hB1⟩
def isPl (p : GP) (a : GAddr) : Bool := decide (a.obj = p.1) && decide (a.sym = p.2)
set_option maxHeartbeats 400000 in
theorem layFind1_any (a : GAddr) (nb : Nat) (p : GP) (w : World) (hnb : nb < w.heap.size) (hc : w.cell? ⟨nb, 0, none⟩ = some (.int .i64 p.1)) (hc1 : w.cell? ⟨nb, 1, none⟩ = some (.int .i64 p.2)) :
    Calls Tryd.prog 30 #[.agg #[.int .i64 a.obj, .int .i64 a.sym, .int .u32 a.at_], .pointer (some ⟨nb, 0, none⟩)] w fun e w' => e = .returned (.bool (isPl p a)) ∧ Below w.heap.size w w' := by
  obtain ⟨x, y, z⟩ := a
  obtain ⟨p1, p2⟩ := p
  simp only [] at *
  go_enter Tryd.func30, Tryd.ntmps30
  go_wp2
  all_goals
    go_ret
    exact ⟨ret_bool (by simp [isPl, *]), alloc_old w _⟩
def idxA : Option Nat → Int | some k => k | none => -1
theorem findIdxA_none {α : Type} {p : α → Bool} {l : List α} (h : l.all (fun x => !p x) = true) : l.findIdx? p = none ∧ l.find? p = none := by
  constructor
  · rw [List.findIdx?_eq_none_iff]; intro x hx; simpa using List.all_eq_true.1 h x hx
  · rw [List.find?_eq_none]; intro x hx; simpa using List.all_eq_true.1 h x hx
set_option maxHeartbeats 400000 in
theorem indexAddr_any (v : Value) (l : List GAddr) (nb : Nat) (p : GP) (w : World) (hnb : nb < w.heap.size) (hn0 : w.cell? ⟨nb, 0, none⟩ = some (.int .i64 p.1)) (hn1 : w.cell? ⟨nb, 1, none⟩ = some (.int .i64 p.2)) (h : RowAt 3 AddrR w v l) :
    Calls Tryd.prog 29 #[v, .func (.func 30) #[] #[.pointer (some ⟨nb, 0, none⟩)]] w fun e w' => e = .returned (.int .i64 (idxA (l.findIdx? (isPl p)))) ∧ Below w.heap.size w w' := by
  obtain ⟨pp, cap, b, o, rfl, hcap, hmax, hp, hc⟩ := h
  have HC := Lib.hid hc; clear hc
  have HP := Lib.hid hp; clear hp
  have HN0 := Lib.hid hn0; clear hn0
  have HN1 := Lib.hid hn1; clear hn1
  go_enter Tryd.func29, Tryd.ntmps29
  go_wp2
  go_loopw [8] (fun i wr => ∃ k : Nat, k ≤ l.length ∧ i = .int .i64 k ∧ (l.take k).all (fun x => !isPl p x) = true ∧ Below w.heap.size w wr) (fun i _ => l.length - (intOf i).toNat)
  case atStart => exact ⟨0, Nat.zero_le _, rfl, rfl, Below.refl _ _⟩
  case round =>
    obtain ⟨k, hk, rfl, hall, hbel⟩ := hrel
    have HA := Lib.hid hall; clear hall
    have HB := Lib.hid hbel; clear hbel
    by_cases hlt : k < l.length
    · obtain rfl := HP.out (by omega)
      obtain ⟨g0, g1, g2, g3, g4⟩ := addrR_keeps _ _ _ _ _ HB.out (HC.out k hlt)
      have HCON := Lib.hid (layFind1_any l[k] nb p wr (size_keep HB.out hnb) (cell_keep HB.out hnb HN0.out) (cell_keep HB.out hnb HN1.out))
      generalize hx : l[k] = x at g1 g2 g3 g4 HCON
      obtain ⟨x1, x2, x3⟩ := x
      simp only [] at g1 g2 g3 g4 HCON
      have HX := Lib.hid hx; clear hx
      go_wp2_with (go_at_call 30; refine HCON.out.mono ?_; rintro e w' ⟨rfl, hB⟩)
      · have hyes : isPl p ⟨x1, x2, x3⟩ = true := by assumption
        go_ret
        exact ⟨ret_int (by rw [findIdx_some hlt HX.out hyes HA.out]; rfl), HB.out.trans (hB.mono HB.out.size)⟩
      · have hno : isPl p ⟨x1, x2, x3⟩ = false := by assumption
        go_roundw
        case rel => exact ⟨k + 1, by omega, by go_num, take_all_snoc hlt HX.out HA.out (by simpa using hno), HB.out.trans (hB.mono HB.out.size)⟩
        case measure => simp [intOf]; omega
    · go_wp2
      go_ret
      exact ⟨ret_int (by rw [findIdx_none (all_end hlt HA.out)]; rfl), HB.out⟩
theorem find_of_idx {α : Type} {p : α → Bool} {l : List α} {k : Nat} (h : l.findIdx? p = some k) : ∃ hk : k < l.length, l.find? p = some l[k] := by
  obtain ⟨hk, hp, hlt⟩ := List.findIdx?_eq_some_iff_getElem.1 h
  refine ⟨hk, ?_⟩
  rw [List.find?_eq_some_iff_getElem]
  exact ⟨hp, k, hk, rfl, fun j hj => by simpa using hlt j hj⟩
set_option maxHeartbeats 1000000 in
theorem layFind_any (v : Value) (l : List GAddr) (p : GP) (w : World) (h : RowAt 3 AddrR w v l) :
    Calls Tryd.prog 10 #[v, .agg #[.int .i64 p.1, .int .i64 p.2]] w fun e w' => e = .returned (.tuple #[.int .u32 (layFind l p).1, .bool (layFind l p).2]) ∧ Below w.heap.size w w' := by
  have HI := Lib.hid (indexAddr_any v l w.heap.size p (w.alloc (.cells #[.int .i64 p.1, .int .i64 p.2] 26)) (by simp) (by simp [go_sem]) (by simp [go_sem]) (RowAt.keep addrR_keeps (alloc_old w _) h))
  obtain ⟨pp, cap, b, o, rfl, hcap, hmax, hp, hc⟩ := h
  have HC := Lib.hid hc; clear hc
  have HP := Lib.hid hp; clear hp
  cases hi : l.findIdx? (isPl p) with
  | none =>
    rw [hi] at HI
    have HF : Hid (layFind l p = (0, false)) := by
      have : l.find? (isPl p) = none := by
        rw [List.findIdx?_eq_none_iff] at hi
        rw [List.find?_eq_none]; intro x hx; simpa using hi x hx
      unfold layFind; unfold isPl at this; rw [Hid, this]
    clear hi
    simp only [idxA] at HI
    obtain ⟨p1, p2⟩ := p
    simp only [] at HI
    go_enter Tryd.func10, Tryd.ntmps10
    go_wp2_with (go_at_call 29; refine HI.out.mono ?_; rintro e w1 ⟨rfl, hB1⟩)
    go_ret2
    rw [HF.out]
    exact ⟨rfl, (alloc_old w _).trans (hB1.mono (by simp))⟩
  | some k =>
    rw [hi] at HI
    obtain ⟨hk, hfk⟩ := find_of_idx hi
    obtain rfl := HP.out (by omega)
    obtain ⟨g0, g1, g2, g3, g4⟩ := HC.out k hk
    generalize l[k] = x at g1 g2 g3 g4 hfk
    have HF : Hid (layFind l p = (x.at_, true)) := by unfold layFind; unfold isPl at hfk; rw [Hid, hfk]
    clear hi hfk
    obtain ⟨x1, x2, x3⟩ := x
    simp only [idxA] at HI g1 g2 g3 g4 HF
    obtain ⟨p1, p2⟩ := p
    simp only [] at HI
    go_enter Tryd.func10, Tryd.ntmps10
    go_wp2_with (go_at_call 29; refine HI.out.mono ?_; rintro e w1 ⟨rfl, hB1⟩; have q3 : w1.cell? ⟨b, o + k * 3 + 2, none⟩ = some (.int .u32 x3) := cell_keep hB1 (by simp; omega) (cell_keep (alloc_old w _) g0 g3))
    go_ret2
    rw [HF.out]
    exact ⟨rfl, (alloc_old w _).trans (hB1.mono (by simp))⟩
def AtPost (w : World) (r : GP × Int × Bool) (e : Ending) (w' : World) : Prop := e = .returned (.tuple #[.agg #[.int .i64 r.1.1, .int .i64 r.1.2], .int .u32 r.2.1, .bool r.2.2]) ∧ Below w.heap.size w w'
set_option maxRecDepth 100000 in
set_option maxHeartbeats 2000000 in
theorem layAt_any (v v2 : Value) (l : List GObj) (wh : List GAddr) (addr : Int) (w : World) (h : ObjsAt w v l) (h2 : RowAt 3 AddrR w v2 wh) (ha : 0 ≤ addr) (ha1 : addr ≤ 4294967295) :
    Calls Tryd.prog 12 #[v, v2, .int .u32 addr] w (AtPost w (layAt l wh addr)) := by
  have HO := Lib.hid h
  obtain ⟨p, cap, b, o, rfl, hcap, hmax, -, -⟩ := h
  obtain ⟨p2, cap2, b2, o2, rfl, hcap2, hmax2, hp2, hc2⟩ := h2
  have HP := Lib.hid hp2; clear hp2
  have HC := Lib.hid hc2; clear hc2
  go_enter Tryd.func12, Tryd.ntmps12
  go_wp2
  generalize hw0 : w.alloc (.cells #[.int .i64 0, .int .i64 0] 26) = w0
  have HB0 : Hid (Below w.heap.size w w0) := by subst hw0; exact alloc_old w _
  have hz0 : w.heap.size < w0.heap.size := by subst hw0; simp
  have HQ : Hid (w0.cell? ⟨w.heap.size, 0, none⟩ = some (.int .i64 0) ∧ w0.cell? ⟨w.heap.size, 1, none⟩ = some (.int .i64 0) ∧ w0.frozen? ⟨w.heap.size, 0, none⟩ = false ∧ w0.frozen? ⟨w.heap.size, 1, none⟩ = false) := by
    subst hw0; refine ⟨?_, ?_, ?_, ?_⟩ <;> simp [go_sem]
  clear hw0
  go_loopw [15] (fun v15 wr => ∃ k : Nat, k ≤ wh.length ∧ v15 = .int .i64 k ∧ (wh.take k).all (fun x => !atHit l addr x) = true ∧ Below w0.heap.size w0 wr) (fun v15 _ => wh.length - (intOf v15).toNat)
  case atStart => exact ⟨0, Nat.zero_le _, rfl, rfl, Below.refl _ _⟩
  case round =>
    obtain ⟨k, hk, rfl, hall, hbel⟩ := hrel
    have HA := Lib.hid hall; clear hall
    have HB := Lib.hid hbel; clear hbel
    have HW : Hid (Below w.heap.size w wr) := HB0.out.trans (HB.out.mono HB0.out.size)
    have r0 := cell_keep HB.out hz0 HQ.out.1
    have r1 := cell_keep HB.out hz0 HQ.out.2.1
    have f0 : wr.frozen? ⟨w.heap.size, 0, none⟩ = false := by rw [HB.out.frozen hz0]; exact HQ.out.2.2.1
    have f1 : wr.frozen? ⟨w.heap.size, 1, none⟩ = false := by rw [HB.out.frozen hz0]; exact HQ.out.2.2.2
    have zr : w.heap.size < wr.heap.size := size_keep HB.out hz0
    by_cases hlt : k < wh.length
    · obtain rfl := HP.out (by omega)
      obtain ⟨g0, g1, g2, g3, g4, g5⟩ := addrR_keeps _ _ _ _ _ HW.out (HC.out k hlt)
      generalize hx : wh[k] = x at g1 g2 g3 g4 g5
      have HX := Lib.hid hx; clear hx
      obtain ⟨x1, x2, x3⟩ := x
      simp only [] at g1 g2 g3 g4 g5
      have HCON := Lib.hid (laySym_any _ l (x1, x2) (wr.alloc (.cells #[.int .i64 x1, .int .i64 x2, .int .u32 x3] 56)) (ObjsAt.keep (HW.out.alloc HW.out.size _) HO.out))
      simp only [] at HCON
      go_wp2_with fail
      refine HCON.out.mono ?_
      clear HCON
      rintro en w4 ⟨hsp, hB4⟩
      have k0 : w4.cell? ⟨wr.heap.size, 0, none⟩ = some (.int .i64 x1) := by rw [hB4.cell (by simp)]; simp [go_sem]
      have k1 : w4.cell? ⟨wr.heap.size, 1, none⟩ = some (.int .i64 x2) := by rw [hB4.cell (by simp)]; simp [go_sem]
      have k2 : w4.cell? ⟨wr.heap.size, 2, none⟩ = some (.int .u32 x3) := by rw [hB4.cell (by simp)]; simp [go_sem]
      have z4 : wr.heap.size < w4.heap.size := by have := hB4.size; simp at this; omega
      have HB4 : Hid (Below wr.heap.size wr w4) := (alloc_old wr _).trans (hB4.mono (by simp))
      replace r0 := cell_keep HB4.out zr r0
      replace r1 := cell_keep HB4.out zr r1
      replace f0 : w4.frozen? ⟨w.heap.size, 0, none⟩ = false := by rw [HB4.out.frozen zr]; exact f0
      replace f1 : w4.frozen? ⟨w.heap.size, 1, none⟩ = false := by rw [HB4.out.frozen zr]; exact f1
      clear hB4 g1 g2 g3
      have z04 : w.heap.size < w4.heap.size := by omega
      cases hs : symAt l (x1, x2) with
      | none =>
        rw [hs] at hsp
        simp only [] at hsp
        subst hsp
        have HNH : Hid (atHit l addr ⟨x1, x2, x3⟩ = false) := by simp [Hid, atHit, hs]
        have HST := Lib.hid (take_all_snoc hlt HX.out HA.out (show (!atHit l addr ⟨x1, x2, x3⟩) = true by rw [HNH.out]; rfl))
        clear hs
        go_wp2
        go_roundw
        case rel => exact ⟨k + 1, by omega, by go_num, HST.out, (HB.out.trans (HB4.out.mono HB.out.size)).alloc (Nat.le_trans HB.out.size HB4.out.size) _⟩
        case measure => simp [intOf]; omega
      | some s =>
        rw [hs] at hsp
        obtain ⟨vr, vn, rfl, hin⟩ := hsp
        obtain ⟨p1, q1, p3, q3, rfl, rfl⟩ := hin.shape
        have hsz := hin.2.2.2.2.1
        clear hin
        have HHIT : Hid (atHit l addr ⟨x1, x2, x3⟩ = (decide (x3 ≤ addr) && decide (addr - x3 < s.size))) := by simp [Hid, atHit, hs]
        obtain ⟨yn, yb, yk, ys, yy, yr, yt⟩ := s
        simp only [symV] at HHIT hsz ⊢
        clear hs
        by_cases c1 : x3 ≤ addr
        · have d1 : decide (x3 ≤ addr) = true := by simpa using c1
          by_cases c2 : addr - x3 < ys
          · have d2 : decide (addr - x3 < ys) = true := by simpa using c2
            have HF : Hid (layAt l wh addr = ((x1, x2), addr - x3, true)) := by
              have h1 : wh.find? (atHit l addr) = some ⟨x1, x2, x3⟩ := by
                rw [List.find?_eq_some_iff_getElem]
                refine ⟨by rw [HHIT.out, d1, d2]; rfl, k, hlt, HX.out, fun j hj => ?_⟩
                have := List.all_eq_true.1 HA.out (wh[j]'(by omega)) (List.mem_iff_getElem.2 ⟨j, by simp; omega, by simp⟩)
                simpa using this
              unfold layAt; rw [Hid, h1]
            go_wp2
            go_region
            all_goals
              go_wp2
              refine bodyPost_ret (v := .tuple #[.agg #[.int .i64 x1, .int .i64 x2], .int .u32 (addr - x3), .bool true]) (by simp [results, Tryd.results12, go_sem, *]) rfl ?_
              rw [HF.out]
              exact ⟨rfl, ((((HW.out.trans (HB4.out.mono HW.out.size)).setCell (by simp) _).setCell (by simp) _).alloc (by simp; omega) _).drew⟩
          · have d2 : decide (addr - x3 < ys) = false := by simpa using c2
            have HST := Lib.hid (take_all_snoc hlt HX.out HA.out (show (!atHit l addr ⟨x1, x2, x3⟩) = true by rw [HHIT.out, d2]; simp))
            go_wp2
            go_roundw
            case rel => exact ⟨k + 1, by omega, by go_num, HST.out, (HB.out.trans (HB4.out.mono HB.out.size)).alloc (Nat.le_trans HB.out.size HB4.out.size) _⟩
            case measure => simp [intOf]; omega
        · have d1 : decide (x3 ≤ addr) = false := by simpa using c1
          have HST := Lib.hid (take_all_snoc hlt HX.out HA.out (show (!atHit l addr ⟨x1, x2, x3⟩) = true by rw [HHIT.out, d1]; simp))
          go_wp2
          go_roundw
          case rel => exact ⟨k + 1, by omega, by go_num, HST.out, (HB.out.trans (HB4.out.mono HB.out.size)).alloc (Nat.le_trans HB.out.size HB4.out.size) _⟩
          case measure => simp [intOf]; omega
    · have HF : Hid (layAt l wh addr = ((0, 0), 0, false)) := by
        have h1 := (findIdxA_none (all_end hlt HA.out)).2
        unfold layAt; rw [Hid, h1]
      go_wp2
      refine bodyPost_ret (v := .tuple #[.agg #[.int .i64 0, .int .i64 0], .int .u32 0, .bool false]) (by simp [results, Tryd.results12, go_sem, *]) rfl ?_
      rw [HF.out]
      exact ⟨rfl, (HW.out.setCell (by simp) _).setCell (by simp) _⟩
end Go.Proofs.YteekdjlpfgkgjaaDoor
