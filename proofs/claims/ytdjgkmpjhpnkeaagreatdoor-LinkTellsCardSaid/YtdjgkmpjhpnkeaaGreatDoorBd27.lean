/- The walks of aediculeref14's Find and SameAddrs. The walk of aediculeref12.Refs. The walks of pack.Num and pack.Text. The walks of aediculeref07's Num and Text. -/
import Derived.Test.YtdjgkmpjhpnkeaaGreatDoorBd26
import Derived.Test.YtdjgkmpjhpnkeaaGreatDoorBd25
import Derived.Test.YtdjgkmpjhpnkeaaGreatDoorBd07
import Derived.Test.YtdjgkmpjhpnkeaaGreatDoorBd02
import Derived.Test.YtdjgkmpjhpnkeaaGreatDoorBd08
import Derived.Test.YtdjgkmpjhpnkeaaGreatDoorBd09
import Derived.Lib.Builder
import Derived.Lib.AppendStr
import Derived.Lib.UnsafeStr
namespace Go.Proofs.YtdjgkmpjhpnkeaaGreatDoor
open Go.RowKit Go.Maps Go.WideMaps
theorem find_here {α : Type} {p : α → Bool} {l : List α} {k : Nat} {x : α} (hlt : k < l.length) (hx : l[k] = x) (hA : (l.take k).all (fun y => !p y) = true) (hp : p x = true) : l.find? p = some x := by
  rw [List.find?_eq_some_iff_getElem]
  refine ⟨hp, k, hlt, hx, fun j hj => ?_⟩
  have := List.all_eq_true.1 hA (l[j]'(by omega)) (List.mem_iff_getElem.2 ⟨j, by simp; omega, by simp⟩)
  simpa using this
theorem layFind_none {l : List GAddr} {p : GP} (h : l.find? (isPl p) = none) : layFind l p = (0, false) := by unfold layFind; unfold isPl at h; rw [h]
theorem layFind_some {l : List GAddr} {p : GP} {x : GAddr} (h : l.find? (isPl p) = some x) : layFind l p = (x.at_, true) := by unfold layFind; unfold isPl at h; rw [h]
set_option maxRecDepth 100000 in
set_option maxHeartbeats 1000000 in
theorem refFind14_any (v : Value) (l : List GAddr) (p : GP) (w : World) (h : RowAt 3 AddrR w v l) :
    Calls Tryz.prog 68 #[v, .agg #[.int .i64 p.1, .int .i64 p.2]] w fun e w' => e = .returned (.tuple #[.int .u32 (layFind l p).1, .bool (layFind l p).2]) ∧ Below w.heap.size w w' := by
  obtain ⟨pp, cap, b, o, rfl, hcap, hmax, hp, hc⟩ := h
  have HC := Lib.hid hc; clear hc
  have HP := Lib.hid hp; clear hp
  obtain ⟨p1, p2⟩ := p
  simp only []
  go_enter Tryz.func68, Tryz.ntmps68
  go_wp2
  generalize hw0 : w.alloc (.cells #[.int .i64 p1, .int .i64 p2] 63) = w0
  have HB0 : Hid (Below w.heap.size w w0) := by subst hw0; exact alloc_old _ _
  have HN : Hid (w.heap.size < w0.heap.size ∧ w0.cell? ⟨w.heap.size, 0, none⟩ = some (.int .i64 p1) ∧ w0.cell? ⟨w.heap.size, 1, none⟩ = some (.int .i64 p2)) := by
    subst hw0; refine ⟨by simp, ?_, ?_⟩ <;> simp [go_sem]
  clear hw0
  generalize hnb : w.heap.size = nb at HN ⊢
  have HNB := Lib.hid hnb; clear hnb
  go_loopw [6] (fun i wr => ∃ k : Nat, k ≤ l.length ∧ i = .int .i64 k ∧ (l.take k).all (fun x => !isPl (p1, p2) x) = true ∧ Below w0.heap.size w0 wr) (fun i _ => l.length - (intOf i).toNat)
  case atStart => exact ⟨0, Nat.zero_le _, rfl, rfl, Below.refl _ _⟩
  case round =>
    obtain ⟨k, hk, rfl, hall, hbel⟩ := hrel
    have HA := Lib.hid hall; clear hall
    have HB := Lib.hid hbel; clear hbel
    have HW := Lib.hid (HB0.out.trans (HB.out.mono HB0.out.size))
    by_cases hlt : k < l.length
    · obtain rfl := HP.out (by omega)
      obtain ⟨g0, g1, g2, g3, g4⟩ := addrR_keeps _ _ _ _ _ HW.out (HC.out k hlt)
      obtain ⟨n0, n1, n2⟩ := HN.out
      replace n1 := cell_keep HB.out n0 n1
      replace n2 := cell_keep HB.out n0 n2
      generalize hx : l[k] = x at g1 g2 g3 g4
      have HX := Lib.hid hx; clear hx
      obtain ⟨x1, x2, x3⟩ := x
      simp only [] at g1 g2 g3 g4
      by_cases hpl : x1 = p1 ∧ x2 = p2
      · have HF := Lib.hid (layFind_some (find_here hlt HX.out HA.out (by simp [isPl, hpl])))
        obtain ⟨rfl, rfl⟩ := hpl
        go_wp2
        go_quiet (fail)
        rename_i nq
        go_wp2
        go_ret2
        rw [HF.out]
        exact ⟨rfl, below_drewN (HNB.out ▸ HW.out) nq⟩
      · have HST := Lib.hid (take_all_snoc hlt HX.out HA.out (show (!isPl (p1, p2) ⟨x1, x2, x3⟩) = true by cases hb : isPl (p1, p2) ⟨x1, x2, x3⟩ with | false => rfl | true => exact absurd (by simpa [isPl] using hb) hpl))
        have hne : decide (x1 = p1 ∧ x2 = p2) = false := by simpa using hpl
        by_cases c1 : x1 = p1
        · have d1 : (x1 == p1) = true := by simpa using c1
          have d2 : (x2 == p2) = false := by simpa using fun h => hpl ⟨c1, h⟩
          subst c1
          go_wp2
          go_quiet (fail)
          rename_i nq
          go_wp2
          go_roundw
          case rel => exact ⟨k + 1, by omega, by go_num, HST.out, below_drewN HB.out nq⟩
          case measure => simp [intOf]; omega
        · have d1 : (x1 == p1) = false := by simpa using c1
          go_wp2
          go_quiet (fail)
          rename_i nq
          go_wp2
          go_roundw
          case rel => exact ⟨k + 1, by omega, by go_num, HST.out, below_drewN HB.out nq⟩
          case measure => simp [intOf]; omega
    · have HF := Lib.hid (layFind_none (findIdxA_none (all_end hlt HA.out)).2)
      go_wp2
      go_ret2
      rw [HF.out]
      exact ⟨rfl, HNB.out ▸ HW.out⟩
set_option maxRecDepth 100000 in
set_option maxHeartbeats 1000000 in
theorem sameAddrs_any (v v2 : Value) (l : List GAddr) (w : World) (h : RowAt 3 AddrR w v l) (h2 : RowAt 3 AddrR w v2 l) :
    Calls Tryz.prog 72 #[v, v2] w fun e w' => e = .returned (.bool true) ∧ Below w.heap.size w w' := by
  obtain ⟨p, cap, b, o, rfl, hcap, hmax, hp, hc⟩ := h
  obtain ⟨p2, cap2, b2, o2, rfl, hcap2, -, hp2, hc2⟩ := h2
  have HC := Lib.hid hc; clear hc
  have HP := Lib.hid hp; clear hp
  have HC2 := Lib.hid hc2; clear hc2
  have HP2 := Lib.hid hp2; clear hp2
  go_enter Tryz.func72, Tryz.ntmps72
  go_wp2
  go_loopw [5] (fun i wr => ∃ k : Nat, k ≤ l.length ∧ i = .int .i64 k ∧ Below w.heap.size w wr) (fun i _ => l.length - (intOf i).toNat)
  case atStart => exact ⟨0, Nat.zero_le _, rfl, Below.refl _ _⟩
  case round =>
    obtain ⟨k, hk, rfl, hbel⟩ := hrel
    have HB := Lib.hid hbel; clear hbel
    by_cases hlt : k < l.length
    · obtain rfl := HP.out (by omega)
      obtain rfl := HP2.out (by omega)
      obtain ⟨g0, g1, g2, g3, g4⟩ := addrR_keeps _ _ _ _ _ HB.out (HC.out k hlt)
      obtain ⟨e0, e1, e2, e3, e4⟩ := addrR_keeps _ _ _ _ _ HB.out (HC2.out k hlt)
      generalize l[k] = x at g1 g2 g3 g4 e1 e2 e3 e4
      obtain ⟨x1, x2, x3⟩ := x
      simp only [] at g1 g2 g3 e1 e2 e3
      go_wp2
      go_quiet (fail)
      rename_i nq
      go_wp2
      go_roundw
      case rel => exact ⟨k + 1, by omega, by go_num, below_drewN HB.out nq⟩
      case measure => simp [intOf]; omega
    · go_wp2
      go_ret
      exact ⟨rfl, HB.out⟩
end Go.Proofs.YtdjgkmpjhpnkeaaGreatDoor
namespace Go.Proofs.YtdjgkmpjhpnkeaaGreatDoor
open Go.RowKit Go.Maps Go.WideMaps
set_option maxRecDepth 100000 in
set_option maxHeartbeats 1000000 in
theorem refRefs_bad (v : Value) (l : List GObj) (a b : Int) (w : World) (h : ObjsAt w v l) (hc : (beginRR l).2 ≠ 0) :
    Calls Tryz.prog 163 #[v, .agg #[.int .i64 a, .int .i64 b]] w (RefsPost w [] (beginRR l).1 (beginRR l).2) := by
  have HK := Lib.hid (refCheck_any v l (w.alloc (.cells #[.int .i64 a, .int .i64 b] 63)) (ObjsAt.keep (alloc_old w _) h)); clear h
  have hcb : ((beginRR l).2 != 0) = true := by simpa using hc
  clear hc
  generalize (beginRR l).2 = c at *
  generalize (beginRR l).1 = cn at *
  go_enter Tryz.func163, Tryz.ntmps163
  go_wp2_with fail
  refine HK.out.mono ?_
  rintro e w1 ⟨rfl, hB⟩
  go_wp2_with fail
  go_ret3
  exact ⟨_, rfl, rowAt_nil, (alloc_old w _).trans (hB.mono (by simp))⟩
set_option maxRecDepth 100000 in
set_option maxHeartbeats 1000000 in
theorem refRefs_out (v : Value) (l : List GObj) (a b : Int) (w : World) (h : ObjsAt w v l) (hc : (beginRR l).2 = 0) (hh : hasR l a b = false) :
    Calls Tryz.prog 163 #[v, .agg #[.int .i64 a, .int .i64 b]] w (RefsPost w [] emptyB 2) := by
  have HK := Lib.hid (refCheck_any v l (w.alloc (.cells #[.int .i64 a, .int .i64 b] 63)) (ObjsAt.keep (alloc_old w _) h))
  have HO := Lib.hid h; clear h
  rw [hc] at HK
  generalize (beginRR l).1 = cn at *
  have HH := Lib.hid hh; clear hh hc
  go_enter Tryz.func163, Tryz.ntmps163
  go_wp2_with fail
  refine HK.out.mono ?_
  rintro e w1 ⟨rfl, hB⟩
  have p0 : w1.cell? ⟨w.heap.size, 0, none⟩ = some (.int .i64 a) := cell_keep hB (by simp) (by simp [go_sem])
  have p1 : w1.cell? ⟨w.heap.size, 1, none⟩ = some (.int .i64 b) := cell_keep hB (by simp) (by simp [go_sem])
  have HB : Hid (Below w.heap.size w w1) := (alloc_old w _).trans (hB.mono (by simp))
  clear hB
  have HHAS := Lib.hid (has_any v l a b w1 (ObjsAt.keep HB.out HO.out))
  rw [HH.out] at HHAS
  go_wp2_with (go_at_call 27; refine HHAS.out.mono ?_; rintro e w2 ⟨rfl, hB2⟩)
  go_ret3
  exact ⟨_, rfl, rowAt_nil, HB.out.trans (hB2.mono HB.out.size)⟩
set_option maxRecDepth 100000 in
set_option maxHeartbeats 4000000 in
theorem refRefs_in (v : Value) (l : List GObj) (a b : Nat) (w : World) (h : ObjsAt w v l) (hc : (beginRR l).2 = 0) (ha : a < l.length) (hb : b < l[a].syms.length) :
    Calls Tryz.prog 163 #[v, .agg #[.int .i64 a, .int .i64 b]] w (RefsPost w (refsGo l a [] l[a].syms[b].rels).1 (refsGo l a [] l[a].syms[b].rels).2.1 (refsGo l a [] l[a].syms[b].rels).2.2) := by
  have HK := Lib.hid (refCheck_any v l (w.alloc (.cells #[.int .i64 a, .int .i64 b] 63)) (ObjsAt.keep (alloc_old w _) h))
  have HO := Lib.hid h
  have hrl := relsR_le (beginRR_zero hc) ha hb
  have HH := Lib.hid ((hasR_at ha).trans (decide_eq_true hb))
  obtain ⟨p, cap, bb, o, rfl, hcap, hmax, hp, hcc⟩ := h
  rw [hc] at HK
  clear hc
  obtain rfl := hp (by omega)
  obtain ⟨vs, g0, -, g2, ⟨pS, capS, bS, oS, rfl, hcapS, hmaxS, hpS, hcS⟩, -⟩ := hcc a ha
  obtain rfl := hpS (by omega)
  obtain ⟨vr, vn, s0, -, -, -, -, -, s6, -, ⟨pR, capR, bR, oR, rfl, hcapR, hmaxR, hpR, hcR⟩, -⟩ := hcS b hb
  clear hcc hp hpS hcS
  generalize l[a].syms[b].rels = rs at *
  generalize l[a].syms.length = nS at *
  generalize (beginRR l).1 = cn at *
  have G0 := Lib.hid g0
  have G2 := Lib.hid g2
  have S0 := Lib.hid s0
  have S6 := Lib.hid s6
  have HCR := Lib.hid hcR
  have HPR := Lib.hid hpR
  clear g0 g2 s0 s6 hcR hpR
  obtain ⟨i0, hin0, hz0, hz1, hz2⟩ := info_parts info_place
  have HI0 := Lib.hid hin0
  have HZ0 := Lib.hid hz0
  have HZ1 := Lib.hid hz1
  have HZ2 := Lib.hid hz2
  clear hin0 hz0 hz1 hz2
  go_enter Tryz.func163, Tryz.ntmps163
  go_wp2_with fail
  refine HK.out.mono ?_
  rintro e w1 ⟨rfl, hB⟩
  have p0 : w1.cell? ⟨w.heap.size, 0, none⟩ = some (.int .i64 a) := cell_keep hB (by simp) (by simp [go_sem])
  have p1 : w1.cell? ⟨w.heap.size, 1, none⟩ = some (.int .i64 b) := cell_keep hB (by simp) (by simp [go_sem])
  have hz1 : w.heap.size < w1.heap.size := by have := hB.size; (try simp at this); omega
  have HB : Hid (Below w.heap.size w w1) := (alloc_old w _).trans (hB.mono (by simp))
  clear hB HK
  have HHAS := Lib.hid (has_any _ l a b w1 (ObjsAt.keep HB.out HO.out))
  rw [HH.out] at HHAS
  go_wp2_with (go_at_call 27; refine HHAS.out.mono ?_; rintro e w2 ⟨rfl, hB2⟩; replace p0 := cell_keep hB2 hz1 p0; replace p1 := cell_keep hB2 hz1 p1; have hz2 : w.heap.size < w2.heap.size := size_keep hB2 hz1; have HB2 : Hid (Below w.heap.size w w2) := HB.out.trans (hB2.mono HB.out.size); clear hB2 HHAS HB; have g2 := cell_keep HB2.out G0.out G2.out; have g0 := size_keep HB2.out G0.out; have s6 := cell_keep HB2.out S0.out S6.out; have s0 := size_keep HB2.out S0.out)
  go_quiet (fail)
  rename_i nq
  go_wp2
  have HB3 : Hid (Below w.heap.size w (w2.drewN nq)) := below_drewN HB2.out nq
  replace p0 : (w2.drewN nq).cell? ⟨w.heap.size, 0, none⟩ = some (.int .i64 a) := p0
  have P0 := Lib.hid p0
  have hz3 : w.heap.size < (w2.drewN nq).heap.size := hz2
  clear p0 p1 g0 g2 s0 s6 hz1 hz2 HB2 G0 G2 S0 S6
  generalize w2.drewN nq = w3 at *
  go_loopw [9, 11] (fun v9 v11 wr => ∃ (j : Nat) (acc : List (Nat × Nat)), j ≤ rs.length ∧ v11 = .int .i64 j ∧ acc.length = j ∧ refsGo l a acc (rs.drop j) = refsGo l a [] rs ∧ PRow w3.heap.size wr v9 acc ∧ Below w3.heap.size w3 wr) (fun _ v11 _ => rs.length - (intOf v11).toNat)
  case atStart => exact ⟨0, [], Nat.zero_le _, rfl, rfl, rfl, PRow.nil _ _, Below.refl _ _⟩
  case round =>
    obtain ⟨j, acc, hj, rfl, hal, hgo, hown, hbel⟩ := hrel
    have HGO := Lib.hid hgo; clear hgo
    have HOWN := Lib.hid hown; clear hown
    have HBW := Lib.hid hbel; clear hbel
    have HBV : Hid (Below w.heap.size w wr) := HB3.out.trans (HBW.out.mono HB3.out.size)
    by_cases hlt : j < rs.length
    · obtain rfl := HPR.out (by omega)
      obtain ⟨s0, -, -, s3, -, -, -, -, hnm⟩ := relR_keeps _ _ _ _ _ HBV.out (HCR.out j hlt)
      generalize hx : rs[j] = x at s3 hnm
      obtain ⟨xo, xk, xn, xa⟩ := x
      simp only [] at s3 hnm
      have HX := Lib.hid hx; clear hx
      have t0 : wr.cell? ⟨w.heap.size, 0, none⟩ = some (.int .i64 a) := cell_keep HBW.out hz3 P0.out
      have hzr : w.heap.size < wr.heap.size := size_keep HBW.out hz3
      have HOR := Lib.hid (ObjsAt.keep HBV.out HO.out)
      have HF := Lib.hid (fun (w' : World) (ho : ObjsAt w' (.slice (some ⟨bb, o, none⟩) l.length cap) l) => findRef_any (.slice (some ⟨bb, o, none⟩) l.length cap) l a xn w' ho (by omega))
      have HYS := Lib.hid (fun q => refsGo_yes (p := q) hlt HX.out HGO.out)
      have HNS := Lib.hid (refsGo_no hlt HX.out HGO.out)
      simp only [] at HYS HNS
      generalize findR l a xn.data.toList = fp at HF HYS HNS
      simp only [placeRet_eq] at HF
      have hne0 : ¬ wr.heap.size = w.heap.size := by omega
      have hne1 : ¬ wr.heap.size = bR := by omega
      go_wp2
      go_cut [12, 13] (fun v12 v13 wx => ∃ g : Nat, v12 = .pointer (some ⟨g, 0, none⟩) ∧ v13 = .bool fp.isSome ∧ g < wx.heap.size ∧ wx.cell? ⟨g, 0, none⟩ = some (.int .i64 ((fp.getD (0, 0)).1 : Nat)) ∧ wx.cell? ⟨g, 1, none⟩ = some (.int .i64 ((fp.getD (0, 0)).2 : Nat)) ∧ Below wr.heap.size wr wx)
      case first =>
        go_region_held3 (fun w' => w'.cell? ⟨w.heap.size, 0, none⟩ = some (.int .i64 a) ∧ w'.cell? ⟨bR, oR + j * 4 + 2, none⟩ = some (.string xn)) (go_keep) (first | (go_at_call 160; refine (HF.out _ ?_).mono ?_; (first | exact ObjsAt.keep (Below.refl _ _).drew HOR.out | exact ObjsAt.keep ((Below.refl _ _).alloc (by simp) _).drew HOR.out); rintro e w' ⟨rfl, hB⟩; have k1 : w'.cell? ⟨w.heap.size, 0, none⟩ = some (.int .i64 a) := cell_keep hB (by simp; omega) (by simp [go_sem, *]); have k2 : w'.cell? ⟨bR, oR + j * 4 + 2, none⟩ = some (.string xn) := cell_keep hB (by simp <;> omega) (by simp [go_sem, *]); obtain ⟨hc, hf⟩ := bcell hB))
        all_goals go_wp2_with fail
        all_goals go_meet
        all_goals go_light
        · exact ⟨_, rfl, rfl, by simp, by simp [go_sem], by simp [go_sem], ((Below.refl _ _).drew.trans (hB.mono (by simp))).alloc (by have := hB.size; (try simp at this); omega) _⟩
        · have c0 : w'.cell? ⟨wr.heap.size, 0, none⟩ = some (.int .i64 0) := cell_keep hB (by simp) (by simp [go_sem])
          have c1 : w'.cell? ⟨wr.heap.size, 1, none⟩ = some (.int .i64 0) := cell_keep hB (by simp) (by simp [go_sem])
          have hzz : wr.heap.size < w'.heap.size := by have := hB.size; (try simp at this); omega
          exact ⟨_, rfl, rfl, by simpa [go_sem] using hzz, by simp [go_sem, c0], by simp [go_sem, c1], ((((Below.refl _ _).alloc (by simp) _).drew.trans (hB.mono (by simp))).setCell (by simp) _).setCell (by simp) _⟩
      case rest =>
        obtain ⟨g, rfl, rfl, hg, hg0, hg1, hbx⟩ := hcut
        replace s3 := cell_keep hbx s0 s3
        replace s0 := size_keep hbx s0
        have HBX := Lib.hid hbx; clear hbx
        clear HF t0 hne0 hne1
        cases fp with
        | none =>
          have HNE := Lib.hid (HNS.out rfl)
          simp only [Option.getD_none] at hg0 hg1
          go_wp2
          go_quiet (fail)
          go_wp2
          go_ret3
          rw [HNE.out]
          exact ⟨_, rfl, rowAt_nil, below_drewN (HBV.out.trans (HBX.out.mono HBV.out.size)) _⟩
        | some pq =>
          obtain ⟨pa, pb⟩ := pq
          have HYE := Lib.hid (HYS.out (pa, pb) rfl)
          simp only [Option.getD_some] at hg0 hg1
          go_wp2_with (at_builtin; refine wpList_append_own _ rfl _ _ 22 rfl w3.heap.size 63 i0 (.agg #[.int .i64 0, .int .i64 0]) 2 16 Tryz.underlying22 HI0.out HZ0.out HZ1.out HZ2.out rfl (by decide) _ acc.length (placeCells acc) rfl ?c0 _ 1 1 [.int .i64 pa, .int .i64 pb] rfl rfl ?c1 two_one ?c3 ?c4 ?c5 ?_)
          case c0 => exact PRow.keep (HBX.out.alloc HBX.out.size _) HOWN.out
          case c1 => exact two_news (by simp [go_sem]) (by simp [go_sem])
          case c3 => unfold maxLen; omega
          case c4 => omega
          case c5 => have := HBW.out.size; have := HBX.out.size; simp; omega
          intro v3 w4 hown3 hgrow3 _
          rw [← hal] at hown3
          have HOW3 := Lib.hid (PRow.snoc hown3); clear hown3
          have HB4 : Hid (Below w3.heap.size w3 w4) := ((HBW.out.trans (HBX.out.mono HBW.out.size)).alloc (Nat.le_trans HBW.out.size HBX.out.size) _).grown hgrow3 (by have := HBW.out.size; have := HBX.out.size; simp; omega) (fun q e => (World.ownsRow.lt HOWN.out q e).1)
          clear hgrow3
          go_wp2
          go_roundw
          case rel => exact ⟨j + 1, _, by omega, by go_num, by simp [hal], HYE.out, HOW3.out, HB4.out⟩
          case measure => simp [intOf]; omega
    · have hgo := refsGo_end hlt HGO.out
      have HRW := Lib.hid (PRow.row HOWN.out (by omega))
      have HGE := Lib.hid hgo; clear hgo
      go_wp2
      go_ret3
      rw [HGE.out]
      exact ⟨_, rfl, HRW.out, HBV.out⟩
theorem refRefs_any (v : Value) (l : List GObj) (a b : Int) (w : World) (h : ObjsAt w v l) :
    Calls Tryz.prog 163 #[v, .agg #[.int .i64 a, .int .i64 b]] w (RefsPost w (refsV (beginRR l) l a b).1 (refsV (beginRR l) l a b).2.1 (refsV (beginRR l) l a b).2.2) := by
  unfold refsV
  by_cases hc : (beginRR l).2 = 0
  · rw [if_neg (by simpa using hc)]
    cases hh : hasR l a b with
    | false => exact refRefs_out v l a b w h hc hh
    | true =>
      obtain ⟨an, bn, ha, rfl, rfl, hb⟩ := hasR_yes hh
      rw [if_pos rfl, Int.toNat_natCast, Int.toNat_natCast, relsAt_eq ha hb]
      exact refRefs_in v l an bn w h hc ha hb
  · rw [if_pos hc]
    exact refRefs_bad v l a b w h hc
end Go.Proofs.YtdjgkmpjhpnkeaaGreatDoor
namespace Go.Proofs.YtdjgkmpjhpnkeaaGreatDoor
open Go.RowKit
set_option maxHeartbeats 400000 in
set_option maxRecDepth 100000 in
theorem pnum1 (v : Int) (w : World) (h0 : 0 ≤ v) (h1 : v < 256) : Calls Tryz.prog 88 #[.int .u32 v, .int .i64 1] w fun e w' => e = .returned (.tuple #[.string (bsOf (leB 1 v)), .int .i64 0]) ∧ Below w.heap.size w w' := by
  have hz : (v / 256 != 0) = false := by simp; omega
  have HC := Lib.hid (wput1 v w h0 h1)
  go_enter Tryz.func88, Tryz.ntmps88
  go_wp2_with (go_at_call 181; refine HC.out.mono ?_; rintro e w' ⟨rfl, hB⟩)
  go_ret2
  exact ⟨rfl, hB⟩
set_option maxHeartbeats 400000 in
set_option maxRecDepth 100000 in
theorem pnum2 (v : Int) (w : World) (h0 : 0 ≤ v) (h1 : v < 65536) : Calls Tryz.prog 88 #[.int .u32 v, .int .i64 2] w fun e w' => e = .returned (.tuple #[.string (bsOf (leB 2 v)), .int .i64 0]) ∧ Below w.heap.size w w' := by
  have hz : (v / 65536 != 0) = false := by simp; omega
  have HC := Lib.hid (wput2 v w h0 h1)
  go_enter Tryz.func88, Tryz.ntmps88
  go_wp2_with (go_at_call 181; refine HC.out.mono ?_; rintro e w' ⟨rfl, hB⟩)
  go_ret2
  exact ⟨rfl, hB⟩
set_option maxHeartbeats 400000 in
set_option maxRecDepth 100000 in
theorem pnum4 (v : Int) (w : World) (h0 : 0 ≤ v) (h1 : v < 4294967296) : Calls Tryz.prog 88 #[.int .u32 v, .int .i64 4] w fun e w' => e = .returned (.tuple #[.string (bsOf (leB 4 v)), .int .i64 0]) ∧ Below w.heap.size w w' := by
  have HC := Lib.hid (wput4 v w h0 h1)
  go_enter Tryz.func88, Tryz.ntmps88
  go_wp2_with (go_at_call 181; refine HC.out.mono ?_; rintro e w' ⟨rfl, hB⟩)
  go_ret2
  exact ⟨rfl, hB⟩
set_option maxHeartbeats 400000 in
set_option maxRecDepth 100000 in
theorem ptext_any (s : ByteArray) (w : World) (hs : s.size < 65536) : Calls Tryz.prog 89 #[.string s] w fun e w' => e = .returned (.tuple #[.string (bsOf (encText s)), .int .i64 0]) ∧ Below w.heap.size w w' := by
  have HC := Lib.hid (pnum2 s.size w (by omega) (by omega))
  have hmin : min (s.size : Int) 65536 = s.size := by omega
  go_enter Tryz.func89, Tryz.ntmps89
  go_wp2_with fail
  refine HC.out.mono ?_
  rintro e w' ⟨rfl, hB⟩
  clear hmin
  have hcat : ¬ 9223372036854775807 < (bsOf (leB 2 s.size)).size + s.size := by rw [bsOf_size, leB_length]; omega
  go_wp2
  go_ret2
  exact ⟨by rw [bsOf_app]; rfl, hB⟩
end Go.Proofs.YtdjgkmpjhpnkeaaGreatDoor
namespace Go.Proofs.YtdjgkmpjhpnkeaaGreatDoor
open Go.RowKit
/-- divided by 256 so often -/
def dv : Nat → Int → Int
  | 0, v => v
  | i + 1, v => dv i (v / 256)
theorem dv_succ : ∀ (i : Nat) (v : Int), dv (i + 1) v = dv i v / 256
  | 0, _ => rfl
  | i + 1, v => by rw [dv, dv_succ i, dv]
theorem dv_zero : ∀ (n : Nat) (v : Int), 0 ≤ v → v < pow256 n → dv n v = 0
  | 0, v, h0, h1 => by simp only [pow256] at h1; simp only [dv]; omega
  | n + 1, v, h0, h1 => by simp only [pow256] at h1; simp only [dv]; exact dv_zero n _ (by omega) (by omega)
theorem dv_bd : ∀ (i : Nat) (v : Int), 0 ≤ v → 0 ≤ dv i v ∧ dv i v ≤ v
  | 0, v, h => ⟨h, Int.le_refl _⟩
  | i + 1, v, h => by have := dv_bd i (v / 256) (by omega); simp only [dv]; omega
theorem leB_snoc : ∀ (i : Nat) (v : Int), leB (i + 1) v = leB i v ++ [UInt8.ofNat (dv i v % 256).toNat]
  | 0, _ => rfl
  | i + 1, v => by
    rw [leB, leB_snoc i (v / 256)]; rfl
set_option maxHeartbeats 1000000 in
set_option maxRecDepth 100000 in
theorem rnum07 (n : Nat) (v : Int) (w : World) (hn : 1 ≤ n) (hn4 : n ≤ 4) (h0 : 0 ≤ v) (h1 : v < pow256 n) (h2 : v ≤ 4294967295) : Calls Tryz.prog 191 #[.int .u32 v, .int .i64 n] w fun e w' => e = .returned (.tuple #[.string (bsOf (leB n v)), .int .i64 0]) ∧ Below w.heap.size w w' := by
  obtain ⟨i0, hi, hz0, hz1, hz2⟩ := info_parts info_byte
  have HI := Lib.hid (And.intro hi (And.intro hz0 (And.intro hz1 hz2)))
  clear hi hz0 hz1 hz2
  have HZ := Lib.hid (dv_zero n v h0 h1)
  clear h1
  have d1 : decide ((n : Int) < 1) = false := by simp; omega
  have d4 : decide ((4 : Int) < (n : Int)) = false := by simp; omega
  have d4' : decide (4 < n) = false := by simp; omega
  go_enter Tryz.func191, Tryz.ntmps191
  go_wp2
  go_loopw [0, 6, 7] (fun v0 v6 v7 wr => ∃ i : Nat, i ≤ n ∧ v7 = .int .i64 i ∧ v0 = .int .u32 (dv i v) ∧ wr.ownsRow w.heap.size 5 1 v6 i (Lib.byteCells (leB i v)) ∧ Below w.heap.size w wr) (fun _ _ v7 _ => n - (intOf v7).toNat)
  case atStart => exact ⟨0, Nat.zero_le _, rfl, rfl, World.ownsRow_nil _ _ _ _, Below.refl _ _⟩
  case round =>
    obtain ⟨i, hi, rfl, rfl, hown, hbel⟩ := hrel
    have HOWN := Lib.hid hown; clear hown
    have HB := Lib.hid hbel; clear hbel
    have hsz := HB.out.size
    have hdv := dv_bd i v h0
    by_cases hlt : i < n
    · have HS := Lib.hid (leB_snoc i v)
      have HD := Lib.hid (dv_succ i v)
      generalize dv i v = d at hdv HS HD
      go_wp2_with (at_builtin; refine wpList_append_own _ rfl _ _ 130 rfl w.heap.size 5 i0 (.int .u8 0) 1 1 Tryz.underlying130 HI.out.1 HI.out.2.1 HI.out.2.2.1 HI.out.2.2.2 rfl (by decide) _ _ _ rfl (HOWN.out.alloc _) ⟨wr.heap.size, 0, none⟩ 1 1 [.int .u8 (d % 256)] rfl rfl ?c1 ?c2 ?c3 ?c4 ?c5 ?_)
      case c1 =>
        intro j u hj
        match j, hj with
        | 0, hj => simp at hj; subst hj; simp [Addr.add]
      case c2 => intro u hu; simp at hu; subst hu; rfl
      case c3 => unfold maxLen; omega
      case c4 => omega
      case c5 => simp; omega
      intro v' w2 hown' hgrow _
      have HO2 : Hid (w2.ownsRow w.heap.size 5 1 v' (i + 1) (Lib.byteCells (leB (i + 1) v))) := by
        have e : ((UInt8.ofNat (d % 256).toNat).toNat : Int) = d % 256 := by rw [u8_ofNat _ (by omega)]; omega
        rw [Hid, HS.out, show Lib.byteCells (leB i v ++ [UInt8.ofNat (d % 256).toNat]) = Lib.byteCells (leB i v) ++ [.int .u8 (d % 256)] by simp only [Lib.byteCells, List.map_append, List.map_cons, List.map_nil, e]]
        exact hown'
      have HB2 := Lib.hid ((HB.out.alloc hsz _).grown hgrow (by simp; omega) (fun k hk => (HOWN.out.lt k hk).1))
      clear hown' hgrow HOWN HB HS
      go_wp2
      go_roundw
      case rel => exact ⟨i + 1, by omega, by go_num, by rw [HD.out], HO2.out, HB2.out⟩
      case measure => simp [intOf]; omega
    · obtain rfl : i = n := by omega
      rw [HZ.out]
      obtain ⟨g, cap, hu6⟩ : ∃ g cap, u6 = .slice (some ⟨g, 0, none⟩) i cap := by
        rcases HOWN.out.2 with ⟨-, h⟩ | ⟨g, cap, cur, h, -⟩
        · omega
        · exact ⟨g, cap, h⟩
      subst hu6
      have hk := run_convert_bytes_back (P := Tryz.prog) wr 130 9 5 ⟨g, 0, none⟩ cap (leB i v) Tryz.underlying130 Tryz.underlying5 Tryz.underlying9 (fun j hj => HOWN.out.cells (g := g) rfl j _ (by simp [Lib.byteCells, List.getElem?_eq_getElem hj]))
      rw [leB_length] at hk
      go_wp2
      go_ret2
      exact ⟨rfl, HB.out⟩
set_option maxHeartbeats 400000 in
set_option maxRecDepth 100000 in
theorem rtext07 (s : ByteArray) (w : World) (hs : s.size < 65536) : Calls Tryz.prog 104 #[.string s] w fun e w' => e = .returned (.tuple #[.string (bsOf (encText s)), .int .i64 0]) ∧ Below w.heap.size w w' := by
  have d1 : decide ((65535 : Int) < (s.size : Int)) = false := by simp; omega
  have HQ : Hid (∀ W : World, W.cell? ⟨w.heap.size, 0, none⟩ = some (.int .u8 ((s.size : Int) % 256)) → W.cell? ⟨w.heap.size, 1, none⟩ = some (.int .u8 ((s.size : Int) / 256)) → (convert 130 9 (.slice (some ⟨w.heap.size, 0, none⟩) 2 2)).run Tryz.prog W = .ok (.string (bsOf (leB 2 s.size))) W) := fun W q0 q1 => by
    refine run_convert_bytes_back (P := Tryz.prog) W 130 9 5 ⟨w.heap.size, 0, none⟩ 2 (leB 2 s.size) Tryz.underlying130 Tryz.underlying5 Tryz.underlying9 (fun j hj => ?_)
    rw [leB_get (by omega) hj, add_at]
    rw [leB_length] at hj
    have h2 : j = 0 ∨ j = 1 := by omega
    rcases h2 with rfl | rfl
    · simp only [Nat.add_zero, List.getD_cons_zero]; exact q0
    · simp only [Nat.zero_add, List.getD_cons_succ, List.getD_cons_zero]; rw [q1]; congr 2; omega
  have hk := HQ.out (w.alloc (.cells #[.int .u8 ((s.size : Int) % 256), .int .u8 ((s.size : Int) / 256)] 5)) (by simp [go_sem]) (by simp [go_sem])
  have hcat : ¬ 9223372036854775807 < (bsOf (leB 2 s.size)).size + s.size := by rw [bsOf_size, leB_length]; omega
  clear HQ
  go_enter Tryz.func104, Tryz.ntmps104
  go_wp2
  go_ret2
  exact ⟨by rw [bsOf_app]; rfl, alloc_old w _⟩
end Go.Proofs.YtdjgkmpjhpnkeaaGreatDoor
