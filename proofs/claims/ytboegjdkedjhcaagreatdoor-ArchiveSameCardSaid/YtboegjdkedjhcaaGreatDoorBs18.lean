/- The walk of resolve.Refs. -/
import Derived.Test.YtboegjdkedjhcaaGreatDoorBs13
import Derived.Test.YtboegjdkedjhcaaGreatDoorBs04
import Derived.Test.YtboegjdkedjhcaaGreatDoorBs07
namespace Go.Proofs.YtboegjdkedjhcaaGreatDoor
set_option maxRecDepth 100000
open Go.RowKit Go.Maps Go.WideMaps
set_option maxHeartbeats 1000000 in
theorem refs_bad (v : Value) (l : List GObj) (a b : Int) (w : World) (h : ObjsAt w v l) (hc : (beginR l).2 ≠ 0) :
 Calls Tryz.prog 147 #[v, .agg #[.int .i64 a, .int .i64 b]] w (RefsPost w [] (beginR l).1 (beginR l).2) := by
 have HK := Lib.hid (begin_any v l (w.alloc (.cells #[.int .i64 a, .int .i64 b] 185)) (ObjsAt.keep (alloc_old w _) h)); clear h; have hcb : ((beginR l).2 != 0) = true := by simpa using hc
 have HC := Lib.hid hc; clear hc; go_enter Tryz.func147, Tryz.ntmps147; go_wp2_with fail; refine HK.out.mono ?_; rintro e w1 ⟨hcase, hB⟩; rcases hcase with ⟨c, hb2, hc0, rfl⟩ | ⟨hb2, hb1, rb, rfl, hres⟩
 ·subst hb2; go_wp2_with fail; go_ret3; exact ⟨_, rfl, rowAt_nil, (alloc_old w _).trans (hB.mono (by simp))⟩
 ·exact absurd hb2 HC.out
set_option maxHeartbeats 2000000 in
theorem refs_out (v : Value) (l : List GObj) (a b : Int) (w : World) (h : ObjsAt w v l) (hc : (beginR l).2 = 0) (hh : hasR l a b = false) :
 Calls Tryz.prog 147 #[v, .agg #[.int .i64 a, .int .i64 b]] w (RefsPost w [] emptyB 2) := by
 have HK := Lib.hid (begin_any v l (w.alloc (.cells #[.int .i64 a, .int .i64 b] 185)) (ObjsAt.keep (alloc_old w _) h)); have HC := Lib.hid hc; clear hc; have HH := Lib.hid hh; clear hh; obtain ⟨p, cap, bb, o, rfl, hcap, hmax, hp, hcc⟩ := h; have HP := Lib.hid hp; clear hp; have HCC := Lib.hid hcc; clear hcc; go_enter Tryz.func147, Tryz.ntmps147; go_wp2_with fail; refine HK.out.mono ?_; rintro e w1 ⟨hcase, hB⟩; rcases hcase with ⟨c, hb2, hc0, rfl⟩ | ⟨hb2, hb1, rb, rfl, hres⟩
 ·exact absurd (hb2.symm.trans HC.out) hc0
 clear hb2 hb1 hres HK; have p0 : w1.cell? ⟨w.heap.size, 0, none⟩ = some (.int .i64 a) := cell_keep hB (by simp) (by simp [go_sem])
 have p1 : w1.cell? ⟨w.heap.size, 1, none⟩ = some (.int .i64 b) := cell_keep hB (by simp) (by simp [go_sem])
 have hz1 : w.heap.size < w1.heap.size := by have := hB.size; (try simp at this); omega
 have HB : Hid (Below w.heap.size w w1) := (alloc_old w _).trans (hB.mono (by simp))
 clear hB
 by_cases h1 : a < 0
 ·have d1 : decide (a < 0) = true := by simpa using h1
  go_wp2_with fail
  go_quiet (fail)
  go_wp2; go_ret3; exact ⟨_, rfl, rowAt_nil, below_drewN HB.out _⟩
 have d1 : decide (a < 0) = false := by simpa using h1
 by_cases h2 : (l.length : Int) ≤ a
 ·have d2 : decide ((l.length : Int) ≤ a) = true := by simpa using h2
  go_wp2_with fail
  go_quiet (fail)
  go_wp2; go_ret3; exact ⟨_, rfl, rowAt_nil, below_drewN HB.out _⟩
 have d2 : decide ((l.length : Int) ≤ a) = false := by simpa using h2
 by_cases h3 : b < 0
 ·have d3 : decide (b < 0) = true := by simpa using h3
  go_wp2_with fail
  go_quiet (fail)
  go_wp2; go_ret3; exact ⟨_, rfl, rowAt_nil, below_drewN HB.out _⟩
 have d3 : decide (b < 0) = false := by simpa using h3
 obtain ⟨an, rfl⟩ := Int.eq_ofNat_of_zero_le (show 0 ≤ a by omega)
 obtain ⟨bn, rfl⟩ := Int.eq_ofNat_of_zero_le (show 0 ≤ b by omega)
 have hal : an < l.length := by omega
 obtain rfl := HP.out (by omega)
 obtain ⟨vs, g0, -, g2, ⟨pS, capS, bS, oS, rfl, -⟩, -⟩ := HCC.out an hal; have hnb : ¬ bn < l[an].syms.length := by have := HH.out; rw [hasR_at hal] at this; simpa using this
 generalize l[an].syms.length = nS at g2 hnb; have d4 : decide ((nS : Int) ≤ (bn : Int)) = true := by simp; omega
 replace g2 := cell_keep HB.out g0 g2; replace g0 := size_keep HB.out g0; go_wp2_with fail
 go_quiet (fail)
 go_wp2; go_ret3; exact ⟨_, rfl, rowAt_nil, below_drewN HB.out _⟩
theorem Resolver.keep {w w' : World} {rb : Nat} {v : Value} {l : List GObj} (hb : Below w.heap.size w w') (h : Resolver w rb v l) : Resolver w' rb v l := by
 obtain ⟨tb, nt, r0, r1, hm, hrb⟩ := h; exact ⟨tb, nt, cell_keep hb hrb r0, cell_keep hb hrb r1, hm.below hb hm.lt, size_keep hb hrb⟩
set_option maxHeartbeats 4000000 in
theorem refs_in (v : Value) (l : List GObj) (a b : Nat) (w : World) (h : ObjsAt w v l) (hc : (beginR l).2 = 0) (ha : a < l.length) (hb : b < l[a].syms.length) :
 Calls Tryz.prog 147 #[v, .agg #[.int .i64 a, .int .i64 b]] w (RefsPost w (refsGo l a [] l[a].syms[b].rels).1 (refsGo l a [] l[a].syms[b].rels).2.1 (refsGo l a [] l[a].syms[b].rels).2.2) := by
 have HK := Lib.hid (begin_any v l (w.alloc (.cells #[.int .i64 a, .int .i64 b] 185)) (ObjsAt.keep (alloc_old w _) h)); have HO := Lib.hid h; have hrl := relsP_le (beginR_zero hc).1 ha hb; obtain ⟨p, cap, bb, o, rfl, hcap, hmax, hp, hcc⟩ := h; have HC := Lib.hid hc; clear hc; obtain rfl := hp (by omega)
 obtain ⟨vs, g0, -, g2, ⟨pS, capS, bS, oS, rfl, hcapS, hmaxS, hpS, hcS⟩, -⟩ := hcc a ha; obtain rfl := hpS (by omega)
 obtain ⟨vr, vn, s0, -, -, -, -, -, s6, -, ⟨pR, capR, bR, oR, rfl, hcapR, hmaxR, hpR, hcR⟩, -⟩ := hcS b hb; clear hcc hp hpS hcS; generalize l[a].syms[b].rels = rs at *; generalize l[a].syms.length = nS at *; have G0 := Lib.hid g0; have G2 := Lib.hid g2; have S0 := Lib.hid s0; have S6 := Lib.hid s6; have HCR := Lib.hid hcR; have HPR := Lib.hid hpR; clear g0 g2 s0 s6 hcR hpR; obtain ⟨i0, hin0, hz0, hz1, hz2⟩ := info_parts info_place; have HI0 := Lib.hid hin0; have HZ0 := Lib.hid hz0; have HZ1 := Lib.hid hz1; have HZ2 := Lib.hid hz2; clear hin0 hz0 hz1 hz2; go_enter Tryz.func147, Tryz.ntmps147; go_wp2_with fail; refine HK.out.mono ?_; rintro e w1 ⟨hcase, hB⟩; rcases hcase with ⟨c, hb2, hc0, rfl⟩ | ⟨hb2, hb1, rb, rfl, hres⟩
 ·exact absurd (hb2.symm.trans HC.out) hc0
 clear hb2 hb1 HC; have HRES := Lib.hid hres; clear hres; have p0 : w1.cell? ⟨w.heap.size, 0, none⟩ = some (.int .i64 a) := cell_keep hB (by simp) (by simp [go_sem])
 have p1 : w1.cell? ⟨w.heap.size, 1, none⟩ = some (.int .i64 b) := cell_keep hB (by simp) (by simp [go_sem])
 have hz1 : w.heap.size < w1.heap.size := by have := hB.size; (try simp at this); omega
 have HB : Hid (Below w.heap.size w w1) := (alloc_old w _).trans (hB.mono (by simp))
 clear hB HK; have g2 := cell_keep HB.out G0.out G2.out; have g0 := size_keep HB.out G0.out; have s6 := cell_keep HB.out S0.out S6.out; have s0 := size_keep HB.out S0.out; have d1 : decide ((a : Int) < 0) = false := by simp
 have d2 : decide ((l.length : Int) ≤ (a : Int)) = false := by simpa using ha
 have d3 : decide ((b : Int) < 0) = false := by simp
 have d4 : decide ((nS : Int) ≤ (b : Int)) = false := by simpa using hb
 have d5 : decide (l.length ≤ a) = false := by simpa using ha
 have d6 : decide (nS ≤ b) = false := by simpa using hb
 go_wp2_with fail
 go_quiet (fail)
 rename_i nq; have HB2 : Hid (Below w.heap.size w (w1.drewN nq)) := below_drewN HB.out nq; have HRES2 : Hid (Resolver (w1.drewN nq) rb (.slice (some ⟨bb, o, none⟩) l.length cap) l) := Resolver.keep (below_drewN (Below.refl _ _) nq) HRES.out; replace p0 : (w1.drewN nq).cell? ⟨w.heap.size, 0, none⟩ = some (.int .i64 a) := p0; replace p1 : (w1.drewN nq).cell? ⟨w.heap.size, 1, none⟩ = some (.int .i64 b) := p1; replace hz1 : w.heap.size < (w1.drewN nq).heap.size := hz1; clear g0 g2 s0 s6 HB HRES; generalize w1.drewN nq = w2 at *; have g2 := cell_keep HB2.out G0.out G2.out; have g0 := size_keep HB2.out G0.out; have s6 := cell_keep HB2.out S0.out S6.out; have s0 := size_keep HB2.out S0.out; go_wp2
 go_quiet (fail)
 go_wp2; have HB3 : Hid (Below w.heap.size w (w2.drewN nq)) := below_drewN HB2.out nq; have HRES : Hid (Resolver (w2.drewN nq) rb (.slice (some ⟨bb, o, none⟩) l.length cap) l) := Resolver.keep (below_drewN (Below.refl _ _) nq) HRES2.out; replace p0 : (w2.drewN nq).cell? ⟨w.heap.size, 0, none⟩ = some (.int .i64 a) := p0; have P0 := Lib.hid p0; have hz3 : w.heap.size < (w2.drewN nq).heap.size := hz1; clear p0 p1 g0 g2 s0 s6 hz1 HB2 HRES2 G0 G2 S0 S6 d1 d2 d3 d4 d5 d6; generalize w2.drewN nq = w3 at *
 go_loopw [10, 64] (fun v10 v64 wr => ∃ (j : Nat) (acc : List (Nat × Nat)), j ≤ rs.length ∧ v64 = .int .i64 j ∧ acc.length = j ∧ refsGo l a acc (rs.drop j) = refsGo l a [] rs ∧ PRow w3.heap.size wr v10 acc ∧ Below w3.heap.size w3 wr) (fun _ v64 _ => rs.length - (intOf v64).toNat)
 case atStart => exact ⟨0, [], Nat.zero_le _, rfl, rfl, rfl, PRow.nil _ _, Below.refl _ _⟩
 case round =>
  obtain ⟨j, acc, hj, rfl, hal, hgo, hown, hbel⟩ := hrel; have HGO := Lib.hid hgo; clear hgo; have HOWN := Lib.hid hown; clear hown; have HBW := Lib.hid hbel; clear hbel; have HBV : Hid (Below w.heap.size w wr) := HB3.out.trans (HBW.out.mono HB3.out.size)
  by_cases hlt : j < rs.length
  ·obtain rfl := HPR.out (by omega)
   obtain ⟨s0, s1, s2, s3, s4, -, -, -, hnm⟩ := relR_keeps _ _ _ _ _ HBV.out (HCR.out j hlt); generalize hx : rs[j] = x at s1 s2 s3 s4 hnm; obtain ⟨xo, xk, xn, xa⟩ := x; simp only [] at s1 s2 s3 s4 hnm; have HX := Lib.hid hx; clear hx; have t0 : wr.cell? ⟨w.heap.size, 0, none⟩ = some (.int .i64 a) := cell_keep HBW.out hz3 P0.out; have hzr : w.heap.size < wr.heap.size := size_keep HBW.out hz3; have hne0 : ¬ wr.heap.size = w.heap.size := by omega
   have HF := Lib.hid (findPos rb (.slice (some ⟨bb, o, none⟩) l.length cap) l a xn (wr.alloc (.cells #[.int .u32 xo, .int .u8 xk, .string xn, .int .u32 xa] 133)) (Resolver.keep (HBW.out.alloc HBW.out.size _) HRES.out) (ObjsAt.keep (HBV.out.alloc HBV.out.size _) HO.out) (by omega) ha)
   have HYS := Lib.hid (fun q => refsGo_yes (p := q) hlt HX.out HGO.out)
   have HNS := Lib.hid (refsGo_no hlt HX.out HGO.out); simp only [] at HYS HNS; generalize findR l a xn.data.toList = fp at HF HYS HNS; rw [placeRet_eq] at HF; cases fp with
   | none =>
     have HNE := Lib.hid (HNS.out rfl); simp only [Option.getD_none, Option.isSome_none] at HF; go_wp2_with (go_at_call 149; refine HF.out.mono ?_; rintro e w' ⟨rfl, hB⟩; have q0 : w'.cell? ⟨wr.heap.size, 2, none⟩ = some (.string xn) := cell_keep hB (by simp) (by simp [go_sem]); have hzw : wr.heap.size < w'.heap.size := (by have := hB.size; (try simp at this); omega); have HBX : Hid (Below wr.heap.size wr w') := (alloc_old wr _).trans (hB.mono (by simp)); clear hB)
     go_quiet (fail)
     go_wp2; go_ret3; rw [HNE.out]; exact ⟨_, rfl, rowAt_nil, below_drewN ((HBV.out.trans (HBX.out.mono HBV.out.size)).alloc (Nat.le_trans HBV.out.size HBX.out.size) _) _⟩
   | some pq =>
     obtain ⟨pa, pb⟩ := pq; have HYE := Lib.hid (HYS.out (pa, pb) rfl); simp only [Option.getD_some, Option.isSome_some] at HF; go_wp2_with (first | (go_at_call 149; refine HF.out.mono ?_; rintro e w' ⟨rfl, hB⟩; have HBX : Hid (Below wr.heap.size wr w') := (alloc_old wr _).trans (hB.mono (by simp)); clear hB) | (at_builtin; refine wpList_append_own _ rfl _ _ 134 rfl w3.heap.size 185 i0 (.agg #[.int .i64 0, .int .i64 0]) 2 16 Tryz.underlying134 HI0.out HZ0.out HZ1.out HZ2.out rfl (by decide) _ acc.length (placeCells acc) rfl ?c0 _ 1 1 [.int .i64 pa, .int .i64 pb] rfl rfl ?c1 two_one ?c3 ?c4 ?c5 ?_))
     case c0 => exact PRow.keep ((HBX.out.alloc HBX.out.size _).alloc (by have := HBX.out.size; simp; omega) _) HOWN.out
     case c1 => exact two_news (by simp [go_sem]) (by simp [go_sem])
     case c3 => unfold maxLen; omega
     case c4 => omega
     case c5 => have := HBW.out.size; have := HBX.out.size; simp; omega
     intro v3 w4 hown3 hgrow3 _; rw [← hal] at hown3; have HOW3 := Lib.hid (PRow.snoc hown3); clear hown3; have HBY := Lib.hid ((HBW.out.trans (HBX.out.mono HBW.out.size)).alloc (Nat.le_trans HBW.out.size HBX.out.size) (.cells #[.int .i64 pa, .int .i64 pb] 185)); have HB4 : Hid (Below w3.heap.size w3 w4) := (HBY.out.alloc (by have := HBW.out.size; have := HBX.out.size; simp; omega) _).grown hgrow3 (by have := HBW.out.size; have := HBX.out.size; simp; omega) (fun q e => (World.ownsRow.lt HOWN.out q e).1)
     clear hgrow3; go_wp2; go_roundw
     case rel => exact ⟨j + 1, _, by omega, by go_num, by simp [hal], HYE.out, HOW3.out, HB4.out⟩
     case measure => simp [intOf]; omega
  ·have hgo := refsGo_end hlt HGO.out; have HRW := Lib.hid (PRow.row HOWN.out (by omega))
   have HGE := Lib.hid hgo; clear hgo; go_wp2; go_ret3; rw [HGE.out]; exact ⟨_, rfl, HRW.out, HBV.out⟩
theorem refs_any (v : Value) (l : List GObj) (a b : Int) (w : World) (h : ObjsAt w v l) :
 Calls Tryz.prog 147 #[v, .agg #[.int .i64 a, .int .i64 b]] w (RefsPost w (refsV (beginR l) l a b).1 (refsV (beginR l) l a b).2.1 (refsV (beginR l) l a b).2.2) := by
 unfold refsV
 by_cases hc : (beginR l).2 = 0
 ·rw [if_neg (by simpa using hc)]
  cases hh : hasR l a b with
  | false => exact refs_out v l a b w h hc hh
  | true =>
    obtain ⟨an, bn, ha, rfl, rfl, hb⟩ := hasR_yes hh; rw [if_pos rfl, Int.toNat_natCast, Int.toNat_natCast, relsAt_eq ha hb]; exact refs_in v l an bn w h hc ha hb
 ·rw [if_pos hc]; exact refs_bad v l a b w h hc
end Go.Proofs.YtboegjdkedjhcaaGreatDoor
