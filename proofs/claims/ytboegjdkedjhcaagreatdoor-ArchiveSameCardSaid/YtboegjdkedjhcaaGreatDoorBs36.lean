/- The walks of aediculeref08.May and aediculeref12.May. The walks of aediculeref08.SameSym and Same where both are one. The walks of aediculeref35.SameObjects, Same and May. -/
import Derived.Test.YtboegjdkedjhcaaGreatDoorBs31
import Derived.Test.YtboegjdkedjhcaaGreatDoorBs01
import Derived.Deep.QuietTactic
import Derived.BigQuiet
import Derived.Test.YtboegjdkedjhcaaGreatDoorBs06
import Derived.Test.YtboegjdkedjhcaaGreatDoorBs04
import Derived.StillTailTactics
import Derived.Test.YtboegjdkedjhcaaGreatDoorBs28
namespace Go.Proofs.YtboegjdkedjhcaaGreatDoor
set_option maxRecDepth 100000
section
open Go.RowKit
end
section
open Go.RowKit Go.Maps Go.WideMaps
set_option maxHeartbeats 2000000 in
theorem sameSym_any (s : GSym) (vr vn vr2 vn2 : Value) (w : World) (h1 : SymIn w s vr vn) (h2 : SymIn w s vr2 vn2) :
 Calls Tryz.prog 103 #[.agg #[.string s.name, .int .u8 s.bind, .int .u8 s.kind, .int .u32 s.size, .string s.bytes, vr, vn], .agg #[.string s.name, .int .u8 s.bind, .int .u8 s.kind, .int .u32 s.size, .string s.bytes, vr2, vn2]] w fun e w' => e = .returned (.bool true) ∧ Below w.heap.size w w' := by
 obtain ⟨yn, yb, yk, ys, yy, yr, yt⟩ := s; obtain ⟨⟨p1, c1, b1, o1, rfl, hc1, hm1, hp1, hr1⟩, ⟨p2, c2, b2, o2, rfl, hc2, hm2, hp2, hr2⟩, -⟩ := h1; obtain ⟨⟨p3, c3, b3, o3, rfl, hc3, -, hp3, hr3⟩, ⟨p4, c4, b4, o4, rfl, hc4, -, hp4, hr4⟩, -⟩ := h2; simp only [] at *; have HP1 := Lib.hid hp1; clear hp1; have HP2 := Lib.hid hp2; clear hp2; have HP3 := Lib.hid hp3; clear hp3; have HP4 := Lib.hid hp4; clear hp4; have HR1 := Lib.hid hr1; clear hr1; have HR2 := Lib.hid hr2; clear hr2; have HR3 := Lib.hid hr3; clear hr3; have HR4 := Lib.hid hr4; clear hr4; go_enter Tryz.func103, Tryz.ntmps103; go_wp2; generalize hW0 : (w.alloc (.cells #[.string yn, .int .u8 yb, .int .u8 yk, .int .u32 ys, .string yy, .slice p1 yr.length c1, .slice p2 yt.length c2] 55)).alloc (.cells #[.string yn, .int .u8 yb, .int .u8 yk, .int .u32 ys, .string yy, .slice p3 yr.length c3, .slice p4 yt.length c4] 55) = w0; have HB0 : Hid (Below w.heap.size w w0) := by subst hW0; exact (alloc_old w _).alloc (by simp) _
 have hs0 : w.heap.size + 1 < w0.heap.size := by subst hW0; simp
 have HA5 : Hid (w0.cell? ⟨w.heap.size, 5, none⟩ = some (.slice p1 yr.length c1)) := by subst hW0; simp [Hid, go_sem]
 have HA6 : Hid (w0.cell? ⟨w.heap.size, 6, none⟩ = some (.slice p2 yt.length c2)) := by subst hW0; simp [Hid, go_sem]
 have HA7 : Hid (w0.cell? ⟨w.heap.size + 1, 5, none⟩ = some (.slice p3 yr.length c3)) := by subst hW0; simp [Hid, go_sem]
 have HA8 : Hid (w0.cell? ⟨w.heap.size + 1, 6, none⟩ = some (.slice p4 yt.length c4)) := by subst hW0; simp [Hid, go_sem]
 clear hW0
 go_loopw [5] (fun v5 wr => ∃ i : Nat, i ≤ yr.length ∧ v5 = .int .i64 i ∧ Below w0.heap.size w0 wr) (fun v5 _ => yr.length - (intOf v5).toNat)
 case atStart => exact ⟨0, Nat.zero_le _, rfl, Below.refl _ _⟩
 case round =>
  obtain ⟨i, hi, rfl, hbel⟩ := hrel; have HB := Lib.hid hbel; clear hbel; have HBW : Hid (Below w.heap.size w wr) := HB0.out.trans (HB.out.mono HB0.out.size); have a5 := cell_keep HB.out (by omega) HA5.out
  have a7 := cell_keep HB.out (by omega) HA7.out
  have z1 : w.heap.size + 1 < wr.heap.size := size_keep HB.out hs0; have z0 : w.heap.size < wr.heap.size := by omega
  by_cases hlt : i < yr.length
  ·obtain rfl := HP1.out (by omega)
   obtain rfl := HP3.out (by omega)
   obtain ⟨g0, g1, g2, g3, g4, -⟩ := relR_keeps _ _ _ _ _ HBW.out (HR1.out i hlt); obtain ⟨k0, k1, k2, k3, k4, -⟩ := relR_keeps _ _ _ _ _ HBW.out (HR3.out i hlt); generalize yr[i] = x at g1 g2 g3 g4 k1 k2 k3 k4; obtain ⟨x1, x2, x3, x4⟩ := x; simp only [] at g1 g2 g3 g4 k1 k2 k3 k4; go_wp2
   go_quiet (fail)
   go_wp2; go_roundw
   case rel => exact ⟨i + 1, by omega, by go_num, below_drewN HB.out _⟩
   case measure => simp [intOf]; omega
  ·go_wp2; clear a5 a7; obtain ⟨wo, rfl⟩ : ∃ wo : World, wo = wr := ⟨_, rfl⟩
   go_loopw [6] (fun v6 wr => ∃ i : Nat, i ≤ yt.length ∧ v6 = .int .i64 i ∧ Below w0.heap.size w0 wr) (fun v6 _ => yt.length - (intOf v6).toNat)
   case atStart => exact ⟨0, Nat.zero_le _, rfl, HB.out⟩
   case round =>
    clear HB HBW z0 z1; obtain ⟨k, hk, rfl, hbel⟩ := hrel; have HB := Lib.hid hbel; clear hbel; have HBW : Hid (Below w.heap.size w wr) := HB0.out.trans (HB.out.mono HB0.out.size); have a6 := cell_keep HB.out (by omega) HA6.out
    have a8 := cell_keep HB.out (by omega) HA8.out
    have z1 : w.heap.size + 1 < wr.heap.size := size_keep HB.out hs0; have z0 : w.heap.size < wr.heap.size := by omega
    by_cases hlk : k < yt.length
    ·obtain rfl := HP2.out (by omega)
     obtain rfl := HP4.out (by omega)
     obtain ⟨g0, g1, g2, g3, -⟩ := noteR_keeps _ _ _ _ _ HBW.out (HR2.out k hlk); obtain ⟨k0, k1, k2, k3, -⟩ := noteR_keeps _ _ _ _ _ HBW.out (HR4.out k hlk); generalize yt[k] = x at g1 g2 g3 k1 k2 k3; obtain ⟨x1, x2, x3⟩ := x; simp only [] at g1 g2 g3 k1 k2 k3; go_wp2
     go_quiet (fail)
     go_wp2; go_roundw
     case rel => exact ⟨k + 1, by omega, by go_num, below_drewN HB.out _⟩
     case measure => simp [intOf]; omega
    ·go_wp2; go_ret; exact ⟨rfl, HBW.out⟩
set_option maxHeartbeats 2000000 in
theorem sameObj_any (x : GObj) (vs vs2 : Value) (w : World) (h1 : ObjIn w x vs) (h2 : ObjIn w x vs2) :
 Calls Tryz.prog 62 #[.agg #[.string x.name, vs], .agg #[.string x.name, vs2]] w fun e w' => e = .returned (.bool true) ∧ Below w.heap.size w w' := by
 obtain ⟨xn, xs⟩ := x; obtain ⟨⟨p1, c1, b1, o1, rfl, hc1, hm1, hp1, hr1⟩, -⟩ := h1; obtain ⟨⟨p3, c3, b3, o3, rfl, hc3, -, hp3, hr3⟩, -⟩ := h2; simp only [] at *; have HP1 := Lib.hid hp1; clear hp1; have HP3 := Lib.hid hp3; clear hp3; have HR1 := Lib.hid hr1; clear hr1; have HR3 := Lib.hid hr3; clear hr3; go_enter Tryz.func62, Tryz.ntmps62; go_wp2; generalize hW0 : (w.alloc (.cells #[.string xn, .slice p1 xs.length c1] 50)).alloc (.cells #[.string xn, .slice p3 xs.length c3] 50) = w0; have HB0 : Hid (Below w.heap.size w w0) := by subst hW0; exact (alloc_old w _).alloc (by simp) _
 have hs0 : w.heap.size + 1 < w0.heap.size := by subst hW0; simp
 have HA5 : Hid (w0.cell? ⟨w.heap.size, 1, none⟩ = some (.slice p1 xs.length c1)) := by subst hW0; simp [Hid, go_sem]
 have HA7 : Hid (w0.cell? ⟨w.heap.size + 1, 1, none⟩ = some (.slice p3 xs.length c3)) := by subst hW0; simp [Hid, go_sem]
 clear hW0
 go_loopw [5] (fun v5 wr => ∃ i : Nat, i ≤ xs.length ∧ v5 = .int .i64 i ∧ Below w0.heap.size w0 wr) (fun v5 _ => xs.length - (intOf v5).toNat)
 case atStart => exact ⟨0, Nat.zero_le _, rfl, Below.refl _ _⟩
 case round =>
  obtain ⟨i, hi, rfl, hbel⟩ := hrel; have HB := Lib.hid hbel; clear hbel; have HBW : Hid (Below w.heap.size w wr) := HB0.out.trans (HB.out.mono HB0.out.size); have a5 := cell_keep HB.out (by omega) HA5.out
  have a7 := cell_keep HB.out (by omega) HA7.out
  have z1 : w.heap.size + 1 < wr.heap.size := size_keep HB.out hs0; have z0 : w.heap.size < wr.heap.size := by omega
  by_cases hlt : i < xs.length
  ·obtain rfl := HP1.out (by omega)
   obtain rfl := HP3.out (by omega)
   obtain ⟨vr, vn, g0, g1, g2, g3, g4, g5, g6, g7, gin⟩ := symR_keeps _ _ _ _ _ HBW.out (HR1.out i hlt); obtain ⟨ur, un, k0, k1, k2, k3, k4, k5, k6, k7, kin⟩ := symR_keeps _ _ _ _ _ HBW.out (HR3.out i hlt); obtain ⟨q1, n1, q2, n2, rfl, rfl⟩ := gin.shape; obtain ⟨q3, n3, q4, n4, rfl, rfl⟩ := kin.shape; generalize xs[i] = x at g1 g2 g3 g4 g5 g6 g7 k1 k2 k3 k4 k5 k6 k7 gin kin; have HCS := Lib.hid (sameSym_any x _ _ _ _ wr.drew (SymIn.keep (Below.refl _ _).drew gin) (SymIn.keep (Below.refl _ _).drew kin)); clear gin kin; obtain ⟨x1, x2, x3, x4, x5, x6, x7⟩ := x; simp only [] at g1 g2 g3 g4 g5 g6 g7 k1 k2 k3 k4 k5 k6 k7 HCS; go_wp2
   go_still_tail 10, (by kernel_rfl)
   change wpList _ _ _ _ _ wr.drew; go_wp2_with (go_at_call 103; refine HCS.out.mono ?_; rintro e w2 ⟨rfl, hB2⟩); exact ⟨⟨i + 1, by omega, by go_num, HB.out.drew.trans (hB2.mono HB.out.size)⟩, by simp [intOf]; omega⟩
  ·go_wp2; go_ret; exact ⟨rfl, HBW.out⟩
end
section
open Go.RowKit Go.Maps
set_option maxHeartbeats 2000000 in
theorem sameObjs35_any (v1 v2 : Value) (l : List GObj) (w : World) (h1 : ObjsAt w v1 l) (h2 : ObjsAt w v2 l) :
 Calls Tryz.prog 18 #[v1, v2] w fun e w' => e = .returned (.bool true) ∧ Below w.heap.size w w' := by
 have HO1 := Lib.hid h1; have HO2 := Lib.hid h2; obtain ⟨p1, c1, b1, o1, rfl, hc1, hm1, hp1, -⟩ := h1; obtain ⟨p2, c2, b2, o2, rfl, hc2, -, hp2, -⟩ := h2; have HP1 := Lib.hid hp1; have HP2 := Lib.hid hp2; clear hp1 hp2; go_enter Tryz.func18, Tryz.ntmps18; go_wp2
 go_loopw [5] (fun v5 wr => ∃ k : Nat, k ≤ l.length ∧ v5 = .int .i64 k ∧ Below w.heap.size w wr) (fun v5 _ => l.length - (intOf v5).toNat)
 case atStart => exact ⟨0, Nat.zero_le _, rfl, Below.refl _ _⟩
 case round =>
  obtain ⟨k, hk, rfl, hbel⟩ := hrel; have HB := Lib.hid hbel; clear hbel
  by_cases hlt : k < l.length
  ·obtain rfl := HP1.out (by omega)
   obtain rfl := HP2.out (by omega)
   obtain ⟨_, _, _, _, e1, -, -, f1, hc1⟩ := ObjsAt.keep HB.out HO1.out; cases e1; cases f1 (by omega)
   obtain ⟨_, _, _, _, e2, -, -, f2, hc2⟩ := ObjsAt.keep HB.out HO2.out; cases e2; cases f2 (by omega)
   obtain ⟨vs, g0, g1, g2, hin1⟩ := hc1 k hlt; obtain ⟨us, k0, k1, k2, hin2⟩ := hc2 k hlt; clear hc1 hc2; generalize l[k] = x at g1 g2 hin1 k1 k2 hin2; have HCS := Lib.hid (sameObj_any x vs us wr.drew (ObjIn.keep (Below.refl _ _).drew hin1) (ObjIn.keep (Below.refl _ _).drew hin2)); obtain ⟨⟨pS, capS, bS, oS, rfl, -⟩, -⟩ := hin1; obtain ⟨⟨pT, capT, bT, oT, rfl, -⟩, -⟩ := hin2; obtain ⟨xn, xs⟩ := x; simp only [] at g1 g2 k1 k2 HCS; go_wp2
   go_still_tail 8, (by kernel_rfl)
   change wpList _ _ _ _ _ wr.drew; go_wp2_with (go_at_call 62; refine HCS.out.mono ?_; rintro e w2 ⟨rfl, hB2⟩); exact ⟨⟨k + 1, by omega, by go_num, HB.out.drew.trans (hB2.mono HB.out.size)⟩, by simp [intOf]; omega⟩
  ·go_wp2; go_ret; exact ⟨rfl, HB.out⟩
set_option maxHeartbeats 1000000 in
theorem same35_any (x : GArc) (v1 v2 : Value) (w : World) (h1 : ArcIn w x v1) (h2 : ArcIn w x v2) :
 Calls Tryz.prog 12 #[.agg #[.string x.name, v1], .agg #[.string x.name, v2]] w fun e w' => e = .returned (.bool true) ∧ Below w.heap.size w w' := by
 have hbb : Below w.heap.size w ((w.alloc (.cells #[.string x.name, v1] 24)).alloc (.cells #[.string x.name, v2] 24)) := (alloc_old w _).alloc (by simp) _
 have HS := Lib.hid (sameObjs35_any v1 v2 x.members _ (h1.1.keep hbb) (h2.1.keep hbb)); have HBB := Lib.hid hbb; obtain ⟨p1, c1, _, _, rfl, -⟩ := h1.1; obtain ⟨p2, c2, _, _, rfl, -⟩ := h2.1; clear h1 h2 hbb; obtain ⟨xn, xm⟩ := x; simp only [] at HS HBB; have bq : (xn.toList == xn.toList) = true := by simp
 go_enter Tryz.func12, Tryz.ntmps12; go_wp2_with (go_at_call 18; refine HS.out.mono ?_; rintro e w2 ⟨rfl, hB2⟩); go_ret; exact ⟨rfl, HBB.out.trans (hB2.mono HBB.out.size)⟩
end
end Go.Proofs.YtboegjdkedjhcaaGreatDoor
