/- The walks of aediculeref08.SameSym and Same where both are one. resolve.begin, whatever the objects, and the walk of resolve.Check. The walk of link.perm: a map literal. -/
import Derived.Test.YtboegjdkedjhcaaGreatDoorBd17
import Derived.Test.YtboegjdkedjhcaaGreatDoorBd16
import Derived.StillTailTactics
import Derived.Test.YtboegjdkedjhcaaGreatDoorBd14
import Derived.Test.YtboegjdkedjhcaaGreatDoorRows
import Derived.Maps.Keyed
import Derived.Lib.Hide
namespace Go.Proofs.YtboegjdkedjhcaaGreatDoor
open Go.RowKit Go.Maps Go.WideMaps
set_option maxRecDepth 100000 in
set_option maxHeartbeats 2000000 in
theorem sameSym_any (s : GSym) (vr vn vr2 vn2 : Value) (w : World) (h1 : SymIn w s vr vn) (h2 : SymIn w s vr2 vn2) :
    Calls Tryz.prog 103 #[.agg #[.string s.name, .int .u8 s.bind, .int .u8 s.kind, .int .u32 s.size, .string s.bytes, vr, vn], .agg #[.string s.name, .int .u8 s.bind, .int .u8 s.kind, .int .u32 s.size, .string s.bytes, vr2, vn2]] w fun e w' => e = .returned (.bool true) ∧ Below w.heap.size w w' := by
  obtain ⟨yn, yb, yk, ys, yy, yr, yt⟩ := s
  obtain ⟨⟨p1, c1, b1, o1, rfl, hc1, hm1, hp1, hr1⟩, ⟨p2, c2, b2, o2, rfl, hc2, hm2, hp2, hr2⟩, -⟩ := h1
  obtain ⟨⟨p3, c3, b3, o3, rfl, hc3, -, hp3, hr3⟩, ⟨p4, c4, b4, o4, rfl, hc4, -, hp4, hr4⟩, -⟩ := h2
  simp only [] at *
  have HP1 := Lib.hid hp1; clear hp1
  have HP2 := Lib.hid hp2; clear hp2
  have HP3 := Lib.hid hp3; clear hp3
  have HP4 := Lib.hid hp4; clear hp4
  have HR1 := Lib.hid hr1; clear hr1
  have HR2 := Lib.hid hr2; clear hr2
  have HR3 := Lib.hid hr3; clear hr3
  have HR4 := Lib.hid hr4; clear hr4
  go_enter Tryz.func103, Tryz.ntmps103
  go_wp2
  generalize hW0 : (w.alloc (.cells #[.string yn, .int .u8 yb, .int .u8 yk, .int .u32 ys, .string yy, .slice p1 yr.length c1, .slice p2 yt.length c2] 55)).alloc (.cells #[.string yn, .int .u8 yb, .int .u8 yk, .int .u32 ys, .string yy, .slice p3 yr.length c3, .slice p4 yt.length c4] 55) = w0
  have HB0 : Hid (Below w.heap.size w w0) := by subst hW0; exact (alloc_old w _).alloc (by simp) _
  have hs0 : w.heap.size + 1 < w0.heap.size := by subst hW0; simp
  have HA5 : Hid (w0.cell? ⟨w.heap.size, 5, none⟩ = some (.slice p1 yr.length c1)) := by subst hW0; simp [Hid, go_sem]
  have HA6 : Hid (w0.cell? ⟨w.heap.size, 6, none⟩ = some (.slice p2 yt.length c2)) := by subst hW0; simp [Hid, go_sem]
  have HA7 : Hid (w0.cell? ⟨w.heap.size + 1, 5, none⟩ = some (.slice p3 yr.length c3)) := by subst hW0; simp [Hid, go_sem]
  have HA8 : Hid (w0.cell? ⟨w.heap.size + 1, 6, none⟩ = some (.slice p4 yt.length c4)) := by subst hW0; simp [Hid, go_sem]
  clear hW0
  go_loopw [5] (fun v5 wr => ∃ i : Nat, i ≤ yr.length ∧ v5 = .int .i64 i ∧ Below w0.heap.size w0 wr) (fun v5 _ => yr.length - (intOf v5).toNat)
  case atStart => exact ⟨0, Nat.zero_le _, rfl, Below.refl _ _⟩
  case round =>
    obtain ⟨i, hi, rfl, hbel⟩ := hrel
    have HB := Lib.hid hbel; clear hbel
    have HBW : Hid (Below w.heap.size w wr) := HB0.out.trans (HB.out.mono HB0.out.size)
    have a5 := cell_keep HB.out (by omega) HA5.out
    have a7 := cell_keep HB.out (by omega) HA7.out
    have z1 : w.heap.size + 1 < wr.heap.size := size_keep HB.out hs0
    have z0 : w.heap.size < wr.heap.size := by omega
    by_cases hlt : i < yr.length
    · obtain rfl := HP1.out (by omega)
      obtain rfl := HP3.out (by omega)
      obtain ⟨g0, g1, g2, g3, g4, -⟩ := relR_keeps _ _ _ _ _ HBW.out (HR1.out i hlt)
      obtain ⟨k0, k1, k2, k3, k4, -⟩ := relR_keeps _ _ _ _ _ HBW.out (HR3.out i hlt)
      generalize yr[i] = x at g1 g2 g3 g4 k1 k2 k3 k4
      obtain ⟨x1, x2, x3, x4⟩ := x
      simp only [] at g1 g2 g3 g4 k1 k2 k3 k4
      go_wp2
      go_quiet (fail)
      go_wp2
      go_roundw
      case rel => exact ⟨i + 1, by omega, by go_num, below_drewN HB.out _⟩
      case measure => simp [intOf]; omega
    · go_wp2
      clear a5 a7
      obtain ⟨wo, rfl⟩ : ∃ wo : World, wo = wr := ⟨_, rfl⟩
      go_loopw [6] (fun v6 wr => ∃ i : Nat, i ≤ yt.length ∧ v6 = .int .i64 i ∧ Below w0.heap.size w0 wr) (fun v6 _ => yt.length - (intOf v6).toNat)
      case atStart => exact ⟨0, Nat.zero_le _, rfl, HB.out⟩
      case round =>
        clear HB HBW z0 z1
        obtain ⟨k, hk, rfl, hbel⟩ := hrel
        have HB := Lib.hid hbel; clear hbel
        have HBW : Hid (Below w.heap.size w wr) := HB0.out.trans (HB.out.mono HB0.out.size)
        have a6 := cell_keep HB.out (by omega) HA6.out
        have a8 := cell_keep HB.out (by omega) HA8.out
        have z1 : w.heap.size + 1 < wr.heap.size := size_keep HB.out hs0
        have z0 : w.heap.size < wr.heap.size := by omega
        by_cases hlk : k < yt.length
        · obtain rfl := HP2.out (by omega)
          obtain rfl := HP4.out (by omega)
          obtain ⟨g0, g1, g2, g3, -⟩ := noteR_keeps _ _ _ _ _ HBW.out (HR2.out k hlk)
          obtain ⟨k0, k1, k2, k3, -⟩ := noteR_keeps _ _ _ _ _ HBW.out (HR4.out k hlk)
          generalize yt[k] = x at g1 g2 g3 k1 k2 k3
          obtain ⟨x1, x2, x3⟩ := x
          simp only [] at g1 g2 g3 k1 k2 k3
          go_wp2
          go_quiet (fail)
          go_wp2
          go_roundw
          case rel => exact ⟨k + 1, by omega, by go_num, below_drewN HB.out _⟩
          case measure => simp [intOf]; omega
        · go_wp2
          go_ret
          exact ⟨rfl, HBW.out⟩
set_option maxRecDepth 100000 in
set_option maxHeartbeats 2000000 in
theorem sameObj_any (x : GObj) (vs vs2 : Value) (w : World) (h1 : ObjIn w x vs) (h2 : ObjIn w x vs2) :
    Calls Tryz.prog 62 #[.agg #[.string x.name, vs], .agg #[.string x.name, vs2]] w fun e w' => e = .returned (.bool true) ∧ Below w.heap.size w w' := by
  obtain ⟨xn, xs⟩ := x
  obtain ⟨⟨p1, c1, b1, o1, rfl, hc1, hm1, hp1, hr1⟩, -⟩ := h1
  obtain ⟨⟨p3, c3, b3, o3, rfl, hc3, -, hp3, hr3⟩, -⟩ := h2
  simp only [] at *
  have HP1 := Lib.hid hp1; clear hp1
  have HP3 := Lib.hid hp3; clear hp3
  have HR1 := Lib.hid hr1; clear hr1
  have HR3 := Lib.hid hr3; clear hr3
  go_enter Tryz.func62, Tryz.ntmps62
  go_wp2
  generalize hW0 : (w.alloc (.cells #[.string xn, .slice p1 xs.length c1] 50)).alloc (.cells #[.string xn, .slice p3 xs.length c3] 50) = w0
  have HB0 : Hid (Below w.heap.size w w0) := by subst hW0; exact (alloc_old w _).alloc (by simp) _
  have hs0 : w.heap.size + 1 < w0.heap.size := by subst hW0; simp
  have HA5 : Hid (w0.cell? ⟨w.heap.size, 1, none⟩ = some (.slice p1 xs.length c1)) := by subst hW0; simp [Hid, go_sem]
  have HA7 : Hid (w0.cell? ⟨w.heap.size + 1, 1, none⟩ = some (.slice p3 xs.length c3)) := by subst hW0; simp [Hid, go_sem]
  clear hW0
  go_loopw [5] (fun v5 wr => ∃ i : Nat, i ≤ xs.length ∧ v5 = .int .i64 i ∧ Below w0.heap.size w0 wr) (fun v5 _ => xs.length - (intOf v5).toNat)
  case atStart => exact ⟨0, Nat.zero_le _, rfl, Below.refl _ _⟩
  case round =>
    obtain ⟨i, hi, rfl, hbel⟩ := hrel
    have HB := Lib.hid hbel; clear hbel
    have HBW : Hid (Below w.heap.size w wr) := HB0.out.trans (HB.out.mono HB0.out.size)
    have a5 := cell_keep HB.out (by omega) HA5.out
    have a7 := cell_keep HB.out (by omega) HA7.out
    have z1 : w.heap.size + 1 < wr.heap.size := size_keep HB.out hs0
    have z0 : w.heap.size < wr.heap.size := by omega
    by_cases hlt : i < xs.length
    · obtain rfl := HP1.out (by omega)
      obtain rfl := HP3.out (by omega)
      obtain ⟨vr, vn, g0, g1, g2, g3, g4, g5, g6, g7, gin⟩ := symR_keeps _ _ _ _ _ HBW.out (HR1.out i hlt)
      obtain ⟨ur, un, k0, k1, k2, k3, k4, k5, k6, k7, kin⟩ := symR_keeps _ _ _ _ _ HBW.out (HR3.out i hlt)
      obtain ⟨q1, n1, q2, n2, rfl, rfl⟩ := gin.shape
      obtain ⟨q3, n3, q4, n4, rfl, rfl⟩ := kin.shape
      generalize xs[i] = x at g1 g2 g3 g4 g5 g6 g7 k1 k2 k3 k4 k5 k6 k7 gin kin
      have HCS := Lib.hid (sameSym_any x _ _ _ _ wr.drew (SymIn.keep (Below.refl _ _).drew gin) (SymIn.keep (Below.refl _ _).drew kin))
      clear gin kin
      obtain ⟨x1, x2, x3, x4, x5, x6, x7⟩ := x
      simp only [] at g1 g2 g3 g4 g5 g6 g7 k1 k2 k3 k4 k5 k6 k7 HCS
      go_wp2
      go_still_tail 10, (by kernel_rfl)
      change wpList _ _ _ _ _ wr.drew
      go_wp2_with (go_at_call 103; refine HCS.out.mono ?_; rintro e w2 ⟨rfl, hB2⟩)
      exact ⟨⟨i + 1, by omega, by go_num, HB.out.drew.trans (hB2.mono HB.out.size)⟩, by simp [intOf]; omega⟩
    · go_wp2
      go_ret
      exact ⟨rfl, HBW.out⟩
end Go.Proofs.YtboegjdkedjhcaaGreatDoor
namespace Go.Proofs.YtboegjdkedjhcaaGreatDoor
open Go.RowKit Go.Maps Go.WideMaps
/-- begin, whatever the objects: by what it answers -/
def BeginPost (v : Value) (l : List GObj) (w : World) (e : Ending) (w' : World) : Prop :=
  ((∃ c : Int, (beginR l).2 = c ∧ c ≠ 0 ∧ e = .returned (.tuple #[.pointer none, .string (beginR l).1, .int .i64 c])) ∨ ((beginR l).2 = 0 ∧ (beginR l).1 = emptyB ∧ ∃ rb, e = .returned (.tuple #[.pointer (some ⟨rb, 0, none⟩), .string emptyB, .int .i64 0]) ∧ Resolver w' rb v l)) ∧ Below w.heap.size w w'
theorem begin_any (v : Value) (l : List GObj) (w : World) (h : ObjsAt w v l) : Calls Tryz.prog 148 #[v] w (BeginPost v l w) := by
  by_cases hm : mayAll l = true
  · refine (begin_ok v l w h hm).mono fun e w' ⟨h1, h2⟩ => ⟨?_, h2⟩
    rcases h1 with ⟨n, hd, rfl⟩ | ⟨hd, rb, rfl, hr⟩
    · exact .inl ⟨120, by simp [beginR, hm, hd], by decide, by simp [beginR, hm, hd]⟩
    · exact .inr ⟨by simp [beginR, hm, hd], by simp [beginR, hm, hd], rb, rfl, hr⟩
  · have hm' : mayAll l = false := by simpa using hm
    refine (begin_bad v l w h hm').mono fun e w' ⟨h1, h2⟩ => ⟨?_, h2⟩
    subst h1
    exact .inl ⟨2, by simp [beginR, hm'], by decide, by simp [beginR, hm']⟩
set_option maxHeartbeats 1000000 in
theorem resCheck_any (v : Value) (l : List GObj) (w : World) (h : ObjsAt w v l) :
    Calls Tryz.prog 143 #[v] w fun e w' => e = .returned (.tuple #[.string (beginR l).1, .int .i64 (beginR l).2]) ∧ Below w.heap.size w w' := by
  have HBG := Lib.hid (begin_any v l w h); clear h
  go_enter Tryz.func143, Tryz.ntmps143
  go_wp2_with fail
  refine HBG.out.mono ?_
  rintro e w1 ⟨hcase, hB⟩
  rcases hcase with ⟨c, hb2, hc0, rfl⟩ | ⟨hb2, hb1, rb, rfl, hres⟩
  · have HB2 := Lib.hid hb2; clear hb2 hc0
    generalize hbn : (beginR l).1 = bn
    have HBN := Lib.hid hbn; clear hbn
    go_wp2_with fail
    go_ret2
    exact ⟨by rw [HB2.out, HBN.out]; rfl, hB⟩
  · have HB2 := Lib.hid hb2; clear hb2
    have HB1 := Lib.hid hb1; clear hb1 hres
    go_wp2_with fail
    go_ret2
    exact ⟨by rw [HB2.out, HB1.out]; rfl, hB⟩
end Go.Proofs.YtboegjdkedjhcaaGreatDoor
namespace Go.Proofs.YtboegjdkedjhcaaGreatDoor
open Go.RowKit Go.Maps Go.WideMaps
def u8E : KeyEnc Tryz.prog 5 Int where
  enc := fun a => .int .u8 a
  lit := fun a => .int .u8 a
  ok := fun a => (Lit.int .u8 a).wf = true
  key := fun a h => Maps.keyOf_int_mk Tryz.underlying5 h
  inj := fun a b e => by cases e; rfl
theorem u8Keyed : Keyed Tryz.prog 5 := Maps.int_keyed Tryz.underlying5
def permK (k : Int) : Int := if k = 1 then 5 else if k = 3 then 1 else if k = 2 then 3 else 0
set_option maxHeartbeats 400000 in
set_option maxRecDepth 100000 in
theorem perm_any (k : Int) (w : World) (h0 : 0 ≤ k) (h1 : k ≤ 255) :
    Calls Tryz.prog 158 #[.int .u8 k] w fun e w' => e = .returned (.int .u8 (permK k)) ∧ Below w.heap.size w w' := by
  have hmm := @run_makeMap Tryz.prog
  have hw : u8E.ok k := WalkArith.wf_u8 (by omega)
  have ht := Tryz.underlying311
  obtain ⟨w1, r1, m1, g1⟩ := (MapKFn.made u8E w).put u8Keyed ht (by unfold maxLen; omega) (a := 1) (WalkArith.wf_u8 (by omega)) (.int .u8 5)
  obtain ⟨w2, r2, m2, g2⟩ := m1.put u8Keyed ht (by unfold maxLen; omega) (a := 3) (WalkArith.wf_u8 (by omega)) (.int .u8 1)
  obtain ⟨w3, r3, m3, g3⟩ := m2.put u8Keyed ht (by unfold maxLen; omega) (a := 2) (WalkArith.wf_u8 (by omega)) (.int .u8 3)
  have r4 := m3.look u8Keyed ht (z := .int .u8 0) (by kernel_rfl) hw
  have e4 : ((if k = 2 then some (Value.int .u8 3) else if k = 3 then some (.int .u8 1) else if k = 1 then some (.int .u8 5) else none).getD (.int .u8 0)) = .int .u8 (permK k) := by
    unfold permK; repeat' split
    all_goals first | rfl | omega
  rw [e4] at r4
  have hB : Below w.heap.size w w3 := (((alloc_old w _).grown g1 (by simp) (fun q e => by cases e; simp)).grown g2 (by have := g1.size; simp at this; omega) (fun q e => by cases e; simp)).grown g3 (by have := g1.size; have := g2.size; simp at *; omega) (fun q e => by cases e; simp)
  have HB := Lib.hid hB
  change (Instr.mapUpdate 311 (.map (some w.heap.size)) (.int .u8 1) (.int .u8 5)).run _ _ = _ at r1
  change (Instr.mapUpdate 311 (.map (some w.heap.size)) (.int .u8 3) (.int .u8 1)).run _ _ = _ at r2
  change (Instr.mapUpdate 311 (.map (some w.heap.size)) (.int .u8 2) (.int .u8 3)).run _ _ = _ at r3
  change (Instr.lookup 311 (.map (some w.heap.size)) (.int .u8 k) false).run _ _ = _ at r4
  clear hB m1 m2 m3 g1 g2 g3 ht e4 hw
  go_enter Tryz.func158, Tryz.ntmps158
  go_wp2
  go_ret
  exact ⟨rfl, HB.out⟩
end Go.Proofs.YtboegjdkedjhcaaGreatDoor
