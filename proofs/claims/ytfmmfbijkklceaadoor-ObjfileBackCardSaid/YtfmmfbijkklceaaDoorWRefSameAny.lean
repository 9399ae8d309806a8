/- The walks of aediculeref08.SameSym and Same, of any two. -/
import Derived.Test.YtfmmfbijkklceaaDoorWCopy
import Derived.Test.YtfmmfbijkklceaaDoorKeep
import Derived.BigQuiet
import Derived.WalkSmall
import Derived.IntWalk
import Derived.Test.YtfmmfbijkklceaaDoorRowCells
import Derived.StillTailTactics
namespace Go.Proofs.YtfmmfbijkklceaaDoor
open Go.RowKit
def SamePost {α : Type} (x y : α) (w : World) (e : Ending) (w' : World) : Prop := ∃ b : Bool, e = .returned (.bool b) ∧ (b = true ↔ x = y) ∧ Below w.heap.size w w'
theorem take_same {α : Type} {l m : List α} {i : Nat} (h : l.take i = m.take i) (hl : i < l.length) (hm : i < m.length) (he : l[i] = m[i]) : l.take (i + 1) = m.take (i + 1) := by
  rw [List.take_succ_eq_append_getElem hl, List.take_succ_eq_append_getElem hm, h, he]
theorem take_done {α : Type} {l m : List α} {i : Nat} (h : l.take i = m.take i) (hl : ¬ i < l.length) (hm : l.length = m.length) : l = m := by
  rw [List.take_of_length_le (by omega), List.take_of_length_le (by omega)] at h; exact h
theorem toList_ne {a b : ByteArray} (h : ¬ a = b) : ¬ a.toList = b.toList := by
  rw [ByteArray.toList_eq, ByteArray.toList_eq]
  intro e
  exact h (ByteArray.ext (Array.toList_inj.1 e))
set_option maxRecDepth 100000 in
set_option maxHeartbeats 4000000 in
theorem sameSym_two (s t : GSym) (vr vn vr2 vn2 : Value) (w : World) (h1 : SymIn w s vr vn) (h2 : SymIn w t vr2 vn2) :
    Calls Tryd.prog 21 #[.agg #[.string s.name, .int .u8 s.bind, .int .u8 s.kind, .int .u32 s.size, .string s.bytes, vr, vn], .agg #[.string t.name, .int .u8 t.bind, .int .u8 t.kind, .int .u32 t.size, .string t.bytes, vr2, vn2]] w (SamePost s t w) := by
  obtain ⟨yn, yb, yk, ys, yy, yr, yt⟩ := s
  obtain ⟨zn, zb, zk, zs, zy, zr, zt⟩ := t
  obtain ⟨⟨p1, c1, b1, o1, rfl, hc1, hm1, hp1, hr1⟩, ⟨p2, c2, b2, o2, rfl, hc2, hm2, hp2, hr2⟩, -⟩ := h1
  obtain ⟨⟨p3, c3, b3, o3, rfl, hc3, hm3, hp3, hr3⟩, ⟨p4, c4, b4, o4, rfl, hc4, hm4, hp4, hr4⟩, -⟩ := h2
  simp only [] at *
  have HP1 := Lib.hid hp1; clear hp1
  have HP2 := Lib.hid hp2; clear hp2
  have HP3 := Lib.hid hp3; clear hp3
  have HP4 := Lib.hid hp4; clear hp4
  have HR1 := Lib.hid hr1; clear hr1
  have HR2 := Lib.hid hr2; clear hr2
  have HR3 := Lib.hid hr3; clear hr3
  have HR4 := Lib.hid hr4; clear hr4
  by_cases q1 : yn = zn
  case neg =>
    have q1' := toList_ne q1
    go_enter Tryd.func21, Tryd.ntmps21
    go_wp2
    go_ret
    exact ⟨false, rfl, by simp [q1], (alloc_old w _).alloc (by simp) _⟩
  subst q1
  by_cases q2 : yb = zb
  case neg =>
    have n1 : ((yb : Int) == (zb : Int)) = false := by simp; omega
    have n2 : ((yb : Int) != (zb : Int)) = true := by simp; omega
    go_enter Tryd.func21, Tryd.ntmps21
    go_wp2
    go_ret
    exact ⟨false, rfl, by simp [q2], (alloc_old w _).alloc (by simp) _⟩
  subst q2
  by_cases q3 : yk = zk
  case neg =>
    have n1 : ((yk : Int) == (zk : Int)) = false := by simp; omega
    have n2 : ((yk : Int) != (zk : Int)) = true := by simp; omega
    go_enter Tryd.func21, Tryd.ntmps21
    go_wp2
    go_ret
    exact ⟨false, rfl, by simp [q3], (alloc_old w _).alloc (by simp) _⟩
  subst q3
  by_cases q4 : ys = zs
  case neg =>
    have n1 : ((ys : Int) == (zs : Int)) = false := by simp; omega
    have n2 : ((ys : Int) != (zs : Int)) = true := by simp; omega
    go_enter Tryd.func21, Tryd.ntmps21
    go_wp2
    go_ret
    exact ⟨false, rfl, by simp [q4], (alloc_old w _).alloc (by simp) _⟩
  subst q4
  by_cases q5 : yy = zy
  case neg =>
    have q5' := toList_ne q5
    go_enter Tryd.func21, Tryd.ntmps21
    go_wp2
    go_ret
    exact ⟨false, rfl, by simp [q5], (alloc_old w _).alloc (by simp) _⟩
  subst q5
  by_cases q6 : yr.length = zr.length
  case neg =>
    have n1 : ((yr.length : Int) == (zr.length : Int)) = false := by simp; omega
    have n2 : ((yr.length : Int) != (zr.length : Int)) = true := by simp; omega
    have n3 : (yr.length == zr.length) = false := by simp; omega
    have n4 : (yr.length != zr.length) = true := by simp; omega
    have HN : Hid (¬ yr = zr) := fun e => q6 (by rw [e])
    clear q6
    go_enter Tryd.func21, Tryd.ntmps21
    go_wp2
    go_ret
    exact ⟨false, rfl, by simp [HN.out], (alloc_old w _).alloc (by simp) _⟩
  rw [← q6]
  have HQ6 := Lib.hid q6; clear q6
  by_cases q7 : yt.length = zt.length
  case neg =>
    have n1 : ((yt.length : Int) == (zt.length : Int)) = false := by simp; omega
    have n2 : ((yt.length : Int) != (zt.length : Int)) = true := by simp; omega
    have n3 : (yt.length == zt.length) = false := by simp; omega
    have n4 : (yt.length != zt.length) = true := by simp; omega
    have HN : Hid (¬ yt = zt) := fun e => q7 (by rw [e])
    clear q7
    go_enter Tryd.func21, Tryd.ntmps21
    go_wp2
    go_ret
    exact ⟨false, rfl, by simp [HN.out], (alloc_old w _).alloc (by simp) _⟩
  rw [← q7]
  have HQ7 := Lib.hid q7; clear q7
  go_enter Tryd.func21, Tryd.ntmps21
  go_wp2
  generalize hW0 : (w.alloc (.cells #[.string yn, .int .u8 yb, .int .u8 yk, .int .u32 ys, .string yy, .slice p1 yr.length c1, .slice p2 yt.length c2] 47)).alloc (.cells #[.string yn, .int .u8 yb, .int .u8 yk, .int .u32 ys, .string yy, .slice p3 yr.length c3, .slice p4 yt.length c4] 47) = w0
  have HB0 : Hid (Below w.heap.size w w0) := by subst hW0; exact (alloc_old w _).alloc (by simp) _
  have hs0 : w.heap.size + 1 < w0.heap.size := by subst hW0; simp
  have HA5 : Hid (w0.cell? ⟨w.heap.size, 5, none⟩ = some (.slice p1 yr.length c1)) := by subst hW0; simp [Hid, go_sem]
  have HA6 : Hid (w0.cell? ⟨w.heap.size, 6, none⟩ = some (.slice p2 yt.length c2)) := by subst hW0; simp [Hid, go_sem]
  have HA7 : Hid (w0.cell? ⟨w.heap.size + 1, 5, none⟩ = some (.slice p3 yr.length c3)) := by subst hW0; simp [Hid, go_sem]
  have HA8 : Hid (w0.cell? ⟨w.heap.size + 1, 6, none⟩ = some (.slice p4 yt.length c4)) := by subst hW0; simp [Hid, go_sem]
  clear hW0
  go_loopw [5] (fun v5 wr => ∃ i : Nat, i ≤ yr.length ∧ v5 = .int .i64 i ∧ yr.take i = zr.take i ∧ Below w0.heap.size w0 wr) (fun v5 _ => yr.length - (intOf v5).toNat)
  case atStart => exact ⟨0, Nat.zero_le _, rfl, rfl, Below.refl _ _⟩
  case round =>
    obtain ⟨i, hi, rfl, htk, hbel⟩ := hrel
    have HTK := Lib.hid htk; clear htk
    have HB := Lib.hid hbel; clear hbel
    have HBW : Hid (Below w.heap.size w wr) := HB0.out.trans (HB.out.mono HB0.out.size)
    have a5 := cell_keep HB.out (by omega) HA5.out
    have a7 := cell_keep HB.out (by omega) HA7.out
    have z1 : w.heap.size + 1 < wr.heap.size := size_keep HB.out hs0
    have z0 : w.heap.size < wr.heap.size := by omega
    by_cases hlt : i < yr.length
    · obtain rfl := HP1.out (by omega)
      obtain rfl := HP3.out (by have := HQ6.out; omega)
      have hlt2 : i < zr.length := by have := HQ6.out; omega
      obtain ⟨g0, g1, g2, g3, g4, -⟩ := relR_keeps _ _ _ _ _ HBW.out (HR1.out i hlt)
      obtain ⟨k0, k1, k2, k3, k4, -⟩ := relR_keeps _ _ _ _ _ HBW.out (HR3.out i hlt2)
      have HTN : Hid (yr[i] = zr[i] → yr.take (i + 1) = zr.take (i + 1)) := take_same HTK.out hlt hlt2
      have HNE : Hid (¬ yr[i] = zr[i] → ¬ yr = zr) := fun h e => h (by simp only [e])
      generalize yr[i] = x at g1 g2 g3 g4 HTN HNE
      generalize zr[i] = y at k1 k2 k3 k4 HTN HNE
      obtain ⟨x1, x2, x3, x4⟩ := x
      obtain ⟨y1, y2, y3, y4⟩ := y
      simp only [] at g1 g2 g3 g4 k1 k2 k3 k4 HTN HNE
      clear hlt2
      by_cases e1 : x1 = y1
      case neg =>
        have n1 : (x1 == y1) = false := by simpa using e1
        have n2 : (x1 != y1) = true := by simpa using e1
        have HN := Lib.hid (HNE.out (by simp [e1]))
        clear HNE HTN e1
        go_wp2
        go_quiet (fail)
        go_wp2
        go_ret
        exact ⟨false, rfl, by simp [HN.out], below_drewN HBW.out _⟩
      subst e1
      by_cases e2 : x2 = y2
      case neg =>
        have n1 : (x2 == y2) = false := by simpa using e2
        have n2 : (x2 != y2) = true := by simpa using e2
        have HN := Lib.hid (HNE.out (by simp [e2]))
        clear HNE HTN e2
        go_wp2
        go_quiet (fail)
        go_wp2
        go_ret
        exact ⟨false, rfl, by simp [HN.out], below_drewN HBW.out _⟩
      subst e2
      by_cases e3 : x3 = y3
      case neg =>
        have n0 := toList_ne e3
        have HN := Lib.hid (HNE.out (by simp [e3]))
        clear HNE HTN
        go_wp2
        go_quiet (fail)
        go_wp2
        go_ret
        exact ⟨false, rfl, by simp [HN.out], below_drewN HBW.out _⟩
      subst e3
      by_cases e4 : x4 = y4
      case neg =>
        have n1 : (x4 == y4) = false := by simpa using e4
        have n2 : (x4 != y4) = true := by simpa using e4
        have HN := Lib.hid (HNE.out (by simp [e4]))
        clear HNE HTN e4
        go_wp2
        go_quiet (fail)
        go_wp2
        go_ret
        exact ⟨false, rfl, by simp [HN.out], below_drewN HBW.out _⟩
      subst e4
      have HT2 := Lib.hid (HTN.out rfl)
      clear HNE HTN
      go_wp2
      go_quiet (fail)
      go_wp2
      go_roundw
      case rel => exact ⟨i + 1, by omega, by go_num, HT2.out, below_drewN HB.out _⟩
      case measure => simp [intOf]; omega
    · have HRE : Hid (yr = zr) := take_done HTK.out hlt HQ6.out
      go_wp2
      clear a5 a7
      obtain ⟨wo, rfl⟩ : ∃ wo : World, wo = wr := ⟨_, rfl⟩
      go_loopw [6] (fun v6 wr => ∃ i : Nat, i ≤ yt.length ∧ v6 = .int .i64 i ∧ yt.take i = zt.take i ∧ Below w0.heap.size w0 wr) (fun v6 _ => yt.length - (intOf v6).toNat)
      case atStart => exact ⟨0, Nat.zero_le _, rfl, rfl, HB.out⟩
      case round =>
        clear HB HBW z0 z1 HTK
        obtain ⟨k, hk, rfl, htk, hbel⟩ := hrel
        have HTK := Lib.hid htk; clear htk
        have HB := Lib.hid hbel; clear hbel
        have HBW : Hid (Below w.heap.size w wr) := HB0.out.trans (HB.out.mono HB0.out.size)
        have a6 := cell_keep HB.out (by omega) HA6.out
        have a8 := cell_keep HB.out (by omega) HA8.out
        have z1 : w.heap.size + 1 < wr.heap.size := size_keep HB.out hs0
        have z0 : w.heap.size < wr.heap.size := by omega
        by_cases hlk : k < yt.length
        · obtain rfl := HP2.out (by omega)
          obtain rfl := HP4.out (by have := HQ7.out; omega)
          have hlt2 : k < zt.length := by have := HQ7.out; omega
          obtain ⟨g0, g1, g2, g3, -⟩ := noteR_keeps _ _ _ _ _ HBW.out (HR2.out k hlk)
          obtain ⟨k0, k1, k2, k3, -⟩ := noteR_keeps _ _ _ _ _ HBW.out (HR4.out k hlt2)
          have HTN : Hid (yt[k] = zt[k] → yt.take (k + 1) = zt.take (k + 1)) := take_same HTK.out hlk hlt2
          have HNE : Hid (¬ yt[k] = zt[k] → ¬ yt = zt) := fun h e => h (by simp only [e])
          generalize yt[k] = x at g1 g2 g3 HTN HNE
          generalize zt[k] = y at k1 k2 k3 HTN HNE
          obtain ⟨x1, x2, x3⟩ := x
          obtain ⟨y1, y2, y3⟩ := y
          simp only [] at g1 g2 g3 k1 k2 k3 HTN HNE
          clear hlt2
          by_cases e1 : x1 = y1
          case neg =>
            have n1 : (x1 == y1) = false := by simpa using e1
            have n2 : (x1 != y1) = true := by simpa using e1
            have HN := Lib.hid (HNE.out (by simp [e1]))
            clear HNE HTN e1
            go_wp2
            go_quiet (fail)
            go_wp2
            go_ret
            exact ⟨false, rfl, by simp [HN.out], below_drewN HBW.out _⟩
          subst e1
          by_cases e2 : x2 = y2
          case neg =>
            have n1 : (x2 == y2) = false := by simpa using e2
            have n2 : (x2 != y2) = true := by simpa using e2
            have HN := Lib.hid (HNE.out (by simp [e2]))
            clear HNE HTN e2
            go_wp2
            go_quiet (fail)
            go_wp2
            go_ret
            exact ⟨false, rfl, by simp [HN.out], below_drewN HBW.out _⟩
          subst e2
          by_cases e3 : x3 = y3
          case neg =>
            have n1 : (x3 == y3) = false := by simpa using e3
            have n2 : (x3 != y3) = true := by simpa using e3
            have HN := Lib.hid (HNE.out (by simp [e3]))
            clear HNE HTN e3
            go_wp2
            go_quiet (fail)
            go_wp2
            go_ret
            exact ⟨false, rfl, by simp [HN.out], below_drewN HBW.out _⟩
          subst e3
          have HT2 := Lib.hid (HTN.out rfl)
          clear HNE HTN
          go_wp2
          go_quiet (fail)
          go_wp2
          go_roundw
          case rel => exact ⟨k + 1, by omega, by go_num, HT2.out, below_drewN HB.out _⟩
          case measure => simp [intOf]; omega
        · have HTE : Hid (yt = zt) := take_done HTK.out hlk HQ7.out
          go_wp2
          go_ret
          exact ⟨true, rfl, by simp [HRE.out, HTE.out], HBW.out⟩
set_option maxRecDepth 100000 in
set_option maxHeartbeats 2000000 in
theorem same_two (x y : GObj) (vs vs2 : Value) (w : World) (h1 : ObjIn w x vs) (h2 : ObjIn w y vs2) :
    Calls Tryd.prog 10 #[.agg #[.string x.name, vs], .agg #[.string y.name, vs2]] w (SamePost x y w) := by
  obtain ⟨xn, xs⟩ := x
  obtain ⟨yn, ys⟩ := y
  obtain ⟨⟨p1, c1, b1, o1, rfl, hc1, hm1, hp1, hr1⟩, -⟩ := h1
  obtain ⟨⟨p3, c3, b3, o3, rfl, hc3, hm3, hp3, hr3⟩, -⟩ := h2
  simp only [] at *
  have HP1 := Lib.hid hp1; clear hp1
  have HP3 := Lib.hid hp3; clear hp3
  have HR1 := Lib.hid hr1; clear hr1
  have HR3 := Lib.hid hr3; clear hr3
  by_cases q1 : xn = yn
  case neg =>
    have q1' := toList_ne q1
    go_enter Tryd.func10, Tryd.ntmps10
    go_wp2
    go_ret
    exact ⟨false, rfl, by simp [q1], (alloc_old w _).alloc (by simp) _⟩
  subst q1
  by_cases q2 : xs.length = ys.length
  case neg =>
    have n1 : ((xs.length : Int) == (ys.length : Int)) = false := by simp; omega
    have n2 : ((xs.length : Int) != (ys.length : Int)) = true := by simp; omega
    have n3 : (xs.length == ys.length) = false := by simp; omega
    have n4 : (xs.length != ys.length) = true := by simp; omega
    have HN : Hid (¬ xs = ys) := fun e => q2 (by rw [e])
    clear q2
    go_enter Tryd.func10, Tryd.ntmps10
    go_wp2
    go_ret
    exact ⟨false, rfl, by simp [HN.out], (alloc_old w _).alloc (by simp) _⟩
  rw [← q2]
  have HQ2 := Lib.hid q2; clear q2
  go_enter Tryd.func10, Tryd.ntmps10
  go_wp2
  generalize hW0 : (w.alloc (.cells #[.string xn, .slice p1 xs.length c1] 24)).alloc (.cells #[.string xn, .slice p3 xs.length c3] 24) = w0
  have HB0 : Hid (Below w.heap.size w w0) := by subst hW0; exact (alloc_old w _).alloc (by simp) _
  have hs0 : w.heap.size + 1 < w0.heap.size := by subst hW0; simp
  have HA5 : Hid (w0.cell? ⟨w.heap.size, 1, none⟩ = some (.slice p1 xs.length c1)) := by subst hW0; simp [Hid, go_sem]
  have HA7 : Hid (w0.cell? ⟨w.heap.size + 1, 1, none⟩ = some (.slice p3 xs.length c3)) := by subst hW0; simp [Hid, go_sem]
  clear hW0
  go_loopw [5] (fun v5 wr => ∃ i : Nat, i ≤ xs.length ∧ v5 = .int .i64 i ∧ xs.take i = ys.take i ∧ Below w0.heap.size w0 wr) (fun v5 _ => xs.length - (intOf v5).toNat)
  case atStart => exact ⟨0, Nat.zero_le _, rfl, rfl, Below.refl _ _⟩
  case round =>
    obtain ⟨i, hi, rfl, htk, hbel⟩ := hrel
    have HTK := Lib.hid htk; clear htk
    have HB := Lib.hid hbel; clear hbel
    have HBW : Hid (Below w.heap.size w wr) := HB0.out.trans (HB.out.mono HB0.out.size)
    have a5 := cell_keep HB.out (by omega) HA5.out
    have a7 := cell_keep HB.out (by omega) HA7.out
    have z1 : w.heap.size + 1 < wr.heap.size := size_keep HB.out hs0
    have z0 : w.heap.size < wr.heap.size := by omega
    by_cases hlt : i < xs.length
    · obtain rfl := HP1.out (by omega)
      obtain rfl := HP3.out (by have := HQ2.out; omega)
      have hlt2 : i < ys.length := by have := HQ2.out; omega
      obtain ⟨vr, vn, g0, g1, g2, g3, g4, g5, g6, g7, gin⟩ := symR_keeps _ _ _ _ _ HBW.out (HR1.out i hlt)
      obtain ⟨ur, un, k0, k1, k2, k3, k4, k5, k6, k7, kin⟩ := symR_keeps _ _ _ _ _ HBW.out (HR3.out i hlt2)
      obtain ⟨q1, n1, q2, n2, rfl, rfl⟩ := gin.shape
      obtain ⟨q3, n3, q4, n4, rfl, rfl⟩ := kin.shape
      have HTN : Hid (xs[i] = ys[i] → xs.take (i + 1) = ys.take (i + 1)) := take_same HTK.out hlt hlt2
      have HNE : Hid (¬ xs[i] = ys[i] → ¬ xs = ys) := fun h e => h (by simp only [e])
      generalize xs[i] = x at g1 g2 g3 g4 g5 g6 g7 gin HTN HNE
      generalize ys[i] = y at k1 k2 k3 k4 k5 k6 k7 kin HTN HNE
      have HCS := Lib.hid (sameSym_two x y _ _ _ _ wr.drew (SymIn.keep (Below.refl _ _).drew gin) (SymIn.keep (Below.refl _ _).drew kin))
      clear gin kin hlt2
      unfold SamePost at HCS
      obtain ⟨x1, x2, x3, x4, x5, x6, x7⟩ := x
      obtain ⟨y1, y2, y3, y4, y5, y6, y7⟩ := y
      simp only [] at g1 g2 g3 g4 g5 g6 g7 k1 k2 k3 k4 k5 k6 k7 HCS HTN HNE
      go_wp2
      go_still_tail 10, (by kernel_rfl)
      change wpList _ _ _ _ _ wr.drew
      go_wp2_with fail
      refine HCS.out.mono ?_
      rintro e w2 ⟨b, rfl, hb, hB2⟩
      have HB2 := Lib.hid hB2; clear hB2
      cases b with
      | true =>
        have HT2 := Lib.hid (HTN.out (hb.1 rfl))
        clear hb HCS HNE HTN
        go_wp2
        exact ⟨⟨i + 1, by omega, by go_num, HT2.out, HB.out.drew.trans (HB2.out.mono HB.out.size)⟩, by simp [intOf]; omega⟩
      | false =>
        have HN := Lib.hid (HNE.out fun e => by simp [e] at hb)
        clear hb HCS HNE HTN
        go_wp2
        go_ret
        exact ⟨false, rfl, by simp [HN.out], HBW.out.drew.trans (HB2.out.mono HBW.out.size)⟩
    · have HTE : Hid (xs = ys) := take_done HTK.out hlt HQ2.out
      go_wp2
      go_ret
      exact ⟨true, rfl, by simp [HTE.out], HBW.out⟩
end Go.Proofs.YtfmmfbijkklceaaDoor
