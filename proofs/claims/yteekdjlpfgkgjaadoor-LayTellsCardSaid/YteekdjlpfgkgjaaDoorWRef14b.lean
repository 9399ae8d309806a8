/- The walks of aediculeref14's Find, At, SameAddrs and SameSpans. -/
import Derived.Test.YteekdjlpfgkgjaaDoorWRef14
import Derived.Test.YteekdjlpfgkgjaaDoorWLayFind
namespace Go.Proofs.YteekdjlpfgkgjaaDoor
open Go.RowKit Go.Maps Go.WideMaps
theorem find_here {α : Type} {p : α → Bool} {l : List α} {k : Nat} {x : α} (hlt : k < l.length) (hx : l[k] = x) (hA : (l.take k).all (fun y => !p y) = true) (hp : p x = true) : l.find? p = some x := by
  rw [List.find?_eq_some_iff_getElem]
  refine ⟨hp, k, hlt, hx, fun j hj => ?_⟩
  have := List.all_eq_true.1 hA (l[j]'(by omega)) (List.mem_iff_getElem.2 ⟨j, by simp; omega, by simp⟩)
  simpa using this
theorem layFind_none {l : List GAddr} {p : GP} (h : l.find? (isPl p) = none) : layFind l p = (0, false) := by unfold layFind; unfold isPl at h; rw [h]
theorem layFind_some {l : List GAddr} {p : GP} {x : GAddr} (h : l.find? (isPl p) = some x) : layFind l p = (x.at_, true) := by unfold layFind; unfold isPl at h; rw [h]
set_option maxRecDepth 100000 in
set_option maxHeartbeats 1000000 in
theorem refFind14_any (v : Value) (l : List GAddr) (p : GP) (w : World) (h : RowAt 3 AddrR w v l) :
    Calls Tryd.prog 11 #[v, .agg #[.int .i64 p.1, .int .i64 p.2]] w fun e w' => e = .returned (.tuple #[.int .u32 (layFind l p).1, .bool (layFind l p).2]) ∧ Below w.heap.size w w' := by
  obtain ⟨pp, cap, b, o, rfl, hcap, hmax, hp, hc⟩ := h
  have HC := Lib.hid hc; clear hc
  have HP := Lib.hid hp; clear hp
  obtain ⟨p1, p2⟩ := p
  simp only []
  go_enter Tryd.func11, Tryd.ntmps11
  go_wp2
  generalize hw0 : w.alloc (.cells #[.int .i64 p1, .int .i64 p2] 26) = w0
  have HB0 : Hid (Below w.heap.size w w0) := by subst hw0; exact alloc_old _ _
  have HN : Hid (w.heap.size < w0.heap.size ∧ w0.cell? ⟨w.heap.size, 0, none⟩ = some (.int .i64 p1) ∧ w0.cell? ⟨w.heap.size, 1, none⟩ = some (.int .i64 p2)) := by
    subst hw0; refine ⟨by simp, ?_, ?_⟩ <;> simp [go_sem]
  clear hw0
  generalize hnb : w.heap.size = nb at HN ⊢
  have HNB := Lib.hid hnb; clear hnb
  go_loopw [6] (fun i wr => ∃ k : Nat, k ≤ l.length ∧ i = .int .i64 k ∧ (l.take k).all (fun x => !isPl (p1, p2) x) = true ∧ Below w0.heap.size w0 wr) (fun i _ => l.length - (intOf i).toNat)
  case atStart => exact ⟨0, Nat.zero_le _, rfl, rfl, Below.refl _ _⟩
  case round =>
    obtain ⟨k, hk, rfl, hall, hbel⟩ := hrel
    have HA := Lib.hid hall; clear hall
    have HB := Lib.hid hbel; clear hbel
    have HW := Lib.hid (HB0.out.trans (HB.out.mono HB0.out.size))
    by_cases hlt : k < l.length
    · obtain rfl := HP.out (by omega)
      obtain ⟨g0, g1, g2, g3, g4⟩ := addrR_keeps _ _ _ _ _ HW.out (HC.out k hlt)
      obtain ⟨n0, n1, n2⟩ := HN.out
      replace n1 := cell_keep HB.out n0 n1
      replace n2 := cell_keep HB.out n0 n2
      generalize hx : l[k] = x at g1 g2 g3 g4
      have HX := Lib.hid hx; clear hx
      obtain ⟨x1, x2, x3⟩ := x
      simp only [] at g1 g2 g3 g4
      by_cases hpl : x1 = p1 ∧ x2 = p2
      · have HF := Lib.hid (layFind_some (find_here hlt HX.out HA.out (by simp [isPl, hpl])))
        obtain ⟨rfl, rfl⟩ := hpl
        go_wp2
        go_quiet (fail)
        rename_i nq
        go_wp2
        go_ret2
        rw [HF.out]
        exact ⟨rfl, below_drewN (HNB.out ▸ HW.out) nq⟩
      · have HST := Lib.hid (take_all_snoc hlt HX.out HA.out (show (!isPl (p1, p2) ⟨x1, x2, x3⟩) = true by cases hb : isPl (p1, p2) ⟨x1, x2, x3⟩ with | false => rfl | true => exact absurd (by simpa [isPl] using hb) hpl))
        have hne : decide (x1 = p1 ∧ x2 = p2) = false := by simpa using hpl
        by_cases c1 : x1 = p1
        · have d1 : (x1 == p1) = true := by simpa using c1
          have d2 : (x2 == p2) = false := by simpa using fun h => hpl ⟨c1, h⟩
          subst c1
          go_wp2
          go_quiet (fail)
          rename_i nq
          go_wp2
          go_roundw
          case rel => exact ⟨k + 1, by omega, by go_num, HST.out, below_drewN HB.out nq⟩
          case measure => simp [intOf]; omega
        · have d1 : (x1 == p1) = false := by simpa using c1
          go_wp2
          go_quiet (fail)
          rename_i nq
          go_wp2
          go_roundw
          case rel => exact ⟨k + 1, by omega, by go_num, HST.out, below_drewN HB.out nq⟩
          case measure => simp [intOf]; omega
    · have HF := Lib.hid (layFind_none (findIdxA_none (all_end hlt HA.out)).2)
      go_wp2
      go_ret2
      rw [HF.out]
      exact ⟨rfl, HNB.out ▸ HW.out⟩
set_option maxRecDepth 100000 in
set_option maxHeartbeats 1000000 in
theorem sameAddrs_any (v v2 : Value) (l : List GAddr) (w : World) (h : RowAt 3 AddrR w v l) (h2 : RowAt 3 AddrR w v2 l) :
    Calls Tryd.prog 15 #[v, v2] w fun e w' => e = .returned (.bool true) ∧ Below w.heap.size w w' := by
  obtain ⟨p, cap, b, o, rfl, hcap, hmax, hp, hc⟩ := h
  obtain ⟨p2, cap2, b2, o2, rfl, hcap2, -, hp2, hc2⟩ := h2
  have HC := Lib.hid hc; clear hc
  have HP := Lib.hid hp; clear hp
  have HC2 := Lib.hid hc2; clear hc2
  have HP2 := Lib.hid hp2; clear hp2
  go_enter Tryd.func15, Tryd.ntmps15
  go_wp2
  go_loopw [5] (fun i wr => ∃ k : Nat, k ≤ l.length ∧ i = .int .i64 k ∧ Below w.heap.size w wr) (fun i _ => l.length - (intOf i).toNat)
  case atStart => exact ⟨0, Nat.zero_le _, rfl, Below.refl _ _⟩
  case round =>
    obtain ⟨k, hk, rfl, hbel⟩ := hrel
    have HB := Lib.hid hbel; clear hbel
    by_cases hlt : k < l.length
    · obtain rfl := HP.out (by omega)
      obtain rfl := HP2.out (by omega)
      obtain ⟨g0, g1, g2, g3, g4⟩ := addrR_keeps _ _ _ _ _ HB.out (HC.out k hlt)
      obtain ⟨e0, e1, e2, e3, e4⟩ := addrR_keeps _ _ _ _ _ HB.out (HC2.out k hlt)
      generalize l[k] = x at g1 g2 g3 g4 e1 e2 e3 e4
      obtain ⟨x1, x2, x3⟩ := x
      simp only [] at g1 g2 g3 e1 e2 e3
      go_wp2
      go_quiet (fail)
      rename_i nq
      go_wp2
      go_roundw
      case rel => exact ⟨k + 1, by omega, by go_num, below_drewN HB.out nq⟩
      case measure => simp [intOf]; omega
    · go_wp2
      go_ret
      exact ⟨rfl, HB.out⟩
set_option maxRecDepth 100000 in
set_option maxHeartbeats 1000000 in
theorem sameSpans_any (v v2 : Value) (l : List GSpan) (w : World) (h : RowAt 3 SpanR w v l) (h2 : RowAt 3 SpanR w v2 l) :
    Calls Tryd.prog 16 #[v, v2] w fun e w' => e = .returned (.bool true) ∧ Below w.heap.size w w' := by
  obtain ⟨p, cap, b, o, rfl, hcap, hmax, hp, hc⟩ := h
  obtain ⟨p2, cap2, b2, o2, rfl, hcap2, -, hp2, hc2⟩ := h2
  have HC := Lib.hid hc; clear hc
  have HP := Lib.hid hp; clear hp
  have HC2 := Lib.hid hc2; clear hc2
  have HP2 := Lib.hid hp2; clear hp2
  go_enter Tryd.func16, Tryd.ntmps16
  go_wp2
  go_loopw [5] (fun i wr => ∃ k : Nat, k ≤ l.length ∧ i = .int .i64 k ∧ Below w.heap.size w wr) (fun i _ => l.length - (intOf i).toNat)
  case atStart => exact ⟨0, Nat.zero_le _, rfl, Below.refl _ _⟩
  case round =>
    obtain ⟨k, hk, rfl, hbel⟩ := hrel
    have HB := Lib.hid hbel; clear hbel
    by_cases hlt : k < l.length
    · obtain rfl := HP.out (by omega)
      obtain rfl := HP2.out (by omega)
      obtain ⟨g0, g1, g2, g3, g4⟩ := spanR_keeps _ _ _ _ _ HB.out (HC.out k hlt)
      obtain ⟨e0, e1, e2, e3, e4⟩ := spanR_keeps _ _ _ _ _ HB.out (HC2.out k hlt)
      generalize l[k] = x at g1 g2 g3 g4 e1 e2 e3 e4
      obtain ⟨x1, x2, x3⟩ := x
      simp only [] at g1 g2 g3 e1 e2 e3
      go_wp2
      go_quiet (fail)
      rename_i nq
      go_wp2
      go_roundw
      case rel => exact ⟨k + 1, by omega, by go_num, below_drewN HB.out nq⟩
      case measure => simp [intOf]; omega
    · go_wp2
      go_ret
      exact ⟨rfl, HB.out⟩
end Go.Proofs.YteekdjlpfgkgjaaDoor
