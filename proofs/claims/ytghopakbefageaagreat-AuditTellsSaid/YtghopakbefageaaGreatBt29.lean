/- The walks of aediculeref11.Same and aediculeref16.Same, at one image twice. -/
import Derived.Test.YtghopakbefageaaGreatBt25
import Derived.Test.YtghopakbefageaaGreatBt01
namespace Go.Proofs.YtghopakbefageaaGreat
open Go.RowKit Go.Maps
set_option maxHeartbeats 2000000 in
theorem same11_any (m : GMan) (va1 va2 vb1 vb2 : Value) (w : World) (ha : ManAt w m va1 va2) (hb : ManAt w m vb1 vb2) :
    Calls Tryz.prog 40 #[.agg #[.int .u32 m.pages, va1, va2, .bool m.cons], .agg #[.int .u32 m.pages, vb1, vb2, .bool m.cons]] w fun e w' => e = .returned (.bool true) ∧ Below w.heap.size w w' := by
  obtain ⟨mp, me, mq, mc⟩ := m
  obtain ⟨⟨p1, c1, b1, o1, rfl, -, hm1, hp1, hc1⟩, ⟨p2, c2, b2, o2, rfl, -, hm2, hp2, hc2⟩, -⟩ := ha
  obtain ⟨⟨p3, c3, b3, o3, rfl, -, -, hp3, hc3⟩, ⟨p4, c4, b4, o4, rfl, -, -, hp4, hc4⟩, -⟩ := hb
  simp only [] at *
  have HC1 := Lib.hid hc1; clear hc1
  have HC2 := Lib.hid hc2; clear hc2
  have HC3 := Lib.hid hc3; clear hc3
  have HC4 := Lib.hid hc4; clear hc4
  have HP1 := Lib.hid hp1; clear hp1
  have HP2 := Lib.hid hp2; clear hp2
  have HP3 := Lib.hid hp3; clear hp3
  have HP4 := Lib.hid hp4; clear hp4
  generalize hW : (w.alloc (.cells #[.int .u32 mp, .slice p1 me.length c1, .slice p2 mq.length c2, .bool mc] 26)).alloc (.cells #[.int .u32 mp, .slice p3 me.length c3, .slice p4 mq.length c4, .bool mc] 26) = w2
  have HB2 : Hid (Below w.heap.size w w2) := by subst hW; exact (alloc_old w _).alloc (by simp) _
  have hz2 : w2.heap.size = w.heap.size + 2 := by subst hW; simp
  have HM : Hid (w2.heap[w.heap.size]? = some (.cells #[.int .u32 mp, .slice p1 me.length c1, .slice p2 mq.length c2, .bool mc] 26 (0, 0))) := by subst hW; exact (Below.heap_alloc _ _ _ (by simp)).trans (new_block w _)
  have HN : Hid (w2.heap[w.heap.size + 1]? = some (.cells #[.int .u32 mp, .slice p3 me.length c3, .slice p4 mq.length c4, .bool mc] 26 (0, 0))) := by subst hW; rw [Hid]; have := new_block (w.alloc (.cells #[.int .u32 mp, .slice p1 me.length c1, .slice p2 mq.length c2, .bool mc] 26)) (.cells #[.int .u32 mp, .slice p3 me.length c3, .slice p4 mq.length c4, .bool mc] 26); simpa using this
  subst hW
  go_enter Tryz.func40, Tryz.ntmps40
  go_wp2
  generalize (w.alloc (.cells #[.int .u32 mp, .slice p1 me.length c1, .slice p2 mq.length c2, .bool mc] 26)).alloc (.cells #[.int .u32 mp, .slice p3 me.length c3, .slice p4 mq.length c4, .bool mc] 26) = w2 at *
  have a1 := Lib.cell_of_heap HM.out 1
  have a2 := Lib.cell_of_heap HM.out 2
  have d1 := Lib.cell_of_heap HN.out 1
  have d2 := Lib.cell_of_heap HN.out 2
  go_loopw [5] (fun v5 wr => ∃ k : Nat, v5 = .int .i64 k ∧ k ≤ me.length ∧ Below w2.heap.size w2 wr) (fun v5 _ => me.length - (intOf v5).toNat)
  case atStart => exact ⟨0, by go_num, Nat.zero_le _, Below.refl _ _⟩
  case round =>
    obtain ⟨k, rfl, hk, hB⟩ := hrel
    have HB := Lib.hid hB
    have HBO : Hid (Below w.heap.size w wr) := HB2.out.trans (hB.mono (by omega))
    have hzr : w.heap.size + 1 < wr.heap.size := by have := hB.size; omega
    replace a1 := cell_keep hB (by omega) a1
    replace a2 := cell_keep hB (by omega) a2
    replace d1 := cell_keep hB (by omega) d1
    replace d2 := cell_keep hB (by omega) d2
    clear hB
    by_cases hlt : k < me.length
    · obtain rfl := HP1.out (by omega)
      obtain rfl := HP3.out (by omega)
      obtain ⟨g0, g1, g2, -⟩ := extR_keeps _ _ _ _ _ HBO.out (HC1.out k hlt)
      obtain ⟨f0, f1, f2, -⟩ := extR_keeps _ _ _ _ _ HBO.out (HC3.out k hlt)
      generalize me[k] = x at g1 g2 f1 f2
      obtain ⟨x1, x2⟩ := x
      simp only [] at g1 g2 f1 f2
      go_wp2
      go_region
      all_goals
        go_wp2_with fail
        go_roundw
        case rel => exact ⟨k + 1, by go_num, by omega, HB.out.drew⟩
        case measure => simp [intOf]; omega
    · have hkk : k = me.length := by omega
      subst hkk
      obtain ⟨w3, hw3⟩ : ∃ w3, w3 = wr := ⟨_, rfl⟩
      subst hw3
      go_wp2
      go_loopw [6] (fun v6 wr => ∃ k : Nat, v6 = .int .i64 k ∧ k ≤ mq.length ∧ Below w3.heap.size w3 wr) (fun v6 _ => mq.length - (intOf v6).toNat)
      case atStart => exact ⟨0, by go_num, Nat.zero_le _, Below.refl _ _⟩
      case round =>
        obtain ⟨k, rfl, hk, hB⟩ := hrel
        have HBT := Lib.hid hB
        have HBO2 : Hid (Below w.heap.size w wr) := HBO.out.trans (hB.mono (by omega))
        replace a1 := cell_keep hB (by omega) a1
        replace a2 := cell_keep hB (by omega) a2
        replace d1 := cell_keep hB (by omega) d1
        replace d2 := cell_keep hB (by omega) d2
        clear hB
        by_cases hlt : k < mq.length
        · obtain rfl := HP2.out (by omega)
          obtain rfl := HP4.out (by omega)
          obtain ⟨g0, g1, -⟩ := portR_keeps _ _ _ _ _ HBO2.out (HC2.out k hlt)
          obtain ⟨f0, f1, -⟩ := portR_keeps _ _ _ _ _ HBO2.out (HC4.out k hlt)
          rw [Nat.mul_one] at g1 f1
          generalize mq[k] = x at g1 f1
          go_wp2
          go_region
          all_goals
            go_wp2_with fail
            go_roundw
            case rel => exact ⟨k + 1, by go_num, by omega, HBT.out.drew⟩
            case measure => simp [intOf]; omega
        · go_wp2
          go_ret
          exact ⟨rfl, HBO2.out⟩
set_option maxRecDepth 100000 in
set_option maxHeartbeats 2000000 in
theorem same16_any (x : GImg) (ve vp vs ve' vp' vs' : Value) (w : World) (h1 : ManAt w x.man ve vp) (h2 : RowAt 3 SegR w vs x.segs) (h3 : ManAt w x.man ve' vp') (h4 : RowAt 3 SegR w vs' x.segs) :
    Calls Tryz.prog 19 #[.agg #[.int .u32 x.man.pages, ve, vp, .bool x.man.cons, .int .u32 x.entry, vs], .agg #[.int .u32 x.man.pages, ve', vp', .bool x.man.cons, .int .u32 x.entry, vs']] w fun e w' => e = .returned (.bool true) ∧ Below w.heap.size w w' := by
  obtain ⟨⟨mp, me, mq, mc⟩, en, sg⟩ := x
  simp only [] at *
  have HM1 := Lib.hid h1
  have HM2 := Lib.hid h3
  obtain ⟨⟨p1, c1, b1, o1, rfl, -⟩, ⟨p2, c2, b2, o2, rfl, -⟩, -⟩ := h1
  obtain ⟨⟨p3, c3, b3, o3, rfl, -⟩, ⟨p4, c4, b4, o4, rfl, -⟩, -⟩ := h3
  obtain ⟨p5, c5, b5, o5, rfl, -, hm5, hp5, hc5⟩ := h2
  obtain ⟨p6, c6, b6, o6, rfl, -, hm6, hp6, hc6⟩ := h4
  have HC5 := Lib.hid hc5; clear hc5
  have HC6 := Lib.hid hc6; clear hc6
  have HP5 := Lib.hid hp5; clear hp5
  have HP6 := Lib.hid hp6; clear hp6
  generalize hW : (w.alloc (.cells #[.int .u32 mp, .slice p1 me.length c1, .slice p2 mq.length c2, .bool mc, .int .u32 en, .slice p5 sg.length c5] 29)).alloc (.cells #[.int .u32 mp, .slice p3 me.length c3, .slice p4 mq.length c4, .bool mc, .int .u32 en, .slice p6 sg.length c6] 29) = w2
  have HB2 : Hid (Below w.heap.size w w2) := by subst hW; exact (alloc_old w _).alloc (by simp) _
  have hz2 : w2.heap.size = w.heap.size + 2 := by subst hW; simp
  have HM : Hid (w2.heap[w.heap.size]? = some (.cells #[.int .u32 mp, .slice p1 me.length c1, .slice p2 mq.length c2, .bool mc, .int .u32 en, .slice p5 sg.length c5] 29 (0, 0))) := by subst hW; exact (Below.heap_alloc _ _ _ (by simp)).trans (new_block w _)
  have HN : Hid (w2.heap[w.heap.size + 1]? = some (.cells #[.int .u32 mp, .slice p3 me.length c3, .slice p4 mq.length c4, .bool mc, .int .u32 en, .slice p6 sg.length c6] 29 (0, 0))) := by
    subst hW; rw [Hid]
    have := new_block (w.alloc (.cells #[.int .u32 mp, .slice p1 me.length c1, .slice p2 mq.length c2, .bool mc, .int .u32 en, .slice p5 sg.length c5] 29)) (.cells #[.int .u32 mp, .slice p3 me.length c3, .slice p4 mq.length c4, .bool mc, .int .u32 en, .slice p6 sg.length c6] 29)
    simpa using this
  have a0 := Lib.cell_of_heap HM.out 0
  have a1 := Lib.cell_of_heap HM.out 1
  have a2 := Lib.cell_of_heap HM.out 2
  have a3 := Lib.cell_of_heap HM.out 3
  have d0 := Lib.cell_of_heap HN.out 0
  have d1 := Lib.cell_of_heap HN.out 1
  have d2 := Lib.cell_of_heap HN.out 2
  have d3 := Lib.cell_of_heap HN.out 3
  have HSM := Lib.hid (same11_any ⟨mp, me, mq, mc⟩ _ _ _ _ w2 (HM1.out.keep HB2.out) (HM2.out.keep HB2.out))
  simp only [] at HSM
  go_enter Tryz.func19, Tryz.ntmps19
  go_wp2_with fail
  try rw [hW]
  clear hW
  go_wp2_with fail
  clear a0 a1 a2 a3 d0 d1 d2 d3
  refine HSM.out.mono ?_
  rintro e w3 ⟨rfl, hB3⟩
  have HM3 := Lib.hid ((hB3.block _ (by omega)).trans HM.out)
  have HN3 := Lib.hid ((hB3.block _ (by omega)).trans HN.out)
  have HB3 : Hid (Below w.heap.size w w3) := HB2.out.trans (hB3.mono HB2.out.size)
  have hz3 : w.heap.size + 1 < w3.heap.size := by have := hB3.size; omega
  clear hB3 HB2 HM HN HSM
  have a4 := Lib.cell_of_heap HM3.out 4
  have a5 := Lib.cell_of_heap HM3.out 5
  have d4 := Lib.cell_of_heap HN3.out 4
  have d5 := Lib.cell_of_heap HN3.out 5
  go_wp2_with fail
  go_loopw [5] (fun v5 wr => ∃ k : Nat, v5 = .int .i64 k ∧ k ≤ sg.length ∧ Below w3.heap.size w3 wr) (fun v5 _ => sg.length - (intOf v5).toNat)
  case atStart => exact ⟨0, by go_num, Nat.zero_le _, Below.refl _ _⟩
  case round =>
    obtain ⟨k, rfl, hk, hB⟩ := hrel
    have HB := Lib.hid hB
    have HBO : Hid (Below w.heap.size w wr) := HB3.out.trans (hB.mono (by omega))
    replace a5 := cell_keep hB (by omega) a5
    replace d5 := cell_keep hB (by omega) d5
    clear hB
    by_cases hlt : k < sg.length
    · obtain rfl := HP5.out (by omega)
      obtain rfl := HP6.out (by omega)
      obtain ⟨g0, g1, g2, g3, -⟩ := segR_keeps _ _ _ _ _ HBO.out (HC5.out k hlt)
      obtain ⟨f0, f1, f2, f3, -⟩ := segR_keeps _ _ _ _ _ HBO.out (HC6.out k hlt)
      generalize sg[k] = x at g1 g2 g3 f1 f2 f3
      obtain ⟨x1, x2, x3⟩ := x
      simp only [] at g1 g2 g3 f1 f2 f3
      go_wp2
      go_region
      all_goals
        go_wp2_with fail
        go_roundw
        case rel => exact ⟨k + 1, by go_num, by omega, HB.out.drew⟩
        case measure => simp [intOf]; omega
    · go_wp2
      go_ret
      exact ⟨rfl, HBO.out⟩
end Go.Proofs.YtghopakbefageaaGreat
