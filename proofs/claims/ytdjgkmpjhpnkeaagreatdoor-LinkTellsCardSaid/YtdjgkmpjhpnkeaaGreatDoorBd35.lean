/- The walks of aediculeref18.Special and Full. The walk of aediculeref11.Same, at one manifest twice. The walks of aediculeref16.Same and aediculeref18.Same, at one image twice. The walk of aediculelaw18.three. The chapter's example of layer 18, in plain words. No program in sight. -/
import Derived.Test.YtdjgkmpjhpnkeaaGreatDoorBd34
import Derived.Test.YtdjgkmpjhpnkeaaGreatDoorBd18
import Derived.Test.YtdjgkmpjhpnkeaaGreatDoorBd09
import Derived.Test.YtdjgkmpjhpnkeaaGreatDoorBd24
import Derived.Test.YtdjgkmpjhpnkeaaGreatDoorBd27
import Derived.Test.YtdjgkmpjhpnkeaaGreatDoorBd02
import Derived.Test.YtdjgkmpjhpnkeaaGreatDoorBd05
import Derived.Lib.Hide
import Derived.Test.YtdjgkmpjhpnkeaaGreatDoorRows
namespace Go.Proofs.YtdjgkmpjhpnkeaaGreatDoor
open Go.RowKit Go.Maps Go.WideMaps
set_option maxRecDepth 100000 in
set_option maxHeartbeats 4000000 in
theorem rSpecial18_any (v : Value) (l : List GObj) (nm : ByteArray) (w : World) (h : ObjsAt w v l) (hs : SameR l) (hb : mayAll l = true → ∀ o ∈ l, ∀ s ∈ o.syms, s.bytes.size < 4294967296) :
    Calls Tryz.prog 16 #[.string nm, v] w fun e w' => ∃ r, Sp18 l nm r ∧ LPost w r e w' := by
  have HKC : Hid (∀ W, Below w.heap.size w W → Calls Tryz.prog 54 #[.string nm, v] W (Kept18Post l nm W)) := fun W hW => rKept13_any v l nm W (h.keep hW) hs
  have HLO : Hid (∀ W pv K, Below w.heap.size w W → RowAt 2 PlaceR W pv K → K.length ≤ 1024 → Calls Tryz.prog 18 #[.string nm, pv, v] W fun e w' => ∃ r, Of18 l nm (K.map toG) r ∧ LPost W r e w') := fun W pv K hW hr hl => rOf18_any v pv l (K.map toG) nm W (h.keep hW) (places_g hr) (by simp; omega) hs hb
  obtain ⟨qv, cv, hv⟩ : ∃ (pv : Option Addr) (cv : Nat), v = .slice pv l.length cv := by obtain ⟨p, cap, b, o, rfl, _⟩ := h; exact ⟨p, cap, rfl⟩
  subst hv
  clear h hb hs
  generalize hW : (w.alloc (.cells #[.int .u32 0, .slice none 0 0, .slice none 0 0, .bool false, .int .u32 0, .slice none 0 0, .slice none 0 0] 37)) = w1
  have z1 : w1.heap.size = w.heap.size + 1 := by subst hW; simp
  have HB1 : Hid (Below w.heap.size w w1) := by subst hW; exact alloc_old w _
  have HR1 : Hid (w1.heap[w.heap.size]? = some (.cells zlink 37 (0, 0))) := by subst hW; exact new_block w _
  go_enter Tryz.func16, Tryz.ntmps16
  go_wp2_with fail
  try rw [hW]
  clear hW
  refine (HKC.out _ HB1.out).mono ?_
  rintro e w2 ⟨⟨p, K, vo, hky, hrow, rfl⟩ | ⟨n, c, hc, rfl, hke⟩, hB2⟩
  · have HLK := Lib.hid (HLO.out w2 vo K (HB1.out.trans (hB2.mono (by omega))) hrow (kept_len hky))
    have HKY := Lib.hid hky
    obtain ⟨p2, c2, b2, o2, rfl, -⟩ := hrow
    have HB2 : Hid (Below w.heap.size w w2) := HB1.out.trans (hB2.mono (by omega))
    have HR2 : Hid (w2.heap[w.heap.size]? = some (.cells zlink 37 (0, 0))) := (hB2.block _ (by omega)).trans HR1.out
    have z2 : w.heap.size < w2.heap.size := by have := hB2.size; omega
    clear hky hB2 HKC HLO
    go_wp2_with fail
    refine HLK.out.mono ?_
    rintro e w3 ⟨r, hof, ve, vp, vs, va, rfl, hla, hB3⟩
    have HSP : Hid (Sp18 l nm r) := by
      rcases hof with ⟨n, c, hc, hke, rfl⟩ | ⟨q, K', hky', rfl⟩
      · exact absurd (kept_not_err HKY.out hke) hc
      · obtain ⟨rfl, rfl⟩ := keptYes_same HKY.out hky'
        exact .inr ⟨_, _, hky', rfl⟩
    obtain ⟨p1, d1, p2', d2, p3, d3, p4, d4, rfl, rfl, rfl, rfl⟩ := hla.shape
    obtain ⟨⟨⟨rp, re, rq, rc⟩, ren, rs, ra⟩, rn, rcd⟩ := r
    simp only [] at hla HSP
    have HLA := Lib.hid hla
    have HR3 := Lib.hid ((hB3.block _ z2).trans HR2.out)
    have HB3 : Hid (Below w.heap.size w w3) := HB2.out.trans (hB3.mono HB2.out.size)
    have HPUT := Lib.hid (sevens (zput (u0 := .int .u32 rp) (u1 := .slice p1 re.length d1) (u2 := .slice p2' rq.length d2) (u3 := .bool rc) (u4 := .int .u32 ren) (u5 := .slice p3 rs.length d3) (u6 := .slice p4 ra.length d4) HR3.out))
    obtain ⟨r0, r1, r2, r3, r4, r5, r6, rz⟩ := zfacts HR3.out
    unfold linkV
    clear hla hof hB3
    go_wp2_with fail
    obtain ⟨x0, x1, x2, x3, x4, x5, x6⟩ := HPUT.out
    refine bodyPost_ret (v := .tuple #[.agg #[.int .u32 rp, .slice p1 re.length d1, .slice p2' rq.length d2, .bool rc, .int .u32 ren, .slice p3 rs.length d3, .slice p4 ra.length d4], .string rn, .int .i64 rcd]) (by simp [results, Tryz.results16, go_sem, x0, x1, x2, x3, x4, x5, x6]) rfl ?_
    exact ⟨_, HSP.out, _, _, _, _, rfl, HLA.out.kb HR3.out (put7_kb w3 w.heap.size), put7_below HB3.out (Nat.le_refl _)⟩
  · have HKE := Lib.hid hke
    have hcb : (c != 0) = true := by simpa using hc
    have hr := (hB2.block _ (by omega)).trans HR1.out
    obtain ⟨r0, r1, r2, r3, r4, r5, r6, rz⟩ := zfacts hr
    have HPUT := Lib.hid (sevens (zput (u0 := .int .u32 0) (u1 := .slice none 0 0) (u2 := .slice none 0 0) (u3 := .bool false) (u4 := .int .u32 0) (u5 := .slice none 0 0) (u6 := .slice none 0 0) hr))
    have HB2 : Hid (Below w.heap.size w w2) := HB1.out.trans (hB2.mono (by omega))
    have HC := Lib.hid hc
    clear hB2 hke hr hc
    go_wp2_with fail
    obtain ⟨x0, x1, x2, x3, x4, x5, x6⟩ := HPUT.out
    refine bodyPost_ret (v := .tuple #[.agg #[.int .u32 0, .slice none 0 0, .slice none 0 0, .bool false, .int .u32 0, .slice none 0 0, .slice none 0 0], .string n, .int .i64 c]) (by simp [results, Tryz.results16, go_sem, x0, x1, x2, x3, x4, x5, x6]) rfl ?_
    exact ⟨(link0, n, c), .inl ⟨n, c, HC.out, HKE.out, rfl⟩, _, _, _, _, rfl, link0_at _, put7_below HB2.out (Nat.le_refl _)⟩
set_option maxRecDepth 100000 in
set_option maxHeartbeats 4000000 in
theorem rFull18_any (v : Value) (l : List GObj) (nm : ByteArray) (w : World) (h : ObjsAt w v l) (hs : SameR l) (hb : mayAll l = true → ∀ o ∈ l, ∀ s ∈ o.syms, s.bytes.size < 4294967296) :
    Calls Tryz.prog 14 #[.string nm, v] w fun e w' => ∃ r, Fu18 l nm r ∧ LPost w r e w' := by
  have HKC : Hid (∀ W, Below w.heap.size w W → Calls Tryz.prog 52 #[.string nm, v] W (AllPost18 l nm W)) := fun W hW => rAll13_any v l nm W (h.keep hW) hs
  have HLO : Hid (∀ W pv K, Below w.heap.size w W → RowAt 2 PlaceR W pv K → K.length ≤ 1024 → Calls Tryz.prog 18 #[.string nm, pv, v] W fun e w' => ∃ r, Of18 l nm (K.map toG) r ∧ LPost W r e w') := fun W pv K hW hr hl => rOf18_any v pv l (K.map toG) nm W (h.keep hW) (places_g hr) (by simp; omega) hs hb
  obtain ⟨qv, cv, hv⟩ : ∃ (pv : Option Addr) (cv : Nat), v = .slice pv l.length cv := by obtain ⟨p, cap, b, o, rfl, _⟩ := h; exact ⟨p, cap, rfl⟩
  subst hv
  clear h hb hs
  generalize hW : (w.alloc (.cells #[.int .u32 0, .slice none 0 0, .slice none 0 0, .bool false, .int .u32 0, .slice none 0 0, .slice none 0 0] 37)) = w1
  have z1 : w1.heap.size = w.heap.size + 1 := by subst hW; simp
  have HB1 : Hid (Below w.heap.size w w1) := by subst hW; exact alloc_old w _
  have HR1 : Hid (w1.heap[w.heap.size]? = some (.cells zlink 37 (0, 0))) := by subst hW; exact new_block w _
  go_enter Tryz.func14, Tryz.ntmps14
  go_wp2_with fail
  try rw [hW]
  clear hW
  refine (HKC.out _ HB1.out).mono ?_
  rintro e w2 ⟨⟨vo, he0, ht0, hrow, rfl⟩ | ⟨n, c, hc, rfl, hke⟩, hB2⟩
  · have HLK := Lib.hid (HLO.out w2 vo (allK l) (HB1.out.trans (hB2.mono (by omega))) hrow (all_len he0))
    have HKY := Lib.hid (And.intro he0 ht0)
    obtain ⟨p2, c2, b2, o2, rfl, -⟩ := hrow
    have HB2 : Hid (Below w.heap.size w w2) := HB1.out.trans (hB2.mono (by omega))
    have HR2 : Hid (w2.heap[w.heap.size]? = some (.cells zlink 37 (0, 0))) := (hB2.block _ (by omega)).trans HR1.out
    have z2 : w.heap.size < w2.heap.size := by have := hB2.size; omega
    clear he0 ht0 hB2 HKC HLO
    go_wp2_with fail
    refine HLK.out.mono ?_
    rintro e w3 ⟨r, hof, ve, vp, vs, va, rfl, hla, hB3⟩
    have HSP : Hid (Fu18 l nm r) := .inr ⟨HKY.out.1, HKY.out.2, hof⟩
    obtain ⟨p1, d1, p2', d2, p3, d3, p4, d4, rfl, rfl, rfl, rfl⟩ := hla.shape
    obtain ⟨⟨⟨rp, re, rq, rc⟩, ren, rs, ra⟩, rn, rcd⟩ := r
    simp only [] at hla HSP
    have HLA := Lib.hid hla
    have HR3 := Lib.hid ((hB3.block _ z2).trans HR2.out)
    have HB3 : Hid (Below w.heap.size w w3) := HB2.out.trans (hB3.mono HB2.out.size)
    have HPUT := Lib.hid (sevens (zput (u0 := .int .u32 rp) (u1 := .slice p1 re.length d1) (u2 := .slice p2' rq.length d2) (u3 := .bool rc) (u4 := .int .u32 ren) (u5 := .slice p3 rs.length d3) (u6 := .slice p4 ra.length d4) HR3.out))
    obtain ⟨r0, r1, r2, r3, r4, r5, r6, rz⟩ := zfacts HR3.out
    unfold linkV
    clear hla hof hB3
    go_wp2_with fail
    obtain ⟨x0, x1, x2, x3, x4, x5, x6⟩ := HPUT.out
    refine bodyPost_ret (v := .tuple #[.agg #[.int .u32 rp, .slice p1 re.length d1, .slice p2' rq.length d2, .bool rc, .int .u32 ren, .slice p3 rs.length d3, .slice p4 ra.length d4], .string rn, .int .i64 rcd]) (by simp [results, Tryz.results14, go_sem, x0, x1, x2, x3, x4, x5, x6]) rfl ?_
    exact ⟨_, HSP.out, _, _, _, _, rfl, HLA.out.kb HR3.out (put7_kb w3 w.heap.size), put7_below HB3.out (Nat.le_refl _)⟩
  · have HKE := Lib.hid hke
    have hcb : (c != 0) = true := by simpa using hc
    have hr := (hB2.block _ (by omega)).trans HR1.out
    obtain ⟨r0, r1, r2, r3, r4, r5, r6, rz⟩ := zfacts hr
    have HPUT := Lib.hid (sevens (zput (u0 := .int .u32 0) (u1 := .slice none 0 0) (u2 := .slice none 0 0) (u3 := .bool false) (u4 := .int .u32 0) (u5 := .slice none 0 0) (u6 := .slice none 0 0) hr))
    have HB2 : Hid (Below w.heap.size w w2) := HB1.out.trans (hB2.mono (by omega))
    have HC := Lib.hid hc
    clear hB2 hke hr hc
    go_wp2_with fail
    obtain ⟨x0, x1, x2, x3, x4, x5, x6⟩ := HPUT.out
    refine bodyPost_ret (v := .tuple #[.agg #[.int .u32 0, .slice none 0 0, .slice none 0 0, .bool false, .int .u32 0, .slice none 0 0, .slice none 0 0], .string n, .int .i64 c]) (by simp [results, Tryz.results14, go_sem, x0, x1, x2, x3, x4, x5, x6]) rfl ?_
    exact ⟨(link0, n, c), .inl ⟨n, c, HC.out, HKE.out, rfl⟩, _, _, _, _, rfl, link0_at _, put7_below HB2.out (Nat.le_refl _)⟩
end Go.Proofs.YtdjgkmpjhpnkeaaGreatDoor
namespace Go.Proofs.YtdjgkmpjhpnkeaaGreatDoor
open Go.RowKit Go.Maps
set_option maxHeartbeats 2000000 in
theorem same11_any (m : GMan) (va1 va2 vb1 vb2 : Value) (w : World) (ha : ManAt w m va1 va2) (hb : ManAt w m vb1 vb2) :
    Calls Tryz.prog 169 #[.agg #[.int .u32 m.pages, va1, va2, .bool m.cons], .agg #[.int .u32 m.pages, vb1, vb2, .bool m.cons]] w fun e w' => e = .returned (.bool true) ∧ Below w.heap.size w w' := by
  obtain ⟨mp, me, mq, mc⟩ := m
  obtain ⟨⟨p1, c1, b1, o1, rfl, -, hm1, hp1, hc1⟩, ⟨p2, c2, b2, o2, rfl, -, hm2, hp2, hc2⟩, -⟩ := ha
  obtain ⟨⟨p3, c3, b3, o3, rfl, -, -, hp3, hc3⟩, ⟨p4, c4, b4, o4, rfl, -, -, hp4, hc4⟩, -⟩ := hb
  simp only [] at *
  have HC1 := Lib.hid hc1; clear hc1
  have HC2 := Lib.hid hc2; clear hc2
  have HC3 := Lib.hid hc3; clear hc3
  have HC4 := Lib.hid hc4; clear hc4
  have HP1 := Lib.hid hp1; clear hp1
  have HP2 := Lib.hid hp2; clear hp2
  have HP3 := Lib.hid hp3; clear hp3
  have HP4 := Lib.hid hp4; clear hp4
  generalize hW : (w.alloc (.cells #[.int .u32 mp, .slice p1 me.length c1, .slice p2 mq.length c2, .bool mc] 31)).alloc (.cells #[.int .u32 mp, .slice p3 me.length c3, .slice p4 mq.length c4, .bool mc] 31) = w2
  have HB2 : Hid (Below w.heap.size w w2) := by subst hW; exact (alloc_old w _).alloc (by simp) _
  have hz2 : w2.heap.size = w.heap.size + 2 := by subst hW; simp
  have HM : Hid (w2.heap[w.heap.size]? = some (.cells #[.int .u32 mp, .slice p1 me.length c1, .slice p2 mq.length c2, .bool mc] 31 (0, 0))) := by subst hW; exact (Below.heap_alloc _ _ _ (by simp)).trans (new_block w _)
  have HN : Hid (w2.heap[w.heap.size + 1]? = some (.cells #[.int .u32 mp, .slice p3 me.length c3, .slice p4 mq.length c4, .bool mc] 31 (0, 0))) := by subst hW; rw [Hid]; have := new_block (w.alloc (.cells #[.int .u32 mp, .slice p1 me.length c1, .slice p2 mq.length c2, .bool mc] 31)) (.cells #[.int .u32 mp, .slice p3 me.length c3, .slice p4 mq.length c4, .bool mc] 31); simpa using this
  subst hW
  go_enter Tryz.func169, Tryz.ntmps169
  go_wp2
  generalize (w.alloc (.cells #[.int .u32 mp, .slice p1 me.length c1, .slice p2 mq.length c2, .bool mc] 31)).alloc (.cells #[.int .u32 mp, .slice p3 me.length c3, .slice p4 mq.length c4, .bool mc] 31) = w2 at *
  have a1 := Lib.cell_of_heap HM.out 1
  have a2 := Lib.cell_of_heap HM.out 2
  have d1 := Lib.cell_of_heap HN.out 1
  have d2 := Lib.cell_of_heap HN.out 2
  go_loopw [5] (fun v5 wr => ∃ k : Nat, v5 = .int .i64 k ∧ k ≤ me.length ∧ Below w2.heap.size w2 wr) (fun v5 _ => me.length - (intOf v5).toNat)
  case atStart => exact ⟨0, by go_num, Nat.zero_le _, Below.refl _ _⟩
  case round =>
    obtain ⟨k, rfl, hk, hB⟩ := hrel
    have HB := Lib.hid hB
    have HBO : Hid (Below w.heap.size w wr) := HB2.out.trans (hB.mono (by omega))
    have hzr : w.heap.size + 1 < wr.heap.size := by have := hB.size; omega
    replace a1 := cell_keep hB (by omega) a1
    replace a2 := cell_keep hB (by omega) a2
    replace d1 := cell_keep hB (by omega) d1
    replace d2 := cell_keep hB (by omega) d2
    clear hB
    by_cases hlt : k < me.length
    · obtain rfl := HP1.out (by omega)
      obtain rfl := HP3.out (by omega)
      obtain ⟨g0, g1, g2, -⟩ := extR_keeps _ _ _ _ _ HBO.out (HC1.out k hlt)
      obtain ⟨f0, f1, f2, -⟩ := extR_keeps _ _ _ _ _ HBO.out (HC3.out k hlt)
      generalize me[k] = x at g1 g2 f1 f2
      obtain ⟨x1, x2⟩ := x
      simp only [] at g1 g2 f1 f2
      go_wp2
      go_region
      all_goals
        go_wp2_with fail
        go_roundw
        case rel => exact ⟨k + 1, by go_num, by omega, HB.out.drew⟩
        case measure => simp [intOf]; omega
    · have hkk : k = me.length := by omega
      subst hkk
      obtain ⟨w3, hw3⟩ : ∃ w3, w3 = wr := ⟨_, rfl⟩
      subst hw3
      go_wp2
      go_loopw [6] (fun v6 wr => ∃ k : Nat, v6 = .int .i64 k ∧ k ≤ mq.length ∧ Below w3.heap.size w3 wr) (fun v6 _ => mq.length - (intOf v6).toNat)
      case atStart => exact ⟨0, by go_num, Nat.zero_le _, Below.refl _ _⟩
      case round =>
        obtain ⟨k, rfl, hk, hB⟩ := hrel
        have HBT := Lib.hid hB
        have HBO2 : Hid (Below w.heap.size w wr) := HBO.out.trans (hB.mono (by omega))
        replace a1 := cell_keep hB (by omega) a1
        replace a2 := cell_keep hB (by omega) a2
        replace d1 := cell_keep hB (by omega) d1
        replace d2 := cell_keep hB (by omega) d2
        clear hB
        by_cases hlt : k < mq.length
        · obtain rfl := HP2.out (by omega)
          obtain rfl := HP4.out (by omega)
          obtain ⟨g0, g1, -⟩ := portR_keeps _ _ _ _ _ HBO2.out (HC2.out k hlt)
          obtain ⟨f0, f1, -⟩ := portR_keeps _ _ _ _ _ HBO2.out (HC4.out k hlt)
          rw [Nat.mul_one] at g1 f1
          generalize mq[k] = x at g1 f1
          go_wp2
          go_region
          all_goals
            go_wp2_with fail
            go_roundw
            case rel => exact ⟨k + 1, by go_num, by omega, HBT.out.drew⟩
            case measure => simp [intOf]; omega
        · go_wp2
          go_ret
          exact ⟨rfl, HBO2.out⟩
end Go.Proofs.YtdjgkmpjhpnkeaaGreatDoor
namespace Go.Proofs.YtdjgkmpjhpnkeaaGreatDoor
open Go.RowKit Go.Maps
set_option maxRecDepth 100000 in
set_option maxHeartbeats 2000000 in
theorem same16_any (x : GLink) (ve vp vs ve' vp' vs' : Value) (w : World) (h1 : ManAt w x.man ve vp) (h2 : RowAt 3 SegR w vs x.segs) (h3 : ManAt w x.man ve' vp') (h4 : RowAt 3 SegR w vs' x.segs) :
    Calls Tryz.prog 71 #[.agg #[.int .u32 x.man.pages, ve, vp, .bool x.man.cons, .int .u32 x.entry, vs], .agg #[.int .u32 x.man.pages, ve', vp', .bool x.man.cons, .int .u32 x.entry, vs']] w fun e w' => e = .returned (.bool true) ∧ Below w.heap.size w w' := by
  obtain ⟨⟨mp, me, mq, mc⟩, en, sg, ad⟩ := x
  simp only [] at *
  have HM1 := Lib.hid h1
  have HM2 := Lib.hid h3
  obtain ⟨⟨p1, c1, b1, o1, rfl, -⟩, ⟨p2, c2, b2, o2, rfl, -⟩, -⟩ := h1
  obtain ⟨⟨p3, c3, b3, o3, rfl, -⟩, ⟨p4, c4, b4, o4, rfl, -⟩, -⟩ := h3
  obtain ⟨p5, c5, b5, o5, rfl, -, hm5, hp5, hc5⟩ := h2
  obtain ⟨p6, c6, b6, o6, rfl, -, hm6, hp6, hc6⟩ := h4
  have HC5 := Lib.hid hc5; clear hc5
  have HC6 := Lib.hid hc6; clear hc6
  have HP5 := Lib.hid hp5; clear hp5
  have HP6 := Lib.hid hp6; clear hp6
  generalize hW : (w.alloc (.cells #[.int .u32 mp, .slice p1 me.length c1, .slice p2 mq.length c2, .bool mc, .int .u32 en, .slice p5 sg.length c5] 34)).alloc (.cells #[.int .u32 mp, .slice p3 me.length c3, .slice p4 mq.length c4, .bool mc, .int .u32 en, .slice p6 sg.length c6] 34) = w2
  have HB2 : Hid (Below w.heap.size w w2) := by subst hW; exact (alloc_old w _).alloc (by simp) _
  have hz2 : w2.heap.size = w.heap.size + 2 := by subst hW; simp
  have HM : Hid (w2.heap[w.heap.size]? = some (.cells #[.int .u32 mp, .slice p1 me.length c1, .slice p2 mq.length c2, .bool mc, .int .u32 en, .slice p5 sg.length c5] 34 (0, 0))) := by subst hW; exact (Below.heap_alloc _ _ _ (by simp)).trans (new_block w _)
  have HN : Hid (w2.heap[w.heap.size + 1]? = some (.cells #[.int .u32 mp, .slice p3 me.length c3, .slice p4 mq.length c4, .bool mc, .int .u32 en, .slice p6 sg.length c6] 34 (0, 0))) := by
    subst hW; rw [Hid]
    have := new_block (w.alloc (.cells #[.int .u32 mp, .slice p1 me.length c1, .slice p2 mq.length c2, .bool mc, .int .u32 en, .slice p5 sg.length c5] 34)) (.cells #[.int .u32 mp, .slice p3 me.length c3, .slice p4 mq.length c4, .bool mc, .int .u32 en, .slice p6 sg.length c6] 34)
    simpa using this
  have a0 := Lib.cell_of_heap HM.out 0
  have a1 := Lib.cell_of_heap HM.out 1
  have a2 := Lib.cell_of_heap HM.out 2
  have a3 := Lib.cell_of_heap HM.out 3
  have d0 := Lib.cell_of_heap HN.out 0
  have d1 := Lib.cell_of_heap HN.out 1
  have d2 := Lib.cell_of_heap HN.out 2
  have d3 := Lib.cell_of_heap HN.out 3
  have HSM := Lib.hid (same11_any ⟨mp, me, mq, mc⟩ _ _ _ _ w2 (HM1.out.keep HB2.out) (HM2.out.keep HB2.out))
  simp only [] at HSM
  go_enter Tryz.func71, Tryz.ntmps71
  go_wp2_with fail
  try rw [hW]
  clear hW
  go_wp2_with fail
  clear a0 a1 a2 a3 d0 d1 d2 d3
  refine HSM.out.mono ?_
  rintro e w3 ⟨rfl, hB3⟩
  have HM3 := Lib.hid ((hB3.block _ (by omega)).trans HM.out)
  have HN3 := Lib.hid ((hB3.block _ (by omega)).trans HN.out)
  have HB3 : Hid (Below w.heap.size w w3) := HB2.out.trans (hB3.mono HB2.out.size)
  have hz3 : w.heap.size + 1 < w3.heap.size := by have := hB3.size; omega
  clear hB3 HB2 HM HN HSM
  have a4 := Lib.cell_of_heap HM3.out 4
  have a5 := Lib.cell_of_heap HM3.out 5
  have d4 := Lib.cell_of_heap HN3.out 4
  have d5 := Lib.cell_of_heap HN3.out 5
  go_wp2_with fail
  go_loopw [5] (fun v5 wr => ∃ k : Nat, v5 = .int .i64 k ∧ k ≤ sg.length ∧ Below w3.heap.size w3 wr) (fun v5 _ => sg.length - (intOf v5).toNat)
  case atStart => exact ⟨0, by go_num, Nat.zero_le _, Below.refl _ _⟩
  case round =>
    obtain ⟨k, rfl, hk, hB⟩ := hrel
    have HB := Lib.hid hB
    have HBO : Hid (Below w.heap.size w wr) := HB3.out.trans (hB.mono (by omega))
    replace a5 := cell_keep hB (by omega) a5
    replace d5 := cell_keep hB (by omega) d5
    clear hB
    by_cases hlt : k < sg.length
    · obtain rfl := HP5.out (by omega)
      obtain rfl := HP6.out (by omega)
      obtain ⟨g0, g1, g2, g3, -⟩ := segR_keeps _ _ _ _ _ HBO.out (HC5.out k hlt)
      obtain ⟨f0, f1, f2, f3, -⟩ := segR_keeps _ _ _ _ _ HBO.out (HC6.out k hlt)
      generalize sg[k] = x at g1 g2 g3 f1 f2 f3
      obtain ⟨x1, x2, x3⟩ := x
      simp only [] at g1 g2 g3 f1 f2 f3
      go_wp2
      go_region
      all_goals
        go_wp2_with fail
        go_roundw
        case rel => exact ⟨k + 1, by go_num, by omega, HB.out.drew⟩
        case measure => simp [intOf]; omega
    · go_wp2
      go_ret
      exact ⟨rfl, HBO.out⟩
set_option maxRecDepth 100000 in
set_option maxHeartbeats 2000000 in
theorem same18_any (x : GLink) (ve vp vs va ve' vp' vs' va' : Value) (w : World) (h1 : LinkAt w x ve vp vs va) (h2 : LinkAt w x ve' vp' vs' va') :
    Calls Tryz.prog 20 #[.agg #[.int .u32 x.man.pages, ve, vp, .bool x.man.cons, .int .u32 x.entry, vs, va], .agg #[.int .u32 x.man.pages, ve', vp', .bool x.man.cons, .int .u32 x.entry, vs', va']] w fun e w' => e = .returned (.bool true) ∧ Below w.heap.size w w' := by
  have H1 := Lib.hid h1
  have H2 := Lib.hid h2
  obtain ⟨p1, c1, p2, c2, p3, c3, p4, c4, rfl, rfl, rfl, rfl⟩ := h1.shape
  obtain ⟨q1, e1, q2, e2, q3, e3, q4, e4, rfl, rfl, rfl, rfl⟩ := h2.shape
  clear h1 h2
  generalize hW : (w.alloc (.cells #[.int .u32 x.man.pages, .slice p1 x.man.exts.length c1, .slice p2 x.man.ports.length c2, .bool x.man.cons, .int .u32 x.entry, .slice p3 x.segs.length c3, .slice p4 x.addrs.length c4] 37)).alloc (.cells #[.int .u32 x.man.pages, .slice q1 x.man.exts.length e1, .slice q2 x.man.ports.length e2, .bool x.man.cons, .int .u32 x.entry, .slice q3 x.segs.length e3, .slice q4 x.addrs.length e4] 37) = w2
  have HB2 : Hid (Below w.heap.size w w2) := by subst hW; exact (alloc_old w _).alloc (by simp) _
  have hz2 : w2.heap.size = w.heap.size + 2 := by subst hW; simp
  have HM : Hid (w2.heap[w.heap.size]? = some (.cells #[.int .u32 x.man.pages, .slice p1 x.man.exts.length c1, .slice p2 x.man.ports.length c2, .bool x.man.cons, .int .u32 x.entry, .slice p3 x.segs.length c3, .slice p4 x.addrs.length c4] 37 (0, 0))) := by subst hW; exact (Below.heap_alloc _ _ _ (by simp)).trans (new_block w _)
  have HN : Hid (w2.heap[w.heap.size + 1]? = some (.cells #[.int .u32 x.man.pages, .slice q1 x.man.exts.length e1, .slice q2 x.man.ports.length e2, .bool x.man.cons, .int .u32 x.entry, .slice q3 x.segs.length e3, .slice q4 x.addrs.length e4] 37 (0, 0))) := by
    subst hW; rw [Hid]
    have := new_block (w.alloc (.cells #[.int .u32 x.man.pages, .slice p1 x.man.exts.length c1, .slice p2 x.man.ports.length c2, .bool x.man.cons, .int .u32 x.entry, .slice p3 x.segs.length c3, .slice p4 x.addrs.length c4] 37)) (.cells #[.int .u32 x.man.pages, .slice q1 x.man.exts.length e1, .slice q2 x.man.ports.length e2, .bool x.man.cons, .int .u32 x.entry, .slice q3 x.segs.length e3, .slice q4 x.addrs.length e4] 37)
    simpa using this
  have HSM := Lib.hid (same16_any x _ _ _ _ _ _ w2 (H1.out.keep HB2.out).1 (H1.out.keep HB2.out).2.1 (H2.out.keep HB2.out).1 (H2.out.keep HB2.out).2.1)
  obtain ⟨⟨mp, me, mq, mc⟩, en, sg, ad⟩ := x
  simp only [] at *
  have a0 := Lib.cell_of_heap HM.out 0
  have a1 := Lib.cell_of_heap HM.out 1
  have a2 := Lib.cell_of_heap HM.out 2
  have a3 := Lib.cell_of_heap HM.out 3
  have a4 := Lib.cell_of_heap HM.out 4
  have a5 := Lib.cell_of_heap HM.out 5
  have d0 := Lib.cell_of_heap HN.out 0
  have d1 := Lib.cell_of_heap HN.out 1
  have d2 := Lib.cell_of_heap HN.out 2
  have d3 := Lib.cell_of_heap HN.out 3
  have d4 := Lib.cell_of_heap HN.out 4
  have d5 := Lib.cell_of_heap HN.out 5
  go_enter Tryz.func20, Tryz.ntmps20
  go_wp2_with fail
  try rw [hW]
  clear hW
  go_wp2_with fail
  clear a0 a1 a2 a3 a4 a5 d0 d1 d2 d3 d4 d5
  refine HSM.out.mono ?_
  rintro e w3 ⟨rfl, hB3⟩
  have HM3 := Lib.hid ((hB3.block _ (by omega)).trans HM.out)
  have HN3 := Lib.hid ((hB3.block _ (by omega)).trans HN.out)
  have HB3 : Hid (Below w.heap.size w w3) := HB2.out.trans (hB3.mono HB2.out.size)
  clear hB3 HB2 HM HN HSM
  have a6 := Lib.cell_of_heap HM3.out 6
  have d6 := Lib.cell_of_heap HN3.out 6
  have HSA := Lib.hid (sameAddrs_any _ _ ad w3 (H1.out.keep HB3.out).2.2.1 (H2.out.keep HB3.out).2.2.1)
  go_wp2_with fail
  refine HSA.out.mono ?_
  rintro e w4 ⟨rfl, hB4⟩
  go_wp2_with fail
  go_ret
  exact ⟨rfl, HB3.out.trans (hB4.mono HB3.out.size)⟩
end Go.Proofs.YtdjgkmpjhpnkeaaGreatDoor
namespace Go.Proofs.YtdjgkmpjhpnkeaaGreatDoor
open Go.RowKit Go.Maps
def m18 : ByteArray := ⟨#[109, 97, 105, 110]⟩
def d18 : ByteArray := ⟨#[100]⟩
def f18 : ByteArray := ⟨#[102]⟩
def eight18 : ByteArray := ⟨#[49, 50, 51, 52, 53, 54, 55, 56]⟩
def syms18 : List GSym := [⟨m18, 1, 1, 8, eight18, [⟨4, 1, d18, 0⟩], []⟩, ⟨d18, 1, 2, 4, ⟨#[]⟩, [], [⟨3, 7, 0⟩]⟩, ⟨f18, 1, 1, 8, eight18, [], [⟨3, 9, 0⟩]⟩]
def l18 : List GObj := [⟨⟨#[111]⟩, syms18⟩]
set_option maxRecDepth 100000 in
set_option maxHeartbeats 2000000 in
theorem three18_any (w : World) : Calls Tryz.prog 49 #[] w fun e w' => (∃ b, e = .returned (.agg #[.string ⟨#[111]⟩, .slice (some ⟨b, 0, none⟩) 3 3]) ∧ RowAt 7 SymR w' (.slice (some ⟨b, 0, none⟩) 3 3) syms18) ∧ Below w.heap.size w w' := by
  go_enter Tryz.func49, Tryz.ntmps49
  go_wp2_with fail
  refine bodyPost_ret (v := .agg #[.string ⟨#[111]⟩, .slice (some ⟨w.heap.size + 1 + 1 + 1 + 1 + 1 + 1 + 1, 0, none⟩) 3 3]) (by simp [results, Tryz.results49, go_sem]) rfl ?_
  generalize hW : ((((((((w.alloc _).alloc _).alloc _).alloc _).alloc _).alloc _).alloc _).alloc _) = wF
  have hz : wF.heap.size = w.heap.size + 8 := by subst hW; simp
  have hB : Below w.heap.size w wF := by subst hW; exact (((((((alloc_old w _).alloc (by simp) _).alloc (by simp; omega) _).alloc (by simp; omega) _).alloc (by simp; omega) _).alloc (by simp; omega) _).alloc (by simp; omega) _).alloc (by simp; omega) _
  have q : ∀ j u, (#[.int .u32 4, .int .u8 1, .string d18, .int .u32 0] : Array Value)[j]? = some u → wF.cell? ⟨w.heap.size + 1, j, none⟩ = some u := by
    subst hW
    intro j u hu
    match j, hu with
    | 0, hu => cases hu; simp [go_sem, d18]
    | 1, hu => cases hu; simp [go_sem]
    | 2, hu => cases hu; simp [go_sem, d18]
    | 3, hu => cases hu; simp [go_sem]
  have n1 : ∀ j u, (#[.int .u8 3, .int .u32 7, .int .u32 0] : Array Value)[j]? = some u → wF.cell? ⟨w.heap.size + 1 + 1 + 1, j, none⟩ = some u := by
    subst hW
    intro j u hu
    match j, hu with
    | 0, hu => cases hu; simp [go_sem]
    | 1, hu => cases hu; simp [go_sem]
    | 2, hu => cases hu; simp [go_sem]
  have n2 : ∀ j u, (#[.int .u8 3, .int .u32 9, .int .u32 0] : Array Value)[j]? = some u → wF.cell? ⟨w.heap.size + 1 + 1 + 1 + 1 + 1, j, none⟩ = some u := by
    subst hW
    intro j u hu
    match j, hu with
    | 0, hu => cases hu; simp [go_sem]
    | 1, hu => cases hu; simp [go_sem]
    | 2, hu => cases hu; simp [go_sem]
  have s : ∀ j u, (#[.string m18, .int .u8 1, .int .u8 1, .int .u32 8, .string eight18, .slice (some ⟨w.heap.size + 1, 0, none⟩) 1 1, .slice none 0 0, .string d18, .int .u8 1, .int .u8 2, .int .u32 4, .string ⟨#[]⟩, .slice none 0 0, .slice (some ⟨w.heap.size + 1 + 1 + 1, 0, none⟩) 1 1, .string f18, .int .u8 1, .int .u8 1, .int .u32 8, .string eight18, .slice none 0 0, .slice (some ⟨w.heap.size + 1 + 1 + 1 + 1 + 1, 0, none⟩) 1 1] : Array Value)[j]? = some u → wF.cell? ⟨w.heap.size + 1 + 1 + 1 + 1 + 1 + 1 + 1, j, none⟩ = some u := by
    subst hW
    intro j u hu
    match j, hu with
    | 0, hu => cases hu; simp [go_sem, m18]
    | 1, hu => cases hu; simp [go_sem]
    | 2, hu => cases hu; simp [go_sem]
    | 3, hu => cases hu; simp [go_sem]
    | 4, hu => cases hu; simp [go_sem, eight18]
    | 5, hu => cases hu; simp [go_sem]
    | 6, hu => cases hu; simp [go_sem]
    | 7, hu => cases hu; simp [go_sem, d18]
    | 8, hu => cases hu; simp [go_sem]
    | 9, hu => cases hu; simp [go_sem]
    | 10, hu => cases hu; simp [go_sem]
    | 11, hu => cases hu; simp [go_sem]
    | 12, hu => cases hu; simp [go_sem]
    | 13, hu => cases hu; simp [go_sem]
    | 14, hu => cases hu; simp [go_sem, f18]
    | 15, hu => cases hu; simp [go_sem]
    | 16, hu => cases hu; simp [go_sem]
    | 17, hu => cases hu; simp [go_sem]
    | 18, hu => cases hu; simp [go_sem, eight18]
    | 19, hu => cases hu; simp [go_sem]
    | 20, hu => cases hu; simp [go_sem]
  clear hW
  refine ⟨⟨_, rfl, rowAt_three ⟨_, _, by omega, s 0 _ rfl, s 1 _ rfl, s 2 _ rfl, s 3 _ rfl, s 4 _ rfl, s 5 _ rfl, s 6 _ rfl, ?_⟩ ⟨_, _, by omega, s 7 _ rfl, s 8 _ rfl, s 9 _ rfl, s 10 _ rfl, s 11 _ rfl, s 12 _ rfl, s 13 _ rfl, ?_⟩ ⟨_, _, by omega, s 14 _ rfl, s 15 _ rfl, s 16 _ rfl, s 17 _ rfl, s 18 _ rfl, s 19 _ rfl, s 20 _ rfl, ?_⟩ (by omega)⟩, hB⟩
  · exact ⟨rowAt_one ⟨by omega, q 0 _ rfl, q 1 _ rfl, q 2 _ rfl, q 3 _ rfl, by simp, by simp, by simp, by decide⟩ (by omega), rowAt_nil, by simp, by simp, by simp, by decide, by decide⟩
  · exact ⟨rowAt_nil, rowAt_one ⟨by omega, n1 0 _ rfl, n1 1 _ rfl, n1 2 _ rfl, by simp, by simp, by simp⟩ (by omega), by simp, by simp, by simp, by decide, by decide⟩
  · exact ⟨rowAt_nil, rowAt_one ⟨by omega, n2 0 _ rfl, n2 1 _ rfl, n2 2 _ rfl, by simp, by simp, by simp⟩ (by omega), by simp, by simp, by simp, by decide, by decide⟩
end Go.Proofs.YtdjgkmpjhpnkeaaGreatDoor
namespace Go.Proofs.YtdjgkmpjhpnkeaaGreatDoor
theorem b18 : (beginR l18).2 = 0 := by decide +kernel
theorem fm18 : findR l18 (-1) m18.data.toList = some (0, 0) := by decide +kernel
theorem fd18 : findR l18 (-1) d18.data.toList = some (0, 1) := by decide +kernel
theorem fr18 : findR l18 0 d18.data.toList = some (0, 1) := by decide +kernel
theorem k00_18 (q : PP) : knowsP l18 (0, 0) q ↔ q = (0, 1) := by
  constructor
  · rintro ⟨x, hx, hf⟩
    have : x = ⟨4, 1, d18, 0⟩ := by
      have h : relsAt l18 0 0 = [⟨4, 1, d18, 0⟩] := rfl
      rw [h] at hx; exact List.mem_singleton.1 hx
    subst this
    have h2 : findR l18 0 d18.data.toList = some q := hf
    rw [fr18] at h2
    exact (Option.some.inj h2).symm
  · rintro rfl
    exact ⟨⟨4, 1, d18, 0⟩, by rw [show relsAt l18 (0, 0).1 (0, 0).2 = [⟨4, 1, d18, 0⟩] from rfl]; exact List.mem_singleton.2 rfl, fr18⟩
theorem k01_18 (q : PP) : ¬ knowsP l18 (0, 1) q := by
  rintro ⟨x, hx, hf⟩
  have h : relsAt l18 0 1 = [] := rfl
  rw [h] at hx; cases hx
theorem reach18 (x : PP) : Reach l18 (0, 0) x ↔ x = (0, 0) ∨ x = (0, 1) := by
  constructor
  · intro h
    induction h with
    | refl => exact .inl rfl
    | step _ k ih =>
      rcases ih with rfl | rfl
      · exact .inr ((k00_18 _).1 k)
      · exact absurd k (k01_18 _)
  · rintro (rfl | rfl)
    · exact .refl
    · exact .step .refl ((k00_18 _).2 rfl)
theorem reach18d (x : PP) : Reach l18 (0, 1) x ↔ x = (0, 1) := by
  constructor
  · intro h
    induction h with
    | refl => rfl
    | step _ k ih => subst ih; exact absurd k (k01_18 _)
  · rintro rfl; exact .refl
theorem kept18 : KeptOf l18 (0, 0) [(0, 0), (0, 1)] := by
  refine ⟨List.pairwise_cons.2 ⟨fun a ha => ?_, List.pairwise_cons.2 ⟨fun a ha => (by cases ha), List.Pairwise.nil⟩⟩, fun x => ?_⟩
  · obtain rfl := List.mem_singleton.1 ha
    exact .inr ⟨rfl, by decide⟩
  · rw [reach18]; simp
theorem kept18d : KeptOf l18 (0, 1) [(0, 1)] := ⟨List.pairwise_singleton _ _, fun x => by rw [reach18d]; simp⟩
theorem yes18 : KeptYes l18 m18 (0, 0) [(0, 0), (0, 1)] := ⟨b18, fm18, kept18, fun x hx => by
  rcases List.mem_cons.1 hx with rfl | hx
  · decide +kernel
  · obtain rfl := List.mem_singleton.1 hx; decide +kernel⟩
theorem yes18d : KeptYes l18 d18 (0, 1) [(0, 1)] := ⟨b18, fd18, kept18d, fun x hx => by obtain rfl := List.mem_singleton.1 hx; decide +kernel⟩
theorem sp_yes {l : List GObj} {nm : ByteArray} {p : PP} {K : List PP} {r : GLink × ByteArray × Int} (h : Sp18 l nm r) (hy : KeptYes l nm p K) : r = linkR l nm p (K.map toG) := by
  rcases h with ⟨n, c, hc, hke, -⟩ | ⟨q, K', hy', rfl⟩
  · exact absurd (kept_not_err hy hke) hc
  · obtain ⟨rfl, rfl⟩ := keptYes_same hy hy'; rfl
theorem linkR_of {l : List GObj} {nm : ByteArray} {m : PP} {ps : List GP} {wh : List GAddr} {sp : List GSpan} (h1 : layOf l ps = (wh, sp, 0)) (h2 : closedB l ps (toG m) = true) (h3 : kindAt l (toG m) = 1) :
    linkR l nm m ps = linkEnd l m ps wh sp (fillGo l wh ps wh zeros18) := by
  unfold linkR
  rw [h1, h2, if_neg (by simp), if_neg (by simpa using h3), if_neg (by simp)]
theorem sort_one (a : Int) : sortI [a] = [a] := by unfold sortI; exact List.mergeSort_of_pairwise (List.pairwise_singleton _ _)
theorem sort_two {a b : Int} (h : a ≤ b) : sortI [a, b] = [a, b] := by unfold sortI; exact List.mergeSort_of_pairwise (by simpa using h)
def wh18 : List GAddr := [⟨0, 0, 256⟩, ⟨0, 1, 512⟩]
def sp18 : List GSpan := [⟨1, 256, 8⟩, ⟨2, 512, 4⟩]
theorem lay18 : layOf l18 [(0, 0), (0, 1)] = (wh18, sp18, 0) := by kernel_rfl
theorem cl18 : closedB l18 [(0, 0), (0, 1)] (toG (0, 0)) = true := by kernel_rfl
theorem fg18 : (fillGo l18 wh18 [(0, 0), (0, 1)] wh18 zeros18).2 = (emptyB, 0) := by kernel_rfl
theorem s18 : (segOf (fillGo l18 wh18 [(0, 0), (0, 1)] wh18 zeros18).1 ⟨1, 256, 8⟩).bytes = ⟨#[49, 50, 51, 52, 0, 2, 0, 0]⟩ := by kernel_rfl
theorem dm18 : demandR (notesOf l18 [(0, 0), (0, 1)]) = (⟨0, [], [7], false⟩, 0) := by
  have h1 : notesOf l18 [(0, 0), (0, 1)] = [⟨3, 7, 0⟩] := by kernel_rfl
  rw [h1]
  have h2 : gatMan (gatAll [⟨3, 7, 0⟩]) = ⟨0, [], [7], false⟩ := by
    unfold gatMan
    rw [show (gatAll [⟨3, 7, 0⟩]).ports = [7] from rfl, sort_one]
    kernel_rfl
  rw [demandR, if_pos (by decide +kernel), gatEnd, h2]
  rfl
theorem alive_x {r : GLink × ByteArray × Int} (h : Sp18 l18 m18 r) : r.2.2 = 0 ∧ r.1.man.ports = [7] ∧ r.1.entry = 256 ∧ ∃ s0 s1, r.1.segs = [s0, s1] ∧ s0.bytes = ⟨#[49, 50, 51, 52, 0, 2, 0, 0]⟩ := by
  have e := sp_yes h yes18
  rw [show ([(0, 0), (0, 1)] : List PP).map toG = [(0, 0), (0, 1)] from rfl, linkR_of lay18 cl18 (by kernel_rfl)] at e
  unfold linkEnd at e
  rw [show (fillGo l18 wh18 [(0, 0), (0, 1)] wh18 zeros18).2.2 = 0 from congrArg Prod.snd fg18, if_neg (by simp), dm18, if_neg (by simp)] at e
  rw [e]
  exact ⟨rfl, rfl, by kernel_rfl, _, _, rfl, s18⟩
def whF18 : List GAddr := [⟨0, 0, 256⟩, ⟨0, 1, 512⟩, ⟨0, 2, 264⟩]
def spF18 : List GSpan := [⟨1, 256, 16⟩, ⟨2, 512, 4⟩]
theorem layF18 : layOf l18 [(0, 0), (0, 1), (0, 2)] = (whF18, spF18, 0) := by kernel_rfl
theorem clF18 : closedB l18 [(0, 0), (0, 1), (0, 2)] (toG (0, 0)) = true := by kernel_rfl
theorem fgF18 : (fillGo l18 whF18 [(0, 0), (0, 1), (0, 2)] whF18 zeros18).2 = (emptyB, 0) := by kernel_rfl
theorem dmF18 : demandR (notesOf l18 [(0, 0), (0, 1), (0, 2)]) = (⟨0, [], [7, 9], false⟩, 0) := by
  have h1 : notesOf l18 [(0, 0), (0, 1), (0, 2)] = [⟨3, 7, 0⟩, ⟨3, 9, 0⟩] := by kernel_rfl
  rw [h1]
  have h2 : gatMan (gatAll [⟨3, 7, 0⟩, ⟨3, 9, 0⟩]) = ⟨0, [], [7, 9], false⟩ := by
    unfold gatMan
    rw [show (gatAll [⟨3, 7, 0⟩, ⟨3, 9, 0⟩]).ports = [7, 9] from rfl, sort_two (by omega)]
    kernel_rfl
  rw [demandR, if_pos (by decide +kernel), gatEnd, h2]
  rfl
theorem all18 : allK l18 = [(0, 0), (0, 1), (0, 2)] := by decide +kernel
theorem told18 : toldR l18 (allK l18) = (emptyB, 0) := by rw [all18]; exact toldR_zero (fun x hx => by
  rcases List.mem_cons.1 hx with rfl | hx
  · decide +kernel
  · rcases List.mem_cons.1 hx with rfl | hx
    · decide +kernel
    · obtain rfl := List.mem_singleton.1 hx; decide +kernel)
theorem entry18 : (entryR l18 m18).2.2 = 0 := by unfold entryR; rw [if_neg (by simpa using b18), fm18]
theorem alive_y {r : GLink × ByteArray × Int} (h : Fu18 l18 m18 r) : r.2.2 = 0 ∧ r.1.man.ports = [7, 9] := by
  rcases h with ⟨n, c, hc, he, -⟩ | ⟨-, -, ho⟩
  · rcases he with ⟨h1, -⟩ | ⟨-, h1⟩
    · exact absurd entry18 h1
    · rw [told18] at h1; simp only [Prod.mk.injEq] at h1; exact absurd h1.2.symm hc
  · rcases ho with ⟨n, c, hc, hke, -⟩ | ⟨q, K', hy', e⟩
    · exact absurd (kept_not_err yes18 hke) hc
    · obtain ⟨rfl, rfl⟩ := keptYes_same yes18 hy'
      rw [all18, show ([(0, 0), (0, 1), (0, 2)] : List PP).map toG = [(0, 0), (0, 1), (0, 2)] from rfl, linkR_of layF18 clF18 (by kernel_rfl)] at e
      unfold linkEnd at e
      rw [show (fillGo l18 whF18 [(0, 0), (0, 1), (0, 2)] whF18 zeros18).2.2 = 0 from congrArg Prod.snd fgF18, if_neg (by simp), dmF18, if_neg (by simp)] at e
      rw [e]
      exact ⟨rfl, rfl⟩
theorem alive_z {r : GLink × ByteArray × Int} (h : Sp18 l18 d18 r) : r.2.1 = d18 ∧ r.2.2 = 180 := by
  have e := sp_yes h yes18d
  rw [show ([(0, 1)] : List PP).map toG = [(0, 1)] from rfl, show linkR l18 d18 (0, 1) [(0, 1)] = (link0, d18, 180) by kernel_rfl] at e
  rw [e]
  exact ⟨rfl, rfl⟩
end Go.Proofs.YtdjgkmpjhpnkeaaGreatDoor
