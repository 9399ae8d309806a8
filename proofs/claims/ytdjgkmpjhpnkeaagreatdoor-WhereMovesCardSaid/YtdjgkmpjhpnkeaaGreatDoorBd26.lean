/- The walks of link.Special and link.Full. What an image that was linked is made of, in plain words. No program in sight. What was put of a table is read (layer 34), in plain words. No program in sight. Where nothing is large, the program and the reference accept the same objects. No program in sight. The walks of where.end, where.name, where.Check and aediculeref34.May. -/
import Derived.Test.YtdjgkmpjhpnkeaaGreatDoorBd25
import Derived.Test.YtdjgkmpjhpnkeaaGreatDoorBd03
import Derived.Test.YtdjgkmpjhpnkeaaGreatDoorBd02
import Derived.IntWalk
import Derived.Test.YtdjgkmpjhpnkeaaGreatDoorBd04
import Derived.Test.YtdjgkmpjhpnkeaaGreatDoorBd08
import Derived.WalkSmall
namespace Go.Proofs.YtdjgkmpjhpnkeaaGreatDoor
open Go.RowKit Go.Maps Go.WideMaps
theorem keptYes_same {l : List GObj} {nm : ByteArray} {p q : PP} {K K' : List PP} (h : KeptYes l nm p K) (h' : KeptYes l nm q K') : p = q ∧ K = K' := by
  have e : p = q := Option.some.inj (h.2.1.symm.trans h'.2.1)
  subst e
  exact ⟨rfl, h.2.2.1.eq h'.2.2.1⟩
theorem toldR_zero {l : List GObj} : ∀ {K : List PP}, (∀ x ∈ K, refsC l x = 0) → toldR l K = (emptyB, 0)
  | [], _ => rfl
  | x :: r, h => by
    have h0 : (refsV (beginR l) l x.1 x.2).2.2 = 0 := h x (by simp)
    rw [toldR, if_pos h0, toldR_zero fun y hy => h y (by simp [hy])]
theorem kept_not_err {l : List GObj} {nm n : ByteArray} {p : PP} {K : List PP} {c : Int} (h : KeptYes l nm p K) (he : KeptErr l nm n c) : c = 0 := by
  have hz : (entryR l nm).2.2 = 0 := by unfold entryR; rw [if_neg (by simpa using h.1), h.2.1]
  rcases he with ⟨h1, -⟩ | ⟨-, q, K', h1, h2, h3⟩
  · exact absurd hz h1
  · have e : p = q := Option.some.inj (h.2.1.symm.trans h1)
    subst e
    rw [← h.2.2.1.eq h2, toldR_zero h.2.2.2] at h3
    simp only [Prod.mk.injEq] at h3
    exact h3.2.symm
theorem keptErr_same {l : List GObj} {nm n n' : ByteArray} {c c' : Int} (h : KeptErr l nm n c) (h' : KeptErr l nm n' c') : n = n' ∧ c = c' := by
  rcases h with ⟨h1, h2, h3⟩ | ⟨h1, p, K, h2, h3, h4⟩
  · rcases h' with ⟨-, h5, h6⟩ | ⟨h5, -⟩
    · exact ⟨h2.trans h5.symm, h3.trans h6.symm⟩
    · exact absurd h5 h1
  · rcases h' with ⟨h5, -⟩ | ⟨-, q, K', h5, h6, h7⟩
    · exact absurd h1 h5
    · have e : p = q := Option.some.inj (h2.symm.trans h5)
      subst e
      rw [← h3.eq h6, h4] at h7
      simpa using h7
theorem kept_len {l : List GObj} {nm : ByteArray} {p : PP} {K : List PP} (h : KeptYes l nm p K) : K.length ≤ 1024 := by
  have hm := (beginR_zero h.1).1
  have hnd : K.Nodup := h.2.2.1.1.imp fun {a b} hab e => by subst e; unfold plt at hab; omega
  have h1 := nodup_sub K (allK l) hnd fun x hx => reach_all h.2.1 ((h.2.2.1.2 x).1 hx)
  have h2 := selPlaces_le (flat l) (flat l)
  have h3 := flat_length_le hm
  unfold allK at h1
  omega
theorem places_g {w : World} {v : Value} {K : List PP} (h : RowAt 2 PlaceR w v K) : RowAt 2 PlcR w v (K.map toG) := by
  obtain ⟨p, cap, b, o, rfl, h2, h3, h4, h5⟩ := h
  refine ⟨p, cap, b, o, by rw [List.length_map], by rw [List.length_map]; exact h2, by rw [List.length_map]; exact h3, by rw [List.length_map]; exact h4, fun i hi => ?_⟩
  have hi' : i < K.length := by simpa using hi
  have e : (K.map toG)[i] = toG K[i] := by simp
  rw [e]
  exact h5 i hi'
def Sp18 (l : List GObj) (nm : ByteArray) (r : GLink × ByteArray × Int) : Prop :=
  (∃ n c, c ≠ 0 ∧ KeptErr l nm n c ∧ r = (link0, n, c)) ∨ ∃ p K, KeptYes l nm p K ∧ r = linkR l nm p (K.map toG)
theorem LinkAt.shape {w : World} {x : GLink} {ve vp vs va : Value} (h : LinkAt w x ve vp vs va) : ∃ (p1 : Option Addr) (c1 : Nat) (p2 : Option Addr) (c2 : Nat) (p3 : Option Addr) (c3 : Nat) (p4 : Option Addr) (c4 : Nat), ve = .slice p1 x.man.exts.length c1 ∧ vp = .slice p2 x.man.ports.length c2 ∧ vs = .slice p3 x.segs.length c3 ∧ va = .slice p4 x.addrs.length c4 := by
  obtain ⟨⟨⟨p1, c1, _, _, h1, _⟩, ⟨p2, c2, _, _, h2, _⟩, _⟩, ⟨p3, c3, _, _, h3, _⟩, ⟨p4, c4, _, _, h4, _⟩, _⟩ := h
  exact ⟨p1, c1, p2, c2, p3, c3, p4, c4, h1, h2, h3, h4⟩
theorem row_kb {α : Type} {k : Nat} {R : World → Nat → Nat → α → Prop} {w w' : World} {v : Value} {l : List α} (h : RowAt k R w v l) (hR : ∀ b o x, R w b o x → R w' b o x) : RowAt k R w' v l := by
  obtain ⟨p, cap, b, o, h1, h2, h3, h4, h5⟩ := h
  exact ⟨p, cap, b, o, h1, h2, h3, h4, fun i hi => hR _ _ _ (h5 i hi)⟩
theorem z_at {w : World} {x j : Nat} {u : Value} (h : w.heap[x]? = some (.cells zlink 37 (0, 0))) (hc : w.cell? ⟨x, j, none⟩ = some u) : zlink[j]? = some u := by
  rw [← Lib.cell_of_heap h j]; exact hc
/-- an image's rows lie apart from a result's cells as they are made -/
theorem LinkAt.kb {w w' : World} {x : GLink} {b : Nat} {ve vp vs va : Value} (h : LinkAt w x ve vp vs va) (hz : w.heap[b]? = some (.cells zlink 37 (0, 0))) (hk : KB (fun q => q = b) w w') : LinkAt w' x ve vp vs va := by
  refine ⟨⟨row_kb h.1.1 fun c o y hy => ?_, row_kb h.1.2.1 fun c o y hy => ?_, h.1.2.2⟩, row_kb h.2.1 fun c o y hy => ?_, row_kb h.2.2.1 fun c o y hy => ?_, h.2.2.2⟩
  · have hne : c ≠ b := fun e => by
      subst e
      have h1 := z_at hz hy.2.1
      have h2 := z_at hz hy.2.2.1
      match o, h1, h2 with
      | 0, h1, h2 => simp [zlink] at h2
      | 1, h1, h2 => simp [zlink] at h1
      | 2, h1, h2 => simp [zlink] at h1
      | 3, h1, h2 => simp [zlink] at h1
      | 4, h1, h2 => simp [zlink] at h2
      | 5, h1, h2 => simp [zlink] at h1
      | 6, h1, h2 => simp [zlink] at h1
      | n + 7, h1, h2 => simp [zlink] at h1
    exact ⟨Nat.lt_of_lt_of_le hy.1 hk.size, hk.cell hy.1 hne hy.2.1, hk.cell hy.1 hne hy.2.2.1, hy.2.2.2⟩
  · have hne : c ≠ b := fun e => zlink_cells hz _ (by simp [zlink]) o (e ▸ hy.2.1)
    exact ⟨Nat.lt_of_lt_of_le hy.1 hk.size, hk.cell hy.1 hne hy.2.1, hy.2.2⟩
  · have hne : c ≠ b := fun e => zlink_cells hz _ (by simp [zlink]) (o + 1) (e ▸ hy.2.2.1)
    exact ⟨Nat.lt_of_lt_of_le hy.1 hk.size, hk.cell hy.1 hne hy.2.1, hk.cell hy.1 hne hy.2.2.1, hk.cell hy.1 hne hy.2.2.2.1, hy.2.2.2.2⟩
  · have hne : c ≠ b := fun e => zlink_cells hz _ (by simp [zlink]) o (e ▸ hy.2.1)
    exact hy.kb hk hne
set_option maxRecDepth 100000 in
set_option maxHeartbeats 4000000 in
theorem special18_any (hsort : SortOk) (v : Value) (l : List GObj) (nm : ByteArray) (w : World) (h : ObjsAt w v l) (hn : nm.size ≤ 9223372036854775807) (hb : mayAll l = true → ∀ o ∈ l, ∀ s ∈ o.syms, s.bytes.size < 4294967296) :
    Calls Tryz.prog 15 #[.string nm, v] w fun e w' => ∃ r, Sp18 l nm r ∧ LPost w r e w' := by
  have HKC : Hid (∀ W, Below w.heap.size w W → Calls Tryz.prog 53 #[.string nm, v] W (Kept18Post l nm W)) := fun W hW => kept18_any hsort v l nm W (h.keep hW) hn
  have HLO : Hid (∀ W pv K, Below w.heap.size w W → RowAt 2 PlaceR W pv K → K.length ≤ 1024 → Calls Tryz.prog 17 #[.string nm, pv, v] W fun e w' => ∃ r, Of18 l nm (K.map toG) r ∧ LPost W r e w') := fun W pv K hW hr hl => linkOf_any hsort v pv l (K.map toG) nm W (h.keep hW) (places_g hr) hn (by simp; omega) hb
  obtain ⟨qv, cv, hv⟩ : ∃ (pv : Option Addr) (cv : Nat), v = .slice pv l.length cv := by obtain ⟨p, cap, b, o, rfl, _⟩ := h; exact ⟨p, cap, rfl⟩
  subst hv
  clear h hb hsort
  generalize hW : (w.alloc (.cells #[.int .u32 0, .slice none 0 0, .slice none 0 0, .bool false, .int .u32 0, .slice none 0 0, .slice none 0 0] 37)) = w1
  have z1 : w1.heap.size = w.heap.size + 1 := by subst hW; simp
  have HB1 : Hid (Below w.heap.size w w1) := by subst hW; exact alloc_old w _
  have HR1 : Hid (w1.heap[w.heap.size]? = some (.cells zlink 37 (0, 0))) := by subst hW; exact new_block w _
  go_enter Tryz.func15, Tryz.ntmps15
  go_wp2_with fail
  try rw [hW]
  clear hW
  refine (HKC.out _ HB1.out).mono ?_
  rintro e w2 ⟨⟨p, K, vo, hky, hrow, rfl⟩ | ⟨n, c, hc, rfl, hke⟩, hB2⟩
  · have HLK := Lib.hid (HLO.out w2 vo K (HB1.out.trans (hB2.mono (by omega))) hrow (kept_len hky))
    have HKY := Lib.hid hky
    obtain ⟨p2, c2, b2, o2, rfl, -⟩ := hrow
    have HB2 : Hid (Below w.heap.size w w2) := HB1.out.trans (hB2.mono (by omega))
    have HR2 : Hid (w2.heap[w.heap.size]? = some (.cells zlink 37 (0, 0))) := (hB2.block _ (by omega)).trans HR1.out
    have z2 : w.heap.size < w2.heap.size := by have := hB2.size; omega
    clear hky hB2 HKC HLO
    go_wp2_with fail
    refine HLK.out.mono ?_
    rintro e w3 ⟨r, hof, ve, vp, vs, va, rfl, hla, hB3⟩
    have HSP : Hid (Sp18 l nm r) := by
      rcases hof with ⟨n, c, hc, hke, rfl⟩ | ⟨q, K', hky', rfl⟩
      · exact absurd (kept_not_err HKY.out hke) hc
      · obtain ⟨rfl, rfl⟩ := keptYes_same HKY.out hky'
        exact .inr ⟨_, _, hky', rfl⟩
    obtain ⟨p1, d1, p2', d2, p3, d3, p4, d4, rfl, rfl, rfl, rfl⟩ := hla.shape
    obtain ⟨⟨⟨rp, re, rq, rc⟩, ren, rs, ra⟩, rn, rcd⟩ := r
    simp only [] at hla HSP
    have HLA := Lib.hid hla
    have HR3 := Lib.hid ((hB3.block _ z2).trans HR2.out)
    have HB3 : Hid (Below w.heap.size w w3) := HB2.out.trans (hB3.mono HB2.out.size)
    have HPUT := Lib.hid (sevens (zput (u0 := .int .u32 rp) (u1 := .slice p1 re.length d1) (u2 := .slice p2' rq.length d2) (u3 := .bool rc) (u4 := .int .u32 ren) (u5 := .slice p3 rs.length d3) (u6 := .slice p4 ra.length d4) HR3.out))
    obtain ⟨r0, r1, r2, r3, r4, r5, r6, rz⟩ := zfacts HR3.out
    unfold linkV
    clear hla hof hB3
    go_wp2_with fail
    obtain ⟨x0, x1, x2, x3, x4, x5, x6⟩ := HPUT.out
    refine bodyPost_ret (v := .tuple #[.agg #[.int .u32 rp, .slice p1 re.length d1, .slice p2' rq.length d2, .bool rc, .int .u32 ren, .slice p3 rs.length d3, .slice p4 ra.length d4], .string rn, .int .i64 rcd]) (by simp [results, Tryz.results15, go_sem, x0, x1, x2, x3, x4, x5, x6]) rfl ?_
    exact ⟨_, HSP.out, _, _, _, _, rfl, HLA.out.kb HR3.out (put7_kb w3 w.heap.size), put7_below HB3.out (Nat.le_refl _)⟩
  · have HKE := Lib.hid hke
    have hcb : (c != 0) = true := by simpa using hc
    have hr := (hB2.block _ (by omega)).trans HR1.out
    obtain ⟨r0, r1, r2, r3, r4, r5, r6, rz⟩ := zfacts hr
    have HPUT := Lib.hid (sevens (zput (u0 := .int .u32 0) (u1 := .slice none 0 0) (u2 := .slice none 0 0) (u3 := .bool false) (u4 := .int .u32 0) (u5 := .slice none 0 0) (u6 := .slice none 0 0) hr))
    have HB2 : Hid (Below w.heap.size w w2) := HB1.out.trans (hB2.mono (by omega))
    have HC := Lib.hid hc
    clear hB2 hke hr hc
    go_wp2_with fail
    obtain ⟨x0, x1, x2, x3, x4, x5, x6⟩ := HPUT.out
    refine bodyPost_ret (v := .tuple #[.agg #[.int .u32 0, .slice none 0 0, .slice none 0 0, .bool false, .int .u32 0, .slice none 0 0, .slice none 0 0], .string n, .int .i64 c]) (by simp [results, Tryz.results15, go_sem, x0, x1, x2, x3, x4, x5, x6]) rfl ?_
    exact ⟨(link0, n, c), .inl ⟨n, c, HC.out, HKE.out, rfl⟩, _, _, _, _, rfl, link0_at _, put7_below HB2.out (Nat.le_refl _)⟩
/-- why not all are linked -/
def AllErr (l : List GObj) (nm n : ByteArray) (c : Int) : Prop := ((entryR l nm).2.2 ≠ 0 ∧ n = (entryR l nm).2.1 ∧ c = (entryR l nm).2.2) ∨ ((entryR l nm).2.2 = 0 ∧ toldR l (allK l) = (n, c))
def Fu18 (l : List GObj) (nm : ByteArray) (r : GLink × ByteArray × Int) : Prop :=
  (∃ n c, c ≠ 0 ∧ AllErr l nm n c ∧ r = (link0, n, c)) ∨ ((entryR l nm).2.2 = 0 ∧ (toldR l (allK l)).2 = 0 ∧ Of18 l nm ((allK l).map toG) r)
theorem all_len {l : List GObj} {nm : ByteArray} (h : (entryR l nm).2.2 = 0) : (allK l).length ≤ 1024 := by
  have hb : (beginR l).2 = 0 := by
    unfold entryR at h
    by_cases hb : (beginR l).2 ≠ 0
    · rw [if_pos hb] at h; exact absurd h hb
    · simpa using hb
  have h2 := selPlaces_le (flat l) (flat l)
  have h3 := flat_length_le (beginR_zero hb).1
  unfold allK
  omega
set_option maxRecDepth 100000 in
set_option maxHeartbeats 4000000 in
theorem full18_any (hsort : SortOk) (v : Value) (l : List GObj) (nm : ByteArray) (w : World) (h : ObjsAt w v l) (hn : nm.size ≤ 9223372036854775807) (hb : mayAll l = true → ∀ o ∈ l, ∀ s ∈ o.syms, s.bytes.size < 4294967296) :
    Calls Tryz.prog 13 #[.string nm, v] w fun e w' => ∃ r, Fu18 l nm r ∧ LPost w r e w' := by
  have HKC : Hid (∀ W, Below w.heap.size w W → Calls Tryz.prog 51 #[.string nm, v] W (AllPost18 l nm W)) := fun W hW => all18_any v l nm W (h.keep hW) hn
  have HLO : Hid (∀ W pv K, Below w.heap.size w W → RowAt 2 PlaceR W pv K → K.length ≤ 1024 → Calls Tryz.prog 17 #[.string nm, pv, v] W fun e w' => ∃ r, Of18 l nm (K.map toG) r ∧ LPost W r e w') := fun W pv K hW hr hl => linkOf_any hsort v pv l (K.map toG) nm W (h.keep hW) (places_g hr) hn (by simp; omega) hb
  obtain ⟨qv, cv, hv⟩ : ∃ (pv : Option Addr) (cv : Nat), v = .slice pv l.length cv := by obtain ⟨p, cap, b, o, rfl, _⟩ := h; exact ⟨p, cap, rfl⟩
  subst hv
  clear h hb hsort
  generalize hW : (w.alloc (.cells #[.int .u32 0, .slice none 0 0, .slice none 0 0, .bool false, .int .u32 0, .slice none 0 0, .slice none 0 0] 37)) = w1
  have z1 : w1.heap.size = w.heap.size + 1 := by subst hW; simp
  have HB1 : Hid (Below w.heap.size w w1) := by subst hW; exact alloc_old w _
  have HR1 : Hid (w1.heap[w.heap.size]? = some (.cells zlink 37 (0, 0))) := by subst hW; exact new_block w _
  go_enter Tryz.func13, Tryz.ntmps13
  go_wp2_with fail
  try rw [hW]
  clear hW
  refine (HKC.out _ HB1.out).mono ?_
  rintro e w2 ⟨⟨vo, he0, ht0, hrow, rfl⟩ | ⟨n, c, hc, rfl, hke⟩, hB2⟩
  · have HLK := Lib.hid (HLO.out w2 vo (allK l) (HB1.out.trans (hB2.mono (by omega))) hrow (all_len he0))
    have HKY := Lib.hid (And.intro he0 ht0)
    obtain ⟨p2, c2, b2, o2, rfl, -⟩ := hrow
    have HB2 : Hid (Below w.heap.size w w2) := HB1.out.trans (hB2.mono (by omega))
    have HR2 : Hid (w2.heap[w.heap.size]? = some (.cells zlink 37 (0, 0))) := (hB2.block _ (by omega)).trans HR1.out
    have z2 : w.heap.size < w2.heap.size := by have := hB2.size; omega
    clear he0 ht0 hB2 HKC HLO
    go_wp2_with fail
    refine HLK.out.mono ?_
    rintro e w3 ⟨r, hof, ve, vp, vs, va, rfl, hla, hB3⟩
    have HSP : Hid (Fu18 l nm r) := .inr ⟨HKY.out.1, HKY.out.2, hof⟩
    obtain ⟨p1, d1, p2', d2, p3, d3, p4, d4, rfl, rfl, rfl, rfl⟩ := hla.shape
    obtain ⟨⟨⟨rp, re, rq, rc⟩, ren, rs, ra⟩, rn, rcd⟩ := r
    simp only [] at hla HSP
    have HLA := Lib.hid hla
    have HR3 := Lib.hid ((hB3.block _ z2).trans HR2.out)
    have HB3 : Hid (Below w.heap.size w w3) := HB2.out.trans (hB3.mono HB2.out.size)
    have HPUT := Lib.hid (sevens (zput (u0 := .int .u32 rp) (u1 := .slice p1 re.length d1) (u2 := .slice p2' rq.length d2) (u3 := .bool rc) (u4 := .int .u32 ren) (u5 := .slice p3 rs.length d3) (u6 := .slice p4 ra.length d4) HR3.out))
    obtain ⟨r0, r1, r2, r3, r4, r5, r6, rz⟩ := zfacts HR3.out
    unfold linkV
    clear hla hof hB3
    go_wp2_with fail
    obtain ⟨x0, x1, x2, x3, x4, x5, x6⟩ := HPUT.out
    refine bodyPost_ret (v := .tuple #[.agg #[.int .u32 rp, .slice p1 re.length d1, .slice p2' rq.length d2, .bool rc, .int .u32 ren, .slice p3 rs.length d3, .slice p4 ra.length d4], .string rn, .int .i64 rcd]) (by simp [results, Tryz.results13, go_sem, x0, x1, x2, x3, x4, x5, x6]) rfl ?_
    exact ⟨_, HSP.out, _, _, _, _, rfl, HLA.out.kb HR3.out (put7_kb w3 w.heap.size), put7_below HB3.out (Nat.le_refl _)⟩
  · have HKE := Lib.hid hke
    have hcb : (c != 0) = true := by simpa using hc
    have hr := (hB2.block _ (by omega)).trans HR1.out
    obtain ⟨r0, r1, r2, r3, r4, r5, r6, rz⟩ := zfacts hr
    have HPUT := Lib.hid (sevens (zput (u0 := .int .u32 0) (u1 := .slice none 0 0) (u2 := .slice none 0 0) (u3 := .bool false) (u4 := .int .u32 0) (u5 := .slice none 0 0) (u6 := .slice none 0 0) hr))
    have HB2 : Hid (Below w.heap.size w w2) := HB1.out.trans (hB2.mono (by omega))
    have HC := Lib.hid hc
    clear hB2 hke hr hc
    go_wp2_with fail
    obtain ⟨x0, x1, x2, x3, x4, x5, x6⟩ := HPUT.out
    refine bodyPost_ret (v := .tuple #[.agg #[.int .u32 0, .slice none 0 0, .slice none 0 0, .bool false, .int .u32 0, .slice none 0 0, .slice none 0 0], .string n, .int .i64 c]) (by simp [results, Tryz.results13, go_sem, x0, x1, x2, x3, x4, x5, x6]) rfl ?_
    exact ⟨(link0, n, c), .inl ⟨n, c, HC.out, HKE.out, rfl⟩, _, _, _, _, rfl, link0_at _, put7_below HB2.out (Nat.le_refl _)⟩
end Go.Proofs.YtdjgkmpjhpnkeaaGreatDoor
namespace Go.Proofs.YtdjgkmpjhpnkeaaGreatDoor
theorem linkZ {l : List GObj} {nm : ByteArray} {m : PP} {ps : List GP} (hz : (linkR l nm m ps).2.2 = 0) : ∃ wh sp, layOf l ps = (wh, sp, 0) ∧ (linkR l nm m ps).1.addrs = wh := by
  obtain ⟨⟨wh, sp, lc⟩, hlay⟩ : ∃ r, layOf l ps = r := ⟨_, rfl⟩
  unfold linkR at hz ⊢
  rw [hlay] at hz ⊢
  simp only [] at hz ⊢
  split at hz
  · simp at hz
  · rename_i h1
    rw [if_neg h1]
    split at hz
    · simp at hz
    · rename_i h2
      rw [if_neg h2]
      split at hz
      · rename_i h3; exact absurd hz h3
      · rename_i h3
        rw [if_neg h3]
        have hlc : lc = 0 := by simpa using h3
        subst hlc
        unfold linkEnd at hz ⊢
        split at hz
        · rename_i h4; exact absurd hz h4
        · rename_i h4
          rw [if_neg h4]
          split at hz
          · rename_i h5; exact absurd hz h5
          · rename_i h5
            rw [if_neg h5]
            exact ⟨wh, sp, rfl, rfl⟩
theorem spZ {l : List GObj} {nm : ByteArray} {r : GLink × ByteArray × Int} (h : Sp18 l nm r) (h0 : r.2.2 = 0) : ∃ p K, KeptYes l nm p K ∧ r = linkR l nm p (K.map toG) := by
  rcases h with ⟨n, c, hc, -, rfl⟩ | ⟨p, K, hy, rfl⟩
  · exact absurd h0 hc
  · exact ⟨p, K, hy, rfl⟩
theorem fuZ {l : List GObj} {nm : ByteArray} {r : GLink × ByteArray × Int} (h : Fu18 l nm r) (h0 : r.2.2 = 0) : (allK l).length ≤ 1024 ∧ ∃ p K, KeptYes l nm p K ∧ r = linkR l nm p ((allK l).map toG) := by
  rcases h with ⟨n, c, hc, -, rfl⟩ | ⟨he, -, ho⟩
  · exact absurd h0 hc
  · rcases ho with ⟨n, c, hc, -, rfl⟩ | ⟨p, K, hy, rfl⟩
    · exact absurd h0 hc
    · exact ⟨all_len he, p, K, hy, rfl⟩
end Go.Proofs.YtdjgkmpjhpnkeaaGreatDoor
namespace Go.Proofs.YtdjgkmpjhpnkeaaGreatDoor
def TsFit (s : GTs) : Prop := s.name.size < 65536 ∧ s.object.size < 65536 ∧ (0 ≤ s.addr ∧ s.addr < 4294967296) ∧ (0 ≤ s.size ∧ s.size < 65536) ∧ (0 ≤ s.kind ∧ s.kind < 256)
theorem rTs_enc {s : GTs} (r : BL) (h : TsFit s) : rTs (some (encTs s ++ r)) = (s, some r) := by
  obtain ⟨h1, h2, h3, h4, h5⟩ := h
  unfold rTs encTs
  simp only [List.append_assoc, rText_enc _ h1, rText_enc _ h2, rNum_enc _ h3.1 (by rw [p4]; exact h3.2), rNum_enc _ h4.1 (by rw [p2]; exact h4.2), rNum_enc _ h5.1 (by rw [p1]; exact h5.2)]
theorem nameLe {s : ByteArray} (h : isName s = true) : s.size ≤ 32 := by
  simp only [isName, Bool.and_eq_true, decide_eq_true_eq] at h
  omega
theorem tab_fit {t : List GTs} (h : tabOk t = true) : ∀ s ∈ t, TsFit s := fun s hs => by
  obtain ⟨i, hi, rfl⟩ := List.getElem_of_mem hs
  obtain ⟨a1, a2, a3, a4, a5, a6, a7, a8⟩ := tabGo_at (tabOk_go h) i hi
  have b1 := nameLe a5
  have b2 := nameLe a6
  exact ⟨by omega, by omega, by omega, by omega, by omega⟩
theorem getT_enc {t : List GTs} (h : tabOk t = true) : getT (encTab t) = some t := by
  have hl : t.length ≤ 1024 := by
    simp only [tabOk, Bool.and_eq_true, decide_eq_true_eq] at h; exact h.2
  have hm : ∀ r, rTake 4 (some (magicT ++ r)) = (magicT, some r) := fun r => rTake_app' rfl
  have hs := rMany_enc t [] (fun x hx r => rTs_enc r (tab_fit h x hx))
  rw [List.append_nil] at hs
  have hr : rTab (encTab t) = (magicT, t, some []) := by
    unfold rTab encTab
    simp only [List.append_assoc, hm, rNum_enc (n := 2) (v := (t.length : Int)) _ (by omega) (by rw [p2]; omega), Int.toNat_natCast, hs]
  unfold getT
  rw [hr]
  exact if_pos ⟨rfl, rfl, h⟩
end Go.Proofs.YtdjgkmpjhpnkeaaGreatDoor
namespace Go.Proofs.YtdjgkmpjhpnkeaaGreatDoor
open Go.RowKit
theorem sumI_nonneg {α : Type} {f : α → Int} : ∀ {l : List α}, (∀ x ∈ l, 0 ≤ f x) → 0 ≤ sumI f l
  | [], _ => by simp [sumI]
  | a :: r, h => by
    have h1 := h a (by simp)
    have h2 := sumI_nonneg (l := r) (fun x hx => h x (by simp [hx]))
    simp only [sumI]; omega
theorem sumI_le {α : Type} {f : α → Int} {c : Int} : ∀ {l : List α}, (∀ x ∈ l, f x ≤ c) → sumI f l ≤ l.length * c
  | [], _ => by simp [sumI]
  | a :: r, h => by
    have h1 := h a (by simp)
    have h2 := sumI_le (l := r) (fun x hx => h x (by simp [hx]))
    simp only [sumI, List.length_cons, Int.natCast_add, Int.add_mul]; omega
theorem sumI_mem {α : Type} {f : α → Int} : ∀ {l : List α} {x : α}, (∀ x ∈ l, 0 ≤ f x) → x ∈ l → f x ≤ sumI f l
  | a :: r, x, h, hx => by
    have h1 := h a (by simp)
    have h3 := sumI_nonneg (l := r) (fun x hx => h x (by simp [hx]))
    rcases List.mem_cons.1 hx with rfl | hx
    · simp only [sumI]; omega
    · have h2 := sumI_mem (fun x hx => h x (by simp [hx])) hx
      simp only [sumI]; omega
theorem isName_le {s : ByteArray} (h : isName s = true) : s.size ≤ 32 := by
  simp only [isName, Bool.and_eq_true, decide_eq_true_eq] at h
  exact h.2
theorem relsGo_names {n : Int} : ∀ {l : List GRel} {e : Int}, relsGo n e l = true → ∀ x ∈ l, isName x.name = true
  | [], _, _, x, hx => by cases hx
  | a :: r, e, h, x, hx => by
    simp only [relsGo, Bool.and_eq_true] at h
    rcases List.mem_cons.1 hx with rfl | hx
    · exact h.1.1.1.1.2
    · exact relsGo_names h.2 x hx
/-- what both readings ask -/
def weakSym (s : GSym) : Prop := s.name.size ≤ 32 ∧ s.rels.length ≤ 1024 ∧ s.notes.length ≤ 8 ∧ ∀ x ∈ s.rels, x.name.size ≤ 32
theorem weak_of_P {s : GSym} (h : symOkP s = true) : weakSym s := by
  simp only [symOkP, placesOk, Bool.and_eq_true, decide_eq_true_eq] at h
  exact ⟨isName_le h.1.1.1.1.1.1.1, h.1.1.2.2, h.1.2, fun x hx => isName_le (relsGo_names h.1.1.2.1 x hx)⟩
theorem weak_of_R {s : GSym} (h : symOk s = true) : weakSym s := by
  simp only [symOk, relsOk, Bool.and_eq_true, decide_eq_true_eq] at h
  exact ⟨isName_le h.1.1.1.1.1.1.1.1.1.1, h.1.2.2, h.2, fun x hx => isName_le (relsGo_names h.1.2.1 x hx)⟩
def weakObj (o : GObj) : Prop := o.syms.length ≤ 64 ∧ ∀ s ∈ o.syms, weakSym s
theorem weakObj_of {o : GObj} (h : mayP o = true ∨ mayOk o = true) : weakObj o := by
  rcases h with h | h
  · simp only [mayP, Bool.and_eq_true, decide_eq_true_eq] at h
    exact ⟨h.2, fun s hs => weak_of_P (symsGo_each _ _ h.1.1 s hs)⟩
  · simp only [mayOk, Bool.and_eq_true, decide_eq_true_eq] at h
    exact ⟨h.2, fun s hs => weak_of_R (symsGoR_each _ _ h.1.1 s hs)⟩
theorem relS_nonneg (x : GRel) : 0 ≤ relS x := by unfold relS; omega
theorem symS_ge (s : GSym) : 0 ≤ symS s ∧ (s.bytes.size : Int) / 64 ≤ symS s := by
  have := sumI_nonneg (f := relS) (l := s.rels.take 1100) (fun x _ => relS_nonneg x)
  unfold symS
  omega
theorem symS_le {s : GSym} (h : weakSym s) (hb : s.bytes.size ≤ 140737488355328) : symS s ≤ 2199023260000 := by
  obtain ⟨h1, h2, h3, h4⟩ := h
  have := sumI_le (f := relS) (c := 0) (l := s.rels.take 1100) (fun x hx => by have := h4 x (List.mem_of_mem_take hx); unfold relS; omega)
  unfold symS
  omega
theorem objS_ge (o : GObj) : 0 ≤ objS o := by
  have := sumI_nonneg (f := symS) (l := o.syms.take 200) (fun x _ => (symS_ge x).1)
  unfold objS; omega
theorem objS_le {o : GObj} (h : weakObj o) (hb : ∀ s ∈ o.syms, s.bytes.size ≤ 140737488355328) : objS o ≤ 140737488700000 := by
  obtain ⟨h1, h2⟩ := h
  have := sumI_le (f := symS) (c := 2199023260000) (l := o.syms.take 200) (fun x hx => symS_le (h2 x (List.mem_of_mem_take hx)) (hb x (List.mem_of_mem_take hx)))
  have hl := List.length_take_le 200 o.syms
  have hl2 : (o.syms.take 200).length ≤ o.syms.length := List.length_take_le' 200 o.syms
  unfold objS
  omega
def ObjsSz (l : List GObj) : Prop := ∀ o ∈ l, ∀ s ∈ o.syms, s.bytes.size ≤ 140737488355328
theorem small_bytes32 {l : List GObj} (hL : largeB l = false) (hsz : ObjsSz l) (hw : ∀ o ∈ l, weakObj o) : ∀ o ∈ l, ∀ s ∈ o.syms, s.bytes.size < 4294967296 := by
  intro o ho s hs
  unfold largeB at hL
  simp only [Bool.or_eq_false_iff, decide_eq_false_iff_not] at hL
  obtain ⟨h1, h2⟩ := hL
  have hlen : l.length ≤ 20 := by omega
  have ht : l.take 40 = l := List.take_of_length_le (by omega)
  have hsum := sumI_le (f := objS) (c := 140737488700000) (l := l.take 40) (fun x hx => objS_le (hw x (List.mem_of_mem_take hx)) (hsz x (List.mem_of_mem_take hx)))
  have hge := sumI_nonneg (f := objS) (l := l.take 40) (fun x _ => objS_ge x)
  rw [ht] at hsum hge
  have hw64 : wrap64 (largeSum l) = largeSum l := by
    refine IntWalk.wrap64_in _ ⟨?_, ?_⟩ <;> unfold largeSum <;> rw [ht] <;> omega
  rw [hw64] at h2
  unfold largeSum at h2
  rw [ht] at h2
  have ho1 := sumI_mem (f := objS) (fun x _ => objS_ge x) ho
  have hs1 : symS s ≤ sumI symS (o.syms.take 200) := by
    rw [List.take_of_length_le (by have := (hw o ho).1; omega)]
    exact sumI_mem (fun x _ => (symS_ge x).1) hs
  have hs2 := (symS_ge s).2
  have he : objS o = (o.syms.length : Int) + sumI symS (o.syms.take 200) := rfl
  omega
theorem may_same {l : List GObj} (hL : largeB l = false) (hsz : ObjsSz l) : mayAll l = mayAllR l := by
  by_cases hw : ∀ o ∈ l, weakObj o
  · have h := small_bytes32 hL hsz hw
    unfold mayAll mayAllR
    rw [Bool.and_comm]
    congr 1
    rw [Bool.eq_iff_iff, List.all_eq_true, List.all_eq_true]
    exact ⟨fun q o ho => by rw [← mayP_eq (h o ho)]; exact q o ho, fun q o ho => by rw [mayP_eq (h o ho)]; exact q o ho⟩
  · obtain ⟨o, ho⟩ := Classical.not_forall.1 hw
    obtain ⟨hm, hn⟩ := Classical.not_imp.1 ho
    have h1 : mayP o = false := by
      cases h : mayP o with
      | false => rfl
      | true => exact absurd (weakObj_of (.inl h)) hn
    have h2 : mayOk o = false := by
      cases h : mayOk o with
      | false => rfl
      | true => exact absurd (weakObj_of (.inr h)) hn
    have h3 : l.all mayP = false := by rw [List.all_eq_false]; exact ⟨o, hm, by simp [h1]⟩
    have h4 : l.all mayOk = false := by rw [List.all_eq_false]; exact ⟨o, hm, by simp [h2]⟩
    simp [mayAll, mayAllR, h3, h4]
theorem begin_same {l : List GObj} (hL : largeB l = false) (hsz : ObjsSz l) : beginRR l = beginR l := by
  unfold beginR beginRR
  (rw [may_same hL hsz]) <;> rfl
theorem findAll_same {l : List GObj} (hL : largeB l = false) (hsz : ObjsSz l) (i : Int) (n : List UInt8) : findAllR l i n = findAll l i n := by
  unfold findAll findAllR
  (rw [begin_same hL hsz]) <;> rfl
theorem objsSz_of {w : World} {v : Value} {l : List GObj} (h : ObjsAt w v l) : ObjsSz l := by
  obtain ⟨p, cap, b, o, -, -, -, -, hc⟩ := h
  intro x hx s hs
  obtain ⟨i, hi, rfl⟩ := List.mem_iff_getElem.1 hx
  obtain ⟨vs, -, -, -, ⟨p', cap', b', o', -, -, -, -, hc'⟩, -⟩ := hc i hi
  obtain ⟨k, hk, rfl⟩ := List.mem_iff_getElem.1 hs
  obtain ⟨vr, vn, -, -, -, -, -, -, -, -, -, -, -, -, -, -, hb⟩ := hc' k hk
  exact hb
end Go.Proofs.YtdjgkmpjhpnkeaaGreatDoor
namespace Go.Proofs.YtdjgkmpjhpnkeaaGreatDoor
open Go.RowKit
def tsVal (x : GTs) : Value := .agg #[.string x.name, .string x.object, .int .u32 x.addr, .int .u32 x.size, .int .u8 x.kind]
/-- where a symbol's bytes end, as the machine reckons -/
def endU (x : GTs) : Int := (x.addr + x.size) % 4294967296
set_option maxHeartbeats 400000 in
theorem end_any (n o : ByteArray) (a s k : Int) (w : World) :
    Calls Tryz.prog 82 #[.agg #[.string n, .string o, .int .u32 a, .int .u32 s, .int .u8 k]] w fun e w' => e = .returned (.int .u32 ((a + s) % 4294967296)) ∧ Below w.heap.size w w' := by
  go_enter Tryz.func82, Tryz.ntmps82
  go_wp2
  go_ret
  exact ⟨ret_int (by go_light; first | rfl | omega), alloc_old w _⟩
def nameSym (s : ByteArray) : GSym := ⟨s, 0, 2, 1, ⟨#[]⟩, [], []⟩
theorem nameSym_ok (s : ByteArray) : symOkP (nameSym s) = isName s := by
  simp [symOkP, nameSym, sizedOk, sizedB, len32, placesOk, relsGo, ByteArray.size]
theorem errB_ok (b : Bool) : (errB b == 0) = b := by cases b <;> rfl
set_option maxHeartbeats 400000 in
theorem whName_any (s : ByteArray) (w : World) (hs : s.size ≤ 140737488355328) :
    Calls Tryz.prog 81 #[.string s] w fun e w' => e = .returned (.bool (isName s)) ∧ Below w.heap.size w w' := by
  have HC := Lib.hid (objSym_any (nameSym s) (.slice none 0 0) (.slice none 0 0) w ⟨rowAt_nil, rowAt_nil, by simp [nameSym], by simp [nameSym], by simp [nameSym], hs, by simp [nameSym, ByteArray.size]⟩)
  rw [nameSym_ok] at HC
  have he := errB_ok (isName s)
  have HE := Lib.hid he; clear he
  simp only [nameSym] at HC
  generalize errB (isName s) = c at HC HE
  go_enter Tryz.func81, Tryz.ntmps81
  go_wp2_with fail
  refine HC.out.mono ?_
  rintro e w1 ⟨rfl, hB⟩
  clear HC
  go_wp2
  go_ret
  exact ⟨ret_bool HE.out, hB⟩
theorem tsOk_iff {e : Int} {x : GTs} : tsOk e x = true ↔ (isName x.name = true ∧ isName x.object = true ∧ 1 ≤ x.kind ∧ x.kind ≤ 3 ∧ 1 ≤ x.size ∧ x.size ≤ 8192 ∧ e ≤ x.addr ∧ x.addr ≤ 131072 ∧ x.addr + x.size ≤ 131072) := by
  simp only [tsOk, Bool.and_eq_true, decide_eq_true_eq, and_assoc]
theorem tsOk_bad {e : Int} {x : GTs} (h : ¬ (isName x.name = true ∧ isName x.object = true ∧ 1 ≤ x.kind ∧ x.kind ≤ 3 ∧ 1 ≤ x.size ∧ x.size ≤ 8192 ∧ e ≤ x.addr ∧ x.addr ≤ 131072 ∧ x.addr + x.size ≤ 131072)) : tsOk e x = false := by
  cases hc : tsOk e x with
  | false => rfl
  | true => exact absurd (tsOk_iff.1 hc) h
set_option maxRecDepth 100000 in
set_option maxHeartbeats 4000000 in
theorem whCheck_any (v : Value) (t : List GTs) (w : World) (h : TabAt w v t) :
    Calls Tryz.prog 24 #[v] w fun e w' => e = .returned (.int .i64 (errB (tabOk t))) ∧ Below w.heap.size w w' := by
  obtain ⟨p, cap, b, o, rfl, hcap, hmax, hp, hc⟩ := h
  have HP := Lib.hid hp; clear hp
  have HC := Lib.hid hc; clear hc
  go_enter Tryz.func24, Tryz.ntmps24
  go_wp2
  go_loopw [3, 8] (fun v3 v8 wr => ∃ (i : Nat) (e : Int), i ≤ t.length ∧ v8 = .int .i64 i ∧ v3 = .int .u32 e ∧ (0 ≤ e ∧ e ≤ 131072) ∧ tabGo e (t.drop i) = tabGo 256 t ∧ Below w.heap.size w wr) (fun _ v8 _ => t.length - (intOf v8).toNat)
  case atStart => exact ⟨0, 256, Nat.zero_le _, rfl, rfl, by omega, rfl, Below.refl _ _⟩
  case round =>
    obtain ⟨i, e, hi, rfl, rfl, ⟨he0, he1⟩, hgo, hbel⟩ := hrel
    have HGO := Lib.hid hgo; clear hgo
    have HB := Lib.hid hbel; clear hbel
    by_cases hlt : i < t.length
    · obtain rfl := HP.out (by omega)
      obtain ⟨g0, g1, g2, g3, g4, g5, ⟨q1, q2, q3, q4, q5⟩⟩ := tsR_keeps _ _ _ _ _ HB.out (HC.out i hlt)
      have HNO : Hid (tsOk e t[i] = false → tabOk t = false) := tabOk_no hlt HGO.out
      have HYE : Hid (tsOk e t[i] = true → tabGo (t[i].addr + t[i].size) (t.drop (i + 1)) = tabGo 256 t) := tabGo_yes hlt HGO.out
      generalize t[i] = x at g1 g2 g3 g4 g5 q1 q2 q3 q4 q5 HNO HYE
      obtain ⟨xn, xo, xa, xs, xk⟩ := x
      simp only [] at g1 g2 g3 g4 g5 q1 q2 q3 q4 q5 HNO HYE
      have qk0 := q3.1; have qk1 := q3.2; have qs0 := q2.1; have qs1 := q2.2; have qa0 := q1.1; have qa1 := q1.2
      clear q1 q2 q3
      have HN1 := Lib.hid (fun w => whName_any xn w q4)
      have HN2 := Lib.hid (fun w => whName_any xo w q5)
      clear q4 q5
      go_upto_region 5 with fail
      have HX : Hid ((wr.alloc (.cells #[.string xn, .string xo, .int .u32 xa, .int .u32 xs, .int .u8 xk] 56)).heap[wr.heap.size]? = some (.cells #[.string xn, .string xo, .int .u32 xa, .int .u32 xs, .int .u8 xk] 56 (0, 0))) := heap_alloc_new wr _
      have HW : Hid (Below w.heap.size w (wr.alloc (.cells #[.string xn, .string xo, .int .u32 xa, .int .u32 xs, .int .u8 xk] 56))) := HB.out.alloc HB.out.size _
      generalize wr.alloc (.cells #[.string xn, .string xo, .int .u32 xa, .int .u32 xs, .int .u8 xk] 56) = w2 at HX HW ⊢
      generalize wr.heap.size = xb at HX ⊢
      have b0 : w2.cell? ⟨xb, 0, none⟩ = some (.string xn) := Lib.cell_of_heap HX.out 0
      have b1 : w2.cell? ⟨xb, 1, none⟩ = some (.string xo) := Lib.cell_of_heap HX.out 1
      have b2 : w2.cell? ⟨xb, 2, none⟩ = some (.int .u32 xa) := Lib.cell_of_heap HX.out 2
      have b3 : w2.cell? ⟨xb, 3, none⟩ = some (.int .u32 xs) := Lib.cell_of_heap HX.out 3
      have b4 : w2.cell? ⟨xb, 4, none⟩ = some (.int .u8 xk) := Lib.cell_of_heap HX.out 4
      by_cases hok : tsOk e ⟨xn, xo, xa, xs, xk⟩ = true
      · obtain ⟨k1, k2, k3, k4, k5, k6, k7, k8, k9⟩ := tsOk_iff.1 hok
        simp only [] at k1 k2 k3 k4 k5 k6 k7 k8 k9
        rw [k1] at HN1
        rw [k2] at HN2
        have HY := Lib.hid (HYE.out hok)
        have hmod : (xa + xs) % 4294967296 = xa + xs := by omega
        have HEN := Lib.hid (fun w => end_any xn xo xa xs xk w)
        rw [hmod] at HEN
        clear k1 k2 hok HNO HYE hmod HB
        go_wp2_with fail
        refine (HN1.out _).mono ?_
        rintro e' w3 ⟨rfl, hb⟩
        replace HX := Lib.hid ((hb.block xb (Array.getElem?_eq_some_iff.1 HX.out).1).trans HX.out)
        replace HW := Lib.hid (HW.out.trans (hb.mono HW.out.size))
        clear hb b0 b1 b2 b3 b4
        have b0 : w3.cell? ⟨xb, 0, none⟩ = some (.string xn) := Lib.cell_of_heap HX.out 0
        have b1 : w3.cell? ⟨xb, 1, none⟩ = some (.string xo) := Lib.cell_of_heap HX.out 1
        have b2 : w3.cell? ⟨xb, 2, none⟩ = some (.int .u32 xa) := Lib.cell_of_heap HX.out 2
        have b3 : w3.cell? ⟨xb, 3, none⟩ = some (.int .u32 xs) := Lib.cell_of_heap HX.out 3
        have b4 : w3.cell? ⟨xb, 4, none⟩ = some (.int .u8 xk) := Lib.cell_of_heap HX.out 4
        go_wp2_with fail
        refine (HN2.out _).mono ?_
        rintro e' w4 ⟨rfl, hb⟩
        replace HX := Lib.hid ((hb.block xb (Array.getElem?_eq_some_iff.1 HX.out).1).trans HX.out)
        replace HW := Lib.hid (HW.out.trans (hb.mono HW.out.size))
        clear hb b0 b1 b2 b3 b4
        have b0 : w4.cell? ⟨xb, 0, none⟩ = some (.string xn) := Lib.cell_of_heap HX.out 0
        have b1 : w4.cell? ⟨xb, 1, none⟩ = some (.string xo) := Lib.cell_of_heap HX.out 1
        have b2 : w4.cell? ⟨xb, 2, none⟩ = some (.int .u32 xa) := Lib.cell_of_heap HX.out 2
        have b3 : w4.cell? ⟨xb, 3, none⟩ = some (.int .u32 xs) := Lib.cell_of_heap HX.out 3
        have b4 : w4.cell? ⟨xb, 4, none⟩ = some (.int .u8 xk) := Lib.cell_of_heap HX.out 4
        go_wp2_with fail
        refine (HEN.out _).mono ?_
        rintro e' w5 ⟨rfl, hb⟩
        replace HX := Lib.hid ((hb.block xb (Array.getElem?_eq_some_iff.1 HX.out).1).trans HX.out)
        replace HW := Lib.hid (HW.out.trans (hb.mono HW.out.size))
        clear hb b0 b1 b2 b3 b4
        have b0 : w5.cell? ⟨xb, 0, none⟩ = some (.string xn) := Lib.cell_of_heap HX.out 0
        have b1 : w5.cell? ⟨xb, 1, none⟩ = some (.string xo) := Lib.cell_of_heap HX.out 1
        have b2 : w5.cell? ⟨xb, 2, none⟩ = some (.int .u32 xa) := Lib.cell_of_heap HX.out 2
        have b3 : w5.cell? ⟨xb, 3, none⟩ = some (.int .u32 xs) := Lib.cell_of_heap HX.out 3
        have b4 : w5.cell? ⟨xb, 4, none⟩ = some (.int .u8 xk) := Lib.cell_of_heap HX.out 4
        go_wp2_with fail
        refine (HEN.out _).mono ?_
        rintro e' w6 ⟨rfl, hb⟩
        replace HX := Lib.hid ((hb.block xb (Array.getElem?_eq_some_iff.1 HX.out).1).trans HX.out)
        replace HW := Lib.hid (HW.out.trans (hb.mono HW.out.size))
        clear hb b0 b1 b2 b3 b4
        have b0 : w6.cell? ⟨xb, 0, none⟩ = some (.string xn) := Lib.cell_of_heap HX.out 0
        have b1 : w6.cell? ⟨xb, 1, none⟩ = some (.string xo) := Lib.cell_of_heap HX.out 1
        have b2 : w6.cell? ⟨xb, 2, none⟩ = some (.int .u32 xa) := Lib.cell_of_heap HX.out 2
        have b3 : w6.cell? ⟨xb, 3, none⟩ = some (.int .u32 xs) := Lib.cell_of_heap HX.out 3
        have b4 : w6.cell? ⟨xb, 4, none⟩ = some (.int .u8 xk) := Lib.cell_of_heap HX.out 4
        go_wp2
        go_roundw
        case rel => exact ⟨i + 1, xa + xs, by omega, by go_num, rfl, by omega, HY.out, HW.out⟩
        case measure => simp [intOf]; omega
      · have HF := Lib.hid (HNO.out (by simpa using hok))
        have hne := fun h => hok (tsOk_iff.2 h)
        simp only [] at hne
        have HEN := Lib.hid (fun w => end_any xn xo xa xs xk w)
        clear hok HNO HYE HB
        by_cases k1 : isName xn = true
        case neg =>
          have k1' : isName xn = false := by simpa using k1
          rw [k1'] at HN1
          clear k1 k1' hne
          go_wp2_with fail
          refine (HN1.out _).mono ?_
          rintro e' w3 ⟨rfl, hb⟩
          replace HX := Lib.hid ((hb.block xb (Array.getElem?_eq_some_iff.1 HX.out).1).trans HX.out)
          replace HW := Lib.hid (HW.out.trans (hb.mono HW.out.size))
          clear hb b0 b1 b2 b3 b4
          have b0 : w3.cell? ⟨xb, 0, none⟩ = some (.string xn) := Lib.cell_of_heap HX.out 0
          have b1 : w3.cell? ⟨xb, 1, none⟩ = some (.string xo) := Lib.cell_of_heap HX.out 1
          have b2 : w3.cell? ⟨xb, 2, none⟩ = some (.int .u32 xa) := Lib.cell_of_heap HX.out 2
          have b3 : w3.cell? ⟨xb, 3, none⟩ = some (.int .u32 xs) := Lib.cell_of_heap HX.out 3
          have b4 : w3.cell? ⟨xb, 4, none⟩ = some (.int .u8 xk) := Lib.cell_of_heap HX.out 4
          go_wp2
          go_ret
          exact ⟨by rw [HF.out]; rfl, HW.out⟩
        rw [k1] at HN1
        go_wp2_with fail
        refine (HN1.out _).mono ?_
        rintro e' w3 ⟨rfl, hb⟩
        replace HX := Lib.hid ((hb.block xb (Array.getElem?_eq_some_iff.1 HX.out).1).trans HX.out)
        replace HW := Lib.hid (HW.out.trans (hb.mono HW.out.size))
        clear hb b0 b1 b2 b3 b4
        have b0 : w3.cell? ⟨xb, 0, none⟩ = some (.string xn) := Lib.cell_of_heap HX.out 0
        have b1 : w3.cell? ⟨xb, 1, none⟩ = some (.string xo) := Lib.cell_of_heap HX.out 1
        have b2 : w3.cell? ⟨xb, 2, none⟩ = some (.int .u32 xa) := Lib.cell_of_heap HX.out 2
        have b3 : w3.cell? ⟨xb, 3, none⟩ = some (.int .u32 xs) := Lib.cell_of_heap HX.out 3
        have b4 : w3.cell? ⟨xb, 4, none⟩ = some (.int .u8 xk) := Lib.cell_of_heap HX.out 4
        by_cases k2 : isName xo = true
        case neg =>
          have k2' : isName xo = false := by simpa using k2
          rw [k2'] at HN2
          clear k1 k2 k2' hne
          go_wp2_with fail
          refine (HN2.out _).mono ?_
          rintro e' w4 ⟨rfl, hb⟩
          replace HX := Lib.hid ((hb.block xb (Array.getElem?_eq_some_iff.1 HX.out).1).trans HX.out)
          replace HW := Lib.hid (HW.out.trans (hb.mono HW.out.size))
          clear hb b0 b1 b2 b3 b4
          have b0 : w4.cell? ⟨xb, 0, none⟩ = some (.string xn) := Lib.cell_of_heap HX.out 0
          have b1 : w4.cell? ⟨xb, 1, none⟩ = some (.string xo) := Lib.cell_of_heap HX.out 1
          have b2 : w4.cell? ⟨xb, 2, none⟩ = some (.int .u32 xa) := Lib.cell_of_heap HX.out 2
          have b3 : w4.cell? ⟨xb, 3, none⟩ = some (.int .u32 xs) := Lib.cell_of_heap HX.out 3
          have b4 : w4.cell? ⟨xb, 4, none⟩ = some (.int .u8 xk) := Lib.cell_of_heap HX.out 4
          go_wp2
          go_ret
          exact ⟨by rw [HF.out]; rfl, HW.out⟩
        rw [k2] at HN2
        go_wp2_with fail
        refine (HN2.out _).mono ?_
        rintro e' w4 ⟨rfl, hb⟩
        replace HX := Lib.hid ((hb.block xb (Array.getElem?_eq_some_iff.1 HX.out).1).trans HX.out)
        replace HW := Lib.hid (HW.out.trans (hb.mono HW.out.size))
        clear hb b0 b1 b2 b3 b4
        have b0 : w4.cell? ⟨xb, 0, none⟩ = some (.string xn) := Lib.cell_of_heap HX.out 0
        have b1 : w4.cell? ⟨xb, 1, none⟩ = some (.string xo) := Lib.cell_of_heap HX.out 1
        have b2 : w4.cell? ⟨xb, 2, none⟩ = some (.int .u32 xa) := Lib.cell_of_heap HX.out 2
        have b3 : w4.cell? ⟨xb, 3, none⟩ = some (.int .u32 xs) := Lib.cell_of_heap HX.out 3
        have b4 : w4.cell? ⟨xb, 4, none⟩ = some (.int .u8 xk) := Lib.cell_of_heap HX.out 4
        by_cases hc : 1 ≤ xk
        case neg =>
          have hc' : xk < 1 := by omega
          clear hc k1 k2 hne
          go_wp2
          go_ret
          exact ⟨by rw [HF.out]; rfl, HW.out⟩
        have k3 := hc; clear hc
        by_cases hc : xk ≤ 3
        case neg =>
          have hc' : 3 < xk := by omega
          clear hc k1 k2 hne
          go_wp2
          go_ret
          exact ⟨by rw [HF.out]; rfl, HW.out⟩
        have k4 := hc; clear hc
        by_cases hc : 1 ≤ xs
        case neg =>
          have hc' : xs < 1 := by omega
          clear hc k1 k2 hne
          go_wp2
          go_ret
          exact ⟨by rw [HF.out]; rfl, HW.out⟩
        have k5 := hc; clear hc
        by_cases hc : xs ≤ 8192
        case neg =>
          have hc' : 8192 < xs := by omega
          clear hc k1 k2 hne
          go_wp2
          go_ret
          exact ⟨by rw [HF.out]; rfl, HW.out⟩
        have k6 := hc; clear hc
        by_cases hc : e ≤ xa
        case neg =>
          have hc' : xa < e := by omega
          clear hc k1 k2 hne
          go_wp2
          go_ret
          exact ⟨by rw [HF.out]; rfl, HW.out⟩
        have k7 := hc; clear hc
        by_cases hc : xa ≤ 131072
        case neg =>
          have hc' : 131072 < xa := by omega
          clear hc k1 k2 hne
          go_wp2
          go_ret
          exact ⟨by rw [HF.out]; rfl, HW.out⟩
        have k8 := hc; clear hc
        have k9 : 131072 < xa + xs := by
          have : ¬ xa + xs ≤ 131072 := fun h => hne ⟨k1, k2, k3, k4, k5, k6, k7, k8, h⟩
          omega
        have hmod : (xa + xs) % 4294967296 = xa + xs := by omega
        rw [hmod] at HEN
        clear k1 k2 hne hmod
        go_wp2_with fail
        refine (HEN.out _).mono ?_
        rintro e' w5 ⟨rfl, hb⟩
        replace HX := Lib.hid ((hb.block xb (Array.getElem?_eq_some_iff.1 HX.out).1).trans HX.out)
        replace HW := Lib.hid (HW.out.trans (hb.mono HW.out.size))
        clear hb b0 b1 b2 b3 b4
        have b0 : w5.cell? ⟨xb, 0, none⟩ = some (.string xn) := Lib.cell_of_heap HX.out 0
        have b1 : w5.cell? ⟨xb, 1, none⟩ = some (.string xo) := Lib.cell_of_heap HX.out 1
        have b2 : w5.cell? ⟨xb, 2, none⟩ = some (.int .u32 xa) := Lib.cell_of_heap HX.out 2
        have b3 : w5.cell? ⟨xb, 3, none⟩ = some (.int .u32 xs) := Lib.cell_of_heap HX.out 3
        have b4 : w5.cell? ⟨xb, 4, none⟩ = some (.int .u8 xk) := Lib.cell_of_heap HX.out 4
        go_wp2
        go_ret
        exact ⟨by rw [HF.out]; rfl, HW.out⟩
    · by_cases hl : t.length ≤ 1024
      · have HE : Hid (tabOk t = true) := by rw [Hid, tabOk_end hlt HGO.out]; simpa using hl
        have d1 : decide ((1024 : Int) < (t.length : Int)) = false := by simp; omega
        have d2 : decide (1024 < t.length) = false := by simp; omega
        clear hl
        go_wp2
        go_ret
        exact ⟨by rw [HE.out]; rfl, HB.out⟩
      · have HE : Hid (tabOk t = false) := by rw [Hid, tabOk_end hlt HGO.out]; simpa using hl
        have d1 : decide ((1024 : Int) < (t.length : Int)) = true := by simp; omega
        have d2 : decide (1024 < t.length) = true := by simp; omega
        clear hl
        go_wp2
        go_ret
        exact ⟨by rw [HE.out]; rfl, HB.out⟩
end Go.Proofs.YtdjgkmpjhpnkeaaGreatDoor
