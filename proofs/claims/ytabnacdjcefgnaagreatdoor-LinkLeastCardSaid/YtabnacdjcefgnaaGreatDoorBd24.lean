/- The walks of link.Special and link.Full. The walk of aediculelaw18.three. The chapter's example of layer 18, in plain words. No program in sight. The walk of aediculelaw18.alive. The walk of aediculelaw18.bytes. -/
import Derived.Test.YtabnacdjcefgnaaGreatDoorBd23
import Derived.Test.YtabnacdjcefgnaaGreatDoorBd02
import Derived.Test.YtabnacdjcefgnaaGreatDoorBd05
import Derived.Lib.Hide
import Derived.Test.YtabnacdjcefgnaaGreatDoorRows
import Derived.Test.YtabnacdjcefgnaaGreatDoorBd18
namespace Go.Proofs.YtabnacdjcefgnaaGreatDoor
open Go.RowKit Go.Maps Go.WideMaps
theorem keptYes_same {l : List GObj} {nm : ByteArray} {p q : PP} {K K' : List PP} (h : KeptYes l nm p K) (h' : KeptYes l nm q K') : p = q ∧ K = K' := by
  have e : p = q := Option.some.inj (h.2.1.symm.trans h'.2.1)
  subst e
  exact ⟨rfl, h.2.2.1.eq h'.2.2.1⟩
theorem toldR_zero {l : List GObj} : ∀ {K : List PP}, (∀ x ∈ K, refsC l x = 0) → toldR l K = (emptyB, 0)
  | [], _ => rfl
  | x :: r, h => by
    have h0 : (refsV (beginR l) l x.1 x.2).2.2 = 0 := h x (by simp)
    rw [toldR, if_pos h0, toldR_zero fun y hy => h y (by simp [hy])]
theorem kept_not_err {l : List GObj} {nm n : ByteArray} {p : PP} {K : List PP} {c : Int} (h : KeptYes l nm p K) (he : KeptErr l nm n c) : c = 0 := by
  have hz : (entryR l nm).2.2 = 0 := by unfold entryR; rw [if_neg (by simpa using h.1), h.2.1]
  rcases he with ⟨h1, -⟩ | ⟨-, q, K', h1, h2, h3⟩
  · exact absurd hz h1
  · have e : p = q := Option.some.inj (h.2.1.symm.trans h1)
    subst e
    rw [← h.2.2.1.eq h2, toldR_zero h.2.2.2] at h3
    simp only [Prod.mk.injEq] at h3
    exact h3.2.symm
theorem keptErr_same {l : List GObj} {nm n n' : ByteArray} {c c' : Int} (h : KeptErr l nm n c) (h' : KeptErr l nm n' c') : n = n' ∧ c = c' := by
  rcases h with ⟨h1, h2, h3⟩ | ⟨h1, p, K, h2, h3, h4⟩
  · rcases h' with ⟨-, h5, h6⟩ | ⟨h5, -⟩
    · exact ⟨h2.trans h5.symm, h3.trans h6.symm⟩
    · exact absurd h5 h1
  · rcases h' with ⟨h5, -⟩ | ⟨-, q, K', h5, h6, h7⟩
    · exact absurd h1 h5
    · have e : p = q := Option.some.inj (h2.symm.trans h5)
      subst e
      rw [← h3.eq h6, h4] at h7
      simpa using h7
theorem kept_len {l : List GObj} {nm : ByteArray} {p : PP} {K : List PP} (h : KeptYes l nm p K) : K.length ≤ 1024 := by
  have hm := (beginR_zero h.1).1
  have hnd : K.Nodup := h.2.2.1.1.imp fun {a b} hab e => by subst e; unfold plt at hab; omega
  have h1 := nodup_sub K (allK l) hnd fun x hx => reach_all h.2.1 ((h.2.2.1.2 x).1 hx)
  have h2 := selPlaces_le (flat l) (flat l)
  have h3 := flat_length_le hm
  unfold allK at h1
  omega
theorem places_g {w : World} {v : Value} {K : List PP} (h : RowAt 2 PlaceR w v K) : RowAt 2 PlcR w v (K.map toG) := by
  obtain ⟨p, cap, b, o, rfl, h2, h3, h4, h5⟩ := h
  refine ⟨p, cap, b, o, by rw [List.length_map], by rw [List.length_map]; exact h2, by rw [List.length_map]; exact h3, by rw [List.length_map]; exact h4, fun i hi => ?_⟩
  have hi' : i < K.length := by simpa using hi
  have e : (K.map toG)[i] = toG K[i] := by simp
  rw [e]
  exact h5 i hi'
def Sp18 (l : List GObj) (nm : ByteArray) (r : GLink × ByteArray × Int) : Prop :=
  (∃ n c, c ≠ 0 ∧ KeptErr l nm n c ∧ r = (link0, n, c)) ∨ ∃ p K, KeptYes l nm p K ∧ r = linkR l nm p (K.map toG)
theorem LinkAt.shape {w : World} {x : GLink} {ve vp vs va : Value} (h : LinkAt w x ve vp vs va) : ∃ (p1 : Option Addr) (c1 : Nat) (p2 : Option Addr) (c2 : Nat) (p3 : Option Addr) (c3 : Nat) (p4 : Option Addr) (c4 : Nat), ve = .slice p1 x.man.exts.length c1 ∧ vp = .slice p2 x.man.ports.length c2 ∧ vs = .slice p3 x.segs.length c3 ∧ va = .slice p4 x.addrs.length c4 := by
  obtain ⟨⟨⟨p1, c1, _, _, h1, _⟩, ⟨p2, c2, _, _, h2, _⟩, _⟩, ⟨p3, c3, _, _, h3, _⟩, ⟨p4, c4, _, _, h4, _⟩, _⟩ := h
  exact ⟨p1, c1, p2, c2, p3, c3, p4, c4, h1, h2, h3, h4⟩
theorem row_kb {α : Type} {k : Nat} {R : World → Nat → Nat → α → Prop} {w w' : World} {v : Value} {l : List α} (h : RowAt k R w v l) (hR : ∀ b o x, R w b o x → R w' b o x) : RowAt k R w' v l := by
  obtain ⟨p, cap, b, o, h1, h2, h3, h4, h5⟩ := h
  exact ⟨p, cap, b, o, h1, h2, h3, h4, fun i hi => hR _ _ _ (h5 i hi)⟩
theorem z_at {w : World} {x j : Nat} {u : Value} (h : w.heap[x]? = some (.cells zlink 37 (0, 0))) (hc : w.cell? ⟨x, j, none⟩ = some u) : zlink[j]? = some u := by
  rw [← Lib.cell_of_heap h j]; exact hc
/-- an image's rows lie apart from a result's cells as they are made -/
theorem LinkAt.kb {w w' : World} {x : GLink} {b : Nat} {ve vp vs va : Value} (h : LinkAt w x ve vp vs va) (hz : w.heap[b]? = some (.cells zlink 37 (0, 0))) (hk : KB (fun q => q = b) w w') : LinkAt w' x ve vp vs va := by
  refine ⟨⟨row_kb h.1.1 fun c o y hy => ?_, row_kb h.1.2.1 fun c o y hy => ?_, h.1.2.2⟩, row_kb h.2.1 fun c o y hy => ?_, row_kb h.2.2.1 fun c o y hy => ?_, h.2.2.2⟩
  · have hne : c ≠ b := fun e => by
      subst e
      have h1 := z_at hz hy.2.1
      have h2 := z_at hz hy.2.2.1
      match o, h1, h2 with
      | 0, h1, h2 => simp [zlink] at h2
      | 1, h1, h2 => simp [zlink] at h1
      | 2, h1, h2 => simp [zlink] at h1
      | 3, h1, h2 => simp [zlink] at h1
      | 4, h1, h2 => simp [zlink] at h2
      | 5, h1, h2 => simp [zlink] at h1
      | 6, h1, h2 => simp [zlink] at h1
      | n + 7, h1, h2 => simp [zlink] at h1
    exact ⟨Nat.lt_of_lt_of_le hy.1 hk.size, hk.cell hy.1 hne hy.2.1, hk.cell hy.1 hne hy.2.2.1, hy.2.2.2⟩
  · have hne : c ≠ b := fun e => zlink_cells hz _ (by simp [zlink]) o (e ▸ hy.2.1)
    exact ⟨Nat.lt_of_lt_of_le hy.1 hk.size, hk.cell hy.1 hne hy.2.1, hy.2.2⟩
  · have hne : c ≠ b := fun e => zlink_cells hz _ (by simp [zlink]) (o + 1) (e ▸ hy.2.2.1)
    exact ⟨Nat.lt_of_lt_of_le hy.1 hk.size, hk.cell hy.1 hne hy.2.1, hk.cell hy.1 hne hy.2.2.1, hk.cell hy.1 hne hy.2.2.2.1, hy.2.2.2.2⟩
  · have hne : c ≠ b := fun e => zlink_cells hz _ (by simp [zlink]) o (e ▸ hy.2.1)
    exact hy.kb hk hne
set_option maxRecDepth 100000 in
set_option maxHeartbeats 4000000 in
theorem special18_any (hsort : SortOk) (v : Value) (l : List GObj) (nm : ByteArray) (w : World) (h : ObjsAt w v l) (hn : nm.size ≤ 9223372036854775807) (hb : mayAll l = true → ∀ o ∈ l, ∀ s ∈ o.syms, s.bytes.size < 4294967296) :
    Calls Tryz.prog 11 #[.string nm, v] w fun e w' => ∃ r, Sp18 l nm r ∧ LPost w r e w' := by
  have HKC : Hid (∀ W, Below w.heap.size w W → Calls Tryz.prog 23 #[.string nm, v] W (Kept18Post l nm W)) := fun W hW => kept18_any hsort v l nm W (h.keep hW) hn
  have HLO : Hid (∀ W pv K, Below w.heap.size w W → RowAt 2 PlaceR W pv K → K.length ≤ 1024 → Calls Tryz.prog 13 #[.string nm, pv, v] W fun e w' => ∃ r, Of18 l nm (K.map toG) r ∧ LPost W r e w') := fun W pv K hW hr hl => linkOf_any hsort v pv l (K.map toG) nm W (h.keep hW) (places_g hr) hn (by simp; omega) hb
  obtain ⟨qv, cv, hv⟩ : ∃ (pv : Option Addr) (cv : Nat), v = .slice pv l.length cv := by obtain ⟨p, cap, b, o, rfl, _⟩ := h; exact ⟨p, cap, rfl⟩
  subst hv
  clear h hb hsort
  generalize hW : (w.alloc (.cells #[.int .u32 0, .slice none 0 0, .slice none 0 0, .bool false, .int .u32 0, .slice none 0 0, .slice none 0 0] 37)) = w1
  have z1 : w1.heap.size = w.heap.size + 1 := by subst hW; simp
  have HB1 : Hid (Below w.heap.size w w1) := by subst hW; exact alloc_old w _
  have HR1 : Hid (w1.heap[w.heap.size]? = some (.cells zlink 37 (0, 0))) := by subst hW; exact new_block w _
  go_enter Tryz.func11, Tryz.ntmps11
  go_wp2_with fail
  try rw [hW]
  clear hW
  refine (HKC.out _ HB1.out).mono ?_
  rintro e w2 ⟨⟨p, K, vo, hky, hrow, rfl⟩ | ⟨n, c, hc, rfl, hke⟩, hB2⟩
  · have HLK := Lib.hid (HLO.out w2 vo K (HB1.out.trans (hB2.mono (by omega))) hrow (kept_len hky))
    have HKY := Lib.hid hky
    obtain ⟨p2, c2, b2, o2, rfl, -⟩ := hrow
    have HB2 : Hid (Below w.heap.size w w2) := HB1.out.trans (hB2.mono (by omega))
    have HR2 : Hid (w2.heap[w.heap.size]? = some (.cells zlink 37 (0, 0))) := (hB2.block _ (by omega)).trans HR1.out
    have z2 : w.heap.size < w2.heap.size := by have := hB2.size; omega
    clear hky hB2 HKC HLO
    go_wp2_with fail
    refine HLK.out.mono ?_
    rintro e w3 ⟨r, hof, ve, vp, vs, va, rfl, hla, hB3⟩
    have HSP : Hid (Sp18 l nm r) := by
      rcases hof with ⟨n, c, hc, hke, rfl⟩ | ⟨q, K', hky', rfl⟩
      · exact absurd (kept_not_err HKY.out hke) hc
      · obtain ⟨rfl, rfl⟩ := keptYes_same HKY.out hky'
        exact .inr ⟨_, _, hky', rfl⟩
    obtain ⟨p1, d1, p2', d2, p3, d3, p4, d4, rfl, rfl, rfl, rfl⟩ := hla.shape
    obtain ⟨⟨⟨rp, re, rq, rc⟩, ren, rs, ra⟩, rn, rcd⟩ := r
    simp only [] at hla HSP
    have HLA := Lib.hid hla
    have HR3 := Lib.hid ((hB3.block _ z2).trans HR2.out)
    have HB3 : Hid (Below w.heap.size w w3) := HB2.out.trans (hB3.mono HB2.out.size)
    have HPUT := Lib.hid (sevens (zput (u0 := .int .u32 rp) (u1 := .slice p1 re.length d1) (u2 := .slice p2' rq.length d2) (u3 := .bool rc) (u4 := .int .u32 ren) (u5 := .slice p3 rs.length d3) (u6 := .slice p4 ra.length d4) HR3.out))
    obtain ⟨r0, r1, r2, r3, r4, r5, r6, rz⟩ := zfacts HR3.out
    unfold linkV
    clear hla hof hB3
    go_wp2_with fail
    obtain ⟨x0, x1, x2, x3, x4, x5, x6⟩ := HPUT.out
    refine bodyPost_ret (v := .tuple #[.agg #[.int .u32 rp, .slice p1 re.length d1, .slice p2' rq.length d2, .bool rc, .int .u32 ren, .slice p3 rs.length d3, .slice p4 ra.length d4], .string rn, .int .i64 rcd]) (by simp [results, Tryz.results11, go_sem, x0, x1, x2, x3, x4, x5, x6]) rfl ?_
    exact ⟨_, HSP.out, _, _, _, _, rfl, HLA.out.kb HR3.out (put7_kb w3 w.heap.size), put7_below HB3.out (Nat.le_refl _)⟩
  · have HKE := Lib.hid hke
    have hcb : (c != 0) = true := by simpa using hc
    have hr := (hB2.block _ (by omega)).trans HR1.out
    obtain ⟨r0, r1, r2, r3, r4, r5, r6, rz⟩ := zfacts hr
    have HPUT := Lib.hid (sevens (zput (u0 := .int .u32 0) (u1 := .slice none 0 0) (u2 := .slice none 0 0) (u3 := .bool false) (u4 := .int .u32 0) (u5 := .slice none 0 0) (u6 := .slice none 0 0) hr))
    have HB2 : Hid (Below w.heap.size w w2) := HB1.out.trans (hB2.mono (by omega))
    have HC := Lib.hid hc
    clear hB2 hke hr hc
    go_wp2_with fail
    obtain ⟨x0, x1, x2, x3, x4, x5, x6⟩ := HPUT.out
    refine bodyPost_ret (v := .tuple #[.agg #[.int .u32 0, .slice none 0 0, .slice none 0 0, .bool false, .int .u32 0, .slice none 0 0, .slice none 0 0], .string n, .int .i64 c]) (by simp [results, Tryz.results11, go_sem, x0, x1, x2, x3, x4, x5, x6]) rfl ?_
    exact ⟨(link0, n, c), .inl ⟨n, c, HC.out, HKE.out, rfl⟩, _, _, _, _, rfl, link0_at _, put7_below HB2.out (Nat.le_refl _)⟩
/-- why not all are linked -/
def AllErr (l : List GObj) (nm n : ByteArray) (c : Int) : Prop := ((entryR l nm).2.2 ≠ 0 ∧ n = (entryR l nm).2.1 ∧ c = (entryR l nm).2.2) ∨ ((entryR l nm).2.2 = 0 ∧ toldR l (allK l) = (n, c))
def Fu18 (l : List GObj) (nm : ByteArray) (r : GLink × ByteArray × Int) : Prop :=
  (∃ n c, c ≠ 0 ∧ AllErr l nm n c ∧ r = (link0, n, c)) ∨ ((entryR l nm).2.2 = 0 ∧ (toldR l (allK l)).2 = 0 ∧ Of18 l nm ((allK l).map toG) r)
theorem all_len {l : List GObj} {nm : ByteArray} (h : (entryR l nm).2.2 = 0) : (allK l).length ≤ 1024 := by
  have hb : (beginR l).2 = 0 := by
    unfold entryR at h
    by_cases hb : (beginR l).2 ≠ 0
    · rw [if_pos hb] at h; exact absurd h hb
    · simpa using hb
  have h2 := selPlaces_le (flat l) (flat l)
  have h3 := flat_length_le (beginR_zero hb).1
  unfold allK
  omega
set_option maxRecDepth 100000 in
set_option maxHeartbeats 4000000 in
theorem full18_any (hsort : SortOk) (v : Value) (l : List GObj) (nm : ByteArray) (w : World) (h : ObjsAt w v l) (hn : nm.size ≤ 9223372036854775807) (hb : mayAll l = true → ∀ o ∈ l, ∀ s ∈ o.syms, s.bytes.size < 4294967296) :
    Calls Tryz.prog 9 #[.string nm, v] w fun e w' => ∃ r, Fu18 l nm r ∧ LPost w r e w' := by
  have HKC : Hid (∀ W, Below w.heap.size w W → Calls Tryz.prog 31 #[.string nm, v] W (AllPost18 l nm W)) := fun W hW => all18_any v l nm W (h.keep hW) hn
  have HLO : Hid (∀ W pv K, Below w.heap.size w W → RowAt 2 PlaceR W pv K → K.length ≤ 1024 → Calls Tryz.prog 13 #[.string nm, pv, v] W fun e w' => ∃ r, Of18 l nm (K.map toG) r ∧ LPost W r e w') := fun W pv K hW hr hl => linkOf_any hsort v pv l (K.map toG) nm W (h.keep hW) (places_g hr) hn (by simp; omega) hb
  obtain ⟨qv, cv, hv⟩ : ∃ (pv : Option Addr) (cv : Nat), v = .slice pv l.length cv := by obtain ⟨p, cap, b, o, rfl, _⟩ := h; exact ⟨p, cap, rfl⟩
  subst hv
  clear h hb hsort
  generalize hW : (w.alloc (.cells #[.int .u32 0, .slice none 0 0, .slice none 0 0, .bool false, .int .u32 0, .slice none 0 0, .slice none 0 0] 37)) = w1
  have z1 : w1.heap.size = w.heap.size + 1 := by subst hW; simp
  have HB1 : Hid (Below w.heap.size w w1) := by subst hW; exact alloc_old w _
  have HR1 : Hid (w1.heap[w.heap.size]? = some (.cells zlink 37 (0, 0))) := by subst hW; exact new_block w _
  go_enter Tryz.func9, Tryz.ntmps9
  go_wp2_with fail
  try rw [hW]
  clear hW
  refine (HKC.out _ HB1.out).mono ?_
  rintro e w2 ⟨⟨vo, he0, ht0, hrow, rfl⟩ | ⟨n, c, hc, rfl, hke⟩, hB2⟩
  · have HLK := Lib.hid (HLO.out w2 vo (allK l) (HB1.out.trans (hB2.mono (by omega))) hrow (all_len he0))
    have HKY := Lib.hid (And.intro he0 ht0)
    obtain ⟨p2, c2, b2, o2, rfl, -⟩ := hrow
    have HB2 : Hid (Below w.heap.size w w2) := HB1.out.trans (hB2.mono (by omega))
    have HR2 : Hid (w2.heap[w.heap.size]? = some (.cells zlink 37 (0, 0))) := (hB2.block _ (by omega)).trans HR1.out
    have z2 : w.heap.size < w2.heap.size := by have := hB2.size; omega
    clear he0 ht0 hB2 HKC HLO
    go_wp2_with fail
    refine HLK.out.mono ?_
    rintro e w3 ⟨r, hof, ve, vp, vs, va, rfl, hla, hB3⟩
    have HSP : Hid (Fu18 l nm r) := .inr ⟨HKY.out.1, HKY.out.2, hof⟩
    obtain ⟨p1, d1, p2', d2, p3, d3, p4, d4, rfl, rfl, rfl, rfl⟩ := hla.shape
    obtain ⟨⟨⟨rp, re, rq, rc⟩, ren, rs, ra⟩, rn, rcd⟩ := r
    simp only [] at hla HSP
    have HLA := Lib.hid hla
    have HR3 := Lib.hid ((hB3.block _ z2).trans HR2.out)
    have HB3 : Hid (Below w.heap.size w w3) := HB2.out.trans (hB3.mono HB2.out.size)
    have HPUT := Lib.hid (sevens (zput (u0 := .int .u32 rp) (u1 := .slice p1 re.length d1) (u2 := .slice p2' rq.length d2) (u3 := .bool rc) (u4 := .int .u32 ren) (u5 := .slice p3 rs.length d3) (u6 := .slice p4 ra.length d4) HR3.out))
    obtain ⟨r0, r1, r2, r3, r4, r5, r6, rz⟩ := zfacts HR3.out
    unfold linkV
    clear hla hof hB3
    go_wp2_with fail
    obtain ⟨x0, x1, x2, x3, x4, x5, x6⟩ := HPUT.out
    refine bodyPost_ret (v := .tuple #[.agg #[.int .u32 rp, .slice p1 re.length d1, .slice p2' rq.length d2, .bool rc, .int .u32 ren, .slice p3 rs.length d3, .slice p4 ra.length d4], .string rn, .int .i64 rcd]) (by simp [results, Tryz.results9, go_sem, x0, x1, x2, x3, x4, x5, x6]) rfl ?_
    exact ⟨_, HSP.out, _, _, _, _, rfl, HLA.out.kb HR3.out (put7_kb w3 w.heap.size), put7_below HB3.out (Nat.le_refl _)⟩
  · have HKE := Lib.hid hke
    have hcb : (c != 0) = true := by simpa using hc
    have hr := (hB2.block _ (by omega)).trans HR1.out
    obtain ⟨r0, r1, r2, r3, r4, r5, r6, rz⟩ := zfacts hr
    have HPUT := Lib.hid (sevens (zput (u0 := .int .u32 0) (u1 := .slice none 0 0) (u2 := .slice none 0 0) (u3 := .bool false) (u4 := .int .u32 0) (u5 := .slice none 0 0) (u6 := .slice none 0 0) hr))
    have HB2 : Hid (Below w.heap.size w w2) := HB1.out.trans (hB2.mono (by omega))
    have HC := Lib.hid hc
    clear hB2 hke hr hc
    go_wp2_with fail
    obtain ⟨x0, x1, x2, x3, x4, x5, x6⟩ := HPUT.out
    refine bodyPost_ret (v := .tuple #[.agg #[.int .u32 0, .slice none 0 0, .slice none 0 0, .bool false, .int .u32 0, .slice none 0 0, .slice none 0 0], .string n, .int .i64 c]) (by simp [results, Tryz.results9, go_sem, x0, x1, x2, x3, x4, x5, x6]) rfl ?_
    exact ⟨(link0, n, c), .inl ⟨n, c, HC.out, HKE.out, rfl⟩, _, _, _, _, rfl, link0_at _, put7_below HB2.out (Nat.le_refl _)⟩
end Go.Proofs.YtabnacdjcefgnaaGreatDoor
namespace Go.Proofs.YtabnacdjcefgnaaGreatDoor
open Go.RowKit Go.Maps
def m18 : ByteArray := ⟨#[109, 97, 105, 110]⟩
def d18 : ByteArray := ⟨#[100]⟩
def f18 : ByteArray := ⟨#[102]⟩
def eight18 : ByteArray := ⟨#[49, 50, 51, 52, 53, 54, 55, 56]⟩
def syms18 : List GSym := [⟨m18, 1, 1, 8, eight18, [⟨4, 1, d18, 0⟩], []⟩, ⟨d18, 1, 2, 4, ⟨#[]⟩, [], [⟨3, 7, 0⟩]⟩, ⟨f18, 1, 1, 8, eight18, [], [⟨3, 9, 0⟩]⟩]
def l18 : List GObj := [⟨⟨#[111]⟩, syms18⟩]
set_option maxRecDepth 100000 in
set_option maxHeartbeats 2000000 in
theorem three18_any (w : World) : Calls Tryz.prog 29 #[] w fun e w' => (∃ b, e = .returned (.agg #[.string ⟨#[111]⟩, .slice (some ⟨b, 0, none⟩) 3 3]) ∧ RowAt 7 SymR w' (.slice (some ⟨b, 0, none⟩) 3 3) syms18) ∧ Below w.heap.size w w' := by
  go_enter Tryz.func29, Tryz.ntmps29
  go_wp2_with fail
  refine bodyPost_ret (v := .agg #[.string ⟨#[111]⟩, .slice (some ⟨w.heap.size + 1 + 1 + 1 + 1 + 1 + 1 + 1, 0, none⟩) 3 3]) (by simp [results, Tryz.results29, go_sem]) rfl ?_
  generalize hW : ((((((((w.alloc _).alloc _).alloc _).alloc _).alloc _).alloc _).alloc _).alloc _) = wF
  have hz : wF.heap.size = w.heap.size + 8 := by subst hW; simp
  have hB : Below w.heap.size w wF := by subst hW; exact (((((((alloc_old w _).alloc (by simp) _).alloc (by simp; omega) _).alloc (by simp; omega) _).alloc (by simp; omega) _).alloc (by simp; omega) _).alloc (by simp; omega) _).alloc (by simp; omega) _
  have q : ∀ j u, (#[.int .u32 4, .int .u8 1, .string d18, .int .u32 0] : Array Value)[j]? = some u → wF.cell? ⟨w.heap.size + 1, j, none⟩ = some u := by
    subst hW
    intro j u hu
    match j, hu with
    | 0, hu => cases hu; simp [go_sem, d18]
    | 1, hu => cases hu; simp [go_sem]
    | 2, hu => cases hu; simp [go_sem, d18]
    | 3, hu => cases hu; simp [go_sem]
  have n1 : ∀ j u, (#[.int .u8 3, .int .u32 7, .int .u32 0] : Array Value)[j]? = some u → wF.cell? ⟨w.heap.size + 1 + 1 + 1, j, none⟩ = some u := by
    subst hW
    intro j u hu
    match j, hu with
    | 0, hu => cases hu; simp [go_sem]
    | 1, hu => cases hu; simp [go_sem]
    | 2, hu => cases hu; simp [go_sem]
  have n2 : ∀ j u, (#[.int .u8 3, .int .u32 9, .int .u32 0] : Array Value)[j]? = some u → wF.cell? ⟨w.heap.size + 1 + 1 + 1 + 1 + 1, j, none⟩ = some u := by
    subst hW
    intro j u hu
    match j, hu with
    | 0, hu => cases hu; simp [go_sem]
    | 1, hu => cases hu; simp [go_sem]
    | 2, hu => cases hu; simp [go_sem]
  have s : ∀ j u, (#[.string m18, .int .u8 1, .int .u8 1, .int .u32 8, .string eight18, .slice (some ⟨w.heap.size + 1, 0, none⟩) 1 1, .slice none 0 0, .string d18, .int .u8 1, .int .u8 2, .int .u32 4, .string ⟨#[]⟩, .slice none 0 0, .slice (some ⟨w.heap.size + 1 + 1 + 1, 0, none⟩) 1 1, .string f18, .int .u8 1, .int .u8 1, .int .u32 8, .string eight18, .slice none 0 0, .slice (some ⟨w.heap.size + 1 + 1 + 1 + 1 + 1, 0, none⟩) 1 1] : Array Value)[j]? = some u → wF.cell? ⟨w.heap.size + 1 + 1 + 1 + 1 + 1 + 1 + 1, j, none⟩ = some u := by
    subst hW
    intro j u hu
    match j, hu with
    | 0, hu => cases hu; simp [go_sem, m18]
    | 1, hu => cases hu; simp [go_sem]
    | 2, hu => cases hu; simp [go_sem]
    | 3, hu => cases hu; simp [go_sem]
    | 4, hu => cases hu; simp [go_sem, eight18]
    | 5, hu => cases hu; simp [go_sem]
    | 6, hu => cases hu; simp [go_sem]
    | 7, hu => cases hu; simp [go_sem, d18]
    | 8, hu => cases hu; simp [go_sem]
    | 9, hu => cases hu; simp [go_sem]
    | 10, hu => cases hu; simp [go_sem]
    | 11, hu => cases hu; simp [go_sem]
    | 12, hu => cases hu; simp [go_sem]
    | 13, hu => cases hu; simp [go_sem]
    | 14, hu => cases hu; simp [go_sem, f18]
    | 15, hu => cases hu; simp [go_sem]
    | 16, hu => cases hu; simp [go_sem]
    | 17, hu => cases hu; simp [go_sem]
    | 18, hu => cases hu; simp [go_sem, eight18]
    | 19, hu => cases hu; simp [go_sem]
    | 20, hu => cases hu; simp [go_sem]
  clear hW
  refine ⟨⟨_, rfl, rowAt_three ⟨_, _, by omega, s 0 _ rfl, s 1 _ rfl, s 2 _ rfl, s 3 _ rfl, s 4 _ rfl, s 5 _ rfl, s 6 _ rfl, ?_⟩ ⟨_, _, by omega, s 7 _ rfl, s 8 _ rfl, s 9 _ rfl, s 10 _ rfl, s 11 _ rfl, s 12 _ rfl, s 13 _ rfl, ?_⟩ ⟨_, _, by omega, s 14 _ rfl, s 15 _ rfl, s 16 _ rfl, s 17 _ rfl, s 18 _ rfl, s 19 _ rfl, s 20 _ rfl, ?_⟩ (by omega)⟩, hB⟩
  · exact ⟨rowAt_one ⟨by omega, q 0 _ rfl, q 1 _ rfl, q 2 _ rfl, q 3 _ rfl, by simp, by simp, by simp, by decide⟩ (by omega), rowAt_nil, by simp, by simp, by simp, by decide, by decide⟩
  · exact ⟨rowAt_nil, rowAt_one ⟨by omega, n1 0 _ rfl, n1 1 _ rfl, n1 2 _ rfl, by simp, by simp, by simp⟩ (by omega), by simp, by simp, by simp, by decide, by decide⟩
  · exact ⟨rowAt_nil, rowAt_one ⟨by omega, n2 0 _ rfl, n2 1 _ rfl, n2 2 _ rfl, by simp, by simp, by simp⟩ (by omega), by simp, by simp, by simp, by decide, by decide⟩
end Go.Proofs.YtabnacdjcefgnaaGreatDoor
namespace Go.Proofs.YtabnacdjcefgnaaGreatDoor
theorem b18 : (beginR l18).2 = 0 := by decide +kernel
theorem fm18 : findR l18 (-1) m18.data.toList = some (0, 0) := by decide +kernel
theorem fd18 : findR l18 (-1) d18.data.toList = some (0, 1) := by decide +kernel
theorem fr18 : findR l18 0 d18.data.toList = some (0, 1) := by decide +kernel
theorem k00_18 (q : PP) : knowsP l18 (0, 0) q ↔ q = (0, 1) := by
  constructor
  · rintro ⟨x, hx, hf⟩
    have : x = ⟨4, 1, d18, 0⟩ := by
      have h : relsAt l18 0 0 = [⟨4, 1, d18, 0⟩] := rfl
      rw [h] at hx; exact List.mem_singleton.1 hx
    subst this
    have h2 : findR l18 0 d18.data.toList = some q := hf
    rw [fr18] at h2
    exact (Option.some.inj h2).symm
  · rintro rfl
    exact ⟨⟨4, 1, d18, 0⟩, by rw [show relsAt l18 (0, 0).1 (0, 0).2 = [⟨4, 1, d18, 0⟩] from rfl]; exact List.mem_singleton.2 rfl, fr18⟩
theorem k01_18 (q : PP) : ¬ knowsP l18 (0, 1) q := by
  rintro ⟨x, hx, hf⟩
  have h : relsAt l18 0 1 = [] := rfl
  rw [h] at hx; cases hx
theorem reach18 (x : PP) : Reach l18 (0, 0) x ↔ x = (0, 0) ∨ x = (0, 1) := by
  constructor
  · intro h
    induction h with
    | refl => exact .inl rfl
    | step _ k ih =>
      rcases ih with rfl | rfl
      · exact .inr ((k00_18 _).1 k)
      · exact absurd k (k01_18 _)
  · rintro (rfl | rfl)
    · exact .refl
    · exact .step .refl ((k00_18 _).2 rfl)
theorem reach18d (x : PP) : Reach l18 (0, 1) x ↔ x = (0, 1) := by
  constructor
  · intro h
    induction h with
    | refl => rfl
    | step _ k ih => subst ih; exact absurd k (k01_18 _)
  · rintro rfl; exact .refl
theorem kept18 : KeptOf l18 (0, 0) [(0, 0), (0, 1)] := by
  refine ⟨List.pairwise_cons.2 ⟨fun a ha => ?_, List.pairwise_cons.2 ⟨fun a ha => (by cases ha), List.Pairwise.nil⟩⟩, fun x => ?_⟩
  · obtain rfl := List.mem_singleton.1 ha
    exact .inr ⟨rfl, by decide⟩
  · rw [reach18]; simp
theorem kept18d : KeptOf l18 (0, 1) [(0, 1)] := ⟨List.pairwise_singleton _ _, fun x => by rw [reach18d]; simp⟩
theorem yes18 : KeptYes l18 m18 (0, 0) [(0, 0), (0, 1)] := ⟨b18, fm18, kept18, fun x hx => by
  rcases List.mem_cons.1 hx with rfl | hx
  · decide +kernel
  · obtain rfl := List.mem_singleton.1 hx; decide +kernel⟩
theorem yes18d : KeptYes l18 d18 (0, 1) [(0, 1)] := ⟨b18, fd18, kept18d, fun x hx => by obtain rfl := List.mem_singleton.1 hx; decide +kernel⟩
theorem sp_yes {l : List GObj} {nm : ByteArray} {p : PP} {K : List PP} {r : GLink × ByteArray × Int} (h : Sp18 l nm r) (hy : KeptYes l nm p K) : r = linkR l nm p (K.map toG) := by
  rcases h with ⟨n, c, hc, hke, -⟩ | ⟨q, K', hy', rfl⟩
  · exact absurd (kept_not_err hy hke) hc
  · obtain ⟨rfl, rfl⟩ := keptYes_same hy hy'; rfl
theorem linkR_of {l : List GObj} {nm : ByteArray} {m : PP} {ps : List GP} {wh : List GAddr} {sp : List GSpan} (h1 : layOf l ps = (wh, sp, 0)) (h2 : closedB l ps (toG m) = true) (h3 : kindAt l (toG m) = 1) :
    linkR l nm m ps = linkEnd l m ps wh sp (fillGo l wh ps wh zeros18) := by
  unfold linkR
  rw [h1, h2, if_neg (by simp), if_neg (by simpa using h3), if_neg (by simp)]
theorem sort_one (a : Int) : sortI [a] = [a] := by unfold sortI; exact List.mergeSort_of_pairwise (List.pairwise_singleton _ _)
theorem sort_two {a b : Int} (h : a ≤ b) : sortI [a, b] = [a, b] := by unfold sortI; exact List.mergeSort_of_pairwise (by simpa using h)
def wh18 : List GAddr := [⟨0, 0, 256⟩, ⟨0, 1, 512⟩]
def sp18 : List GSpan := [⟨1, 256, 8⟩, ⟨2, 512, 4⟩]
theorem lay18 : layOf l18 [(0, 0), (0, 1)] = (wh18, sp18, 0) := by kernel_rfl
theorem cl18 : closedB l18 [(0, 0), (0, 1)] (toG (0, 0)) = true := by kernel_rfl
theorem fg18 : (fillGo l18 wh18 [(0, 0), (0, 1)] wh18 zeros18).2 = (emptyB, 0) := by kernel_rfl
theorem s18 : (segOf (fillGo l18 wh18 [(0, 0), (0, 1)] wh18 zeros18).1 ⟨1, 256, 8⟩).bytes = ⟨#[49, 50, 51, 52, 0, 2, 0, 0]⟩ := by kernel_rfl
theorem dm18 : demandR (notesOf l18 [(0, 0), (0, 1)]) = (⟨0, [], [7], false⟩, 0) := by
  have h1 : notesOf l18 [(0, 0), (0, 1)] = [⟨3, 7, 0⟩] := by kernel_rfl
  rw [h1]
  have h2 : gatMan (gatAll [⟨3, 7, 0⟩]) = ⟨0, [], [7], false⟩ := by
    unfold gatMan
    rw [show (gatAll [⟨3, 7, 0⟩]).ports = [7] from rfl, sort_one]
    kernel_rfl
  rw [demandR, if_pos (by decide +kernel), gatEnd, h2]
  rfl
theorem alive_x {r : GLink × ByteArray × Int} (h : Sp18 l18 m18 r) : r.2.2 = 0 ∧ r.1.man.ports = [7] ∧ r.1.entry = 256 ∧ ∃ s0 s1, r.1.segs = [s0, s1] ∧ s0.bytes = ⟨#[49, 50, 51, 52, 0, 2, 0, 0]⟩ := by
  have e := sp_yes h yes18
  rw [show ([(0, 0), (0, 1)] : List PP).map toG = [(0, 0), (0, 1)] from rfl, linkR_of lay18 cl18 (by kernel_rfl)] at e
  unfold linkEnd at e
  rw [show (fillGo l18 wh18 [(0, 0), (0, 1)] wh18 zeros18).2.2 = 0 from congrArg Prod.snd fg18, if_neg (by simp), dm18, if_neg (by simp)] at e
  rw [e]
  exact ⟨rfl, rfl, by kernel_rfl, _, _, rfl, s18⟩
def whF18 : List GAddr := [⟨0, 0, 256⟩, ⟨0, 1, 512⟩, ⟨0, 2, 264⟩]
def spF18 : List GSpan := [⟨1, 256, 16⟩, ⟨2, 512, 4⟩]
theorem layF18 : layOf l18 [(0, 0), (0, 1), (0, 2)] = (whF18, spF18, 0) := by kernel_rfl
theorem clF18 : closedB l18 [(0, 0), (0, 1), (0, 2)] (toG (0, 0)) = true := by kernel_rfl
theorem fgF18 : (fillGo l18 whF18 [(0, 0), (0, 1), (0, 2)] whF18 zeros18).2 = (emptyB, 0) := by kernel_rfl
theorem dmF18 : demandR (notesOf l18 [(0, 0), (0, 1), (0, 2)]) = (⟨0, [], [7, 9], false⟩, 0) := by
  have h1 : notesOf l18 [(0, 0), (0, 1), (0, 2)] = [⟨3, 7, 0⟩, ⟨3, 9, 0⟩] := by kernel_rfl
  rw [h1]
  have h2 : gatMan (gatAll [⟨3, 7, 0⟩, ⟨3, 9, 0⟩]) = ⟨0, [], [7, 9], false⟩ := by
    unfold gatMan
    rw [show (gatAll [⟨3, 7, 0⟩, ⟨3, 9, 0⟩]).ports = [7, 9] from rfl, sort_two (by omega)]
    kernel_rfl
  rw [demandR, if_pos (by decide +kernel), gatEnd, h2]
  rfl
theorem all18 : allK l18 = [(0, 0), (0, 1), (0, 2)] := by decide +kernel
theorem told18 : toldR l18 (allK l18) = (emptyB, 0) := by rw [all18]; exact toldR_zero (fun x hx => by
  rcases List.mem_cons.1 hx with rfl | hx
  · decide +kernel
  · rcases List.mem_cons.1 hx with rfl | hx
    · decide +kernel
    · obtain rfl := List.mem_singleton.1 hx; decide +kernel)
theorem entry18 : (entryR l18 m18).2.2 = 0 := by unfold entryR; rw [if_neg (by simpa using b18), fm18]
theorem alive_y {r : GLink × ByteArray × Int} (h : Fu18 l18 m18 r) : r.2.2 = 0 ∧ r.1.man.ports = [7, 9] := by
  rcases h with ⟨n, c, hc, he, -⟩ | ⟨-, -, ho⟩
  · rcases he with ⟨h1, -⟩ | ⟨-, h1⟩
    · exact absurd entry18 h1
    · rw [told18] at h1; simp only [Prod.mk.injEq] at h1; exact absurd h1.2.symm hc
  · rcases ho with ⟨n, c, hc, hke, -⟩ | ⟨q, K', hy', e⟩
    · exact absurd (kept_not_err yes18 hke) hc
    · obtain ⟨rfl, rfl⟩ := keptYes_same yes18 hy'
      rw [all18, show ([(0, 0), (0, 1), (0, 2)] : List PP).map toG = [(0, 0), (0, 1), (0, 2)] from rfl, linkR_of layF18 clF18 (by kernel_rfl)] at e
      unfold linkEnd at e
      rw [show (fillGo l18 whF18 [(0, 0), (0, 1), (0, 2)] whF18 zeros18).2.2 = 0 from congrArg Prod.snd fgF18, if_neg (by simp), dmF18, if_neg (by simp)] at e
      rw [e]
      exact ⟨rfl, rfl⟩
theorem alive_z {r : GLink × ByteArray × Int} (h : Sp18 l18 d18 r) : r.2.1 = d18 ∧ r.2.2 = 180 := by
  have e := sp_yes h yes18d
  rw [show ([(0, 1)] : List PP).map toG = [(0, 1)] from rfl, show linkR l18 d18 (0, 1) [(0, 1)] = (link0, d18, 180) by kernel_rfl] at e
  rw [e]
  exact ⟨rfl, rfl⟩
end Go.Proofs.YtabnacdjcefgnaaGreatDoor
namespace Go.Proofs.YtabnacdjcefgnaaGreatDoor
open Go.RowKit Go.Maps
theorem objs18_at {W : World} {b : Nat} (h : RowAt 7 SymR W (.slice (some ⟨b, 0, none⟩) 3 3) syms18) :
    ObjsAt (W.alloc (.cells #[.string ⟨#[111]⟩, .slice (some ⟨b, 0, none⟩) 3 3] 47)) (.slice (some ⟨W.heap.size, 0, none⟩) 1 1) l18 :=
  rowAt_one ⟨_, by simp, by simp [go_sem], by simp [go_sem], h.keep symR_keeps (alloc_old W _), by decide⟩ (by omega)
theorem small18 : ∀ o ∈ l18, ∀ s ∈ o.syms, s.bytes.size < 4294967296 := by
  intro o ho s hs
  obtain rfl := List.mem_singleton.1 ho
  rcases List.mem_cons.1 hs with rfl | hs
  · decide
  · rcases List.mem_cons.1 hs with rfl | hs
    · decide
    · obtain rfl := List.mem_singleton.1 hs; decide
/-- an image in a box -/
def BoxL (w : World) (b : Nat) (x : GLink) (ve vp vs va : Value) : Prop :=
  w.heap[b]? = some (.cells #[.int .u32 x.man.pages, ve, vp, .bool x.man.cons, .int .u32 x.entry, vs, va] 37 (0, 0)) ∧ LinkAt w x ve vp vs va
theorem BoxL.keep {w w' : World} {b : Nat} {x : GLink} {ve vp vs va : Value} (h : BoxL w b x ve vp vs va) (hb : Below w.heap.size w w') : BoxL w' b x ve vp vs va :=
  ⟨(hb.block b (Array.getElem?_eq_some_iff.1 h.1).1).trans h.1, h.2.keep hb⟩
theorem BoxL.new {w : World} {x : GLink} {ve vp vs va : Value} (h : LinkAt w x ve vp vs va) : BoxL (w.alloc (.cells #[.int .u32 x.man.pages, ve, vp, .bool x.man.cons, .int .u32 x.entry, vs, va] 37)) w.heap.size x ve vp vs va :=
  ⟨new_block w _, h.keep (alloc_old w _)⟩
theorem sp_call {W : World} {b g : Nat} (hg : g = W.heap.size) (hsort : SortOk) (nm : ByteArray) (hn : nm.size ≤ 32) (h : RowAt 7 SymR W (.slice (some ⟨b, 0, none⟩) 3 3) syms18) :
    Calls Tryz.prog 11 #[.string nm, .slice (some ⟨g, 0, none⟩) 1 1] (W.alloc (.cells #[.string ⟨#[111]⟩, .slice (some ⟨b, 0, none⟩) 3 3] 47)) fun e w' => ∃ r, Sp18 l18 nm r ∧ LPost W r e w' := by
  subst hg
  refine (special18_any hsort _ l18 nm _ (objs18_at h) (by omega) (fun _ => small18)).mono ?_
  rintro e w' ⟨r, h1, ve, vp, vs, va, rfl, h2, hB⟩
  exact ⟨r, h1, ve, vp, vs, va, rfl, h2, (alloc_old W _).trans (hB.mono (by simp))⟩
theorem fu_call {W : World} {b g : Nat} (hg : g = W.heap.size) (hsort : SortOk) (nm : ByteArray) (hn : nm.size ≤ 32) (h : RowAt 7 SymR W (.slice (some ⟨b, 0, none⟩) 3 3) syms18) :
    Calls Tryz.prog 9 #[.string nm, .slice (some ⟨g, 0, none⟩) 1 1] (W.alloc (.cells #[.string ⟨#[111]⟩, .slice (some ⟨b, 0, none⟩) 3 3] 47)) fun e w' => ∃ r, Fu18 l18 nm r ∧ LPost W r e w' := by
  subst hg
  refine (full18_any hsort _ l18 nm _ (objs18_at h) (by omega) (fun _ => small18)).mono ?_
  rintro e w' ⟨r, h1, ve, vp, vs, va, rfl, h2, hB⟩
  exact ⟨r, h1, ve, vp, vs, va, rfl, h2, (alloc_old W _).trans (hB.mono (by simp))⟩
theorem row_slice {α : Type} {k : Nat} {R : World → Nat → Nat → α → Prop} {w : World} {v : Value} {l : List α} (h : RowAt k R w v l) (h0 : 0 < l.length) : ∃ b o cap, v = .slice (some ⟨b, o, none⟩) l.length cap ∧ ∀ i (hi : i < l.length), R w b (o + i * k) l[i] := by
  obtain ⟨p, cap, b, o, rfl, -, -, h4, h5⟩ := h
  exact ⟨b, o, cap, by rw [h4 h0], h5⟩
set_option maxRecDepth 100000 in
set_option maxHeartbeats 4000000 in
theorem alive18_any (hsort : SortOk) (w : World) : Calls Tryz.prog 7 #[] w fun e w' => e = .returned (.bool true) ∧ Below w.heap.size w w' := by
  have HSORT := Lib.hid hsort; clear hsort
  go_enter Tryz.func7, Tryz.ntmps7
  go_wp2_with fail
  refine (three18_any _).mono ?_
  rintro e w1 ⟨⟨b, rfl, hr1⟩, hB1⟩
  have HR1 := Lib.hid hr1
  have HB1 := Lib.hid hB1; clear hr1 hB1
  go_wp2_with fail
  refine (sp_call rfl HSORT.out m18 (by decide) HR1.out).mono ?_
  rintro e w2 ⟨rx, hx, ve, vp, vs, va, rfl, hla, hB2⟩
  obtain ⟨x1, x2, x3, x4, x5, x6, x7, x8, rfl, rfl, rfl, rfl⟩ := hla.shape
  obtain ⟨a1, a2, a3, s0, s1, a4, a5⟩ := alive_x hx
  obtain ⟨⟨⟨xp, xe, xq, xc⟩, xen, xs, xa⟩, xn, xcd⟩ := rx
  simp only [] at a1 a2 a3 a4 hla hB2
  subst a1 a2 a3 a4
  have HX2 := Lib.hid (BoxL.new hla)
  have HB2 : Hid (Below w.heap.size w w2) := HB1.out.trans (hB2.mono HB1.out.size)
  clear hla hB2 hx HR1 HB1
  unfold linkV
  go_wp2_with fail
  have HBa : Hid (Below w2.heap.size w2 (w2.alloc (.cells #[.int .u32 xp, .slice x1 xe.length x2, .slice x3 1 x4, .bool xc, .int .u32 256, .slice x5 2 x6, .slice x7 xa.length x8] 37))) := alloc_old w2 _
  have HXa : Hid (BoxL (w2.alloc (.cells #[.int .u32 xp, .slice x1 xe.length x2, .slice x3 1 x4, .bool xc, .int .u32 256, .slice x5 2 x6, .slice x7 xa.length x8] 37)) w2.heap.size ⟨⟨xp, xe, [7], xc⟩, 256, [s0, s1], xa⟩ (.slice x1 xe.length x2) (.slice x3 1 x4) (.slice x5 2 x6) (.slice x7 xa.length x8)) := HX2.out
  generalize (w2.alloc (.cells #[.int .u32 xp, .slice x1 xe.length x2, .slice x3 1 x4, .bool xc, .int .u32 256, .slice x5 2 x6, .slice x7 xa.length x8] 37)) = w3 at HBa HXa ⊢
  generalize w2.heap.size = xb at HXa ⊢
  have HB3 : Hid (Below w.heap.size w w3) := HB2.out.trans (HBa.out.mono HB2.out.size)
  clear HX2 HBa HB2
  refine (three18_any _).mono ?_
  rintro e w4 ⟨⟨b4, rfl, hr4⟩, hB4⟩
  have HR4 := Lib.hid hr4
  have HX4 := Lib.hid (HXa.out.keep hB4)
  have HB4 : Hid (Below w.heap.size w w4) := HB3.out.trans (hB4.mono HB3.out.size)
  clear hr4 hB4 HXa HB3
  go_wp2_with fail
  refine (fu_call rfl HSORT.out m18 (by decide) HR4.out).mono ?_
  rintro e w5 ⟨ry, hy, ve, vp, vs, va, rfl, hla, hB5⟩
  obtain ⟨y1, y2, y3, y4, y5, y6, y7, y8, rfl, rfl, rfl, rfl⟩ := hla.shape
  obtain ⟨c1, c2⟩ := alive_y hy
  obtain ⟨⟨⟨yp, ye, yq, yc⟩, yen, ys, ya⟩, yn, ycd⟩ := ry
  simp only [] at c1 c2 hla hB5
  subst c1 c2
  have HX5 := Lib.hid (HX4.out.keep hB5)
  have HLY := Lib.hid hla
  have HB5 : Hid (Below w.heap.size w w5) := HB4.out.trans (hB5.mono HB4.out.size)
  clear hla hB5 hy HR4 HX4 HB4
  unfold linkV
  go_wp2_with fail
  have HBb : Hid (Below w5.heap.size w5 (w5.alloc (.cells #[.int .u32 yp, .slice y1 ye.length y2, .slice y3 2 y4, .bool yc, .int .u32 yen, .slice y5 ys.length y6, .slice y7 ya.length y8] 37))) := alloc_old w5 _
  have HYb : Hid (BoxL (w5.alloc (.cells #[.int .u32 yp, .slice y1 ye.length y2, .slice y3 2 y4, .bool yc, .int .u32 yen, .slice y5 ys.length y6, .slice y7 ya.length y8] 37)) w5.heap.size ⟨⟨yp, ye, [7, 9], yc⟩, yen, ys, ya⟩ (.slice y1 ye.length y2) (.slice y3 2 y4) (.slice y5 ys.length y6) (.slice y7 ya.length y8)) := BoxL.new HLY.out
  generalize (w5.alloc (.cells #[.int .u32 yp, .slice y1 ye.length y2, .slice y3 2 y4, .bool yc, .int .u32 yen, .slice y5 ys.length y6, .slice y7 ya.length y8] 37)) = w6 at HBb HYb ⊢
  have HX6 := Lib.hid (HX5.out.keep HBb.out)
  have HB6 : Hid (Below w.heap.size w w6) := HB5.out.trans (HBb.out.mono HB5.out.size)
  generalize w5.heap.size = yb at HYb ⊢
  clear HX5 HLY HBb HB5
  refine (three18_any _).mono ?_
  rintro e w7 ⟨⟨b7, rfl, hr7⟩, hB7⟩
  have HR7 := Lib.hid hr7
  have HX7 := Lib.hid (HX6.out.keep hB7)
  have HY7 := Lib.hid (HYb.out.keep hB7)
  have HB7 : Hid (Below w.heap.size w w7) := HB6.out.trans (hB7.mono HB6.out.size)
  clear hr7 hB7 HX6 HYb HB6
  go_wp2_with fail
  refine (sp_call rfl HSORT.out d18 (by decide) HR7.out).mono ?_
  rintro e w8 ⟨rz, hz, ve, vp, vs, va, rfl, hla, hB8⟩
  obtain ⟨z1, z2, z3, z4, z5, z6, z7, z8, rfl, rfl, rfl, rfl⟩ := hla.shape
  obtain ⟨g1, g2⟩ := alive_z hz
  obtain ⟨⟨⟨zp, ze, zq, zc⟩, zen, zs, za⟩, zn, zcd⟩ := rz
  simp only [] at g1 g2 hla hB8
  subst g1 g2
  have HX8 := Lib.hid (HX7.out.keep hB8)
  have HY8 := Lib.hid (HY7.out.keep hB8)
  have HB8 : Hid (Below w.heap.size w w8) := HB7.out.trans (hB8.mono HB7.out.size)
  clear hla hB8 hz HR7 HX7 HY7 HB7
  obtain ⟨hx, hlx⟩ := HX8.out
  obtain ⟨hy, hly⟩ := HY8.out
  have hxl : xb < w8.heap.size := (Array.getElem?_eq_some_iff.1 hx).1
  have hyl : yb < w8.heap.size := (Array.getElem?_eq_some_iff.1 hy).1
  have i2 : w8.cell? ⟨xb, 2, none⟩ = some (.slice x3 1 x4) := Lib.cell_of_heap hx 2
  have i4 : w8.cell? ⟨xb, 4, none⟩ = some (.int .u32 256) := Lib.cell_of_heap hx 4
  have i5 : w8.cell? ⟨xb, 5, none⟩ = some (.slice x5 2 x6) := Lib.cell_of_heap hx 5
  have j2 : w8.cell? ⟨yb, 2, none⟩ = some (.slice y3 2 y4) := Lib.cell_of_heap hy 2
  obtain ⟨pb1, po1, pc1, e1, hp1⟩ := row_slice hlx.1.2.1 (by simp)
  cases e1
  obtain ⟨pb2, po2, pc2, e2, hp2⟩ := row_slice hly.1.2.1 (by simp)
  cases e2
  obtain ⟨pb3, po3, pc3, e3, hp3⟩ := row_slice hlx.2.1 (by simp)
  cases e3
  obtain ⟨u0, u1, -⟩ := hp1 0 (by simp)
  obtain ⟨v0, v1, -⟩ := hp2 1 (by simp)
  obtain ⟨t0, -, -, t1, -⟩ := hp3 0 (by simp)
  have u1' : w8.cell? ⟨pb1, po1, none⟩ = some (.int .u16 7) := by simpa using u1
  have v1' : w8.cell? ⟨pb2, po2 + 1, none⟩ = some (.int .u16 9) := by simpa using v1
  have t1' : w8.cell? ⟨pb3, po3 + 2, none⟩ = some (.string ⟨#[49, 50, 51, 52, 0, 2, 0, 0]⟩) := by rw [← a5]; simpa using t1
  clear u1 v1 t1 hp1 hp2 hp3 hx hy hlx hly HX8 HY8
  unfold linkV d18
  go_wp2_with fail
  go_ret
  exact ⟨rfl, HB8.out.alloc HB8.out.size _⟩
end Go.Proofs.YtabnacdjcefgnaaGreatDoor
namespace Go.Proofs.YtabnacdjcefgnaaGreatDoor
open Go.RowKit Go.Maps
/-- a segment that has so many bytes from an address on -/
def segHit (a n : Int) (x : GSeg) : Bool := decide (x.addr ≤ a) && decide (a - x.addr + n ≤ x.bytes.size)
def imgB (segs : List GSeg) (a n : Nat) : ByteArray × Int × Bool := match segs.find? (segHit a n) with | some x => (x.bytes.extract (a - x.addr.toNat) (a - x.addr.toNat + n), x.perm, true) | none => (emptyB, 0, false)
set_option maxRecDepth 100000 in
set_option maxHeartbeats 4000000 in
theorem bytes18_any (m0 m1 m2 m3 en vs : Value) (segs : List GSeg) (a n : Nat) (w : World) (h : RowAt 3 SegR w vs segs) (ha : a ≤ 4294967295) (hn : n ≤ 4294967295) (hsz : ∀ x ∈ segs, x.bytes.size ≤ 131072) (hm : ∃ x y z t k p q p2 q2, m0 = .int .u32 x ∧ m1 = .slice p y q ∧ m2 = .slice p2 z q2 ∧ m3 = .bool t ∧ en = .int .u32 k) :
    Calls Tryz.prog 22 #[.agg #[m0, m1, m2, m3, en, vs], .int .u32 a, .int .u32 n] w fun e w' => e = .returned (.tuple #[.string (imgB segs a n).1, .int .u8 (imgB segs a n).2.1, .bool (imgB segs a n).2.2]) ∧ Below w.heap.size w w' := by
  obtain ⟨mx, my, mz, mt, mk, mp, mq, mp2, mq2, rfl, rfl, rfl, rfl, rfl⟩ := hm
  obtain ⟨p, cap, b, o, rfl, hcap, hmax, hp, hc⟩ := h
  have HC := Lib.hid hc; clear hc
  have HP := Lib.hid hp; clear hp
  generalize hW : (w.alloc (.cells #[.int .u32 mx, .slice mp my mq, .slice mp2 mz mq2, .bool mt, .int .u32 mk, .slice p segs.length cap] 34)) = w1
  have z1 : w1.heap.size = w.heap.size + 1 := by subst hW; simp
  have HB1 : Hid (Below w.heap.size w w1) := by subst hW; exact alloc_old w _
  have k5 : w1.cell? ⟨w.heap.size, 5, none⟩ = some (.slice p segs.length cap) := by subst hW; simp [go_sem]
  go_enter Tryz.func22, Tryz.ntmps22
  go_wp2
  try rw [hW]
  clear hW
  go_loopw [9] (fun v9 wr => ∃ k : Nat, v9 = .int .i64 k ∧ k ≤ segs.length ∧ (segs.take k).all (fun x => !segHit a n x) = true ∧ Below w1.heap.size w1 wr) (fun v9 _ => segs.length - (intOf v9).toNat)
  case atStart => exact ⟨0, by go_num, Nat.zero_le _, rfl, Below.refl _ _⟩
  case round =>
    obtain ⟨k, rfl, hk, hall, hB⟩ := hrel
    have HA := Lib.hid hall; clear hall
    have HB := Lib.hid hB
    have r5 := cell_keep hB (by omega) k5
    have hz := hB.size
    clear hB
    by_cases hlt : k < segs.length
    · obtain rfl := HP.out (by omega)
      have hbw : Below w.heap.size w wr := HB1.out.trans (HB.out.mono (by omega))
      obtain ⟨g0, g1, g2, g3, hx0, hx1, hx2⟩ := segR_keeps _ _ _ _ _ hbw (HC.out k hlt)
      have hx3 := hsz _ (List.getElem_mem hlt)
      generalize hx : segs[k] = x at g1 g2 g3 hx0 hx1 hx2 hx3
      have HX := Lib.hid hx; clear hx
      obtain ⟨xa, xp, xs⟩ := x
      simp only [] at g1 g2 g3 hx0 hx1 hx2 hx3
      obtain ⟨an, rfl⟩ := Int.eq_ofNat_of_zero_le hx0.1
      by_cases h1 : an ≤ a
      · have d1 : decide ((an : Int) ≤ (a : Int)) = true := by simp; omega
        have d1' : decide (an ≤ a) = true := by simp; omega
        have e1 : IntKind.u32.wrap ((a : Int) - (an : Int)) = ((a - an : Nat) : Int) := by rw [IntKind.wrap_u32]; omega
        have e2 : IntKind.u64.wrap ((a - an : Nat) : Int) = ((a - an : Nat) : Int) := by rw [IntKind.wrap_u64]; omega
        have e3 : IntKind.u64.wrap (n : Int) = (n : Int) := by rw [IntKind.wrap_u64]; omega
        have e4 : IntKind.u64.wrap (((a - an : Nat) : Int) + (n : Int)) = ((a - an + n : Nat) : Int) := by rw [IntKind.wrap_u64]; omega
        have e5 : IntKind.u64.wrap (xs.size : Int) = (xs.size : Int) := by rw [IntKind.wrap_u64]; omega
        by_cases h2 : a - an + n ≤ xs.size
        · have d2 : decide (((a - an + n : Nat) : Int) ≤ (xs.size : Int)) = true := by simp; omega
          have d2' : decide (a - an + n ≤ xs.size) = true := by simp; omega
          have q1 : (wr.alloc (.cells #[.int .u32 an, .int .u8 xp, .string xs] 81)).cell? ⟨wr.heap.size, 0, none⟩ = some (.int .u32 an) := by simp [go_sem]
          have q2 : (wr.alloc (.cells #[.int .u32 an, .int .u8 xp, .string xs] 81)).cell? ⟨wr.heap.size, 1, none⟩ = some (.int .u8 xp) := by simp [go_sem]
          have q3 : (wr.alloc (.cells #[.int .u32 an, .int .u8 xp, .string xs] 81)).cell? ⟨wr.heap.size, 2, none⟩ = some (.string xs) := by simp [go_sem]
          have e6 : IntKind.u32.wrap (((a - an : Nat) : Int) + (n : Int)) = ((a - an + n : Nat) : Int) := by rw [IntKind.wrap_u32]; omega
          have b1 : (0 : Int) ≤ ((a - an + n : Nat) : Int) ∧ ((a - an + n : Nat) : Int) ≤ (xs.size : Int) := by omega
          have b2 : a - an ≤ a - an + n := by omega
          go_wp2
          go_quiet (fail)
          go_wp2
          go_ret3
          have hf : segs.find? (segHit a n) = some ⟨an, xp, xs⟩ := by
            rw [List.find?_eq_some_iff_getElem]
            refine ⟨by simp [segHit]; omega, k, hlt, HX.out, fun j hj => ?_⟩
            have h1 := List.all_eq_true.1 HA.out segs[j] (List.mem_take_iff_getElem.2 ⟨j, by omega, rfl⟩)
            exact h1
          have HI : imgB segs a n = (xs.extract (a - an) (a - an + n), xp, true) := by rw [imgB, hf]; rfl
          rw [HI]
          exact ⟨rfl, HB1.out.trans ((below_drewN (HB.out.alloc HB.out.size _) _).mono (by omega))⟩
        · have d2 : decide (((a - an + n : Nat) : Int) ≤ (xs.size : Int)) = false := by simp; omega
          have d2' : decide (a - an + n ≤ xs.size) = false := by simp; omega
          have hno : Hid (segHit a n ⟨an, xp, xs⟩ = false) := by rw [Hid]; simp [segHit]; omega
          go_wp2
          go_roundw
          case rel => exact ⟨k + 1, by go_num, by omega, take_all_snoc hlt HX.out HA.out (by simpa using hno.out), HB.out.alloc HB.out.size _⟩
          case measure => simp [intOf]; omega
      · have d1 : decide ((an : Int) ≤ (a : Int)) = false := by simp; omega
        have d1' : decide (an ≤ a) = false := by simp; omega
        have hno : Hid (segHit a n ⟨an, xp, xs⟩ = false) := by rw [Hid]; simp [segHit]; omega
        go_wp2
        go_roundw
        case rel => exact ⟨k + 1, by go_num, by omega, take_all_snoc hlt HX.out HA.out (by simpa using hno.out), HB.out.alloc HB.out.size _⟩
        case measure => simp [intOf]; omega
    · have hnone : segs.find? (segHit a n) = none := by
        rw [List.find?_eq_none]
        intro x hx
        have := List.all_eq_true.1 HA.out x (by rw [List.take_of_length_le (by omega)]; exact hx)
        simpa using this
      have HI : Hid (imgB segs a n = (emptyB, 0, false)) := by rw [Hid, imgB, hnone]
      go_wp2
      go_ret3
      rw [HI.out]
      exact ⟨rfl, HB1.out.trans (HB.out.mono (by omega))⟩
end Go.Proofs.YtabnacdjcefgnaaGreatDoor
