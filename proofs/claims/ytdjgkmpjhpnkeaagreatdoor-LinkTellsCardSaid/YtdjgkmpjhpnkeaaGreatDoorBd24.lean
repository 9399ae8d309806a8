/- The walks of link.Special and link.Full. What is linked is one image alone, or one error. No program in sight. The walks of aediculeref13's has and aediculeref18's has. The walk of aediculeref08.Name: it returns isName. The walk of aediculeref08.Width. The walk of aediculeref08.rels. The walks of aediculeref08's Note and Sym. -/
import Derived.Test.YtdjgkmpjhpnkeaaGreatDoorBd23
import Derived.Test.YtdjgkmpjhpnkeaaGreatDoorBd09
import Derived.Test.YtdjgkmpjhpnkeaaGreatDoorRows
import Derived.Test.YtdjgkmpjhpnkeaaGreatDoorBd01
import Derived.WalkKit
import Derived.WalkSpells
import Derived.WalkLawsBesides
import Derived.Lib.Hide
import Derived.Deep.Light
import Derived.Handy
import Derived.Test.YtdjgkmpjhpnkeaaGreatDoorBd02
namespace Go.Proofs.YtdjgkmpjhpnkeaaGreatDoor
open Go.RowKit Go.Maps Go.WideMaps
theorem keptYes_same {l : List GObj} {nm : ByteArray} {p q : PP} {K K' : List PP} (h : KeptYes l nm p K) (h' : KeptYes l nm q K') : p = q ∧ K = K' := by
  have e : p = q := Option.some.inj (h.2.1.symm.trans h'.2.1)
  subst e
  exact ⟨rfl, h.2.2.1.eq h'.2.2.1⟩
theorem toldR_zero {l : List GObj} : ∀ {K : List PP}, (∀ x ∈ K, refsC l x = 0) → toldR l K = (emptyB, 0)
  | [], _ => rfl
  | x :: r, h => by
    have h0 : (refsV (beginR l) l x.1 x.2).2.2 = 0 := h x (by simp)
    rw [toldR, if_pos h0, toldR_zero fun y hy => h y (by simp [hy])]
theorem kept_not_err {l : List GObj} {nm n : ByteArray} {p : PP} {K : List PP} {c : Int} (h : KeptYes l nm p K) (he : KeptErr l nm n c) : c = 0 := by
  have hz : (entryR l nm).2.2 = 0 := by unfold entryR; rw [if_neg (by simpa using h.1), h.2.1]
  rcases he with ⟨h1, -⟩ | ⟨-, q, K', h1, h2, h3⟩
  · exact absurd hz h1
  · have e : p = q := Option.some.inj (h.2.1.symm.trans h1)
    subst e
    rw [← h.2.2.1.eq h2, toldR_zero h.2.2.2] at h3
    simp only [Prod.mk.injEq] at h3
    exact h3.2.symm
theorem keptErr_same {l : List GObj} {nm n n' : ByteArray} {c c' : Int} (h : KeptErr l nm n c) (h' : KeptErr l nm n' c') : n = n' ∧ c = c' := by
  rcases h with ⟨h1, h2, h3⟩ | ⟨h1, p, K, h2, h3, h4⟩
  · rcases h' with ⟨-, h5, h6⟩ | ⟨h5, -⟩
    · exact ⟨h2.trans h5.symm, h3.trans h6.symm⟩
    · exact absurd h5 h1
  · rcases h' with ⟨h5, -⟩ | ⟨-, q, K', h5, h6, h7⟩
    · exact absurd h1 h5
    · have e : p = q := Option.some.inj (h2.symm.trans h5)
      subst e
      rw [← h3.eq h6, h4] at h7
      simpa using h7
theorem kept_len {l : List GObj} {nm : ByteArray} {p : PP} {K : List PP} (h : KeptYes l nm p K) : K.length ≤ 1024 := by
  have hm := (beginR_zero h.1).1
  have hnd : K.Nodup := h.2.2.1.1.imp fun {a b} hab e => by subst e; unfold plt at hab; omega
  have h1 := nodup_sub K (allK l) hnd fun x hx => reach_all h.2.1 ((h.2.2.1.2 x).1 hx)
  have h2 := selPlaces_le (flat l) (flat l)
  have h3 := flat_length_le hm
  unfold allK at h1
  omega
theorem places_g {w : World} {v : Value} {K : List PP} (h : RowAt 2 PlaceR w v K) : RowAt 2 PlcR w v (K.map toG) := by
  obtain ⟨p, cap, b, o, rfl, h2, h3, h4, h5⟩ := h
  refine ⟨p, cap, b, o, by rw [List.length_map], by rw [List.length_map]; exact h2, by rw [List.length_map]; exact h3, by rw [List.length_map]; exact h4, fun i hi => ?_⟩
  have hi' : i < K.length := by simpa using hi
  have e : (K.map toG)[i] = toG K[i] := by simp
  rw [e]
  exact h5 i hi'
def Sp18 (l : List GObj) (nm : ByteArray) (r : GLink × ByteArray × Int) : Prop :=
  (∃ n c, c ≠ 0 ∧ KeptErr l nm n c ∧ r = (link0, n, c)) ∨ ∃ p K, KeptYes l nm p K ∧ r = linkR l nm p (K.map toG)
theorem LinkAt.shape {w : World} {x : GLink} {ve vp vs va : Value} (h : LinkAt w x ve vp vs va) : ∃ (p1 : Option Addr) (c1 : Nat) (p2 : Option Addr) (c2 : Nat) (p3 : Option Addr) (c3 : Nat) (p4 : Option Addr) (c4 : Nat), ve = .slice p1 x.man.exts.length c1 ∧ vp = .slice p2 x.man.ports.length c2 ∧ vs = .slice p3 x.segs.length c3 ∧ va = .slice p4 x.addrs.length c4 := by
  obtain ⟨⟨⟨p1, c1, _, _, h1, _⟩, ⟨p2, c2, _, _, h2, _⟩, _⟩, ⟨p3, c3, _, _, h3, _⟩, ⟨p4, c4, _, _, h4, _⟩, _⟩ := h
  exact ⟨p1, c1, p2, c2, p3, c3, p4, c4, h1, h2, h3, h4⟩
theorem row_kb {α : Type} {k : Nat} {R : World → Nat → Nat → α → Prop} {w w' : World} {v : Value} {l : List α} (h : RowAt k R w v l) (hR : ∀ b o x, R w b o x → R w' b o x) : RowAt k R w' v l := by
  obtain ⟨p, cap, b, o, h1, h2, h3, h4, h5⟩ := h
  exact ⟨p, cap, b, o, h1, h2, h3, h4, fun i hi => hR _ _ _ (h5 i hi)⟩
theorem z_at {w : World} {x j : Nat} {u : Value} (h : w.heap[x]? = some (.cells zlink 37 (0, 0))) (hc : w.cell? ⟨x, j, none⟩ = some u) : zlink[j]? = some u := by
  rw [← Lib.cell_of_heap h j]; exact hc
/-- an image's rows lie apart from a result's cells as they are made -/
theorem LinkAt.kb {w w' : World} {x : GLink} {b : Nat} {ve vp vs va : Value} (h : LinkAt w x ve vp vs va) (hz : w.heap[b]? = some (.cells zlink 37 (0, 0))) (hk : KB (fun q => q = b) w w') : LinkAt w' x ve vp vs va := by
  refine ⟨⟨row_kb h.1.1 fun c o y hy => ?_, row_kb h.1.2.1 fun c o y hy => ?_, h.1.2.2⟩, row_kb h.2.1 fun c o y hy => ?_, row_kb h.2.2.1 fun c o y hy => ?_, h.2.2.2⟩
  · have hne : c ≠ b := fun e => by
      subst e
      have h1 := z_at hz hy.2.1
      have h2 := z_at hz hy.2.2.1
      match o, h1, h2 with
      | 0, h1, h2 => simp [zlink] at h2
      | 1, h1, h2 => simp [zlink] at h1
      | 2, h1, h2 => simp [zlink] at h1
      | 3, h1, h2 => simp [zlink] at h1
      | 4, h1, h2 => simp [zlink] at h2
      | 5, h1, h2 => simp [zlink] at h1
      | 6, h1, h2 => simp [zlink] at h1
      | n + 7, h1, h2 => simp [zlink] at h1
    exact ⟨Nat.lt_of_lt_of_le hy.1 hk.size, hk.cell hy.1 hne hy.2.1, hk.cell hy.1 hne hy.2.2.1, hy.2.2.2⟩
  · have hne : c ≠ b := fun e => zlink_cells hz _ (by simp [zlink]) o (e ▸ hy.2.1)
    exact ⟨Nat.lt_of_lt_of_le hy.1 hk.size, hk.cell hy.1 hne hy.2.1, hy.2.2⟩
  · have hne : c ≠ b := fun e => zlink_cells hz _ (by simp [zlink]) (o + 1) (e ▸ hy.2.2.1)
    exact ⟨Nat.lt_of_lt_of_le hy.1 hk.size, hk.cell hy.1 hne hy.2.1, hk.cell hy.1 hne hy.2.2.1, hk.cell hy.1 hne hy.2.2.2.1, hy.2.2.2.2⟩
  · have hne : c ≠ b := fun e => zlink_cells hz _ (by simp [zlink]) o (e ▸ hy.2.1)
    exact hy.kb hk hne
set_option maxRecDepth 100000 in
set_option maxHeartbeats 4000000 in
theorem special18_any (hsort : SortOk) (v : Value) (l : List GObj) (nm : ByteArray) (w : World) (h : ObjsAt w v l) (hn : nm.size ≤ 9223372036854775807) (hb : mayAll l = true → ∀ o ∈ l, ∀ s ∈ o.syms, s.bytes.size < 4294967296) :
    Calls Tryz.prog 15 #[.string nm, v] w fun e w' => ∃ r, Sp18 l nm r ∧ LPost w r e w' := by
  have HKC : Hid (∀ W, Below w.heap.size w W → Calls Tryz.prog 53 #[.string nm, v] W (Kept18Post l nm W)) := fun W hW => kept18_any hsort v l nm W (h.keep hW) hn
  have HLO : Hid (∀ W pv K, Below w.heap.size w W → RowAt 2 PlaceR W pv K → K.length ≤ 1024 → Calls Tryz.prog 17 #[.string nm, pv, v] W fun e w' => ∃ r, Of18 l nm (K.map toG) r ∧ LPost W r e w') := fun W pv K hW hr hl => linkOf_any hsort v pv l (K.map toG) nm W (h.keep hW) (places_g hr) hn (by simp; omega) hb
  obtain ⟨qv, cv, hv⟩ : ∃ (pv : Option Addr) (cv : Nat), v = .slice pv l.length cv := by obtain ⟨p, cap, b, o, rfl, _⟩ := h; exact ⟨p, cap, rfl⟩
  subst hv
  clear h hb hsort
  generalize hW : (w.alloc (.cells #[.int .u32 0, .slice none 0 0, .slice none 0 0, .bool false, .int .u32 0, .slice none 0 0, .slice none 0 0] 37)) = w1
  have z1 : w1.heap.size = w.heap.size + 1 := by subst hW; simp
  have HB1 : Hid (Below w.heap.size w w1) := by subst hW; exact alloc_old w _
  have HR1 : Hid (w1.heap[w.heap.size]? = some (.cells zlink 37 (0, 0))) := by subst hW; exact new_block w _
  go_enter Tryz.func15, Tryz.ntmps15
  go_wp2_with fail
  try rw [hW]
  clear hW
  refine (HKC.out _ HB1.out).mono ?_
  rintro e w2 ⟨⟨p, K, vo, hky, hrow, rfl⟩ | ⟨n, c, hc, rfl, hke⟩, hB2⟩
  · have HLK := Lib.hid (HLO.out w2 vo K (HB1.out.trans (hB2.mono (by omega))) hrow (kept_len hky))
    have HKY := Lib.hid hky
    obtain ⟨p2, c2, b2, o2, rfl, -⟩ := hrow
    have HB2 : Hid (Below w.heap.size w w2) := HB1.out.trans (hB2.mono (by omega))
    have HR2 : Hid (w2.heap[w.heap.size]? = some (.cells zlink 37 (0, 0))) := (hB2.block _ (by omega)).trans HR1.out
    have z2 : w.heap.size < w2.heap.size := by have := hB2.size; omega
    clear hky hB2 HKC HLO
    go_wp2_with fail
    refine HLK.out.mono ?_
    rintro e w3 ⟨r, hof, ve, vp, vs, va, rfl, hla, hB3⟩
    have HSP : Hid (Sp18 l nm r) := by
      rcases hof with ⟨n, c, hc, hke, rfl⟩ | ⟨q, K', hky', rfl⟩
      · exact absurd (kept_not_err HKY.out hke) hc
      · obtain ⟨rfl, rfl⟩ := keptYes_same HKY.out hky'
        exact .inr ⟨_, _, hky', rfl⟩
    obtain ⟨p1, d1, p2', d2, p3, d3, p4, d4, rfl, rfl, rfl, rfl⟩ := hla.shape
    obtain ⟨⟨⟨rp, re, rq, rc⟩, ren, rs, ra⟩, rn, rcd⟩ := r
    simp only [] at hla HSP
    have HLA := Lib.hid hla
    have HR3 := Lib.hid ((hB3.block _ z2).trans HR2.out)
    have HB3 : Hid (Below w.heap.size w w3) := HB2.out.trans (hB3.mono HB2.out.size)
    have HPUT := Lib.hid (sevens (zput (u0 := .int .u32 rp) (u1 := .slice p1 re.length d1) (u2 := .slice p2' rq.length d2) (u3 := .bool rc) (u4 := .int .u32 ren) (u5 := .slice p3 rs.length d3) (u6 := .slice p4 ra.length d4) HR3.out))
    obtain ⟨r0, r1, r2, r3, r4, r5, r6, rz⟩ := zfacts HR3.out
    unfold linkV
    clear hla hof hB3
    go_wp2_with fail
    obtain ⟨x0, x1, x2, x3, x4, x5, x6⟩ := HPUT.out
    refine bodyPost_ret (v := .tuple #[.agg #[.int .u32 rp, .slice p1 re.length d1, .slice p2' rq.length d2, .bool rc, .int .u32 ren, .slice p3 rs.length d3, .slice p4 ra.length d4], .string rn, .int .i64 rcd]) (by simp [results, Tryz.results15, go_sem, x0, x1, x2, x3, x4, x5, x6]) rfl ?_
    exact ⟨_, HSP.out, _, _, _, _, rfl, HLA.out.kb HR3.out (put7_kb w3 w.heap.size), put7_below HB3.out (Nat.le_refl _)⟩
  · have HKE := Lib.hid hke
    have hcb : (c != 0) = true := by simpa using hc
    have hr := (hB2.block _ (by omega)).trans HR1.out
    obtain ⟨r0, r1, r2, r3, r4, r5, r6, rz⟩ := zfacts hr
    have HPUT := Lib.hid (sevens (zput (u0 := .int .u32 0) (u1 := .slice none 0 0) (u2 := .slice none 0 0) (u3 := .bool false) (u4 := .int .u32 0) (u5 := .slice none 0 0) (u6 := .slice none 0 0) hr))
    have HB2 : Hid (Below w.heap.size w w2) := HB1.out.trans (hB2.mono (by omega))
    have HC := Lib.hid hc
    clear hB2 hke hr hc
    go_wp2_with fail
    obtain ⟨x0, x1, x2, x3, x4, x5, x6⟩ := HPUT.out
    refine bodyPost_ret (v := .tuple #[.agg #[.int .u32 0, .slice none 0 0, .slice none 0 0, .bool false, .int .u32 0, .slice none 0 0, .slice none 0 0], .string n, .int .i64 c]) (by simp [results, Tryz.results15, go_sem, x0, x1, x2, x3, x4, x5, x6]) rfl ?_
    exact ⟨(link0, n, c), .inl ⟨n, c, HC.out, HKE.out, rfl⟩, _, _, _, _, rfl, link0_at _, put7_below HB2.out (Nat.le_refl _)⟩
/-- why not all are linked -/
def AllErr (l : List GObj) (nm n : ByteArray) (c : Int) : Prop := ((entryR l nm).2.2 ≠ 0 ∧ n = (entryR l nm).2.1 ∧ c = (entryR l nm).2.2) ∨ ((entryR l nm).2.2 = 0 ∧ toldR l (allK l) = (n, c))
def Fu18 (l : List GObj) (nm : ByteArray) (r : GLink × ByteArray × Int) : Prop :=
  (∃ n c, c ≠ 0 ∧ AllErr l nm n c ∧ r = (link0, n, c)) ∨ ((entryR l nm).2.2 = 0 ∧ (toldR l (allK l)).2 = 0 ∧ Of18 l nm ((allK l).map toG) r)
theorem all_len {l : List GObj} {nm : ByteArray} (h : (entryR l nm).2.2 = 0) : (allK l).length ≤ 1024 := by
  have hb : (beginR l).2 = 0 := by
    unfold entryR at h
    by_cases hb : (beginR l).2 ≠ 0
    · rw [if_pos hb] at h; exact absurd h hb
    · simpa using hb
  have h2 := selPlaces_le (flat l) (flat l)
  have h3 := flat_length_le (beginR_zero hb).1
  unfold allK
  omega
set_option maxRecDepth 100000 in
set_option maxHeartbeats 4000000 in
theorem full18_any (hsort : SortOk) (v : Value) (l : List GObj) (nm : ByteArray) (w : World) (h : ObjsAt w v l) (hn : nm.size ≤ 9223372036854775807) (hb : mayAll l = true → ∀ o ∈ l, ∀ s ∈ o.syms, s.bytes.size < 4294967296) :
    Calls Tryz.prog 13 #[.string nm, v] w fun e w' => ∃ r, Fu18 l nm r ∧ LPost w r e w' := by
  have HKC : Hid (∀ W, Below w.heap.size w W → Calls Tryz.prog 51 #[.string nm, v] W (AllPost18 l nm W)) := fun W hW => all18_any v l nm W (h.keep hW) hn
  have HLO : Hid (∀ W pv K, Below w.heap.size w W → RowAt 2 PlaceR W pv K → K.length ≤ 1024 → Calls Tryz.prog 17 #[.string nm, pv, v] W fun e w' => ∃ r, Of18 l nm (K.map toG) r ∧ LPost W r e w') := fun W pv K hW hr hl => linkOf_any hsort v pv l (K.map toG) nm W (h.keep hW) (places_g hr) hn (by simp; omega) hb
  obtain ⟨qv, cv, hv⟩ : ∃ (pv : Option Addr) (cv : Nat), v = .slice pv l.length cv := by obtain ⟨p, cap, b, o, rfl, _⟩ := h; exact ⟨p, cap, rfl⟩
  subst hv
  clear h hb hsort
  generalize hW : (w.alloc (.cells #[.int .u32 0, .slice none 0 0, .slice none 0 0, .bool false, .int .u32 0, .slice none 0 0, .slice none 0 0] 37)) = w1
  have z1 : w1.heap.size = w.heap.size + 1 := by subst hW; simp
  have HB1 : Hid (Below w.heap.size w w1) := by subst hW; exact alloc_old w _
  have HR1 : Hid (w1.heap[w.heap.size]? = some (.cells zlink 37 (0, 0))) := by subst hW; exact new_block w _
  go_enter Tryz.func13, Tryz.ntmps13
  go_wp2_with fail
  try rw [hW]
  clear hW
  refine (HKC.out _ HB1.out).mono ?_
  rintro e w2 ⟨⟨vo, he0, ht0, hrow, rfl⟩ | ⟨n, c, hc, rfl, hke⟩, hB2⟩
  · have HLK := Lib.hid (HLO.out w2 vo (allK l) (HB1.out.trans (hB2.mono (by omega))) hrow (all_len he0))
    have HKY := Lib.hid (And.intro he0 ht0)
    obtain ⟨p2, c2, b2, o2, rfl, -⟩ := hrow
    have HB2 : Hid (Below w.heap.size w w2) := HB1.out.trans (hB2.mono (by omega))
    have HR2 : Hid (w2.heap[w.heap.size]? = some (.cells zlink 37 (0, 0))) := (hB2.block _ (by omega)).trans HR1.out
    have z2 : w.heap.size < w2.heap.size := by have := hB2.size; omega
    clear he0 ht0 hB2 HKC HLO
    go_wp2_with fail
    refine HLK.out.mono ?_
    rintro e w3 ⟨r, hof, ve, vp, vs, va, rfl, hla, hB3⟩
    have HSP : Hid (Fu18 l nm r) := .inr ⟨HKY.out.1, HKY.out.2, hof⟩
    obtain ⟨p1, d1, p2', d2, p3, d3, p4, d4, rfl, rfl, rfl, rfl⟩ := hla.shape
    obtain ⟨⟨⟨rp, re, rq, rc⟩, ren, rs, ra⟩, rn, rcd⟩ := r
    simp only [] at hla HSP
    have HLA := Lib.hid hla
    have HR3 := Lib.hid ((hB3.block _ z2).trans HR2.out)
    have HB3 : Hid (Below w.heap.size w w3) := HB2.out.trans (hB3.mono HB2.out.size)
    have HPUT := Lib.hid (sevens (zput (u0 := .int .u32 rp) (u1 := .slice p1 re.length d1) (u2 := .slice p2' rq.length d2) (u3 := .bool rc) (u4 := .int .u32 ren) (u5 := .slice p3 rs.length d3) (u6 := .slice p4 ra.length d4) HR3.out))
    obtain ⟨r0, r1, r2, r3, r4, r5, r6, rz⟩ := zfacts HR3.out
    unfold linkV
    clear hla hof hB3
    go_wp2_with fail
    obtain ⟨x0, x1, x2, x3, x4, x5, x6⟩ := HPUT.out
    refine bodyPost_ret (v := .tuple #[.agg #[.int .u32 rp, .slice p1 re.length d1, .slice p2' rq.length d2, .bool rc, .int .u32 ren, .slice p3 rs.length d3, .slice p4 ra.length d4], .string rn, .int .i64 rcd]) (by simp [results, Tryz.results13, go_sem, x0, x1, x2, x3, x4, x5, x6]) rfl ?_
    exact ⟨_, HSP.out, _, _, _, _, rfl, HLA.out.kb HR3.out (put7_kb w3 w.heap.size), put7_below HB3.out (Nat.le_refl _)⟩
  · have HKE := Lib.hid hke
    have hcb : (c != 0) = true := by simpa using hc
    have hr := (hB2.block _ (by omega)).trans HR1.out
    obtain ⟨r0, r1, r2, r3, r4, r5, r6, rz⟩ := zfacts hr
    have HPUT := Lib.hid (sevens (zput (u0 := .int .u32 0) (u1 := .slice none 0 0) (u2 := .slice none 0 0) (u3 := .bool false) (u4 := .int .u32 0) (u5 := .slice none 0 0) (u6 := .slice none 0 0) hr))
    have HB2 : Hid (Below w.heap.size w w2) := HB1.out.trans (hB2.mono (by omega))
    have HC := Lib.hid hc
    clear hB2 hke hr hc
    go_wp2_with fail
    obtain ⟨x0, x1, x2, x3, x4, x5, x6⟩ := HPUT.out
    refine bodyPost_ret (v := .tuple #[.agg #[.int .u32 0, .slice none 0 0, .slice none 0 0, .bool false, .int .u32 0, .slice none 0 0, .slice none 0 0], .string n, .int .i64 c]) (by simp [results, Tryz.results13, go_sem, x0, x1, x2, x3, x4, x5, x6]) rfl ?_
    exact ⟨(link0, n, c), .inl ⟨n, c, HC.out, HKE.out, rfl⟩, _, _, _, _, rfl, link0_at _, put7_below HB2.out (Nat.le_refl _)⟩
end Go.Proofs.YtdjgkmpjhpnkeaaGreatDoor
namespace Go.Proofs.YtdjgkmpjhpnkeaaGreatDoor
theorem of18_eq {l : List GObj} {nm : ByteArray} {ps : List GP} {r r' : GLink × ByteArray × Int} (h : Of18 l nm ps r) (h' : Of18 l nm ps r') : r = r' := by
  rcases h with ⟨n, c, hc, he, rfl⟩ | ⟨p, K, hy, rfl⟩
  · rcases h' with ⟨n', c', -, he', rfl⟩ | ⟨p', K', hy', rfl⟩
    · obtain ⟨rfl, rfl⟩ := keptErr_same he he'; rfl
    · exact absurd (kept_not_err hy' he) hc
  · rcases h' with ⟨n', c', hc', he', rfl⟩ | ⟨p', K', hy', rfl⟩
    · exact absurd (kept_not_err hy he') hc'
    · obtain ⟨rfl, rfl⟩ := keptYes_same hy hy'; rfl
theorem sp18_eq {l : List GObj} {nm : ByteArray} {r r' : GLink × ByteArray × Int} (h : Sp18 l nm r) (h' : Sp18 l nm r') : r = r' := by
  rcases h with ⟨n, c, hc, he, rfl⟩ | ⟨p, K, hy, rfl⟩
  · rcases h' with ⟨n', c', -, he', rfl⟩ | ⟨p', K', hy', rfl⟩
    · obtain ⟨rfl, rfl⟩ := keptErr_same he he'; rfl
    · exact absurd (kept_not_err hy' he) hc
  · rcases h' with ⟨n', c', hc', he', rfl⟩ | ⟨p', K', hy', rfl⟩
    · exact absurd (kept_not_err hy he') hc'
    · obtain ⟨rfl, rfl⟩ := keptYes_same hy hy'; rfl
theorem allErr_not {l : List GObj} {nm n : ByteArray} {c : Int} (h : AllErr l nm n c) (h0 : (entryR l nm).2.2 = 0) (h1 : (toldR l (allK l)).2 = 0) : c = 0 := by
  rcases h with ⟨h2, -⟩ | ⟨-, h2⟩
  · exact absurd h0 h2
  · rw [h2] at h1; exact h1
theorem fu18_eq {l : List GObj} {nm : ByteArray} {r r' : GLink × ByteArray × Int} (h : Fu18 l nm r) (h' : Fu18 l nm r') : r = r' := by
  rcases h with ⟨n, c, hc, he, rfl⟩ | ⟨h0, h1, ho⟩
  · rcases h' with ⟨n', c', -, he', rfl⟩ | ⟨h0, h1, ho⟩
    · rcases he with ⟨h2, rfl, rfl⟩ | ⟨h2, h3⟩
      · rcases he' with ⟨-, rfl, rfl⟩ | ⟨h4, -⟩
        · rfl
        · exact absurd h4 h2
      · rcases he' with ⟨h4, -⟩ | ⟨-, h4⟩
        · exact absurd h2 h4
        · rw [h3] at h4
          obtain ⟨rfl, rfl⟩ := Prod.mk.inj h4
          rfl
    · exact absurd (allErr_not he h0 h1) hc
  · rcases h' with ⟨n', c', hc', he', rfl⟩ | ⟨-, -, ho'⟩
    · exact absurd (allErr_not he' h0 h1) hc'
    · exact of18_eq ho ho'
end Go.Proofs.YtdjgkmpjhpnkeaaGreatDoor
namespace Go.Proofs.YtdjgkmpjhpnkeaaGreatDoor
open Go.RowKit Go.Maps Go.WideMaps
def isG (p x : GP) : Bool := decide (x.1 = p.1) && decide (x.2 = p.2)
theorem isG_eq {p x : GP} : isG p x = true ↔ x = p := by
  unfold isG
  rw [Bool.and_eq_true, decide_eq_true_eq, decide_eq_true_eq]
  exact ⟨fun h => Prod.ext h.1 h.2, fun h => by rw [h]; exact ⟨rfl, rfl⟩⟩
theorem inG_yes {l : List GP} {k : Nat} {p : GP} (h : k < l.length) (he : l[k] = p) : inG l p = true := by
  exact inG_iff.2 (he ▸ List.getElem_mem h)
theorem inG_no {l : List GP} {k : Nat} {p : GP} (h : ¬ k < l.length) (he : (l.take k).all (fun x => !isG p x) = true) : inG l p = false := by
  rw [List.take_of_length_le (by omega)] at he
  refine Bool.eq_false_iff.2 fun h1 => ?_
  have := List.all_eq_true.1 he p (inG_iff.1 h1)
  rw [isG_eq.2 rfl] at this
  simp at this
set_option maxRecDepth 100000 in
set_option maxHeartbeats 1000000 in
theorem has13_any (v : Value) (l : List GP) (p : GP) (w : World) (h : RowAt 2 PlcR w v l) :
    Calls Tryz.prog 221 #[v, .agg #[.int .i64 p.1, .int .i64 p.2]] w fun e w' => e = .returned (.bool (inG l p)) ∧ Below w.heap.size w w' := by
  obtain ⟨pp, cap, b, o, rfl, hcap, hmax, hp, hc⟩ := h
  have HC := Lib.hid hc; clear hc
  have HP := Lib.hid hp; clear hp
  obtain ⟨p1, p2⟩ := p
  simp only []
  go_enter Tryz.func221, Tryz.ntmps221
  go_wp2
  generalize hw0 : w.alloc (.cells #[.int .i64 p1, .int .i64 p2] 63) = w0
  have HB0 : Hid (Below w.heap.size w w0) := by subst hw0; exact alloc_old _ _
  have HN : Hid (w.heap.size < w0.heap.size ∧ w0.cell? ⟨w.heap.size, 0, none⟩ = some (.int .i64 p1) ∧ w0.cell? ⟨w.heap.size, 1, none⟩ = some (.int .i64 p2)) := by
    subst hw0; refine ⟨by simp, ?_, ?_⟩ <;> simp [go_sem]
  clear hw0
  generalize hnb : w.heap.size = nb at HN ⊢
  have HNB := Lib.hid hnb; clear hnb
  go_loopw [5] (fun i wr => ∃ k : Nat, k ≤ l.length ∧ i = .int .i64 k ∧ (l.take k).all (fun x => !isG (p1, p2) x) = true ∧ Below w0.heap.size w0 wr) (fun i _ => l.length - (intOf i).toNat)
  case atStart => exact ⟨0, Nat.zero_le _, rfl, rfl, Below.refl _ _⟩
  case round =>
    obtain ⟨k, hk, rfl, hall, hbel⟩ := hrel
    have HA := Lib.hid hall; clear hall
    have HB := Lib.hid hbel; clear hbel
    have HW := Lib.hid (HB0.out.trans (HB.out.mono HB0.out.size))
    by_cases hlt : k < l.length
    · obtain rfl := HP.out (by omega)
      obtain ⟨g0, g1, g2⟩ := plcR_keeps _ _ _ _ _ HW.out (HC.out k hlt)
      obtain ⟨n0, n1, n2⟩ := HN.out
      replace n1 := cell_keep HB.out n0 n1
      replace n2 := cell_keep HB.out n0 n2
      generalize hx : l[k] = x at g1 g2
      have HX := Lib.hid hx; clear hx
      obtain ⟨x1, x2⟩ := x
      simp only [] at g1 g2
      by_cases hpl : x1 = p1 ∧ x2 = p2
      · have HF := Lib.hid (inG_yes hlt (show l[k] = (p1, p2) by rw [HX.out, hpl.1, hpl.2]))
        obtain ⟨rfl, rfl⟩ := hpl
        go_wp2
        go_quiet (fail)
        rename_i nq
        go_wp2
        go_ret
        rw [HF.out]
        exact ⟨rfl, below_drewN (HNB.out ▸ HW.out) nq⟩
      · have HST := Lib.hid (take_all_snoc hlt HX.out HA.out (show (!isG (p1, p2) (x1, x2)) = true by cases hb : isG (p1, p2) (x1, x2) with | false => rfl | true => exact absurd (by simpa [isG] using hb) hpl))
        have hne : decide (x1 = p1 ∧ x2 = p2) = false := by simpa using hpl
        by_cases c1 : x1 = p1
        · have d1 : (x1 == p1) = true := by simpa using c1
          have d2 : (x2 == p2) = false := by simpa using fun h => hpl ⟨c1, h⟩
          subst c1
          go_wp2
          go_quiet (fail)
          rename_i nq
          go_wp2
          go_roundw
          case rel => exact ⟨k + 1, by omega, by go_num, HST.out, below_drewN HB.out nq⟩
          case measure => simp [intOf]; omega
        · have d1 : (x1 == p1) = false := by simpa using c1
          go_wp2
          go_quiet (fail)
          rename_i nq
          go_wp2
          go_roundw
          case rel => exact ⟨k + 1, by omega, by go_num, HST.out, below_drewN HB.out nq⟩
          case measure => simp [intOf]; omega
    · have HF := Lib.hid (inG_no hlt HA.out)
      go_wp2
      go_ret
      rw [HF.out]
      exact ⟨rfl, HNB.out ▸ HW.out⟩
set_option maxRecDepth 100000 in
set_option maxHeartbeats 1000000 in
theorem has18_any (v : Value) (l : List GP) (p : GP) (w : World) (h : RowAt 2 PlcR w v l) :
    Calls Tryz.prog 162 #[v, .agg #[.int .i64 p.1, .int .i64 p.2]] w fun e w' => e = .returned (.bool (inG l p)) ∧ Below w.heap.size w w' := by
  obtain ⟨pp, cap, b, o, rfl, hcap, hmax, hp, hc⟩ := h
  have HC := Lib.hid hc; clear hc
  have HP := Lib.hid hp; clear hp
  obtain ⟨p1, p2⟩ := p
  simp only []
  go_enter Tryz.func162, Tryz.ntmps162
  go_wp2
  generalize hw0 : w.alloc (.cells #[.int .i64 p1, .int .i64 p2] 63) = w0
  have HB0 : Hid (Below w.heap.size w w0) := by subst hw0; exact alloc_old _ _
  have HN : Hid (w.heap.size < w0.heap.size ∧ w0.cell? ⟨w.heap.size, 0, none⟩ = some (.int .i64 p1) ∧ w0.cell? ⟨w.heap.size, 1, none⟩ = some (.int .i64 p2)) := by
    subst hw0; refine ⟨by simp, ?_, ?_⟩ <;> simp [go_sem]
  clear hw0
  generalize hnb : w.heap.size = nb at HN ⊢
  have HNB := Lib.hid hnb; clear hnb
  go_loopw [5] (fun i wr => ∃ k : Nat, k ≤ l.length ∧ i = .int .i64 k ∧ (l.take k).all (fun x => !isG (p1, p2) x) = true ∧ Below w0.heap.size w0 wr) (fun i _ => l.length - (intOf i).toNat)
  case atStart => exact ⟨0, Nat.zero_le _, rfl, rfl, Below.refl _ _⟩
  case round =>
    obtain ⟨k, hk, rfl, hall, hbel⟩ := hrel
    have HA := Lib.hid hall; clear hall
    have HB := Lib.hid hbel; clear hbel
    have HW := Lib.hid (HB0.out.trans (HB.out.mono HB0.out.size))
    by_cases hlt : k < l.length
    · obtain rfl := HP.out (by omega)
      obtain ⟨g0, g1, g2⟩ := plcR_keeps _ _ _ _ _ HW.out (HC.out k hlt)
      obtain ⟨n0, n1, n2⟩ := HN.out
      replace n1 := cell_keep HB.out n0 n1
      replace n2 := cell_keep HB.out n0 n2
      generalize hx : l[k] = x at g1 g2
      have HX := Lib.hid hx; clear hx
      obtain ⟨x1, x2⟩ := x
      simp only [] at g1 g2
      by_cases hpl : x1 = p1 ∧ x2 = p2
      · have HF := Lib.hid (inG_yes hlt (show l[k] = (p1, p2) by rw [HX.out, hpl.1, hpl.2]))
        obtain ⟨rfl, rfl⟩ := hpl
        go_wp2
        go_quiet (fail)
        rename_i nq
        go_wp2
        go_ret
        rw [HF.out]
        exact ⟨rfl, below_drewN (HNB.out ▸ HW.out) nq⟩
      · have HST := Lib.hid (take_all_snoc hlt HX.out HA.out (show (!isG (p1, p2) (x1, x2)) = true by cases hb : isG (p1, p2) (x1, x2) with | false => rfl | true => exact absurd (by simpa [isG] using hb) hpl))
        have hne : decide (x1 = p1 ∧ x2 = p2) = false := by simpa using hpl
        by_cases c1 : x1 = p1
        · have d1 : (x1 == p1) = true := by simpa using c1
          have d2 : (x2 == p2) = false := by simpa using fun h => hpl ⟨c1, h⟩
          subst c1
          go_wp2
          go_quiet (fail)
          rename_i nq
          go_wp2
          go_roundw
          case rel => exact ⟨k + 1, by omega, by go_num, HST.out, below_drewN HB.out nq⟩
          case measure => simp [intOf]; omega
        · have d1 : (x1 == p1) = false := by simpa using c1
          go_wp2
          go_quiet (fail)
          rename_i nq
          go_wp2
          go_roundw
          case rel => exact ⟨k + 1, by omega, by go_num, HST.out, below_drewN HB.out nq⟩
          case measure => simp [intOf]; omega
    · have HF := Lib.hid (inG_no hlt HA.out)
      go_wp2
      go_ret
      rw [HF.out]
      exact ⟨rfl, HNB.out ▸ HW.out⟩
end Go.Proofs.YtdjgkmpjhpnkeaaGreatDoor
namespace Go.Proofs.YtdjgkmpjhpnkeaaGreatDoor
open Go.RowKit

set_option maxHeartbeats 400000 in
theorem refName_any (s : ByteArray) (w : World) (hs : s.size ≤ maxLen) :
    Calls Tryz.prog 103 #[.string s] w fun e w' => e = .returned (.bool (isName s)) ∧ w = w' := by
  unfold maxLen at hs
  go_enter Tryz.func103, Tryz.ntmps103
  go_wp2
  go_loop [3] (fun i => ∃ k : Nat, k ≤ s.size ∧ i = .int .i64 k ∧ (s.data.toList.take k).all nameByte = true) (fun i => s.size - (intOf i).toNat)
  case atStart => exact ⟨0, Nat.zero_le _, rfl, rfl⟩
  case round =>
    obtain ⟨k, hk, rfl, hall⟩ := hrel
    have HA := Lib.hid hall; clear hall
    by_cases hlt : k < s.size
    · go_wp2
      all_goals first
        | (go_ret; exact ⟨ret_bool (isName_bad hlt (by rw [nameByte_int]; go_light; simp_all; try omega)).symm, rfl⟩)
        | (go_round
           case rel => exact ⟨k + 1, by omega, by go_num, all_take_snoc hlt HA.out (by rw [nameByte_int]; go_light; simp_all; try omega)⟩
           case measure => simp [intOf]; omega)
    · go_wp2
      all_goals
        go_ret
        exact ⟨ret_bool (isName_end' hlt HA.out (by go_light; simp; try omega)), rfl⟩
end Go.Proofs.YtdjgkmpjhpnkeaaGreatDoor
namespace Go.Proofs.YtdjgkmpjhpnkeaaGreatDoor
open Go.RowKit
set_option maxHeartbeats 400000 in
theorem refWidth_any (k : Int) (w : World) :
    Calls Tryz.prog 233 #[.int .u8 k] w fun e w' => e = .returned (.int .i64 (widthOf k)) ∧ w = w' := by
  unfold widthOf
  by_cases h1 : k = 1
  · subst h1
    go_enter Tryz.func233, Tryz.ntmps233
    go_wp2
    go_ret
    exact ⟨rfl, rfl⟩
  · rw [if_neg h1]
    have g1 : (k == 1) = false := by simpa using h1
    clear h1
    by_cases h2 : k = 2
    · subst h2
      go_enter Tryz.func233, Tryz.ntmps233
      go_wp2
      go_ret
      exact ⟨rfl, rfl⟩
    · rw [if_neg h2]
      have g2 : (k == 2) = false := by simpa using h2
      clear h2
      go_enter Tryz.func233, Tryz.ntmps233
      go_wp2
      go_ret
      exact ⟨rfl, rfl⟩
end Go.Proofs.YtdjgkmpjhpnkeaaGreatDoor
namespace Go.Proofs.YtdjgkmpjhpnkeaaGreatDoor
open Go.RowKit
set_option maxHeartbeats 1000000 in
theorem refRels_any (s : GSym) (vr vn : Value) (w : World) (h : SymIn w s vr vn) :
    Calls Tryz.prog 251 #[.agg #[.string s.name, .int .u8 s.bind, .int .u8 s.kind, .int .u32 s.size, .string s.bytes, vr, vn]] w fun e w' => e = .returned (.bool (relsOk s)) ∧ Below w.heap.size w w' := by
  obtain ⟨hr, -, -, -, -, -, hbs⟩ := h
  obtain ⟨p, cap, b, o, rfl, hcap, hmax, hp, hc⟩ := hr
  have HC := Lib.hid hc; clear hc
  have HP := Lib.hid hp; clear hp
  go_enter Tryz.func251, Tryz.ntmps251
  go_wp2
  go_loopw [3, 4] (fun v3 v4 wr => ∃ (k : Nat) (e : Int), k ≤ s.rels.length ∧ v4 = .int .i64 k ∧ v3 = .int .i64 e ∧ 0 ≤ e ∧ e ≤ 5000000000 ∧ relsGo s.bytes.size e (s.rels.drop k) = relsGo s.bytes.size 0 s.rels ∧ Below (w.heap.size + 1) (w.alloc (.cells #[.string s.name, .int .u8 s.bind, .int .u8 s.kind, .int .u32 s.size, .string s.bytes, .slice p s.rels.length cap, vn] 72)) wr) (fun _ v4 _ => s.rels.length - (intOf v4).toNat)
  case atStart => exact ⟨0, 0, Nat.zero_le _, rfl, rfl, by omega, by omega, rfl, Below.refl _ _⟩
  case round =>
    obtain ⟨k, e, hk, rfl, rfl, he0, he1, hgo, hbel⟩ := hrel
    have HGO := Lib.hid hgo; clear hgo
    have c5 : wr.cell? ⟨w.heap.size, 5, none⟩ = some (.slice p s.rels.length cap) := by rw [hbel.cell (by simp)]; simp [go_sem]
    have c4 : wr.cell? ⟨w.heap.size, 4, none⟩ = some (.string s.bytes) := by rw [hbel.cell (by simp)]; simp [go_sem]
    have hsz : w.heap.size + 1 ≤ wr.heap.size := by have := hbel.size; simpa using this
    have HB := Lib.hid hbel; clear hbel
    by_cases hlt : k < s.rels.length
    · obtain rfl := HP.out (by omega)
      obtain ⟨g0, g1, g2, g3, g4, g5, g6, g7, g8⟩ := relR_keeps _ _ _ _ _ ((alloc_old w _).trans (HB.out.mono (by omega))) (HC.out k hlt)
      generalize hx : s.rels[k] = x at *
      obtain ⟨xo, xk, xn, xa⟩ := x
      simp only [] at *
      have hwd := widthOf_bd xk
      have HX := Lib.hid hx; clear hx
      have hsz' : w.heap.size < wr.heap.size := by omega
      have hsz2 : b < wr.heap.size := by omega
      have HBW : Hid (Below w.heap.size w wr) := (alloc_old w _).trans (HB.out.mono (by omega))
      go_wp2_with (first | (go_at_call 233; refine (refWidth_any _ _).mono ?_; rintro e w' ⟨rfl, rfl⟩) | (go_at_call 103; refine (refName_any _ _ (by unfold maxLen; omega)).mono ?_; rintro e w' ⟨rfl, rfl⟩))
      all_goals first
        | (go_ret; exact ⟨ret_bool (relsOk_no hlt HX.out HGO.out (by go_light; simp_all; try omega)), HBW.out.alloc (by omega) _⟩)
        | (go_roundw
           case rel => exact ⟨k + 1, _, by omega, by go_num, rfl, by omega, by omega, relsGo_yes hlt HX.out HGO.out (by go_light; simp_all; try omega) rfl, HB.out.alloc (by omega) _⟩
           case measure => simp [intOf]; omega)
    · go_wp2
      go_ret
      exact ⟨ret_bool (relsOk_end hlt HGO.out), (alloc_old w _).trans (HB.out.mono (by omega))⟩
end Go.Proofs.YtdjgkmpjhpnkeaaGreatDoor
namespace Go.Proofs.YtdjgkmpjhpnkeaaGreatDoor
open Go.RowKit
set_option maxHeartbeats 1000000 in
theorem refNote_any (x : GNote) (w : World) (h1 : 0 ≤ x.kind ∧ x.kind ≤ 255) (h2 : 0 ≤ x.n ∧ x.n ≤ 4294967295) (h3 : 0 ≤ x.m ∧ x.m ≤ 4294967295) :
    Calls Tryz.prog 167 #[.agg #[.int .u8 x.kind, .int .u32 x.n, .int .u32 x.m]] w fun e w' => e = .returned (.bool (noteOk x)) ∧ Below w.heap.size w w' := by
  obtain ⟨k, n, m⟩ := x
  simp only [] at *
  go_enter Tryz.func167, Tryz.ntmps167
  go_wp2
  all_goals
    go_ret
    exact ⟨ret_bool (by go_light; first | (simp_all [noteOk, ibeq]; done) | (simp_all [noteOk]; omega)), alloc_old w _⟩
set_option maxHeartbeats 1000000 in
theorem refSym_noA (s : GSym) (vr vn : Value) (w : World) (h : SymIn w s vr vn) (hA : ¬ symA s) :
    Calls Tryz.prog 190 #[.agg #[.string s.name, .int .u8 s.bind, .int .u8 s.kind, .int .u32 s.size, .string s.bytes, vr, vn]] w fun e w' => e = .returned (.bool (symOk s)) ∧ Below w.heap.size w w' := by
  obtain ⟨-, -, hb, hk, hz, hn, hbs⟩ := h
  rw [← symOk_noA hA]
  unfold symA at hA
  obtain ⟨yn, yb, yk, ys, yy, yr, yt⟩ := s
  simp only [] at hA hb hk hz hn hbs ⊢
  have HA := Lib.hid hA; clear hA
  by_cases c1 : isName yn = true
  · by_cases c2 : yb ≤ 2
    · by_cases c3 : 1 ≤ yk
      · by_cases c4 : yk ≤ 3
        · by_cases c5 : 1 ≤ ys
          · by_cases c6 : ys ≤ 8192
            · by_cases c7 : (yy.size : Int) ≤ ys
              · exact absurd ⟨c1, c2, c3, c4, c5, c6, c7⟩ HA.out
              · go_enter Tryz.func190, Tryz.ntmps190
                go_wp2_with (go_at_call 103; refine (refName_any _ _ (by unfold maxLen; omega)).mono ?_; rintro e w' ⟨rfl, rfl⟩)
                go_ret
                exact ⟨rfl, alloc_old w _⟩
            · go_enter Tryz.func190, Tryz.ntmps190
              go_wp2_with (go_at_call 103; refine (refName_any _ _ (by unfold maxLen; omega)).mono ?_; rintro e w' ⟨rfl, rfl⟩)
              go_ret
              exact ⟨rfl, alloc_old w _⟩
          · go_enter Tryz.func190, Tryz.ntmps190
            go_wp2_with (go_at_call 103; refine (refName_any _ _ (by unfold maxLen; omega)).mono ?_; rintro e w' ⟨rfl, rfl⟩)
            go_ret
            exact ⟨rfl, alloc_old w _⟩
        · go_enter Tryz.func190, Tryz.ntmps190
          go_wp2_with (go_at_call 103; refine (refName_any _ _ (by unfold maxLen; omega)).mono ?_; rintro e w' ⟨rfl, rfl⟩)
          go_ret
          exact ⟨rfl, alloc_old w _⟩
      · go_enter Tryz.func190, Tryz.ntmps190
        go_wp2_with (go_at_call 103; refine (refName_any _ _ (by unfold maxLen; omega)).mono ?_; rintro e w' ⟨rfl, rfl⟩)
        go_ret
        exact ⟨rfl, alloc_old w _⟩
    · go_enter Tryz.func190, Tryz.ntmps190
      go_wp2_with (go_at_call 103; refine (refName_any _ _ (by unfold maxLen; omega)).mono ?_; rintro e w' ⟨rfl, rfl⟩)
      go_ret
      exact ⟨rfl, alloc_old w _⟩
  · have n1 : isName yn = false := by simpa using c1
    clear c1
    go_enter Tryz.func190, Tryz.ntmps190
    go_wp2_with (go_at_call 103; refine (refName_any _ _ (by unfold maxLen; omega)).mono ?_; rintro e w' ⟨rfl, rfl⟩)
    go_ret
    exact ⟨rfl, alloc_old w _⟩
set_option maxHeartbeats 1000000 in
theorem refSym_noB (s : GSym) (vr vn : Value) (w : World) (h : SymIn w s vr vn) (hA : symA s) (hB : ¬ symB s) :
    Calls Tryz.prog 190 #[.agg #[.string s.name, .int .u8 s.bind, .int .u8 s.kind, .int .u32 s.size, .string s.bytes, vr, vn]] w fun e w' => e = .returned (.bool (symOk s)) ∧ Below w.heap.size w w' := by
  obtain ⟨-, -, hb, hk, hz, hn, hbs⟩ := h
  rw [← symOk_noB hB]
  unfold symA at hA
  unfold symB at hB
  obtain ⟨yn, yb, yk, ys, yy, yr, yt⟩ := s
  simp only [] at hA hB hb hk hz hn hbs ⊢
  obtain ⟨c1, c2, c3, c4, c5, c6, c7⟩ := hA
  obtain rfl : yk = 1 := by omega
  by_cases c8 : (yy.size : Int) = ys
  · have c9 : ¬ ys % 8 = 0 := fun h => hB (.inr ⟨c8, h⟩)
    have b8 : ((yy.size : Int) != ys) = false := by simp [c8]
    have b9 : (ys % 8 != 0) = true := by simpa using c9
    clear hB c8 c9
    go_enter Tryz.func190, Tryz.ntmps190
    go_wp2_with (go_at_call 103; refine (refName_any _ _ (by unfold maxLen; omega)).mono ?_; rintro e w' ⟨rfl, rfl⟩)
    go_ret
    exact ⟨rfl, alloc_old w _⟩
  · have b8 : ((yy.size : Int) != ys) = true := by simpa using c8
    clear hB c8
    go_enter Tryz.func190, Tryz.ntmps190
    go_wp2_with (go_at_call 103; refine (refName_any _ _ (by unfold maxLen; omega)).mono ?_; rintro e w' ⟨rfl, rfl⟩)
    go_ret
    exact ⟨rfl, alloc_old w _⟩
set_option maxRecDepth 100000 in
set_option maxHeartbeats 2000000 in
theorem refSym_go (s : GSym) (vr vn : Value) (w : World) (h : SymIn w s vr vn) (hA : symA s) (hB : symB s) :
    Calls Tryz.prog 190 #[.agg #[.string s.name, .int .u8 s.bind, .int .u8 s.kind, .int .u32 s.size, .string s.bytes, vr, vn]] w fun e w' => e = .returned (.bool (symOk s)) ∧ Below w.heap.size w w' := by
  have HS := Lib.hid h
  have HE := Lib.hid (symOk_AB hA hB)
  obtain ⟨hr, hnt, hb, hk, hz, hn, hbs⟩ := h
  obtain ⟨p, cap, b, o, rfl, hcap, hmax, hp, hc⟩ := hnt
  have HC := Lib.hid hc; clear hc
  have HP := Lib.hid hp; clear hp
  obtain ⟨pr, capr, br, or', rfl, -⟩ := hr
  unfold symA at hA
  obtain ⟨c1, c2, c3, c4, c5, c6, c7⟩ := hA
  have hbb : Hid (symB s) := hB
  clear hB
  have HW : Hid (Below w.heap.size w (w.alloc (.cells #[.string s.name, .int .u8 s.bind, .int .u8 s.kind, .int .u32 s.size, .string s.bytes, .slice pr s.rels.length capr, .slice p s.notes.length cap] 72))) := alloc_old w _
  have main : ∀ (sl : Value), True := fun _ => trivial
  clear main
  have hcase : (((s.kind == 1) = false) ∨ ((s.kind == 1) = true ∧ ((s.bytes.size : Int) != s.size) = false ∧ (s.size % 8 != 0) = false)) := by
    rcases hbb.out with h1 | ⟨h1, h2⟩
    · exact .inl (by simpa using h1)
    · by_cases h3 : s.kind = 1
      · exact .inr ⟨by simp [h3], by simp [h1], by simp [h2]⟩
      · exact .inl (by simpa using h3)
  have tail : True := trivial
  rcases hcase with d1 | ⟨d1, d2, d3⟩
  all_goals
    go_enter Tryz.func190, Tryz.ntmps190
    go_wp2_with (go_at_call 103; refine (refName_any _ _ (by unfold maxLen; omega)).mono ?_; rintro e w' ⟨rfl, rfl⟩)
    go_loopw [3] (fun v3 wr => ∃ k : Nat, k ≤ s.notes.length ∧ v3 = .int .i64 k ∧ (s.notes.take k).all noteOk = true ∧ Below (w.heap.size + 1) (w.alloc (.cells #[.string s.name, .int .u8 s.bind, .int .u8 s.kind, .int .u32 s.size, .string s.bytes, .slice pr s.rels.length capr, .slice p s.notes.length cap] 72)) wr) (fun v3 _ => s.notes.length - (intOf v3).toNat)
    case atStart => exact ⟨0, Nat.zero_le _, rfl, rfl, Below.refl _ _⟩
    case round =>
      obtain ⟨k, hkk, rfl, hall, hbel⟩ := hrel
      have HAL := Lib.hid hall; clear hall
      have k0 : wr.cell? ⟨w.heap.size, 0, none⟩ = some (.string s.name) := by rw [hbel.cell (by simp)]; simp [go_sem]
      have k1 : wr.cell? ⟨w.heap.size, 1, none⟩ = some (.int .u8 s.bind) := by rw [hbel.cell (by simp)]; simp [go_sem]
      have k2 : wr.cell? ⟨w.heap.size, 2, none⟩ = some (.int .u8 s.kind) := by rw [hbel.cell (by simp)]; simp [go_sem]
      have k3 : wr.cell? ⟨w.heap.size, 3, none⟩ = some (.int .u32 s.size) := by rw [hbel.cell (by simp)]; simp [go_sem]
      have k4 : wr.cell? ⟨w.heap.size, 4, none⟩ = some (.string s.bytes) := by rw [hbel.cell (by simp)]; simp [go_sem]
      have k5 : wr.cell? ⟨w.heap.size, 5, none⟩ = some (.slice pr s.rels.length capr) := by rw [hbel.cell (by simp)]; simp [go_sem]
      have k6 : wr.cell? ⟨w.heap.size, 6, none⟩ = some (.slice p s.notes.length cap) := by rw [hbel.cell (by simp)]; simp [go_sem]
      have zz : w.heap.size < wr.heap.size := by have := hbel.size; simp at this; omega
      have HBW : Hid (Below w.heap.size w wr) := HW.out.trans (hbel.mono (by omega))
      have HB := Lib.hid hbel; clear hbel
      by_cases hlt : k < s.notes.length
      · obtain rfl := HP.out (by omega)
        obtain ⟨g0, g1, g2, g3, g5, g6, g7⟩ := noteR_keeps _ _ _ _ _ HBW.out (HC.out k hlt)
        have HCON := Lib.hid (refNote_any s.notes[k] wr g5 g6 g7)
        generalize hx : s.notes[k] = x at g1 g2 g3 g5 g6 g7 HCON
        obtain ⟨xk, xn, xm⟩ := x
        simp only [] at g1 g2 g3 g5 g6 g7 HCON
        have HX := Lib.hid hx; clear hx
        go_wp2_with (go_at_call 167; refine HCON.out.mono ?_; rintro e w' ⟨rfl, hB1⟩)
        · have hbad : (!noteOk ⟨xk, xn, xm⟩) = true := by assumption
          go_ret
          exact ⟨ret_bool (by rw [HE.out, all_bad hlt HX.out (by simpa using hbad)]; rfl), HBW.out.trans (hB1.mono HBW.out.size)⟩
        · have hok : (!noteOk ⟨xk, xn, xm⟩) = false := by assumption
          go_roundw
          case rel => exact ⟨k + 1, by omega, by go_num, take_all_snoc hlt HX.out HAL.out (by simpa using hok), HB.out.trans (hB1.mono (by omega))⟩
          case measure => simp [intOf]; omega
      · have HCON := Lib.hid (refRels_any s _ _ wr (HS.out.keep HBW.out))
        go_wp2_with (go_at_call 251; refine HCON.out.mono ?_; rintro e w' ⟨rfl, hB1⟩; obtain ⟨hc1, hf1⟩ := bcell hB1)
        all_goals
          go_ret
          exact ⟨ret_bool (by rw [HE.out, all_end hlt HAL.out]; go_light; simp_all; try omega), HBW.out.trans (hB1.mono HBW.out.size)⟩
theorem refSym_any (s : GSym) (vr vn : Value) (w : World) (h : SymIn w s vr vn) :
    Calls Tryz.prog 190 #[.agg #[.string s.name, .int .u8 s.bind, .int .u8 s.kind, .int .u32 s.size, .string s.bytes, vr, vn]] w fun e w' => e = .returned (.bool (symOk s)) ∧ Below w.heap.size w w' := by
  by_cases hA : symA s
  · by_cases hB : symB s
    · exact refSym_go s vr vn w h hA hB
    · exact refSym_noB s vr vn w h hA hB
  · exact refSym_noA s vr vn w h hA
end Go.Proofs.YtdjgkmpjhpnkeaaGreatDoor
