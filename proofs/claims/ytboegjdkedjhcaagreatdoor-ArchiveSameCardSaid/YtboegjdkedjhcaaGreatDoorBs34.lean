/- The walk of link.Special, and what link.Full may answer. -/
import Derived.Test.YtboegjdkedjhcaaGreatDoorBs32
namespace Go.Proofs.YtboegjdkedjhcaaGreatDoor
open Go.RowKit Go.Maps Go.WideMaps
theorem keptYes_same {l : List GObj} {nm : ByteArray} {p q : PP} {K K' : List PP} (h : KeptYes l nm p K) (h' : KeptYes l nm q K') : p = q ∧ K = K' := by
 have e : p = q := Option.some.inj (h.2.1.symm.trans h'.2.1); subst e; exact ⟨rfl, h.2.2.1.eq h'.2.2.1⟩
theorem toldR_zero {l : List GObj} : ∀ {K : List PP}, (∀ x ∈ K, refsC l x = 0) → toldR l K = (emptyB, 0)
 | [], _ => rfl
 | x :: r, h => by
   have h0 : (refsV (beginR l) l x.1 x.2).2.2 = 0 := h x (by simp)
   rw [toldR, if_pos h0, toldR_zero fun y hy => h y (by simp [hy])]
theorem kept_not_err {l : List GObj} {nm n : ByteArray} {p : PP} {K : List PP} {c : Int} (h : KeptYes l nm p K) (he : KeptErr l nm n c) : c = 0 := by
 have hz : (entryR l nm).2.2 = 0 := by unfold entryR; rw [if_neg (by simpa using h.1), h.2.1]
 rcases he with ⟨h1, -⟩ | ⟨-, q, K', h1, h2, h3⟩
 ·exact absurd hz h1
 ·have e : p = q := Option.some.inj (h.2.1.symm.trans h1); subst e; rw [← h.2.2.1.eq h2, toldR_zero h.2.2.2] at h3; simp only [Prod.mk.injEq] at h3; exact h3.2.symm
theorem kept_len {l : List GObj} {nm : ByteArray} {p : PP} {K : List PP} (h : KeptYes l nm p K) : K.length ≤ 1024 := by
 have hm := (beginR_zero h.1).1; have hnd : K.Nodup := h.2.2.1.1.imp fun {a b} hab e => by subst e; unfold plt at hab; omega
 have h1 := nodup_sub K (allK l) hnd fun x hx => reach_all h.2.1 ((h.2.2.1.2 x).1 hx)
 have h2 := selPlaces_le (flat l) (flat l); have h3 := flat_length_le hm; unfold allK at h1; omega
theorem places_g {w : World} {v : Value} {K : List PP} (h : RowAt 2 PlaceR w v K) : RowAt 2 PlcR w v (K.map toG) := by
 obtain ⟨p, cap, b, o, rfl, h2, h3, h4, h5⟩ := h; refine ⟨p, cap, b, o, by rw [List.length_map], by rw [List.length_map]; exact h2, by rw [List.length_map]; exact h3, by rw [List.length_map]; exact h4, fun i hi => ?_⟩
 have hi' : i < K.length := by simpa using hi
 have e : (K.map toG)[i] = toG K[i] := by simp
 rw [e]; exact h5 i hi'
def Sp18 (l : List GObj) (nm : ByteArray) (r : GLink × ByteArray × Int) : Prop :=
 (∃ n c, c ≠ 0 ∧ KeptErr l nm n c ∧ r = (link0, n, c)) ∨ ∃ p K, KeptYes l nm p K ∧ r = linkR l nm p (K.map toG)
theorem LinkAt.shape {w : World} {x : GLink} {ve vp vs va : Value} (h : LinkAt w x ve vp vs va) : ∃ (p1 : Option Addr) (c1 : Nat) (p2 : Option Addr) (c2 : Nat) (p3 : Option Addr) (c3 : Nat) (p4 : Option Addr) (c4 : Nat), ve = .slice p1 x.man.exts.length c1 ∧ vp = .slice p2 x.man.ports.length c2 ∧ vs = .slice p3 x.segs.length c3 ∧ va = .slice p4 x.addrs.length c4 := by
 obtain ⟨⟨⟨p1, c1, _, _, h1, _⟩, ⟨p2, c2, _, _, h2, _⟩, _⟩, ⟨p3, c3, _, _, h3, _⟩, ⟨p4, c4, _, _, h4, _⟩, _⟩ := h; exact ⟨p1, c1, p2, c2, p3, c3, p4, c4, h1, h2, h3, h4⟩
theorem row_kb {α : Type} {k : Nat} {R : World → Nat → Nat → α → Prop} {w w' : World} {v : Value} {l : List α} (h : RowAt k R w v l) (hR : ∀ b o x, R w b o x → R w' b o x) : RowAt k R w' v l := by
 obtain ⟨p, cap, b, o, h1, h2, h3, h4, h5⟩ := h; exact ⟨p, cap, b, o, h1, h2, h3, h4, fun i hi => hR _ _ _ (h5 i hi)⟩
theorem z_at {w : World} {x j : Nat} {u : Value} (h : w.heap[x]? = some (.cells zlink 68 (0, 0))) (hc : w.cell? ⟨x, j, none⟩ = some u) : zlink[j]? = some u := by
 rw [← Lib.cell_of_heap h j]; exact hc
theorem LinkAt.kb {w w' : World} {x : GLink} {b : Nat} {ve vp vs va : Value} (h : LinkAt w x ve vp vs va) (hz : w.heap[b]? = some (.cells zlink 68 (0, 0))) (hk : KB (fun q => q = b) w w') : LinkAt w' x ve vp vs va := by
 refine ⟨⟨row_kb h.1.1 fun c o y hy => ?_, row_kb h.1.2.1 fun c o y hy => ?_, h.1.2.2⟩, row_kb h.2.1 fun c o y hy => ?_, row_kb h.2.2.1 fun c o y hy => ?_, h.2.2.2⟩
 ·have hne : c ≠ b := fun e => by
   subst e; have h1 := z_at hz hy.2.1; have h2 := z_at hz hy.2.2.1
   match o, h1, h2 with
   | 0, h1, h2 => simp [zlink] at h2
   | 1, h1, h2 => simp [zlink] at h1
   | 2, h1, h2 => simp [zlink] at h1
   | 3, h1, h2 => simp [zlink] at h1
   | 4, h1, h2 => simp [zlink] at h2
   | 5, h1, h2 => simp [zlink] at h1
   | 6, h1, h2 => simp [zlink] at h1
   | n + 7, h1, h2 => simp [zlink] at h1
  exact ⟨Nat.lt_of_lt_of_le hy.1 hk.size, hk.cell hy.1 hne hy.2.1, hk.cell hy.1 hne hy.2.2.1, hy.2.2.2⟩
 ·have hne : c ≠ b := fun e => zlink_cells hz _ (by simp [zlink]) o (e ▸ hy.2.1)
  exact ⟨Nat.lt_of_lt_of_le hy.1 hk.size, hk.cell hy.1 hne hy.2.1, hy.2.2⟩
 ·have hne : c ≠ b := fun e => zlink_cells hz _ (by simp [zlink]) (o + 1) (e ▸ hy.2.2.1)
  exact ⟨Nat.lt_of_lt_of_le hy.1 hk.size, hk.cell hy.1 hne hy.2.1, hk.cell hy.1 hne hy.2.2.1, hk.cell hy.1 hne hy.2.2.2.1, hy.2.2.2.2⟩
 ·have hne : c ≠ b := fun e => zlink_cells hz _ (by simp [zlink]) o (e ▸ hy.2.1)
  exact hy.kb hk hne
set_option maxRecDepth 100000 in
set_option maxHeartbeats 4000000 in
theorem special18_any (hsort : SortOk) (v : Value) (l : List GObj) (nm : ByteArray) (w : World) (h : ObjsAt w v l) (hn : nm.size ≤ 9223372036854775807) (h16 : ∀ ps, S16 (gatL (notesOf l ps)).ports) (hb : mayAll l = true → ∀ o ∈ l, ∀ s ∈ o.syms, s.bytes.size < 4294967296) :
 Calls Tryz.prog 23 #[.string nm, v] w fun e w' => ∃ r, Sp18 l nm r ∧ LPost w r e w' := by
 have HKC : Hid (∀ W, Below w.heap.size w W → Calls Tryz.prog 69 #[.string nm, v] W (Kept18Post l nm W)) := fun W hW => kept18_any hsort v l nm W (h.keep hW) hn
 have HLO : Hid (∀ W pv K, Below w.heap.size w W → RowAt 2 PlaceR W pv K → K.length ≤ 1024 → Calls Tryz.prog 70 #[.string nm, pv, v] W fun e w' => ∃ r, Of18 l nm (K.map toG) r ∧ LPost W r e w') := fun W pv K hW hr hl => linkOf_any hsort v pv l (K.map toG) nm W (h.keep hW) (places_g hr) hn (by simp; omega) (h16 _) hb
 obtain ⟨qv, cv, hv⟩ : ∃ (pv : Option Addr) (cv : Nat), v = .slice pv l.length cv := by obtain ⟨p, cap, b, o, rfl, _⟩ := h; exact ⟨p, cap, rfl⟩
 subst hv; clear h hb hsort h16; generalize hW : (w.alloc (.cells #[.int .u32 0, .slice none 0 0, .slice none 0 0, .bool false, .int .u32 0, .slice none 0 0, .slice none 0 0] 68)) = w1; have z1 : w1.heap.size = w.heap.size + 1 := by subst hW; simp
 have HB1 : Hid (Below w.heap.size w w1) := by subst hW; exact alloc_old w _
 have HR1 : Hid (w1.heap[w.heap.size]? = some (.cells zlink 68 (0, 0))) := by subst hW; exact new_block w _
 go_enter Tryz.func23, Tryz.ntmps23; go_wp2_with fail; try rw [hW]
 clear hW; refine (HKC.out _ HB1.out).mono ?_; rintro e w2 ⟨⟨p, K, vo, hky, hrow, rfl⟩ | ⟨n, c, hc, rfl, hke⟩, hB2⟩
 ·have HLK := Lib.hid (HLO.out w2 vo K (HB1.out.trans (hB2.mono (by omega))) hrow (kept_len hky))
  have HKY := Lib.hid hky; obtain ⟨p2, c2, b2, o2, rfl, -⟩ := hrow; have HB2 : Hid (Below w.heap.size w w2) := HB1.out.trans (hB2.mono (by omega))
  have HR2 : Hid (w2.heap[w.heap.size]? = some (.cells zlink 68 (0, 0))) := (hB2.block _ (by omega)).trans HR1.out
  have z2 : w.heap.size < w2.heap.size := by have := hB2.size; omega
  clear hky hB2 HKC HLO; go_wp2_with fail; refine HLK.out.mono ?_; rintro e w3 ⟨r, hof, ve, vp, vs, va, rfl, hla, hB3⟩
  have HSP : Hid (Sp18 l nm r) := by
   rcases hof with ⟨n, c, hc, hke, rfl⟩ | ⟨q, K', hky', rfl⟩
   ·exact absurd (kept_not_err HKY.out hke) hc
   ·obtain ⟨rfl, rfl⟩ := keptYes_same HKY.out hky'; exact .inr ⟨_, _, hky', rfl⟩
  obtain ⟨p1, d1, p2', d2, p3, d3, p4, d4, rfl, rfl, rfl, rfl⟩ := hla.shape; obtain ⟨⟨⟨rp, re, rq, rc⟩, ren, rs, ra⟩, rn, rcd⟩ := r; simp only [] at hla HSP; have HLA := Lib.hid hla; have HR3 := Lib.hid ((hB3.block _ z2).trans HR2.out); have HB3 : Hid (Below w.heap.size w w3) := HB2.out.trans (hB3.mono HB2.out.size); have HPUT := Lib.hid (sevens (zput (u0 := .int .u32 rp) (u1 := .slice p1 re.length d1) (u2 := .slice p2' rq.length d2) (u3 := .bool rc) (u4 := .int .u32 ren) (u5 := .slice p3 rs.length d3) (u6 := .slice p4 ra.length d4) HR3.out)); obtain ⟨r0, r1, r2, r3, r4, r5, r6, rz⟩ := zfacts HR3.out; unfold linkV; clear hla hof hB3; go_wp2_with fail; obtain ⟨x0, x1, x2, x3, x4, x5, x6⟩ := HPUT.out; refine bodyPost_ret (v := .tuple #[.agg #[.int .u32 rp, .slice p1 re.length d1, .slice p2' rq.length d2, .bool rc, .int .u32 ren, .slice p3 rs.length d3, .slice p4 ra.length d4], .string rn, .int .i64 rcd]) (by simp [results, Tryz.results23, go_sem, x0, x1, x2, x3, x4, x5, x6]) rfl ?_
  exact ⟨_, HSP.out, _, _, _, _, rfl, HLA.out.kb HR3.out (put7_kb w3 w.heap.size), put7_below HB3.out (Nat.le_refl _)⟩
 ·have HKE := Lib.hid hke; have hcb : (c != 0) = true := by simpa using hc
  have hr := (hB2.block _ (by omega)).trans HR1.out
  obtain ⟨r0, r1, r2, r3, r4, r5, r6, rz⟩ := zfacts hr; have HPUT := Lib.hid (sevens (zput (u0 := .int .u32 0) (u1 := .slice none 0 0) (u2 := .slice none 0 0) (u3 := .bool false) (u4 := .int .u32 0) (u5 := .slice none 0 0) (u6 := .slice none 0 0) hr)); have HB2 : Hid (Below w.heap.size w w2) := HB1.out.trans (hB2.mono (by omega))
  have HC := Lib.hid hc; clear hB2 hke hr hc; go_wp2_with fail; obtain ⟨x0, x1, x2, x3, x4, x5, x6⟩ := HPUT.out; refine bodyPost_ret (v := .tuple #[.agg #[.int .u32 0, .slice none 0 0, .slice none 0 0, .bool false, .int .u32 0, .slice none 0 0, .slice none 0 0], .string n, .int .i64 c]) (by simp [results, Tryz.results23, go_sem, x0, x1, x2, x3, x4, x5, x6]) rfl ?_
  exact ⟨(link0, n, c), .inl ⟨n, c, HC.out, HKE.out, rfl⟩, _, _, _, _, rfl, link0_at _, put7_below HB2.out (Nat.le_refl _)⟩
end Go.Proofs.YtboegjdkedjhcaaGreatDoor
