/- The walks of archive.Pull, whatever is given, and of archive.Link. -/
import Derived.Test.YtboegjdkedjhcaaGreatDoorBs40
import Derived.Test.YtboegjdkedjhcaaGreatDoorBs34
namespace Go.Proofs.YtboegjdkedjhcaaGreatDoor
set_option maxRecDepth 100000
open Go.RowKit Go.Maps Go.WideMaps
theorem pullOkB_iff {lb : List GObj} {l : List GArc} : pullOkB lb l = true ↔ lb.length ≤ 16 ∧ l.length ≤ 8 ∧ lb.all mayP = true ∧ l.all arcOk = true := by
 simp only [pullOkB, Bool.and_eq_true, decide_eq_true_eq, and_assoc]
set_option maxHeartbeats 2000000 in
theorem pull_bad (nm : ByteArray) (vb : Value) (lb : List GObj) (v : Value) (l : List GArc) (w : World) (hb : ObjsAt w vb lb) (h : ArcsAt w v l) (hno : pullOkB lb l = false) :
 Calls Tryz.prog 17 #[.string nm, vb, v] w fun e w' => e = .returned (.tuple #[.slice none 0 0, .int .i64 2]) ∧ Below w.heap.size w w' := by
 have HCO : Hid (∀ W, Below w.heap.size w W → Calls Tryz.prog 54 #[vb, .func (.func 55) #[] #[]] W fun e w' => e = .returned (.bool (!lb.all mayP)) ∧ Below W.heap.size W w') := fun W hW => by
  have := containsO_any vb lb W (hb.keep hW); rw [any_not] at this; exact this
 have HCA : Hid (∀ W, Below w.heap.size w W → Calls Tryz.prog 56 #[v, .func (.func 57) #[] #[]] W fun e w' => e = .returned (.bool (!l.all arcOk)) ∧ Below W.heap.size W w') := fun W hW => by
  have := containsA_any v l W (h.keep hW); rw [any_not] at this; exact this
 have hno2 : ¬ (lb.length ≤ 16 ∧ l.length ≤ 8 ∧ lb.all mayP = true ∧ l.all arcOk = true) := fun hh => by rw [pullOkB_iff.2 hh] at hno; cases hno
 obtain ⟨p, cap, b, o, rfl, hcap, hmax, -⟩ := hb; obtain ⟨p2, cap2, b2, o2, rfl, hcap2, hmax2, -⟩ := h; clear hno
 by_cases h1 : 16 < lb.length
 ·have d1 : decide ((16 : Int) < (lb.length : Int)) = true := by simp; omega
  have d1' : decide (16 < lb.length) = true := by simp; omega
  clear hno2 h1; go_enter Tryz.func17, Tryz.ntmps17; go_wp2_with fail; refine wp_scope_straight ?_; go_wp2_with fail; simp only [Exit.noGoto]; go_ret2; exact ⟨rfl, Below.refl _ _⟩
 have d1 : decide ((16 : Int) < (lb.length : Int)) = false := by simp; omega
 have d1' : decide (16 < lb.length) = false := by simp; omega
 by_cases h2 : 8 < l.length
 ·have d2 : decide ((8 : Int) < (l.length : Int)) = true := by simp; omega
  have d2' : decide (8 < l.length) = true := by simp; omega
  clear hno2 h1 h2; go_enter Tryz.func17, Tryz.ntmps17; go_wp2_with fail; refine wp_scope_straight ?_; go_wp2_with fail; simp only [Exit.noGoto]; go_ret2; exact ⟨rfl, Below.refl _ _⟩
 have d2 : decide ((8 : Int) < (l.length : Int)) = false := by simp; omega
 have d2' : decide (8 < l.length) = false := by simp; omega
 have hl1 : lb.length ≤ 16 := by omega
 have hl2 : l.length ≤ 8 := by omega
 clear h1 h2; generalize hm : lb.all mayP = m1 at *; generalize ha : l.all arcOk = m2 at *; cases m1 with
 | false =>
   clear hno2 hm ha; simp only [Bool.not_false] at HCO; go_enter Tryz.func17, Tryz.ntmps17; go_wp2_with fail; refine wp_scope_straight ?_; go_wp2_with (go_at_call 54; refine (HCO.out w (Below.refl _ _)).mono ?_; rintro e w1 ⟨rfl, hB1⟩; have HB1 := Lib.hid hB1; clear hB1); simp only [Exit.noGoto]; go_ret2; exact ⟨rfl, HB1.out⟩
 | true =>
   cases m2 with
   | true => exact absurd ⟨hl1, hl2, rfl, rfl⟩ hno2
   | false =>
     clear hno2 hm ha; simp only [Bool.not_false, Bool.not_true] at HCO HCA; go_enter Tryz.func17, Tryz.ntmps17; go_wp2_with fail; refine wp_scope_straight ?_; go_wp2_with (first | (go_at_call 54; refine (HCO.out w (Below.refl _ _)).mono ?_; rintro e w1 ⟨rfl, hB1⟩; have HB1 := Lib.hid hB1; clear hB1) | (go_at_call 56; refine (HCA.out w1 HB1.out).mono ?_; rintro e wB ⟨rfl, hB2⟩; have HBX := Lib.hid hB2; clear hB2))
     simp only [Exit.noGoto]; go_ret2; exact ⟨rfl, HB1.out.trans (HBX.out.mono HB1.out.size)⟩
structure SmallA (lb : List GObj) (l : List GArc) : Prop where
 mems : (memsOf l).length ≤ 1000
 base : ∀ o ∈ lb, SmallO o
 arcs : ∀ o ∈ memsOf l, SmallO o
def PullAny (w : World) (nm : List UInt8) (lb : List GObj) (l : List GArc) (e : Ending) (w' : World) : Prop :=
 (pullOkB lb l = false ∧ e = .returned (.tuple #[.slice none 0 0, .int .i64 2]) ∧ Below w.heap.size w w') ∨ (pullOkB lb l = true ∧ PullPost w nm lb (memsOf l) e w')
theorem pull_any (nm : ByteArray) (vb : Value) (lb : List GObj) (v : Value) (l : List GArc) (w : World) (hb : ObjsAt w vb lb) (h : ArcsAt w v l) (hs : SmallA lb l) (hn : nm.size ≤ 140737488355328) :
 Calls Tryz.prog 17 #[.string nm, vb, v] w (PullAny w nm.data.toList lb l) := by
 cases hok : pullOkB lb l with
 | false => exact (pull_bad nm vb lb v l w hb h hok).mono fun e w' ⟨h1, h2⟩ => .inl ⟨hok, h1, h2⟩
 | true =>
   obtain ⟨h1, h2, h3, h4⟩ := pullOkB_iff.1 hok; exact (pull_ok nm vb lb v l w hb h h1 h2 h3 h4 hs.mems hs.base hs.arcs hn).mono fun e w' hp => .inr ⟨hok, hp⟩
def Link35 (nm : ByteArray) (lb : List GObj) (l : List GArc) (r : GLink × ByteArray × Int) : Prop :=
 (pullOkB lb l = false ∧ r = (link0, emptyB, 2)) ∨ (pullOkB lb l = true ∧ ∃ I, PullOk nm.data.toList lb (memsOf l) I ∧ (16 < (lb ++ selGo I 0 (memsOf l)).length ∧ r = (link0, emptyB, 4) ∨ (lb ++ selGo I 0 (memsOf l)).length ≤ 16 ∧ Sp18 (lb ++ selGo I 0 (memsOf l)) nm r))
set_option maxHeartbeats 2000000 in
theorem link35_any (hsort : SortOk) (nm : ByteArray) (vb : Value) (lb : List GObj) (v : Value) (l : List GArc) (w : World) (hb : ObjsAt w vb lb) (h : ArcsAt w v l) (hs : SmallA lb l) (hn : nm.size ≤ 140737488355328) (h16 : ∀ I ps, S16 (gatL (notesOf (lb ++ selGo I 0 (memsOf l)) ps)).ports)
 (hby : ∀ o ∈ lb ++ memsOf l, mayP o = true → ∀ s ∈ o.syms, s.bytes.size < 4294967296) :
 Calls Tryz.prog 24 #[.string nm, vb, v] w fun e w' => ∃ r, Link35 nm lb l r ∧ LPost w r e w' := by
 have HPU : Hid (∀ W, Below w.heap.size w W → Calls Tryz.prog 17 #[.string nm, vb, v] W (PullAny W nm.data.toList lb l)) := fun W hW => pull_any nm vb lb v l W (hb.keep hW) (h.keep hW) hs hn
 have HSP : Hid (∀ W vo I, ObjsAt W vo (lb ++ selGo I 0 (memsOf l)) → Calls Tryz.prog 23 #[.string nm, vo] W fun e w' => ∃ r, Sp18 (lb ++ selGo I 0 (memsOf l)) nm r ∧ LPost W r e w') := fun W vo I ho => special18_any hsort vo _ nm W ho (by omega) (h16 I) fun hm o ho s hs => by
  simp only [mayAll, Bool.and_eq_true, List.all_eq_true] at hm; refine hby o ?_ (hm.2 o ho) s hs; rcases List.mem_append.1 ho with h1 | h1
  ·exact List.mem_append_left _ h1
  ·obtain ⟨k, hk, -, rfl⟩ := mem_selGo.1 h1; exact List.mem_append_right _ (List.getElem_mem hk)
 obtain ⟨p, cap, b, o, rfl, hcap, hmax, -⟩ := hb; obtain ⟨p2, cap2, b2, o2, rfl, hcap2, hmax2, -⟩ := h; clear hs hby h16; generalize hW : (w.alloc (.cells #[.int .u32 0, .slice none 0 0, .slice none 0 0, .bool false, .int .u32 0, .slice none 0 0, .slice none 0 0] 68)) = w1; have z1 : w1.heap.size = w.heap.size + 1 := by subst hW; simp
 have HB1 : Hid (Below w.heap.size w w1) := by subst hW; exact alloc_old w _
 have HR1 : Hid (w1.heap[w.heap.size]? = some (.cells zlink 68 (0, 0))) := by subst hW; exact new_block w _
 go_enter Tryz.func24, Tryz.ntmps24; go_wp2_with fail; try rw [hW]
 clear hW; refine (HPU.out _ HB1.out).mono ?_; rintro e w2 (⟨hok, rfl, hB2⟩ | ⟨hok, I, hpo, ⟨hl16, rfl⟩ | ⟨hl16, vo, rfl, hob⟩, hB2⟩)
 ·have HRES : Hid (Link35 nm lb l (link0, emptyB, 2)) := .inl ⟨hok, rfl⟩; have hr := (hB2.block _ (by omega)).trans HR1.out
  obtain ⟨r0, r1, r2, r3, r4, r5, r6, rz⟩ := zfacts hr; have HPUT := Lib.hid (sevens (zput (u0 := .int .u32 0) (u1 := .slice none 0 0) (u2 := .slice none 0 0) (u3 := .bool false) (u4 := .int .u32 0) (u5 := .slice none 0 0) (u6 := .slice none 0 0) hr)); have HB2 : Hid (Below w.heap.size w w2) := HB1.out.trans (hB2.mono (by omega))
  clear hB2 hr hok; go_wp2_with fail; obtain ⟨x0, x1, x2, x3, x4, x5, x6⟩ := HPUT.out; refine bodyPost_ret (v := .tuple #[.agg #[.int .u32 0, .slice none 0 0, .slice none 0 0, .bool false, .int .u32 0, .slice none 0 0, .slice none 0 0], .string ⟨#[]⟩, .int .i64 2]) (by simp [results, Tryz.results24, go_sem, x0, x1, x2, x3, x4, x5, x6]) rfl ?_
  exact ⟨_, HRES.out, _, _, _, _, rfl, link0_at _, put7_below HB2.out (Nat.le_refl _)⟩
 ·have HRES : Hid (Link35 nm lb l (link0, emptyB, 4)) := .inr ⟨hok, I, hpo, .inl ⟨hl16, rfl⟩⟩; have hr := (hB2.block _ (by omega)).trans HR1.out
  obtain ⟨r0, r1, r2, r3, r4, r5, r6, rz⟩ := zfacts hr; have HPUT := Lib.hid (sevens (zput (u0 := .int .u32 0) (u1 := .slice none 0 0) (u2 := .slice none 0 0) (u3 := .bool false) (u4 := .int .u32 0) (u5 := .slice none 0 0) (u6 := .slice none 0 0) hr)); have HB2 : Hid (Below w.heap.size w w2) := HB1.out.trans (hB2.mono (by omega))
  clear hB2 hr hok hpo hl16; go_wp2_with fail; obtain ⟨x0, x1, x2, x3, x4, x5, x6⟩ := HPUT.out; refine bodyPost_ret (v := .tuple #[.agg #[.int .u32 0, .slice none 0 0, .slice none 0 0, .bool false, .int .u32 0, .slice none 0 0, .slice none 0 0], .string ⟨#[]⟩, .int .i64 4]) (by simp [results, Tryz.results24, go_sem, x0, x1, x2, x3, x4, x5, x6]) rfl ?_
  exact ⟨_, HRES.out, _, _, _, _, rfl, link0_at _, put7_below HB2.out (Nat.le_refl _)⟩
 ·have HLK := Lib.hid (HSP.out w2 vo I hob); have HPO := Lib.hid (And.intro hok (And.intro hpo hl16)); obtain ⟨L, hL⟩ : ∃ L, lb ++ selGo I 0 (memsOf l) = L := ⟨_, rfl⟩; rw [hL] at hob HLK; have HL := Lib.hid hL; clear hL; obtain ⟨p3, c3, b3, o3, rfl, -⟩ := hob; have HB2 : Hid (Below w.heap.size w w2) := HB1.out.trans (hB2.mono (by omega))
  have HR2 : Hid (w2.heap[w.heap.size]? = some (.cells zlink 68 (0, 0))) := (hB2.block _ (by omega)).trans HR1.out
  have z2 : w.heap.size < w2.heap.size := by have := hB2.size; omega
  clear hok hpo hl16 hB2 HPU HSP; go_wp2_with fail; refine HLK.out.mono ?_; rintro e w3 ⟨r, hof, ve, vp, vs, va, rfl, hla, hB3⟩; have HRES : Hid (Link35 nm lb l r) := .inr ⟨HPO.out.1, I, HPO.out.2.1, .inr ⟨HPO.out.2.2, by rw [HL.out]; exact hof⟩⟩
  obtain ⟨p1, d1, p2', d2, p3, d3, p4, d4, rfl, rfl, rfl, rfl⟩ := hla.shape; obtain ⟨⟨⟨rp, re, rq, rc⟩, ren, rs, ra⟩, rn, rcd⟩ := r; simp only [] at hla HRES; have HLA := Lib.hid hla; have HR3 := Lib.hid ((hB3.block _ z2).trans HR2.out); have HB3 : Hid (Below w.heap.size w w3) := HB2.out.trans (hB3.mono HB2.out.size); have HPUT := Lib.hid (sevens (zput (u0 := .int .u32 rp) (u1 := .slice p1 re.length d1) (u2 := .slice p2' rq.length d2) (u3 := .bool rc) (u4 := .int .u32 ren) (u5 := .slice p3 rs.length d3) (u6 := .slice p4 ra.length d4) HR3.out)); obtain ⟨r0, r1, r2, r3, r4, r5, r6, rz⟩ := zfacts HR3.out; unfold linkV; clear hla hof hB3; go_wp2_with fail; obtain ⟨x0, x1, x2, x3, x4, x5, x6⟩ := HPUT.out; refine bodyPost_ret (v := .tuple #[.agg #[.int .u32 rp, .slice p1 re.length d1, .slice p2' rq.length d2, .bool rc, .int .u32 ren, .slice p3 rs.length d3, .slice p4 ra.length d4], .string rn, .int .i64 rcd]) (by simp [results, Tryz.results24, go_sem, x0, x1, x2, x3, x4, x5, x6]) rfl ?_
  exact ⟨_, HRES.out, _, _, _, _, rfl, HLA.out.kb HR3.out (put7_kb w3 w.heap.size), put7_below HB3.out (Nat.le_refl _)⟩
end Go.Proofs.YtboegjdkedjhcaaGreatDoor
