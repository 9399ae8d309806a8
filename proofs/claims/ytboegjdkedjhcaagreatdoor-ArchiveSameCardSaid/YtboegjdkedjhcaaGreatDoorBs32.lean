/- The walk of link.Of. -/
import Derived.Test.YtboegjdkedjhcaaGreatDoorBs29
import Derived.Test.YtboegjdkedjhcaaGreatDoorBs13
import Derived.Test.YtboegjdkedjhcaaGreatDoorBs17
namespace Go.Proofs.YtboegjdkedjhcaaGreatDoor
open Go.RowKit Go.Maps Go.WideMaps
def notesOf (l : List GObj) (ps : List GP) : List GNote := ps.flatMap fun p => match symAt l p with | some s => s.notes | none => []
def NoteNum (x : GNote) : Prop := (0 ≤ x.kind ∧ x.kind ≤ 255) ∧ (0 ≤ x.n ∧ x.n ≤ 4294967295) ∧ (0 ≤ x.m ∧ x.m ≤ 4294967295)
theorem notesOf_snoc {l : List GObj} {ps : List GP} {k : Nat} {p : GP} {s : GSym} (h : k < ps.length) (hp : ps[k] = p) (hs : symAt l p = some s) : notesOf l (ps.take (k + 1)) = notesOf l (ps.take k) ++ s.notes := by
 rw [List.take_succ_eq_append_getElem h, hp]; simp [notesOf, hs]
theorem notes8 {l : List GObj} {p : GP} {s : GSym} (hm : mayAll l = true) (h : symAt l p = some s) : s.notes.length ≤ 8 := by
 have h2 := may_symOk hm h; simp only [symOkP, Bool.and_eq_true, decide_eq_true_eq] at h2; exact h2.1.2
theorem note_row {base : Nat} {w : World} {v : Value} {l : List GNote} (h : w.ownsRow base 155 3 v l.length (l.flatMap noteCells)) (hl : l.length ≤ 140737488355328) (hn : ∀ x ∈ l, NoteNum x) : RowAt 3 NoteR w v l :=
 owned_row (k := 3) (f := noteCells) (fun _ => rfl) h hl fun g o' i hi hg hcell => ⟨hg, by simpa using hcell 0 _ (by omega) rfl, hcell 1 _ (by omega) rfl, hcell 2 _ (by omega) rfl, hn _ (List.getElem_mem hi)⟩
theorem row_num {w : World} {v : Value} {l : List GNote} (h : RowAt 3 NoteR w v l) : ∀ x ∈ l, NoteNum x := fun x hx => by
 obtain ⟨i, hi, rfl⟩ := List.getElem_of_mem hx; obtain ⟨p, cap, b, o, -, -, -, -, hc⟩ := h; exact (hc i hi).2.2.2.2
def linkEnd (l : List GObj) (m : PP) (ps : List GP) (wh : List GAddr) (spans : List GSpan) (f : BL × ByteArray × Int) : GLink × ByteArray × Int :=
 if f.2.2 ≠ 0 then (link0, f.2.1, f.2.2)
 else if (demandR (notesOf l ps)).2 ≠ 0 then (link0, emptyB, (demandR (notesOf l ps)).2)
 else (⟨(demandR (notesOf l ps)).1, (layFind wh (toG m)).1, spans.map (segOf f.1), wh⟩, emptyB, 0)
def linkR (l : List GObj) (nm : ByteArray) (m : PP) (ps : List GP) : GLink × ByteArray × Int :=
 if (layOf l ps).2.2 = 2 ∨ closedB l ps (toG m) = false then (link0, emptyB, 2)
 else if kindAt l (toG m) ≠ 1 then (link0, nm, 180)
 else if (layOf l ps).2.2 ≠ 0 then (link0, emptyB, (layOf l ps).2.2)
 else linkEnd l m ps (layOf l ps).1 (layOf l ps).2.1 (fillGo l (layOf l ps).1 ps (layOf l ps).1 zeros18)
def Of18 (l : List GObj) (nm : ByteArray) (ps : List GP) (r : GLink × ByteArray × Int) : Prop :=
 (∃ n c, c ≠ 0 ∧ KeptErr l nm n c ∧ r = (link0, n, c)) ∨ ∃ p K, KeptYes l nm p K ∧ r = linkR l nm p ps
theorem put7 {w : World} {b : Nat} {a0 a1 a2 a3 a4 a5 a6 u0 u1 u2 u3 u4 u5 u6 : Value} {T : TypeId} (h : w.heap[b]? = some (.cells #[a0, a1, a2, a3, a4, a5, a6] T (0, 0))) :
 (((((((w.setCell ⟨b, 0, none⟩ u0).setCell ⟨b, 1, none⟩ u1).setCell ⟨b, 2, none⟩ u2).setCell ⟨b, 3, none⟩ u3).setCell ⟨b, 4, none⟩ u4).setCell ⟨b, 5, none⟩ u5).setCell ⟨b, 6, none⟩ u6).heap[b]? = some (.cells #[u0, u1, u2, u3, u4, u5, u6] T (0, 0)) := by
 have e0 := heap_setCell_same w b 0 _ _ u0 h; have e1 := heap_setCell_same _ b 1 _ _ u1 e0; have e2 := heap_setCell_same _ b 2 _ _ u2 e1; have e3 := heap_setCell_same _ b 3 _ _ u3 e2; have e4 := heap_setCell_same _ b 4 _ _ u4 e3; have e5 := heap_setCell_same _ b 5 _ _ u5 e4; have e6 := heap_setCell_same _ b 6 _ _ u6 e5; simpa using e6
theorem put7_below {w0 w : World} {b B : Nat} {u0 u1 u2 u3 u4 u5 u6 : Value} (h : Below B w0 w) (hb : B ≤ b) : Below B w0 (((((((w.setCell ⟨b, 0, none⟩ u0).setCell ⟨b, 1, none⟩ u1).setCell ⟨b, 2, none⟩ u2).setCell ⟨b, 3, none⟩ u3).setCell ⟨b, 4, none⟩ u4).setCell ⟨b, 5, none⟩ u5).setCell ⟨b, 6, none⟩ u6) :=
 ((((((h.setCell (by exact hb) u0).setCell (by exact hb) u1).setCell (by exact hb) u2).setCell (by exact hb) u3).setCell (by exact hb) u4).setCell (by exact hb) u5).setCell (by exact hb) u6
theorem AddrR.kb {S : Nat → Prop} {w w' : World} {b o : Nat} {a : GAddr} (h : AddrR w b o a) (hk : KB S w w') (hs : ¬ S b) : AddrR w' b o a :=
 ⟨Nat.lt_of_lt_of_le h.1 hk.size, hk.cell h.1 hs h.2.1, hk.cell h.1 hs h.2.2.1, hk.cell h.1 hs h.2.2.2.1, h.2.2.2.2⟩
theorem SpanR.kb {S : Nat → Prop} {w w' : World} {b o : Nat} {a : GSpan} (h : SpanR w b o a) (hk : KB S w w') (hs : ¬ S b) : SpanR w' b o a :=
 ⟨Nat.lt_of_lt_of_le h.1 hk.size, hk.cell h.1 hs h.2.1, hk.cell h.1 hs h.2.2.1, hk.cell h.1 hs h.2.2.2.1, h.2.2.2.2⟩
theorem addr_kb {w w' : World} {x : Nat} {v : Value} {l : List GAddr} (h : RowAt 3 AddrR w v l) (hk : KB (fun q => q = x) w w') (hx : ∀ j n, w.cell? ⟨x, j, none⟩ ≠ some (.int .i64 n)) : RowAt 3 AddrR w' v l := by
 obtain ⟨p, cap, b, o, h1, h2, h3, h4, h5⟩ := h; exact ⟨p, cap, b, o, h1, h2, h3, h4, fun i hi => (h5 i hi).kb hk fun e => hx _ _ (e ▸ (h5 i hi).2.1)⟩
theorem span_kb {w w' : World} {x : Nat} {v : Value} {l : List GSpan} (h : RowAt 3 SpanR w v l) (hk : KB (fun q => q = x) w w') (hx : ∀ j n, w.cell? ⟨x, j, none⟩ ≠ some (.int .u8 n)) : RowAt 3 SpanR w' v l := by
 obtain ⟨p, cap, b, o, h1, h2, h3, h4, h5⟩ := h; exact ⟨p, cap, b, o, h1, h2, h3, h4, fun i hi => (h5 i hi).kb hk fun e => hx _ _ (e ▸ (h5 i hi).2.1)⟩
theorem box_cells {w : World} {x : Nat} {qv qp : Option Addr} {n m c d : Nat} (h : w.heap[x]? = some (.cells (lkCells (.int .u32 0) (.slice none 0 0) (.slice none 0 0) (.bool false) (.int .u32 0) (.slice none 0 0) (.slice none 0 0) (.slice qv n c) (.slice qp m d) (.slice none 0 0)) 204 (0, 0))) (u : Value) (hu : u ∉ (lkCells (.int .u32 0) (.slice none 0 0) (.slice none 0 0) (.bool false) (.int .u32 0) (.slice none 0 0) (.slice none 0 0) (.slice qv n c) (.slice qp m d) (.slice none 0 0)).toList) (j : Nat) : w.cell? ⟨x, j, none⟩ ≠ some u := fun e => by
 have h1 := Lib.cell_of_heap h j; rw [e] at h1; exact hu (by rw [Array.mem_toList_iff]; exact Array.mem_of_getElem? h1.symm)
theorem lk_entry {w : World} {b : Nat} {a0 a1 a2 a3 a4 a5 a6 a7 a8 a9 : Value} (u : Value) (h : w.heap[b]? = some (.cells (lkCells a0 a1 a2 a3 a4 a5 a6 a7 a8 a9) 204 (0, 0))) :
 (w.setCell ⟨b, 4, none⟩ u).heap[b]? = some (.cells (lkCells a0 a1 a2 a3 u a5 a6 a7 a8 a9) 204 (0, 0)) := by
 have e := heap_setCell_same w b 4 _ _ u h; simpa [lkCells] using e
theorem put7_other {w : World} {b q : Nat} {u0 u1 u2 u3 u4 u5 u6 : Value} (h : q ≠ b) : (((((((w.setCell ⟨b, 0, none⟩ u0).setCell ⟨b, 1, none⟩ u1).setCell ⟨b, 2, none⟩ u2).setCell ⟨b, 3, none⟩ u3).setCell ⟨b, 4, none⟩ u4).setCell ⟨b, 5, none⟩ u5).setCell ⟨b, 6, none⟩ u6).heap[q]? = w.heap[q]? := by
 rw [Below.heap_setCell _ _ _ _ h, Below.heap_setCell _ _ _ _ h, Below.heap_setCell _ _ _ _ h, Below.heap_setCell _ _ _ _ h, Below.heap_setCell _ _ _ _ h, Below.heap_setCell _ _ _ _ h, Below.heap_setCell _ _ _ _ h]
theorem put7_kb (w : World) (b : Nat) {u0 u1 u2 u3 u4 u5 u6 : Value} : KB (fun q => q = b) w (((((((w.setCell ⟨b, 0, none⟩ u0).setCell ⟨b, 1, none⟩ u1).setCell ⟨b, 2, none⟩ u2).setCell ⟨b, 3, none⟩ u3).setCell ⟨b, 4, none⟩ u4).setCell ⟨b, 5, none⟩ u5).setCell ⟨b, 6, none⟩ u6) :=
 KB.setCell (KB.setCell (KB.setCell (KB.setCell (KB.setCell (KB.setCell (KB.setCell (KB.refl (fun q => q = b) w) (.inl rfl) _) (.inl rfl) _) (.inl rfl) _) (.inl rfl) _) (.inl rfl) _) (.inl rfl) _) (.inl rfl) _
def zlink : Array Value := #[.int .u32 0, .slice none 0 0, .slice none 0 0, .bool false, .int .u32 0, .slice none 0 0, .slice none 0 0]
theorem zlink_cells {w : World} {x : Nat} (h : w.heap[x]? = some (.cells zlink 68 (0, 0))) (u : Value) (hu : u ∉ zlink.toList) (j : Nat) : w.cell? ⟨x, j, none⟩ ≠ some u := fun e => by
 have h1 := Lib.cell_of_heap h j; rw [e] at h1; exact hu (by rw [Array.mem_toList_iff]; exact Array.mem_of_getElem? h1.symm)
theorem zfacts {w : World} {b : Nat} (h : w.heap[b]? = some (.cells zlink 68 (0, 0))) :
 w.cell? ⟨b, 0, none⟩ = some (.int .u32 0) ∧ w.cell? ⟨b, 1, none⟩ = some (.slice none 0 0) ∧ w.cell? ⟨b, 2, none⟩ = some (.slice none 0 0) ∧ w.cell? ⟨b, 3, none⟩ = some (.bool false) ∧ w.cell? ⟨b, 4, none⟩ = some (.int .u32 0) ∧ w.cell? ⟨b, 5, none⟩ = some (.slice none 0 0) ∧ w.cell? ⟨b, 6, none⟩ = some (.slice none 0 0) ∧ (∀ j, w.frozen? ⟨b, j, none⟩ = false) :=
 ⟨Lib.cell_of_heap h 0, Lib.cell_of_heap h 1, Lib.cell_of_heap h 2, Lib.cell_of_heap h 3, Lib.cell_of_heap h 4, Lib.cell_of_heap h 5, Lib.cell_of_heap h 6, fun _ => Lib.frozen_of_heap h _⟩
theorem sevens {w : World} {b : Nat} {u0 u1 u2 u3 u4 u5 u6 : Value} {T : TypeId} (h : w.heap[b]? = some (.cells #[u0, u1, u2, u3, u4, u5, u6] T (0, 0))) :
 w.cell? ⟨b, 0, none⟩ = some u0 ∧ w.cell? ⟨b, 1, none⟩ = some u1 ∧ w.cell? ⟨b, 2, none⟩ = some u2 ∧ w.cell? ⟨b, 3, none⟩ = some u3 ∧ w.cell? ⟨b, 4, none⟩ = some u4 ∧ w.cell? ⟨b, 5, none⟩ = some u5 ∧ w.cell? ⟨b, 6, none⟩ = some u6 :=
 ⟨Lib.cell_of_heap h 0, Lib.cell_of_heap h 1, Lib.cell_of_heap h 2, Lib.cell_of_heap h 3, Lib.cell_of_heap h 4, Lib.cell_of_heap h 5, Lib.cell_of_heap h 6⟩
theorem zput {w : World} {b : Nat} {u0 u1 u2 u3 u4 u5 u6 : Value} (h : w.heap[b]? = some (.cells zlink 68 (0, 0))) :
 (((((((w.setCell ⟨b, 0, none⟩ u0).setCell ⟨b, 1, none⟩ u1).setCell ⟨b, 2, none⟩ u2).setCell ⟨b, 3, none⟩ u3).setCell ⟨b, 4, none⟩ u4).setCell ⟨b, 5, none⟩ u5).setCell ⟨b, 6, none⟩ u6).heap[b]? = some (.cells #[u0, u1, u2, u3, u4, u5, u6] 68 (0, 0)) := put7 h
theorem info_note18 : (Tryz.prog.info? 155).map (fun i => (i.zero, i.size, i.bytes)) = some (some (.agg #[.int .u8 0, .int .u32 0, .int .u32 0]), 3, 12) := by kernel_rfl
set_option maxRecDepth 100000 in
set_option maxHeartbeats 4000000 in
theorem linkOf_any (hsort : SortOk) (v pv : Value) (l : List GObj) (ps : List GP) (nm : ByteArray) (w : World) (h : ObjsAt w v l) (hp : RowAt 2 PlcR w pv ps) (hn : nm.size ≤ 9223372036854775807) (hlen : ps.length ≤ 1200) (h16 : S16 (gatL (notesOf l ps)).ports)
 (hb : mayAll l = true → ∀ o ∈ l, ∀ s ∈ o.syms, s.bytes.size < 4294967296) :
 Calls Tryz.prog 70 #[.string nm, pv, v] w fun e w' => ∃ r, Of18 l nm ps r ∧ LPost w r e w' := by
 have H16 := Lib.hid h16; clear h16; have HO := Lib.hid h; have HP := Lib.hid hp; have HKC : Hid (∀ W, Below w.heap.size w W → Calls Tryz.prog 69 #[.string nm, v] W (Kept18Post l nm W)) := fun W hW => kept18_any hsort v l nm W (h.keep hW) hn
 have HRF : Hid (∀ W, Below w.heap.size w W → Calls Tryz.prog 114 #[v, .int .i64 (-1), .string nm] W fun e w' => e = .returned (findV (findAll l (-1) nm.data.toList)) ∧ Below W.heap.size W w') := fun W hW => resFind_any v l (-1) nm W (h.keep hW) hn
 have HLO : Hid (∀ W, Below w.heap.size w W → Calls Tryz.prog 115 #[v, pv] W (OfPost W (layOf l ps))) := fun W hW => layOf_any v pv l ps W (h.keep hW) (hp.keep plcR_keeps hW) hlen
 have HBB := Lib.hid hb; clear hb hsort; obtain ⟨qv, cv, hv⟩ : ∃ (pv : Option Addr) (cv : Nat), v = .slice pv l.length cv := by obtain ⟨p, cap, b, o, rfl, _⟩ := h; exact ⟨p, cap, rfl⟩
 obtain ⟨qp, cp, hpv⟩ : ∃ (qp : Option Addr) (cp : Nat), pv = .slice qp ps.length cp := by obtain ⟨p, cap, b, o, rfl, _⟩ := hp; exact ⟨p, cap, rfl⟩
 subst hv hpv; clear h hp; generalize hW : (w.alloc (.cells #[.int .u32 0, .slice none 0 0, .slice none 0 0, .bool false, .int .u32 0, .slice none 0 0, .slice none 0 0] 68)) = w1; have z1 : w1.heap.size = w.heap.size + 1 := by subst hW; simp
 have HB1 : Hid (Below w.heap.size w w1) := by subst hW; exact alloc_old w _
 have HR1 : Hid (w1.heap[w.heap.size]? = some (.cells zlink 68 (0, 0))) := by subst hW; exact new_block w _
 go_enter Tryz.func70, Tryz.ntmps70; go_wp2_with fail; try rw [hW]
 clear hW; refine (HKC.out _ HB1.out).mono ?_; rintro e w2 ⟨⟨p, K, vo, hky, hrow, rfl⟩ | ⟨n, c, hc, rfl, hke⟩, hB2⟩
 ·have HKY := Lib.hid hky; have hfa : findAll l (-1) nm.data.toList = (p, 0) := by rw [findOut hky.1, hky.2.1]; rfl
  rw [hfa] at HRF; obtain ⟨pa, pb⟩ := p; unfold findV at HRF; simp only [] at HRF; obtain ⟨p2, c2, b2, o2, rfl, -⟩ := hrow; have HB2 : Hid (Below w.heap.size w w2) := HB1.out.trans (hB2.mono (by omega))
  have HR2 : Hid (w2.heap[w.heap.size]? = some (.cells zlink 68 (0, 0))) := (hB2.block _ (by omega)).trans HR1.out
  have z2 : w.heap.size < w2.heap.size := by have := hB2.size; omega
  clear hky hfa hB2 HKC; go_wp2_with fail; refine (HRF.out _ HB2.out).mono ?_; rintro e w3 ⟨rfl, hB3⟩; have HB3 : Hid (Below w.heap.size w w3) := HB2.out.trans (hB3.mono HB2.out.size); have HR3 : Hid (w3.heap[w.heap.size]? = some (.cells zlink 68 (0, 0))) := (hB3.block _ z2).trans HR2.out; have z3 : w.heap.size < w3.heap.size := by have := hB3.size; omega
  clear hB3 HRF; go_wp2_with fail
  have hm4 : Hid (((w3.alloc (.cells #[.int .i64 pa, .int .i64 pb] 185)).alloc (.cells #[.int .u32 0, .slice none 0 0, .slice none 0 0, .bool false, .int .u32 0, .slice none 0 0, .slice none 0 0, .slice qv l.length cv, .slice qp ps.length cp, .slice none 0 0] 204)).heap[w3.heap.size]? = some (.cells #[.int .i64 pa, .int .i64 pb] 185 (0, 0))) :=
   (Below.heap_alloc _ _ _ (by simp)).trans (new_block w3 _)
  have hx4 : Hid (((w3.alloc (.cells #[.int .i64 pa, .int .i64 pb] 185)).alloc (.cells #[.int .u32 0, .slice none 0 0, .slice none 0 0, .bool false, .int .u32 0, .slice none 0 0, .slice none 0 0, .slice qv l.length cv, .slice qp ps.length cp, .slice none 0 0] 204)).heap[w3.heap.size + 1]? = some (.cells (lkCells (.int .u32 0) (.slice none 0 0) (.slice none 0 0) (.bool false) (.int .u32 0) (.slice none 0 0) (.slice none 0 0) (.slice qv l.length cv) (.slice qp ps.length cp) (.slice none 0 0)) 204 (0, 0))) := by
   have := new_block (w3.alloc (.cells #[.int .i64 pa, .int .i64 pb] 185)) (.cells #[.int .u32 0, .slice none 0 0, .slice none 0 0, .bool false, .int .u32 0, .slice none 0 0, .slice none 0 0, .slice qv l.length cv, .slice qp ps.length cp, .slice none 0 0] 204); rw [Hid]; simpa [lkCells] using this
  have hb4 : Hid (Below w3.heap.size w3 ((w3.alloc (.cells #[.int .i64 pa, .int .i64 pb] 185)).alloc (.cells #[.int .u32 0, .slice none 0 0, .slice none 0 0, .bool false, .int .u32 0, .slice none 0 0, .slice none 0 0, .slice qv l.length cv, .slice qp ps.length cp, .slice none 0 0] 204))) := (alloc_old w3 _).alloc (by simp) _
  have z4 : ((w3.alloc (.cells #[.int .i64 pa, .int .i64 pb] 185)).alloc (.cells #[.int .u32 0, .slice none 0 0, .slice none 0 0, .bool false, .int .u32 0, .slice none 0 0, .slice none 0 0, .slice qv l.length cv, .slice qp ps.length cp, .slice none 0 0] 204)).heap.size = w3.heap.size + 2 := by simp
  generalize ((w3.alloc (.cells #[.int .i64 pa, .int .i64 pb] 185)).alloc (.cells #[.int .u32 0, .slice none 0 0, .slice none 0 0, .bool false, .int .u32 0, .slice none 0 0, .slice none 0 0, .slice qv l.length cv, .slice qp ps.length cp, .slice none 0 0] 204)) = w4 at hm4 hx4 hb4 z4 ⊢; have HB4 : Hid (Below w.heap.size w w4) := HB3.out.trans (hb4.out.mono HB3.out.size); have HR4 := (hb4.out.block _ z3).trans HR3.out; refine (HLO.out _ HB4.out).mono ?_; rintro e w5 ⟨va, vs, rfl, hwa, hws, hB5⟩; obtain ⟨wh, sp, lc, hlay⟩ : ∃ wh sp lc, layOf l ps = (wh, sp, lc) := ⟨_, _, _, rfl⟩; rw [hlay] at hwa hws; simp only [hlay] at hwa hws ⊢; have HL := Lib.hid hlay; clear HLO; obtain ⟨pw, cw, bw, ow, rfl, hcw, hmw, hpw, hrw⟩ := hwa; obtain ⟨ps', cs', bs', os', rfl, hcs', hms', hps', hrs'⟩ := hws; have HWA : Hid (RowAt 3 AddrR w5 (.slice pw wh.length cw) wh) := ⟨pw, cw, bw, ow, rfl, hcw, hmw, hpw, hrw⟩; have HWS : Hid (RowAt 3 SpanR w5 (.slice ps' sp.length cs') sp) := ⟨ps', cs', bs', os', rfl, hcs', hms', hps', hrs'⟩; clear hpw hrw hps' hrs'; have HX5 := Lib.hid ((hB5.block _ (by omega)).trans hx4.out)
  have HM5 := Lib.hid ((hB5.block _ (by omega)).trans hm4.out)
  have HR5 := Lib.hid ((hB5.block _ (by omega)).trans HR4)
  have HB5 : Hid (Below w.heap.size w w5) := HB4.out.trans (hB5.mono HB4.out.size); have z5 : w3.heap.size + 1 < w5.heap.size := by have := hB5.size; omega
  clear hm4 hx4 hb4 z4 HR4 hB5; have c6 : w5.cell? ⟨w3.heap.size + 1, 6, none⟩ = some (.slice none 0 0) := Lib.cell_of_heap HX5.out 6; have c9 : w5.cell? ⟨w3.heap.size + 1, 9, none⟩ = some (.slice none 0 0) := Lib.cell_of_heap HX5.out 9; have f6 : ∀ j, w5.frozen? ⟨w3.heap.size + 1, j, none⟩ = false := fun j => Lib.frozen_of_heap HX5.out _
  have hrx : w.heap.size ≠ w3.heap.size + 1 := by omega
  have hlr : w.heap.size < w5.heap.size := by omega
  have HR6 : Hid (((w5.setCell ⟨w3.heap.size + 1, 6, none⟩ (.slice pw wh.length cw)).setCell ⟨w3.heap.size + 1, 9, none⟩ (.slice ps' sp.length cs')).heap[w.heap.size]? = some (.cells zlink 68 (0, 0))) :=
   (Below.heap_setCell _ _ _ _ hrx).trans ((Below.heap_setCell _ _ _ _ hrx).trans HR5.out)
  have HB6 : Hid (Below w.heap.size w ((w5.setCell ⟨w3.heap.size + 1, 6, none⟩ (.slice pw wh.length cw)).setCell ⟨w3.heap.size + 1, 9, none⟩ (.slice ps' sp.length cs'))) := (HB5.out.setCell (by show w.heap.size ≤ w3.heap.size + 1; omega) _).setCell (by show w.heap.size ≤ w3.heap.size + 1; omega) _
  by_cases hl2 : lc = 2
  ·subst hl2; have HPUT := Lib.hid (sevens (zput (u0 := .int .u32 0) (u1 := .slice none 0 0) (u2 := .slice none 0 0) (u3 := .bool false) (u4 := .int .u32 0) (u5 := .slice none 0 0) (u6 := .slice none 0 0) HR6.out)); obtain ⟨r0, r1, r2, r3, r4, r5, r6, rz⟩ := zfacts HR5.out; go_wp2_with fail; obtain ⟨x0, x1, x2, x3, x4, x5, x6⟩ := HPUT.out; refine bodyPost_ret (v := .tuple #[.agg #[.int .u32 0, .slice none 0 0, .slice none 0 0, .bool false, .int .u32 0, .slice none 0 0, .slice none 0 0], .string ⟨#[]⟩, .int .i64 2]) (by simp [results, Tryz.results70, go_sem, x0, x1, x2, x3, x4, x5, x6]) rfl ?_
   have hres : linkR l nm (pa, pb) ps = (link0, emptyB, 2) := by unfold linkR; rw [HL.out, if_pos (.inl rfl)]
   exact ⟨(link0, emptyB, 2), .inr ⟨_, K, HKY.out, hres.symm⟩, _, _, _, _, rfl, link0_at _, put7_below HB6.out (Nat.le_refl _)⟩
  ·have hl2b : (lc == 2) = false := by simpa using hl2
   have HL2 := Lib.hid hl2; clear hl2; have m0 : w5.cell? ⟨w3.heap.size, 0, none⟩ = some (.int .i64 pa) := Lib.cell_of_heap HM5.out 0; have m1 : w5.cell? ⟨w3.heap.size, 1, none⟩ = some (.int .i64 pb) := Lib.cell_of_heap HM5.out 1; have hmx : w3.heap.size ≠ w3.heap.size + 1 := by omega
   have hlm : w3.heap.size < w5.heap.size := by omega
   have HM6 : Hid (((w5.setCell ⟨w3.heap.size + 1, 6, none⟩ (.slice pw wh.length cw)).setCell ⟨w3.heap.size + 1, 9, none⟩ (.slice ps' sp.length cs')).heap[w3.heap.size]? = some (.cells #[.int .i64 pa, .int .i64 pb] 185 (0, 0))) :=
    (Below.heap_setCell _ _ _ _ hmx).trans ((Below.heap_setCell _ _ _ _ hmx).trans HM5.out)
   have HX6 : Hid (((w5.setCell ⟨w3.heap.size + 1, 6, none⟩ (.slice pw wh.length cw)).setCell ⟨w3.heap.size + 1, 9, none⟩ (.slice ps' sp.length cs')).heap[w3.heap.size + 1]? = some (.cells (lkCells (.int .u32 0) (.slice none 0 0) (.slice none 0 0) (.bool false) (.int .u32 0) (.slice none 0 0) (.slice pw wh.length cw) (.slice qv l.length cv) (.slice qp ps.length cp) (.slice ps' sp.length cs')) 204 (0, 0))) := by
    have e1 := heap_setCell_same _ (w3.heap.size + 1) 9 _ _ (.slice ps' sp.length cs') (heap_setCell_same _ (w3.heap.size + 1) 6 _ _ (.slice pw wh.length cw) HX5.out); rw [Hid]; simpa [lkCells] using e1
   have HK6 : Hid (KB (fun q => q = w3.heap.size + 1) w5 ((w5.setCell ⟨w3.heap.size + 1, 6, none⟩ (.slice pw wh.length cw)).setCell ⟨w3.heap.size + 1, 9, none⟩ (.slice ps' sp.length cs'))) := KB.setCell (KB.setCell (KB.refl (fun q => q = w3.heap.size + 1) w5) (.inl rfl) _) (.inl rfl) _
   go_wp2_with fail; generalize ((w5.setCell ⟨w3.heap.size + 1, 6, none⟩ (.slice pw wh.length cw)).setCell ⟨w3.heap.size + 1, 9, none⟩ (.slice ps' sp.length cs')) = w6 at HR6 HB6 HM6 HX6 HK6 ⊢
   have HROWS : Hid (∀ W, KB (fun q => q = w3.heap.size + 1) w5 W → ObjsAt W (.slice qv l.length cv) l ∧ RowAt 3 AddrR W (.slice pw wh.length cw) wh ∧ RowAt 2 PlcR W (.slice qp ps.length cp) ps ∧ RowAt 3 SpanR W (.slice ps' sp.length cs') sp) := fun W hk =>
    have hb := HB5.out.trans (hk.below HB5.out.size (fun k hk e => by omega))
    ⟨HO.out.keep hb, addr_kb HWA.out hk (fun j n => box_cells HX5.out _ (by simp [lkCells]) j), HP.out.keep plcR_keeps hb, span_kb HWS.out hk (fun j n => box_cells HX5.out _ (by simp [lkCells]) j)⟩
   clear c6 c9 f6 m0 m1 hmx hlm; have hx6 : w3.heap.size + 1 < w6.heap.size := (Array.getElem?_eq_some_iff.1 HX6.out).1; have hr6 : w.heap.size < w6.heap.size := by omega
   have hm6 : w3.heap.size < w6.heap.size := by omega
   have HCL : Hid (Calls Tryz.prog 116 #[.pointer (some ⟨w3.heap.size + 1, 0, none⟩), .agg #[.int .i64 pa, .int .i64 pb]] w6 fun e w' => e = .returned (.bool (closedB l ps (toG (pa, pb)))) ∧ Below w6.heap.size w6 w') :=
    closed_any (w3.heap.size + 1) _ l _ ps (toG (pa, pb)) w6 (HROWS.out w6 HK6.out).1 (HROWS.out w6 HK6.out).2.2.1 hx6 (Lib.cell_of_heap HX6.out 7) (Lib.cell_of_heap HX6.out 8)
   generalize hcb : closedB l ps (toG (pa, pb)) = cb at HCL; have HCB := Lib.hid hcb; clear hcb; refine HCL.out.mono ?_; rintro e w7 ⟨rfl, hB7⟩; have HX7 := Lib.hid ((hB7.block _ hx6).trans HX6.out); have HM7 := Lib.hid ((hB7.block _ hm6).trans HM6.out); have HR7 := Lib.hid ((hB7.block _ hr6).trans HR6.out); have HB7 : Hid (Below w.heap.size w w7) := HB6.out.trans (hB7.mono HB6.out.size); have HK7 : Hid (KB (fun q => q = w3.heap.size + 1) w5 w7) := HK6.out.trans (KB.of_below hB7)
   have hz7 : w6.heap.size ≤ w7.heap.size := hB7.size; clear hB7 HCL HX6 HM6 HR6 HB6 HK6; cases cb with
   | false =>
     have HPUT := Lib.hid (sevens (zput (u0 := .int .u32 0) (u1 := .slice none 0 0) (u2 := .slice none 0 0) (u3 := .bool false) (u4 := .int .u32 0) (u5 := .slice none 0 0) (u6 := .slice none 0 0) HR7.out)); obtain ⟨r0, r1, r2, r3, r4, r5, r6, rz⟩ := zfacts HR7.out; go_wp2_with fail; obtain ⟨x0, x1, x2, x3, x4, x5, x6⟩ := HPUT.out; refine bodyPost_ret (v := .tuple #[.agg #[.int .u32 0, .slice none 0 0, .slice none 0 0, .bool false, .int .u32 0, .slice none 0 0, .slice none 0 0], .string ⟨#[]⟩, .int .i64 2]) (by simp [results, Tryz.results70, go_sem, x0, x1, x2, x3, x4, x5, x6]) rfl ?_
     have hres : linkR l nm (pa, pb) ps = (link0, emptyB, 2) := by unfold linkR; rw [if_pos (.inr HCB.out)]
     exact ⟨(link0, emptyB, 2), .inr ⟨_, K, HKY.out, hres.symm⟩, _, _, _, _, rfl, link0_at _, put7_below HB7.out (Nat.le_refl _)⟩
   | true =>
     have m0 : w7.cell? ⟨w3.heap.size, 0, none⟩ = some (.int .i64 pa) := Lib.cell_of_heap HM7.out 0; have m1 : w7.cell? ⟨w3.heap.size, 1, none⟩ = some (.int .i64 pb) := Lib.cell_of_heap HM7.out 1
     obtain ⟨s, hs⟩ : ∃ s, symAt l (toG (pa, pb)) = some s := by
      obtain ⟨o, s, h1, h2⟩ := findR_valid HKY.out.2.1; obtain ⟨ha, rfl⟩ := List.getElem?_eq_some_iff.1 h1; exact ⟨s, by show symAt l ((pa : Int), (pb : Int)) = some s; rw [symAt_nat ha]; exact h2⟩
     have HS := Lib.hid hs; clear hs; have HKD : Hid (kindAt l (toG (pa, pb)) = s.kind) := by rw [Hid, kindAt, HS.out]
     have HSY : Hid (Calls Tryz.prog 117 #[.pointer (some ⟨w3.heap.size + 1, 0, none⟩), .agg #[.int .i64 pa, .int .i64 pb]] w7 (SymLPost w7 s)) :=
      linkSym_any (w3.heap.size + 1) _ l (toG (pa, pb)) s w7 (HROWS.out w7 HK7.out).1 (by omega) (Lib.cell_of_heap HX7.out 7) HS.out
     unfold SymLPost at HSY; go_wp2_with fail; refine HSY.out.mono ?_; rintro e w8 ⟨⟨vr, vn, rfl, hin⟩, hB8⟩; unfold symV; obtain ⟨q1, d1, q2, d2, rfl, rfl⟩ := hin.shape; have hfk := field_kind s.name s.bytes s.bind s.kind s.size (.slice q1 s.rels.length d1) (.slice q2 s.notes.length d2) w8; have hx7 : w3.heap.size + 1 < w7.heap.size := by omega
     have HX8 := Lib.hid ((hB8.block _ hx7).trans HX7.out); have HM8 := Lib.hid ((hB8.block _ (by omega)).trans HM7.out)
     have HR8 := Lib.hid ((hB8.block _ (by omega)).trans HR7.out)
     have HB8 : Hid (Below w.heap.size w w8) := HB7.out.trans (hB8.mono HB7.out.size); have HK8 : Hid (KB (fun q => q = w3.heap.size + 1) w5 w8) := HK7.out.trans (KB.of_below hB8)
     have hz8 : w7.heap.size ≤ w8.heap.size := hB8.size; clear hB8 HSY m0 m1 hin HX7 HM7 HR7 HB7 HK7
     by_cases hkd : s.kind = 1
     ·have hkb : (s.kind != 1) = false := by simpa using hkd
      have HKN := Lib.hid hkd; clear hkd
      by_cases hl0 : lc = 0
      ·subst hl0
       have HLR : Hid (linkR l nm (pa, pb) ps = linkEnd l (pa, pb) ps wh sp (fillGo l wh ps wh zeros18)) := by
        unfold linkR; rw [Hid, if_neg (by rw [HL.out, HCB.out]; simp), if_neg (by rw [HKD.out, HKN.out]; simp), if_neg (by rw [HL.out]; simp), HL.out]
       have hmay : mayAll l = true := by
        have h1 := (layOf_zero HL.out).1; simp only [layMay, Bool.and_eq_true] at h1; exact h1.1
       have HOK := Lib.hid (segsOk_of HL.out (HBB.out hmay)); have HSP := Lib.hid (spans_of HL.out); have HMAY := Lib.hid hmay; clear hmay; have HSG := Lib.hid (segs_any (w3.heap.size + 1) (.int .u32 0) (.slice none 0 0) (.slice none 0 0) (.bool false) (.int .u32 0) (.slice pw wh.length cw) (.slice qv l.length cv) (.slice qp ps.length cp) (.slice ps' sp.length cs') l wh ps sp w8 HX8.out (HROWS.out w8 HK8.out).1 (HROWS.out w8 HK8.out).2.1 (HROWS.out w8 HK8.out).2.2.1 (HROWS.out w8 HK8.out).2.2.2 (fun W hk => HROWS.out W (HK8.out.trans hk)) HOK.out)
       generalize fillGo l wh ps wh zeros18 = f at HLR HSG; obtain ⟨fb, fn, fc⟩ := f; unfold SegsPost at HSG; simp only [] at HSG; go_wp2_with fail; refine HSG.out.mono ?_; rintro e w9 ⟨hk9, hif⟩; have hx8 : w3.heap.size + 1 < w8.heap.size := by omega
       have HM9 := Lib.hid ((hk9.block _ (by omega) (by omega)).trans HM8.out)
       have HR9 := Lib.hid ((hk9.block _ (by omega) (by omega)).trans HR8.out)
       have HB9 : Hid (Below w.heap.size w w9) := HB8.out.trans (hk9.below HB8.out.size (fun k hk e => by omega))
       have HK9 : Hid (KB (fun q => q = w3.heap.size + 1) w5 w9) := HK8.out.trans hk9
       have hz9 : w8.heap.size ≤ w9.heap.size := hk9.size; clear hk9 HSG HM8 HR8 HB8 HK8 hfk
       by_cases hfc : fc = 0
       ·subst hfc; rw [if_pos rfl] at hif; obtain ⟨rfl, vs9, hx9, hs9⟩ := hif; have HX9 := Lib.hid hx9; clear hx9; have HS9 := Lib.hid hs9; obtain ⟨p9, c9, rfl⟩ := own_shape hs9; clear hs9; go_wp2; obtain ⟨iN, s0, s1, s2, s3⟩ := info_parts info_note18; have HI := Lib.hid (And.intro s0 (And.intro s1 (And.intro s2 s3))); clear s0 s1 s2 s3
        go_loopw [18, 92] (fun v18 v92 wr => ∃ k : Nat, v92 = .int .i64 k ∧ k ≤ ps.length ∧ (notesOf l (ps.take k)).length ≤ 8 * k ∧ (∀ x ∈ notesOf l (ps.take k), NoteNum x) ∧ wr.ownsRow w9.heap.size 155 3 v18 (notesOf l (ps.take k)).length ((notesOf l (ps.take k)).flatMap noteCells) ∧ Below w9.heap.size w9 wr) (fun v18 v92 _ => ps.length - (intOf v92).toNat)
        case atStart => exact ⟨0, by go_num, Nat.zero_le _, by simp [notesOf], fun x hx => by simp [notesOf] at hx, World.ownsRow_nil _ _ _ _, Below.refl _ _⟩
        case round =>
         obtain ⟨k, rfl, hk, hnl, hnn, hon, hBn⟩ := hrel; have HNN := Lib.hid hnn; clear hnn; have HON := Lib.hid hon; obtain ⟨pn, cn, rfl⟩ := own_shape hon; clear hon; have HBN := Lib.hid hBn; clear hBn; have hz10 := HBN.out.size; have hx9 : w3.heap.size + 1 < w9.heap.size := by omega
         have HX10 := Lib.hid ((HBN.out.block _ hx9).trans HX9.out); have HK10 : Hid (KB (fun q => q = w3.heap.size + 1) w5 wr) := HK9.out.trans (KB.of_below HBN.out)
         by_cases hlt : k < ps.length
         ·obtain ⟨hO, -, hP, -⟩ := HROWS.out wr HK10.out; have HOr := Lib.hid hO; clear hO; obtain ⟨p', cap', b', o', he, -, -, hp', hc'⟩ := hP; cases he; cases hp' (by omega)
          obtain ⟨g0, g1, g2⟩ := hc' k hlt; obtain ⟨sk, hsk, -⟩ := HOK.out.sym k hlt (by rw [HOK.out.len]; exact hlt)
          have HSK : Hid (notesOf l (ps.take (k + 1)) = notesOf l (ps.take k) ++ sk.notes) := notesOf_snoc hlt rfl hsk; have h8 := notes8 HMAY.out hsk
          have HSYk : Hid (∀ W, Below wr.heap.size wr W → Calls Tryz.prog 117 #[.pointer (some ⟨w3.heap.size + 1, 0, none⟩), .agg #[.int .i64 ps[k].1, .int .i64 ps[k].2]] W (SymLPost W sk)) := fun W hW =>
           linkSym_any (w3.heap.size + 1) _ l ps[k] sk W (HOr.out.keep hW) (size_keep hW (by omega)) (cell_keep hW (by omega) (Lib.cell_of_heap HX10.out 7)) hsk
          generalize ps[k] = pk at g1 g2 HSYk; obtain ⟨k1, k2⟩ := pk; simp only [] at g1 g2 HSYk; generalize hnt : notesOf l (ps.take k) = nt at HNN HON HSK hnl; have HNT := Lib.hid hnt; clear hnt hsk hp' hc'; unfold SymLPost at HSYk; go_wp2_with fail; refine (HSYk.out _ (alloc_old wr _)).mono ?_; rintro e w11 ⟨⟨vr, vn, rfl, hin⟩, hB11⟩; unfold symV; obtain ⟨q1', d1', q2', d2', rfl, rfl⟩ := hin.shape; have hfn := field_notes sk.name sk.bytes sk.bind sk.kind sk.size (.slice q1' sk.rels.length d1') (.slice q2' sk.notes.length d2') w11; have hB11w : Below wr.heap.size wr w11 := (alloc_old wr _).trans (hB11.mono (by simp))
          have HB11 := Lib.hid hB11w; have HO11 : Hid (w11.ownsRow w9.heap.size 155 3 (.slice pn nt.length cn) nt.length (nt.flatMap noteCells)) := own_congr HON.out fun q hq => hB11w.block q (HON.out.lt q hq).2
          have hz11 := hB11w.size; have HNR := Lib.hid hin.2.1; obtain ⟨pz, cz, bz, oz, hez, -, -, hpz, hcz⟩ := hin.2.1; cases hez; have HPZ := Lib.hid hpz; have HCZ := Lib.hid hcz; clear hB11 hB11w hin g1 g2 hpz hcz; go_wp2_with (at_builtin; refine wpList_append_src rfl _ _ 53 rfl w9.heap.size 155 iN _ 3 12 Tryz.underlying53 HI.out.1 HI.out.2.1 HI.out.2.2.1 HI.out.2.2.2 rfl (by decide) (.slice pn nt.length cn) nt.length (nt.flatMap noteCells) rfl HO11.out q2' sk.notes.length d2' bz oz (sk.notes.flatMap noteCells) rfl HPZ.out (by rw [flat_len noteCells_len]) (fun _ => note_news HCZ.out) noteCells_one (by unfold maxLen; omega) (by omega) (by omega) ?_)
          intro v' w' hown3 hgrow3; obtain ⟨pw3, cw3, rfl⟩ := own_shape hown3; have HO3 := Lib.hid hown3; have HB3' : Hid (Below w9.heap.size w9 w') := (HBN.out.trans (HB11.out.mono hz10)).grown hgrow3 (by omega) (fun q e => (HO11.out.lt q e).1)
          clear hown3 hgrow3; go_wp2; go_roundw
          case rel =>
           refine ⟨k + 1, by go_num, by omega, ?_, ?_, ?_, HB3'.out⟩
           ·rw [HSK.out, List.length_append]; omega
           ·rw [HSK.out]; intro x hx; rcases List.mem_append.1 hx with hx | hx
            ·exact HNN.out x hx
            ·exact row_num HNR.out x hx
           ·rw [HSK.out, List.length_append, List.flatMap_append]; exact HO3.out
          case measure => simp [intOf]; omega
         ·obtain rfl : k = ps.length := by omega
          have hke : ps.take ps.length = ps := List.take_length; rw [hke] at hnl HNN HON; have HDM := Lib.hid (demandOf_any _ (notesOf l ps) wr (note_row HON.out (by omega) HNN.out) (by omega) H16.out)
          have HMO := Lib.hid (demandR_ok (fun x hx => (HNN.out x hx).2.1.1))
          rw [linkEnd, if_neg (by simp)] at HLR
          clear hke; generalize demandR (notesOf l ps) = D at HDM HMO HLR; obtain ⟨⟨dp, de, dq, dc⟩, dn⟩ := D; unfold ManPost at HDM; simp only [] at HDM HMO HLR; have HX10' := HX10; go_wp2_with fail; refine HDM.out.mono ?_; rintro e w12 ⟨ve, vp, rfl, ho, hu, hB12⟩; obtain ⟨pe, ce, rfl⟩ := own_shape ho; obtain ⟨pu, cu, rfl⟩ := own_shape hu; have HVE := Lib.hid ho; have HVP := Lib.hid hu; have hz12 := hB12.size; have HX12 := Lib.hid ((hB12.block _ (by omega)).trans HX10.out)
          have HM12 := Lib.hid ((hB12.block _ (by omega)).trans ((HBN.out.block _ (by omega)).trans HM9.out))
          have HR12 := Lib.hid ((hB12.block _ (by omega)).trans ((HBN.out.block _ (by omega)).trans HR9.out))
          have HB12 : Hid (Below w9.heap.size w9 w12) := HBN.out.trans (hB12.mono hz10); have HS12 : Hid (w12.ownsRow w8.heap.size 146 3 (.slice p9 sp.length c9) sp.length ((sp.map (segOf fb)).flatMap segCells)) := own_congr HS9.out fun q hq => HB12.out.block q (HS9.out.lt q hq).2
          have HK12 : Hid (KB (fun q => q = w3.heap.size + 1) w5 w12) := HK9.out.trans (KB.of_below HB12.out)
          have HBW12 : Hid (Below w.heap.size w w12) := HB9.out.trans (HB12.out.mono HB9.out.size); clear ho hu hB12 HDM HX10' HX9 HM9 HR9 HB9 HK9 HX10 HK10 HBN HON HB12; have y0 : w12.cell? ⟨w3.heap.size + 1, 0, none⟩ = some (.int .u32 0) := Lib.cell_of_heap HX12.out 0; have y1 : w12.cell? ⟨w3.heap.size + 1, 1, none⟩ = some (.slice none 0 0) := Lib.cell_of_heap HX12.out 1; have y2 : w12.cell? ⟨w3.heap.size + 1, 2, none⟩ = some (.slice none 0 0) := Lib.cell_of_heap HX12.out 2; have y3 : w12.cell? ⟨w3.heap.size + 1, 3, none⟩ = some (.bool false) := Lib.cell_of_heap HX12.out 3; have yz : ∀ j, w12.frozen? ⟨w3.heap.size + 1, j, none⟩ = false := fun j => Lib.frozen_of_heap HX12.out _
          have hl12 : w.heap.size < w12.heap.size := by omega
          have HX13 : Hid (((((w12.setCell ⟨w3.heap.size + 1, 0, none⟩ (.int .u32 dp)).setCell ⟨w3.heap.size + 1, 1, none⟩ (.slice pe de.length ce)).setCell ⟨w3.heap.size + 1, 2, none⟩ (.slice pu dq.length cu)).setCell ⟨w3.heap.size + 1, 3, none⟩ (.bool dc)).heap[w3.heap.size + 1]? = some (.cells (lkCells (.int .u32 dp) (.slice pe de.length ce) (.slice pu dq.length cu) (.bool dc) (.int .u32 0) (.slice p9 sp.length c9) (.slice pw wh.length cw) (.slice qv l.length cv) (.slice qp ps.length cp) (.slice ps' sp.length cs')) 204 (0, 0))) := by
           have e0 := heap_setCell_same w12 (w3.heap.size + 1) 0 _ _ (.int .u32 dp) HX12.out; have e1 := heap_setCell_same _ (w3.heap.size + 1) 1 _ _ (.slice pe de.length ce) e0; have e2 := heap_setCell_same _ (w3.heap.size + 1) 2 _ _ (.slice pu dq.length cu) e1; have e3 := heap_setCell_same _ (w3.heap.size + 1) 3 _ _ (.bool dc) e2; rw [Hid]; simpa [lkCells] using e3
          have HF13 : Hid (∀ q, q ≠ w3.heap.size + 1 → ((((w12.setCell ⟨w3.heap.size + 1, 0, none⟩ (.int .u32 dp)).setCell ⟨w3.heap.size + 1, 1, none⟩ (.slice pe de.length ce)).setCell ⟨w3.heap.size + 1, 2, none⟩ (.slice pu dq.length cu)).setCell ⟨w3.heap.size + 1, 3, none⟩ (.bool dc)).heap[q]? = w12.heap[q]?) := fun q hq => put4_other hq
          have HK13 : Hid (KB (fun q => q = w3.heap.size + 1) w5 ((((w12.setCell ⟨w3.heap.size + 1, 0, none⟩ (.int .u32 dp)).setCell ⟨w3.heap.size + 1, 1, none⟩ (.slice pe de.length ce)).setCell ⟨w3.heap.size + 1, 2, none⟩ (.slice pu dq.length cu)).setCell ⟨w3.heap.size + 1, 3, none⟩ (.bool dc))) := KB.setCell (KB.setCell (KB.setCell (KB.setCell HK12.out (.inl rfl) _) (.inl rfl) _) (.inl rfl) _) (.inl rfl) _
          have HB13 : Hid (Below w.heap.size w ((((w12.setCell ⟨w3.heap.size + 1, 0, none⟩ (.int .u32 dp)).setCell ⟨w3.heap.size + 1, 1, none⟩ (.slice pe de.length ce)).setCell ⟨w3.heap.size + 1, 2, none⟩ (.slice pu dq.length cu)).setCell ⟨w3.heap.size + 1, 3, none⟩ (.bool dc))) := put4_below HBW12.out (by omega)
          have z13 : ((((w12.setCell ⟨w3.heap.size + 1, 0, none⟩ (.int .u32 dp)).setCell ⟨w3.heap.size + 1, 1, none⟩ (.slice pe de.length ce)).setCell ⟨w3.heap.size + 1, 2, none⟩ (.slice pu dq.length cu)).setCell ⟨w3.heap.size + 1, 3, none⟩ (.bool dc)).heap.size = w12.heap.size := by simp
          have HR13 := Lib.hid ((HF13.out _ hrx).trans HR12.out)
          by_cases hdn : dn = 0
          ·subst hdn; rw [if_neg (by simp)] at HLR
           go_wp2_with fail; generalize ((((w12.setCell ⟨w3.heap.size + 1, 0, none⟩ (.int .u32 dp)).setCell ⟨w3.heap.size + 1, 1, none⟩ (.slice pe de.length ce)).setCell ⟨w3.heap.size + 1, 2, none⟩ (.slice pu dq.length cu)).setCell ⟨w3.heap.size + 1, 3, none⟩ (.bool dc)) = w13 at HX13 HF13 HK13 HB13 z13 HR13 ⊢; have hxb13 : w3.heap.size + 1 < w13.heap.size := by omega
           have hmb13 : w3.heap.size < w13.heap.size := by omega
           have k6 : w13.cell? ⟨w3.heap.size + 1, 6, none⟩ = some (.slice pw wh.length cw) := Lib.cell_of_heap HX13.out 6; have HM13 := Lib.hid ((HF13.out w3.heap.size (by omega)).trans HM12.out)
           have n0 : w13.cell? ⟨w3.heap.size, 0, none⟩ = some (.int .i64 pa) := Lib.cell_of_heap HM13.out 0; have n1 : w13.cell? ⟨w3.heap.size, 1, none⟩ = some (.int .i64 pb) := Lib.cell_of_heap HM13.out 1
           have HLF : Hid (∀ W, Below w13.heap.size w13 W → Calls Tryz.prog 120 #[.slice pw wh.length cw, .agg #[.int .i64 pa, .int .i64 pb]] W fun e w' => e = .returned (.tuple #[.int .u32 (layFind wh (toG (pa, pb))).1, .bool (layFind wh (toG (pa, pb))).2]) ∧ Below W.heap.size W w') := fun W hW =>
            layFind_any _ wh (toG (pa, pb)) W (HROWS.out W (HK13.out.trans (KB.of_below hW))).2.1
           have HLN := Lib.hid (layFind_num HWA.out (toG (pa, pb))); generalize layFind wh (toG (pa, pb)) = lf at HLF HLN HLR; obtain ⟨la, lb⟩ := lf; simp only [] at HLF HLN HLR; clear HX12 HM12 HR12 y0 y1 y2 y3 yz
           go_region_held3 (fun w' => w'.cell? ⟨w3.heap.size + 1, 6, none⟩ = some (.slice pw wh.length cw) ∧ w'.cell? ⟨w3.heap.size, 0, none⟩ = some (.int .i64 pa) ∧ w'.cell? ⟨w3.heap.size, 1, none⟩ = some (.int .i64 pb)) (go_keep) (first | (go_at_call 120; refine (HLF.out _ ?_).mono ?_; (exact (Below.refl _ _).drew); rintro e w14 ⟨rfl, hB14⟩; have i6 : w14.cell? ⟨w3.heap.size + 1, 6, none⟩ = some (.slice pw wh.length cw) := cell_keep hB14 (by exact hxb13) k6; have i0 : w14.cell? ⟨w3.heap.size, 0, none⟩ = some (.int .i64 pa) := cell_keep hB14 (by exact hmb13) n0; have i1 : w14.cell? ⟨w3.heap.size, 1, none⟩ = some (.int .i64 pb) := cell_keep hB14 (by exact hmb13) n1; have HX14 := Lib.hid ((hB14.block _ (by exact hxb13)).trans HX13.out); have i4 : w14.cell? ⟨w3.heap.size + 1, 4, none⟩ = some (.int .u32 0) := Lib.cell_of_heap HX14.out 4; have i5 : w14.frozen? ⟨w3.heap.size + 1, 4, none⟩ = false := Lib.frozen_of_heap HX14.out 4; have HX15 := Lib.hid (lk_entry (.int .u32 la) HX14.out); have i9 : (w14.setCell ⟨w3.heap.size + 1, 4, none⟩ (.int .u32 la)).cell? ⟨w3.heap.size + 1, 6, none⟩ = some (.slice pw wh.length cw) := Lib.cell_of_heap HX15.out 6; have HB14 := Lib.hid hB14; clear hB14))
           all_goals
            have hb14 : Below w13.heap.size w13 w14 := (Below.refl _ _).drew.trans HB14.out; have hz14 := hb14.size; have HR15 : Hid ((w14.setCell ⟨w3.heap.size + 1, 4, none⟩ (.int .u32 la)).heap[w.heap.size]? = some (.cells zlink 68 (0, 0))) := (Below.heap_setCell _ _ _ _ hrx).trans ((hb14.block _ (by omega)).trans HR13.out)
            have HK15 : Hid (KB (fun q => q = w3.heap.size + 1) w5 (w14.setCell ⟨w3.heap.size + 1, 4, none⟩ (.int .u32 la))) := KB.setCell (HK13.out.trans (KB.of_below hb14)) (.inl rfl) _
            have HB15 : Hid (Below w.heap.size w (w14.setCell ⟨w3.heap.size + 1, 4, none⟩ (.int .u32 la))) := (HB13.out.trans (hb14.mono HB13.out.size)).setCell (by show w.heap.size ≤ w3.heap.size + 1; omega) _
            have HF15 : Hid (∀ q, q < w12.heap.size → q ≠ w3.heap.size + 1 → (w14.setCell ⟨w3.heap.size + 1, 4, none⟩ (.int .u32 la)).heap[q]? = w12.heap[q]?) := fun q h1 h2 => (Below.heap_setCell _ _ _ _ h2).trans ((hb14.block q (by omega)).trans (HF13.out q h2))
            clear i6 i0 i1 i4 i5 i9 k6 n0 n1 hb14 HX14; generalize w14.setCell ⟨w3.heap.size + 1, 4, none⟩ (.int .u32 la) = w15 at HX15 HR15 HK15 HB15 HF15 ⊢; have j0 : w15.cell? ⟨w3.heap.size + 1, 0, none⟩ = some (.int .u32 dp) := Lib.cell_of_heap HX15.out 0; have j1 : w15.cell? ⟨w3.heap.size + 1, 1, none⟩ = some (.slice pe de.length ce) := Lib.cell_of_heap HX15.out 1; have j2 : w15.cell? ⟨w3.heap.size + 1, 2, none⟩ = some (.slice pu dq.length cu) := Lib.cell_of_heap HX15.out 2; have j3 : w15.cell? ⟨w3.heap.size + 1, 3, none⟩ = some (.bool dc) := Lib.cell_of_heap HX15.out 3; have j4 : w15.cell? ⟨w3.heap.size + 1, 4, none⟩ = some (.int .u32 la) := Lib.cell_of_heap HX15.out 4; have j5 : w15.cell? ⟨w3.heap.size + 1, 5, none⟩ = some (.slice p9 sp.length c9) := Lib.cell_of_heap HX15.out 5; have j6 : w15.cell? ⟨w3.heap.size + 1, 6, none⟩ = some (.slice pw wh.length cw) := Lib.cell_of_heap HX15.out 6; have HPUT := Lib.hid (sevens (zput (u0 := .int .u32 dp) (u1 := .slice pe de.length ce) (u2 := .slice pu dq.length cu) (u3 := .bool dc) (u4 := .int .u32 la) (u5 := .slice p9 sp.length c9) (u6 := .slice pw wh.length cw) HR15.out)); obtain ⟨r0, r1, r2, r3, r4, r5, r6, rz⟩ := zfacts HR15.out; go_wp2_with fail; obtain ⟨x0, x1, x2, x3, x4, x5, x6⟩ := HPUT.out
            refine bodyPost_ret (v := .tuple #[.agg #[.int .u32 dp, .slice pe de.length ce, .slice pu dq.length cu, .bool dc, .int .u32 la, .slice p9 sp.length c9, .slice pw wh.length cw], .string ⟨#[]⟩, .int .i64 0]) (by simp [results, Tryz.results70, go_sem, x0, x1, x2, x3, x4, x5, x6]) rfl ?_
            have hfar : ∀ q, q < w12.heap.size → q ≠ w3.heap.size + 1 → q ≠ w.heap.size → (((((((w15.setCell ⟨w.heap.size, 0, none⟩ (.int .u32 dp)).setCell ⟨w.heap.size, 1, none⟩ (.slice pe de.length ce)).setCell ⟨w.heap.size, 2, none⟩ (.slice pu dq.length cu)).setCell ⟨w.heap.size, 3, none⟩ (.bool dc)).setCell ⟨w.heap.size, 4, none⟩ (.int .u32 la)).setCell ⟨w.heap.size, 5, none⟩ (.slice p9 sp.length c9)).setCell ⟨w.heap.size, 6, none⟩ (.slice pw wh.length cw)).heap[q]? = w12.heap[q]? := fun q h1 h2 h3 => (put7_other h3).trans (HF15.out q h1 h2)
            refine ⟨(⟨⟨dp, de, dq, dc⟩, la, sp.map (segOf fb), wh⟩, emptyB, 0), .inr ⟨_, K, HKY.out, HLR.out.symm⟩, .slice pe de.length ce, .slice pu dq.length cu, .slice p9 sp.length c9, .slice pw wh.length cw, rfl, ⟨?_, ?_, ?_, HLN.out.1, HLN.out.2⟩, put7_below HB15.out (Nat.le_refl _)⟩
            ·exact man_at HMO.out (own_congr HVE.out fun q hq => by have := HVE.out.lt q hq; exact hfar q this.2 (by omega) (by omega)) (own_congr HVP.out fun q hq => by have := World.ownsRow.lt HVP.out q hq; exact hfar q this.2 (by omega) (by omega))
            ·exact seg_row (own_congr HS12.out fun q hq => by have := HS12.out.lt q hq; exact hfar q this.2 (by omega) (by omega)) HSP.out.1 HSP.out.2.1
            ·exact addr_kb (HROWS.out w15 HK15.out).2.1 (put7_kb w15 w.heap.size) (fun j n => zlink_cells HR15.out _ (by simp [zlink]) j)
          ·have hdb : (dn != 0) = true := by simpa using hdn
           rw [if_pos hdn] at HLR; clear hdn; have HPUT := Lib.hid (sevens (zput (u0 := .int .u32 0) (u1 := .slice none 0 0) (u2 := .slice none 0 0) (u3 := .bool false) (u4 := .int .u32 0) (u5 := .slice none 0 0) (u6 := .slice none 0 0) HR13.out)); obtain ⟨r0, r1, r2, r3, r4, r5, r6, rz⟩ := zfacts HR12.out; go_wp2_with fail; obtain ⟨x0, x1, x2, x3, x4, x5, x6⟩ := HPUT.out; refine bodyPost_ret (v := .tuple #[.agg #[.int .u32 0, .slice none 0 0, .slice none 0 0, .bool false, .int .u32 0, .slice none 0 0, .slice none 0 0], .string ⟨#[]⟩, .int .i64 dn]) (by simp [results, Tryz.results70, go_sem, x0, x1, x2, x3, x4, x5, x6]) rfl ?_
           exact ⟨(link0, emptyB, dn), .inr ⟨_, K, HKY.out, HLR.out.symm⟩, _, _, _, _, rfl, link0_at _, put7_below HB13.out (Nat.le_refl _)⟩
       ·rw [if_neg hfc] at hif; subst hif; have hfcb : (fc != 0) = true := by simpa using hfc
        have HFC := Lib.hid hfc; clear hfc; have HPUT := Lib.hid (sevens (zput (u0 := .int .u32 0) (u1 := .slice none 0 0) (u2 := .slice none 0 0) (u3 := .bool false) (u4 := .int .u32 0) (u5 := .slice none 0 0) (u6 := .slice none 0 0) HR9.out)); obtain ⟨r0, r1, r2, r3, r4, r5, r6, rz⟩ := zfacts HR9.out; go_wp2_with fail; obtain ⟨x0, x1, x2, x3, x4, x5, x6⟩ := HPUT.out; refine bodyPost_ret (v := .tuple #[.agg #[.int .u32 0, .slice none 0 0, .slice none 0 0, .bool false, .int .u32 0, .slice none 0 0, .slice none 0 0], .string fn, .int .i64 fc]) (by simp [results, Tryz.results70, go_sem, x0, x1, x2, x3, x4, x5, x6]) rfl ?_
        have hres : linkR l nm (pa, pb) ps = (link0, fn, fc) := by rw [HLR.out, linkEnd, if_pos HFC.out]
        exact ⟨(link0, fn, fc), .inr ⟨_, K, HKY.out, hres.symm⟩, _, _, _, _, rfl, link0_at _, put7_below HB9.out (Nat.le_refl _)⟩
      ·have hlb : (lc != 0) = true := by simpa using hl0
       have HL0 := Lib.hid hl0; clear hl0; have HPUT := Lib.hid (sevens (zput (u0 := .int .u32 0) (u1 := .slice none 0 0) (u2 := .slice none 0 0) (u3 := .bool false) (u4 := .int .u32 0) (u5 := .slice none 0 0) (u6 := .slice none 0 0) HR8.out)); obtain ⟨r0, r1, r2, r3, r4, r5, r6, rz⟩ := zfacts HR8.out; go_wp2_with fail; obtain ⟨x0, x1, x2, x3, x4, x5, x6⟩ := HPUT.out; refine bodyPost_ret (v := .tuple #[.agg #[.int .u32 0, .slice none 0 0, .slice none 0 0, .bool false, .int .u32 0, .slice none 0 0, .slice none 0 0], .string ⟨#[]⟩, .int .i64 lc]) (by simp [results, Tryz.results70, go_sem, x0, x1, x2, x3, x4, x5, x6]) rfl ?_
       have hres : linkR l nm (pa, pb) ps = (link0, emptyB, lc) := by
        unfold linkR; rw [if_neg (by rw [HL.out, HCB.out]; simp only [not_or]; exact ⟨HL2.out, by simp⟩), if_neg (by rw [HKD.out, HKN.out]; simp), if_pos (by rw [HL.out]; exact HL0.out), HL.out]
       exact ⟨(link0, emptyB, lc), .inr ⟨_, K, HKY.out, hres.symm⟩, _, _, _, _, rfl, link0_at _, put7_below HB8.out (Nat.le_refl _)⟩
     ·have hkb : (s.kind != 1) = true := by simpa using hkd
      have HKN := Lib.hid hkd; clear hkd; have HPUT := Lib.hid (sevens (zput (u0 := .int .u32 0) (u1 := .slice none 0 0) (u2 := .slice none 0 0) (u3 := .bool false) (u4 := .int .u32 0) (u5 := .slice none 0 0) (u6 := .slice none 0 0) HR8.out)); obtain ⟨r0, r1, r2, r3, r4, r5, r6, rz⟩ := zfacts HR8.out; go_wp2_with fail; obtain ⟨x0, x1, x2, x3, x4, x5, x6⟩ := HPUT.out; refine bodyPost_ret (v := .tuple #[.agg #[.int .u32 0, .slice none 0 0, .slice none 0 0, .bool false, .int .u32 0, .slice none 0 0, .slice none 0 0], .string nm, .int .i64 180]) (by simp [results, Tryz.results70, go_sem, x0, x1, x2, x3, x4, x5, x6]) rfl ?_
      have hres : linkR l nm (pa, pb) ps = (link0, nm, 180) := by
       unfold linkR; rw [if_neg (by rw [HL.out, HCB.out]; simp only [not_or]; exact ⟨HL2.out, by simp⟩), if_pos (by rw [HKD.out]; exact HKN.out)]
      exact ⟨(link0, nm, 180), .inr ⟨_, K, HKY.out, hres.symm⟩, _, _, _, _, rfl, link0_at _, put7_below HB8.out (Nat.le_refl _)⟩
 ·have HKE := Lib.hid hke; have hcb : (c != 0) = true := by simpa using hc
  have hr := (hB2.block _ (by omega)).trans HR1.out
  obtain ⟨r0, r1, r2, r3, r4, r5, r6, rz⟩ := zfacts hr; have HPUT := Lib.hid (sevens (zput (u0 := .int .u32 0) (u1 := .slice none 0 0) (u2 := .slice none 0 0) (u3 := .bool false) (u4 := .int .u32 0) (u5 := .slice none 0 0) (u6 := .slice none 0 0) hr)); have HB2 : Hid (Below w.heap.size w w2) := HB1.out.trans (hB2.mono (by omega))
  have HC := Lib.hid hc; clear hB2 hke hr hc; go_wp2_with fail; obtain ⟨x0, x1, x2, x3, x4, x5, x6⟩ := HPUT.out; refine bodyPost_ret (v := .tuple #[.agg #[.int .u32 0, .slice none 0 0, .slice none 0 0, .bool false, .int .u32 0, .slice none 0 0, .slice none 0 0], .string n, .int .i64 c]) (by simp [results, Tryz.results70, go_sem, x0, x1, x2, x3, x4, x5, x6]) rfl ?_
  exact ⟨(link0, n, c), .inl ⟨n, c, HC.out, HKE.out, rfl⟩, _, _, _, _, rfl, link0_at _, put7_below HB2.out (Nat.le_refl _)⟩
end Go.Proofs.YtboegjdkedjhcaaGreatDoor
