/- slices.Compact at a row of uint16 of one's own, and what is asked of slices.Sort. The walk of the gatherer's manifest (demand). What is kept of what is left, in plain Lean. No program in sight. The walk of. -/
import Derived.Test.YtboegjdkedjhcaaGreatDoorBs11
import Derived.Test.YtboegjdkedjhcaaGreatDoorEqLay
import Derived.Test.YtboegjdkedjhcaaGreatDoorBs07
import Derived.Lib.Hide
import Derived.Test.YtboegjdkedjhcaaGreatDoorBs16
import Derived.Test.YtboegjdkedjhcaaGreatDoorBs25
import Derived.Test.YtboegjdkedjhcaaGreatDoorBs08
import Derived.Test.YtboegjdkedjhcaaGreatDoorProg
namespace Go.Proofs.YtboegjdkedjhcaaGreatDoor
set_option maxRecDepth 100000
section
open Go.RowKit Go.Sort Go.Lib
theorem sortI_length (l : List Int) : (sortI l).length = l.length := by simp [sortI]
def S16 (l : List Int) : Prop := ∀ (base : Nat) (v : Value) (w : World), URow .u16 144 base w v l → l.length ≤ 100000 →
    Calls Tryz.prog 208 #[v] w fun e w' => e = .returned (.tuple #[]) ∧ URow .u16 144 base w' v (sortI l) ∧ KB (fun k => v.ownBlock = some k) w w'
theorem compactUpTo_le (d : Array Int) : (compactUpTo d d.size).length ≤ d.size := by
 unfold compactUpTo; rw [List.length_map]; exact Nat.le_trans (List.length_filter_le _ _) (by simp)
theorem compact16_row (base : Nat) (v : Value) (l : List Int) (w : World) (h : URow .u16 144 base w v l) (hl : l.length ≤ 100000) :
 Calls Tryz.prog 209 #[v] w fun e w' => ∃ v', e = .returned v' ∧ URow .u16 144 base w' v' (onceI l) ∧ v'.ownBlock = v.ownBlock ∧ KB (fun k => v.ownBlock = some k) w w' := by
 by_cases h0 : l.length = 0
 ·obtain ⟨p, c, rfl⟩ := own_shape h; obtain rfl : l = [] := List.eq_nil_of_length_eq_zero h0; have HH := Lib.hid h; clear h; go_enter Tryz.func209, Tryz.ntmps209; go_wp2; go_ret; exact ⟨_, rfl, HH.out, rfl, KB.refl _ _⟩
 ·obtain ⟨g, cap, rfl, hbg, hgl⟩ := World.ownsRow.form h (by omega)
  have hsz : l.toArray.size = l.length := by simp
  have hcap : l.length ≤ cap := by
   rcases h.2 with ⟨h3, -⟩ | ⟨g', cap', cur, h3, -, -, h5, -⟩
   ·cases h3
   ·cases h3; exact h5
  have hcon := Go.Proofs.AnyE.slices_Compact Tryz.compact16 (Value.int .u16) (fun _ => rfl) (EqlAt.intD _ _ .u16) (NeqAt.intD _ _ .u16) 0 Tryz.zeroValue144 g 0 cap l.toArray w h.holds (by rw [hsz]; omega) (by rw [hsz]; exact hcap)
  change Calls Tryz.prog 209 _ _ _ at hcon; have hle := compactUpTo_le l.toArray; have he : compactUpTo l.toArray l.toArray.size = onceI l := by rw [hsz]; rfl
  rw [he, hsz] at hcon; rw [he, hsz] at hle; refine hcon.mono ?_; rintro e w' ⟨rfl, n, rfl⟩; have hp := URow.put (n := n) (os := #[]) (D := onceI l ++ List.replicate (l.length - (onceI l).length) 0) (l' := onceI l) h (by simp; omega) (by rw [List.take_append_of_le_length (Nat.le_refl _), List.take_length])
  have hk := putRow_kb (K := .u16) (w := w) (g := g) (n := n) (D := (onceI l ++ List.replicate (l.length - (onceI l).length) 0).toArray) (os := #[]) (cap := cap) (m := l.length); rw [grow_empty] at hp hk; exact ⟨_, rfl, hp, rfl, hk⟩
end
section
open Go.RowKit Go.Maps
def extCells (xs : List (Int × Int)) : List Value := xs.flatMap fun x => [.int .u32 x.1, .int .u32 x.2]
structure GatX (base gb : Nat) (g : Gat) (xs : List (Int × Int)) (w : World) : Prop where
 bx : ∃ ve v, w.heap[gb]? = some (.cells (gatCells g ve v).toArray 266 (0, 0)) ∧ w.ownsRow base 143 2 ve xs.length (extCells xs) ∧ w.ownsRow base 144 1 v g.ports.length (g.ports.map (.int .u16))
 gle : base ≤ gb
def ManPost (base : Nat) (w : World) (r : GMan × Int) (e : Ending) (w' : World) : Prop :=
 ∃ ve vp, e = .returned (.tuple #[.agg #[.int .u32 r.1.pages, ve, vp, .bool r.1.cons], .int .i64 r.2]) ∧ w'.ownsRow base 143 2 ve r.1.exts.length (extCells r.1.exts) ∧ URow .u16 144 base w' vp r.1.ports ∧ Below base w w'
theorem GatSt.x {base gb : Nat} {g : Gat} {w : World} (h : GatSt base gb g w) : GatX base gb g [] w := by
 obtain ⟨v, h1, h2⟩ := h.bx; exact ⟨⟨_, v, h1, World.ownsRow_nil _ _ _ _, h2⟩, h.gle⟩
theorem GatX.lt {base gb : Nat} {g : Gat} {xs : List (Int × Int)} {w : World} (h : GatX base gb g xs w) : gb < w.heap.size := by
 obtain ⟨ve, v, hb, -⟩ := h.bx; exact (Array.getElem?_eq_some_iff.1 hb).1
theorem info_extent : (Tryz.prog.info? 143).map (fun i => (i.zero, i.size, i.bytes)) = some (some (.agg #[.int .u32 0, .int .u32 0]), 2, 8) := by kernel_rfl
theorem run_index16 (A : Array Value) (k : Nat) (x : Int) (w : World) (hk : k < 16) (hA : A[k]? = some (.int .u32 x)) :
 (Instr.index 264 (.agg A) (.int .i64 (k : Int))).run Tryz.prog w = .ok (.int .u32 x) w := by
 have h16 : (0 : Int) ≤ (k : Int) ∧ (k : Int) < ((16 : Nat) : Int) := by omega
 simp [Instr.index, run_underlying Tryz.underlying264, asIntOf, h16, part, hA, Tryz.sizeOf51, Tryz.isAgg51, go_sem]; intro h; omega
theorem two_newsG {w : World} {g : Nat} {a b : Value} (h0 : w.cell? ⟨g, 0, none⟩ = some a) (h1 : w.cell? ⟨g, 1, none⟩ = some b) : ∀ j u, [a, b][j]? = some u → w.cell? ((⟨g, 0, none⟩ : Addr).add j) = some u := by
 intro j u hu
 match j, hu with
 | 0, hu => simp at hu; subst hu; simpa [Addr.add] using h0
 | 1, hu => simp at hu; subst hu; simpa [Addr.add] using h1
theorem two_u32 {a b : Int} : ∀ u ∈ [Value.int .u32 a, Value.int .u32 b], u.oneCell' = true := by
 intro u hu; simp at hu; rcases hu with rfl | rfl <;> rfl
theorem GatX.add {base gb k : Nat} {g : Gat} {xs : List (Int × Int)} {w w' : World} {ve v v' : Value} {o : Obj} {bk : Int} (hb : w.heap[gb]? = some (.cells (gatCells g ve v).toArray 266 (0, 0))) (he : w.ownsRow base 143 2 ve xs.length (extCells xs)) (hp : w.ownsRow base 144 1 v g.ports.length (g.ports.map (.int .u16))) (hgl : base ≤ gb)
 (hown : w'.ownsRow base 143 2 v' (xs.length + 1) (extCells xs ++ [.int .u32 (k : Int), .int .u32 bk])) (hg : (w.alloc o).grownBy w' ve.ownBlock) :
 GatX base gb g (xs ++ [((k : Int), bk)]) (w'.setCell ⟨gb, 1, none⟩ v') ∧ w'.heap[gb]? = some (.cells (gatCells g ve v).toArray 266 (0, 0)) ∧
  ∀ (q : Nat) (cs : Array Value) (t : TypeId), w.heap[q]? = some (.cells cs t (0, 0)) → t ≠ 143 → q ≠ gb → (w'.setCell ⟨gb, 1, none⟩ v').heap[q]? = some (.cells cs t (0, 0)) := by
 have far : ∀ (q : Nat) (cs : Array Value) (t : TypeId), w.heap[q]? = some (.cells cs t (0, 0)) → t ≠ 143 → w'.heap[q]? = some (.cells cs t (0, 0)) := by
  intro q cs t hq ht; have hlt := (Array.getElem?_eq_some_iff.1 hq).1; have hq2 := (Below.heap_alloc w o q hlt).trans hq; exact (hg.block q (by simp; omega) (fun e => own_ne_box he hq (fun e2 => ht e2.symm) e.symm)).trans hq2
 have hb' := far gb _ _ hb (by decide)
 refine ⟨⟨⟨v', v, ?_, ?_, ?_⟩, hgl⟩, hb', ?_⟩
 ·rw [heap_setCell_same _ _ _ _ _ _ hb']; simp [gatCells]
 ·have e1 : extCells (xs ++ [((k : Int), bk)]) = extCells xs ++ [.int .u32 (k : Int), .int .u32 bk] := by simp [extCells]
  rw [e1, List.length_append]; exact own_congr hown fun q hq => Below.heap_setCell _ _ _ _ (fun e => own_ne_box hown hb' (by decide) (hq.trans (congrArg some e)))
 ·refine own_congr hp fun q hq => ?_
  obtain ⟨cur, hc⟩ := own_type hp hq
  have hne : q ≠ gb := fun e => by
   rw [e, hb] at hc; injection hc with h2; injection h2 with _ h3 _; exact absurd h3 (by decide)
  rw [Below.heap_setCell _ _ _ _ hne, far q _ _ hc (by decide), hc]
 ·intro q cs t hq ht hne; rw [Below.heap_setCell _ _ _ _ hne]; exact far q cs t hq ht
theorem put4 {w : World} {b : Nat} {a0 a1 a2 a3 u0 u1 u2 u3 : Value} {T : TypeId} (h : w.heap[b]? = some (.cells #[a0, a1, a2, a3] T (0, 0))) :
 ((((w.setCell ⟨b, 0, none⟩ u0).setCell ⟨b, 1, none⟩ u1).setCell ⟨b, 2, none⟩ u2).setCell ⟨b, 3, none⟩ u3).heap[b]? = some (.cells #[u0, u1, u2, u3] T (0, 0)) :=
 heap_setCell_same _ b 3 _ _ u3 (heap_setCell_same _ b 2 _ _ u2 (heap_setCell_same _ b 1 _ _ u1 (heap_setCell_same _ b 0 _ _ u0 h)))
theorem put4_other {w : World} {b q : Nat} {u0 u1 u2 u3 : Value} (h : q ≠ b) : ((((w.setCell ⟨b, 0, none⟩ u0).setCell ⟨b, 1, none⟩ u1).setCell ⟨b, 2, none⟩ u2).setCell ⟨b, 3, none⟩ u3).heap[q]? = w.heap[q]? := by
 rw [Below.heap_setCell _ _ _ _ h, Below.heap_setCell _ _ _ _ h, Below.heap_setCell _ _ _ _ h, Below.heap_setCell _ _ _ _ h]
theorem put4_below {w0 w : World} {b B : Nat} {u0 u1 u2 u3 : Value} (h : Below B w0 w) (hb : B ≤ b) : Below B w0 ((((w.setCell ⟨b, 0, none⟩ u0).setCell ⟨b, 1, none⟩ u1).setCell ⟨b, 2, none⟩ u2).setCell ⟨b, 3, none⟩ u3) :=
 (((h.setCell (by exact hb) u0).setCell (by exact hb) u1).setCell (by exact hb) u2).setCell (by exact hb) u3
theorem new_block (w : World) (o : Obj) : (w.alloc o).heap[w.heap.size]? = some o := by
 show (w.heap.push o)[w.heap.size]? = _; exact Array.getElem?_push_size
theorem sixteen {l : List Int} (h : l.length = 16) : ∃ b0 b1 b2 b3 b4 b5 b6 b7 b8 b9 b10 b11 b12 b13 b14 b15 : Int, l = [b0, b1, b2, b3, b4, b5, b6, b7, b8, b9, b10, b11, b12, b13, b14, b15] := by
 match l, h with
 | [b0, b1, b2, b3, b4, b5, b6, b7, b8, b9, b10, b11, b12, b13, b14, b15], _ => exact ⟨_, _, _, _, _, _, _, _, _, _, _, _, _, _, _, _, rfl⟩
set_option maxHeartbeats 2000000 in
theorem manif_any (base gb : Nat) (g : Gat) (w : World) (h : GatSt base gb g w) (hg : GatOk g) (hl : g.ports.length ≤ 100000) (h16 : S16 g.ports) (hbase : base ≤ w.heap.size) :
 Calls Tryz.prog 161 #[.pointer (some ⟨gb, 0, none⟩)] w (ManPost base w (gatEnd g)) := by
 have HX := Lib.hid (h.below (alloc_old w (.cells #[.int .u32 0, .slice none 0 0, .slice none 0 0, .bool false] 62))).x; have hgw := h.lt; clear h; have HG := Lib.hid hg; clear hg; obtain ⟨b0, b1, b2, b3, b4, b5, b6, b7, b8, b9, b10, b11, b12, b13, b14, b15, hbl⟩ := sixteen HG.out.n; obtain ⟨ve, v, hb, -, -⟩ := HX.out.bx; have c4 : (w.alloc (.cells #[.int .u32 0, .slice none 0 0, .slice none 0 0, .bool false] 62)).cell? ⟨gb, 4, none⟩ = some (.int .u32 b0) := (Lib.cell_of_heap hb 4).trans (by simp [gatCells, hbl])
 have c5 : (w.alloc (.cells #[.int .u32 0, .slice none 0 0, .slice none 0 0, .bool false] 62)).cell? ⟨gb, 5, none⟩ = some (.int .u32 b1) := (Lib.cell_of_heap hb 5).trans (by simp [gatCells, hbl])
 have c6 : (w.alloc (.cells #[.int .u32 0, .slice none 0 0, .slice none 0 0, .bool false] 62)).cell? ⟨gb, 6, none⟩ = some (.int .u32 b2) := (Lib.cell_of_heap hb 6).trans (by simp [gatCells, hbl])
 have c7 : (w.alloc (.cells #[.int .u32 0, .slice none 0 0, .slice none 0 0, .bool false] 62)).cell? ⟨gb, 7, none⟩ = some (.int .u32 b3) := (Lib.cell_of_heap hb 7).trans (by simp [gatCells, hbl])
 have c8 : (w.alloc (.cells #[.int .u32 0, .slice none 0 0, .slice none 0 0, .bool false] 62)).cell? ⟨gb, 8, none⟩ = some (.int .u32 b4) := (Lib.cell_of_heap hb 8).trans (by simp [gatCells, hbl])
 have c9 : (w.alloc (.cells #[.int .u32 0, .slice none 0 0, .slice none 0 0, .bool false] 62)).cell? ⟨gb, 9, none⟩ = some (.int .u32 b5) := (Lib.cell_of_heap hb 9).trans (by simp [gatCells, hbl])
 have c10 : (w.alloc (.cells #[.int .u32 0, .slice none 0 0, .slice none 0 0, .bool false] 62)).cell? ⟨gb, 10, none⟩ = some (.int .u32 b6) := (Lib.cell_of_heap hb 10).trans (by simp [gatCells, hbl])
 have c11 : (w.alloc (.cells #[.int .u32 0, .slice none 0 0, .slice none 0 0, .bool false] 62)).cell? ⟨gb, 11, none⟩ = some (.int .u32 b7) := (Lib.cell_of_heap hb 11).trans (by simp [gatCells, hbl])
 have c12 : (w.alloc (.cells #[.int .u32 0, .slice none 0 0, .slice none 0 0, .bool false] 62)).cell? ⟨gb, 12, none⟩ = some (.int .u32 b8) := (Lib.cell_of_heap hb 12).trans (by simp [gatCells, hbl])
 have c13 : (w.alloc (.cells #[.int .u32 0, .slice none 0 0, .slice none 0 0, .bool false] 62)).cell? ⟨gb, 13, none⟩ = some (.int .u32 b9) := (Lib.cell_of_heap hb 13).trans (by simp [gatCells, hbl])
 have c14 : (w.alloc (.cells #[.int .u32 0, .slice none 0 0, .slice none 0 0, .bool false] 62)).cell? ⟨gb, 14, none⟩ = some (.int .u32 b10) := (Lib.cell_of_heap hb 14).trans (by simp [gatCells, hbl])
 have c15 : (w.alloc (.cells #[.int .u32 0, .slice none 0 0, .slice none 0 0, .bool false] 62)).cell? ⟨gb, 15, none⟩ = some (.int .u32 b11) := (Lib.cell_of_heap hb 15).trans (by simp [gatCells, hbl])
 have c16 : (w.alloc (.cells #[.int .u32 0, .slice none 0 0, .slice none 0 0, .bool false] 62)).cell? ⟨gb, 16, none⟩ = some (.int .u32 b12) := (Lib.cell_of_heap hb 16).trans (by simp [gatCells, hbl])
 have c17 : (w.alloc (.cells #[.int .u32 0, .slice none 0 0, .slice none 0 0, .bool false] 62)).cell? ⟨gb, 17, none⟩ = some (.int .u32 b13) := (Lib.cell_of_heap hb 17).trans (by simp [gatCells, hbl])
 have c18 : (w.alloc (.cells #[.int .u32 0, .slice none 0 0, .slice none 0 0, .bool false] 62)).cell? ⟨gb, 18, none⟩ = some (.int .u32 b14) := (Lib.cell_of_heap hb 18).trans (by simp [gatCells, hbl])
 have c19 : (w.alloc (.cells #[.int .u32 0, .slice none 0 0, .slice none 0 0, .bool false] 62)).cell? ⟨gb, 19, none⟩ = some (.int .u32 b15) := (Lib.cell_of_heap hb 19).trans (by simp [gatCells, hbl])
 have HA : Hid (∀ j (h : j < 16), (#[Value.int .u32 b0, Value.int .u32 b1, Value.int .u32 b2, Value.int .u32 b3, Value.int .u32 b4, Value.int .u32 b5, Value.int .u32 b6, Value.int .u32 b7, Value.int .u32 b8, Value.int .u32 b9, Value.int .u32 b10, Value.int .u32 b11, Value.int .u32 b12, Value.int .u32 b13, Value.int .u32 b14, Value.int .u32 b15] : Array Value)[j]? = some (.int .u32 (g.blocks[j]'(by rw [HG.out.n]; exact h)))) := by
  intro j hj; have e : (#[Value.int .u32 b0, Value.int .u32 b1, Value.int .u32 b2, Value.int .u32 b3, Value.int .u32 b4, Value.int .u32 b5, Value.int .u32 b6, Value.int .u32 b7, Value.int .u32 b8, Value.int .u32 b9, Value.int .u32 b10, Value.int .u32 b11, Value.int .u32 b12, Value.int .u32 b13, Value.int .u32 b14, Value.int .u32 b15] : Array Value) = (g.blocks.map (.int .u32)).toArray := by rw [hbl]; rfl
  rw [e]; simp
 have HBX := Lib.hid hb; clear hb; have HBL := Lib.hid hbl; clear hbl; go_enter Tryz.func161, Tryz.ntmps161; go_wp2; generalize (#[Value.int .u32 b0, Value.int .u32 b1, Value.int .u32 b2, Value.int .u32 b3, Value.int .u32 b4, Value.int .u32 b5, Value.int .u32 b6, Value.int .u32 b7, Value.int .u32 b8, Value.int .u32 b9, Value.int .u32 b10, Value.int .u32 b11, Value.int .u32 b12, Value.int .u32 b13, Value.int .u32 b14, Value.int .u32 b15] : Array Value) = A at *; clear c4 c5 c6 c7 c8 c9 c10 c11 c12 c13 c14 c15 c16 c17 c18 c19; have HRB : Hid ((w.alloc (.cells #[.int .u32 0, .slice none 0 0, .slice none 0 0, .bool false] 62)).heap[w.heap.size]? = some (.cells #[.int .u32 0, .slice none 0 0, .slice none 0 0, .bool false] 62 (0, 0))) := new_block w _; have HB0 : Hid (Below base w (w.alloc (.cells #[.int .u32 0, .slice none 0 0, .slice none 0 0, .bool false] 62))) := (alloc_old w _).mono hbase
 go_loopw [10] (fun v0 wr => ∃ (k : Nat) (xs : List (Int × Int)), v0 = .int .i64 k ∧ k ≤ 16 ∧ xs.length ≤ k ∧ GatX base gb g xs wr ∧ extsFrom 0 g.blocks = xs ++ extsFrom k (g.blocks.drop k) ∧ wr.heap[w.heap.size]? = some (.cells #[.int .u32 0, .slice none 0 0, .slice none 0 0, .bool false] 62 (0, 0)) ∧ Below base w wr) (fun v0 _ => 16 - (intOf v0).toNat)
 case atStart => exact ⟨0, [], by go_num, by omega, by simp, HX.out, by simp, HRB.out, HB0.out⟩
 case round =>
  obtain ⟨k, xs, rfl, hk, hxl, hX, hE, hR, hB⟩ := hrel; have HXK := Lib.hid hX; clear hX; obtain ⟨vek, vk, hbk, hek, hpk⟩ := HXK.out.bx; obtain ⟨pe, ce, rfl⟩ := own_shape hek; obtain ⟨pv, cv, rfl⟩ := own_shape hpk; have d0 : wr.cell? ⟨gb, 0, none⟩ = some (.int .u32 g.pages) := Lib.cell_of_heap hbk 0; have d1 : wr.cell? ⟨gb, 1, none⟩ = some (.slice pe xs.length ce) := Lib.cell_of_heap hbk 1; have d2 : wr.cell? ⟨gb, 2, none⟩ = some (.slice pv g.ports.length cv) := Lib.cell_of_heap hbk 2; have d3 : wr.cell? ⟨gb, 3, none⟩ = some (.bool g.cons) := Lib.cell_of_heap hbk 3; have fz : ∀ j, wr.frozen? ⟨gb, j, none⟩ = false := fun j => Lib.frozen_of_heap hbk _
  have HBK := Lib.hid hbk; clear hbk; have HEK := Lib.hid hek; clear hek; have HPK := Lib.hid hpk; clear hpk; have HE := Lib.hid hE; clear hE; have HR := Lib.hid hR; clear hR; have HB := Lib.hid hB; clear hB
  by_cases hlt : k < 16
  ·have hA := HA.out k hlt; have hkb : k < g.blocks.length := by rw [HG.out.n]; exact hlt
   have HD := Lib.hid (List.drop_eq_getElem_cons hkb); have hbb := HG.out.b g.blocks[k] (List.getElem_mem hkb); generalize g.blocks[k] = bk at hA HD hbb; have hix := run_index16 A k bk wr hlt hA
   by_cases hz : 0 < bk
   ·obtain ⟨iE, s0, s1, s2, s3⟩ := info_parts info_extent; have HI := Lib.hid (And.intro s0 (And.intro s1 (And.intro s2 s3))); clear s0 s1 s2 s3; have hltw : gb < wr.heap.size := HXK.out.lt; have hwk : IntKind.u32.wrap (k : Int) = k := by rw [IntKind.wrap_u32]; omega
    go_wp2_with (at_builtin; refine wpList_append_own_at _ rfl _ _ 59 rfl base 143 iE _ 2 8 Tryz.underlying59 HI.out.1 HI.out.2.1 HI.out.2.2.1 HI.out.2.2.2 rfl (by decide) _ xs.length (extCells xs) rfl ?c0 _ 1 1 [.int .u32 (k : Int), .int .u32 bk] rfl rfl ?c1 two_u32 ?c3 ?c4 ?c5 ?_)
    case c0 => exact HEK.out.alloc _
    case c1 => exact two_newsG (by simp [go_sem]) (by simp [go_sem])
    case c3 => unfold maxLen; omega
    case c4 => omega
    case c5 => have := HB.out.size; simp; omega
    intro v' w' hown3 hgrow3 _ hblk; obtain ⟨hX2, hb2, hfar⟩ := GatX.add (k := k) (bk := bk) HBK.out HEK.out HPK.out HXK.out.gle hown3 hgrow3; have HX2 := Lib.hid hX2; have HRN := Lib.hid (hfar _ _ _ HR.out (by decide) (by omega))
    have g1 : w'.cell? ⟨gb, 1, none⟩ = some (.slice pe xs.length ce) := Lib.cell_of_heap hb2 1; have g2 : w'.frozen? ⟨gb, 1, none⟩ = false := Lib.frozen_of_heap hb2 _; have hbw : base ≤ wr.heap.size := by have := HB.out.size; omega
    have HBN : Hid (Below base w (w'.setCell ⟨gb, 1, none⟩ v')) := (((HB.out.alloc hbw _).grown hgrow3 (by simp; omega) (fun q e => (World.ownsRow.lt HEK.out q e).1)).setCell (by exact HXK.out.gle) _)
    obtain ⟨pw, cw, rfl⟩ := own_shape hown3; clear hX2 hb2 hfar hown3 hgrow3 hblk; go_wp2; go_roundw
    case rel => exact ⟨k + 1, xs ++ [((k : Int), bk)], by go_num, by omega, by simp; omega, HX2.out, by rw [HE.out, HD.out, extsFrom, if_pos hz]; simp, HRN.out, HBN.out⟩
    case measure => simp [intOf]; omega
   ·go_wp2; go_roundw
    case rel => exact ⟨k + 1, xs, by go_num, by omega, by omega, HXK.out, by rw [HE.out, HD.out, extsFrom, if_neg hz], HR.out, HB.out⟩
    case measure => simp [intOf]; omega
  ·obtain rfl : k = 16 := by omega
   have hsort := h16 base _ wr HPK.out hl; go_wp2_with fail; refine hsort.mono ?_; rintro e w2 ⟨rfl, hU2, hK2⟩; have hgne : ¬ (Value.slice pv g.ports.length cv).ownBlock = some gb := own_ne_box HPK.out HBK.out (by decide)
   have hrne : ¬ (Value.slice pv g.ports.length cv).ownBlock = some w.heap.size := own_ne_box HPK.out HR.out (by decide)
   have hb2 := (hK2.block gb HXK.out.lt hgne).trans HBK.out; have hr2 := (hK2.block w.heap.size (Array.getElem?_eq_some_iff.1 HR.out).1 hrne).trans HR.out
   have he2 := hK2.owns HEK.out (fun q hq hs => by
    obtain ⟨c1, h1⟩ := own_type HEK.out hq; obtain ⟨c2, h2⟩ := own_type HPK.out hs; rw [h1] at h2; injection h2 with h3; injection h3 with _ h4 _; exact absurd h4 (by decide))
   have HB2 := Lib.hid hb2; have HR2 := Lib.hid hr2; have HE2 := Lib.hid he2; have HU2 := Lib.hid hU2; have HBW2 : Hid (Below base w w2) := HB.out.trans (hK2.below (by have := HB.out.size; omega) (fun q hq hs => by have := (World.ownsRow.lt HPK.out q hs).1; omega))
   have i2 : w2.cell? ⟨gb, 2, none⟩ = some (.slice pv g.ports.length cv) := Lib.cell_of_heap HB2.out 2; have j2 : w2.frozen? ⟨gb, 2, none⟩ = false := Lib.frozen_of_heap HB2.out _; have HC := Lib.hid (compact16_row base _ (sortI g.ports) w2 hU2 (by rw [sortI_length]; exact hl))
   clear hK2 hgne hrne hb2 hr2 he2 hU2 d0 d1 d2 d3 fz; go_wp2_with fail; refine HC.out.mono ?_; rintro e w3 ⟨v3, rfl, hU3, ho3, hK3⟩; have hsl : (sortI g.ports).length = g.ports.length := sortI_length _
   have hgne : ¬ (Value.slice pv g.ports.length cv).ownBlock = some gb := by
    have := own_ne_box HU2.out HB2.out (by decide); exact this
   have hrne : ¬ (Value.slice pv g.ports.length cv).ownBlock = some w.heap.size := own_ne_box HU2.out HR2.out (by decide)
   have hb3 := (hK3.block gb (Array.getElem?_eq_some_iff.1 HB2.out).1 hgne).trans HB2.out; have hr3 := (hK3.block w.heap.size (Array.getElem?_eq_some_iff.1 HR2.out).1 hrne).trans HR2.out
   have he3 := hK3.owns HE2.out (fun q hq hs => by
    obtain ⟨c1, h1⟩ := own_type HE2.out hq; obtain ⟨c2, h2⟩ := own_type HU2.out hs; rw [h1] at h2; injection h2 with h3; injection h3 with _ h4 _; exact absurd h4 (by decide))
   have HBW3 : Hid (Below base w w3) := HBW2.out.trans (hK3.below (by have := HBW2.out.size; omega) (fun q hq hs => by have := (World.ownsRow.lt HU2.out q hs).1; omega))
   obtain ⟨pq, cq, rfl⟩ := own_shape hU3; have k0 : w3.cell? ⟨gb, 0, none⟩ = some (.int .u32 g.pages) := Lib.cell_of_heap hb3 0; have k1 : w3.cell? ⟨gb, 1, none⟩ = some (.slice pe xs.length ce) := Lib.cell_of_heap hb3 1; have k2 : w3.cell? ⟨gb, 2, none⟩ = some (.slice pv g.ports.length cv) := Lib.cell_of_heap hb3 2; have k3 : w3.cell? ⟨gb, 3, none⟩ = some (.bool g.cons) := Lib.cell_of_heap hb3 3; have kz : ∀ j, w3.frozen? ⟨gb, j, none⟩ = false := fun j => Lib.frozen_of_heap hb3 _
   have q0 : w3.cell? ⟨w.heap.size, 0, none⟩ = some (.int .u32 0) := Lib.cell_of_heap hr3 0; have q1 : w3.cell? ⟨w.heap.size, 1, none⟩ = some (.slice none 0 0) := Lib.cell_of_heap hr3 1; have q2 : w3.cell? ⟨w.heap.size, 2, none⟩ = some (.slice none 0 0) := Lib.cell_of_heap hr3 2; have q3 : w3.cell? ⟨w.heap.size, 3, none⟩ = some (.bool false) := Lib.cell_of_heap hr3 3; have qz : ∀ j, w3.frozen? ⟨w.heap.size, j, none⟩ = false := fun j => Lib.frozen_of_heap hr3 _
   have hne : w.heap.size ≠ gb := by omega
   have hlt1 : gb < w3.heap.size := (Array.getElem?_eq_some_iff.1 hb3).1; have hlt2 : w.heap.size < w3.heap.size := (Array.getElem?_eq_some_iff.1 hr3).1; clear ho3 hK3 i2 j2; have HU3 := Lib.hid hU3; clear hU3; have HE3 := Lib.hid he3; clear he3; have HB3 := Lib.hid hb3; clear hb3; have HR3 := Lib.hid hr3; clear hr3; generalize hnl : (onceI (sortI g.ports)).length = nl
   by_cases hover : 16 < nl
   ·have HN := Lib.hid hnl; clear hnl; have hW := put4 (u0 := .int .u32 0) (u1 := .slice none 0 0) (u2 := .slice none 0 0) (u3 := .bool false) ((Below.heap_setCell w3 ⟨gb, 2, none⟩ (.slice pq nl cq) w.heap.size hne).trans HR3.out); have x0 := Lib.cell_of_heap hW 0; have x1 := Lib.cell_of_heap hW 1; have x2 := Lib.cell_of_heap hW 2; have x3 := Lib.cell_of_heap hW 3; have HX0 := Lib.hid (And.intro x0 (And.intro x1 (And.intro x2 x3))); clear hW x0 x1 x2 x3; go_wp2_with fail; obtain ⟨x0, x1, x2, x3⟩ := HX0.out; refine bodyPost_ret (v := .tuple #[.agg #[.int .u32 0, .slice none 0 0, .slice none 0 0, .bool false], .int .i64 4]) (by simp [results, Tryz.results161, go_sem, x0, x1, x2, x3]) rfl ?_
    have hge : gatEnd g = (man0, 4) := by
     unfold gatEnd gatMan; rw [if_pos (by show 16 < (onceI (sortI g.ports)).length; rw [HN.out]; exact hover)]
    rw [hge]; exact ⟨_, _, rfl, World.ownsRow_nil _ _ _ _, World.ownsRow_nil _ _ _ _, put4_below (HBW3.out.setCell (by exact HXK.out.gle) _) (by exact hbase)⟩
   ·have HN := Lib.hid hnl; clear hnl; have hW := put4 (u0 := .int .u32 g.pages) (u1 := .slice pe xs.length ce) (u2 := .slice pq nl cq) (u3 := .bool g.cons) ((Below.heap_setCell w3 ⟨gb, 2, none⟩ (.slice pq nl cq) w.heap.size hne).trans HR3.out); have x0 := Lib.cell_of_heap hW 0; have x1 := Lib.cell_of_heap hW 1; have x2 := Lib.cell_of_heap hW 2; have x3 := Lib.cell_of_heap hW 3; have HX0 := Lib.hid (And.intro x0 (And.intro x1 (And.intro x2 x3))); have hd : decide ((16 : Int) < (nl : Int)) = false := by simp; omega
    clear hW x0 x1 x2 x3; go_wp2_with fail; obtain ⟨x0, x1, x2, x3⟩ := HX0.out; refine bodyPost_ret (v := .tuple #[.agg #[.int .u32 g.pages, .slice pe xs.length ce, .slice pq nl cq, .bool g.cons], .int .i64 0]) (by simp [results, Tryz.results161, go_sem, x0, x1, x2, x3]) rfl ?_
    have hex : extsFrom 0 g.blocks = xs := by
     rw [HE.out, List.drop_of_length_le (by rw [HG.out.n]; omega)]; simp [extsFrom]
    have hge : gatEnd g = (⟨g.pages, xs, onceI (sortI g.ports), g.cons⟩, 0) := by
     unfold gatEnd gatMan; rw [if_neg (by show ¬ 16 < (onceI (sortI g.ports)).length; rw [HN.out]; exact hover), hex]
    rw [hge]; clear hge; obtain rfl := HN.out; have n1 : ¬ (Value.slice pe xs.length ce).ownBlock = some gb := own_ne_box HE3.out HB3.out (by decide)
    have n2 : ¬ (Value.slice pe xs.length ce).ownBlock = some w.heap.size := own_ne_box HE3.out HR3.out (by decide)
    have n3 : ¬ (Value.slice pq (onceI (sortI g.ports)).length cq).ownBlock = some gb := own_ne_box HU3.out HB3.out (by decide)
    have n4 : ¬ (Value.slice pq (onceI (sortI g.ports)).length cq).ownBlock = some w.heap.size := own_ne_box HU3.out HR3.out (by decide)
    have hfar : ∀ q, q ≠ gb → q ≠ w.heap.size → (((((w3.setCell ⟨gb, 2, none⟩ (.slice pq (onceI (sortI g.ports)).length cq)).setCell ⟨w.heap.size, 0, none⟩ (.int .u32 g.pages)).setCell ⟨w.heap.size, 1, none⟩ (.slice pe xs.length ce)).setCell ⟨w.heap.size, 2, none⟩ (.slice pq (onceI (sortI g.ports)).length cq)).setCell ⟨w.heap.size, 3, none⟩ (.bool g.cons)).heap[q]? = w3.heap[q]? := fun q h1 h2 =>
     (put4_other h2).trans (Below.heap_setCell _ _ _ _ h1)
    refine ⟨_, _, rfl, own_congr HE3.out fun q hq => hfar q (fun e => n1 (hq.trans (congrArg some e))) (fun e => n2 (hq.trans (congrArg some e))), ?_, put4_below (HBW3.out.setCell (by exact HXK.out.gle) _) (by exact hbase)⟩
    exact own_congr HU3.out fun q hq => hfar q (fun e => n3 (hq.trans (congrArg some e))) (fun e => n4 (hq.trans (congrArg some e)))
end
section
open Go.RowKit
theorem kept_valid {l : List GObj} {nm : ByteArray} {q : PP} {K : List PP} (h : KeptYes l nm q K) : ∀ x ∈ K, validP l x := fun x hx => ((h.2.2.1.2 x).1 hx).valid (findR_valid h.2.1)
theorem refsV_of {l : List GObj} {x : PP} (hc : (beginR l).2 = 0) (hv : validP l x) : refsV (beginR l) l x.1 x.2 = refsGo l x.1 [] (relsAt l x.1 x.2) := by
 have hh : hasR l x.1 x.2 = true := by
  obtain ⟨o, s, h1, h2⟩ := hv; have h3 := (List.getElem?_eq_some_iff.1 h2).1; unfold hasR; simp [h1, h3]
 unfold refsV; rw [if_neg (by simpa using hc), if_pos hh, Int.toNat_natCast, Int.toNat_natCast]
end
section
open Go.RowKit Go.Maps
theorem own_mono {w : World} {base b2 : Nat} {e : TypeId} {k : Nat} {v : Value} {n : Nat} {xs : List Value} (h : w.ownsRow base e k v n xs) (hb : b2 ≤ base) : w.ownsRow b2 e k v n xs := by
 refine ⟨h.1, ?_⟩; rcases h.2 with hn | ⟨g, cap, cur, rfl, hg, rest⟩
 ·exact .inl hn
 ·exact .inr ⟨g, cap, cur, rfl, Nat.le_trans hb hg, rest⟩
def gatL (l : List GNote) : Gat := l.foldl gatNote gat0
theorem gatL_snoc {l : List GNote} {k : Nat} {x : GNote} (h : k < l.length) (hx : l[k] = x) : gatL (l.take (k + 1)) = gatNote (gatL (l.take k)) x := by
 rw [List.take_succ_eq_append_getElem h, hx]; simp [gatL, List.foldl_append]
theorem gatF_ok : ∀ (l : List GNote) (g : Gat), GatOk g → l.all noteOk = true → (∀ x ∈ l, 0 ≤ x.n) → GatOk (l.foldl gatNote g) ∧ (l.foldl gatNote g).ports.length ≤ g.ports.length + l.length
 | [], g, hg, _, _ => ⟨hg, by simp⟩
 | x :: r, g, hg, h, h0 => by
   rw [List.all_cons, Bool.and_eq_true] at h; have h1 := gatF_ok r (gatNote g x) (gatNote_ok hg h.1 (h0 x (by simp))) h.2 (fun y hy => h0 y (by simp [hy]))
   have h2 := gatNote_len g x; refine ⟨h1.1, ?_⟩; have := h1.2; simp only [List.foldl_cons, List.length_cons]; omega
theorem gatL_ok {l : List GNote} (h : l.all noteOk = true) (h0 : ∀ x ∈ l, 0 ≤ x.n) : GatOk (gatL l) ∧ (gatL l).ports.length ≤ l.length := by
 have := gatF_ok l gat0 gat0_ok h h0; simpa [gatL, gat0] using this
theorem take_all {α : Type} {l : List α} (k : Nat) {q : α → Prop} (h : ∀ x ∈ l, q x) : ∀ x ∈ l.take k, q x := fun x hx => h x (List.mem_of_mem_take hx)
theorem demandR_no {l : List GNote} {k : Nat} {x : GNote} (h : k < l.length) (hx : l[k] = x) (hn : noteOk x = false) : demandR l = (man0, 2) := by
 have : l.all noteOk = false := by
  rw [List.all_eq_false]; exact ⟨x, by rw [← hx]; exact List.getElem_mem h, by simp [hn]⟩
 simp [demandR, this]
theorem gat_start (w : World) (b0 : Nat) (h : b0 ≤ w.heap.size) (o : Obj) (ho : o = .cells (gatCells gat0 (.slice none 0 0) (.slice none 0 0)).toArray 266) : GatSt b0 w.heap.size gat0 (w.alloc o) := by
 subst ho; exact ⟨⟨_, new_block w _, World.ownsRow_nil _ _ _ _⟩, h⟩
set_option maxHeartbeats 2000000 in
theorem demandOf_any (v : Value) (l : List GNote) (w : World) (h : RowAt 3 NoteR w v l) (hl : l.length ≤ 100000) (h16 : S16 (gatL l).ports) :
 Calls Tryz.prog 119 #[v] w (ManPost w.heap.size w (demandR l)) := by
 obtain ⟨p, cap, b, o, rfl, hcap, hmax, hp, hc⟩ := h; have HC := Lib.hid hc; clear hc; have HP := Lib.hid hp; clear hp; generalize hW : (w.alloc (.cells #[.int .u32 0, .slice none 0 0, .slice none 0 0, .bool false] 62)) = w1; have z1 : w1.heap.size = w.heap.size + 1 := by subst hW; simp
 have HB1 : Hid (Below w.heap.size w w1) := by subst hW; exact alloc_old w _
 have HR1 : Hid (w1.heap[w.heap.size]? = some (.cells #[.int .u32 0, .slice none 0 0, .slice none 0 0, .bool false] 62 (0, 0))) := by subst hW; exact new_block w _
 go_enter Tryz.func119, Tryz.ntmps119; go_wp2; try rw [hW]
 clear hW
 go_loopw [10] (fun v0 wr => ∃ k : Nat, v0 = .int .i64 k ∧ k ≤ l.length ∧ (l.take k).all noteOk = true ∧ GatSt (w.heap.size + 1) (w.heap.size + 1) (gatL (l.take k)) wr ∧ Below (w.heap.size + 1) w1 wr) (fun v0 _ => l.length - (intOf v0).toNat)
 case atStart => exact ⟨0, by go_num, Nat.zero_le _, rfl, by rw [← z1]; exact gat_start w1 _ (Nat.le_refl _) _ rfl, by rw [← z1]; exact alloc_old _ _⟩
 case round =>
  obtain ⟨k, rfl, hk, hall, hst, hB⟩ := hrel; have HA := Lib.hid hall; clear hall; have HST := Lib.hid hst; clear hst; have HB := Lib.hid hB; clear hB
  have hpos : Hid (∀ x ∈ l, 0 ≤ x.n) := by
   intro x hx; obtain ⟨i, hi, rfl⟩ := List.getElem_of_mem hx; exact (HC.out i hi).2.2.2.2.2.1.1
  have HGO := Lib.hid (gatL_ok HA.out (take_all k hpos.out)); have HR : Hid (wr.heap[w.heap.size]? = some (.cells #[.int .u32 0, .slice none 0 0, .slice none 0 0, .bool false] 62 (0, 0))) := (HB.out.block _ (by omega)).trans HR1.out
  have hzr : w.heap.size + 1 < wr.heap.size := HST.out.lt
  by_cases hlt : k < l.length
  ·obtain rfl := HP.out (by omega)
   have HBW : Hid (Below w.heap.size w wr) := HB1.out.trans (HB.out.mono (by omega))
   obtain ⟨g0, g1, g2, g3, g4, g5, g6⟩ := noteR_keeps _ _ _ _ _ HBW.out (HC.out k hlt); generalize hxk : l[k] = x at g1 g2 g3 g4 g5 g6; have HX := Lib.hid hxk; clear hxk; have HNT := Lib.hid (note_any x (wr.alloc (.cells #[.int .u8 x.kind, .int .u32 x.n, .int .u32 x.m] 155)) g4 g5 g6); have hz3 : wr.heap.size < (wr.alloc (.cells #[.int .u8 x.kind, .int .u32 x.n, .int .u32 x.m] 155)).heap.size := by simp
   go_wp2_with fail; refine HNT.out.mono ?_; rintro e w2 ⟨rfl, hB2⟩; cases hok : noteOk x with
   | false =>
     simp only [errB]; have HD := Lib.hid (demandR_no hlt HX.out hok); have hB2w : Below wr.heap.size wr w2 := (alloc_old wr _).trans (hB2.mono (by simp))
     have hr := (hB2w.block _ (by omega)).trans HR.out
     have r0 := Lib.cell_of_heap hr 0; have r1 := Lib.cell_of_heap hr 1; have r2 := Lib.cell_of_heap hr 2; have r3 := Lib.cell_of_heap hr 3; have rz : ∀ j, w2.frozen? ⟨w.heap.size, j, none⟩ = false := fun j => Lib.frozen_of_heap hr _
     have hW := put4 (u0 := .int .u32 0) (u1 := .slice none 0 0) (u2 := .slice none 0 0) (u3 := .bool false) hr; have x0 := Lib.cell_of_heap hW 0; have x1 := Lib.cell_of_heap hW 1; have x2 := Lib.cell_of_heap hW 2; have x3 := Lib.cell_of_heap hW 3; have HX0 := Lib.hid (And.intro x0 (And.intro x1 (And.intro x2 x3))); have HB2 : Hid (Below w.heap.size w w2) := HBW.out.trans (hB2w.mono HBW.out.size); clear hW x0 x1 x2 x3 hr hB2 hB2w g1 g2 g3; go_wp2; obtain ⟨x0, x1, x2, x3⟩ := HX0.out; refine bodyPost_ret (v := .tuple #[.agg #[.int .u32 0, .slice none 0 0, .slice none 0 0, .bool false], .int .i64 2]) (by simp [results, Tryz.results119, go_sem, x0, x1, x2, x3]) rfl ?_
     rw [HD.out]; exact ⟨_, _, rfl, World.ownsRow_nil _ _ _ _, World.ownsRow_nil _ _ _ _, put4_below HB2.out (Nat.le_refl _)⟩
   | true =>
     simp only [errB]; have hB2w : Below wr.heap.size wr w2 := (alloc_old wr _).trans (hB2.mono (by simp))
     have HS2 := Lib.hid (HST.out.below hB2w); have q0 := cell_keep hB2 (by simp) (show (wr.alloc (.cells #[.int .u8 x.kind, .int .u32 x.n, .int .u32 x.m] 155)).cell? ⟨wr.heap.size, 0, none⟩ = some (.int .u8 x.kind) by simp [go_sem])
     have q1 := cell_keep hB2 (by simp) (show (wr.alloc (.cells #[.int .u8 x.kind, .int .u32 x.n, .int .u32 x.m] 155)).cell? ⟨wr.heap.size, 1, none⟩ = some (.int .u32 x.n) by simp [go_sem])
     have q2 := cell_keep hB2 (by simp) (show (wr.alloc (.cells #[.int .u8 x.kind, .int .u32 x.n, .int .u32 x.m] 155)).cell? ⟨wr.heap.size, 2, none⟩ = some (.int .u32 x.m) by simp [go_sem])
     have HN := Lib.hid (gnote_any (w.heap.size + 1) (w.heap.size + 1) (gatL (l.take k)) x w2 HS2.out HGO.out.1 hok g5.1 (by have := HGO.out.2; simp at this; omega))
     have HB2 : Hid (Below (w.heap.size + 1) w1 w2) := HB.out.trans (hB2w.mono (by omega))
     clear hB2 hB2w g1 g2 g3; go_wp2_with fail; refine HN.out.mono ?_; rintro e w3 ⟨rfl, hs3, hB3⟩; have HS3 := Lib.hid hs3; have HB3 := Lib.hid hB3; clear hs3 hB3; go_wp2; go_roundw
     case rel => exact ⟨k + 1, by go_num, by omega, take_all_snoc hlt HX.out HA.out hok, by rw [gatL_snoc hlt HX.out]; exact HS3.out, HB2.out.trans HB3.out⟩
     case measure => simp [intOf]; omega
  ·have hke : l.take k = l := List.take_of_length_le (by omega)
   have HD : Hid (demandR l = gatEnd (gatL l)) := by
    have h1 := HA.out; rw [hke] at h1; simp [Hid, demandR, h1, gatL, gatAll]
   rw [hke] at HST HGO; have HM := Lib.hid (manif_any (w.heap.size + 1) (w.heap.size + 1) (gatL l) wr HST.out HGO.out.1 (by have := HGO.out.2; omega) h16 (by omega))
   go_wp2_with fail; refine HM.out.mono ?_; rintro e w2 ⟨ve, vp, rfl, ho, hu, hB2⟩; obtain ⟨pe, ce, rfl⟩ := own_shape ho; obtain ⟨pu, cu, rfl⟩ := own_shape hu; have hr := (hB2.block _ (by omega)).trans HR.out
   have r0 := Lib.cell_of_heap hr 0; have r1 := Lib.cell_of_heap hr 1; have r2 := Lib.cell_of_heap hr 2; have r3 := Lib.cell_of_heap hr 3; have rz : ∀ j, w2.frozen? ⟨w.heap.size, j, none⟩ = false := fun j => Lib.frozen_of_heap hr _
   have HO := Lib.hid ho; have HU := Lib.hid hu; have HB2 : Hid (Below w.heap.size w w2) := (HB1.out.trans (HB.out.mono (by omega))).trans (hB2.mono (by omega))
   clear hB2 ho hu; generalize hge : gatEnd (gatL l) = R at *; obtain ⟨⟨rp, re, rq, rc⟩, rn⟩ := R; simp only [] at *; have HD2 : Hid (demandR l = (⟨rp, re, rq, rc⟩, rn)) := HD.out; have hW := put4 (u0 := .int .u32 rp) (u1 := .slice pe re.length ce) (u2 := .slice pu rq.length cu) (u3 := .bool rc) hr; have x0 := Lib.cell_of_heap hW 0; have x1 := Lib.cell_of_heap hW 1; have x2 := Lib.cell_of_heap hW 2; have x3 := Lib.cell_of_heap hW 3; have HX0 := Lib.hid (And.intro x0 (And.intro x1 (And.intro x2 x3))); clear hW x0 x1 x2 x3 hr; go_wp2; obtain ⟨x0, x1, x2, x3⟩ := HX0.out; refine bodyPost_ret (v := .tuple #[.agg #[.int .u32 rp, .slice pe re.length ce, .slice pu rq.length cu, .bool rc], .int .i64 rn]) (by simp [results, Tryz.results119, go_sem, x0, x1, x2, x3]) rfl ?_
   rw [HD2.out]; refine ⟨_, _, rfl, own_mono (own_congr HO.out fun q hq => put4_other fun e => ?_) (Nat.le_succ _), own_mono (own_congr HU.out fun q hq => put4_other fun e => ?_) (Nat.le_succ _), put4_below HB2.out (Nat.le_refl _)⟩
   ·have := (HO.out.lt q hq).1; omega
   ·have := (World.ownsRow.lt HU.out q hq).1; omega
end
section
open Go.Shelf Go.Sort Go.RowKit
def sort_u16_ren : Go.Shelf.Ren := ⟨fun | 5 => 208 | 7 => 230 | 8 => 105 | 10 => 239 | 11 => 240 | 12 => 241 | 13 => 242 | 14 => 243 | 15 => 244 | 16 => 245 | 17 => 246 | 18 => 247 | 19 => 141 | 20 => 142 | 30 => 251 | 31 => 188 | 32 => 189 | 33 => 252 | 34 => 253 | 35 => 254 | 40 => 259 | n => n, fun | 0 => 0 | 3 => 3 | 4 => 4 | 5 => 5 | 9 => 9 | 22 => 60 | 23 => 60 | 25 => 144 | 32 => 182 | 35 => 229 | 36 => 230 | 41 => 234 | 44 => 51 | 46 => 214 | 53 => 289 | 57 => 293 | 63 => 328 | 64 => 329 | n => n, fun | n => n⟩
theorem sort_u16_lays : LaysU .u16 Tryz.prog sort_u16_ren := {
 mixed := by kernel_rfl
 f5 := ⟨Tryz.f208.name, by decide, Tryz.func208.trans (congrArg some (by kernel_rfl))⟩
 f7 := ⟨Tryz.f230.name, by decide, Tryz.func230.trans (congrArg some (by kernel_rfl))⟩
 f8 := Tryz.func105.trans (congrArg some (by kernel_rfl))
 f10 := ⟨Tryz.f239.name, by decide, Tryz.func239.trans (congrArg some (by kernel_rfl))⟩
 f11 := ⟨Tryz.f240.name, by decide, Tryz.func240.trans (congrArg some (by kernel_rfl))⟩
 f12 := ⟨Tryz.f241.name, by decide, Tryz.func241.trans (congrArg some (by kernel_rfl))⟩
 f13 := ⟨Tryz.f242.name, by decide, Tryz.func242.trans (congrArg some (by kernel_rfl))⟩
 f14 := ⟨Tryz.f243.name, by decide, Tryz.func243.trans (congrArg some (by kernel_rfl))⟩
 f15 := ⟨Tryz.f244.name, by decide, Tryz.func244.trans (congrArg some (by kernel_rfl))⟩
 f16 := ⟨Tryz.f245.name, by decide, Tryz.func245.trans (congrArg some (by kernel_rfl))⟩
 f17 := ⟨Tryz.f246.name, by decide, Tryz.func246.trans (congrArg some (by kernel_rfl))⟩
 f18 := ⟨Tryz.f247.name, by decide, Tryz.func247.trans (congrArg some (by kernel_rfl))⟩
 f19 := Tryz.func141.trans (congrArg some (by kernel_rfl))
 f20 := Tryz.func142.trans (congrArg some (by kernel_rfl))
 f30 := ⟨Tryz.f251.name, by decide, Tryz.func251.trans (congrArg some (by kernel_rfl))⟩
 f31 := Tryz.func188.trans (congrArg some (by kernel_rfl))
 f32 := Tryz.func189.trans (congrArg some (by kernel_rfl))
 f33 := ⟨Tryz.f252.name, by decide, Tryz.func252.trans (congrArg some (by kernel_rfl))⟩
 f34 := ⟨Tryz.f253.name, by decide, Tryz.func253.trans (congrArg some (by kernel_rfl))⟩
 f35 := ⟨Tryz.f254.name, by decide, Tryz.func254.trans (congrArg some (by kernel_rfl))⟩
 f40 := ⟨Tryz.f259.name, by decide, Tryz.func259.trans (congrArg some (by kernel_rfl))⟩
 t0 := Tryz.underlying0
 a0 := Tryz.isAgg0
 z0 := Tryz.sizeOf0
 v0 := Tryz.zeroValue0
 t3 := Tryz.underlying3
 a3 := Tryz.isAgg3
 z3 := Tryz.sizeOf3
 v3 := Tryz.zeroValue3
 t4 := Tryz.underlying4
 a4 := Tryz.isAgg4
 z4 := Tryz.sizeOf4
 v4 := Tryz.zeroValue4
 t5 := Tryz.underlying5
 a5 := Tryz.isAgg5
 z5 := Tryz.sizeOf5
 v5 := Tryz.zeroValue5
 t9 := Tryz.underlying9
 a9 := Tryz.isAgg9
 z9 := Tryz.sizeOf9
 v9 := Tryz.zeroValue9
 t22 := Tryz.underlying60
 a22 := Tryz.isAgg60
 z22 := Tryz.sizeOf60
 v22 := Tryz.zeroValue60
 t23 := Tryz.underlying60
 a23 := Tryz.isAgg60
 z23 := Tryz.sizeOf60
 v23 := Tryz.zeroValue60
 t25 := Tryz.underlying144
 a25 := Tryz.isAgg144
 z25 := Tryz.sizeOf144
 v25 := Tryz.zeroValue144
 t32 := Tryz.underlying182
 a32 := Tryz.isAgg182
 z32 := Tryz.sizeOf182
 v32 := Tryz.zeroValue182
 t35 := Tryz.underlying229
 a35 := Tryz.isAgg229
 z35 := Tryz.sizeOf229
 v35 := Tryz.zeroValue229
 t36 := Tryz.underlying230
 a36 := Tryz.isAgg230
 z36 := Tryz.sizeOf230
 v36 := Tryz.zeroValue230
 t41 := Tryz.underlying234
 a41 := Tryz.isAgg234
 z41 := Tryz.sizeOf234
 v41 := Tryz.zeroValue234
 t44 := Tryz.underlying51
 a44 := Tryz.isAgg51
 z44 := Tryz.sizeOf51
 v44 := Tryz.zeroValue51
 t46 := Tryz.underlying214
 a46 := Tryz.isAgg214
 z46 := Tryz.sizeOf214
 v46 := Tryz.zeroValue214
 t53 := Tryz.underlying289
 a53 := Tryz.isAgg289
 z53 := Tryz.sizeOf289
 v53 := Tryz.zeroValue289
 t57 := Tryz.underlying293
 a57 := Tryz.isAgg293
 z57 := Tryz.sizeOf293
 v57 := Tryz.zeroValue293
 t63 := Tryz.underlying328
 a63 := Tryz.isAgg328
 z63 := Tryz.sizeOf328
 v63 := Tryz.zeroValue328
 t64 := Tryz.underlying329
 a64 := Tryz.isAgg329
 z64 := Tryz.sizeOf329
 v64 := Tryz.zeroValue329
}
theorem sort_u16_any (blk off cap : Nat) (zs : List Int) (w : World) (hH : Holds (Value.int .u16) w blk off zs.toArray) (hblk : blk < w.heap.size) (hsz : zs.length < 4611686018427387904) :
 Calls Tryz.prog 208 #[.slice (some ⟨blk, off, none⟩) zs.length cap] w fun e w' =>
  e = .returned (.tuple #[]) ∧ ∃ n os, w' = grow (putRow (Value.int .u16) (Sort.ahead w n) blk off (zs.mergeSort fun x y => decide (x ≤ y)).toArray) os :=
 sortU_any sort_u16_lays blk off cap zs w hH hblk hsz
theorem sort_u16_none (p : Option Addr) (cap : Nat) (w : World) : Calls Tryz.prog 208 #[.slice p 0 cap] w fun e w' => e = .returned (.tuple #[]) ∧ w' = w :=
 sortU_none sort_u16_lays p cap w
end
section
open Go.RowKit Go.Sort Go.Lib
theorem s16_all (l : List Int) : S16 l := fun base v w h hl => by
 by_cases h0 : l.length = 0
 ·obtain ⟨p, c, rfl⟩ := own_shape h; obtain rfl : l = [] := List.eq_nil_of_length_eq_zero h0; refine (sort_u16_none p c w).mono ?_; rintro e w' ⟨rfl, rfl⟩; exact ⟨rfl, by simpa [sortI] using h, KB.refl _ _⟩
 ·obtain ⟨g, cap, rfl, hbg, hgl⟩ := World.ownsRow.form h (by omega)
  refine (sort_u16_any g 0 cap l w h.holds hgl (by omega)).mono ?_
  rintro e w' ⟨rfl, n, os, rfl⟩; have hp := URow.put (n := n) (os := os) h (sortI_length l) (l' := sortI l) (by rw [List.take_length])
  rw [sortI_length] at hp; exact ⟨rfl, hp, putRow_kb⟩
end
end Go.Proofs.YtboegjdkedjhcaaGreatDoor
