/- The walks of the gatherer of manifests (demand). -/
import Derived.Test.YtboegjdkedjhcaaGreatDoorBs07
import Derived.Test.YtboegjdkedjhcaaGreatDoorBs11
import Derived.Test.YtboegjdkedjhcaaGreatDoorBs06
import Derived.Test.YtboegjdkedjhcaaGreatDoorBs04
import Derived.Deep.RegionHeld3
namespace Go.Proofs.YtboegjdkedjhcaaGreatDoor
open Go.RowKit Go.Maps
def gatCells (g : Gat) (ve v : Value) : List Value := .int .u32 g.pages :: ve :: v :: .bool g.cons :: g.blocks.map (.int .u32)
structure GatSt (base gb : Nat) (g : Gat) (w : World) : Prop where
 bx : ∃ v, w.heap[gb]? = some (.cells (gatCells g (.slice none 0 0) v).toArray 266 (0, 0)) ∧ w.ownsRow base 144 1 v g.ports.length (g.ports.map (.int .u16))
 gle : base ≤ gb
theorem gatCells_block {g : Gat} {ve v : Value} {j : Nat} (h : j < g.blocks.length) : (gatCells g ve v).toArray[4 + j]? = some (.int .u32 g.blocks[j]) := by
 simp [gatCells, show 4 + j = j + 1 + 1 + 1 + 1 by omega, h]
theorem info_u16 : (Tryz.prog.info? 144).map (fun i => (i.zero, i.size, i.bytes)) = some (some (.int .u16 0), 1, 2) := by kernel_rfl
theorem one_news {w : World} {g : Nat} {a : Value} (h0 : w.cell? ⟨g, 0, none⟩ = some a) : ∀ j u, [a][j]? = some u → w.cell? ((⟨g, 0, none⟩ : Addr).add j) = some u := by
 intro j u hu
 match j, hu with
 | 0, hu => simp at hu; subst hu; simpa [Addr.add] using h0
theorem one_one' {n : Int} : ∀ u ∈ [Value.int .u16 n], u.oneCell' = true := by
 intro u hu; simp at hu; subst hu; rfl
theorem GatSt.lt {base gb : Nat} {g : Gat} {w : World} (h : GatSt base gb g w) : gb < w.heap.size := by
 obtain ⟨v, hb, -⟩ := h.bx; exact (Array.getElem?_eq_some_iff.1 hb).1
theorem GatSt.below {base gb : Nat} {g : Gat} {w w' : World} (h : GatSt base gb g w) (hb : Below w.heap.size w w') : GatSt base gb g w' := by
 obtain ⟨v, h1, h2⟩ := h.bx; exact ⟨⟨v, (hb.block _ h.lt).trans h1, own_congr h2 fun k hk => hb.block k (h2.lt k hk).2⟩, h.gle⟩
theorem GatSt.put {base gb : Nat} {g g' : Gat} {w : World} (h : GatSt base gb g w) (i : Nat) (u : Value) (hc : ∀ ve v, (gatCells g ve v).set i u = gatCells g' ve v) (hp : g'.ports = g.ports) : GatSt base gb g' (w.setCell ⟨gb, i, none⟩ u) := by
 obtain ⟨v, h1, h2⟩ := h.bx; refine ⟨⟨v, ?_, ?_⟩, h.gle⟩
 ·rw [heap_setCell_same _ _ _ _ _ _ h1, ← hc]; simp
 ·rw [hp]; exact own_congr h2 fun k hk => Below.heap_setCell _ _ _ _ (fun e => own_ne_box h2 h1 (by decide) (hk.trans (congrArg some e)))
theorem below_put {base gb i : Nat} {w : World} {u : Value} {o : Obj} (h : base ≤ gb) (hb : gb < w.heap.size) : Below base w ((w.setCell ⟨gb, i, none⟩ u).alloc o) :=
 ((Below.refl base w).setCell (by exact h) u).trans ((alloc_old _ o).mono (by simp; omega))
set_option maxHeartbeats 1000000 in
set_option maxRecDepth 100000 in
theorem gnote_any (base gb : Nat) (g : Gat) (x : GNote) (w : World) (h : GatSt base gb g w) (hg : GatOk g) (hx : noteOk x = true) (h0 : 0 ≤ x.n) (hl : g.ports.length ≤ 100000) :
 Calls Tryz.prog 160 #[.pointer (some ⟨gb, 0, none⟩), .agg #[.int .u8 x.kind, .int .u32 x.n, .int .u32 x.m]] w fun e w' =>
  e = .returned (.tuple #[]) ∧ GatSt base gb (gatNote g x) w' ∧ Below base w w' := by
 obtain ⟨v, hb, ho⟩ := h.bx; have hgl := h.gle; have hlt : gb < w.heap.size := (Array.getElem?_eq_some_iff.1 hb).1; obtain ⟨pv, cv, rfl⟩ := own_shape ho; have c0 : w.cell? ⟨gb, 0, none⟩ = some (.int .u32 g.pages) := Lib.cell_of_heap hb 0; have c2 : w.cell? ⟨gb, 2, none⟩ = some (.slice pv g.ports.length cv) := Lib.cell_of_heap hb 2; have c3 : w.cell? ⟨gb, 3, none⟩ = some (.bool g.cons) := Lib.cell_of_heap hb 3; have fz : ∀ j, w.frozen? ⟨gb, j, none⟩ = false := fun j => Lib.frozen_of_heap hb _
 have HB := Lib.hid hb; clear hb; have HO := Lib.hid ho; clear ho; have HG := Lib.hid hg; clear hg; obtain ⟨k, n, m⟩ := x; rcases noteOk_kinds hx with ⟨e, h1, h2⟩ | ⟨e, h1, h2, h3⟩ | ⟨e, h1, h2, h3⟩ | ⟨e, h1, h2⟩
 ·simp only [] at e h1 h2 h0 ⊢; subst e; go_enter Tryz.func160, Tryz.ntmps160; go_wp2
  go_region
  all_goals go_wp2_with fail
  go_end0; have hst : GatSt base gb (gatNote g ⟨1, n, m⟩) (w.setCell ⟨gb, 0, none⟩ (.int .u32 (max g.pages n))) := h.put 0 _ (fun ve v => by simp [gatCells, gatNote]) (by simp [gatNote])
  exact ⟨rfl, (hst.below (alloc_old _ _)).below (Below.refl _ _).drew, (below_put hgl hlt).drew⟩
 ·simp only [] at e h1 h2 h3 h0 ⊢; subst e; obtain ⟨n, rfl⟩ : ∃ k : Nat, n = k := ⟨n.toNat, by omega⟩
  have hn : n < g.blocks.length := by rw [HG.out.n]; omega
  have c4 : w.cell? ⟨gb, 4 + n, none⟩ = some (.int .u32 g.blocks[n]) := (Lib.cell_of_heap HB.out (4 + n)).trans (gatCells_block hn)
  have hset : (gatNote g ⟨2, n, m⟩) = { g with blocks := g.blocks.set n (max g.blocks[n] m) } := by
   simp [gatNote, hn]
  have HSET := Lib.hid hset; clear hset; go_enter Tryz.func160, Tryz.ntmps160; go_wp2
  go_region
  all_goals go_wp2_with fail
  go_end0
  have hst : GatSt base gb (gatNote g ⟨2, n, m⟩) (w.setCell ⟨gb, 4 + n, none⟩ (.int .u32 (max g.blocks[n] m))) := by
   rw [HSET.out]; exact h.put (4 + n) _ (fun ve v => by simp [gatCells, show 4 + n = n + 1 + 1 + 1 + 1 by omega]) rfl
  exact ⟨rfl, (hst.below (alloc_old _ _)).below (Below.refl _ _).drew, (below_put hgl hlt).drew⟩
 ·simp only [] at e h1 h2 h3 h0 ⊢; subst e; obtain rfl := h3; obtain ⟨i16, s0, s1, s2, s3⟩ := info_parts info_u16; have HI := Lib.hid (And.intro s0 (And.intro s1 (And.intro s2 s3))); clear s0 s1 s2 s3; have hcv : IntKind.u16.wrap n = n := by rw [IntKind.wrap_u16]; omega
  go_enter Tryz.func160, Tryz.ntmps160; go_wp2; have hB0 := alloc_old w (.cells #[.int .u8 3, .int .u32 n, .int .u32 0] 155); have b1 : (w.alloc (.cells #[.int .u8 3, .int .u32 n, .int .u32 0] 155)).cell? ⟨w.heap.size, 1, none⟩ = some (.int .u32 n) := by simp [go_sem]
  have hz : (w.alloc (.cells #[.int .u8 3, .int .u32 n, .int .u32 0] 155)).heap.size = w.heap.size + 1 := by simp
  have HS := Lib.hid (h.below hB0); clear h; generalize w.alloc (.cells #[.int .u8 3, .int .u32 n, .int .u32 0] 155) = wb at *; obtain ⟨v9, hb9, ho9⟩ := HS.out.bx
  obtain rfl : v9 = .slice pv g.ports.length cv := by
   have e1 : wb.cell? ⟨gb, 2, none⟩ = some v9 := Lib.cell_of_heap hb9 2; have e2 : wb.cell? ⟨gb, 2, none⟩ = some (.slice pv g.ports.length cv) := cell_keep hB0 hlt c2; rw [e1] at e2; exact Option.some.inj e2
  have HB0 : Hid (Below w.heap.size w wb) := hB0; clear hB0; have HB9 := Lib.hid hb9; have f2 : wb.frozen? ⟨gb, 2, none⟩ = false := Lib.frozen_of_heap hb9 _; have d2 : wb.cell? ⟨gb, 2, none⟩ = some (.slice pv g.ports.length cv) := Lib.cell_of_heap hb9 2; have hlt9 : gb < wb.heap.size := by omega
  have HOWN : Hid ((wb.alloc (.cells #[.int .u16 n] 144)).drew.ownsRow base 144 1 (.slice pv g.ports.length cv) g.ports.length (g.ports.map (.int .u16))) := (ho9.alloc _).drew; clear ho9 hb9 c0 c2 c3 HO HB
  go_region_law ((refine step_append_own_at rfl (.tmp 45) (.tmp 49) 60 rfl base 144 i16 _ 1 2 Tryz.underlying60 HI.out.1 HI.out.2.1 HI.out.2.2.1 HI.out.2.2.2 rfl (by decide) (.slice pv g.ports.length cv) g.ports.length (g.ports.map (.int .u16)) (by simp [Act.eval]) HOWN.out ⟨wb.heap.size, 0, none⟩ 1 1 [.int .u16 n] (by simp [Act.eval]) rfl (one_news (by simp [go_sem])) one_one' (by unfold maxLen; omega) (by omega) (by simp; omega) ?_; intro v' w5 hown hgrow hv; obtain ⟨pw, cw, rfl⟩ := own_shape hown; have HGR := Lib.hid (And.intro hown (And.intro hgrow hv)); have hb5 : w5.heap[gb]? = some (.cells (gatCells g (.slice none 0 0) (.slice pv g.ports.length cv)).toArray 266 (0, 0)) := (hgrow.block gb (by simp; omega) (fun e => own_ne_box HOWN.out ((Below.heap_alloc wb _ gb hlt9).trans HB9.out) (by decide) e.symm)).trans ((Below.heap_alloc wb _ gb hlt9).trans HB9.out); have e1 : w5.cell? ⟨gb, 2, none⟩ = some (.slice pv g.ports.length cv) := Lib.cell_of_heap hb5 2; have e2 : w5.frozen? ⟨gb, 2, none⟩ = false := Lib.frozen_of_heap hb5 _; have HB5 := Lib.hid hb5; clear hown hgrow hv hb5))
  all_goals
   go_wp2_with fail; go_end0; have hle : base ≤ wb.heap.size := by omega
   refine ⟨rfl, ⟨⟨.slice pw (g.ports.length + 1) cw, ?_, ?_⟩, hgl⟩, ?_⟩
   ·rw [heap_setCell_same _ _ _ _ _ _ HB5.out]; simp [gatCells, gatNote]
   ·have hw := own_congr (w' := w5.setCell ⟨gb, 2, none⟩ (.slice pw (g.ports.length + 1) cw)) HGR.out.1 fun k hk => Below.heap_setCell _ _ _ _ (fun e => own_ne_box HGR.out.1 HB5.out (by decide) (hk.trans (congrArg some e)))
    simpa [gatNote] using hw
   ·exact ((((HB0.out.mono (by omega)).alloc hle _).drew).grown HGR.out.2.1 (by simp; omega) (fun q e => (World.ownsRow.lt HOWN.out q e).1)).setCell (by exact hgl) _
 ·simp only [] at e h1 h2 h0 ⊢; subst e; go_enter Tryz.func160, Tryz.ntmps160; go_wp2; go_end0; have hst : GatSt base gb (gatNote g ⟨4, n, m⟩) (w.setCell ⟨gb, 3, none⟩ (.bool true)) := h.put 3 _ (fun ve v => by simp [gatCells, gatNote]) (by simp [gatNote])
  exact ⟨rfl, hst.below (alloc_old _ _), below_put hgl hlt⟩
end Go.Proofs.YtboegjdkedjhcaaGreatDoor
