/- The walks of the gatherer of manifests (demand). The walk of the gatherer's manifest (demand). -/
import Derived.Test.YtboegjdkedjhcaaGreatDoorBd12
import Derived.Test.YtboegjdkedjhcaaGreatDoorBd06
import Derived.Test.YtboegjdkedjhcaaGreatDoorBd07
import Derived.Test.YtboegjdkedjhcaaGreatDoorBd04
import Derived.Test.YtboegjdkedjhcaaGreatDoorBd03
import Derived.Deep.RegionHeld3
import Derived.Test.YtboegjdkedjhcaaGreatDoorBd16
namespace Go.Proofs.YtboegjdkedjhcaaGreatDoor
open Go.RowKit Go.Maps
def gatCells (g : Gat) (ve v : Value) : List Value := .int .u32 g.pages :: ve :: v :: .bool g.cons :: g.blocks.map (.int .u32)
structure GatSt (base gb : Nat) (g : Gat) (w : World) : Prop where
  bx : ∃ v, w.heap[gb]? = some (.cells (gatCells g (.slice none 0 0) v).toArray 266 (0, 0)) ∧ w.ownsRow base 144 1 v g.ports.length (g.ports.map (.int .u16))
  gle : base ≤ gb
theorem gatCells_block {g : Gat} {ve v : Value} {j : Nat} (h : j < g.blocks.length) : (gatCells g ve v).toArray[4 + j]? = some (.int .u32 g.blocks[j]) := by
  simp [gatCells, show 4 + j = j + 1 + 1 + 1 + 1 by omega, h]
theorem info_u16 : (Tryz.prog.info? 144).map (fun i => (i.zero, i.size, i.bytes)) = some (some (.int .u16 0), 1, 2) := by kernel_rfl
theorem one_news {w : World} {g : Nat} {a : Value} (h0 : w.cell? ⟨g, 0, none⟩ = some a) : ∀ j u, [a][j]? = some u → w.cell? ((⟨g, 0, none⟩ : Addr).add j) = some u := by
  intro j u hu
  match j, hu with
  | 0, hu => simp at hu; subst hu; simpa [Addr.add] using h0
theorem one_one' {n : Int} : ∀ u ∈ [Value.int .u16 n], u.oneCell' = true := by
  intro u hu
  simp at hu; subst hu; rfl
theorem GatSt.lt {base gb : Nat} {g : Gat} {w : World} (h : GatSt base gb g w) : gb < w.heap.size := by
  obtain ⟨v, hb, -⟩ := h.bx; exact (Array.getElem?_eq_some_iff.1 hb).1
theorem GatSt.below {base gb : Nat} {g : Gat} {w w' : World} (h : GatSt base gb g w) (hb : Below w.heap.size w w') : GatSt base gb g w' := by
  obtain ⟨v, h1, h2⟩ := h.bx
  exact ⟨⟨v, (hb.block _ h.lt).trans h1, own_congr h2 fun k hk => hb.block k (h2.lt k hk).2⟩, h.gle⟩
theorem GatSt.put {base gb : Nat} {g g' : Gat} {w : World} (h : GatSt base gb g w) (i : Nat) (u : Value) (hc : ∀ ve v, (gatCells g ve v).set i u = gatCells g' ve v) (hp : g'.ports = g.ports) : GatSt base gb g' (w.setCell ⟨gb, i, none⟩ u) := by
  obtain ⟨v, h1, h2⟩ := h.bx
  refine ⟨⟨v, ?_, ?_⟩, h.gle⟩
  · rw [heap_setCell_same _ _ _ _ _ _ h1, ← hc]
    simp
  · rw [hp]
    exact own_congr h2 fun k hk => Below.heap_setCell _ _ _ _ (fun e => own_ne_box h2 h1 (by decide) (hk.trans (congrArg some e)))
theorem below_put {base gb i : Nat} {w : World} {u : Value} {o : Obj} (h : base ≤ gb) (hb : gb < w.heap.size) : Below base w ((w.setCell ⟨gb, i, none⟩ u).alloc o) :=
  ((Below.refl base w).setCell (by exact h) u).trans ((alloc_old _ o).mono (by simp; omega))
set_option maxHeartbeats 1000000 in
set_option maxRecDepth 100000 in
theorem gnote_any (base gb : Nat) (g : Gat) (x : GNote) (w : World) (h : GatSt base gb g w) (hg : GatOk g) (hx : noteOk x = true) (h0 : 0 ≤ x.n) (hl : g.ports.length ≤ 100000) :
    Calls Tryz.prog 160 #[.pointer (some ⟨gb, 0, none⟩), .agg #[.int .u8 x.kind, .int .u32 x.n, .int .u32 x.m]] w fun e w' =>
      e = .returned (.tuple #[]) ∧ GatSt base gb (gatNote g x) w' ∧ Below base w w' := by
  obtain ⟨v, hb, ho⟩ := h.bx
  have hgl := h.gle
  have hlt : gb < w.heap.size := (Array.getElem?_eq_some_iff.1 hb).1
  obtain ⟨pv, cv, rfl⟩ := own_shape ho
  have c0 : w.cell? ⟨gb, 0, none⟩ = some (.int .u32 g.pages) := Lib.cell_of_heap hb 0
  have c2 : w.cell? ⟨gb, 2, none⟩ = some (.slice pv g.ports.length cv) := Lib.cell_of_heap hb 2
  have c3 : w.cell? ⟨gb, 3, none⟩ = some (.bool g.cons) := Lib.cell_of_heap hb 3
  have fz : ∀ j, w.frozen? ⟨gb, j, none⟩ = false := fun j => Lib.frozen_of_heap hb _
  have HB := Lib.hid hb; clear hb
  have HO := Lib.hid ho; clear ho
  have HG := Lib.hid hg; clear hg
  obtain ⟨k, n, m⟩ := x
  rcases noteOk_kinds hx with ⟨e, h1, h2⟩ | ⟨e, h1, h2, h3⟩ | ⟨e, h1, h2, h3⟩ | ⟨e, h1, h2⟩
  · simp only [] at e h1 h2 h0 ⊢
    subst e
    go_enter Tryz.func160, Tryz.ntmps160
    go_wp2
    go_region
    all_goals go_wp2_with fail
    go_end0
    have hst : GatSt base gb (gatNote g ⟨1, n, m⟩) (w.setCell ⟨gb, 0, none⟩ (.int .u32 (max g.pages n))) := h.put 0 _ (fun ve v => by simp [gatCells, gatNote]) (by simp [gatNote])
    exact ⟨rfl, (hst.below (alloc_old _ _)).below (Below.refl _ _).drew, (below_put hgl hlt).drew⟩
  · simp only [] at e h1 h2 h3 h0 ⊢
    subst e
    obtain ⟨n, rfl⟩ : ∃ k : Nat, n = k := ⟨n.toNat, by omega⟩
    have hn : n < g.blocks.length := by rw [HG.out.n]; omega
    have c4 : w.cell? ⟨gb, 4 + n, none⟩ = some (.int .u32 g.blocks[n]) := (Lib.cell_of_heap HB.out (4 + n)).trans (gatCells_block hn)
    have hset : (gatNote g ⟨2, n, m⟩) = { g with blocks := g.blocks.set n (max g.blocks[n] m) } := by
      simp [gatNote, hn]
    have HSET := Lib.hid hset; clear hset
    go_enter Tryz.func160, Tryz.ntmps160
    go_wp2
    go_region
    all_goals go_wp2_with fail
    go_end0
    have hst : GatSt base gb (gatNote g ⟨2, n, m⟩) (w.setCell ⟨gb, 4 + n, none⟩ (.int .u32 (max g.blocks[n] m))) := by
      rw [HSET.out]
      exact h.put (4 + n) _ (fun ve v => by simp [gatCells, show 4 + n = n + 1 + 1 + 1 + 1 by omega]) rfl
    exact ⟨rfl, (hst.below (alloc_old _ _)).below (Below.refl _ _).drew, (below_put hgl hlt).drew⟩
  · simp only [] at e h1 h2 h3 h0 ⊢
    subst e
    obtain rfl := h3
    obtain ⟨i16, s0, s1, s2, s3⟩ := info_parts info_u16
    have HI := Lib.hid (And.intro s0 (And.intro s1 (And.intro s2 s3)))
    clear s0 s1 s2 s3
    have hcv : IntKind.u16.wrap n = n := by rw [IntKind.wrap_u16]; omega
    go_enter Tryz.func160, Tryz.ntmps160
    go_wp2
    have hB0 := alloc_old w (.cells #[.int .u8 3, .int .u32 n, .int .u32 0] 155)
    have b1 : (w.alloc (.cells #[.int .u8 3, .int .u32 n, .int .u32 0] 155)).cell? ⟨w.heap.size, 1, none⟩ = some (.int .u32 n) := by simp [go_sem]
    have hz : (w.alloc (.cells #[.int .u8 3, .int .u32 n, .int .u32 0] 155)).heap.size = w.heap.size + 1 := by simp
    have HS := Lib.hid (h.below hB0); clear h
    generalize w.alloc (.cells #[.int .u8 3, .int .u32 n, .int .u32 0] 155) = wb at *
    obtain ⟨v9, hb9, ho9⟩ := HS.out.bx
    obtain rfl : v9 = .slice pv g.ports.length cv := by
      have e1 : wb.cell? ⟨gb, 2, none⟩ = some v9 := Lib.cell_of_heap hb9 2
      have e2 : wb.cell? ⟨gb, 2, none⟩ = some (.slice pv g.ports.length cv) := cell_keep hB0 hlt c2
      rw [e1] at e2; exact Option.some.inj e2
    have HB0 : Hid (Below w.heap.size w wb) := hB0; clear hB0
    have HB9 := Lib.hid hb9
    have f2 : wb.frozen? ⟨gb, 2, none⟩ = false := Lib.frozen_of_heap hb9 _
    have d2 : wb.cell? ⟨gb, 2, none⟩ = some (.slice pv g.ports.length cv) := Lib.cell_of_heap hb9 2
    have hlt9 : gb < wb.heap.size := by omega
    have HOWN : Hid ((wb.alloc (.cells #[.int .u16 n] 144)).drew.ownsRow base 144 1 (.slice pv g.ports.length cv) g.ports.length (g.ports.map (.int .u16))) := (ho9.alloc _).drew
    clear ho9 hb9 c0 c2 c3 HO HB
    go_region_law ((refine step_append_own_at rfl (.tmp 45) (.tmp 49) 60 rfl base 144 i16 _ 1 2 Tryz.underlying60 HI.out.1 HI.out.2.1 HI.out.2.2.1 HI.out.2.2.2 rfl (by decide) (.slice pv g.ports.length cv) g.ports.length (g.ports.map (.int .u16)) (by simp [Act.eval]) HOWN.out ⟨wb.heap.size, 0, none⟩ 1 1 [.int .u16 n] (by simp [Act.eval]) rfl (one_news (by simp [go_sem])) one_one' (by unfold maxLen; omega) (by omega) (by simp; omega) ?_; intro v' w5 hown hgrow hv; obtain ⟨pw, cw, rfl⟩ := own_shape hown; have HGR := Lib.hid (And.intro hown (And.intro hgrow hv)); have hb5 : w5.heap[gb]? = some (.cells (gatCells g (.slice none 0 0) (.slice pv g.ports.length cv)).toArray 266 (0, 0)) := (hgrow.block gb (by simp; omega) (fun e => own_ne_box HOWN.out ((Below.heap_alloc wb _ gb hlt9).trans HB9.out) (by decide) e.symm)).trans ((Below.heap_alloc wb _ gb hlt9).trans HB9.out); have e1 : w5.cell? ⟨gb, 2, none⟩ = some (.slice pv g.ports.length cv) := Lib.cell_of_heap hb5 2; have e2 : w5.frozen? ⟨gb, 2, none⟩ = false := Lib.frozen_of_heap hb5 _; have HB5 := Lib.hid hb5; clear hown hgrow hv hb5))
    all_goals
      go_wp2_with fail
      go_end0
      have hle : base ≤ wb.heap.size := by omega
      refine ⟨rfl, ⟨⟨.slice pw (g.ports.length + 1) cw, ?_, ?_⟩, hgl⟩, ?_⟩
      · rw [heap_setCell_same _ _ _ _ _ _ HB5.out]
        simp [gatCells, gatNote]
      · have hw := own_congr (w' := w5.setCell ⟨gb, 2, none⟩ (.slice pw (g.ports.length + 1) cw)) HGR.out.1 fun k hk => Below.heap_setCell _ _ _ _ (fun e => own_ne_box HGR.out.1 HB5.out (by decide) (hk.trans (congrArg some e)))
        simpa [gatNote] using hw
      · exact ((((HB0.out.mono (by omega)).alloc hle _).drew).grown HGR.out.2.1 (by simp; omega) (fun q e => (World.ownsRow.lt HOWN.out q e).1)).setCell (by exact hgl) _
  · simp only [] at e h1 h2 h0 ⊢
    subst e
    go_enter Tryz.func160, Tryz.ntmps160
    go_wp2
    go_end0
    have hst : GatSt base gb (gatNote g ⟨4, n, m⟩) (w.setCell ⟨gb, 3, none⟩ (.bool true)) := h.put 3 _ (fun ve v => by simp [gatCells, gatNote]) (by simp [gatNote])
    exact ⟨rfl, hst.below (alloc_old _ _), below_put hgl hlt⟩
end Go.Proofs.YtboegjdkedjhcaaGreatDoor
namespace Go.Proofs.YtboegjdkedjhcaaGreatDoor
open Go.RowKit Go.Maps
def extCells (xs : List (Int × Int)) : List Value := xs.flatMap fun x => [.int .u32 x.1, .int .u32 x.2]
structure GatX (base gb : Nat) (g : Gat) (xs : List (Int × Int)) (w : World) : Prop where
  bx : ∃ ve v, w.heap[gb]? = some (.cells (gatCells g ve v).toArray 266 (0, 0)) ∧ w.ownsRow base 143 2 ve xs.length (extCells xs) ∧ w.ownsRow base 144 1 v g.ports.length (g.ports.map (.int .u16))
  gle : base ≤ gb
def ManPost (base : Nat) (w : World) (r : GMan × Int) (e : Ending) (w' : World) : Prop :=
  ∃ ve vp, e = .returned (.tuple #[.agg #[.int .u32 r.1.pages, ve, vp, .bool r.1.cons], .int .i64 r.2]) ∧ w'.ownsRow base 143 2 ve r.1.exts.length (extCells r.1.exts) ∧ URow .u16 144 base w' vp r.1.ports ∧ Below base w w'
theorem GatSt.x {base gb : Nat} {g : Gat} {w : World} (h : GatSt base gb g w) : GatX base gb g [] w := by
  obtain ⟨v, h1, h2⟩ := h.bx
  exact ⟨⟨_, v, h1, World.ownsRow_nil _ _ _ _, h2⟩, h.gle⟩
theorem GatX.lt {base gb : Nat} {g : Gat} {xs : List (Int × Int)} {w : World} (h : GatX base gb g xs w) : gb < w.heap.size := by
  obtain ⟨ve, v, hb, -⟩ := h.bx; exact (Array.getElem?_eq_some_iff.1 hb).1
theorem info_extent : (Tryz.prog.info? 143).map (fun i => (i.zero, i.size, i.bytes)) = some (some (.agg #[.int .u32 0, .int .u32 0]), 2, 8) := by kernel_rfl
theorem run_index16 (A : Array Value) (k : Nat) (x : Int) (w : World) (hk : k < 16) (hA : A[k]? = some (.int .u32 x)) :
    (Instr.index 264 (.agg A) (.int .i64 (k : Int))).run Tryz.prog w = .ok (.int .u32 x) w := by
  have h16 : (0 : Int) ≤ (k : Int) ∧ (k : Int) < ((16 : Nat) : Int) := by omega
  simp [Instr.index, run_underlying Tryz.underlying264, asIntOf, h16, part, hA, Tryz.sizeOf51, Tryz.isAgg51, go_sem]
  intro h
  omega
theorem two_newsG {w : World} {g : Nat} {a b : Value} (h0 : w.cell? ⟨g, 0, none⟩ = some a) (h1 : w.cell? ⟨g, 1, none⟩ = some b) : ∀ j u, [a, b][j]? = some u → w.cell? ((⟨g, 0, none⟩ : Addr).add j) = some u := by
  intro j u hu
  match j, hu with
  | 0, hu => simp at hu; subst hu; simpa [Addr.add] using h0
  | 1, hu => simp at hu; subst hu; simpa [Addr.add] using h1
theorem two_u32 {a b : Int} : ∀ u ∈ [Value.int .u32 a, Value.int .u32 b], u.oneCell' = true := by
  intro u hu
  simp at hu
  rcases hu with rfl | rfl <;> rfl
theorem GatX.add {base gb k : Nat} {g : Gat} {xs : List (Int × Int)} {w w' : World} {ve v v' : Value} {o : Obj} {bk : Int} (hb : w.heap[gb]? = some (.cells (gatCells g ve v).toArray 266 (0, 0))) (he : w.ownsRow base 143 2 ve xs.length (extCells xs)) (hp : w.ownsRow base 144 1 v g.ports.length (g.ports.map (.int .u16))) (hgl : base ≤ gb)
    (hown : w'.ownsRow base 143 2 v' (xs.length + 1) (extCells xs ++ [.int .u32 (k : Int), .int .u32 bk])) (hg : (w.alloc o).grownBy w' ve.ownBlock) :
    GatX base gb g (xs ++ [((k : Int), bk)]) (w'.setCell ⟨gb, 1, none⟩ v') ∧ w'.heap[gb]? = some (.cells (gatCells g ve v).toArray 266 (0, 0)) ∧
      ∀ (q : Nat) (cs : Array Value) (t : TypeId), w.heap[q]? = some (.cells cs t (0, 0)) → t ≠ 143 → q ≠ gb → (w'.setCell ⟨gb, 1, none⟩ v').heap[q]? = some (.cells cs t (0, 0)) := by
  have far : ∀ (q : Nat) (cs : Array Value) (t : TypeId), w.heap[q]? = some (.cells cs t (0, 0)) → t ≠ 143 → w'.heap[q]? = some (.cells cs t (0, 0)) := by
    intro q cs t hq ht
    have hlt := (Array.getElem?_eq_some_iff.1 hq).1
    have hq2 := (Below.heap_alloc w o q hlt).trans hq
    exact (hg.block q (by simp; omega) (fun e => own_ne_box he hq (fun e2 => ht e2.symm) e.symm)).trans hq2
  have hb' := far gb _ _ hb (by decide)
  refine ⟨⟨⟨v', v, ?_, ?_, ?_⟩, hgl⟩, hb', ?_⟩
  · rw [heap_setCell_same _ _ _ _ _ _ hb']
    simp [gatCells]
  · have e1 : extCells (xs ++ [((k : Int), bk)]) = extCells xs ++ [.int .u32 (k : Int), .int .u32 bk] := by simp [extCells]
    rw [e1, List.length_append]
    exact own_congr hown fun q hq => Below.heap_setCell _ _ _ _ (fun e => own_ne_box hown hb' (by decide) (hq.trans (congrArg some e)))
  · refine own_congr hp fun q hq => ?_
    obtain ⟨cur, hc⟩ := own_type hp hq
    have hne : q ≠ gb := fun e => by
      rw [e, hb] at hc
      injection hc with h2; injection h2 with _ h3 _; exact absurd h3 (by decide)
    rw [Below.heap_setCell _ _ _ _ hne, far q _ _ hc (by decide), hc]
  · intro q cs t hq ht hne
    rw [Below.heap_setCell _ _ _ _ hne]
    exact far q cs t hq ht
theorem put4 {w : World} {b : Nat} {a0 a1 a2 a3 u0 u1 u2 u3 : Value} {T : TypeId} (h : w.heap[b]? = some (.cells #[a0, a1, a2, a3] T (0, 0))) :
    ((((w.setCell ⟨b, 0, none⟩ u0).setCell ⟨b, 1, none⟩ u1).setCell ⟨b, 2, none⟩ u2).setCell ⟨b, 3, none⟩ u3).heap[b]? = some (.cells #[u0, u1, u2, u3] T (0, 0)) :=
  heap_setCell_same _ b 3 _ _ u3 (heap_setCell_same _ b 2 _ _ u2 (heap_setCell_same _ b 1 _ _ u1 (heap_setCell_same _ b 0 _ _ u0 h)))
theorem put4_other {w : World} {b q : Nat} {u0 u1 u2 u3 : Value} (h : q ≠ b) : ((((w.setCell ⟨b, 0, none⟩ u0).setCell ⟨b, 1, none⟩ u1).setCell ⟨b, 2, none⟩ u2).setCell ⟨b, 3, none⟩ u3).heap[q]? = w.heap[q]? := by
  rw [Below.heap_setCell _ _ _ _ h, Below.heap_setCell _ _ _ _ h, Below.heap_setCell _ _ _ _ h, Below.heap_setCell _ _ _ _ h]
theorem put4_below {w0 w : World} {b B : Nat} {u0 u1 u2 u3 : Value} (h : Below B w0 w) (hb : B ≤ b) : Below B w0 ((((w.setCell ⟨b, 0, none⟩ u0).setCell ⟨b, 1, none⟩ u1).setCell ⟨b, 2, none⟩ u2).setCell ⟨b, 3, none⟩ u3) :=
  (((h.setCell (by exact hb) u0).setCell (by exact hb) u1).setCell (by exact hb) u2).setCell (by exact hb) u3
theorem new_block (w : World) (o : Obj) : (w.alloc o).heap[w.heap.size]? = some o := by
  show (w.heap.push o)[w.heap.size]? = _
  exact Array.getElem?_push_size
theorem sixteen {l : List Int} (h : l.length = 16) : ∃ b0 b1 b2 b3 b4 b5 b6 b7 b8 b9 b10 b11 b12 b13 b14 b15 : Int, l = [b0, b1, b2, b3, b4, b5, b6, b7, b8, b9, b10, b11, b12, b13, b14, b15] := by
  match l, h with
  | [b0, b1, b2, b3, b4, b5, b6, b7, b8, b9, b10, b11, b12, b13, b14, b15], _ => exact ⟨_, _, _, _, _, _, _, _, _, _, _, _, _, _, _, _, rfl⟩
set_option maxHeartbeats 2000000 in
set_option maxRecDepth 100000 in
theorem manif_any (base gb : Nat) (g : Gat) (w : World) (h : GatSt base gb g w) (hg : GatOk g) (hl : g.ports.length ≤ 100000) (h16 : S16 g.ports) (hbase : base ≤ w.heap.size) :
    Calls Tryz.prog 161 #[.pointer (some ⟨gb, 0, none⟩)] w (ManPost base w (gatEnd g)) := by
  have HX := Lib.hid (h.below (alloc_old w (.cells #[.int .u32 0, .slice none 0 0, .slice none 0 0, .bool false] 62))).x
  have hgw := h.lt
  clear h
  have HG := Lib.hid hg; clear hg
  obtain ⟨b0, b1, b2, b3, b4, b5, b6, b7, b8, b9, b10, b11, b12, b13, b14, b15, hbl⟩ := sixteen HG.out.n
  obtain ⟨ve, v, hb, -, -⟩ := HX.out.bx
  have c4 : (w.alloc (.cells #[.int .u32 0, .slice none 0 0, .slice none 0 0, .bool false] 62)).cell? ⟨gb, 4, none⟩ = some (.int .u32 b0) := (Lib.cell_of_heap hb 4).trans (by simp [gatCells, hbl])
  have c5 : (w.alloc (.cells #[.int .u32 0, .slice none 0 0, .slice none 0 0, .bool false] 62)).cell? ⟨gb, 5, none⟩ = some (.int .u32 b1) := (Lib.cell_of_heap hb 5).trans (by simp [gatCells, hbl])
  have c6 : (w.alloc (.cells #[.int .u32 0, .slice none 0 0, .slice none 0 0, .bool false] 62)).cell? ⟨gb, 6, none⟩ = some (.int .u32 b2) := (Lib.cell_of_heap hb 6).trans (by simp [gatCells, hbl])
  have c7 : (w.alloc (.cells #[.int .u32 0, .slice none 0 0, .slice none 0 0, .bool false] 62)).cell? ⟨gb, 7, none⟩ = some (.int .u32 b3) := (Lib.cell_of_heap hb 7).trans (by simp [gatCells, hbl])
  have c8 : (w.alloc (.cells #[.int .u32 0, .slice none 0 0, .slice none 0 0, .bool false] 62)).cell? ⟨gb, 8, none⟩ = some (.int .u32 b4) := (Lib.cell_of_heap hb 8).trans (by simp [gatCells, hbl])
  have c9 : (w.alloc (.cells #[.int .u32 0, .slice none 0 0, .slice none 0 0, .bool false] 62)).cell? ⟨gb, 9, none⟩ = some (.int .u32 b5) := (Lib.cell_of_heap hb 9).trans (by simp [gatCells, hbl])
  have c10 : (w.alloc (.cells #[.int .u32 0, .slice none 0 0, .slice none 0 0, .bool false] 62)).cell? ⟨gb, 10, none⟩ = some (.int .u32 b6) := (Lib.cell_of_heap hb 10).trans (by simp [gatCells, hbl])
  have c11 : (w.alloc (.cells #[.int .u32 0, .slice none 0 0, .slice none 0 0, .bool false] 62)).cell? ⟨gb, 11, none⟩ = some (.int .u32 b7) := (Lib.cell_of_heap hb 11).trans (by simp [gatCells, hbl])
  have c12 : (w.alloc (.cells #[.int .u32 0, .slice none 0 0, .slice none 0 0, .bool false] 62)).cell? ⟨gb, 12, none⟩ = some (.int .u32 b8) := (Lib.cell_of_heap hb 12).trans (by simp [gatCells, hbl])
  have c13 : (w.alloc (.cells #[.int .u32 0, .slice none 0 0, .slice none 0 0, .bool false] 62)).cell? ⟨gb, 13, none⟩ = some (.int .u32 b9) := (Lib.cell_of_heap hb 13).trans (by simp [gatCells, hbl])
  have c14 : (w.alloc (.cells #[.int .u32 0, .slice none 0 0, .slice none 0 0, .bool false] 62)).cell? ⟨gb, 14, none⟩ = some (.int .u32 b10) := (Lib.cell_of_heap hb 14).trans (by simp [gatCells, hbl])
  have c15 : (w.alloc (.cells #[.int .u32 0, .slice none 0 0, .slice none 0 0, .bool false] 62)).cell? ⟨gb, 15, none⟩ = some (.int .u32 b11) := (Lib.cell_of_heap hb 15).trans (by simp [gatCells, hbl])
  have c16 : (w.alloc (.cells #[.int .u32 0, .slice none 0 0, .slice none 0 0, .bool false] 62)).cell? ⟨gb, 16, none⟩ = some (.int .u32 b12) := (Lib.cell_of_heap hb 16).trans (by simp [gatCells, hbl])
  have c17 : (w.alloc (.cells #[.int .u32 0, .slice none 0 0, .slice none 0 0, .bool false] 62)).cell? ⟨gb, 17, none⟩ = some (.int .u32 b13) := (Lib.cell_of_heap hb 17).trans (by simp [gatCells, hbl])
  have c18 : (w.alloc (.cells #[.int .u32 0, .slice none 0 0, .slice none 0 0, .bool false] 62)).cell? ⟨gb, 18, none⟩ = some (.int .u32 b14) := (Lib.cell_of_heap hb 18).trans (by simp [gatCells, hbl])
  have c19 : (w.alloc (.cells #[.int .u32 0, .slice none 0 0, .slice none 0 0, .bool false] 62)).cell? ⟨gb, 19, none⟩ = some (.int .u32 b15) := (Lib.cell_of_heap hb 19).trans (by simp [gatCells, hbl])
  have HA : Hid (∀ j (h : j < 16), (#[Value.int .u32 b0, Value.int .u32 b1, Value.int .u32 b2, Value.int .u32 b3, Value.int .u32 b4, Value.int .u32 b5, Value.int .u32 b6, Value.int .u32 b7, Value.int .u32 b8, Value.int .u32 b9, Value.int .u32 b10, Value.int .u32 b11, Value.int .u32 b12, Value.int .u32 b13, Value.int .u32 b14, Value.int .u32 b15] : Array Value)[j]? = some (.int .u32 (g.blocks[j]'(by rw [HG.out.n]; exact h)))) := by
    intro j hj
    have e : (#[Value.int .u32 b0, Value.int .u32 b1, Value.int .u32 b2, Value.int .u32 b3, Value.int .u32 b4, Value.int .u32 b5, Value.int .u32 b6, Value.int .u32 b7, Value.int .u32 b8, Value.int .u32 b9, Value.int .u32 b10, Value.int .u32 b11, Value.int .u32 b12, Value.int .u32 b13, Value.int .u32 b14, Value.int .u32 b15] : Array Value) = (g.blocks.map (.int .u32)).toArray := by rw [hbl]; rfl
    rw [e]
    simp
  have HBX := Lib.hid hb; clear hb
  have HBL := Lib.hid hbl; clear hbl
  go_enter Tryz.func161, Tryz.ntmps161
  go_wp2
  generalize (#[Value.int .u32 b0, Value.int .u32 b1, Value.int .u32 b2, Value.int .u32 b3, Value.int .u32 b4, Value.int .u32 b5, Value.int .u32 b6, Value.int .u32 b7, Value.int .u32 b8, Value.int .u32 b9, Value.int .u32 b10, Value.int .u32 b11, Value.int .u32 b12, Value.int .u32 b13, Value.int .u32 b14, Value.int .u32 b15] : Array Value) = A at *
  clear c4 c5 c6 c7 c8 c9 c10 c11 c12 c13 c14 c15 c16 c17 c18 c19
  have HRB : Hid ((w.alloc (.cells #[.int .u32 0, .slice none 0 0, .slice none 0 0, .bool false] 62)).heap[w.heap.size]? = some (.cells #[.int .u32 0, .slice none 0 0, .slice none 0 0, .bool false] 62 (0, 0))) := new_block w _
  have HB0 : Hid (Below base w (w.alloc (.cells #[.int .u32 0, .slice none 0 0, .slice none 0 0, .bool false] 62))) := (alloc_old w _).mono hbase
  go_loopw [10] (fun v0 wr => ∃ (k : Nat) (xs : List (Int × Int)), v0 = .int .i64 k ∧ k ≤ 16 ∧ xs.length ≤ k ∧ GatX base gb g xs wr ∧ extsFrom 0 g.blocks = xs ++ extsFrom k (g.blocks.drop k) ∧ wr.heap[w.heap.size]? = some (.cells #[.int .u32 0, .slice none 0 0, .slice none 0 0, .bool false] 62 (0, 0)) ∧ Below base w wr) (fun v0 _ => 16 - (intOf v0).toNat)
  case atStart => exact ⟨0, [], by go_num, by omega, by simp, HX.out, by simp, HRB.out, HB0.out⟩
  case round =>
    obtain ⟨k, xs, rfl, hk, hxl, hX, hE, hR, hB⟩ := hrel
    have HXK := Lib.hid hX; clear hX
    obtain ⟨vek, vk, hbk, hek, hpk⟩ := HXK.out.bx
    obtain ⟨pe, ce, rfl⟩ := own_shape hek
    obtain ⟨pv, cv, rfl⟩ := own_shape hpk
    have d0 : wr.cell? ⟨gb, 0, none⟩ = some (.int .u32 g.pages) := Lib.cell_of_heap hbk 0
    have d1 : wr.cell? ⟨gb, 1, none⟩ = some (.slice pe xs.length ce) := Lib.cell_of_heap hbk 1
    have d2 : wr.cell? ⟨gb, 2, none⟩ = some (.slice pv g.ports.length cv) := Lib.cell_of_heap hbk 2
    have d3 : wr.cell? ⟨gb, 3, none⟩ = some (.bool g.cons) := Lib.cell_of_heap hbk 3
    have fz : ∀ j, wr.frozen? ⟨gb, j, none⟩ = false := fun j => Lib.frozen_of_heap hbk _
    have HBK := Lib.hid hbk; clear hbk
    have HEK := Lib.hid hek; clear hek
    have HPK := Lib.hid hpk; clear hpk
    have HE := Lib.hid hE; clear hE
    have HR := Lib.hid hR; clear hR
    have HB := Lib.hid hB; clear hB
    by_cases hlt : k < 16
    · have hA := HA.out k hlt
      have hkb : k < g.blocks.length := by rw [HG.out.n]; exact hlt
      have HD := Lib.hid (List.drop_eq_getElem_cons hkb)
      have hbb := HG.out.b g.blocks[k] (List.getElem_mem hkb)
      generalize g.blocks[k] = bk at hA HD hbb
      have hix := run_index16 A k bk wr hlt hA
      by_cases hz : 0 < bk
      · obtain ⟨iE, s0, s1, s2, s3⟩ := info_parts info_extent
        have HI := Lib.hid (And.intro s0 (And.intro s1 (And.intro s2 s3)))
        clear s0 s1 s2 s3
        have hltw : gb < wr.heap.size := HXK.out.lt
        have hwk : IntKind.u32.wrap (k : Int) = k := by rw [IntKind.wrap_u32]; omega
        go_wp2_with (at_builtin; refine wpList_append_own_at _ rfl _ _ 59 rfl base 143 iE _ 2 8 Tryz.underlying59 HI.out.1 HI.out.2.1 HI.out.2.2.1 HI.out.2.2.2 rfl (by decide) _ xs.length (extCells xs) rfl ?c0 _ 1 1 [.int .u32 (k : Int), .int .u32 bk] rfl rfl ?c1 two_u32 ?c3 ?c4 ?c5 ?_)
        case c0 => exact HEK.out.alloc _
        case c1 => exact two_newsG (by simp [go_sem]) (by simp [go_sem])
        case c3 => unfold maxLen; omega
        case c4 => omega
        case c5 => have := HB.out.size; simp; omega
        intro v' w' hown3 hgrow3 _ hblk
        obtain ⟨hX2, hb2, hfar⟩ := GatX.add (k := k) (bk := bk) HBK.out HEK.out HPK.out HXK.out.gle hown3 hgrow3
        have HX2 := Lib.hid hX2
        have HRN := Lib.hid (hfar _ _ _ HR.out (by decide) (by omega))
        have g1 : w'.cell? ⟨gb, 1, none⟩ = some (.slice pe xs.length ce) := Lib.cell_of_heap hb2 1
        have g2 : w'.frozen? ⟨gb, 1, none⟩ = false := Lib.frozen_of_heap hb2 _
        have hbw : base ≤ wr.heap.size := by have := HB.out.size; omega
        have HBN : Hid (Below base w (w'.setCell ⟨gb, 1, none⟩ v')) := (((HB.out.alloc hbw _).grown hgrow3 (by simp; omega) (fun q e => (World.ownsRow.lt HEK.out q e).1)).setCell (by exact HXK.out.gle) _)
        obtain ⟨pw, cw, rfl⟩ := own_shape hown3
        clear hX2 hb2 hfar hown3 hgrow3 hblk
        go_wp2
        go_roundw
        case rel => exact ⟨k + 1, xs ++ [((k : Int), bk)], by go_num, by omega, by simp; omega, HX2.out, by rw [HE.out, HD.out, extsFrom, if_pos hz]; simp, HRN.out, HBN.out⟩
        case measure => simp [intOf]; omega
      · go_wp2
        go_roundw
        case rel => exact ⟨k + 1, xs, by go_num, by omega, by omega, HXK.out, by rw [HE.out, HD.out, extsFrom, if_neg hz], HR.out, HB.out⟩
        case measure => simp [intOf]; omega
    · obtain rfl : k = 16 := by omega
      have hsort := h16 base _ wr HPK.out hl
      go_wp2_with fail
      refine hsort.mono ?_
      rintro e w2 ⟨rfl, hU2, hK2⟩
      have hgne : ¬ (Value.slice pv g.ports.length cv).ownBlock = some gb := own_ne_box HPK.out HBK.out (by decide)
      have hrne : ¬ (Value.slice pv g.ports.length cv).ownBlock = some w.heap.size := own_ne_box HPK.out HR.out (by decide)
      have hb2 := (hK2.block gb HXK.out.lt hgne).trans HBK.out
      have hr2 := (hK2.block w.heap.size (Array.getElem?_eq_some_iff.1 HR.out).1 hrne).trans HR.out
      have he2 := hK2.owns HEK.out (fun q hq hs => by
        obtain ⟨c1, h1⟩ := own_type HEK.out hq
        obtain ⟨c2, h2⟩ := own_type HPK.out hs
        rw [h1] at h2
        injection h2 with h3; injection h3 with _ h4 _; exact absurd h4 (by decide))
      have HB2 := Lib.hid hb2
      have HR2 := Lib.hid hr2
      have HE2 := Lib.hid he2
      have HU2 := Lib.hid hU2
      have HBW2 : Hid (Below base w w2) := HB.out.trans (hK2.below (by have := HB.out.size; omega) (fun q hq hs => by have := (World.ownsRow.lt HPK.out q hs).1; omega))
      have i2 : w2.cell? ⟨gb, 2, none⟩ = some (.slice pv g.ports.length cv) := Lib.cell_of_heap HB2.out 2
      have j2 : w2.frozen? ⟨gb, 2, none⟩ = false := Lib.frozen_of_heap HB2.out _
      have HC := Lib.hid (compact16_row base _ (sortI g.ports) w2 hU2 (by rw [sortI_length]; exact hl))
      clear hK2 hgne hrne hb2 hr2 he2 hU2 d0 d1 d2 d3 fz
      go_wp2_with fail
      refine HC.out.mono ?_
      rintro e w3 ⟨v3, rfl, hU3, ho3, hK3⟩
      have hsl : (sortI g.ports).length = g.ports.length := sortI_length _
      have hgne : ¬ (Value.slice pv g.ports.length cv).ownBlock = some gb := by
        have := own_ne_box HU2.out HB2.out (by decide); exact this
      have hrne : ¬ (Value.slice pv g.ports.length cv).ownBlock = some w.heap.size := own_ne_box HU2.out HR2.out (by decide)
      have hb3 := (hK3.block gb (Array.getElem?_eq_some_iff.1 HB2.out).1 hgne).trans HB2.out
      have hr3 := (hK3.block w.heap.size (Array.getElem?_eq_some_iff.1 HR2.out).1 hrne).trans HR2.out
      have he3 := hK3.owns HE2.out (fun q hq hs => by
        obtain ⟨c1, h1⟩ := own_type HE2.out hq
        obtain ⟨c2, h2⟩ := own_type HU2.out hs
        rw [h1] at h2
        injection h2 with h3; injection h3 with _ h4 _; exact absurd h4 (by decide))
      have HBW3 : Hid (Below base w w3) := HBW2.out.trans (hK3.below (by have := HBW2.out.size; omega) (fun q hq hs => by have := (World.ownsRow.lt HU2.out q hs).1; omega))
      obtain ⟨pq, cq, rfl⟩ := own_shape hU3
      have k0 : w3.cell? ⟨gb, 0, none⟩ = some (.int .u32 g.pages) := Lib.cell_of_heap hb3 0
      have k1 : w3.cell? ⟨gb, 1, none⟩ = some (.slice pe xs.length ce) := Lib.cell_of_heap hb3 1
      have k2 : w3.cell? ⟨gb, 2, none⟩ = some (.slice pv g.ports.length cv) := Lib.cell_of_heap hb3 2
      have k3 : w3.cell? ⟨gb, 3, none⟩ = some (.bool g.cons) := Lib.cell_of_heap hb3 3
      have kz : ∀ j, w3.frozen? ⟨gb, j, none⟩ = false := fun j => Lib.frozen_of_heap hb3 _
      have q0 : w3.cell? ⟨w.heap.size, 0, none⟩ = some (.int .u32 0) := Lib.cell_of_heap hr3 0
      have q1 : w3.cell? ⟨w.heap.size, 1, none⟩ = some (.slice none 0 0) := Lib.cell_of_heap hr3 1
      have q2 : w3.cell? ⟨w.heap.size, 2, none⟩ = some (.slice none 0 0) := Lib.cell_of_heap hr3 2
      have q3 : w3.cell? ⟨w.heap.size, 3, none⟩ = some (.bool false) := Lib.cell_of_heap hr3 3
      have qz : ∀ j, w3.frozen? ⟨w.heap.size, j, none⟩ = false := fun j => Lib.frozen_of_heap hr3 _
      have hne : w.heap.size ≠ gb := by omega
      have hlt1 : gb < w3.heap.size := (Array.getElem?_eq_some_iff.1 hb3).1
      have hlt2 : w.heap.size < w3.heap.size := (Array.getElem?_eq_some_iff.1 hr3).1
      clear ho3 hK3 i2 j2
      have HU3 := Lib.hid hU3; clear hU3
      have HE3 := Lib.hid he3; clear he3
      have HB3 := Lib.hid hb3; clear hb3
      have HR3 := Lib.hid hr3; clear hr3
      generalize hnl : (onceI (sortI g.ports)).length = nl
      by_cases hover : 16 < nl
      · have HN := Lib.hid hnl; clear hnl
        have hW := put4 (u0 := .int .u32 0) (u1 := .slice none 0 0) (u2 := .slice none 0 0) (u3 := .bool false) ((Below.heap_setCell w3 ⟨gb, 2, none⟩ (.slice pq nl cq) w.heap.size hne).trans HR3.out)
        have x0 := Lib.cell_of_heap hW 0
        have x1 := Lib.cell_of_heap hW 1
        have x2 := Lib.cell_of_heap hW 2
        have x3 := Lib.cell_of_heap hW 3
        have HX0 := Lib.hid (And.intro x0 (And.intro x1 (And.intro x2 x3)))
        clear hW x0 x1 x2 x3
        go_wp2_with fail
        obtain ⟨x0, x1, x2, x3⟩ := HX0.out
        refine bodyPost_ret (v := .tuple #[.agg #[.int .u32 0, .slice none 0 0, .slice none 0 0, .bool false], .int .i64 4]) (by simp [results, Tryz.results161, go_sem, x0, x1, x2, x3]) rfl ?_
        have hge : gatEnd g = (man0, 4) := by
          unfold gatEnd gatMan
          rw [if_pos (by show 16 < (onceI (sortI g.ports)).length; rw [HN.out]; exact hover)]
        rw [hge]
        exact ⟨_, _, rfl, World.ownsRow_nil _ _ _ _, World.ownsRow_nil _ _ _ _, put4_below (HBW3.out.setCell (by exact HXK.out.gle) _) (by exact hbase)⟩
      · have HN := Lib.hid hnl; clear hnl
        have hW := put4 (u0 := .int .u32 g.pages) (u1 := .slice pe xs.length ce) (u2 := .slice pq nl cq) (u3 := .bool g.cons) ((Below.heap_setCell w3 ⟨gb, 2, none⟩ (.slice pq nl cq) w.heap.size hne).trans HR3.out)
        have x0 := Lib.cell_of_heap hW 0
        have x1 := Lib.cell_of_heap hW 1
        have x2 := Lib.cell_of_heap hW 2
        have x3 := Lib.cell_of_heap hW 3
        have HX0 := Lib.hid (And.intro x0 (And.intro x1 (And.intro x2 x3)))
        have hd : decide ((16 : Int) < (nl : Int)) = false := by simp; omega
        clear hW x0 x1 x2 x3
        go_wp2_with fail
        obtain ⟨x0, x1, x2, x3⟩ := HX0.out
        refine bodyPost_ret (v := .tuple #[.agg #[.int .u32 g.pages, .slice pe xs.length ce, .slice pq nl cq, .bool g.cons], .int .i64 0]) (by simp [results, Tryz.results161, go_sem, x0, x1, x2, x3]) rfl ?_
        have hex : extsFrom 0 g.blocks = xs := by
          rw [HE.out, List.drop_of_length_le (by rw [HG.out.n]; omega)]; simp [extsFrom]
        have hge : gatEnd g = (⟨g.pages, xs, onceI (sortI g.ports), g.cons⟩, 0) := by
          unfold gatEnd gatMan
          rw [if_neg (by show ¬ 16 < (onceI (sortI g.ports)).length; rw [HN.out]; exact hover), hex]
        rw [hge]
        clear hge
        obtain rfl := HN.out
        have n1 : ¬ (Value.slice pe xs.length ce).ownBlock = some gb := own_ne_box HE3.out HB3.out (by decide)
        have n2 : ¬ (Value.slice pe xs.length ce).ownBlock = some w.heap.size := own_ne_box HE3.out HR3.out (by decide)
        have n3 : ¬ (Value.slice pq (onceI (sortI g.ports)).length cq).ownBlock = some gb := own_ne_box HU3.out HB3.out (by decide)
        have n4 : ¬ (Value.slice pq (onceI (sortI g.ports)).length cq).ownBlock = some w.heap.size := own_ne_box HU3.out HR3.out (by decide)
        have hfar : ∀ q, q ≠ gb → q ≠ w.heap.size → (((((w3.setCell ⟨gb, 2, none⟩ (.slice pq (onceI (sortI g.ports)).length cq)).setCell ⟨w.heap.size, 0, none⟩ (.int .u32 g.pages)).setCell ⟨w.heap.size, 1, none⟩ (.slice pe xs.length ce)).setCell ⟨w.heap.size, 2, none⟩ (.slice pq (onceI (sortI g.ports)).length cq)).setCell ⟨w.heap.size, 3, none⟩ (.bool g.cons)).heap[q]? = w3.heap[q]? := fun q h1 h2 =>
          (put4_other h2).trans (Below.heap_setCell _ _ _ _ h1)
        refine ⟨_, _, rfl, own_congr HE3.out fun q hq => hfar q (fun e => n1 (hq.trans (congrArg some e))) (fun e => n2 (hq.trans (congrArg some e))), ?_, put4_below (HBW3.out.setCell (by exact HXK.out.gle) _) (by exact hbase)⟩
        exact own_congr HU3.out fun q hq => hfar q (fun e => n3 (hq.trans (congrArg some e))) (fun e => n4 (hq.trans (congrArg some e)))
end Go.Proofs.YtboegjdkedjhcaaGreatDoor
