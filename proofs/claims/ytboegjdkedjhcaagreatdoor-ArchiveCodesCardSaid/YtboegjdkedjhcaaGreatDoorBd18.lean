/- Rows of places, addresses and spans as a world holds them. The walks of lay's layer: begin and lay. Rows of addresses and spans that a call makes; what lay.Of keeps. A block that holds a row of bytes: its cells, and what a copy of a string into it makes of it. Filling a symbol's places (layer 15), in plain words. No program in sight. An object among a law's arguments; one object as a row. -/
import Derived.Test.YtboegjdkedjhcaaGreatDoorBd01
import Derived.Test.YtboegjdkedjhcaaGreatDoorBd02
import Derived.Test.YtboegjdkedjhcaaGreatDoorBd03
import Derived.Test.YtboegjdkedjhcaaGreatDoorBd16
import Derived.RegionTactic
import Derived.ChangeAlike
import Derived.BigRegion
import Derived.Deep.AppendLies
import Derived.Lib.BufferWrite
import Derived.Lib.Hide
namespace Go.Proofs.YtboegjdkedjhcaaGreatDoor
open Go.ChangeShapes Go.WideShapes Go.ChangeAt Go.RowKit Go.Deep
def PlcR (w : World) (b o : Nat) (p : GP) : Prop := b < w.heap.size ∧ w.cell? ⟨b, o, none⟩ = some (.int .i64 p.1) ∧ w.cell? ⟨b, o + 1, none⟩ = some (.int .i64 p.2)
def AddrR (w : World) (b o : Nat) (a : GAddr) : Prop :=
  b < w.heap.size ∧ w.cell? ⟨b, o, none⟩ = some (.int .i64 a.obj) ∧ w.cell? ⟨b, o + 1, none⟩ = some (.int .i64 a.sym) ∧ w.cell? ⟨b, o + 2, none⟩ = some (.int .u32 a.at_) ∧ (0 ≤ a.at_ ∧ a.at_ ≤ 4294967295)
def SpanR (w : World) (b o : Nat) (a : GSpan) : Prop :=
  b < w.heap.size ∧ w.cell? ⟨b, o, none⟩ = some (.int .u8 a.kind) ∧ w.cell? ⟨b, o + 1, none⟩ = some (.int .u32 a.at_) ∧ w.cell? ⟨b, o + 2, none⟩ = some (.int .u32 a.size) ∧ (0 ≤ a.kind ∧ a.kind ≤ 255) ∧ (0 ≤ a.at_ ∧ a.at_ ≤ 4294967295) ∧ (0 ≤ a.size ∧ a.size ≤ 4294967295)
theorem plcR_keeps : Keeps PlcR := fun _ _ _ _ _ hb ⟨h0, h1, h2⟩ => ⟨size_keep hb h0, cell_keep hb h0 h1, cell_keep hb h0 h2⟩
theorem addrR_keeps : Keeps AddrR := fun _ _ _ _ _ hb ⟨h0, h1, h2, h3, r⟩ => ⟨size_keep hb h0, cell_keep hb h0 h1, cell_keep hb h0 h2, cell_keep hb h0 h3, r⟩
section
variable {H : Type} {enc : TypeId × Value → H} {w : World} {base : Nat} {spare : Nat → Bool} {held : Bool}
end
end Go.Proofs.YtboegjdkedjhcaaGreatDoor
namespace Go.Proofs.YtboegjdkedjhcaaGreatDoor
open Go.RowKit Go.Maps Go.WideMaps
/-- a layer in a block of its own -/
structure LayerAt (w : World) (b : Nat) (k a s e : Int) : Prop where
  lt : b < w.heap.size
  c0 : w.cell? ⟨b, 0, none⟩ = some (.int .u8 k)
  c1 : w.cell? ⟨b, 1, none⟩ = some (.int .u32 a)
  c2 : w.cell? ⟨b, 2, none⟩ = some (.int .u32 s)
  c3 : w.cell? ⟨b, 3, none⟩ = some (.int .u32 e)
  f0 : w.frozen? ⟨b, 0, none⟩ = false
  f1 : w.frozen? ⟨b, 1, none⟩ = false
  f2 : w.frozen? ⟨b, 2, none⟩ = false
  f3 : w.frozen? ⟨b, 3, none⟩ = false
theorem LayerAt.kept {w w' : World} {b : Nat} {k a s e : Int} (h : LayerAt w b k a s e) (hb : w'.heap[b]? = w.heap[b]?) (hs : w.heap.size ≤ w'.heap.size) : LayerAt w' b k a s e := by
  obtain ⟨h0, h1, h2, h3, h4, h5, h6, h7, h8⟩ := h
  refine ⟨Nat.lt_of_lt_of_le h0 hs, ?_, ?_, ?_, ?_, ?_, ?_, ?_, ?_⟩
  all_goals first | (rw [World.cell?_of_block (w := w) hb]; assumption) | (rw [World.frozen?_of_block (w := w) hb]; assumption)
theorem grown_setCell (w : World) (b o : Nat) (v : Value) : w.grownBy (w.setCell ⟨b, o, none⟩ v) (some b) :=
  ⟨rfl, rfl, rfl, by simp, fun k _ hk => Below.heap_setCell _ _ _ _ (fun e => hk (by rw [e]))⟩
theorem grown_trans {w w1 w2 : World} {r : Option Nat} (h : w.grownBy w1 r) (h' : w1.grownBy w2 r) : w.grownBy w2 r :=
  ⟨h'.os.trans h.os, h'.tape.trans h.tape, h'.output.trans h.output, Nat.le_trans h.size h'.size, fun k hk hne => (h'.block k (Nat.lt_of_lt_of_le hk h.size) hne).trans (h.block k hk hne)⟩
theorem grown_drew {w w1 : World} {r : Option Nat} (h : w.grownBy w1 r) : w.grownBy w1.drew r := ⟨h.os, h.tape, h.output, h.size, h.block⟩
set_option maxHeartbeats 1000000 in
theorem begin14_any (b : Nat) (kd k a s e : Int) (w : World) (h : LayerAt w b k a s e) (h0 : 0 ≤ e) (h1 : e ≤ 200000) :
    Calls Tryz.prog 151 #[.pointer (some ⟨b, 0, none⟩), .int .u8 kd] w fun en w' => en = .returned (.tuple #[]) ∧ LayerAt w' b kd (upTo e 256) 0 (upTo e 256) ∧ w.grownBy w' (some b) := by
  obtain ⟨hb, c0, c1, c2, c3, f0, f1, f2, f3⟩ := h
  go_enter Tryz.func151, Tryz.ntmps151
  go_wp2_with (go_at_call 204; refine (up_256 _ _ h0 h1).mono ?_; rintro en w' ⟨rfl, rfl⟩)
  go_end0
  refine ⟨rfl, ?_, ?_⟩
  · refine ⟨by simpa using hb, ?_, ?_, ?_, ?_, ?_, ?_, ?_, ?_⟩ <;> simp [go_sem, *]
  · exact grown_trans (grown_trans (grown_trans (grown_setCell _ _ _ _) (grown_setCell _ _ _ _)) (grown_setCell _ _ _ _)) (grown_setCell _ _ _ _)
set_option maxHeartbeats 1000000 in
theorem lay14_any (b : Nat) (k a s e z : Int) (w : World) (h : LayerAt w b k a s e) (h0 : 0 ≤ e) (h1 : e ≤ 200000) (ha : 0 ≤ a) (hae : a ≤ e) (hz : 0 ≤ z) (hz1 : z ≤ 100000) :
    Calls Tryz.prog 153 #[.pointer (some ⟨b, 0, none⟩), .int .u32 z] w fun en w' => en = .returned (.int .u32 (upTo e 8)) ∧ LayerAt w' b k a (upTo e 8 + z - a) (upTo e 8 + z) ∧ w.grownBy w' (some b) := by
  obtain ⟨hb, c0, c1, c2, c3, f0, f1, f2, f3⟩ := h
  have hu : e ≤ upTo e 8 ∧ upTo e 8 ≤ e + 7 := by unfold upTo; omega
  go_enter Tryz.func153, Tryz.ntmps153
  go_wp2_with (go_at_call 204; refine (up_8 _ _ h0 h1).mono ?_; rintro en w' ⟨rfl, rfl⟩)
  generalize hu0 : upTo e 8 = u at *
  have HU := Lib.hid hu0; clear hu0
  generalize hw1 : w.setCell ⟨b, 3, none⟩ (.int .u32 (u + z)) = w1
  have g0 : w1.cell? ⟨b, 0, none⟩ = some (.int .u8 k) := by subst hw1; simp [go_sem, *]
  have g1 : w1.cell? ⟨b, 1, none⟩ = some (.int .u32 a) := by subst hw1; simp [go_sem, *]
  have g2 : w1.cell? ⟨b, 2, none⟩ = some (.int .u32 s) := by subst hw1; simp [go_sem, *]
  have g3 : w1.cell? ⟨b, 3, none⟩ = some (.int .u32 (u + z)) := by subst hw1; simp [go_sem, *]
  have e0 : w1.frozen? ⟨b, 0, none⟩ = false := by subst hw1; simp [go_sem, *]
  have e1 : w1.frozen? ⟨b, 1, none⟩ = false := by subst hw1; simp [go_sem, *]
  have e2 : w1.frozen? ⟨b, 2, none⟩ = false := by subst hw1; simp [go_sem, *]
  have e3 : w1.frozen? ⟨b, 3, none⟩ = false := by subst hw1; simp [go_sem, *]
  have hb1 : b < w1.heap.size := by subst hw1; simpa using hb
  have HG : Hid (w.grownBy w1 (some b)) := by subst hw1; exact grown_setCell _ _ _ _
  clear hw1 c0 c1 c2 c3 f0 f1 f2 f3
  go_region
  all_goals
    go_wp2
    go_ret
    obtain rfl := HU.out
    refine ⟨rfl, ?_, ?_⟩
    · refine ⟨by simpa using hb1, ?_, ?_, ?_, ?_, ?_, ?_, ?_, ?_⟩ <;> simp [go_sem, *]
    · exact grown_drew (grown_trans HG.out (grown_setCell _ _ _ _))
end Go.Proofs.YtboegjdkedjhcaaGreatDoor
namespace Go.Proofs.YtboegjdkedjhcaaGreatDoor
open Go.RowKit
def addrCells (a : GAddr) : List Value := [.int .i64 a.obj, .int .i64 a.sym, .int .u32 a.at_]
def spanCells (a : GSpan) : List Value := [.int .u8 a.kind, .int .u32 a.at_, .int .u32 a.size]
theorem addrCells_len (a : GAddr) : (addrCells a).length = 3 := rfl
theorem spanCells_len (a : GSpan) : (spanCells a).length = 3 := rfl
def AddrOk (a : GAddr) : Prop := 0 ≤ a.at_ ∧ a.at_ ≤ 4294967295
def SpanOk (a : GSpan) : Prop := (0 ≤ a.kind ∧ a.kind ≤ 255) ∧ (0 ≤ a.at_ ∧ a.at_ ≤ 4294967295) ∧ (0 ≤ a.size ∧ a.size ≤ 4294967295)
theorem addr_row {w : World} {v : Value} {base : Nat} {e : TypeId} {l : List GAddr} (h : w.ownsRow base e 3 v l.length (l.flatMap addrCells)) (hl : l.length ≤ 140737488355328) (hok : ∀ a ∈ l, AddrOk a) : RowAt 3 AddrR w v l :=
  owned_row addrCells_len h hl fun g o' i hi hg hcell => ⟨hg, hcell 0 _ (by omega) rfl, hcell 1 _ (by omega) rfl, hcell 2 _ (by omega) rfl, hok _ (List.getElem_mem hi)⟩
theorem span_row {w : World} {v : Value} {base : Nat} {e : TypeId} {l : List GSpan} (h : w.ownsRow base e 3 v l.length (l.flatMap spanCells)) (hl : l.length ≤ 140737488355328) (hok : ∀ a ∈ l, SpanOk a) : RowAt 3 SpanR w v l :=
  owned_row spanCells_len h hl fun g o' i hi hg hcell => ⟨hg, hcell 0 _ (by omega) rfl, hcell 1 _ (by omega) rfl, hcell 2 _ (by omega) rfl, hok _ (List.getElem_mem hi)⟩
theorem made_addrs (n : Nat) : (madeCells #[.int .i64 0, .int .i64 0, .int .u32 0] (n * 3)).toList = (List.replicate n addr0).flatMap addrCells := by
  show (madeCells (Value.agg #[.int .i64 0, .int .i64 0, .int .u32 0]).cells (n * 3)).toList = _
  rw [zero_cells3 _ (.int .i64 0) (.int .i64 0) (.int .u32 0) rfl]
  induction n with
  | zero => rfl
  | succ n ih => rw [List.replicate_succ, List.replicate_succ, List.flatMap_cons, List.flatMap_cons, ih]; rfl
/-- a symbol that may be laid has a size -/
theorem may_size {l : List GObj} {p : GP} {s : GSym} (hm : mayAll l = true) (h : symAt l p = some s) : 1 ≤ s.size ∧ s.size ≤ 8192 := by
  obtain ⟨a, b, ha, hb, -, rfl⟩ := symAt_some h
  simp only [mayAll, Bool.and_eq_true, List.all_eq_true] at hm
  have h1 := hm.2 _ (List.getElem_mem ha)
  simp only [mayP, Bool.and_eq_true] at h1
  have h2 := symsGo_each _ _ h1.1.1 _ (List.getElem_mem hb)
  simp only [symOkP, sizedOk, sizedB, Bool.and_eq_true, decide_eq_true_eq] at h2
  exact ⟨h2.1.1.1.2.1.1.1, h2.1.1.1.2.1.1.2⟩
theorem mayGo_some {l : List GObj} : ∀ {ps : List GP} {pr : Option GP}, mayGo l pr ps = true → ∀ p ∈ ps, ∃ s, symAt l p = some s
  | [], _, _, p, hp => by cases hp
  | q :: r, pr, h, p, hp => by
    simp only [mayGo, Bool.and_eq_true] at h
    rcases List.mem_cons.1 hp with rfl | hp
    · exact Option.isSome_iff_exists.1 h.1.1
    · exact mayGo_some h.2 p hp
/-- what lay.Of keeps in its loops -/
structure OInv (w0 : World) (ob xb n : Nat) (v8 : Value) (out : List GAddr) (spans : List GSpan) (k a s e : Int) (wr : World) : Prop where
  row : wr.ownsRow ob 259 3 (.slice (some ⟨ob, 0, none⟩) n n) n (out.flatMap addrCells)
  olen : out.length = n
  ook : ∀ x ∈ out, AddrOk x
  srow : wr.ownsRow w0.heap.size 251 3 v8 spans.length (spans.flatMap spanCells)
  slen : spans.length ≤ 3
  sok : ∀ x ∈ spans, SpanOk x
  lay : LayerAt wr xb k a s e
  kb : KB (fun g => g = ob ∨ g = xb) w0 wr
theorem OInv.keep {w0 : World} {ob xb n : Nat} {v8 : Value} {out : List GAddr} {spans : List GSpan} {k a s e : Int} {wr w' : World} (h : OInv w0 ob xb n v8 out spans k a s e wr) (hb : Below wr.heap.size wr w') : OInv w0 ob xb n v8 out spans k a s e w' :=
  ⟨own_congr h.row fun g hg => hb.block g (h.row.lt g hg).2, h.olen, h.ook, own_congr h.srow fun g hg => hb.block g (h.srow.lt g hg).2, h.slen, h.sok, h.lay.kept (hb.block _ h.lay.lt) hb.size, h.kb.trans (KB.of_below hb)⟩
/-- behind a call of the layer's -/
theorem OInv.layer {w0 : World} {ob xb n : Nat} {v8 : Value} {out : List GAddr} {spans : List GSpan} {k a s e k' a' s' e' : Int} {wr w' : World} (h : OInv w0 ob xb n v8 out spans k a s e wr) (hx : xb < w0.heap.size) (hne : ob ≠ xb) (hg : wr.grownBy w' (some xb)) (hl : LayerAt w' xb k' a' s' e') : OInv w0 ob xb n v8 out spans k' a' s' e' w' :=
  ⟨own_congr h.row fun g hg' => hg.block g (h.row.lt g hg').2 (fun e => by cases e; cases hg'; exact hne rfl), h.olen, h.ook, own_congr h.srow fun g hg' => hg.block g (h.srow.lt g hg').2 (fun e => by cases e; have := (h.srow.lt xb hg').1; omega), h.slen, h.sok, hl, h.kb.grown hg (fun g hg' => by cases hg'; exact .inl (.inr rfl))⟩
/-- behind a store into the row of addresses -/
theorem OInv.set {w0 : World} {ob xb n : Nat} {v8 : Value} {out : List GAddr} {spans : List GSpan} {k a s e : Int} {wr : World} (h : OInv w0 ob xb n v8 out spans k a s e wr) (ho : ob < w0.heap.size) (hne : ob ≠ xb) {i : Nat} (hi : i < n) (x : GAddr) (hx : AddrOk x) :
    OInv w0 ob xb n v8 (out.set i x) spans k a s e (((wr.setCell ⟨ob, i * 3, none⟩ (.int .i64 x.obj)).setCell ⟨ob, i * 3 + 1, none⟩ (.int .i64 x.sym)).setCell ⟨ob, i * 3 + 2, none⟩ (.int .u32 x.at_)) := by
  have hset : ∀ g, g ≠ ob → (((wr.setCell ⟨ob, i * 3, none⟩ (.int .i64 x.obj)).setCell ⟨ob, i * 3 + 1, none⟩ (.int .i64 x.sym)).setCell ⟨ob, i * 3 + 2, none⟩ (.int .u32 x.at_)).heap[g]? = wr.heap[g]? := fun g hg => by
    rw [Below.heap_setCell _ _ _ _ (by simpa using hg), Below.heap_setCell _ _ _ _ (by simpa using hg), Below.heap_setCell _ _ _ _ (by simpa using hg)]
  refine ⟨?_, by simpa using h.olen, ?_, own_congr h.srow fun g hg => hset g fun e => by have := (h.srow.lt g hg).1; omega, h.slen, h.sok, h.lay.kept (hset _ fun e => hne e.symm) (by simp), ((h.kb.setCell (.inl (.inl rfl)) _).setCell (.inl (.inl rfl)) _).setCell (.inl (.inl rfl)) _⟩
  · rw [← flat_set3 addrCells_len (x := x) rfl out i (by rw [h.olen]; exact hi)]
    exact (((h.row.stored _ _).1.stored _ _).1.stored _ _).1
  · intro y hy
    rcases List.mem_or_eq_of_mem_set hy with hy | rfl
    · exact h.ook y hy
    · exact hx
end Go.Proofs.YtboegjdkedjhcaaGreatDoor
namespace Go.Proofs.YtboegjdkedjhcaaGreatDoor
open Go.RowKit
variable {P : Program}
/-- block g holds just these bytes -/
def ByteRow (w : World) (g : Nat) (l : BL) : Prop := ∃ T, w.heap[g]? = some (.cells (Lib.byteCells l).toArray T (0, 0))
/-- bytes laid over others -/
def putB (b s : BL) (o : Nat) : BL := b.take o ++ s ++ b.drop (o + s.length)
theorem putB_length {b s : BL} {o : Nat} (h : o + s.length ≤ b.length) : (putB b s o).length = b.length := by
  simp only [putB, List.length_append, List.length_take, List.length_drop]; omega
theorem byteCells_take (l : BL) (n : Nat) : (Lib.byteCells l).take n = Lib.byteCells (l.take n) := by simp [Lib.byteCells]
theorem byteCells_drop (l : BL) (n : Nat) : (Lib.byteCells l).drop n = Lib.byteCells (l.drop n) := by simp [Lib.byteCells]
theorem byteCells_append (a b : BL) : Lib.byteCells a ++ Lib.byteCells b = Lib.byteCells (a ++ b) := by simp [Lib.byteCells]
theorem ByteRow.lt {w : World} {g : Nat} {l : BL} (h : ByteRow w g l) : g < w.heap.size := by
  obtain ⟨T, h⟩ := h; exact (Array.getElem?_eq_some_iff.1 h).1
theorem ByteRow.cell {w : World} {g : Nat} {l : BL} (h : ByteRow w g l) (j : Nat) (hj : j < l.length) : w.cell? ⟨g, j, none⟩ = some (.int .u8 (l[j].toNat : Int)) := by
  obtain ⟨T, h⟩ := h
  rw [cell_of_row _ _ _ _ _ _ h]
  simp [Lib.byteCells, hj]
theorem ByteRow.congr {w w' : World} {g : Nat} {l : BL} (h : ByteRow w g l) (he : w'.heap[g]? = w.heap[g]?) : ByteRow w' g l := by
  obtain ⟨T, h⟩ := h; exact ⟨T, he.trans h⟩
theorem ByteRow.below {w w' : World} {g : Nat} {l : BL} (h : ByteRow w g l) (hk : Below w.heap.size w w') : ByteRow w' g l := h.congr (hk.block g h.lt)
/-- 'copy(b[o:o+len(s)], s)' -/
theorem ByteRow.copy {w : World} {g : Nat} {l : BL} (h : ByteRow w g l) (dT sT ty elem : TypeId) (o dLen dCap : Nat) (s : ByteArray)
    (hu : P.underlying dT = some (.slice elem)) (hs : (P.info? elem).map (·.size) = some 1) (hle : s.size ≤ dLen) (hfit : o + s.size ≤ l.length) :
    ∃ w', (Builtin.copy_ #[dT, sT] ty #[.slice (some ⟨g, o, none⟩) dLen dCap, .string s]).run P w = .ok (goInt s.size) w' ∧ ByteRow w' g (putB l s.data.toList o) ∧ KB (fun k => k = g) w w' := by
  obtain ⟨T, h⟩ := h
  have hsz : s.size = s.data.toList.length := by simp
  refine ⟨_, Lib.run_copy_row_string w dT sT ty elem g o dLen dCap s _ T hu hs h hle (by simpa [Lib.byteCells] using hfit), ⟨T, ?_⟩, ⟨rfl, rfl, rfl, by simp, fun k _ hk => setRow_other _ _ _ _ hk⟩⟩
  rw [setRow_heap _ _ _ _ _ _ h]
  rw [List.toList_toArray, byteCells_take, byteCells_drop, byteCells_append, byteCells_append, hsz]
  rfl
theorem run_bytes_of_row {w : World} {g : Nat} {l : BL} (h : ByteRow w g l) (src dst e : TypeId) (o n cap : Nat) (hs : P.underlying src = some (.slice e)) (he : P.underlying e = some (.int .u8)) (hd : P.underlying dst = some .string) (hn : o + n ≤ l.length) :
    (convert src dst (.slice (some ⟨g, o, none⟩) n cap)).run P w = .ok (.string (bsOf ((l.drop o).take n))) w := by
  have hl : ((l.drop o).take n).length = n := by rw [List.length_take, List.length_drop]; omega
  have hk := run_convert_bytes_back (P := P) w src dst e ⟨g, o, none⟩ cap ((l.drop o).take n) hs he hd (fun j hj => by
    rw [add_at, h.cell (o + j) (by omega)]
    simp)
  rw [hl] at hk
  exact hk
end Go.Proofs.YtboegjdkedjhcaaGreatDoor
namespace Go.Proofs.YtboegjdkedjhcaaGreatDoor
def fillV (x : GRel) (a : Int) : Int := (a + x.add) % 4294967296
def fillL : BL → List GRel → List Int → Option BL
  | b, x :: r, a :: q => if x.kind = 2 ∧ 65536 ≤ fillV x a then none else fillL (putB b (leB (widthOf x.kind).toNat (fillV x a)) x.off.toNat) r q
  | b, _, _ => some b
/-- a symbol's bytes, with zeros up to its size -/
def bytes0 (s : GSym) : BL := s.bytes.data.toList ++ List.replicate (s.size.toNat - s.bytes.size) 0
def fillR (s : GSym) (addrs : List Int) : ByteArray × Int :=
  if symOkP s = true then if addrs.length = s.rels.length then match fillL (bytes0 s) s.rels addrs with | none => (emptyB, 150) | some b => (bsOf b, 0) else (emptyB, 2) else (emptyB, 2)
theorem fillR_bad {s : GSym} {addrs : List Int} (h : symOkP s = false) : fillR s addrs = (emptyB, 2) := by simp [fillR, h]
theorem fillR_len {s : GSym} {addrs : List Int} (h : ¬ addrs.length = s.rels.length) : fillR s addrs = (emptyB, 2) := by
  unfold fillR; split <;> rfl
theorem fillR_yes {s : GSym} {addrs : List Int} (h : symOkP s = true) (h2 : addrs.length = s.rels.length) : fillR s addrs = match fillL (bytes0 s) s.rels addrs with | none => (emptyB, 150) | some b => (bsOf b, 0) := by
  simp [fillR, h, h2]
theorem bytes0_length {s : GSym} (h : (s.bytes.size : Int) ≤ s.size) : (bytes0 s).length = s.size.toNat := by
  have : s.bytes.data.toList.length = s.bytes.size := len_list _
  rw [bytes0, List.length_append, List.length_replicate, this]; omega
/-- how the loop goes on at place k -/
theorem fillL_step {s : GSym} {addrs : List Int} {k : Nat} {b : BL} {x : GRel} {a : Int} (hk : k < s.rels.length) (ha : k < addrs.length) (hx : s.rels[k] = x) (hy : addrs[k] = a) :
    fillL b (s.rels.drop k) (addrs.drop k) = if x.kind = 2 ∧ 65536 ≤ fillV x a then none else fillL (putB b (leB (widthOf x.kind).toNat (fillV x a)) x.off.toNat) (s.rels.drop (k + 1)) (addrs.drop (k + 1)) := by
  rw [List.drop_eq_getElem_cons hk, List.drop_eq_getElem_cons ha, hx, hy, fillL]
theorem fillL_end {s : GSym} {addrs : List Int} {k : Nat} {b : BL} (hk : ¬ k < s.rels.length) : fillL b (s.rels.drop k) (addrs.drop k) = some b := by
  rw [List.drop_of_length_le (by omega)]
  cases addrs.drop k <;> rfl
/-- what may be: its places lie within its bytes -/
theorem relsGo_each {n : Int} : ∀ {e : Int} {l : List GRel}, relsGo n e l = true → ∀ x ∈ l, (x.kind = 1 ∨ x.kind = 2) ∧ x.off ≤ 8192 ∧ x.off + widthOf x.kind ≤ n
  | _, [], _, x, hx => by cases hx
  | e, y :: r, h, x, hx => by
    simp only [relsGo, Bool.and_eq_true, decide_eq_true_eq] at h
    obtain ⟨⟨⟨⟨⟨h1, h2⟩, h3⟩, h4⟩, h5⟩, h6⟩ := h
    rcases List.mem_cons.1 hx with rfl | hx
    · refine ⟨?_, h3, h5⟩
      unfold widthOf at h1
      split at h1
      · exact .inl ‹_›
      · split at h1
        · exact .inr ‹_›
        · simp at h1
    · exact relsGo_each h6 x hx
theorem symOk_fits {s : GSym} (h : symOkP s = true) (hb : s.bytes.size < 4294967296) : (s.bytes.size : Int) ≤ s.size ∧ s.size ≤ 8192 ∧ 1 ≤ s.size ∧ s.rels.length ≤ 1024 ∧ ∀ x ∈ s.rels, (x.kind = 1 ∨ x.kind = 2) ∧ x.off ≤ 8192 ∧ x.off + widthOf x.kind ≤ s.bytes.size := by
  simp only [symOkP, Bool.and_eq_true, decide_eq_true_eq, sizedOk, sizedB, placesOk] at h
  obtain ⟨⟨⟨⟨⟨⟨⟨h1, h2⟩, h3⟩, h4⟩, h5⟩, h6⟩, h7⟩, h8⟩ := h
  have e : len32 s.bytes = s.bytes.size := by unfold len32; omega
  rw [e] at h5 h6
  exact ⟨h5.1.2, h5.1.1.2, h5.1.1.1, h6.2, fun x hx => relsGo_each h6.1 x hx⟩
end Go.Proofs.YtboegjdkedjhcaaGreatDoor
namespace Go.Proofs.YtboegjdkedjhcaaGreatDoor
open Go.ChangeShapes Go.WideShapes Go.ChangeAt Go.RowKit Go.Deep
section
variable {H : Type} {enc : TypeId × Value → H} {w : World} {base : Nat} {spare : Nat → Bool} {held : Bool}
end
end Go.Proofs.YtboegjdkedjhcaaGreatDoor
