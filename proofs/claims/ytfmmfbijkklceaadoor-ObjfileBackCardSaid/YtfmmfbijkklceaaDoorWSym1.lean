/- The walks of objfile.reading.sym's two functions. -/
import Derived.Test.YtfmmfbijkklceaaDoorWReader
import Derived.Test.YtfmmfbijkklceaaDoorWCopy
import Derived.Deep.RegionHeld3
import Derived.Maps.AppendAt
import Derived.Deep.CutRange
import Derived.Deep.Cut
namespace Go.Proofs.YtfmmfbijkklceaaDoor
open Go.RowKit Go.Maps
theorem pow256_mono : ∀ {n m : Nat}, n ≤ m → pow256 n ≤ pow256 m
  | 0, m, _ => by have := pow256_pos m; simp only [pow256]; omega
  | n + 1, m + 1, h => by have := pow256_mono (n := n) (m := m) (by omega); simp only [pow256]; omega
theorem rNum_bd (n : Nat) (st : RS) : 0 ≤ (rNum n st).1 ∧ (rNum n st).1 < pow256 n := by
  have h := leV_bd (rTake n st).1
  have hl : (rTake n st).1.length ≤ n := by
    cases st with
    | none => simp [rTake]
    | some r => unfold rTake; simp only []; split <;> simp; omega
  have := pow256_mono hl
  exact ⟨h.1, Int.lt_of_lt_of_le h.2 this⟩
theorem rText_bd (st : RS) : (rText st).1.size ≤ 65535 := by
  have h := rNum_bd 2 st
  rw [p2] at h
  unfold rText
  rw [bsOf_size]
  cases hs : (rNum 2 st).2 with
  | none => simp [rTake]
  | some r => unfold rTake; simp only []; split <;> simp; omega
theorem box4 {w : World} {xb : Nat} {t : TypeId} {a b c d : Value} (h : w.heap[xb]? = some (.cells #[a, b, c, d] t (0, 0))) (a' b' c' d' : Value) :
    ((((w.setCell ⟨xb, 0, none⟩ a').setCell ⟨xb, 1, none⟩ b').setCell ⟨xb, 2, none⟩ c').setCell ⟨xb, 3, none⟩ d').heap[xb]? = some (.cells #[a', b', c', d'] t (0, 0)) := by
  simp [World.setCell, Array.getElem?_modify, h]
theorem box3 {w : World} {xb : Nat} {t : TypeId} {a b c : Value} (h : w.heap[xb]? = some (.cells #[a, b, c] t (0, 0))) (a' b' c' : Value) :
    (((w.setCell ⟨xb, 0, none⟩ a').setCell ⟨xb, 1, none⟩ b').setCell ⟨xb, 2, none⟩ c').heap[xb]? = some (.cells #[a', b', c'] t (0, 0)) := by
  simp [World.setCell, Array.getElem?_modify, h]
theorem KB.setR {R xb : Nat} {w w' : World} (h : KB (fun g => R ≤ g) w w') (hx : R ≤ xb) (j : Nat) (u : Value) : KB (fun g => R ≤ g) w (w'.setCell ⟨xb, j, none⟩ u) := KB.setCell h (.inl hx) u
theorem own_type {w : World} {B : Nat} {e : TypeId} {k n : Nat} {v : Value} {xs : List Value} (h : w.ownsRow B e k v n xs) {g : Nat} (hg : v.ownBlock = some g) : ∃ cur, w.heap[g]? = some (.cells cur e (0, 0)) := by
  rcases h.2 with ⟨rfl, -⟩ | ⟨g', cap, cur, rfl, -, h1, -⟩
  · cases hg
  · cases hg; exact ⟨cur, h1⟩
theorem own_ne {w : World} {B B' : Nat} {e e' : TypeId} {k k' n n' : Nat} {v v' : Value} {xs xs' : List Value} (h : w.ownsRow B e k v n xs) (h' : w.ownsRow B' e' k' v' n' xs') (hne : e ≠ e') {g : Nat} (hg : v.ownBlock = some g) (hg' : v'.ownBlock = some g) : False := by
  obtain ⟨cur, h1⟩ := own_type h hg
  obtain ⟨cur', h2⟩ := own_type h' hg'
  rw [h1] at h2
  injection h2 with h2; injection h2 with _ h3 _; exact hne h3
theorem own_ne_box {w : World} {B : Nat} {e t : TypeId} {k n g : Nat} {v : Value} {xs : List Value} {cs : Array Value} (h : w.ownsRow B e k v n xs) (hb : w.heap[g]? = some (.cells cs t (0, 0))) (hne : e ≠ t) : v.ownBlock ≠ some g := fun hg => by
  obtain ⟨cur, h1⟩ := own_type h hg
  rw [h1] at hb
  injection hb with h2; injection h2 with _ h3 _; exact hne h3
def addRel (y : GSym) (x : GRel) : GSym := { y with rels := y.rels ++ [x] }
def addNote (y : GSym) (x : GNote) : GSym := { y with notes := y.notes ++ [x] }
/-- behind the append to the symbol's places -/
theorem SymSt.addR {R : Nat} {Q : Nat → Prop} {sb rb : Nat} {s : ByteArray} {st : RS} {y : GSym} {w0 w1 wa w2 : World} {vr vn v' : Value} {x : GRel} (h : SymSt R Q sb rb s st y w0 w1)
    (hs : w1.heap[sb]? = some (.cells #[.string y.name, .int .u8 y.bind, .int .u8 y.kind, .int .u32 y.size, .string y.bytes, vr, vn] 47 (0, 0)))
    (hr : w1.ownsRow w0.heap.size 49 4 vr y.rels.length (y.rels.flatMap relCells)) (hn : w1.ownsRow w0.heap.size 64 3 vn y.notes.length (y.notes.flatMap noteCells))
    (ha : Below w1.heap.size w1 wa) (ho : w2.ownsRow w0.heap.size 49 4 v' (y.rels.length + 1) (y.rels.flatMap relCells ++ relCells x)) (hg : wa.grownBy w2 vr.ownBlock) :
    SymSt (w2.setCell ⟨sb, 5, none⟩ v').heap.size Q sb rb s st (addRel y x) w0 (w2.setCell ⟨sb, 5, none⟩ v') := by
  have r1 := h.rlt; have r3 := h.sle; have r5 := h.slt; have r6 := h.rle
  have z1 := ha.size; have z2 := hg.size
  have hz : (w2.setCell ⟨sb, 5, none⟩ v').heap.size = w2.heap.size := by simp
  have hk : ∀ g, g < w1.heap.size → vr.ownBlock ≠ some g → w2.heap[g]? = w1.heap[g]? := fun g hg' hne => by
    rw [hg.block g (by omega) (fun e => hne e.symm), ha.block g hg']
  have hs2 := hk sb (by omega) (own_ne_box hr hs (by decide))
  have hset : ∀ g, g ≠ sb → (w2.setCell ⟨sb, 5, none⟩ v').heap[g]? = w2.heap[g]? := fun g hgs => Below.heap_setCell _ _ _ _ (by simpa using hgs)
  have hqs : ∀ g, Q g → g ≠ sb := fun g hg e => by have h2 := (h.q g hg).1; rw [e, hs] at h2; simp at h2
  have hrb : vr.ownBlock ≠ some rb := fun e => by have := (hr.lt rb e).1; omega
  have hn2 : w2.ownsRow w0.heap.size 64 3 vn y.notes.length (y.notes.flatMap noteCells) := own_congr hn fun g hg' => hk g (hn.lt g hg').2 fun e => own_ne hr hn (by decide) e hg'
  have hs2' : w2.heap[sb]? = some (.cells #[.string y.name, .int .u8 y.bind, .int .u8 y.kind, .int .u32 y.size, .string y.bytes, vr, vn] 47 (0, 0)) := hs2.trans hs
  have e1 : (addRel y x).rels.length = y.rels.length + 1 := by simp [addRel]
  have e2 : (addRel y x).rels.flatMap relCells = y.rels.flatMap relCells ++ relCells x := by simp [addRel]
  have ho3 : (w2.setCell ⟨sb, 5, none⟩ v').ownsRow w0.heap.size 49 4 v' (addRel y x).rels.length ((addRel y x).rels.flatMap relCells) := by
    rw [e1, e2]; exact own_congr ho fun g hg' => hset g fun e => own_ne_box ho (e ▸ hs2') (by decide) hg'
  have hn3 : (w2.setCell ⟨sb, 5, none⟩ v').ownsRow w0.heap.size 64 3 vn y.notes.length (y.notes.flatMap noteCells) := own_congr hn2 fun g hg' => hset g fun e => own_ne_box hn2 (e ▸ hs2') (by decide) hg'
  refine ⟨fun g hg => by obtain ⟨q1, q2, q3⟩ := h.q g hg; exact ⟨by rw [hset g (hqs g hg), hk g (by omega) (own_ne_box hr q1 (by decide))]; exact q1, q2, by rw [hz]; omega⟩, ⟨v', vn, ?_, ho3, hn3, fun g hg' => (ho3.lt g hg').2, fun g hg' => (hn3.lt g hg').2⟩, ?_, ?_, r1, r3, by rw [hz]; omega, Nat.le_refl _⟩
  · simp [World.setCell, Array.getElem?_modify, hs2', addRel]
  · exact h.rd.congr (by rw [hset rb (by omega), hk rb (by omega) hrb])
  · have hg0 := h.kb.grown (w' := w2) (r := vr.ownBlock) ⟨hg.os.trans ha.os, hg.tape.trans ha.tape, hg.output.trans ha.output, Nat.le_trans z1 z2, fun k hk' hne => hk k hk' (fun e => hne e.symm)⟩ (fun k e => .inr (hr.lt k e).1)
    exact KB.setCell hg0 (.inr r3) _
set_option maxRecDepth 100000 in
set_option maxHeartbeats 2000000 in
theorem sym1_any (R : Nat) (Q : Nat → Prop) (qb sb rb : Nat) (hq : Q qb) (s : ByteArray) (st : RS) (y : GSym) (w0 w : World) (h : SymSt R Q sb rb s st y w0 w) (hlen : y.rels.length ≤ 70000) :
    Calls Tryd.prog 53 #[.pointer (some ⟨qb, 0, none⟩), .pointer (some ⟨sb, 0, none⟩)] w fun e w' => e = .returned (.tuple #[]) ∧ ∃ R', SymSt R' Q sb rb s (rRel st).2 (addRel y (rRel st).1) w0 w' := by
  replace h := h.fresh
  have c := h.c hq
  have HS : Hid (SymSt w.heap.size Q sb rb s st y w0 w.drew) := h.keep (Below.refl _ _).drew
  have HSA : Hid (SymSt w.heap.size Q sb rb s st y w0 (w.alloc (.cells #[.int .u32 0, .int .u8 0, .string ⟨#[]⟩, .int .u32 0] 49)).drew) := h.keep (alloc_old _ _).drew
  have HXA : Hid ((w.alloc (.cells #[.int .u32 0, .int .u8 0, .string ⟨#[]⟩, .int .u32 0] 49)).drew.heap[w.heap.size]? = some (.cells #[.int .u32 0, .int .u8 0, .string ⟨#[]⟩, .int .u32 0] 49)) := heap_alloc_new w _
  have hbd := rNum_bd 1 (rNum 4 st).2
  rw [p1] at hbd
  have hb0 := hbd.1
  have hb1 : (rNum 1 (rNum 4 st).2).1 ≤ 255 := by omega
  have hwr : IntKind.u8.wrap (rNum 1 (rNum 4 st).2).1 = (rNum 1 (rNum 4 st).2).1 := by rw [IntKind.wrap_u8]; omega
  clear h hbd
  go_enter Tryd.func53, Tryd.ntmps53
  go_wp2
  go_cut [2] from 3 to 19 (fun s2 wx => ∃ xb, s2 = .pointer (some ⟨xb, 0, none⟩) ∧ w.heap.size ≤ xb ∧ wx.heap[xb]? = some (.cells #[.int .u32 (rNum 4 st).1, .int .u8 (rNum 1 (rNum 4 st).2).1, .string (rText (rNum 1 (rNum 4 st).2).2).1, .int .u32 0] 49 (0, 0)) ∧ SymSt w.heap.size Q sb rb s (rText (rNum 1 (rNum 4 st).2).2).2 y w0 wx)
  case first =>
    go_region_held3 (fun w' => w'.cell? ⟨qb, 0, none⟩ = some (.pointer (some ⟨rb, 0, none⟩))) (go_keep) ((first | (go_at_call 30; (with_reducible refine (readNum4 rb s _ _ HS.out.rd).mono ?_); rintro e wn ⟨rfl, k1, k2⟩; replace HX := Lib.hid ((k2.block _ (Array.getElem?_eq_some_iff.1 HX.out).1 (by have := HS.out.rlt; have := HS.out.sle; have := HS.out.slt; have := HXR.out; omega)).trans HX.out); replace HS := Lib.hid (HS.out.read k1 (KRR.of_kr k2)); have cn := HS.out.c hq; have b0 : wn.cell? ⟨_, 0, none⟩ = some (.int .u32 0) := Lib.cell_of_heap HX.out 0; have f0 : wn.frozen? ⟨_, 0, none⟩ = false := Lib.frozen_of_heap HX.out 0; have b1 : wn.cell? ⟨_, 1, none⟩ = some (.int .u8 0) := Lib.cell_of_heap HX.out 1; have f1 : wn.frozen? ⟨_, 1, none⟩ = false := Lib.frozen_of_heap HX.out 1; have b2 : wn.cell? ⟨_, 2, none⟩ = some (.string ⟨#[]⟩) := Lib.cell_of_heap HX.out 2; have f2 : wn.frozen? ⟨_, 2, none⟩ = false := Lib.frozen_of_heap HX.out 2; have b3 : wn.cell? ⟨_, 3, none⟩ = some (.int .u32 0) := Lib.cell_of_heap HX.out 3; have f3 : wn.frozen? ⟨_, 3, none⟩ = false := Lib.frozen_of_heap HX.out 3; clear k1 k2) | (go_at_call 30; (with_reducible refine (readNum4 rb s _ _ HS.out.rd).mono ?_); rintro e wn ⟨rfl, k1, k2⟩; replace HS := Lib.hid (HS.out.read k1 (KRR.of_kr k2)); have cn := HS.out.c hq; clear k1 k2) | (go_at_call 30; (with_reducible refine (readNum4 rb s _ _ HSA.out.rd).mono ?_); rintro e wn ⟨rfl, k1, k2⟩; have HX := Lib.hid ((k2.block _ (Array.getElem?_eq_some_iff.1 HXA.out).1 (by have := HS.out.rlt; have := HS.out.sle; have := HS.out.slt; omega)).trans HXA.out); have HXR : Hid (w.heap.size ≤ w.heap.size) := Nat.le_refl _; have nx : ¬ w.heap.size = qb := (by have := (HS.out.q qb hq).2.2; omega); have nx' : ¬ qb = w.heap.size := (by omega); replace HS := Lib.hid (HSA.out.read k1 (KRR.of_kr k2)); have cn := HS.out.c hq; have b0 : wn.cell? ⟨_, 0, none⟩ = some (.int .u32 0) := Lib.cell_of_heap HX.out 0; have f0 : wn.frozen? ⟨_, 0, none⟩ = false := Lib.frozen_of_heap HX.out 0; have b1 : wn.cell? ⟨_, 1, none⟩ = some (.int .u8 0) := Lib.cell_of_heap HX.out 1; have f1 : wn.frozen? ⟨_, 1, none⟩ = false := Lib.frozen_of_heap HX.out 1; have b2 : wn.cell? ⟨_, 2, none⟩ = some (.string ⟨#[]⟩) := Lib.cell_of_heap HX.out 2; have f2 : wn.frozen? ⟨_, 2, none⟩ = false := Lib.frozen_of_heap HX.out 2; have b3 : wn.cell? ⟨_, 3, none⟩ = some (.int .u32 0) := Lib.cell_of_heap HX.out 3; have f3 : wn.frozen? ⟨_, 3, none⟩ = false := Lib.frozen_of_heap HX.out 3; clear k1 k2) | (go_at_call 30; (with_reducible refine (readNum1 rb s _ _ HS.out.rd).mono ?_); rintro e wn ⟨rfl, k1, k2⟩; replace HX := Lib.hid ((k2.block _ (Array.getElem?_eq_some_iff.1 HX.out).1 (by have := HS.out.rlt; have := HS.out.sle; have := HS.out.slt; have := HXR.out; omega)).trans HX.out); replace HS := Lib.hid (HS.out.read k1 (KRR.of_kr k2)); have cn := HS.out.c hq; have b0 : wn.cell? ⟨_, 0, none⟩ = some (.int .u32 0) := Lib.cell_of_heap HX.out 0; have f0 : wn.frozen? ⟨_, 0, none⟩ = false := Lib.frozen_of_heap HX.out 0; have b1 : wn.cell? ⟨_, 1, none⟩ = some (.int .u8 0) := Lib.cell_of_heap HX.out 1; have f1 : wn.frozen? ⟨_, 1, none⟩ = false := Lib.frozen_of_heap HX.out 1; have b2 : wn.cell? ⟨_, 2, none⟩ = some (.string ⟨#[]⟩) := Lib.cell_of_heap HX.out 2; have f2 : wn.frozen? ⟨_, 2, none⟩ = false := Lib.frozen_of_heap HX.out 2; have b3 : wn.cell? ⟨_, 3, none⟩ = some (.int .u32 0) := Lib.cell_of_heap HX.out 3; have f3 : wn.frozen? ⟨_, 3, none⟩ = false := Lib.frozen_of_heap HX.out 3; clear k1 k2) | (go_at_call 30; (with_reducible refine (readNum1 rb s _ _ HS.out.rd).mono ?_); rintro e wn ⟨rfl, k1, k2⟩; replace HS := Lib.hid (HS.out.read k1 (KRR.of_kr k2)); have cn := HS.out.c hq; clear k1 k2) | (go_at_call 30; have HSB := Lib.hid (HS.out.keep (alloc_old wn (.cells #[.int .u32 0, .int .u8 0, .string ⟨#[]⟩, .int .u32 0] 49))); (with_reducible refine (readNum1 rb s _ _ HSB.out.rd).mono ?_); have HXR : Hid (w.heap.size ≤ wn.heap.size) := HS.out.rle; have nx : ¬ wn.heap.size = qb := (by have := (HS.out.q qb hq).2.2; have := HXR.out; omega); have nx' : ¬ qb = wn.heap.size := (by omega); have HXB : Hid ((wn.alloc (.cells #[.int .u32 0, .int .u8 0, .string ⟨#[]⟩, .int .u32 0] 49)).heap[wn.heap.size]? = some (.cells #[.int .u32 0, .int .u8 0, .string ⟨#[]⟩, .int .u32 0] 49)) := heap_alloc_new wn _; rintro e wn ⟨rfl, k1, k2⟩; have HX := Lib.hid ((k2.block _ (Array.getElem?_eq_some_iff.1 HXB.out).1 (by have := HS.out.rlt; have := HS.out.sle; have := HS.out.slt; have := HXR.out; omega)).trans HXB.out); replace HS := Lib.hid (HSB.out.read k1 (KRR.of_kr k2)); have cn := HS.out.c hq; have b0 : wn.cell? ⟨_, 0, none⟩ = some (.int .u32 0) := Lib.cell_of_heap HX.out 0; have f0 : wn.frozen? ⟨_, 0, none⟩ = false := Lib.frozen_of_heap HX.out 0; have b1 : wn.cell? ⟨_, 1, none⟩ = some (.int .u8 0) := Lib.cell_of_heap HX.out 1; have f1 : wn.frozen? ⟨_, 1, none⟩ = false := Lib.frozen_of_heap HX.out 1; have b2 : wn.cell? ⟨_, 2, none⟩ = some (.string ⟨#[]⟩) := Lib.cell_of_heap HX.out 2; have f2 : wn.frozen? ⟨_, 2, none⟩ = false := Lib.frozen_of_heap HX.out 2; have b3 : wn.cell? ⟨_, 3, none⟩ = some (.int .u32 0) := Lib.cell_of_heap HX.out 3; have f3 : wn.frozen? ⟨_, 3, none⟩ = false := Lib.frozen_of_heap HX.out 3; clear k1 k2) | (go_at_call 28; (with_reducible refine (readWord_any rb s _ _ HS.out.rd).mono ?_); rintro e wn ⟨rfl, k1, k2⟩; replace HX := Lib.hid ((k2.block _ (Array.getElem?_eq_some_iff.1 HX.out).1 (by have := HS.out.rlt; have := HS.out.sle; have := HS.out.slt; have := HXR.out; omega)).trans HX.out); replace HS := Lib.hid (HS.out.read k1 (KRR.of_kr k2)); have cn := HS.out.c hq; have b0 : wn.cell? ⟨_, 0, none⟩ = some (.int .u32 0) := Lib.cell_of_heap HX.out 0; have f0 : wn.frozen? ⟨_, 0, none⟩ = false := Lib.frozen_of_heap HX.out 0; have b1 : wn.cell? ⟨_, 1, none⟩ = some (.int .u8 0) := Lib.cell_of_heap HX.out 1; have f1 : wn.frozen? ⟨_, 1, none⟩ = false := Lib.frozen_of_heap HX.out 1; have b2 : wn.cell? ⟨_, 2, none⟩ = some (.string ⟨#[]⟩) := Lib.cell_of_heap HX.out 2; have f2 : wn.frozen? ⟨_, 2, none⟩ = false := Lib.frozen_of_heap HX.out 2; have b3 : wn.cell? ⟨_, 3, none⟩ = some (.int .u32 0) := Lib.cell_of_heap HX.out 3; have f3 : wn.frozen? ⟨_, 3, none⟩ = false := Lib.frozen_of_heap HX.out 3; clear k1 k2) | (go_at_call 28; (with_reducible refine (readWord_any rb s _ _ HS.out.rd).mono ?_); rintro e wn ⟨rfl, k1, k2⟩; replace HS := Lib.hid (HS.out.read k1 (KRR.of_kr k2)); have cn := HS.out.c hq; clear k1 k2) | (go_at_call 28; have HSB := Lib.hid (HS.out.keep (alloc_old wn (.cells #[.int .u32 0, .int .u8 0, .string ⟨#[]⟩, .int .u32 0] 49))); (with_reducible refine (readWord_any rb s _ _ HSB.out.rd).mono ?_); have HXR : Hid (w.heap.size ≤ wn.heap.size) := HS.out.rle; have nx : ¬ wn.heap.size = qb := (by have := (HS.out.q qb hq).2.2; have := HXR.out; omega); have nx' : ¬ qb = wn.heap.size := (by omega); have HXB : Hid ((wn.alloc (.cells #[.int .u32 0, .int .u8 0, .string ⟨#[]⟩, .int .u32 0] 49)).heap[wn.heap.size]? = some (.cells #[.int .u32 0, .int .u8 0, .string ⟨#[]⟩, .int .u32 0] 49)) := heap_alloc_new wn _; rintro e wn ⟨rfl, k1, k2⟩; have HX := Lib.hid ((k2.block _ (Array.getElem?_eq_some_iff.1 HXB.out).1 (by have := HS.out.rlt; have := HS.out.sle; have := HS.out.slt; have := HXR.out; omega)).trans HXB.out); replace HS := Lib.hid (HSB.out.read k1 (KRR.of_kr k2)); have cn := HS.out.c hq; have b0 : wn.cell? ⟨_, 0, none⟩ = some (.int .u32 0) := Lib.cell_of_heap HX.out 0; have f0 : wn.frozen? ⟨_, 0, none⟩ = false := Lib.frozen_of_heap HX.out 0; have b1 : wn.cell? ⟨_, 1, none⟩ = some (.int .u8 0) := Lib.cell_of_heap HX.out 1; have f1 : wn.frozen? ⟨_, 1, none⟩ = false := Lib.frozen_of_heap HX.out 1; have b2 : wn.cell? ⟨_, 2, none⟩ = some (.string ⟨#[]⟩) := Lib.cell_of_heap HX.out 2; have f2 : wn.frozen? ⟨_, 2, none⟩ = false := Lib.frozen_of_heap HX.out 2; have b3 : wn.cell? ⟨_, 3, none⟩ = some (.int .u32 0) := Lib.cell_of_heap HX.out 3; have f3 : wn.frozen? ⟨_, 3, none⟩ = false := Lib.frozen_of_heap HX.out 3; clear k1 k2)))
    all_goals
      go_wp2_with fail
      go_meet
      first
        | exact ⟨_, rfl, HS.out.rle, heap_alloc_new wn _, HS.out.keep (alloc_old _ _)⟩
        | exact ⟨_, rfl, HXR.out, box4 HX.out _ _ _ _, HS.out.still (((((KB.refl _ wn).setR HXR.out 0 _).setR HXR.out 1 _).setR HXR.out 2 _).setR HXR.out 3 _)⟩
  case rest =>
    obtain ⟨xb, rfl, hxr, hbx, hst⟩ := hcut
    clear HSA HXA HS c hwr hb0 hb1
    have HS := Lib.hid hst; clear hst
    have HX := Lib.hid hbx; clear hbx
    obtain ⟨wk, rfl⟩ : ∃ wk : World, wk = wc := ⟨_, rfl⟩
    have c := HS.out.c hq
    go_wp2_with fail
    refine (readNum4 rb s _ _ HS.out.rd).mono ?_
    rintro e wn ⟨rfl, k1, k2⟩
    replace HX := Lib.hid ((k2.block xb (Array.getElem?_eq_some_iff.1 HX.out).1 (by have := HS.out.rlt; have := HS.out.sle; have := HS.out.slt; omega)).trans HX.out)
    replace HS := Lib.hid (HS.out.read k1 (KRR.of_kr k2))
    clear c k1 k2
    have b3 : wn.cell? ⟨xb, 3, none⟩ = some (.int .u32 0) := Lib.cell_of_heap HX.out 3
    have f3 : wn.frozen? ⟨xb, 3, none⟩ = false := Lib.frozen_of_heap HX.out 3
    go_upto_region 2 with fail
    have HX2 : Hid ((wn.setCell ⟨xb, 3, none⟩ (.int .u32 (rRel st).1.add)).heap[xb]? = some (.cells #[.int .u32 (rRel st).1.off, .int .u8 (rRel st).1.kind, .string (rRel st).1.name, .int .u32 (rRel st).1.add] 49 (0, 0))) := by
      rw [Hid]; simp [World.setCell, Array.getElem?_modify, HX.out, rRel]
    have HS2 : Hid (SymSt w.heap.size Q sb rb s (rRel st).2 y w0 (wn.setCell ⟨xb, 3, none⟩ (.int .u32 (rRel st).1.add))) := HS.out.still ((KB.refl _ wn).setR hxr 3 _)
    clear HX HS b3 f3
    change Code.wp _ _ _ _ (wn.setCell ⟨xb, 3, none⟩ (.int .u32 (rRel st).1.add))
    generalize wn.setCell ⟨xb, 3, none⟩ (.int .u32 (rRel st).1.add) = wm at HX2 HS2 ⊢
    generalize hrr : rRel st = rr at HX2 HS2
    have HRR := Lib.hid hrr; clear hrr
    obtain ⟨⟨ro, rk, rn, ra⟩, rst⟩ := rr
    simp only [] at HX2 HS2
    obtain ⟨vr, vn, g1, g2, g3, -, -⟩ := HS2.out.y
    obtain ⟨pR, cR, rfl⟩ := own_shape g2
    have G1 := Lib.hid g1; have G2 := Lib.hid g2; have G3 := Lib.hid g3
    clear g1 g2 g3
    have s5 : wm.cell? ⟨sb, 5, none⟩ = some (.slice pR y.rels.length cR) := Lib.cell_of_heap G1.out 5
    have x0 : wm.cell? ⟨xb, 0, none⟩ = some (.int .u32 ro) := Lib.cell_of_heap HX2.out 0
    have x1 : wm.cell? ⟨xb, 1, none⟩ = some (.int .u8 rk) := Lib.cell_of_heap HX2.out 1
    have x2 : wm.cell? ⟨xb, 2, none⟩ = some (.string rn) := Lib.cell_of_heap HX2.out 2
    have x3 : wm.cell? ⟨xb, 3, none⟩ = some (.int .u32 ra) := Lib.cell_of_heap HX2.out 3
    obtain ⟨iR, r0, r1, r2, r3⟩ := info_parts info_rel
    have HA := Lib.hid (And.intro r0 (And.intro r1 (And.intro r2 r3)))
    clear r0 r1 r2 r3
    have hz0 := HS2.out.kb.size
    have hzs : sb < wm.heap.size := (Array.getElem?_eq_some_iff.1 G1.out).1
    go_wp2_with (at_builtin; refine wpList_append_own_at _ rfl _ _ 44 rfl w0.heap.size 49 iR _ 4 32 Tryd.underlying44 HA.out.1 HA.out.2.1 HA.out.2.2.1 HA.out.2.2.2 rfl (by decide) _ y.rels.length (y.rels.flatMap relCells) rfl ?c0 _ 1 1 (relCells ⟨ro, rk, rn, ra⟩) rfl rfl ?c1 ?c2 ?c3 ?c4 ?c5 ?_)
    case c0 => exact G2.out.alloc _
    case c1 =>
      intro j u hu
      rw [add_at, Nat.zero_add]
      match j, hu with
      | 0, hu => cases hu; simp [go_sem]
      | 1, hu => cases hu; simp [go_sem]
      | 2, hu => cases hu; simp [go_sem]
      | 3, hu => cases hu; simp [go_sem]
    case c2 =>
      intro u hu
      simp only [relCells, List.mem_cons, List.not_mem_nil, or_false] at hu
      rcases hu with rfl | rfl | rfl | rfl <;> rfl
    case c3 => unfold maxLen; omega
    case c4 => omega
    case c5 => simp; omega
    intro v' w2 hown hgrow _ _
    have HF := Lib.hid (HS2.out.addR (x := ⟨ro, rk, rn, ra⟩) G1.out G2.out G3.out (alloc_old _ _) hown hgrow)
    have hb : w2.heap[sb]? = wm.heap[sb]? := by rw [hgrow.block sb (by simp; omega) (fun e => own_ne_box G2.out G1.out (by decide) e.symm), Below.heap_alloc _ _ _ hzs]
    have t5 : w2.cell? ⟨sb, 5, none⟩ = some (.slice pR y.rels.length cR) := by rw [World.cell?_of_block (w := wm) hb]; exact s5
    have tf : w2.frozen? ⟨sb, 5, none⟩ = false := Lib.frozen_of_heap (hb.trans G1.out) 5
    obtain ⟨pv, cv, rfl⟩ := own_shape hown
    clear hown hgrow hb s5 x0 x1 x2 x3
    go_wp2
    go_end0
    rw [HRR.out]
    exact ⟨rfl, _, HF.out⟩
end Go.Proofs.YtfmmfbijkklceaaDoor
