/- The walks of objfile.reading's num and word. The walk of aediculeref08.Copy. The walks of objfile.reading.sym's two functions. append onto a row of one's own from whatever row of cells. No program in. -/
import Derived.Test.YtboegjdkedjhcaaGreatDoorBs13
import Derived.Test.YtboegjdkedjhcaaGreatDoorBs04
import Derived.Test.YtboegjdkedjhcaaGreatDoorBs07
import Derived.Maps.AppendAt
import Derived.Lib.Hide
import Derived.Deep.RegionHeld3
import Derived.Deep.CutRange
import Derived.Deep.Cut
import Derived.Deep.Quiet
import Derived.Deep.QuietTactic
import Derived.StillTail
import Derived.OrdersHeld
import Derived.WalkKit
namespace Go.Proofs.YtboegjdkedjhcaaGreatDoor
section
open Go.RowKit
def RNPost (rb n : Nat) (s : ByteArray) (st : RS) (w : World) (e : Ending) (w' : World) : Prop := e = .returned (.int .u32 (rNum n st).1) ∧ RdS w' rb s (rNum n st).2 ∧ KR rb w w'
def RWPost (rb : Nat) (s : ByteArray) (st : RS) (w : World) (e : Ending) (w' : World) : Prop := e = .returned (.string (rText st).1) ∧ RdS w' rb s (rText st).2 ∧ KR rb w w'
set_option maxHeartbeats 400000 in
theorem readNum_any (rb n : Nat) (s : ByteArray) (st : RS) (w : World) (h : RdS w rb s st) (h1 : 1 ≤ n) (h4 : n ≤ 4) :
 Calls Tryz.prog 90 #[.agg #[.pointer (some ⟨rb, 0, none⟩)], .int .i64 n] w (RNPost rb n s st w) := by
 have hlt := h.lt; have HC := Lib.hid (rdNum_any rb n s st (w.alloc (.cells #[.pointer (some ⟨rb, 0, none⟩)] 166)) (h.congr (Below.heap_alloc _ _ _ hlt)) h1 h4); clear h; go_enter Tryz.func90, Tryz.ntmps90; go_wp2_with fail; refine HC.out.mono ?_; rintro e w1 ⟨c, rfl, -, k1, k2⟩; have K1 := Lib.hid k1; have K2 := Lib.hid k2; clear k1 k2 HC; go_wp2; go_ret; exact ⟨rfl, K1.out, (KB.of_below (alloc_old w _)).trans K2.out⟩
theorem readNum1 (rb : Nat) (s : ByteArray) (st : RS) (w : World) (h : RdS w rb s st) : Calls Tryz.prog 90 #[.agg #[.pointer (some ⟨rb, 0, none⟩)], .int .i64 1] w (RNPost rb 1 s st w) := readNum_any rb 1 s st w h (by omega) (by omega)
theorem readNum2 (rb : Nat) (s : ByteArray) (st : RS) (w : World) (h : RdS w rb s st) : Calls Tryz.prog 90 #[.agg #[.pointer (some ⟨rb, 0, none⟩)], .int .i64 2] w (RNPost rb 2 s st w) := readNum_any rb 2 s st w h (by omega) (by omega)
theorem readNum4 (rb : Nat) (s : ByteArray) (st : RS) (w : World) (h : RdS w rb s st) : Calls Tryz.prog 90 #[.agg #[.pointer (some ⟨rb, 0, none⟩)], .int .i64 4] w (RNPost rb 4 s st w) := readNum_any rb 4 s st w h (by omega) (by omega)
set_option maxHeartbeats 400000 in
theorem readWord_any (rb : Nat) (s : ByteArray) (st : RS) (w : World) (h : RdS w rb s st) :
 Calls Tryz.prog 88 #[.agg #[.pointer (some ⟨rb, 0, none⟩)]] w (RWPost rb s st w) := by
 have hlt := h.lt; have HC := Lib.hid (rdText_any rb s st (w.alloc (.cells #[.pointer (some ⟨rb, 0, none⟩)] 166)) (h.congr (Below.heap_alloc _ _ _ hlt))); clear h; go_enter Tryz.func88, Tryz.ntmps88; go_wp2_with fail; refine HC.out.mono ?_; rintro e w1 ⟨c, rfl, -, k1, k2⟩; have K1 := Lib.hid k1; have K2 := Lib.hid k2; clear k1 k2 HC; go_wp2; go_ret; exact ⟨rfl, K1.out, (KB.of_below (alloc_old w _)).trans K2.out⟩
structure SymSt (R : Nat) (Q : Nat → Prop) (sb rb : Nat) (s : ByteArray) (st : RS) (y : GSym) (w0 w : World) : Prop where
 q : ∀ g, Q g → w.heap[g]? = some (.cells #[.pointer (some ⟨rb, 0, none⟩)] 166 (0, 0)) ∧ w0.heap.size ≤ g ∧ g < R
 y : ∃ vr vn, w.heap[sb]? = some (.cells #[.string y.name, .int .u8 y.bind, .int .u8 y.kind, .int .u32 y.size, .string y.bytes, vr, vn] 55 (0, 0)) ∧
   w.ownsRow w0.heap.size 133 4 vr y.rels.length (y.rels.flatMap relCells) ∧ w.ownsRow w0.heap.size 155 3 vn y.notes.length (y.notes.flatMap noteCells) ∧
   (∀ g, vr.ownBlock = some g → g < R) ∧ (∀ g, vn.ownBlock = some g → g < R)
 rd : RdS w rb s st
 kb : KR rb w0 w
 rlt : rb < w0.heap.size
 sle : w0.heap.size ≤ sb
 slt : sb < R
 rle : R ≤ w.heap.size
abbrev KRR (R rb : Nat) (w w' : World) : Prop := KB (fun g => g = rb ∨ R ≤ g) w w'
theorem KRR.of_kr {R rb : Nat} {w w' : World} (h : KR rb w w') : KRR R rb w w' := ⟨h.os, h.tape, h.output, h.size, fun k hk hs => h.block k hk fun e => hs (.inl e)⟩
theorem SymSt.read {R : Nat} {Q : Nat → Prop} {sb rb : Nat} {s : ByteArray} {st st' : RS} {y : GSym} {w0 w w' : World} (h : SymSt R Q sb rb s st y w0 w) (hr : RdS w' rb s st') (k : KRR R rb w w') : SymSt R Q sb rb s st' y w0 w' := by
 obtain ⟨vr, vn, h1, h2, h3, h4, h5⟩ := h.y; have r1 := h.rlt; have r3 := h.sle; have r5 := h.slt; have r6 := h.rle; have hk : ∀ g, g < R → g ≠ rb → w'.heap[g]? = w.heap[g]? := fun g hg hn => k.block g (by omega) (by rintro (e | e); exact hn e; omega)
 refine ⟨fun g hg => by obtain ⟨q1, q2, q3⟩ := h.q g hg; exact ⟨by rw [hk g q3 (by omega)]; exact q1, q2, q3⟩, ⟨vr, vn, by rw [hk sb r5 (by omega)]; exact h1, own_congr h2 fun g hg => hk g (h4 g hg) (by have := (h2.lt g hg).1; omega), own_congr h3 fun g hg => hk g (h5 g hg) (by have := (h3.lt g hg).1; omega), h4, h5⟩, hr, ?_, r1, r3, r5, Nat.le_trans r6 k.size⟩
 exact ⟨k.os.trans h.kb.os, k.tape.trans h.kb.tape, k.output.trans h.kb.output, Nat.le_trans h.kb.size k.size, fun g hg hn => (hk g (by omega) hn).trans (h.kb.block g hg hn)⟩
theorem SymSt.still {R : Nat} {Q : Nat → Prop} {sb rb : Nat} {s : ByteArray} {st : RS} {y : GSym} {w0 w w' : World} (h : SymSt R Q sb rb s st y w0 w) (k : KB (fun g => R ≤ g) w w') : SymSt R Q sb rb s st y w0 w' :=
 h.read (h.rd.congr (k.block rb h.rd.lt (by have := h.rlt; have := h.sle; have := h.slt; omega))) ⟨k.os, k.tape, k.output, k.size, fun g hg hs => k.block g hg fun e => hs (.inr e)⟩
theorem SymSt.keep {R : Nat} {Q : Nat → Prop} {sb rb : Nat} {s : ByteArray} {st : RS} {y : GSym} {w0 w w' : World} (h : SymSt R Q sb rb s st y w0 w) (k : Below w.heap.size w w') : SymSt R Q sb rb s st y w0 w' := h.still (KB.of_below k)
theorem SymSt.fresh {R : Nat} {Q : Nat → Prop} {sb rb : Nat} {s : ByteArray} {st : RS} {y : GSym} {w0 w : World} (h : SymSt R Q sb rb s st y w0 w) : SymSt w.heap.size Q sb rb s st y w0 w := by
 obtain ⟨vr, vn, h1, h2, h3, h4, h5⟩ := h.y; have := h.rle; exact ⟨fun g hg => by obtain ⟨q1, q2, q3⟩ := h.q g hg; exact ⟨q1, q2, by omega⟩, ⟨vr, vn, h1, h2, h3, fun g hg => (h2.lt g hg).2, fun g hg => (h3.lt g hg).2⟩, h.rd, h.kb, h.rlt, h.sle, by have := h.slt; omega, Nat.le_refl _⟩
theorem SymSt.c {R : Nat} {Q : Nat → Prop} {sb rb : Nat} {s : ByteArray} {st : RS} {y : GSym} {w0 w : World} (h : SymSt R Q sb rb s st y w0 w) {qb : Nat} (hq : Q qb) : w.cell? ⟨qb, 0, none⟩ = some (.pointer (some ⟨rb, 0, none⟩)) := Lib.cell_of_heap (h.q qb hq).1 0
end
section
open Go.RowKit Go.Maps Go.WideMaps
def SymOwn (base : Nat) (w : World) (r : Value) (t : SymT) : Prop :=
 w.ownsRow base 133 4 t.2.1 t.1.rels.length (t.1.rels.flatMap relCells) ∧ w.ownsRow base 155 3 t.2.2 t.1.notes.length (t.1.notes.flatMap noteCells) ∧
 (t.2.1.ownBlock = none ∨ t.2.1.ownBlock ≠ r.ownBlock) ∧ (t.2.2.ownBlock = none ∨ t.2.2.ownBlock ≠ r.ownBlock)
theorem SymOwn.keep {base : Nat} {w w' : World} {r : Value} {t : SymT} (hb : Below w.heap.size w w') (h : SymOwn base w r t) : SymOwn base w' r t := ⟨ownsRow_below hb h.1, ownsRow_below hb h.2.1, h.2.2⟩
theorem SymOwn.grown {base : Nat} {w w' : World} {r r' : Value} {t : SymT} (h : SymOwn base w r t) (hg : w.grownBy w' r.ownBlock) (hr : r'.ownBlock = r.ownBlock ∨ r'.ownBlock = some w.heap.size) : SymOwn base w' r' t := by
 obtain ⟨h1, h2, h3, h4⟩ := h; refine ⟨h1.kept hg h3, h2.kept hg h4, ?_, ?_⟩
 ·rcases hr with hr | hr
  ·rw [hr]; exact h3
  ·by_cases h5 : t.2.1.ownBlock = none
   ·exact .inl h5
   ·obtain ⟨k, hk⟩ := Option.ne_none_iff_exists'.1 h5; have := (h1.lt k hk).2; refine .inr ?_; rw [hr, hk]; intro h; cases h; omega
 ·rcases hr with hr | hr
  ·rw [hr]; exact h4
  ·by_cases h5 : t.2.2.ownBlock = none
   ·exact .inl h5
   ·obtain ⟨k, hk⟩ := Option.ne_none_iff_exists'.1 h5; have := (h2.lt k hk).2; refine .inr ?_; rw [hr, hk]; intro h; cases h; omega
theorem info_rel : (Tryz.prog.info? 133).map (fun i => (i.zero, i.size, i.bytes)) = some (some (.agg #[.int .u32 0, .int .u8 0, .string ⟨#[]⟩, .int .u32 0]), 4, 32) := by kernel_rfl
theorem info_note : (Tryz.prog.info? 155).map (fun i => (i.zero, i.size, i.bytes)) = some (some (.agg #[.int .u8 0, .int .u32 0, .int .u32 0]), 3, 12) := by kernel_rfl
theorem info_sym : (Tryz.prog.info? 55).map (fun i => (i.zero, i.size, i.bytes)) = some (some (.agg #[.string ⟨#[]⟩, .int .u8 0, .int .u8 0, .int .u32 0, .string ⟨#[]⟩, .slice none 0 0, .slice none 0 0]), 7, 88) := by kernel_rfl
theorem info_obj : (Tryz.prog.info? 50).map (fun i => (i.zero, i.size, i.bytes)) = some (some (.agg #[.string ⟨#[]⟩, .slice none 0 0]), 2, 40) := by kernel_rfl
theorem seven_news {w : World} {g : Nat} {t : SymT} (h : ∀ j u, j < 7 → (symCells t)[j]? = some u → w.cell? ⟨g, j, none⟩ = some u) : ∀ j u, (symCells t)[j]? = some u → w.cell? ((⟨g, 0, none⟩ : Addr).add j) = some u := by
 intro j u hu; have hj : j < 7 := (List.getElem?_eq_some_iff.1 hu).1; rw [add_at, Nat.zero_add]; exact h j u hj hu
theorem seven_one {t : SymT} {p1 p2 : Option Addr} {n1 c1 n2 c2 : Nat} (h1 : t.2.1 = .slice p1 n1 c1) (h2 : t.2.2 = .slice p2 n2 c2) : ∀ u ∈ symCells t, u.oneCell' = true := by
 intro u hu; simp only [symCells, List.mem_cons, List.not_mem_nil, or_false, h1, h2] at hu; rcases hu with rfl | rfl | rfl | rfl | rfl | rfl | rfl <;> rfl
end
section
open Go.RowKit Go.Maps
theorem box4 {w : World} {xb : Nat} {t : TypeId} {a b c d : Value} (h : w.heap[xb]? = some (.cells #[a, b, c, d] t (0, 0))) (a' b' c' d' : Value) :
 ((((w.setCell ⟨xb, 0, none⟩ a').setCell ⟨xb, 1, none⟩ b').setCell ⟨xb, 2, none⟩ c').setCell ⟨xb, 3, none⟩ d').heap[xb]? = some (.cells #[a', b', c', d'] t (0, 0)) := by
 simp [World.setCell, Array.getElem?_modify, h]
theorem box3 {w : World} {xb : Nat} {t : TypeId} {a b c : Value} (h : w.heap[xb]? = some (.cells #[a, b, c] t (0, 0))) (a' b' c' : Value) :
 (((w.setCell ⟨xb, 0, none⟩ a').setCell ⟨xb, 1, none⟩ b').setCell ⟨xb, 2, none⟩ c').heap[xb]? = some (.cells #[a', b', c'] t (0, 0)) := by
 simp [World.setCell, Array.getElem?_modify, h]
theorem KB.setR {R xb : Nat} {w w' : World} (h : KB (fun g => R ≤ g) w w') (hx : R ≤ xb) (j : Nat) (u : Value) : KB (fun g => R ≤ g) w (w'.setCell ⟨xb, j, none⟩ u) := KB.setCell h (.inl hx) u
def addRel (y : GSym) (x : GRel) : GSym := { y with rels := y.rels ++ [x] }
def addNote (y : GSym) (x : GNote) : GSym := { y with notes := y.notes ++ [x] }
theorem SymSt.addR {R : Nat} {Q : Nat → Prop} {sb rb : Nat} {s : ByteArray} {st : RS} {y : GSym} {w0 w1 wa w2 : World} {vr vn v' : Value} {x : GRel} (h : SymSt R Q sb rb s st y w0 w1)
 (hs : w1.heap[sb]? = some (.cells #[.string y.name, .int .u8 y.bind, .int .u8 y.kind, .int .u32 y.size, .string y.bytes, vr, vn] 55 (0, 0)))
 (hr : w1.ownsRow w0.heap.size 133 4 vr y.rels.length (y.rels.flatMap relCells)) (hn : w1.ownsRow w0.heap.size 155 3 vn y.notes.length (y.notes.flatMap noteCells))
 (ha : Below w1.heap.size w1 wa) (ho : w2.ownsRow w0.heap.size 133 4 v' (y.rels.length + 1) (y.rels.flatMap relCells ++ relCells x)) (hg : wa.grownBy w2 vr.ownBlock) :
 SymSt (w2.setCell ⟨sb, 5, none⟩ v').heap.size Q sb rb s st (addRel y x) w0 (w2.setCell ⟨sb, 5, none⟩ v') := by
 have r1 := h.rlt; have r3 := h.sle; have r5 := h.slt; have r6 := h.rle; have z1 := ha.size; have z2 := hg.size; have hz : (w2.setCell ⟨sb, 5, none⟩ v').heap.size = w2.heap.size := by simp
 have hk : ∀ g, g < w1.heap.size → vr.ownBlock ≠ some g → w2.heap[g]? = w1.heap[g]? := fun g hg' hne => by
  rw [hg.block g (by omega) (fun e => hne e.symm), ha.block g hg']
 have hs2 := hk sb (by omega) (own_ne_box hr hs (by decide))
 have hset : ∀ g, g ≠ sb → (w2.setCell ⟨sb, 5, none⟩ v').heap[g]? = w2.heap[g]? := fun g hgs => Below.heap_setCell _ _ _ _ (by simpa using hgs)
 have hqs : ∀ g, Q g → g ≠ sb := fun g hg e => by have h2 := (h.q g hg).1; rw [e, hs] at h2; simp at h2
 have hrb : vr.ownBlock ≠ some rb := fun e => by have := (hr.lt rb e).1; omega
 have hn2 : w2.ownsRow w0.heap.size 155 3 vn y.notes.length (y.notes.flatMap noteCells) := own_congr hn fun g hg' => hk g (hn.lt g hg').2 fun e => own_ne hr hn (by decide) e hg'
 have hs2' : w2.heap[sb]? = some (.cells #[.string y.name, .int .u8 y.bind, .int .u8 y.kind, .int .u32 y.size, .string y.bytes, vr, vn] 55 (0, 0)) := hs2.trans hs; have e1 : (addRel y x).rels.length = y.rels.length + 1 := by simp [addRel]
 have e2 : (addRel y x).rels.flatMap relCells = y.rels.flatMap relCells ++ relCells x := by simp [addRel]
 have ho3 : (w2.setCell ⟨sb, 5, none⟩ v').ownsRow w0.heap.size 133 4 v' (addRel y x).rels.length ((addRel y x).rels.flatMap relCells) := by
  rw [e1, e2]; exact own_congr ho fun g hg' => hset g fun e => own_ne_box ho (e ▸ hs2') (by decide) hg'
 have hn3 : (w2.setCell ⟨sb, 5, none⟩ v').ownsRow w0.heap.size 155 3 vn y.notes.length (y.notes.flatMap noteCells) := own_congr hn2 fun g hg' => hset g fun e => own_ne_box hn2 (e ▸ hs2') (by decide) hg'
 refine ⟨fun g hg => by obtain ⟨q1, q2, q3⟩ := h.q g hg; exact ⟨by rw [hset g (hqs g hg), hk g (by omega) (own_ne_box hr q1 (by decide))]; exact q1, q2, by rw [hz]; omega⟩, ⟨v', vn, ?_, ho3, hn3, fun g hg' => (ho3.lt g hg').2, fun g hg' => (hn3.lt g hg').2⟩, ?_, ?_, r1, r3, by rw [hz]; omega, Nat.le_refl _⟩
 ·simp [World.setCell, Array.getElem?_modify, hs2', addRel]
 ·exact h.rd.congr (by rw [hset rb (by omega), hk rb (by omega) hrb])
 ·have hg0 := h.kb.grown (w' := w2) (r := vr.ownBlock) ⟨hg.os.trans ha.os, hg.tape.trans ha.tape, hg.output.trans ha.output, Nat.le_trans z1 z2, fun k hk' hne => hk k hk' (fun e => hne e.symm)⟩ (fun k e => .inr (hr.lt k e).1)
  exact KB.setCell hg0 (.inr r3) _
set_option maxRecDepth 100000 in
set_option maxHeartbeats 2000000 in
theorem sym1_any (R : Nat) (Q : Nat → Prop) (qb sb rb : Nat) (hq : Q qb) (s : ByteArray) (st : RS) (y : GSym) (w0 w : World) (h : SymSt R Q sb rb s st y w0 w) (hlen : y.rels.length ≤ 70000) :
 Calls Tryz.prog 130 #[.pointer (some ⟨qb, 0, none⟩), .pointer (some ⟨sb, 0, none⟩)] w fun e w' => e = .returned (.tuple #[]) ∧ ∃ R', SymSt R' Q sb rb s (rRel st).2 (addRel y (rRel st).1) w0 w' := by
 replace h := h.fresh; have c := h.c hq; have HS : Hid (SymSt w.heap.size Q sb rb s st y w0 w.drew) := h.keep (Below.refl _ _).drew; have HSA : Hid (SymSt w.heap.size Q sb rb s st y w0 (w.alloc (.cells #[.int .u32 0, .int .u8 0, .string ⟨#[]⟩, .int .u32 0] 133)).drew) := h.keep (alloc_old _ _).drew; have HXA : Hid ((w.alloc (.cells #[.int .u32 0, .int .u8 0, .string ⟨#[]⟩, .int .u32 0] 133)).drew.heap[w.heap.size]? = some (.cells #[.int .u32 0, .int .u8 0, .string ⟨#[]⟩, .int .u32 0] 133)) := heap_alloc_new w _; have hbd := rNum_bd 1 (rNum 4 st).2; rw [p1] at hbd; have hb0 := hbd.1; have hb1 : (rNum 1 (rNum 4 st).2).1 ≤ 255 := by omega
 have hwr : IntKind.u8.wrap (rNum 1 (rNum 4 st).2).1 = (rNum 1 (rNum 4 st).2).1 := by rw [IntKind.wrap_u8]; omega
 clear h hbd; go_enter Tryz.func130, Tryz.ntmps130; go_wp2
 go_cut [2] from 3 to 19 (fun s2 wx => ∃ xb, s2 = .pointer (some ⟨xb, 0, none⟩) ∧ w.heap.size ≤ xb ∧ wx.heap[xb]? = some (.cells #[.int .u32 (rNum 4 st).1, .int .u8 (rNum 1 (rNum 4 st).2).1, .string (rText (rNum 1 (rNum 4 st).2).2).1, .int .u32 0] 133 (0, 0)) ∧ SymSt w.heap.size Q sb rb s (rText (rNum 1 (rNum 4 st).2).2).2 y w0 wx)
 case first =>
  go_region_held3 (fun w' => w'.cell? ⟨qb, 0, none⟩ = some (.pointer (some ⟨rb, 0, none⟩))) (go_keep) ((first | (go_at_call 90; (with_reducible refine (readNum4 rb s _ _ HS.out.rd).mono ?_); rintro e wn ⟨rfl, k1, k2⟩; replace HX := Lib.hid ((k2.block _ (Array.getElem?_eq_some_iff.1 HX.out).1 (by have := HS.out.rlt; have := HS.out.sle; have := HS.out.slt; have := HXR.out; omega)).trans HX.out); replace HS := Lib.hid (HS.out.read k1 (KRR.of_kr k2)); have cn := HS.out.c hq; have b0 : wn.cell? ⟨_, 0, none⟩ = some (.int .u32 0) := Lib.cell_of_heap HX.out 0; have f0 : wn.frozen? ⟨_, 0, none⟩ = false := Lib.frozen_of_heap HX.out 0; have b1 : wn.cell? ⟨_, 1, none⟩ = some (.int .u8 0) := Lib.cell_of_heap HX.out 1; have f1 : wn.frozen? ⟨_, 1, none⟩ = false := Lib.frozen_of_heap HX.out 1; have b2 : wn.cell? ⟨_, 2, none⟩ = some (.string ⟨#[]⟩) := Lib.cell_of_heap HX.out 2; have f2 : wn.frozen? ⟨_, 2, none⟩ = false := Lib.frozen_of_heap HX.out 2; have b3 : wn.cell? ⟨_, 3, none⟩ = some (.int .u32 0) := Lib.cell_of_heap HX.out 3; have f3 : wn.frozen? ⟨_, 3, none⟩ = false := Lib.frozen_of_heap HX.out 3; clear k1 k2) | (go_at_call 90; (with_reducible refine (readNum4 rb s _ _ HS.out.rd).mono ?_); rintro e wn ⟨rfl, k1, k2⟩; replace HS := Lib.hid (HS.out.read k1 (KRR.of_kr k2)); have cn := HS.out.c hq; clear k1 k2) | (go_at_call 90; (with_reducible refine (readNum4 rb s _ _ HSA.out.rd).mono ?_); rintro e wn ⟨rfl, k1, k2⟩; have HX := Lib.hid ((k2.block _ (Array.getElem?_eq_some_iff.1 HXA.out).1 (by have := HS.out.rlt; have := HS.out.sle; have := HS.out.slt; omega)).trans HXA.out); have HXR : Hid (w.heap.size ≤ w.heap.size) := Nat.le_refl _; have nx : ¬ w.heap.size = qb := (by have := (HS.out.q qb hq).2.2; omega); have nx' : ¬ qb = w.heap.size := (by omega); replace HS := Lib.hid (HSA.out.read k1 (KRR.of_kr k2)); have cn := HS.out.c hq; have b0 : wn.cell? ⟨_, 0, none⟩ = some (.int .u32 0) := Lib.cell_of_heap HX.out 0; have f0 : wn.frozen? ⟨_, 0, none⟩ = false := Lib.frozen_of_heap HX.out 0; have b1 : wn.cell? ⟨_, 1, none⟩ = some (.int .u8 0) := Lib.cell_of_heap HX.out 1; have f1 : wn.frozen? ⟨_, 1, none⟩ = false := Lib.frozen_of_heap HX.out 1; have b2 : wn.cell? ⟨_, 2, none⟩ = some (.string ⟨#[]⟩) := Lib.cell_of_heap HX.out 2; have f2 : wn.frozen? ⟨_, 2, none⟩ = false := Lib.frozen_of_heap HX.out 2; have b3 : wn.cell? ⟨_, 3, none⟩ = some (.int .u32 0) := Lib.cell_of_heap HX.out 3; have f3 : wn.frozen? ⟨_, 3, none⟩ = false := Lib.frozen_of_heap HX.out 3; clear k1 k2) | (go_at_call 90; (with_reducible refine (readNum1 rb s _ _ HS.out.rd).mono ?_); rintro e wn ⟨rfl, k1, k2⟩; replace HX := Lib.hid ((k2.block _ (Array.getElem?_eq_some_iff.1 HX.out).1 (by have := HS.out.rlt; have := HS.out.sle; have := HS.out.slt; have := HXR.out; omega)).trans HX.out); replace HS := Lib.hid (HS.out.read k1 (KRR.of_kr k2)); have cn := HS.out.c hq; have b0 : wn.cell? ⟨_, 0, none⟩ = some (.int .u32 0) := Lib.cell_of_heap HX.out 0; have f0 : wn.frozen? ⟨_, 0, none⟩ = false := Lib.frozen_of_heap HX.out 0; have b1 : wn.cell? ⟨_, 1, none⟩ = some (.int .u8 0) := Lib.cell_of_heap HX.out 1; have f1 : wn.frozen? ⟨_, 1, none⟩ = false := Lib.frozen_of_heap HX.out 1; have b2 : wn.cell? ⟨_, 2, none⟩ = some (.string ⟨#[]⟩) := Lib.cell_of_heap HX.out 2; have f2 : wn.frozen? ⟨_, 2, none⟩ = false := Lib.frozen_of_heap HX.out 2; have b3 : wn.cell? ⟨_, 3, none⟩ = some (.int .u32 0) := Lib.cell_of_heap HX.out 3; have f3 : wn.frozen? ⟨_, 3, none⟩ = false := Lib.frozen_of_heap HX.out 3; clear k1 k2) | (go_at_call 90; (with_reducible refine (readNum1 rb s _ _ HS.out.rd).mono ?_); rintro e wn ⟨rfl, k1, k2⟩; replace HS := Lib.hid (HS.out.read k1 (KRR.of_kr k2)); have cn := HS.out.c hq; clear k1 k2) | (go_at_call 90; have HSB := Lib.hid (HS.out.keep (alloc_old wn (.cells #[.int .u32 0, .int .u8 0, .string ⟨#[]⟩, .int .u32 0] 133))); (with_reducible refine (readNum1 rb s _ _ HSB.out.rd).mono ?_); have HXR : Hid (w.heap.size ≤ wn.heap.size) := HS.out.rle; have nx : ¬ wn.heap.size = qb := (by have := (HS.out.q qb hq).2.2; have := HXR.out; omega); have nx' : ¬ qb = wn.heap.size := (by omega); have HXB : Hid ((wn.alloc (.cells #[.int .u32 0, .int .u8 0, .string ⟨#[]⟩, .int .u32 0] 133)).heap[wn.heap.size]? = some (.cells #[.int .u32 0, .int .u8 0, .string ⟨#[]⟩, .int .u32 0] 133)) := heap_alloc_new wn _; rintro e wn ⟨rfl, k1, k2⟩; have HX := Lib.hid ((k2.block _ (Array.getElem?_eq_some_iff.1 HXB.out).1 (by have := HS.out.rlt; have := HS.out.sle; have := HS.out.slt; have := HXR.out; omega)).trans HXB.out); replace HS := Lib.hid (HSB.out.read k1 (KRR.of_kr k2)); have cn := HS.out.c hq; have b0 : wn.cell? ⟨_, 0, none⟩ = some (.int .u32 0) := Lib.cell_of_heap HX.out 0; have f0 : wn.frozen? ⟨_, 0, none⟩ = false := Lib.frozen_of_heap HX.out 0; have b1 : wn.cell? ⟨_, 1, none⟩ = some (.int .u8 0) := Lib.cell_of_heap HX.out 1; have f1 : wn.frozen? ⟨_, 1, none⟩ = false := Lib.frozen_of_heap HX.out 1; have b2 : wn.cell? ⟨_, 2, none⟩ = some (.string ⟨#[]⟩) := Lib.cell_of_heap HX.out 2; have f2 : wn.frozen? ⟨_, 2, none⟩ = false := Lib.frozen_of_heap HX.out 2; have b3 : wn.cell? ⟨_, 3, none⟩ = some (.int .u32 0) := Lib.cell_of_heap HX.out 3; have f3 : wn.frozen? ⟨_, 3, none⟩ = false := Lib.frozen_of_heap HX.out 3; clear k1 k2) | (go_at_call 88; (with_reducible refine (readWord_any rb s _ _ HS.out.rd).mono ?_); rintro e wn ⟨rfl, k1, k2⟩; replace HX := Lib.hid ((k2.block _ (Array.getElem?_eq_some_iff.1 HX.out).1 (by have := HS.out.rlt; have := HS.out.sle; have := HS.out.slt; have := HXR.out; omega)).trans HX.out); replace HS := Lib.hid (HS.out.read k1 (KRR.of_kr k2)); have cn := HS.out.c hq; have b0 : wn.cell? ⟨_, 0, none⟩ = some (.int .u32 0) := Lib.cell_of_heap HX.out 0; have f0 : wn.frozen? ⟨_, 0, none⟩ = false := Lib.frozen_of_heap HX.out 0; have b1 : wn.cell? ⟨_, 1, none⟩ = some (.int .u8 0) := Lib.cell_of_heap HX.out 1; have f1 : wn.frozen? ⟨_, 1, none⟩ = false := Lib.frozen_of_heap HX.out 1; have b2 : wn.cell? ⟨_, 2, none⟩ = some (.string ⟨#[]⟩) := Lib.cell_of_heap HX.out 2; have f2 : wn.frozen? ⟨_, 2, none⟩ = false := Lib.frozen_of_heap HX.out 2; have b3 : wn.cell? ⟨_, 3, none⟩ = some (.int .u32 0) := Lib.cell_of_heap HX.out 3; have f3 : wn.frozen? ⟨_, 3, none⟩ = false := Lib.frozen_of_heap HX.out 3; clear k1 k2) | (go_at_call 88; (with_reducible refine (readWord_any rb s _ _ HS.out.rd).mono ?_); rintro e wn ⟨rfl, k1, k2⟩; replace HS := Lib.hid (HS.out.read k1 (KRR.of_kr k2)); have cn := HS.out.c hq; clear k1 k2) | (go_at_call 88; have HSB := Lib.hid (HS.out.keep (alloc_old wn (.cells #[.int .u32 0, .int .u8 0, .string ⟨#[]⟩, .int .u32 0] 133))); (with_reducible refine (readWord_any rb s _ _ HSB.out.rd).mono ?_); have HXR : Hid (w.heap.size ≤ wn.heap.size) := HS.out.rle; have nx : ¬ wn.heap.size = qb := (by have := (HS.out.q qb hq).2.2; have := HXR.out; omega); have nx' : ¬ qb = wn.heap.size := (by omega); have HXB : Hid ((wn.alloc (.cells #[.int .u32 0, .int .u8 0, .string ⟨#[]⟩, .int .u32 0] 133)).heap[wn.heap.size]? = some (.cells #[.int .u32 0, .int .u8 0, .string ⟨#[]⟩, .int .u32 0] 133)) := heap_alloc_new wn _; rintro e wn ⟨rfl, k1, k2⟩; have HX := Lib.hid ((k2.block _ (Array.getElem?_eq_some_iff.1 HXB.out).1 (by have := HS.out.rlt; have := HS.out.sle; have := HS.out.slt; have := HXR.out; omega)).trans HXB.out); replace HS := Lib.hid (HSB.out.read k1 (KRR.of_kr k2)); have cn := HS.out.c hq; have b0 : wn.cell? ⟨_, 0, none⟩ = some (.int .u32 0) := Lib.cell_of_heap HX.out 0; have f0 : wn.frozen? ⟨_, 0, none⟩ = false := Lib.frozen_of_heap HX.out 0; have b1 : wn.cell? ⟨_, 1, none⟩ = some (.int .u8 0) := Lib.cell_of_heap HX.out 1; have f1 : wn.frozen? ⟨_, 1, none⟩ = false := Lib.frozen_of_heap HX.out 1; have b2 : wn.cell? ⟨_, 2, none⟩ = some (.string ⟨#[]⟩) := Lib.cell_of_heap HX.out 2; have f2 : wn.frozen? ⟨_, 2, none⟩ = false := Lib.frozen_of_heap HX.out 2; have b3 : wn.cell? ⟨_, 3, none⟩ = some (.int .u32 0) := Lib.cell_of_heap HX.out 3; have f3 : wn.frozen? ⟨_, 3, none⟩ = false := Lib.frozen_of_heap HX.out 3; clear k1 k2)))
  all_goals
   go_wp2_with fail
   go_meet
   first
    | exact ⟨_, rfl, HS.out.rle, heap_alloc_new wn _, HS.out.keep (alloc_old _ _)⟩
    | exact ⟨_, rfl, HXR.out, box4 HX.out _ _ _ _, HS.out.still (((((KB.refl _ wn).setR HXR.out 0 _).setR HXR.out 1 _).setR HXR.out 2 _).setR HXR.out 3 _)⟩
 case rest =>
  obtain ⟨xb, rfl, hxr, hbx, hst⟩ := hcut; clear HSA HXA HS c hwr hb0 hb1; have HS := Lib.hid hst; clear hst; have HX := Lib.hid hbx; clear hbx; obtain ⟨wk, rfl⟩ : ∃ wk : World, wk = wc := ⟨_, rfl⟩; have c := HS.out.c hq; go_wp2_with fail; refine (readNum4 rb s _ _ HS.out.rd).mono ?_; rintro e wn ⟨rfl, k1, k2⟩; replace HX := Lib.hid ((k2.block xb (Array.getElem?_eq_some_iff.1 HX.out).1 (by have := HS.out.rlt; have := HS.out.sle; have := HS.out.slt; omega)).trans HX.out)
  replace HS := Lib.hid (HS.out.read k1 (KRR.of_kr k2)); clear c k1 k2; have b3 : wn.cell? ⟨xb, 3, none⟩ = some (.int .u32 0) := Lib.cell_of_heap HX.out 3; have f3 : wn.frozen? ⟨xb, 3, none⟩ = false := Lib.frozen_of_heap HX.out 3; go_upto_region 2 with fail
  have HX2 : Hid ((wn.setCell ⟨xb, 3, none⟩ (.int .u32 (rRel st).1.add)).heap[xb]? = some (.cells #[.int .u32 (rRel st).1.off, .int .u8 (rRel st).1.kind, .string (rRel st).1.name, .int .u32 (rRel st).1.add] 133 (0, 0))) := by
   rw [Hid]; simp [World.setCell, Array.getElem?_modify, HX.out, rRel]
  have HS2 : Hid (SymSt w.heap.size Q sb rb s (rRel st).2 y w0 (wn.setCell ⟨xb, 3, none⟩ (.int .u32 (rRel st).1.add))) := HS.out.still ((KB.refl _ wn).setR hxr 3 _); clear HX HS b3 f3; change Code.wp _ _ _ _ (wn.setCell ⟨xb, 3, none⟩ (.int .u32 (rRel st).1.add)); generalize wn.setCell ⟨xb, 3, none⟩ (.int .u32 (rRel st).1.add) = wm at HX2 HS2 ⊢; generalize hrr : rRel st = rr at HX2 HS2; have HRR := Lib.hid hrr; clear hrr; obtain ⟨⟨ro, rk, rn, ra⟩, rst⟩ := rr; simp only [] at HX2 HS2; obtain ⟨vr, vn, g1, g2, g3, -, -⟩ := HS2.out.y; obtain ⟨pR, cR, rfl⟩ := own_shape g2; have G1 := Lib.hid g1; have G2 := Lib.hid g2; have G3 := Lib.hid g3; clear g1 g2 g3; have s5 : wm.cell? ⟨sb, 5, none⟩ = some (.slice pR y.rels.length cR) := Lib.cell_of_heap G1.out 5; have x0 : wm.cell? ⟨xb, 0, none⟩ = some (.int .u32 ro) := Lib.cell_of_heap HX2.out 0; have x1 : wm.cell? ⟨xb, 1, none⟩ = some (.int .u8 rk) := Lib.cell_of_heap HX2.out 1; have x2 : wm.cell? ⟨xb, 2, none⟩ = some (.string rn) := Lib.cell_of_heap HX2.out 2; have x3 : wm.cell? ⟨xb, 3, none⟩ = some (.int .u32 ra) := Lib.cell_of_heap HX2.out 3; obtain ⟨iR, r0, r1, r2, r3⟩ := info_parts info_rel; have HA := Lib.hid (And.intro r0 (And.intro r1 (And.intro r2 r3))); clear r0 r1 r2 r3; have hz0 := HS2.out.kb.size; have hzs : sb < wm.heap.size := (Array.getElem?_eq_some_iff.1 G1.out).1
  go_wp2_with (at_builtin; refine wpList_append_own_at _ rfl _ _ 52 rfl w0.heap.size 133 iR _ 4 32 Tryz.underlying52 HA.out.1 HA.out.2.1 HA.out.2.2.1 HA.out.2.2.2 rfl (by decide) _ y.rels.length (y.rels.flatMap relCells) rfl ?c0 _ 1 1 (relCells ⟨ro, rk, rn, ra⟩) rfl rfl ?c1 ?c2 ?c3 ?c4 ?c5 ?_)
  case c0 => exact G2.out.alloc _
  case c1 =>
   intro j u hu; rw [add_at, Nat.zero_add]
   match j, hu with
   | 0, hu => cases hu; simp [go_sem]
   | 1, hu => cases hu; simp [go_sem]
   | 2, hu => cases hu; simp [go_sem]
   | 3, hu => cases hu; simp [go_sem]
  case c2 =>
   intro u hu; simp only [relCells, List.mem_cons, List.not_mem_nil, or_false] at hu; rcases hu with rfl | rfl | rfl | rfl <;> rfl
  case c3 => unfold maxLen; omega
  case c4 => omega
  case c5 => simp; omega
  intro v' w2 hown hgrow _ _; have HF := Lib.hid (HS2.out.addR (x := ⟨ro, rk, rn, ra⟩) G1.out G2.out G3.out (alloc_old _ _) hown hgrow); have hb : w2.heap[sb]? = wm.heap[sb]? := by rw [hgrow.block sb (by simp; omega) (fun e => own_ne_box G2.out G1.out (by decide) e.symm), Below.heap_alloc _ _ _ hzs]
  have t5 : w2.cell? ⟨sb, 5, none⟩ = some (.slice pR y.rels.length cR) := by rw [World.cell?_of_block (w := wm) hb]; exact s5
  have tf : w2.frozen? ⟨sb, 5, none⟩ = false := Lib.frozen_of_heap (hb.trans G1.out) 5; obtain ⟨pv, cv, rfl⟩ := own_shape hown; clear hown hgrow hb s5 x0 x1 x2 x3; go_wp2; go_end0; rw [HRR.out]; exact ⟨rfl, _, HF.out⟩
end
section
open Go.RowKit
theorem run_append_own_empty {P : Program} {w : World} (base : Nat) (t ty e : TypeId) (i : TypeInfo) (size : Nat) (ht : P.underlying t = some (.slice e)) (hi : P.info? e = some i)
 (v : Value) (n : Nat) (xs : List Value) (hown : w.ownsRow base e size v n xs) (p : Option Addr) (c : Nat) :
 (Builtin.append_ #[t, t] ty #[v, .slice p 0 c]).run P w = .ok v w := by
 rcases hown.2 with ⟨rfl, rfl⟩ | ⟨g, cap, cur, rfl, _, _, hnc, _⟩
 ·cases p <;> simp [Builtin.append_, run_underlying ht, sizeOf, typeInfo, hi, Builtin.lenOf, Builtin.firstCells, loadCells, loadCellsFrom]
 ·cases p <;> simp [Builtin.append_, run_underlying ht, sizeOf, typeInfo, hi, Builtin.lenOf, Builtin.firstCells, hnc, storeCells, loadCells, loadCellsFrom]
theorem wpList_append_src {P : Program} {w : World} {ops : Array Oper} {rest : List Oper} {o : Oper} {a : Act} {Q : Exit → Act → World → Prop} (hgd : o.guard = none) (s x : Operand) (t : TypeId)
 (ho : o.op = .call { callee := .builtin .append, args := #[s, x], argTypes := #[t, t] })
 (base : Nat) (e : TypeId) (i : TypeInfo) (z : Value) (size bytes : Nat) (ht : P.underlying t = some (.slice e)) (hi : P.info? e = some i) (hz : i.zero = some z)
 (hsize : i.size = size) (hby : i.bytes = bytes) (hzs : z.cells.size = size) (hsz : 0 < size) (v : Value) (n : Nat) (xs : List Value) (hs : a.eval s = v) (hown : w.ownsRow base e size v n xs)
 (p : Option Addr) (m c b off : Nat) (news : List Value) (hx : a.eval x = .slice p m c) (hp : 0 < m → p = some ⟨b, off, none⟩) (hl : news.length = m * size) (hnews : 0 < m → ∀ j u, news[j]? = some u → w.cell? ((⟨b, off, none⟩ : Addr).add j) = some u) (h1 : ∀ u ∈ news, u.oneCell' = true)
 (hm : n + m ≤ maxLen) (hbytes : (n + m) * bytes ≤ 140737488355328) (hbase : base ≤ w.heap.size)
 (h : ∀ v' w', w'.ownsRow base e size v' (n + m) (xs ++ news) → w.grownBy w' v.ownBlock → wpList P ops Q rest (a.put o.dst v') w') : wpList P ops Q (o :: rest) a w := by
 by_cases h0 : m = 0
 ·subst h0; refine wpList_plain hgd fun K hK => ?_
  have hrun := run_append_own_empty (P := P) (w := w) base t o.type e i size ht hi v n xs hown p c; have hn : news = [] := List.eq_nil_of_length_eq_zero (by rw [hl, Nat.zero_mul])
  subst hn; unfold Oper.wp; simp [execOp, ho, resolve, invoke, builtin, hs, hx, hrun, Result.andThen]; exact hK _ _ (h _ _ (by simpa using hown) (World.grownBy.refl w _))
 ·obtain rfl := hp (by omega)
  refine wpList_append_own w hgd s x t ho base e i z size bytes ht hi hz hsize hby hzs hsz v n xs hs hown _ m c news hx hl (hnews (by omega)) h1 hm hbytes hbase ?_
  intro v' w' h2 h3 _; exact h v' w' h2 h3
end
section
open Go.RowKit
structure HW (S : World → Prop) where
 u : World
 h : S u
section
variable {P : Program} {ops : Array Oper} {Q : Exit → Act → World → Prop} {md : Region.Mode} {S : World → Prop} {t : Nat}
def wpAnyT (P : Program) (md : Region.Mode) (ops : Array Oper) (Q : Exit → Act → World → Prop) (S : World → Prop) (t : Nat) : Nat → Array Bool → Act → World → Prop
 | 0, listed, a, w => Region.ready md ops listed = [] ∧ Q .normal a w
 | fuel + 1, listed, a, w =>
   (Region.ready md ops listed = [] → Q .normal a w) ∧
   ∀ i ∈ Region.ready md ops listed, wpOp P ops Q i (fun a' w' => ((listed.setIfInBounds i true).getD t true = false → S w') ∧ wpAnyT P md ops Q S t fuel (listed.setIfInBounds i true) a' w') a w
theorem wpAny_of_T : ∀ (fuel : Nat) (listed : Array Bool) (a : Act) (w : World), wpAnyT P md ops Q S t fuel listed a w → wpAny P md ops Q fuel listed a w
 | 0, _, _, _, h => h
 | fuel + 1, _, _, _, h => ⟨h.1, fun i hi => wpOp_mono (fun a' w' h' => wpAny_of_T fuel _ a' w' h'.2) (h.2 i hi)⟩
theorem wpAnyT_first {i : Nat} {oi : Oper} {v : Value} (hi : ops[i]? = some oi) (hsel : ∀ (j : Nat) (o : Oper) cs b, ops[j]? = some o → o.op ≠ .select cs b)
 (hQ : ∀ c a w, Q (.panic c) (a.put oi.dst v) w → Q (.panic c) a w) (hwt : Region.waitsFor md ops t i = true) (hti : t ≠ i) :
 ∀ (fuel : Nat) (listed : Array Bool) (a : Act) (w : World),
   (∀ j oj, ops[j]? = some oj → j ≠ i → listed.getD j true = false → (∀ e ∈ oj.after, Region.binds md e = true → e.on ≠ i) → oi.apart ops oj = true) →
   i ∈ Region.ready md ops listed → listed.getD t true = false → YieldsIf P ops S oi v a → S w →
   wpAnyT P md ops Q S t fuel (listed.setIfInBounds i true) (a.put oi.dst v) w → wpAnyT P md ops Q S t (fuel + 1) listed a w := by
 intro fuel
 induction fuel with
 | zero =>
   intro listed a w _ hr _ hy hS H; refine ⟨fun h => (by rw [h] at hr; cases hr), fun j hj => ?_⟩
   by_cases hji : j = i
   ·subst hji; exact hy.wpOp hi hS ⟨fun _ => hS, H⟩
   ·have := ready_mono hj hji; rw [H.1] at this; cases this
 | succ fuel ih =>
   intro listed a w hfree hr ht hy hS H; refine ⟨fun h => (by rw [h] at hr; cases hr), fun j hj => ?_⟩
   by_cases hji : j = i
   ·subst hji; exact hy.wpOp hi hS ⟨fun _ => hS, H⟩
   ·have h1 := H.2 j (ready_mono hj hji); obtain ⟨hjun, oj, hoj, hall⟩ := mem_ready.1 hj
    have hnot : ∀ e ∈ oj.after, Region.binds md e = true → e.on ≠ i := fun e he hb heq => by
     have h1 := hall e he hb; have h0 := (mem_ready.1 hr).1; rw [heq, getD_both h0] at h1; cases h1
    have hjt : j ≠ t := fun e => by
     obtain ⟨ot, hot, e2, he2, hb2, hon⟩ := Region.waitsFor_spec hwt; have : ot = oj := Option.some.inj (hot.symm.trans (e ▸ hoj)); exact hnot e2 (this ▸ he2) hb2 hon
    have h2 := wpOp_putIf hoj (hfree j oj hoj hji hjun hnot) (fun cs b => hsel i oi cs b hi) (fun cs b => hsel j oj cs b hoj) hQ hy h1
    have hfree' : ∀ k ok, ops[k]? = some ok → k ≠ i → (listed.setIfInBounds j true).getD k true = false →
     (∀ e ∈ ok.after, Region.binds md e = true → e.on ≠ i) → oi.apart ops ok = true := fun k ok hk hki hun hno => by
     refine hfree k ok hk hki ?_ hno
     by_cases hjk : j = k
     ·subst hjk; exact hjun
     ·rw [getD_set_ne true hjk] at hun; exact hun
    have ht' : (listed.setIfInBounds j true).getD t true = false := by rw [getD_set_ne true hjt]; exact ht
    refine wpOp_mono (fun a' w' h3 => ?_) h2
    have hS' : S w' := h3.2.1 (by rw [getD_set_ne true hjt, getD_set_ne true (Ne.symm hti)]; exact ht)
    refine ⟨fun _ => hS', ih (listed.setIfInBounds j true) a' w' hfree' (ready_mono hr (Ne.symm hji)) ht' h3.1 hS' ?_⟩
    rw [Array.setIfInBounds_comm _ _ hji]; exact h3.2.2
def wpReads (P : Program) (ops : Array Oper) (S : World → Prop) (Q : Act → Prop) : List Oper → Act → Prop
 | [], a => Q a
 | o :: rest, a => if Region.wanted o (yielded ops a.tmps) then ∃ v, (∀ x : HW S, (execOp a.eval o).run P x.u = .ok (.value v) x.u) ∧ wpReads P ops S Q rest (a.put o.dst v) else wpReads P ops S Q rest (a.put o.dst undef)
theorem wpReads_nil {Q : Act → Prop} {a : Act} (h : Q a) : wpReads P ops S Q [] a := h
theorem wpReads_step {Q : Act → Prop} {a : Act} {o : Oper} {rest : List Oper}
 (h : ∀ K : Act → Prop, (∀ a, wpReads P ops S Q rest a → K a) → if Region.wanted o (yielded ops a.tmps) then ∃ v, (∀ x : HW S, (execOp a.eval o).run P x.u = .ok (.value v) x.u) ∧ K (a.put o.dst v) else K (a.put o.dst undef)) : wpReads P ops S Q (o :: rest) a :=
 h _ (fun _ h => h)
def wpTurns (P : Program) (ops : Array Oper) (Q : Exit → Act → World → Prop) (S : World → Prop) (post : List Oper) : List Oper → Act → World → Prop
 | [], a, w => wpList P ops Q post a w
 | o :: rest, a, w => if Region.wanted o (yielded ops a.tmps) then o.wp P a w (fun a' w' => S w' ∧ wpTurns P ops Q S post rest a' w') Q else S w ∧ wpTurns P ops Q S post rest (a.put o.dst undef) w
theorem wpTurns_nil {post : List Oper} {a : Act} {w : World} (h : wpList P ops Q post a w) : wpTurns P ops Q S post [] a w := h
theorem wpTurns_step {post : List Oper} {a : Act} {w : World} {o : Oper} {rest : List Oper}
 (h : ∀ K : Act → World → Prop, (∀ a w, S w → wpTurns P ops Q S post rest a w → K a w) → if Region.wanted o (yielded ops a.tmps) = true then Oper.wp P o a w K Q else K (a.put o.dst undef) w) : wpTurns P ops Q S post (o :: rest) a w := by
 have := h (fun a w => S w ∧ wpTurns P ops Q S post rest a w) (fun _ _ h1 h2 => ⟨h1, h2⟩)
 exact this
def getAll (ops : Array Oper) (l : List Nat) : List Oper := l.filterMap fun i => ops[i]?
def Region.seqL (md : Region.Mode) (ops : Array Oper) : List Nat → Array Bool → Bool
 | [], listed => (Region.ready md ops listed).isEmpty
 | k :: r, listed => decide (Region.ready md ops listed = [k]) && Region.seqL md ops r (listed.setIfInBounds k true)
def Region.preL (md : Region.Mode) (ops : Array Oper) (t : Nat) (post : List Nat) : List Nat → Array Bool → Bool
 | [], listed => Region.seqL md ops (t :: post) listed
 | k :: r, listed => decide (Region.ready md ops listed = [k]) && decide (k ≠ t) && Region.preL md ops t post r (listed.setIfInBounds k true)
def Region.headL (md : Region.Mode) (ops : Array Oper) (t : Nat) (pre post : List Nat) : List Nat → Array Bool → Bool
 | [], listed => Region.preL md ops t post pre listed
 | k :: r, listed => (Region.ready md ops listed).contains k && Region.free md ops listed k && Region.waitsFor md ops t k && decide (t ≠ k) && Region.headL md ops t pre post r (listed.setIfInBounds k true)
def Region.leadB (md : Region.Mode) (ops : Array Oper) (hs pre : List Nat) (t : Nat) (post : List Nat) : Bool :=
 Region.noSelect ops && decide (t < ops.size) && decide (hs.length + pre.length + (post.length + 1) = ops.size) && Region.headL md ops t pre post hs (Array.replicate ops.size false)
theorem ready_at {k : Nat} {listed : Array Bool} (h : Region.ready md ops listed = [k]) : ∃ o, ops[k]? = some o := by
 have : k ∈ Region.ready md ops listed := by rw [h]; simp
 obtain ⟨-, o, ho, -⟩ := mem_ready.1 this; exact ⟨o, ho⟩
theorem getD_stays {listed : Array Bool} {i t : Nat} (h : listed.getD t true = true) : (listed.setIfInBounds i true).getD t true = true := by
 by_cases hit : i = t
 ·subst hit; rcases Nat.lt_or_ge i listed.size with h' | h'
  ·simp [h']
  ·simp
 ·rw [getD_set_ne true hit]; exact h
theorem wpAnyT_seq : ∀ (l : List Nat) (listed : Array Bool) (a : Act) (w : World), listed.getD t true = true →
 Region.seqL md ops l listed = true → wpList P ops Q (getAll ops l) a w → wpAnyT P md ops Q S t l.length listed a w
 | [], _, _, _, _, hB, h => ⟨by simpa [Region.seqL] using hB, h⟩
 | k :: l, listed, a, w, ht, hB, h => by
   simp only [Region.seqL, Bool.and_eq_true, decide_eq_true_eq] at hB; obtain ⟨o, ho⟩ := ready_at hB.1; have e : getAll ops (k :: l) = o :: getAll ops l := by simp [getAll, ho]
   rw [e] at h; refine ⟨fun h1 => (by rw [hB.1] at h1; cases h1), fun i hi => ?_⟩
   rw [hB.1] at hi; obtain rfl : i = k := by simpa using hi
   have hw : wpOp P ops Q i (wpList P ops Q (getAll ops l)) a w := by unfold wpOp; simp only [ho]; exact h
   have ht' := getD_stays (i := i) ht; exact wpOp_mono (fun a' w' h' => ⟨fun h0 => (by rw [ht'] at h0; cases h0), wpAnyT_seq l _ a' w' ht' hB.2 h'⟩) hw
theorem getD_now {listed : Array Bool} {t : Nat} : (listed.setIfInBounds t true).getD t true = true := by
 rcases Nat.lt_or_ge t listed.size with h' | h'
 ·simp [h']
 ·simp
theorem wpAnyT_pre {post : List Nat} : ∀ (l : List Nat) (listed : Array Bool) (a : Act) (w : World),
 Region.preL md ops t post l listed = true → wpTurns P ops Q S (getAll ops (t :: post)) (getAll ops l) a w → wpAnyT P md ops Q S t (l.length + (post.length + 1)) listed a w
 | [], listed, a, w, hB, h => by
   simp only [Region.preL, Region.seqL, Bool.and_eq_true, decide_eq_true_eq] at hB; obtain ⟨o, ho⟩ := ready_at hB.1; have e : getAll ops (t :: post) = o :: getAll ops post := by simp [getAll, ho]
   have h' : wpList P ops Q (o :: getAll ops post) a w := by rw [← e]; exact h
   rw [show ([] : List Nat).length + (post.length + 1) = post.length + 1 by simp]
   refine ⟨fun h1 => (by rw [hB.1] at h1; cases h1), fun i hi => ?_⟩
   rw [hB.1] at hi; obtain rfl : i = t := by simpa using hi
   have hw : wpOp P ops Q i (wpList P ops Q (getAll ops post)) a w := by unfold wpOp; simp only [ho]; exact h'
   have ht' : (listed.setIfInBounds i true).getD i true = true := getD_now; exact wpOp_mono (fun a' w' h' => ⟨fun h0 => (by rw [ht'] at h0; cases h0), wpAnyT_seq post _ a' w' ht' hB.2 h'⟩) hw
 | k :: l, listed, a, w, hB, h => by
   simp only [Region.preL, Bool.and_eq_true, decide_eq_true_eq] at hB; obtain ⟨⟨hr, hkt⟩, hB'⟩ := hB; obtain ⟨o, ho⟩ := ready_at hr; have e : getAll ops (k :: l) = o :: getAll ops l := by simp [getAll, ho]
   rw [e] at h; rw [show (k :: l).length + (post.length + 1) = l.length + (post.length + 1) + 1 by simp; omega]
   refine ⟨fun h1 => (by rw [hr] at h1; cases h1), fun i hi => ?_⟩
   rw [hr] at hi; obtain rfl : i = k := by simpa using hi
   have hw : wpOp P ops Q i (fun a' w' => S w' ∧ wpTurns P ops Q S (getAll ops (t :: post)) (getAll ops l) a' w') a w := by
    unfold wpOp; simp only [ho]; unfold wpTurns at h; split at h
    ·rename_i hwn; simp only [hwn, if_true]; exact .inl h
    ·rename_i hwn; simp only [hwn]; exact h
   exact wpOp_mono (fun a' w' h' => ⟨fun _ => h'.1, wpAnyT_pre l _ a' w' hB' h'.2⟩) hw
theorem wpAnyT_head {pre post : List Nat} (hsel : Region.noSelect ops = true) (hQ : ∀ c a d v w, Q (.panic c) (Act.put a d v) w → Q (.panic c) a w) (w : World) (hS : S w) : ∀ (l : List Nat) (listed : Array Bool) (a : Act), listed.getD t true = false →
 Region.headL md ops t pre post l listed = true → wpReads P ops S (fun a' => wpTurns P ops Q S (getAll ops (t :: post)) (getAll ops pre) a' w) (getAll ops l) a → wpAnyT P md ops Q S t (l.length + (pre.length + (post.length + 1))) listed a w
 | [], listed, a, _, hB, h => by
   rw [show ([] : List Nat).length + (pre.length + (post.length + 1)) = pre.length + (post.length + 1) by simp]
   exact wpAnyT_pre pre listed a w hB h
 | k :: l, listed, a, ht, hB, h => by
   simp only [Region.headL, Bool.and_eq_true, decide_eq_true_eq] at hB; obtain ⟨⟨⟨⟨hr, hf⟩, hwt⟩, htk⟩, hB'⟩ := hB; have hr' : k ∈ Region.ready md ops listed := by simpa using hr
   obtain ⟨-, o, ho, -⟩ := mem_ready.1 hr'; have e : getAll ops (k :: l) = o :: getAll ops l := by simp [getAll, ho]
   rw [e] at h; rw [show (k :: l).length + (pre.length + (post.length + 1)) = l.length + (pre.length + (post.length + 1)) + 1 by simp; omega]
   have ht' : (listed.setIfInBounds k true).getD t true = false := by rw [getD_set_ne true (Ne.symm htk)]; exact ht
   unfold wpReads at h; split at h
   ·rename_i hwn; obtain ⟨v, hv, hn⟩ := h
    exact wpAnyT_first ho (Region.noSelect_spec hsel) (fun c a w => hQ c a _ _ w) hwt htk _ listed a w (Region.free_spec ho hf) hr' ht (.inl ⟨hwn, fun w hw => hv ⟨w, hw⟩⟩) hS
     (wpAnyT_head hsel hQ w hS l _ _ ht' hB' hn)
   ·rename_i hwn
    exact wpAnyT_first ho (Region.noSelect_spec hsel) (fun c a w => hQ c a _ _ w) hwt htk _ listed a w (Region.free_spec ho hf) hr' ht (.inr ⟨by simpa using hwn, rfl⟩) hS
     (wpAnyT_head hsel hQ w hS l _ _ ht' hB' h)
theorem wp_region_lead {id : Nat} {a : Act} {w : World} {l : List Oper} (S : World → Prop) (hs pre : List Nat) (t : Nat) (post : List Nat) (hm : P.follows .mixedOrders = true) (hB : Region.leadB .any l.toArray hs pre t post = true)
 (hQ : ∀ c a d v w, Q (.panic c) (Act.put a d v) w → Q (.panic c) a w) (hS : S w.drew)
 (h : wpReads P l.toArray S (fun a' => wpTurns P l.toArray Q S (getAll l.toArray (t :: post)) (getAll l.toArray pre) a' w.drew) (getAll l.toArray hs) a) : (Code.region id l.toArray true).wp P Q a w := by
 simp only [Region.leadB, Bool.and_eq_true, decide_eq_true_eq] at hB; obtain ⟨⟨⟨hsel, ht⟩, hlen⟩, hB'⟩ := hB; refine wp_region_any hm (wpAny_of_T (S := S) (t := t) _ _ _ _ ?_); have := wpAnyT_head hsel hQ w.drew hS hs _ a (getD_in (by simpa using ht) (getD_replicate_false _ _)) hB' h
 rw [← Nat.add_assoc, hlen] at this; exact this
inductive Ph
 | r
 | u
 | p
def pickR : List Ph → List Oper → List Oper
 | .r :: m, o :: l => o :: pickR m l
 | .u :: m, _ :: l => pickR m l
 | .p :: m, _ :: l => pickR m l
 | _, _ => []
def pickU : List Ph → List Oper → List Oper
 | .r :: m, _ :: l => pickU m l
 | .u :: m, o :: l => o :: pickU m l
 | .p :: m, _ :: l => pickU m l
 | _, _ => []
def pickP : List Ph → List Oper → List Oper
 | .r :: m, _ :: l => pickP m l
 | .u :: m, _ :: l => pickP m l
 | .p :: m, o :: l => o :: pickP m l
 | _, _ => []
def idxR : List Ph → Nat → List Nat
 | .r :: m, i => i :: idxR m (i + 1)
 | .u :: m, i => idxR m (i + 1)
 | .p :: m, i => idxR m (i + 1)
 | [], _ => []
def idxU : List Ph → Nat → List Nat
 | .r :: m, i => idxU m (i + 1)
 | .u :: m, i => i :: idxU m (i + 1)
 | .p :: m, i => idxU m (i + 1)
 | [], _ => []
def idxP : List Ph → Nat → List Nat
 | .r :: m, i => idxP m (i + 1)
 | .u :: m, i => idxP m (i + 1)
 | .p :: m, i => i :: idxP m (i + 1)
 | [], _ => []
theorem at_tail {ops : Array Oper} {o : Oper} {l : List Oper} {i : Nat} (h : ∀ j, (o :: l)[j]? = ops[i + j]?) : ∀ j, l[j]? = ops[i + 1 + j]? := fun j => by
 have := h (j + 1); rw [show i + (j + 1) = i + 1 + j by omega] at this
 simpa using this
theorem getAll_R : ∀ (m : List Ph) (l : List Oper) (i : Nat), (∀ j, l[j]? = ops[i + j]?) → m.length = l.length → getAll ops (idxR m i) = pickR m l
 | [], l, i, _, _ => by cases l <;> rfl
 | .r :: m, o :: l, i, h, hl => by
   have h0 : ops[i]? = some o := by simpa using (h 0).symm
   have ih := getAll_R m l (i + 1) (at_tail h) (by simpa using hl)
   simp only [idxR, pickR, ← ih, getAll, List.filterMap_cons, h0]
 | .u :: m, o :: l, i, h, hl => getAll_R m l (i + 1) (at_tail h) (by simpa using hl)
 | .p :: m, o :: l, i, h, hl => getAll_R m l (i + 1) (at_tail h) (by simpa using hl)
theorem getAll_U : ∀ (m : List Ph) (l : List Oper) (i : Nat), (∀ j, l[j]? = ops[i + j]?) → m.length = l.length → getAll ops (idxU m i) = pickU m l
 | [], l, i, _, _ => by cases l <;> rfl
 | .u :: m, o :: l, i, h, hl => by
   have h0 : ops[i]? = some o := by simpa using (h 0).symm
   have ih := getAll_U m l (i + 1) (at_tail h) (by simpa using hl)
   simp only [idxU, pickU, ← ih, getAll, List.filterMap_cons, h0]
 | .r :: m, o :: l, i, h, hl => getAll_U m l (i + 1) (at_tail h) (by simpa using hl)
 | .p :: m, o :: l, i, h, hl => getAll_U m l (i + 1) (at_tail h) (by simpa using hl)
theorem getAll_P : ∀ (m : List Ph) (l : List Oper) (i : Nat), (∀ j, l[j]? = ops[i + j]?) → m.length = l.length → getAll ops (idxP m i) = pickP m l
 | [], l, i, _, _ => by cases l <;> rfl
 | .p :: m, o :: l, i, h, hl => by
   have h0 : ops[i]? = some o := by simpa using (h 0).symm
   have ih := getAll_P m l (i + 1) (at_tail h) (by simpa using hl)
   simp only [idxP, pickP, ← ih, getAll, List.filterMap_cons, h0]
 | .r :: m, o :: l, i, h, hl => getAll_P m l (i + 1) (at_tail h) (by simpa using hl)
 | .u :: m, o :: l, i, h, hl => getAll_P m l (i + 1) (at_tail h) (by simpa using hl)
def Region.marksB (md : Region.Mode) (l : List Oper) (m : List Ph) : Bool :=
 decide (m.length = l.length) && (match idxP m 0 with | [] => false | t :: post => Region.leadB md l.toArray (idxR m 0) (idxU m 0) t post)
theorem wp_region_marksQ {id : Nat} {a : Act} {w : World} {l : List Oper} (S : World → Prop) (m : List Ph) (hm : P.follows .mixedOrders = true) (hB : Region.marksB .any l m = true)
 (hQ : ∀ c a d v w, Q (.panic c) (Act.put a d v) w → Q (.panic c) a w) (hS : S w.drew)
 (h : wpReads P l.toArray S (fun a' => wpTurns P l.toArray Q S (pickP m l) (pickU m l) a' w.drew) (pickR m l) a) : (Code.region id l.toArray true).wp P Q a w := by
 simp only [Region.marksB, Bool.and_eq_true, decide_eq_true_eq] at hB; obtain ⟨hl, hB⟩ := hB; have hz : ∀ j, l[j]? = l.toArray[0 + j]? := fun j => by simp
 cases hp : idxP m 0 with
 | nil => rw [hp] at hB; cases hB
 | cons t post =>
   rw [hp] at hB; refine wp_region_lead S (idxR m 0) (idxU m 0) t post hm hB hQ hS ?_; rw [← hp, getAll_R m l 0 hz hl, getAll_U m l 0 hz hl, getAll_P m l 0 hz hl]; exact h
theorem wp_region_marks {id : Nat} {a : Act} {w : World} {l : List Oper} (S : World → Prop) (m : List Ph) (hm : P.follows .mixedOrders = true) (hB : Region.marksB .any l m = true) (hS : S w.drew)
 (h : wpReads P l.toArray S (fun a' => wpTurns P l.toArray (NoPanic Q) S (pickP m l) (pickU m l) a' w.drew) (pickR m l) a) : (Code.region id l.toArray true).wp P Q a w :=
 wp_region_noPanic (wp_region_marksQ S m hm hB (fun _ _ _ _ _ h => h) hS h)
end
end
end Go.Proofs.YtboegjdkedjhcaaGreatDoor
