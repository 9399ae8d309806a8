/- Worlds that are kept but for some blocks; rows whose elements are set. No program in sight. Tables as rows of a world. No program in sight. Arguments opened: a reading of objects is a list of objects that the world holds. Arguments opened, with how many bytes each row has. Rows of places, addresses and spans as a world holds them. The manifest of notes (layer 11), in plain words: gathered, sorted, each port once. No program in sight. A text is a name just if trimming the name bytes leaves nothing of it. No program in sight. The walk of obj.name: it returns isName. The walks of obj.told, obj.Note and the search over notes. The walks of obj.symbol's sized and places. -/
import Derived.Test.YtdjgkmpjhpnkeaaGreatDoorBd03
import Derived.Deep.QuietTactic
import Derived.Test.YtdjgkmpjhpnkeaaGreatDoorRows
import Derived.Test.YtdjgkmpjhpnkeaaGreatDoorBd01
import Derived.Test.YtdjgkmpjhpnkeaaGreatDoorBd02
import Derived.Lib.SlicesCompact
import Derived.Lib.SlTrimSet
import Derived.Test.YtdjgkmpjhpnkeaaGreatDoorTrimLay
import Derived.WalkLawsBesides
import Derived.Lib.Hide
import Derived.Deep.Light
import Derived.Handy
import Derived.WalkKit
import Derived.WalkSpells
namespace Go.Proofs.YtdjgkmpjhpnkeaaGreatDoor
open Go.RowKit
/-- w' is w but for the blocks of S, and new ones -/
structure KB (S : Nat → Prop) (w w' : World) : Prop where
  os : w'.os = w.os
  tape : w'.tape = w.tape
  output : w'.output = w.output
  size : w.heap.size ≤ w'.heap.size
  block : ∀ k, k < w.heap.size → ¬ S k → w'.heap[k]? = w.heap[k]?
theorem KB.refl (S : Nat → Prop) (w : World) : KB S w w := ⟨rfl, rfl, rfl, Nat.le_refl _, fun _ _ _ => rfl⟩
theorem KB.trans {S : Nat → Prop} {a b c : World} (h : KB S a b) (k : KB S b c) : KB S a c :=
  ⟨k.os.trans h.os, k.tape.trans h.tape, k.output.trans h.output, Nat.le_trans h.size k.size, fun i hi hs => (k.block i (Nat.lt_of_lt_of_le hi h.size) hs).trans (h.block i hi hs)⟩
theorem KB.of_below {S : Nat → Prop} {w w' : World} (h : Below w.heap.size w w') : KB S w w' := ⟨h.os, h.tape, h.output, h.size, fun k hk _ => h.block k hk⟩
theorem KB.of_grown {S : Nat → Prop} {w w' : World} {r : Option Nat} (h : w.grownBy w' r) (hr : ∀ k, r = some k → S k ∨ w.heap.size ≤ k) : KB S w w' :=
  ⟨h.os, h.tape, h.output, h.size, fun k hk hs => h.block k hk fun e => by rcases hr k e.symm with h1 | h1; exact hs h1; omega⟩
/-- a row that was made later may be written -/
theorem KB.grown {S : Nat → Prop} {a w w' : World} {r : Option Nat} (h : KB S a w) (hg : w.grownBy w' r) (hr : ∀ k, r = some k → S k ∨ a.heap.size ≤ k) : KB S a w' :=
  ⟨hg.os.trans h.os, hg.tape.trans h.tape, hg.output.trans h.output, Nat.le_trans h.size hg.size, fun k hk hs => (hg.block k (Nat.lt_of_lt_of_le hk h.size) fun e => by rcases hr k e.symm with h1 | h1; exact hs h1; omega).trans (h.block k hk hs)⟩
theorem KB.setCell {S : Nat → Prop} {a w : World} (h : KB S a w) {p : Addr} (hp : S p.block ∨ a.heap.size ≤ p.block) (u : Value) : KB S a (w.setCell p u) :=
  ⟨h.os, h.tape, h.output, by simpa using h.size, fun k hk hs => (Below.heap_setCell _ _ _ _ (fun e => by rcases hp with h1 | h1; exact hs (e ▸ h1); omega)).trans (h.block k hk hs)⟩
theorem KB.alloc {S : Nat → Prop} {a w : World} (h : KB S a w) (o : Obj) : KB S a (w.alloc o) :=
  ⟨h.os, h.tape, h.output, by have := h.size; simp; omega, fun k hk hs => (Below.heap_alloc _ _ _ (Nat.lt_of_lt_of_le hk h.size)).trans (h.block k hk hs)⟩
theorem KB.drew {S : Nat → Prop} {a w : World} (h : KB S a w) : KB S a w.drew := ⟨h.os, h.tape, h.output, h.size, h.block⟩
theorem KB.drewN {S : Nat → Prop} {a w : World} (h : KB S a w) (n : Nat) : KB S a (w.drewN n) := ⟨h.os, h.tape, h.output, h.size, h.block⟩
theorem KB.below {S : Nat → Prop} {w w' : World} (h : KB S w w') {B : Nat} (hB : B ≤ w.heap.size) (hs : ∀ k, k < B → ¬ S k) : Below B w w' :=
  ⟨h.os, h.tape, h.output, h.size, fun k hk => h.block k (by omega) (hs k hk)⟩
theorem KB.cell {S : Nat → Prop} {w w' : World} (h : KB S w w') {b o : Nat} {v : Value} (hb : b < w.heap.size) (hs : ¬ S b) (hc : w.cell? ⟨b, o, none⟩ = some v) : w'.cell? ⟨b, o, none⟩ = some v := by
  rw [World.cell?_of_block (w := w) (h.block b hb hs)]; exact hc
theorem KB.frozen {S : Nat → Prop} {w w' : World} (h : KB S w w') {b o : Nat} {v : Bool} (hb : b < w.heap.size) (hs : ¬ S b) (hc : w.frozen? ⟨b, o, none⟩ = v) : w'.frozen? ⟨b, o, none⟩ = v := by
  rw [World.frozen?_of_block (w := w) (h.block b hb hs)]; exact hc
theorem own_congr {w w' : World} {base : Nat} {e : TypeId} {k : Nat} {v : Value} {n : Nat} {xs : List Value} (h : w.ownsRow base e k v n xs) (hg : ∀ g, v.ownBlock = some g → w'.heap[g]? = w.heap[g]?) : w'.ownsRow base e k v n xs := by
  refine ⟨h.1, ?_⟩
  rcases h.2 with hn | ⟨g, cap, cur, rfl, hb, h1, rest⟩
  · exact .inl hn
  · exact .inr ⟨g, cap, cur, rfl, hb, by rw [hg g rfl]; exact h1, rest⟩
theorem KB.owns {S : Nat → Prop} {w w' : World} (h : KB S w w') {base : Nat} {e : TypeId} {k : Nat} {v : Value} {n : Nat} {xs : List Value} (ho : w.ownsRow base e k v n xs) (hs : ∀ g, v.ownBlock = some g → ¬ S g) : w'.ownsRow base e k v n xs :=
  own_congr ho fun g hg => h.block g (ho.lt g hg).2 (hs g hg)
/-- one element of three cells is set -/
theorem flat_set3 {α : Type} {f : α → List Value} (hk : ∀ x, (f x).length = 3) {x : α} {a b c : Value} (hx : f x = [a, b, c]) : ∀ (l : List α) (i : Nat), i < l.length → ((((l.flatMap f).set (i * 3) a).set (i * 3 + 1) b).set (i * 3 + 2) c) = (l.set i x).flatMap f
  | y :: r, 0, _ => by
    have h3 := hk y
    match hy : f y, h3 with
    | [y0, y1, y2], _ => simp [hy, hx]
  | y :: r, i + 1, h => by
    have h3 := hk y
    have ih := flat_set3 hk hx r i (by simpa using h)
    match hy : f y, h3 with
    | [y0, y1, y2], _ =>
      rw [List.set_cons_succ, List.flatMap_cons, List.flatMap_cons, hy, ← ih, show (i + 1) * 3 = i * 3 + 1 + 1 + 1 by omega, show i * 3 + 1 + 1 + 1 + 1 = i * 3 + 1 + 1 + 1 + 1 from rfl]
      simp
theorem zero_cells3 (z : Value) (a b c : Value) (hz : z.cells = #[a, b, c]) : ∀ n, (madeCells z.cells (n * 3)).toList = (List.replicate n ()).flatMap fun _ => [a, b, c] := by
  intro n
  apply List.ext_getElem?
  intro q
  rw [hz]
  by_cases hq : q < n * 3
  · have h1 : q / 3 < (List.replicate n ()).length := by simp; omega
    have h2 := flat_get (f := fun _ : Unit => [a, b, c]) (k := 3) (fun _ => rfl) (List.replicate n ()) (q / 3) (q % 3) h1 (by omega)
    rw [show q / 3 * 3 + q % 3 = q by omega] at h2
    rw [h2]
    have h3 : q % 3 = 0 ∨ q % 3 = 1 ∨ q % 3 = 2 := by omega
    rcases h3 with h3 | h3 | h3 <;> simp [madeCells, hq, h3]
  · rw [List.getElem?_eq_none (by simp [size_madeCells]; omega), List.getElem?_eq_none (by rw [flat_len (k := 3) (fun _ => rfl)]; simp; omega)]
end Go.Proofs.YtdjgkmpjhpnkeaaGreatDoor
namespace Go.Proofs.YtdjgkmpjhpnkeaaGreatDoor
open Go.RowKit
def TsBd (x : GTs) : Prop := (0 ≤ x.addr ∧ x.addr ≤ 4294967295) ∧ (0 ≤ x.size ∧ x.size ≤ 4294967295) ∧ (0 ≤ x.kind ∧ x.kind ≤ 255) ∧ x.name.size ≤ 140737488355328 ∧ x.object.size ≤ 140737488355328
def TsR (w : World) (b o : Nat) (x : GTs) : Prop :=
  b < w.heap.size ∧ w.cell? ⟨b, o, none⟩ = some (.string x.name) ∧ w.cell? ⟨b, o + 1, none⟩ = some (.string x.object) ∧ w.cell? ⟨b, o + 2, none⟩ = some (.int .u32 x.addr) ∧ w.cell? ⟨b, o + 3, none⟩ = some (.int .u32 x.size) ∧ w.cell? ⟨b, o + 4, none⟩ = some (.int .u8 x.kind) ∧ TsBd x
theorem tsR_keeps : Keeps TsR := fun _ _ _ _ _ hb ⟨h0, h1, h2, h3, h4, h5, r⟩ => ⟨size_keep hb h0, cell_keep hb h0 h1, cell_keep hb h0 h2, cell_keep hb h0 h3, cell_keep hb h0 h4, cell_keep hb h0 h5, r⟩
abbrev TabAt (w : World) (v : Value) (t : List GTs) : Prop := RowAt 5 TsR w v t
theorem TabAt.keep' {w w' : World} {v : Value} {t : List GTs} (hb : Below w.heap.size w w') (h : TabAt w v t) : TabAt w' v t := RowAt.keep tsR_keeps hb h
def tsCells (x : GTs) : List Value := [.string x.name, .string x.object, .int .u32 x.addr, .int .u32 x.size, .int .u8 x.kind]
theorem tsCells_len (x : GTs) : (tsCells x).length = 5 := rfl
theorem tsCells_one {l : List GTs} : ∀ u ∈ l.flatMap tsCells, u.oneCell' = true := by
  intro u hu
  obtain ⟨x, _, hx⟩ := List.mem_flatMap.1 hu
  simp only [tsCells, List.mem_cons, List.not_mem_nil, or_false] at hx
  rcases hx with rfl | rfl | rfl | rfl | rfl <;> rfl
theorem ts_news {w : World} {b o : Nat} {l : List GTs} (h : ∀ i (hi : i < l.length), TsR w b (o + i * 5) l[i]) : ∀ j u, (l.flatMap tsCells)[j]? = some u → w.cell? ((⟨b, o, none⟩ : Addr).add j) = some u := by
  refine row_news tsCells_len (by omega) fun i hi j u hu => ?_
  obtain ⟨-, h1, h2, h3, h4, h5, -⟩ := h i hi
  match j, hu with
  | 0, hu => cases hu; exact h1
  | 1, hu => cases hu; exact h2
  | 2, hu => cases hu; exact h3
  | 3, hu => cases hu; exact h4
  | 4, hu => cases hu; exact h5
theorem ts_back {w : World} {v : Value} {base : Nat} {e : TypeId} {l : List GTs} (hb : ∀ x ∈ l, TsBd x) (hm : l.length ≤ 140737488355328) (h : w.ownsRow base e 5 v l.length (l.flatMap tsCells)) : TabAt w v l :=
  owned_row tsCells_len h hm fun _ _ _ hi hg hcell => ⟨hg, hcell 0 _ (by omega) rfl, hcell 1 _ (by omega) rfl, hcell 2 _ (by omega) rfl, hcell 3 _ (by omega) rfl, hcell 4 _ (by omega) rfl, hb _ (List.getElem_mem hi)⟩
theorem TabAt.bd {w : World} {v : Value} {t : List GTs} (h : TabAt w v t) : ∀ x ∈ t, TsBd x := by
  obtain ⟨_, _, _, _, -, -, -, -, hc⟩ := h
  intro x hx
  obtain ⟨i, hi, rfl⟩ := List.mem_iff_getElem.1 hx
  exact (hc i hi).2.2.2.2.2.2
def mvCells (x : GMv) : List Value := [.string x.name, .string x.object, .int .u32 x.fro, .int .u32 x.to]
theorem mvCells_len (x : GMv) : (mvCells x).length = 4 := rfl
def MvR (w : World) (b o : Nat) (x : GMv) : Prop :=
  b < w.heap.size ∧ w.cell? ⟨b, o, none⟩ = some (.string x.name) ∧ w.cell? ⟨b, o + 1, none⟩ = some (.string x.object) ∧ w.cell? ⟨b, o + 2, none⟩ = some (.int .u32 x.fro) ∧ w.cell? ⟨b, o + 3, none⟩ = some (.int .u32 x.to)
theorem mvR_keeps : Keeps MvR := fun _ _ _ _ _ hb ⟨h0, h1, h2, h3, h4⟩ => ⟨size_keep hb h0, cell_keep hb h0 h1, cell_keep hb h0 h2, cell_keep hb h0 h3, cell_keep hb h0 h4⟩
theorem mv_back {w : World} {v : Value} {base : Nat} {e : TypeId} {l : List GMv} (hm : l.length ≤ 140737488355328) (h : w.ownsRow base e 4 v l.length (l.flatMap mvCells)) : RowAt 4 MvR w v l :=
  owned_row mvCells_len h hm fun _ _ _ _ hg hcell => ⟨hg, hcell 0 _ (by omega) rfl, hcell 1 _ (by omega) rfl, hcell 2 _ (by omega) rfl, hcell 3 _ (by omega) rfl⟩
end Go.Proofs.YtdjgkmpjhpnkeaaGreatDoor
namespace Go.Proofs.YtdjgkmpjhpnkeaaGreatDoor
open Go.ChangeShapes Go.WideShapes Go.ChangeAt Go.RowKit Go.Deep
section
variable {H : Type} {enc : TypeId × Value → H} {w : World} {base : Nat} {spare : Nat → Bool} {held : Bool}
theorem open_note (b o : Nat) (cs : List Value) (n : Nat) (d : DataW H × List MemPlace) (hb : b < w.heap.size) (hl : cs.length = 3) (hc : ∀ j, j < 3 → w.cell? ⟨b, o + j, none⟩ = cs[j]?)
    (h : DataW.trod enc Tryz.prog w base spare held n 219 cs = some d) (hs : Small Tryz.prog 219 d.1) : ∃ y, NoteR w b o y := by
  obtain ⟨m, hf⟩ := open_fields Tryz.underlying219 (by kernel_rfl) h hs hl
  obtain ⟨v0, y0, e0, t0, _⟩ := hf 0 _ rfl
  obtain ⟨v1, y1, e1, t1, _⟩ := hf 1 _ rfl
  obtain ⟨v2, y2, e2, t2, _⟩ := hf 2 _ rfl
  obtain ⟨n0, c0, -, w0⟩ := DataW.trod_int Tryz.underlying5 t0
  obtain ⟨n1, c1, -, w1⟩ := DataW.trod_int Tryz.underlying27 t1
  obtain ⟨n2, c2, -, w2⟩ := DataW.trod_int Tryz.underlying27 t2
  cases c0; cases c1; cases c2
  exact ⟨⟨n0, n1, n2⟩, hb, (hc 0 (by omega)).trans e0, (hc 1 (by omega)).trans e1, (hc 2 (by omega)).trans e2, bounds_u8 w0, bounds_u32 w1, bounds_u32 w2⟩
theorem open_rel (b o : Nat) (cs : List Value) (n : Nat) (d : DataW H × List MemPlace) (hb : b < w.heap.size) (hl : cs.length = 4) (hc : ∀ j, j < 4 → w.cell? ⟨b, o + j, none⟩ = cs[j]?)
    (h : DataW.trod enc Tryz.prog w base spare held n 211 cs = some d) (hs : Small Tryz.prog 211 d.1) : ∃ y, RelR w b o y := by
  obtain ⟨m, hf⟩ := open_fields Tryz.underlying211 (by kernel_rfl) h hs hl
  obtain ⟨v0, y0, e0, t0, _⟩ := hf 0 _ rfl
  obtain ⟨v1, y1, e1, t1, _⟩ := hf 1 _ rfl
  obtain ⟨v2, y2, e2, t2, s2⟩ := hf 2 _ rfl
  obtain ⟨v3, y3, e3, t3, _⟩ := hf 3 _ rfl
  obtain ⟨n0, c0, -, w0⟩ := DataW.trod_int Tryz.underlying27 t0
  obtain ⟨n1, c1, -, w1⟩ := DataW.trod_int Tryz.underlying5 t1
  obtain ⟨n2, c2, rfl, w2⟩ := DataW.trod_string Tryz.underlying9 t2
  obtain ⟨n3, c3, -, w3⟩ := DataW.trod_int Tryz.underlying27 t3
  cases c0; cases c1; cases c2; cases c3
  exact ⟨⟨n0, n1, n2, n3⟩, hb, (hc 0 (by omega)).trans e0, (hc 1 (by omega)).trans e1, (hc 2 (by omega)).trans e2, (hc 3 (by omega)).trans e3, bounds_u32 w0, bounds_u8 w1, bounds_u32 w3, small_bytes s2⟩
theorem open_rels {fuel : Nat} {cs : List Value} {x : DataW H × List MemPlace} (h : DataW.trod enc Tryz.prog w base spare held fuel 69 cs = some x) (hs : Small Tryz.prog 69 x.1) : ∃ v l, cs = [v] ∧ RowAt 4 RelR w v l :=
  open_row Tryz.underlying69 (by kernel_rfl) (by omega) (of_decide_eq_true (by kernel_rfl)) open_rel h hs
theorem open_notes {fuel : Nat} {cs : List Value} {x : DataW H × List MemPlace} (h : DataW.trod enc Tryz.prog w base spare held fuel 70 cs = some x) (hs : Small Tryz.prog 70 x.1) : ∃ v l, cs = [v] ∧ RowAt 3 NoteR w v l :=
  open_row Tryz.underlying70 (by kernel_rfl) (by omega) (of_decide_eq_true (by kernel_rfl)) open_note h hs
/-- a symbol's cells -/
theorem open_symCells (cs : List Value) (n : Nat) (d : DataW H × List MemPlace) (hl : cs.length = 7)
    (h : DataW.trod enc Tryz.prog w base spare held n 72 cs = some d) (hs : Small Tryz.prog 72 d.1) :
    ∃ (s : GSym) (vr vn : Value), cs = [.string s.name, .int .u8 s.bind, .int .u8 s.kind, .int .u32 s.size, .string s.bytes, vr, vn] ∧ SymIn w s vr vn := by
  obtain ⟨m, hf⟩ := open_fields Tryz.underlying72 (by kernel_rfl) h hs hl
  obtain ⟨v0, y0, e0, t0, s0⟩ := hf 0 _ rfl
  obtain ⟨v1, y1, e1, t1, _⟩ := hf 1 _ rfl
  obtain ⟨v2, y2, e2, t2, _⟩ := hf 2 _ rfl
  obtain ⟨v3, y3, e3, t3, _⟩ := hf 3 _ rfl
  obtain ⟨v4, y4, e4, t4, s4⟩ := hf 4 _ rfl
  obtain ⟨v5, y5, e5, t5, s5⟩ := hf 5 _ rfl
  obtain ⟨v6, y6, e6, t6, s6⟩ := hf 6 _ rfl
  obtain ⟨n0, c0, rfl, w0⟩ := DataW.trod_string Tryz.underlying9 t0
  obtain ⟨n1, c1, -, w1⟩ := DataW.trod_int Tryz.underlying5 t1
  obtain ⟨n2, c2, -, w2⟩ := DataW.trod_int Tryz.underlying5 t2
  obtain ⟨n3, c3, -, w3⟩ := DataW.trod_int Tryz.underlying27 t3
  obtain ⟨n4, c4, rfl, w4⟩ := DataW.trod_string Tryz.underlying9 t4
  obtain ⟨u5, l5, c5, r5⟩ := open_rels t5 s5
  obtain ⟨u6, l6, c6, r6⟩ := open_notes t6 s6
  cases c0; cases c1; cases c2; cases c3; cases c4; cases c5; cases c6
  refine ⟨⟨n0, n1, n2, n3, n4, l5, l6⟩, v5, v6, ?_, r5, r6, bounds_u8 w1, bounds_u8 w2, bounds_u32 w3, small_bytes s0, small_bytes s4⟩
  match cs, hl, e0, e1, e2, e3, e4, e5, e6 with
  | [a0, a1, a2, a3, a4, a5, a6], _, e0, e1, e2, e3, e4, e5, e6 => simp at e0 e1 e2 e3 e4 e5 e6; simp [e0, e1, e2, e3, e4, e5, e6]
theorem open_sym (b o : Nat) (cs : List Value) (n : Nat) (d : DataW H × List MemPlace) (hb : b < w.heap.size) (hl : cs.length = 7) (hc : ∀ j, j < 7 → w.cell? ⟨b, o + j, none⟩ = cs[j]?)
    (h : DataW.trod enc Tryz.prog w base spare held n 72 cs = some d) (hs : Small Tryz.prog 72 d.1) : ∃ y, SymR w b o y := by
  obtain ⟨s, vr, vn, rfl, hin⟩ := open_symCells cs n d hl h hs
  exact ⟨s, vr, vn, hb, hc 0 (by omega), hc 1 (by omega), hc 2 (by omega), hc 3 (by omega), hc 4 (by omega), hc 5 (by omega), hc 6 (by omega), hin⟩
theorem open_syms {fuel : Nat} {cs : List Value} {x : DataW H × List MemPlace} (h : DataW.trod enc Tryz.prog w base spare held fuel 45 cs = some x) (hs : Small Tryz.prog 45 x.1) : ∃ v l, cs = [v] ∧ RowAt 7 SymR w v l :=
  open_row Tryz.underlying45 (by kernel_rfl) (by omega) (of_decide_eq_true (by kernel_rfl)) open_sym h hs
theorem open_obj (b o : Nat) (cs : List Value) (n : Nat) (d : DataW H × List MemPlace) (hb : b < w.heap.size) (hl : cs.length = 2) (hc : ∀ j, j < 2 → w.cell? ⟨b, o + j, none⟩ = cs[j]?)
    (h : DataW.trod enc Tryz.prog w base spare held n 47 cs = some d) (hs : Small Tryz.prog 47 d.1) : ∃ y, ObjR w b o y := by
  obtain ⟨m, hf⟩ := open_fields Tryz.underlying47 (by kernel_rfl) h hs hl
  obtain ⟨v0, y0, e0, t0, s0⟩ := hf 0 _ rfl
  obtain ⟨v1, y1, e1, t1, s1⟩ := hf 1 _ rfl
  obtain ⟨n0, c0, rfl, w0⟩ := DataW.trod_string Tryz.underlying9 t0
  obtain ⟨u1, l1, c1, r1⟩ := open_syms t1 s1
  cases c0; cases c1
  exact ⟨⟨n0, l1⟩, v1, hb, (hc 0 (by omega)).trans e0, (hc 1 (by omega)).trans e1, r1, small_bytes s0⟩
theorem open_objs {v : Value} {d : DataW H} {p : List MemPlace} (h : DataW.Trod enc Tryz.prog w base spare held 23 v d p) (hsl : ∃ a n c, v = .slice a n c) (hs : Small Tryz.prog 23 d) : ∃ l, ObjsAt w v l := by
  obtain ⟨fuel, hf⟩ := h
  obtain ⟨a, n, c, rfl⟩ := hsl
  obtain ⟨v', l, hv, hr⟩ := open_row (x := (d, p)) Tryz.underlying23 (by kernel_rfl) (by omega) (of_decide_eq_true (by kernel_rfl)) open_obj hf hs
  have : v' = .slice a n c := by simpa [Value.cells] using hv.symm
  subst this
  exact ⟨l, hr⟩
end
end Go.Proofs.YtdjgkmpjhpnkeaaGreatDoor
namespace Go.Proofs.YtdjgkmpjhpnkeaaGreatDoor
open Go.ChangeShapes Go.WideShapes Go.ChangeAt Go.RowKit Go.Deep
def SymBd (s : GSym) : Prop := s.rels.length * 32 ≤ 140737488351232 ∧ s.notes.length * 12 ≤ 140737488351232
def ObjBd (o : GObj) : Prop := o.syms.length * 88 ≤ 140737488351232 ∧ ∀ s ∈ o.syms, SymBd s
def ObjsBd (l : List GObj) : Prop := l.length * 40 ≤ 140737488351232 ∧ ∀ o ∈ l, ObjBd o
section
variable {H : Type} {enc : TypeId × Value → H} {w : World} {base : Nat} {spare : Nat → Bool} {held : Bool}
theorem open_symB (b o : Nat) (cs : List Value) (n : Nat) (d : DataW H × List MemPlace) (hb : b < w.heap.size) (hl : cs.length = 7) (hc : ∀ j, j < 7 → w.cell? ⟨b, o + j, none⟩ = cs[j]?)
    (h : DataW.trod enc Tryz.prog w base spare held n 72 cs = some d) (hs : Small Tryz.prog 72 d.1) : ∃ y, SymR w b o y ∧ SymBd y := by
  obtain ⟨s, vr, vn, rfl, hin⟩ := open_symCells cs n d hl h hs
  obtain ⟨m, hf⟩ := open_fields Tryz.underlying72 (by kernel_rfl) h hs hl
  obtain ⟨v5, y5, e5, t5, s5⟩ := hf 5 _ rfl
  obtain ⟨v6, y6, e6, t6, s6⟩ := hf 6 _ rfl
  cases e5; cases e6
  exact ⟨s, ⟨vr, vn, hb, hc 0 (by omega), hc 1 (by omega), hc 2 (by omega), hc 3 (by omega), hc 4 (by omega), hc 5 (by omega), hc 6 (by omega), hin⟩,
    row_bytes Tryz.underlying69 (by kernel_rfl) t5 s5 hin.1, row_bytes Tryz.underlying70 (by kernel_rfl) t6 s6 hin.2.1⟩
theorem open_objB (b o : Nat) (cs : List Value) (n : Nat) (d : DataW H × List MemPlace) (hb : b < w.heap.size) (hl : cs.length = 2) (hc : ∀ j, j < 2 → w.cell? ⟨b, o + j, none⟩ = cs[j]?)
    (h : DataW.trod enc Tryz.prog w base spare held n 47 cs = some d) (hs : Small Tryz.prog 47 d.1) : ∃ y, ObjR w b o y ∧ ObjBd y := by
  obtain ⟨m, hf⟩ := open_fields Tryz.underlying47 (by kernel_rfl) h hs hl
  obtain ⟨v0, y0, e0, t0, s0⟩ := hf 0 _ rfl
  obtain ⟨v1, y1, e1, t1, s1⟩ := hf 1 _ rfl
  obtain ⟨n0, c0, rfl, w0⟩ := DataW.trod_string Tryz.underlying9 t0
  obtain ⟨u1, l1, c1, r1⟩ := open_row (R := fun w b o y => SymR w b o y ∧ SymBd y) Tryz.underlying45 (by kernel_rfl) (by omega) (of_decide_eq_true (by kernel_rfl)) open_symB t1 s1
  cases c0; cases c1
  obtain ⟨r2, r3⟩ := r1.split
  exact ⟨⟨n0, l1⟩, ⟨v1, hb, (hc 0 (by omega)).trans e0, (hc 1 (by omega)).trans e1, r2, small_bytes s0⟩, row_bytes Tryz.underlying45 (by kernel_rfl) t1 s1 r2, r3⟩
theorem open_objsB {v : Value} {d : DataW H} {p : List MemPlace} (h : DataW.Trod enc Tryz.prog w base spare held 23 v d p) (hsl : ∃ a n c, v = .slice a n c) (hs : Small Tryz.prog 23 d) : ∃ l, ObjsAt w v l ∧ ObjsBd l := by
  obtain ⟨fuel, hf⟩ := h
  obtain ⟨a, n, c, rfl⟩ := hsl
  obtain ⟨v', l, hv, hr⟩ := open_row (x := (d, p)) (R := fun w b o y => ObjR w b o y ∧ ObjBd y) Tryz.underlying23 (by kernel_rfl) (by omega) (of_decide_eq_true (by kernel_rfl)) open_objB hf hs
  have : v' = .slice a n c := by simpa [Value.cells] using hv.symm
  subst this
  obtain ⟨r2, r3⟩ := hr.split
  exact ⟨l, r2, row_bytes (x := (d, p)) Tryz.underlying23 (by kernel_rfl) (by simpa [Value.cells] using hf) hs r2, r3⟩
end
end Go.Proofs.YtdjgkmpjhpnkeaaGreatDoor
namespace Go.Proofs.YtdjgkmpjhpnkeaaGreatDoor
open Go.ChangeShapes Go.WideShapes Go.ChangeAt Go.RowKit Go.Deep
def PlcR (w : World) (b o : Nat) (p : GP) : Prop := b < w.heap.size ∧ w.cell? ⟨b, o, none⟩ = some (.int .i64 p.1) ∧ w.cell? ⟨b, o + 1, none⟩ = some (.int .i64 p.2)
def AddrR (w : World) (b o : Nat) (a : GAddr) : Prop :=
  b < w.heap.size ∧ w.cell? ⟨b, o, none⟩ = some (.int .i64 a.obj) ∧ w.cell? ⟨b, o + 1, none⟩ = some (.int .i64 a.sym) ∧ w.cell? ⟨b, o + 2, none⟩ = some (.int .u32 a.at_) ∧ (0 ≤ a.at_ ∧ a.at_ ≤ 4294967295)
def SpanR (w : World) (b o : Nat) (a : GSpan) : Prop :=
  b < w.heap.size ∧ w.cell? ⟨b, o, none⟩ = some (.int .u8 a.kind) ∧ w.cell? ⟨b, o + 1, none⟩ = some (.int .u32 a.at_) ∧ w.cell? ⟨b, o + 2, none⟩ = some (.int .u32 a.size) ∧ (0 ≤ a.kind ∧ a.kind ≤ 255) ∧ (0 ≤ a.at_ ∧ a.at_ ≤ 4294967295) ∧ (0 ≤ a.size ∧ a.size ≤ 4294967295)
theorem plcR_keeps : Keeps PlcR := fun _ _ _ _ _ hb ⟨h0, h1, h2⟩ => ⟨size_keep hb h0, cell_keep hb h0 h1, cell_keep hb h0 h2⟩
theorem addrR_keeps : Keeps AddrR := fun _ _ _ _ _ hb ⟨h0, h1, h2, h3, r⟩ => ⟨size_keep hb h0, cell_keep hb h0 h1, cell_keep hb h0 h2, cell_keep hb h0 h3, r⟩
theorem spanR_keeps : Keeps SpanR := fun _ _ _ _ _ hb ⟨h0, h1, h2, h3, r⟩ => ⟨size_keep hb h0, cell_keep hb h0 h1, cell_keep hb h0 h2, cell_keep hb h0 h3, r⟩
section
variable {H : Type} {enc : TypeId × Value → H} {w : World} {base : Nat} {spare : Nat → Bool} {held : Bool}
theorem open_plc (b o : Nat) (cs : List Value) (n : Nat) (d : DataW H × List MemPlace) (hb : b < w.heap.size) (hl : cs.length = 2) (hc : ∀ j, j < 2 → w.cell? ⟨b, o + j, none⟩ = cs[j]?)
    (h : DataW.trod enc Tryz.prog w base spare held n 63 cs = some d) (hs : Small Tryz.prog 63 d.1) : ∃ y, PlcR w b o y := by
  obtain ⟨m, hf⟩ := open_fields Tryz.underlying63 (by kernel_rfl) h hs hl
  obtain ⟨v0, y0, e0, t0, _⟩ := hf 0 _ rfl
  obtain ⟨v1, y1, e1, t1, _⟩ := hf 1 _ rfl
  obtain ⟨n0, c0, -, w0⟩ := DataW.trod_int Tryz.underlying3 t0
  obtain ⟨n1, c1, -, w1⟩ := DataW.trod_int Tryz.underlying3 t1
  cases c0; cases c1
  exact ⟨(n0, n1), hb, (hc 0 (by omega)).trans e0, (hc 1 (by omega)).trans e1⟩
theorem open_plcs {v : Value} {d : DataW H} {p : List MemPlace} (h : DataW.Trod enc Tryz.prog w base spare held 22 v d p) (hsl : ∃ a n c, v = .slice a n c) (hs : Small Tryz.prog 22 d) : ∃ l, RowAt 2 PlcR w v l := by
  obtain ⟨fuel, hf⟩ := h
  obtain ⟨a, n, c, rfl⟩ := hsl
  obtain ⟨v', l, hv, hr⟩ := open_row (x := (d, p)) Tryz.underlying22 (by kernel_rfl) (by omega) (of_decide_eq_true (by kernel_rfl)) open_plc hf hs
  have : v' = .slice a n c := by simpa [Value.cells] using hv.symm
  subst this
  exact ⟨l, hr⟩
end
end Go.Proofs.YtdjgkmpjhpnkeaaGreatDoor
namespace Go.Proofs.YtdjgkmpjhpnkeaaGreatDoor
structure GMan where
  pages : Int
  exts : List (Int × Int)
  ports : List Int
  cons : Bool
def man0 : GMan := ⟨0, [], [], false⟩
/-- what a gatherer has -/
structure Gat where
  pages : Int
  ports : List Int
  cons : Bool
  blocks : List Int
def gat0 : Gat := ⟨0, [], false, List.replicate 16 0⟩
def gatNote (g : Gat) (x : GNote) : Gat :=
  if x.kind = 1 then { g with pages := max g.pages x.n }
  else if x.kind = 2 then { g with blocks := g.blocks.set x.n.toNat (max (g.blocks[x.n.toNat]?.getD 0) x.m) }
  else if x.kind = 3 then { g with ports := g.ports ++ [x.n] }
  else { g with cons := true }
def gatAll (l : List GNote) : Gat := l.foldl gatNote gat0
def sortI (l : List Int) : List Int := l.mergeSort fun x y => decide (x ≤ y)
def onceI (l : List Int) : List Int := Lib.compact l
/-- the extents of a gatherer, from place k on -/
def extsFrom : Nat → List Int → List (Int × Int)
  | _, [] => []
  | k, n :: r => if 0 < n then ((k : Int), n) :: extsFrom (k + 1) r else extsFrom (k + 1) r
def gatMan (g : Gat) : GMan := ⟨g.pages, extsFrom 0 g.blocks, onceI (sortI g.ports), g.cons⟩
def gatEnd (g : Gat) : GMan × Int := if 16 < (gatMan g).ports.length then (man0, 4) else (gatMan g, 0)
def demandR (l : List GNote) : GMan × Int := if l.all noteOk = true then gatEnd (gatAll l) else (man0, 2)
theorem noteOk_kinds {x : GNote} (h : noteOk x = true) : (x.kind = 1 ∧ x.n ≤ 1024 ∧ x.m = 0) ∨ (x.kind = 2 ∧ x.n < 16 ∧ 1 ≤ x.m ∧ x.m ≤ 1024) ∨ (x.kind = 3 ∧ 1 ≤ x.n ∧ x.n ≤ 65535 ∧ x.m = 0) ∨ (x.kind = 4 ∧ x.n = 0 ∧ x.m = 0) := by
  unfold noteOk at h
  split at h
  · left; simp at h; omega
  · split at h
    · right; left; simp at h; omega
    · split at h
      · right; right; left; simp at h; omega
      · split at h
        · right; right; right; simp at h; omega
        · cases h
/-- what a gatherer may have -/
structure GatOk (g : Gat) : Prop where
  p0 : 0 ≤ g.pages
  p1 : g.pages ≤ 1024
  n : g.blocks.length = 16
  b : ∀ x ∈ g.blocks, 0 ≤ x ∧ x ≤ 1024
  q : ∀ x ∈ g.ports, 1 ≤ x ∧ x ≤ 65535
theorem gat0_ok : GatOk gat0 := ⟨by simp [gat0], by simp [gat0], by simp [gat0], fun x hx => by simp [gat0] at hx; omega, fun x hx => by simp [gat0] at hx⟩
theorem gatNote_ok {g : Gat} {x : GNote} (h : GatOk g) (hx : noteOk x = true) (h0 : 0 ≤ x.n) : GatOk (gatNote g x) := by
  rcases noteOk_kinds hx with ⟨e, h1, h2⟩ | ⟨e, h1, h2, h3⟩ | ⟨e, h1, h2, h3⟩ | ⟨e, h1, h2⟩
  · unfold gatNote
    rw [if_pos e]
    have := h.p0; have := h.p1
    exact ⟨by simp only []; omega, by simp only []; omega, h.n, h.b, h.q⟩
  · unfold gatNote
    rw [if_neg (by omega), if_pos e]
    refine ⟨h.p0, h.p1, by simp [h.n], ?_, h.q⟩
    intro y hy
    rcases List.mem_or_eq_of_mem_set hy with hy | rfl
    · exact h.b y hy
    · have : (g.blocks[x.n.toNat]?.getD 0) ≤ 1024 := by
        cases hg : g.blocks[x.n.toNat]? with
        | none => simp
        | some v => exact (h.b v (List.mem_of_getElem? hg)).2
      omega
  · unfold gatNote
    rw [if_neg (by omega), if_neg (by omega), if_pos e]
    refine ⟨h.p0, h.p1, h.n, h.b, ?_⟩
    intro y hy
    rcases List.mem_append.1 hy with hy | hy
    · exact h.q y hy
    · simp at hy; omega
  · unfold gatNote
    rw [if_neg (by omega), if_neg (by omega), if_neg (by omega)]
    exact ⟨h.p0, h.p1, h.n, h.b, h.q⟩
theorem gatNote_len (g : Gat) (x : GNote) : (gatNote g x).ports.length ≤ g.ports.length + 1 := by
  unfold gatNote
  split
  · simp
  · split
    · simp
    · split <;> simp
end Go.Proofs.YtdjgkmpjhpnkeaaGreatDoor
namespace Go.Proofs.YtdjgkmpjhpnkeaaGreatDoor
def nameSet : List UInt8 := [97, 98, 99, 100, 101, 102, 103, 104, 105, 106, 107, 108, 109, 110, 111, 112, 113, 114, 115, 116, 117, 118, 119, 120, 121, 122, 48, 49, 50, 51, 52, 53, 54, 55, 56, 57, 46, 95]
theorem nameSet_all : ∀ n : Fin 256, nameSet.contains (UInt8.ofNat n.val) = nameByte (UInt8.ofNat n.val) := by decide +kernel
theorem nameSet_contains (b : UInt8) : nameSet.contains b = nameByte b := by
  have := nameSet_all ⟨b.toNat, b.toNat_lt⟩
  simpa using this
theorem dropWhile_nil {α : Type} (p : α → Bool) : ∀ l : List α, l.dropWhile p = [] ↔ l.all p = true
  | [] => by simp
  | a :: l => by
    by_cases h : p a = true
    · simp [h, dropWhile_nil p l]
    · simp [h]
theorem trimS_nil (l : List UInt8) : Lib.trimS l nameSet = [] ↔ l.all nameByte = true := by
  have e : (fun b => nameSet.contains b) = nameByte := funext nameSet_contains
  unfold Lib.trimS Lib.trimLeftS Lib.trimRightS
  simp only [e]
  rw [dropWhile_nil]
  simp only [List.all_reverse]
  constructor
  · intro h
    by_cases h2 : l.all nameByte = true
    · exact h2
    · exfalso
      have h3 : ¬ (l.reverse.dropWhile nameByte = []) := by rw [dropWhile_nil, List.all_reverse]; exact h2
      obtain ⟨a, t, hat⟩ := List.exists_cons_of_ne_nil h3
      have h4 : nameByte a = false := by
        have := List.head?_dropWhile_not nameByte l.reverse
        rw [hat] at this
        simpa using this
      rw [hat] at h
      simp [h4] at h
  · intro h
    have h3 : l.reverse.dropWhile nameByte = [] := by rw [dropWhile_nil, List.all_reverse]; exact h
    simp [h3]
theorem trim_isName (s : ByteArray) (h0 : 1 ≤ s.size) (h1 : s.size ≤ 32) : (Lib.trimS s.data.toList nameSet).isEmpty = isName s := by
  rw [Bool.eq_iff_iff, List.isEmpty_iff, trimS_nil]
  simp [isName, h0, h1]
end Go.Proofs.YtdjgkmpjhpnkeaaGreatDoor
namespace Go.Proofs.YtdjgkmpjhpnkeaaGreatDoor
open Go.RowKit Go.Shelf Go.Lib
theorem trim_any (s : ByteArray) (w : World) (hs : s.size ≤ 9223372036854775807) :
    Calls Tryz.prog 292 #[.string s, .string ⟨#[97, 98, 99, 100, 101, 102, 103, 104, 105, 106, 107, 108, 109, 110, 111, 112, 113, 114, 115, 116, 117, 118, 119, 120, 121, 122, 48, 49, 50, 51, 52, 53, 54, 55, 56, 57, 46, 95]⟩] w fun e w' => e = .returned (.string ⟨(Lib.trimS s.data.toList nameSet).toArray⟩) ∧ Below w.heap.size w w' :=
  Any.strings_Trim_laid Tryz.lays160 (by kernel_rfl) s ⟨#[97, 98, 99, 100, 101, 102, 103, 104, 105, 106, 107, 108, 109, 110, 111, 112, 113, 114, 115, 116, 117, 118, 119, 120, 121, 122, 48, 49, 50, 51, 52, 53, 54, 55, 56, 57, 46, 95]⟩ w hs (by decide) (ascii_of_all (by decide))
set_option maxHeartbeats 400000 in
theorem objName_any (s : ByteArray) (w : World) (hs : s.size ≤ 140737488355328) :
    Calls Tryz.prog 250 #[.string s] w fun e w' => e = .returned (.bool (isName s)) ∧ Below w.heap.size w w' := by
  by_cases h0 : s.size = 0
  · have hn : isName s = false := by simp [isName, h0]
    rw [hn]; clear hn
    have hl := toList_nil h0
    clear h0
    go_enter Tryz.func250, Tryz.ntmps250
    go_wp2
    go_ret
    exact ⟨rfl, Below.refl _ _⟩
  · have h1 : 1 ≤ s.size := by omega
    have hl := toList_not_nil h1
    have hl' := toList_isEmpty h1
    clear h0
    by_cases h2 : s.size ≤ 32
    · have HN := Lib.hid (trim_isName s h1 h2)
      have hcon := trim_any s w (by omega)
      generalize Lib.trimS s.data.toList nameSet = r at hcon HN
      have HCON := Lib.hid hcon; clear hcon
      go_enter Tryz.func250, Tryz.ntmps250
      go_wp2_with (go_at_call 292; refine HCON.out.mono ?_; rintro e w' ⟨rfl, hB⟩)
      go_ret
      exact ⟨ret_bool HN.out, hB⟩
    · have hn : isName s = false := by simp [isName, h2]
      rw [hn]; clear hn
      go_enter Tryz.func250, Tryz.ntmps250
      go_wp2
      go_ret
      exact ⟨rfl, Below.refl _ _⟩
end Go.Proofs.YtdjgkmpjhpnkeaaGreatDoor
namespace Go.Proofs.YtdjgkmpjhpnkeaaGreatDoor
open Go.RowKit
theorem told_any (b : Bool) (w : World) : Calls Tryz.prog 186 #[.bool b] w fun e w' => e = .returned (.int .i64 (errB b)) ∧ w = w' := by
  cases b <;>
  (go_enter Tryz.func186, Tryz.ntmps186
   go_wp2
   go_ret
   exact ⟨rfl, rfl⟩)
theorem or_zero {n m : Int} (h2 : 0 ≤ n ∧ n ≤ 4294967295) (h3 : 0 ≤ m ∧ m ≤ 4294967295) : (bits .or .u32 n m == 0) = (decide (n = 0) && decide (m = 0)) := by
  rw [u32_or n m h2.1 (by omega) h3.1 (by omega), Bool.eq_iff_iff]
  simp
  omega
set_option maxHeartbeats 1000000 in
theorem note_any (x : GNote) (w : World) (h1 : 0 ≤ x.kind ∧ x.kind ≤ 255) (h2 : 0 ≤ x.n ∧ x.n ≤ 4294967295) (h3 : 0 ≤ x.m ∧ x.m ≤ 4294967295) :
    Calls Tryz.prog 154 #[.agg #[.int .u8 x.kind, .int .u32 x.n, .int .u32 x.m]] w fun e w' => e = .returned (.int .i64 (errB (noteOk x))) ∧ Below w.heap.size w w' := by
  obtain ⟨k, n, m⟩ := x
  simp only [] at *
  go_enter Tryz.func154, Tryz.ntmps154
  go_wp2_with (go_at_call 186; refine (told_any _ _).mono ?_; rintro e w' ⟨rfl, rfl⟩)
  all_goals
    go_ret
    first
    | exact ⟨ret_int (congrArg errB (by go_light; first | (simp_all [noteOk, ibeq]; done) | (simp_all [noteOk]; omega) | (simp_all [noteOk, or_zero]; done))), alloc_old w _⟩
    | exact ⟨ret_int (show errB false = _ from congrArg errB (by go_light; simp_all [noteOk])), alloc_old w _⟩
set_option maxHeartbeats 400000 in
theorem mayNote_any (x : GNote) (w : World) (h1 : 0 ≤ x.kind ∧ x.kind ≤ 255) (h2 : 0 ≤ x.n ∧ x.n ≤ 4294967295) (h3 : 0 ≤ x.m ∧ x.m ≤ 4294967295) :
    Calls Tryz.prog 291 #[.agg #[.int .u8 x.kind, .int .u32 x.n, .int .u32 x.m]] w fun e w' => e = .returned (.bool (!noteOk x)) ∧ Below w.heap.size w w' := by
  go_enter Tryz.func291, Tryz.ntmps291
  go_wp2_with (go_at_call 154; refine (note_any _ _ h1 h2 h3).mono ?_; rintro e w' ⟨rfl, hB⟩)
  go_ret
  exact ⟨ret_bool (by cases noteOk x <;> rfl), (alloc_old w _).trans (hB.mono (by simp))⟩
set_option maxHeartbeats 400000 in
theorem indexNote_any (v : Value) (l : List GNote) (w : World) (h : RowAt 3 NoteR w v l) :
    Calls Tryz.prog 322 #[v, .func (.func 291) #[] #[]] w fun e w' => (∃ n : Int, e = .returned (.int .i64 n) ∧ decide (0 ≤ n) = !l.all noteOk) ∧ Below w.heap.size w w' := by
  obtain ⟨p, cap, b, o, rfl, hcap, hmax, hp, hc⟩ := h
  have HC := Lib.hid hc; clear hc
  have HP := Lib.hid hp; clear hp
  go_enter Tryz.func322, Tryz.ntmps322
  go_wp2
  go_loopw [8] (fun i wr => ∃ k : Nat, k ≤ l.length ∧ i = .int .i64 k ∧ (l.take k).all noteOk = true ∧ Below w.heap.size w wr) (fun i _ => l.length - (intOf i).toNat)
  case atStart => exact ⟨0, Nat.zero_le _, rfl, rfl, Below.refl _ _⟩
  case round =>
    obtain ⟨k, hk, rfl, hall, hbel⟩ := hrel
    have HA := Lib.hid hall; clear hall
    have HB := Lib.hid hbel; clear hbel
    by_cases hlt : k < l.length
    · obtain rfl := HP.out (by omega)
      obtain ⟨g0, g1, g2, g3, g5, g6, g7⟩ := noteR_keeps _ _ _ _ _ HB.out (HC.out k hlt)
      have HCON := Lib.hid (mayNote_any l[k] wr g5 g6 g7)
      generalize hx : l[k] = x at *
      obtain ⟨xk, xn, xm⟩ := x
      simp only [] at *
      have HX := Lib.hid hx; clear hx
      go_wp2_with (go_at_call 291; refine HCON.out.mono ?_; rintro e w' ⟨rfl, hB⟩)
      · have hbad : (!noteOk ⟨xk, xn, xm⟩) = true := by assumption
        go_ret
        exact ⟨⟨k, rfl, by rw [all_bad hlt HX.out (by simpa using hbad)]; simp⟩, HB.out.trans (hB.mono HB.out.size)⟩
      · have hok : (!noteOk ⟨xk, xn, xm⟩) = false := by assumption
        go_roundw
        case rel => exact ⟨k + 1, by omega, by go_num, take_all_snoc hlt HX.out HA.out (by simpa using hok), HB.out.trans (hB.mono HB.out.size)⟩
        case measure => simp [intOf]; omega
    · go_wp2
      go_ret
      exact ⟨⟨-1, rfl, by rw [all_end hlt HA.out]; rfl⟩, HB.out⟩
set_option maxHeartbeats 400000 in
theorem containsNote_any (v : Value) (l : List GNote) (w : World) (h : RowAt 3 NoteR w v l) :
    Calls Tryz.prog 290 #[v, .func (.func 291) #[] #[]] w fun e w' => e = .returned (.bool (!l.all noteOk)) ∧ Below w.heap.size w w' := by
  have HCON := Lib.hid (indexNote_any v l w h); clear h
  go_enter Tryz.func290, Tryz.ntmps290
  go_wp2_with (go_at_call 322; refine HCON.out.mono ?_; rintro e w' ⟨⟨n, rfl, hn⟩, hB⟩; have HN := Lib.hid hn; clear hn)
  go_ret
  exact ⟨ret_bool HN.out, hB⟩
end Go.Proofs.YtdjgkmpjhpnkeaaGreatDoor
namespace Go.Proofs.YtdjgkmpjhpnkeaaGreatDoor
open Go.RowKit
set_option maxHeartbeats 1000000 in
theorem sized_any (s : GSym) (vr vn : Value) (w : World) (hbs : s.bytes.size ≤ 140737488355328) (hk : 0 ≤ s.kind ∧ s.kind ≤ 255) (hz : 0 ≤ s.size ∧ s.size ≤ 4294967295) :
    Calls Tryz.prog 288 #[.agg #[.string s.name, .int .u8 s.bind, .int .u8 s.kind, .int .u32 s.size, .string s.bytes, vr, vn]] w fun e w' => e = .returned (.bool (sizedOk s)) ∧ Below w.heap.size w w' := by
  obtain ⟨name, bind, kind, size, bytes, rels, notes⟩ := s
  simp only [] at *
  go_enter Tryz.func288, Tryz.ntmps288
  go_wp2
  all_goals
    go_ret
    exact ⟨ret_bool (sizedB_eq (n := (bytes.size : Int) % 4294967296) (by go_light; simp; omega)), alloc_old w _⟩
theorem placesOk_no {s : GSym} {k : Nat} {e : Int} {x : GRel} (hlt : k < s.rels.length) (hx : s.rels[k] = x) (hgo : relsGo (len32 s.bytes) e (s.rels.drop k) = relsGo (len32 s.bytes) 0 s.rels)
    (h : (decide (widthOf x.kind ≠ 0) && isName x.name && decide (x.off ≤ 8192) && decide (e ≤ x.off) && decide (x.off + widthOf x.kind ≤ len32 s.bytes)) = false) : false = placesOk s := by
  rw [List.drop_eq_getElem_cons hlt, hx, relsGo, h] at hgo
  simp [placesOk, ← hgo]
theorem placesOk_end {s : GSym} {k : Nat} {e : Int} (hlt : ¬ k < s.rels.length) (hgo : relsGo (len32 s.bytes) e (s.rels.drop k) = relsGo (len32 s.bytes) 0 s.rels) : decide ((s.rels.length : Int) ≤ 1024) = placesOk s := by
  rw [List.drop_of_length_le (by omega), relsGo] at hgo
  simp [placesOk, ← hgo]; omega
theorem placesOk_no' {s : GSym} {k : Nat} {e : Int} {x : GRel} (hlt : k < s.rels.length) (hx : s.rels[k] = x) (hgo : relsGo (len32 s.bytes) e (s.rels.drop k) = relsGo (len32 s.bytes) 0 s.rels)
    (h : isName x.name = false ∨ (8192 < x.off ∨ x.off < e ∨ len32 s.bytes < x.off + widthOf x.kind)) : false = placesOk s :=
  placesOk_no hlt hx hgo (by
    rcases h with h | h
    · simp [h]
    · rw [Bool.eq_false_iff]; intro h2; simp at h2; omega)
theorem placesGo_yes {s : GSym} {k : Nat} {e g : Int} {x : GRel} (hlt : k < s.rels.length) (hx : s.rels[k] = x) (hgo : relsGo (len32 s.bytes) e (s.rels.drop k) = relsGo (len32 s.bytes) 0 s.rels)
    (hn : isName x.name = true) (h : widthOf x.kind ≠ 0 ∧ x.off ≤ 8192 ∧ e ≤ x.off ∧ x.off + widthOf x.kind ≤ len32 s.bytes) (hg : g = x.off + widthOf x.kind) : relsGo (len32 s.bytes) g (s.rels.drop (k + 1)) = relsGo (len32 s.bytes) 0 s.rels :=
  relsGo_yes hlt hx hgo (by simp [hn, h]) hg
theorem widthOf1 : widthOf 1 = 4 := rfl
theorem widthOf2 : widthOf 2 = 2 := rfl
set_option maxHeartbeats 1000000 in
theorem places_any (s : GSym) (vr vn : Value) (w : World) (h : SymIn w s vr vn) :
    Calls Tryz.prog 289 #[.agg #[.string s.name, .int .u8 s.bind, .int .u8 s.kind, .int .u32 s.size, .string s.bytes, vr, vn]] w fun e w' => e = .returned (.bool (placesOk s)) ∧ Below w.heap.size w w' := by
  obtain ⟨hr, -, -, -, -, -, hbs⟩ := h
  obtain ⟨p, cap, b, o, rfl, hcap, hmax, hp, hc⟩ := hr
  have HC := Lib.hid hc; clear hc
  have HP := Lib.hid hp; clear hp
  have hl32 : len32 s.bytes = (s.bytes.size : Int) % 4294967296 := rfl
  have HL := Lib.hid hl32; clear hl32
  go_enter Tryz.func289, Tryz.ntmps289
  go_wp2
  go_loopw [3, 11] (fun v3 v4 wr => ∃ (k : Nat) (e : Int), k ≤ s.rels.length ∧ v4 = .int .i64 k ∧ v3 = .int .u32 e ∧ 0 ≤ e ∧ e ≤ 8196 ∧ relsGo (len32 s.bytes) e (s.rels.drop k) = relsGo (len32 s.bytes) 0 s.rels ∧ Below (w.heap.size + 1) (w.alloc (.cells #[.string s.name, .int .u8 s.bind, .int .u8 s.kind, .int .u32 s.size, .string s.bytes, .slice p s.rels.length cap, vn] 342)) wr) (fun _ v4 _ => s.rels.length - (intOf v4).toNat)
  case atStart => exact ⟨0, 0, Nat.zero_le _, rfl, rfl, by omega, by omega, rfl, Below.refl _ _⟩
  case round =>
    obtain ⟨k, e, hk, rfl, rfl, he0, he1, hgo, hbel⟩ := hrel
    have HGO := Lib.hid hgo; clear hgo
    have c5 : wr.cell? ⟨w.heap.size, 5, none⟩ = some (.slice p s.rels.length cap) := by rw [hbel.cell (by simp)]; simp [go_sem]
    have c4 : wr.cell? ⟨w.heap.size, 4, none⟩ = some (.string s.bytes) := by rw [hbel.cell (by simp)]; simp [go_sem]
    have hsz : w.heap.size + 1 ≤ wr.heap.size := by have := hbel.size; simpa using this
    have HB := Lib.hid hbel; clear hbel
    by_cases hlt : k < s.rels.length
    · obtain rfl := HP.out (by omega)
      obtain ⟨g0, g1, g2, g3, g4, g5, g6, g7, g8⟩ := relR_keeps _ _ _ _ _ ((alloc_old w _).trans (HB.out.mono (by omega))) (HC.out k hlt)
      generalize hx : s.rels[k] = x at *
      obtain ⟨xo, xk, xn, xa⟩ := x
      simp only [] at *
      have HX := Lib.hid hx; clear hx
      have hsz' : w.heap.size < wr.heap.size := by omega
      have HBW : Hid (Below w.heap.size w wr) := (alloc_old w _).trans (HB.out.mono (by omega))
      rcases (show xk = 1 ∨ xk = 2 ∨ (xk ≠ 1 ∧ xk ≠ 2) by omega) with rfl | rfl | ⟨q1, q2⟩
      · go_wp2_with (go_at_call 250; refine (objName_any _ _ (by omega)).mono ?_; rintro e w' ⟨rfl, hB⟩; obtain ⟨hc1, hf1⟩ := bcell hB; have hz1 : wr.heap.size < w'.heap.size := (by have := hB.size; simp at this; omega); have HB1 := Lib.hid hB; clear hB)
        all_goals
          have HB2 : Hid (Below (w.heap.size + 1) wr w') := (Below.alloc (Below.refl _ _) (by omega) _).trans (HB1.out.mono (by simp; omega))
          first
          | (go_roundw
             case rel => exact ⟨k + 1, _, by omega, by go_num, rfl, by omega, by omega, placesGo_yes hlt HX.out HGO.out (by assumption) (by go_light; rw [HL.out]; simp only [widthOf1]; omega) rfl, HB.out.trans HB2.out⟩
             case measure => simp [intOf]; omega)
          | (have hbad : ¬ isName xn = true := (by assumption)
             go_ret
             exact ⟨ret_bool (placesOk_no' hlt HX.out HGO.out (.inl (by simpa using hbad))), HBW.out.trans (HB2.out.mono (by omega))⟩)
          | (go_ret
             exact ⟨ret_bool (placesOk_no' hlt HX.out HGO.out (.inr (by go_light; rw [HL.out]; simp only [widthOf1]; omega))), HBW.out.trans (HB2.out.mono (by omega))⟩)
      · go_wp2_with (go_at_call 250; refine (objName_any _ _ (by omega)).mono ?_; rintro e w' ⟨rfl, hB⟩; obtain ⟨hc1, hf1⟩ := bcell hB; have hz1 : wr.heap.size < w'.heap.size := (by have := hB.size; simp at this; omega); have HB1 := Lib.hid hB; clear hB)
        all_goals
          have HB2 : Hid (Below (w.heap.size + 1) wr w') := (Below.alloc (Below.refl _ _) (by omega) _).trans (HB1.out.mono (by simp; omega))
          first
          | (go_roundw
             case rel => exact ⟨k + 1, _, by omega, by go_num, rfl, by omega, by omega, placesGo_yes hlt HX.out HGO.out (by assumption) (by go_light; rw [HL.out]; simp only [widthOf2]; omega) rfl, HB.out.trans HB2.out⟩
             case measure => simp [intOf]; omega)
          | (have hbad : ¬ isName xn = true := (by assumption)
             go_ret
             exact ⟨ret_bool (placesOk_no' hlt HX.out HGO.out (.inl (by simpa using hbad))), HBW.out.trans (HB2.out.mono (by omega))⟩)
          | (go_ret
             exact ⟨ret_bool (placesOk_no' hlt HX.out HGO.out (.inr (by go_light; rw [HL.out]; simp only [widthOf2]; omega))), HBW.out.trans (HB2.out.mono (by omega))⟩)
      · have HW : Hid (widthOf xk = 0) := by unfold widthOf; rw [if_neg q1, if_neg q2]; rfl
        have b1 : (xk == 1) = false := by simpa using q1
        have b2 : (xk == 2) = false := by simpa using q2
        clear q1 q2
        go_wp2
        go_ret
        exact ⟨ret_bool (placesOk_no hlt HX.out HGO.out (by simp [HW.out])), HBW.out.alloc (by omega) _⟩
    · go_wp2
      go_ret
      exact ⟨ret_bool (placesOk_end hlt HGO.out), (alloc_old w _).trans (HB.out.mono (by omega))⟩
end Go.Proofs.YtdjgkmpjhpnkeaaGreatDoor
