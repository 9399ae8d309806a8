/- Arguments opened: rows and fields, whatever the program. No program in sight. What joins a law's contract to its card, for every law. Arguments opened: a reading of objects is a list of objects that the world. -/
import Derived.Test.YtboegjdkedjhcaaGreatDoorBs01
import Derived.ProofKit
import Derived.Deep.Slices
import Derived.Deep.Fields
import Derived.SizedLaws
import Derived.OpenShut
import Derived.Test.YtboegjdkedjhcaaGreatDoorRows
import Derived.Deep.DeepHandedRow
import Derived.Lay
import Derived.LaidMore
import Derived.Stop.Joined
import Derived.Carry
import Derived.Lib.SmallJoins
import Derived.JoinedCond
import Derived.Lib.Hide
import Derived.Laws.BitsAllLaws
import Derived.Laws.AppendOwnNone
import Derived.OwnWalk
import Derived.WalkKit
import Derived.Deep.QuietTactic
import Derived.BigQuiet
import Derived.WalkLawsBesides
import Derived.Deep.Light
import Derived.Handy
namespace Go.Proofs.YtboegjdkedjhcaaGreatDoor
set_option maxRecDepth 100000
section
open Go.ChangeShapes Go.WideShapes Go.ChangeAt Go.RowKit Go.Deep
section
variable {H : Type} {enc : TypeId × Value → H} {w : World} {base : Nat} {spare : Nat → Bool} {held : Bool}
def Small (P : Program) (t : TypeId) (d : DataW H) : Prop := (d.weights P t).all (· ≤ reachBytes) = true
theorem small_all {P : Program} {e : TypeId} : ∀ {l : List (DataW H)}, (DataW.weightsAll P e l).all (· ≤ reachBytes) = true → ∀ d ∈ l, Small P e d
 | [], _, d, hd => by cases hd
 | a :: r, h, d, hd => by
   simp only [DataW.weightsAll, List.all_append, Bool.and_eq_true] at h; rcases List.mem_cons.1 hd with rfl | hd
   ·exact h.1
   ·exact small_all h.2 d hd
theorem small_each {P : Program} : ∀ {ts : List TypeId} {l : List (DataW H)}, (DataW.weightsEach P ts l).all (· ≤ reachBytes) = true → ∀ (j : Nat) (t : TypeId) (d : DataW H), ts[j]? = some t → l[j]? = some d → Small P t d := by
 intro ts l h j t d ht hd; unfold Small; rw [List.all_eq_true] at h ⊢; exact fun n hn => h n (DataW.weights_mem_each ht hd n hn)
theorem add_eq (b o i : Nat) : (⟨b, o, none⟩ : Addr).add i = ⟨b, o + i, none⟩ := by
 unfold Addr.add
 by_cases h : i = 0 <;> simp [h]
theorem spot_none {a : Addr} {v : Value} (h : w.cell? a = some v) : a.spot = none := by
 unfold World.cell? at h; split at h
 ·split at h
  ·cases h
  ·rename_i hs; simpa using hs
 ·cases h
theorem add_zero (a : Addr) : a.add 0 = a := by simp [Addr.add]
theorem open_row {α : Type} {P : Program} {t e : TypeId} {k : Nat} {R : World → Nat → Nat → α → Prop} (ht : P.underlying t = some (.slice e)) (hk : P.cellsOf e = k) (hk0 : 0 < k) (hby : 1 ≤ P.bytesOf e)
 (hel : ∀ (b o : Nat) (cs : List Value) (n : Nat) (d : DataW H × List MemPlace), b < w.heap.size → cs.length = k → (∀ j, j < k → w.cell? ⟨b, o + j, none⟩ = cs[j]?) → DataW.trod enc P w base spare held n e cs = some d → Small P e d.1 → ∃ y, R w b o y)
 {fuel : Nat} {cs : List Value} {x : DataW H × List MemPlace} (h : DataW.trod enc P w base spare held fuel t cs = some x) (hs : Small P t x.1) : ∃ v l, cs = [v] ∧ RowAt k R w v l := by
 subst hk; rcases open_slice ht h with ⟨rfl, rfl⟩ | ⟨a, len, cap, m, n, D, Pl, rfl, hb, hl, hm, hmm, rfl, hi⟩
 ·exact ⟨_, [], rfl, none, 0, 0, 0, rfl, Nat.le_refl _, by simp, fun h => by simp at h, fun i h => by simp at h⟩
 have hlm : len ≤ m := by rw [hmm]; split <;> omega
 unfold Small at hs; simp only [DataW.weights, ht, List.all_cons, List.all_append, Bool.and_eq_true, decide_eq_true_eq, List.length_map, List.length_range] at hs; obtain ⟨hs1, hs2, _⟩ := hs; have hsz : ∀ i, i < len → Small P e (D i) := fun i hi => small_all hs2 (D i) (List.mem_map.2 ⟨i, List.mem_range.2 hi, rfl⟩)
 have hlen : len ≤ 140737488355328 := by
  have h1 : len ≤ (len + (m - len)) * P.bytesOf e := Nat.le_trans (by omega) (Nat.le_mul_of_pos_right _ hby)
  have := reachBytes_lt; omega
 by_cases h0 : len = 0
 ·subst h0; exact ⟨_, [], rfl, some a, cap, 0, 0, rfl, hl, by simp, fun h => by simp at h, fun i h => by simp at h⟩
 obtain ⟨c0, hc0, _⟩ := hi 0 (by omega)
 obtain ⟨_, hcl0, hat0⟩ := World.cells?_some hc0
 have hsp : a.spot = none := by
  have h1 := hat0 0 hk0; rw [Nat.zero_mul, add_zero, add_zero] at h1; exact spot_none (h1.trans (List.getElem?_eq_getElem (by omega)))
 obtain ⟨b, o, sp⟩ := a; simp only at hsp; subst hsp
 have hblk : b < w.heap.size := by
  have h1 := hat0 0 hk0; rw [Nat.zero_mul, add_zero, add_zero] at h1; exact World.block_lt_of_cell? w ⟨b, o, none⟩ (h1.trans (List.getElem?_eq_getElem (by omega)))
 have hall : ∀ i : Fin len, ∃ y, R w b (o + i.val * P.cellsOf e) y := fun i => by
  obtain ⟨cs', hc, htr⟩ := hi i.val (by omega)
  obtain ⟨_, hcl, hat⟩ := World.cells?_some hc; refine hel b _ cs' n _ hblk hcl (fun j hj => ?_) htr (hsz i.val i.isLt)
  have := hat j hj
  rwa [add_eq, add_eq] at this
 have hch := Classical.axiomOfChoice hall; obtain ⟨f, hf⟩ := hch; refine ⟨_, List.ofFn f, rfl, some ⟨b, o, none⟩, cap, b, o, by simp, by simpa using hl, by simpa using hlen, fun _ => rfl, fun i h => ?_⟩
 have := hf ⟨i, by simpa using h⟩
 simpa using this
theorem open_fields {P : Program} {t : TypeId} {fs : Array Field} {n : Nat} {cs : List Value} {d : DataW H × List MemPlace} (ht : P.underlying t = some (.struct fs)) (hone : oneCellFields P fs = true)
 (h : DataW.trod enc P w base spare held n t cs = some d) (hs : Small P t d.1) (hlen : cs.length = fs.size) :
 ∃ m, ∀ (j : Nat) (f : Field), fs[j]? = some f → ∃ (v : Value) (y : DataW H × List MemPlace), cs[j]? = some v ∧ DataW.trod enc P w base spare held m f.type [v] = some y ∧ Small P f.type y.1 := by
 obtain ⟨xs, m, _, rfl, _, hxl, hf⟩ := DataW.trod_struct ht h; unfold Small at hs; simp only [DataW.weights, ht] at hs; refine ⟨m, fun j f hj => ?_⟩
 obtain ⟨ho, hk⟩ := hone_of hone j f hj; have hjl : j < fs.size := (Array.getElem?_eq_some_iff.1 hj).1; have h1 := hf j f hj; rw [ho, hk] at h1; have hone' : (cs.drop j).take 1 = [cs[j]'(by omega)] := by rw [List.drop_eq_getElem_cons (by omega)]; rfl
 rw [hone', List.getElem?_eq_getElem (by omega)] at h1
 refine ⟨_, _, List.getElem?_eq_getElem (by omega), h1, ?_⟩
 refine small_each hs j f.type _ ?_ ?_
 ·simp [hj]
 ·simp [List.getElem?_eq_getElem (show j < xs.length by omega)]
theorem small_string {P : Program} {t : TypeId} {l : List UInt8} (h : Small (H := H) P t (.lit (.string l))) : l.length ≤ 140737488355328 := by
 unfold Small at h; simp [DataW.weights] at h; have := reachBytes_lt; omega
theorem small_bytes {P : Program} {t : TypeId} {s : ByteArray} (h : Small (H := H) P t (.lit (.string s.data.toList))) : s.size ≤ 140737488355328 := by
 have := small_string h; simpa using this
end
theorem trodAll_below {H : Type} {enc : TypeId × Value → H} {P : Program} (hl : laidOutB P = true) {W W' : World} (hb : Below W.heap.size W W') : ∀ {ts : List TypeId} {vs : List Value} {ds : List (DataW H)} {ps : List MemPlace},
 (ts.all fun t => P.readableRec t && decide (t < P.types.size)) = true → DataW.TrodAll enc P W 0 (fun _ => true) true ts vs ds ps → (∀ x ∈ ps, x.block < W.heap.size) →
 DataW.TrodAll enc P W' 0 (fun b => decide (b < W.heap.size)) true ts vs ds ps
 | [], [], [], ps, _, h, _ => h
 | t :: ts, v :: vs, d :: ds, ps, hr, h, hlt => by
   obtain ⟨p, q, h1, h2, rfl⟩ := h; simp only [List.all_cons, Bool.and_eq_true, decide_eq_true_eq] at hr; exact ⟨p, q, Below.trod hl hr.1.1 hr.1.2 h1 hb (fun x hx => hlt x (List.mem_append.2 (.inl hx))), trodAll_below hl hb (by simpa using hr.2) h2 (fun x hx => hlt x (List.mem_append.2 (.inr hx))), rfl⟩
 | [], _ :: _, _, _, _, h, _ => h.elim
 | [], [], _ :: _, _, _, h, _ => h.elim
 | _ :: _, [], _, _, _, h, _ => h.elim
 | _ :: _, _ :: _, [], _, _, h, _ => h.elim
theorem RowAt.split {α : Type} {k : Nat} {R : World → Nat → Nat → α → Prop} {B : α → Prop} {w : World} {v : Value} {l : List α} (h : RowAt k (fun w b o y => R w b o y ∧ B y) w v l) : RowAt k R w v l ∧ ∀ y ∈ l, B y := by
 obtain ⟨p, cap, b, o, h1, h2, h3, h4, h5⟩ := h; refine ⟨⟨p, cap, b, o, h1, h2, h3, h4, fun i hi => (h5 i hi).1⟩, fun y hy => ?_⟩
 obtain ⟨i, hi, rfl⟩ := List.mem_iff_getElem.1 hy; exact (h5 i hi).2
section
variable {H : Type} {enc : TypeId × Value → H} {w : World} {base : Nat} {spare : Nat → Bool} {held : Bool}
theorem slice_bytes {P : Program} {t e : TypeId} (ht : P.underlying t = some (.slice e)) {p : Option Addr} {n cap fuel : Nat} {x : DataW H × List MemPlace} (h : DataW.trod enc P w base spare held fuel t [.slice p n cap] = some x) (hs : Small P t x.1) : n * P.bytesOf e ≤ 140737488351232 := by
 rcases open_slice ht h with ⟨hcs, rfl⟩ | ⟨a, len, cap', m, n', D, Pl, hcs, hb, hl, hm, hmm, rfl, hi⟩
 ·cases hcs; simp
 ·cases hcs; unfold Small at hs; simp only [DataW.weights, ht, List.all_cons, List.all_append, Bool.and_eq_true, decide_eq_true_eq, List.length_map, List.length_range] at hs; have h1 : n * P.bytesOf e ≤ (n + (m - n)) * P.bytesOf e := Nat.mul_le_mul_right _ (by omega)
  have h9 : reachBytes = 140737488351232 := rfl; omega
theorem row_bytes {α : Type} {P : Program} {t e : TypeId} {k by' : Nat} {R : World → Nat → Nat → α → Prop} (ht : P.underlying t = some (.slice e)) (hby : P.bytesOf e = by') {v : Value} {l : List α} {fuel : Nat} {x : DataW H × List MemPlace}
 (h : DataW.trod enc P w base spare held fuel t [v] = some x) (hs : Small P t x.1) (hr : RowAt k R w v l) : l.length * by' ≤ 140737488351232 := by
 obtain ⟨p, cap, b, o, rfl, -⟩ := hr; rw [← hby]; exact slice_bytes ht h hs
end
end
section
open Go.ChangeShapes Go.WideShapes Go.ChangeAt Go.RowKit
open Go.ChangeMaps (open_string)
theorem own : ownKnob Tryz.prog.godebug = none := by kernel_rfl
theorem laidOut : laidOutB Tryz.prog = true := by kernel_rfl
theorem law_post {H : Type} {enc : TypeId × Value → H} {f : Func} {s : ChangeSpec} {W W' : World} {args : Array Value} {ds : List (DataW H)} {before : List MemPlace}
 (hres : f.resultTypes.toList = [4]) (hvars : s.vars = []) (hr : (f.params.toList.all fun t => Tryz.prog.readableRec t && decide (t < Tryz.prog.types.size)) = true)
 (hW : DataW.Whole enc Tryz.prog f.params.toList s.vars false W args.toList ds [] before) (hs : s.fn H (ds ++ []) = { results := [.lit (.bool true)], args := ds }) (hb : Below W.heap.size W W') :
 s.post enc Tryz.prog f false true false false W args (.bool true) W' := by
 have hlt : ∀ x ∈ before, x.block < W.heap.size := fun x hx => hW.lt x hx
 have hW0 := hW; obtain ⟨p, q, hA, hV, rfl, -, -⟩ := hW0; refine ⟨ds, [], p ++ q, [], p, q, hW, ?_, ?_, ?_, hb.frame _, fun h => by cases h⟩
 ·rw [hs, hres]; have : f.resultTypes.size = 1 := by rw [← Array.length_toList, hres]; rfl
  rw [this]; exact ⟨[], [], shut_bool Tryz.underlying4 true, rfl, rfl⟩
 ·rw [hs]; exact trodAll_below laidOut hb hr hA (fun x hx => hlt x (List.mem_append.2 (.inl hx)))
 ·rw [hs, hvars]; rw [hvars] at hV; exact hV
end
section
open Go.ChangeShapes Go.WideShapes Go.ChangeAt Go.RowKit Go.Deep
section
variable {H : Type} {enc : TypeId × Value → H} {w : World} {base : Nat} {spare : Nat → Bool} {held : Bool}
theorem open_note (b o : Nat) (cs : List Value) (n : Nat) (d : DataW H × List MemPlace) (hb : b < w.heap.size) (hl : cs.length = 3) (hc : ∀ j, j < 3 → w.cell? ⟨b, o + j, none⟩ = cs[j]?)
 (h : DataW.trod enc Tryz.prog w base spare held n 155 cs = some d) (hs : Small Tryz.prog 155 d.1) : ∃ y, NoteR w b o y := by
 obtain ⟨m, hf⟩ := open_fields Tryz.underlying155 (by kernel_rfl) h hs hl
 obtain ⟨v0, y0, e0, t0, _⟩ := hf 0 _ rfl; obtain ⟨v1, y1, e1, t1, _⟩ := hf 1 _ rfl; obtain ⟨v2, y2, e2, t2, _⟩ := hf 2 _ rfl; obtain ⟨n0, c0, -, w0⟩ := DataW.trod_int Tryz.underlying5 t0; obtain ⟨n1, c1, -, w1⟩ := DataW.trod_int Tryz.underlying51 t1; obtain ⟨n2, c2, -, w2⟩ := DataW.trod_int Tryz.underlying51 t2; cases c0; cases c1; cases c2; exact ⟨⟨n0, n1, n2⟩, hb, (hc 0 (by omega)).trans e0, (hc 1 (by omega)).trans e1, (hc 2 (by omega)).trans e2, bounds_u8 w0, bounds_u32 w1, bounds_u32 w2⟩
theorem open_rel (b o : Nat) (cs : List Value) (n : Nat) (d : DataW H × List MemPlace) (hb : b < w.heap.size) (hl : cs.length = 4) (hc : ∀ j, j < 4 → w.cell? ⟨b, o + j, none⟩ = cs[j]?)
 (h : DataW.trod enc Tryz.prog w base spare held n 133 cs = some d) (hs : Small Tryz.prog 133 d.1) : ∃ y, RelR w b o y := by
 obtain ⟨m, hf⟩ := open_fields Tryz.underlying133 (by kernel_rfl) h hs hl
 obtain ⟨v0, y0, e0, t0, _⟩ := hf 0 _ rfl; obtain ⟨v1, y1, e1, t1, _⟩ := hf 1 _ rfl; obtain ⟨v2, y2, e2, t2, s2⟩ := hf 2 _ rfl; obtain ⟨v3, y3, e3, t3, _⟩ := hf 3 _ rfl; obtain ⟨n0, c0, -, w0⟩ := DataW.trod_int Tryz.underlying51 t0; obtain ⟨n1, c1, -, w1⟩ := DataW.trod_int Tryz.underlying5 t1; obtain ⟨n2, c2, rfl, w2⟩ := DataW.trod_string Tryz.underlying9 t2; obtain ⟨n3, c3, -, w3⟩ := DataW.trod_int Tryz.underlying51 t3; cases c0; cases c1; cases c2; cases c3; exact ⟨⟨n0, n1, n2, n3⟩, hb, (hc 0 (by omega)).trans e0, (hc 1 (by omega)).trans e1, (hc 2 (by omega)).trans e2, (hc 3 (by omega)).trans e3, bounds_u32 w0, bounds_u8 w1, bounds_u32 w3, small_bytes s2⟩
theorem open_rels {fuel : Nat} {cs : List Value} {x : DataW H × List MemPlace} (h : DataW.trod enc Tryz.prog w base spare held fuel 52 cs = some x) (hs : Small Tryz.prog 52 x.1) : ∃ v l, cs = [v] ∧ RowAt 4 RelR w v l :=
 open_row Tryz.underlying52 (by kernel_rfl) (by omega) (of_decide_eq_true (by kernel_rfl)) open_rel h hs
theorem open_notes {fuel : Nat} {cs : List Value} {x : DataW H × List MemPlace} (h : DataW.trod enc Tryz.prog w base spare held fuel 53 cs = some x) (hs : Small Tryz.prog 53 x.1) : ∃ v l, cs = [v] ∧ RowAt 3 NoteR w v l :=
 open_row Tryz.underlying53 (by kernel_rfl) (by omega) (of_decide_eq_true (by kernel_rfl)) open_note h hs
theorem open_symCells (cs : List Value) (n : Nat) (d : DataW H × List MemPlace) (hl : cs.length = 7)
 (h : DataW.trod enc Tryz.prog w base spare held n 55 cs = some d) (hs : Small Tryz.prog 55 d.1) :
 ∃ (s : GSym) (vr vn : Value), cs = [.string s.name, .int .u8 s.bind, .int .u8 s.kind, .int .u32 s.size, .string s.bytes, vr, vn] ∧ SymIn w s vr vn := by
 obtain ⟨m, hf⟩ := open_fields Tryz.underlying55 (by kernel_rfl) h hs hl
 obtain ⟨v0, y0, e0, t0, s0⟩ := hf 0 _ rfl; obtain ⟨v1, y1, e1, t1, _⟩ := hf 1 _ rfl; obtain ⟨v2, y2, e2, t2, _⟩ := hf 2 _ rfl; obtain ⟨v3, y3, e3, t3, _⟩ := hf 3 _ rfl; obtain ⟨v4, y4, e4, t4, s4⟩ := hf 4 _ rfl; obtain ⟨v5, y5, e5, t5, s5⟩ := hf 5 _ rfl; obtain ⟨v6, y6, e6, t6, s6⟩ := hf 6 _ rfl; obtain ⟨n0, c0, rfl, w0⟩ := DataW.trod_string Tryz.underlying9 t0; obtain ⟨n1, c1, -, w1⟩ := DataW.trod_int Tryz.underlying5 t1; obtain ⟨n2, c2, -, w2⟩ := DataW.trod_int Tryz.underlying5 t2; obtain ⟨n3, c3, -, w3⟩ := DataW.trod_int Tryz.underlying51 t3; obtain ⟨n4, c4, rfl, w4⟩ := DataW.trod_string Tryz.underlying9 t4; obtain ⟨u5, l5, c5, r5⟩ := open_rels t5 s5; obtain ⟨u6, l6, c6, r6⟩ := open_notes t6 s6; cases c0; cases c1; cases c2; cases c3; cases c4; cases c5; cases c6; refine ⟨⟨n0, n1, n2, n3, n4, l5, l6⟩, v5, v6, ?_, r5, r6, bounds_u8 w1, bounds_u8 w2, bounds_u32 w3, small_bytes s0, small_bytes s4⟩
 match cs, hl, e0, e1, e2, e3, e4, e5, e6 with
 | [a0, a1, a2, a3, a4, a5, a6], _, e0, e1, e2, e3, e4, e5, e6 => simp at e0 e1 e2 e3 e4 e5 e6; simp [e0, e1, e2, e3, e4, e5, e6]
end
end
section
open Go.ChangeShapes Go.WideShapes Go.ChangeAt Go.RowKit Go.Deep
def SymBd (s : GSym) : Prop := s.rels.length * 32 ≤ 140737488351232 ∧ s.notes.length * 12 ≤ 140737488351232
def ObjBd (o : GObj) : Prop := o.syms.length * 88 ≤ 140737488351232 ∧ ∀ s ∈ o.syms, SymBd s
def ObjsBd (l : List GObj) : Prop := l.length * 40 ≤ 140737488351232 ∧ ∀ o ∈ l, ObjBd o
section
variable {H : Type} {enc : TypeId × Value → H} {w : World} {base : Nat} {spare : Nat → Bool} {held : Bool}
theorem open_symB (b o : Nat) (cs : List Value) (n : Nat) (d : DataW H × List MemPlace) (hb : b < w.heap.size) (hl : cs.length = 7) (hc : ∀ j, j < 7 → w.cell? ⟨b, o + j, none⟩ = cs[j]?)
 (h : DataW.trod enc Tryz.prog w base spare held n 55 cs = some d) (hs : Small Tryz.prog 55 d.1) : ∃ y, SymR w b o y ∧ SymBd y := by
 obtain ⟨s, vr, vn, rfl, hin⟩ := open_symCells cs n d hl h hs; obtain ⟨m, hf⟩ := open_fields Tryz.underlying55 (by kernel_rfl) h hs hl
 obtain ⟨v5, y5, e5, t5, s5⟩ := hf 5 _ rfl; obtain ⟨v6, y6, e6, t6, s6⟩ := hf 6 _ rfl; cases e5; cases e6
 exact ⟨s, ⟨vr, vn, hb, hc 0 (by omega), hc 1 (by omega), hc 2 (by omega), hc 3 (by omega), hc 4 (by omega), hc 5 (by omega), hc 6 (by omega), hin⟩,
  row_bytes Tryz.underlying52 (by kernel_rfl) t5 s5 hin.1, row_bytes Tryz.underlying53 (by kernel_rfl) t6 s6 hin.2.1⟩
theorem open_objB (b o : Nat) (cs : List Value) (n : Nat) (d : DataW H × List MemPlace) (hb : b < w.heap.size) (hl : cs.length = 2) (hc : ∀ j, j < 2 → w.cell? ⟨b, o + j, none⟩ = cs[j]?)
 (h : DataW.trod enc Tryz.prog w base spare held n 50 cs = some d) (hs : Small Tryz.prog 50 d.1) : ∃ y, ObjR w b o y ∧ ObjBd y := by
 obtain ⟨m, hf⟩ := open_fields Tryz.underlying50 (by kernel_rfl) h hs hl
 obtain ⟨v0, y0, e0, t0, s0⟩ := hf 0 _ rfl; obtain ⟨v1, y1, e1, t1, s1⟩ := hf 1 _ rfl; obtain ⟨n0, c0, rfl, w0⟩ := DataW.trod_string Tryz.underlying9 t0; obtain ⟨u1, l1, c1, r1⟩ := open_row (R := fun w b o y => SymR w b o y ∧ SymBd y) Tryz.underlying48 (by kernel_rfl) (by omega) (of_decide_eq_true (by kernel_rfl)) open_symB t1 s1
 cases c0; cases c1; obtain ⟨r2, r3⟩ := r1.split; exact ⟨⟨n0, l1⟩, ⟨v1, hb, (hc 0 (by omega)).trans e0, (hc 1 (by omega)).trans e1, r2, small_bytes s0⟩, row_bytes Tryz.underlying48 (by kernel_rfl) t1 s1 r2, r3⟩
theorem open_objsB {v : Value} {d : DataW H} {p : List MemPlace} (h : DataW.Trod enc Tryz.prog w base spare held 22 v d p) (hsl : ∃ a n c, v = .slice a n c) (hs : Small Tryz.prog 22 d) : ∃ l, ObjsAt w v l ∧ ObjsBd l := by
 obtain ⟨fuel, hf⟩ := h; obtain ⟨a, n, c, rfl⟩ := hsl; obtain ⟨v', l, hv, hr⟩ := open_row (x := (d, p)) (R := fun w b o y => ObjR w b o y ∧ ObjBd y) Tryz.underlying22 (by kernel_rfl) (by omega) (of_decide_eq_true (by kernel_rfl)) open_objB hf hs
 have : v' = .slice a n c := by simpa [Value.cells] using hv.symm
 subst this; obtain ⟨r2, r3⟩ := hr.split; exact ⟨l, r2, row_bytes (x := (d, p)) Tryz.underlying22 (by kernel_rfl) (by simpa [Value.cells] using hf) hs r2, r3⟩
end
end
section
theorem joined_split {P : Program} {f : FuncId} {fn : Func} {s : ChangeSpec} {c : OpenClaim} (h1 : c.wf (OpenSpec.ofChange s) = true) (h2 : laidOutB P = true) (h3 : mapsRowed P = true)
 (h4 : (fn.params.all (P.readableRec ·) && namedTie P c.named s.vars) = true) (h5 : ((c.stops == []) && (P.stops == []) && (c.knobs == []) && (P.stopKnobs == [])) = true)
 (h6 : (c.inPlace == P.inPlace f) = true) (h7 : (c.unfollowed == P.unfollowed f) = true) (h8 : (c.recurses == P.recurses f) = true) (h9 : (c.named == P.varsNamed f) = true)
 (h10 : ((c.maps == (fn.params.toList ++ s.plain.varTypes P).any (P.mapsRec ·)) && (c.ifaces == (fn.params.toList ++ s.plain.varTypes P).any (P.ifacesRec ·)) && (c.mapsOut == P.mapsAmong fn.resultTypes.toList)) = true)
 (h11 : ((c.loops == (fn.params.toList ++ s.plain.varTypes P).any (P.loopsFrom ·)) && (c.wideKeys == (fn.params.toList ++ s.plain.varTypes P ++ fn.resultTypes.toList).any (P.wideKeysFrom ·))) = true)
 (h12 : (s.vars.all (P.varReadable ·) && fn.resultTypes.all (fun t => P.readableRec t && decide (t < P.types.size)) && (c.ifacesOut == fn.resultTypes.toList.any (P.ifacesRec ·)) && (c.loopsOut == fn.resultTypes.toList.any (P.loopsFrom ·))) = true)
 (h13 : (c.plainKeys == P.plainKeys) = true) (h14 : c.shortTexts.isNone = true) (h15 : P.stopsHeard = true) (h16 : P.mayEnter = true) (h17 : (c.lifted == P.liftsFinal) = true) (h18 : (P.make == some c.make) = true)
 (h19 : (c.kinds == (if c.domain.isEmpty then [] else fn.params.toList.map fun t => match P.underlying t with | some (.int k) => some k | _ => none)) = true) (h20 : (c.pinned == c.pinnedBy) = true)
 (h21 : (c.veiled == (fn.params.toList ++ s.plain.varTypes P ++ fn.resultTypes.toList).any (P.veiledRec ·)) = true) (h22 : c.veiledFits P fn.params.toList (fn.params.toList ++ s.plain.varTypes P ++ fn.resultTypes.toList) = true) : joinedFacts P f fn s c = true := by
 unfold joinedFacts; simp only [Bool.and_eq_true] at h4 h5 h10 h11 h12 ⊢; obtain ⟨a1, a2⟩ := h4; obtain ⟨⟨⟨b1, b2⟩, b3⟩, b4⟩ := h5; obtain ⟨⟨c1, c2⟩, c3⟩ := h10; obtain ⟨d1, d2⟩ := h11; obtain ⟨⟨⟨e1, e2⟩, e3⟩, e4⟩ := h12; refine ⟨⟨⟨⟨⟨⟨⟨⟨⟨⟨⟨⟨⟨⟨⟨⟨⟨⟨⟨⟨⟨⟨⟨⟨⟨⟨⟨⟨⟨⟨⟨?_, ?_⟩, ?_⟩, ?_⟩, ?_⟩, ?_⟩, ?_⟩, ?_⟩, ?_⟩, ?_⟩, ?_⟩, ?_⟩, ?_⟩, ?_⟩, ?_⟩, ?_⟩, ?_⟩, ?_⟩, ?_⟩, ?_⟩, ?_⟩, ?_⟩, ?_⟩, ?_⟩, ?_⟩, ?_⟩, ?_⟩, ?_⟩, ?_⟩, ?_⟩, ?_⟩, ?_⟩
 all_goals assumption
theorem jp_maps : mapsRowed Tryz.prog = true := by kernel_rfl
theorem jp_heard : Tryz.prog.stopsHeard = true := by kernel_rfl
theorem jp_enter : Tryz.prog.mayEnter = true := by kernel_rfl
end
section
abbrev BL := List UInt8
def bsOf (l : BL) : ByteArray := ⟨l.toArray⟩
theorem bsOf_list (l : BL) : (bsOf l).data.toList = l := rfl
theorem bsOf_size (l : BL) : (bsOf l).size = l.length := by unfold bsOf ByteArray.size; simp
theorem len_list (s : ByteArray) : s.data.toList.length = s.size := by unfold ByteArray.size; simp
def leB : Nat → Int → BL
 | 0, _ => []
 | n + 1, v => UInt8.ofNat (v % 256).toNat :: leB n (v / 256)
def leV : BL → Int
 | [] => 0
 | b :: r => b.toNat + 256 * leV r
theorem leB_length : ∀ (n : Nat) (v : Int), (leB n v).length = n
 | 0, _ => rfl
 | n + 1, v => by simp [leB, leB_length n]
def pow256 : Nat → Int | 0 => 1 | n + 1 => 256 * pow256 n
theorem pow256_pos : ∀ n, 0 < pow256 n | 0 => by decide | n + 1 => by have := pow256_pos n; simp only [pow256]; omega
theorem leV_bd : ∀ l : BL, 0 ≤ leV l ∧ leV l < pow256 l.length
 | [] => by simp [leV, pow256]
 | b :: r => by
   have := leV_bd r; have hb := b.toNat_lt; simp only [leV, List.length_cons, pow256]; omega
theorem u8_ofNat (k : Nat) (h : k < 256) : (UInt8.ofNat k).toNat = k := by simp; omega
theorem leB_leV : ∀ l : BL, leB l.length (leV l) = l
 | [] => rfl
 | b :: r => by
   have hb := b.toNat_lt; have h1 : (b.toNat + 256 * leV r : Int) % 256 = b.toNat := by omega
   have h2 : (b.toNat + 256 * leV r : Int) / 256 = leV r := by omega
   simp only [leV, List.length_cons, leB, h1, h2, leB_leV r]; simp
def encText (s : ByteArray) : BL := leB 2 s.size ++ s.data.toList
def encRel (x : GRel) : BL := leB 4 x.off ++ leB 1 x.kind ++ encText x.name ++ leB 4 x.add
def encNote (x : GNote) : BL := leB 1 x.kind ++ leB 4 x.n ++ leB 4 x.m
def encSym (s : GSym) : BL := encText s.name ++ leB 1 s.bind ++ leB 1 s.kind ++ leB 4 s.size ++ encText s.bytes ++ leB 2 s.rels.length ++ s.rels.flatMap encRel ++ leB 1 s.notes.length ++ s.notes.flatMap encNote
def magicB : BL := [65, 79, 66, 49]
def encObj (o : GObj) : BL := magicB ++ encText o.name ++ leB 2 o.syms.length ++ o.syms.flatMap encSym
abbrev RS := Option BL
def rTake (n : Nat) : RS → BL × RS
 | none => ([], none)
 | some r => if n ≤ r.length then (r.take n, some (r.drop n)) else ([], none)
def rNum (n : Nat) (st : RS) : Int × RS := (leV (rTake n st).1, (rTake n st).2)
def rText (st : RS) : ByteArray × RS := (bsOf (rTake (rNum 2 st).1.toNat (rNum 2 st).2).1, (rTake (rNum 2 st).1.toNat (rNum 2 st).2).2)
def rRel (st : RS) : GRel × RS :=
 let a := rNum 4 st
 let b := rNum 1 a.2
 let c := rText b.2
 let d := rNum 4 c.2
 (⟨a.1, b.1, c.1, d.1⟩, d.2)
def rNote (st : RS) : GNote × RS :=
 let a := rNum 1 st
 let b := rNum 4 a.2
 let c := rNum 4 b.2
 (⟨a.1, b.1, c.1⟩, c.2)
def rMany {α : Type} (f : RS → α × RS) : Nat → RS → List α × RS
 | 0, st => ([], st)
 | _ + 1, none => ([], none)
 | n + 1, some r => ((f (some r)).1 :: (rMany f n (f (some r)).2).1, (rMany f n (f (some r)).2).2)
def rSym (st : RS) : GSym × RS :=
 let a := rText st
 let b := rNum 1 a.2
 let c := rNum 1 b.2
 let d := rNum 4 c.2
 let e := rText d.2
 let n := rNum 2 e.2
 let rs := rMany rRel n.1.toNat n.2
 let k := rNum 1 rs.2
 let ts := rMany rNote k.1.toNat k.2
 (⟨a.1, b.1, c.1, d.1, e.1, rs.1, ts.1⟩, ts.2)
def rObj (s : BL) : BL × GObj × RS :=
 let m := rTake 4 (some s)
 let a := rText m.2
 let n := rNum 2 a.2
 let ss := rMany rSym n.1.toNat n.2
 (m.1, ⟨a.1, ss.1⟩, ss.2)
def getB (s : BL) : Option GObj := if (rObj s).2.2 = some [] ∧ (rObj s).1 = magicB ∧ mayP (rObj s).2.1 = true then some (rObj s).2.1 else none
def RelFit (x : GRel) : Prop := (0 ≤ x.off ∧ x.off < 4294967296) ∧ (0 ≤ x.kind ∧ x.kind < 256) ∧ x.name.size < 65536 ∧ (0 ≤ x.add ∧ x.add < 4294967296)
def NoteFit (x : GNote) : Prop := (0 ≤ x.kind ∧ x.kind < 256) ∧ (0 ≤ x.n ∧ x.n < 4294967296) ∧ (0 ≤ x.m ∧ x.m < 4294967296)
def SymFit (s : GSym) : Prop := s.name.size < 65536 ∧ (0 ≤ s.bind ∧ s.bind < 256) ∧ (0 ≤ s.kind ∧ s.kind < 256) ∧ (0 ≤ s.size ∧ s.size < 4294967296) ∧ s.bytes.size < 65536 ∧ s.rels.length < 65536 ∧ (∀ x ∈ s.rels, RelFit x) ∧ s.notes.length < 256 ∧ (∀ x ∈ s.notes, NoteFit x)
def ObjFit (o : GObj) : Prop := o.name.size < 65536 ∧ o.syms.length < 65536 ∧ ∀ s ∈ o.syms, SymFit s
theorem p1 : (pow256 1 : Int) = 256 := rfl
theorem p2 : (pow256 2 : Int) = 65536 := rfl
theorem p4 : (pow256 4 : Int) = 4294967296 := rfl
/-! ### of what was read the bytes are those that it was read of -/
theorem rTake_some {n : Nat} {st : RS} {l r : BL} (h : rTake n st = (l, some r)) : st = some (l ++ r) ∧ l.length = n := by
 cases st with
 | none => simp [rTake] at h
 | some q =>
   unfold rTake at h; simp only [] at h; split at h
   ·cases h; rename_i hn; exact ⟨by simp, by simp; omega⟩
   ·cases h
theorem rNum_some {n : Nat} {st : RS} {v : Int} {r : BL} (h : rNum n st = (v, some r)) : st = some (leB n v ++ r) ∧ 0 ≤ v ∧ v < pow256 n := by
 have h2 := (Prod.mk.inj h).2; have h1 := (Prod.mk.inj h).1; obtain ⟨hs, hl⟩ := rTake_some (n := n) (st := st) (l := (rTake n st).1) (r := r) (by rw [← h2])
 have hb := leV_bd (rTake n st).1; rw [hl] at hb; rw [← h1]; refine ⟨?_, hb⟩; have := leB_leV (rTake n st).1; rw [hl] at this; rw [this]; exact hs
theorem rText_some {st : RS} {s : ByteArray} {r : BL} (h : rText st = (s, some r)) : st = some (encText s ++ r) ∧ s.size < 65536 := by
 have h2 := (Prod.mk.inj h).2; have h1 := (Prod.mk.inj h).1; obtain ⟨hs, hl⟩ := rTake_some (n := (rNum 2 st).1.toNat) (st := (rNum 2 st).2) (l := (rTake (rNum 2 st).1.toNat (rNum 2 st).2).1) (r := r) (by rw [← h2])
 obtain ⟨ht, h0, h3⟩ := rNum_some (n := 2) (st := st) (v := (rNum 2 st).1) (r := (rTake (rNum 2 st).1.toNat (rNum 2 st).2).1 ++ r) (by rw [← hs])
 rw [p2] at h3; have hz : s.size = (rNum 2 st).1.toNat := by rw [← h1, bsOf_size, hl]
 refine ⟨?_, by omega⟩
 rw [ht, encText, List.append_assoc]
 congr 2
 ·rw [hz]; congr 1; omega
 ·rw [← h1, bsOf_list]
theorem rRel_some {st : RS} {x : GRel} {r : BL} (h : rRel st = (x, some r)) : st = some (encRel x ++ r) ∧ RelFit x := by
 obtain ⟨e1, e2⟩ := Prod.mk.inj h; generalize ha : rNum 4 st = a at e1 e2; obtain ⟨a1, a2⟩ := a; generalize hb : rNum 1 a2 = b at e1 e2; obtain ⟨b1, b2⟩ := b; generalize hc : rText b2 = c at e1 e2; obtain ⟨c1, c2⟩ := c; generalize hd : rNum 4 c2 = d at e1 e2; obtain ⟨d1, d2⟩ := d; simp only [] at e1 e2; subst e2; subst e1; obtain ⟨rfl, k4⟩ := rNum_some hd; obtain ⟨rfl, k3⟩ := rText_some hc; obtain ⟨rfl, k2⟩ := rNum_some hb; obtain ⟨rfl, k1⟩ := rNum_some ha; rw [p4] at k4 k1; rw [p1] at k2; exact ⟨by simp only [encRel, List.append_assoc], k1, k2, k3, k4⟩
theorem rNote_some {st : RS} {x : GNote} {r : BL} (h : rNote st = (x, some r)) : st = some (encNote x ++ r) ∧ NoteFit x := by
 obtain ⟨e1, e2⟩ := Prod.mk.inj h; generalize ha : rNum 1 st = a at e1 e2; obtain ⟨a1, a2⟩ := a; generalize hb : rNum 4 a2 = b at e1 e2; obtain ⟨b1, b2⟩ := b; generalize hd : rNum 4 b2 = d at e1 e2; obtain ⟨d1, d2⟩ := d; simp only [] at e1 e2; subst e2; subst e1; obtain ⟨rfl, k4⟩ := rNum_some hd; obtain ⟨rfl, k2⟩ := rNum_some hb; obtain ⟨rfl, k1⟩ := rNum_some ha; rw [p4] at k4 k2; rw [p1] at k1; exact ⟨by simp only [encNote, List.append_assoc], k1, k2, k4⟩
theorem rMany_some {α : Type} {f : RS → α × RS} {enc : α → BL} {Fit : α → Prop} (hf : ∀ st x r, f st = (x, some r) → st = some (enc x ++ r) ∧ Fit x) : ∀ {n : Nat} {st : RS} {l : List α} {r : BL}, rMany f n st = (l, some r) → st = some (l.flatMap enc ++ r) ∧ l.length = n ∧ ∀ x ∈ l, Fit x
 | 0, st, l, r, h => by
   simp only [rMany] at h; obtain ⟨rfl, rfl⟩ := Prod.mk.inj h; exact ⟨by simp, rfl, fun x hx => by cases hx⟩
 | n + 1, none, l, r, h => by simp [rMany] at h
 | n + 1, some q, l, r, h => by
   simp only [rMany] at h; generalize ha : f (some q) = a at h; obtain ⟨x, st⟩ := a; simp only [] at h; generalize hb : rMany f n st = b at h; obtain ⟨l', st'⟩ := b; obtain ⟨rfl, rfl⟩ := Prod.mk.inj h; obtain ⟨rfl, k2, k3⟩ := rMany_some hf hb; obtain ⟨k4, k5⟩ := hf _ _ _ ha; refine ⟨by rw [k4]; simp, by simp [k2], fun y hy => ?_⟩
   rcases List.mem_cons.1 hy with rfl | hy
   ·exact k5
   ·exact k3 y hy
theorem rSym_some {st : RS} {x : GSym} {r : BL} (h : rSym st = (x, some r)) : st = some (encSym x ++ r) ∧ SymFit x := by
 obtain ⟨e1, e2⟩ := Prod.mk.inj h; generalize ha : rText st = a at e1 e2; obtain ⟨a1, a2⟩ := a; generalize hb : rNum 1 a2 = b at e1 e2; obtain ⟨b1, b2⟩ := b; generalize hc : rNum 1 b2 = c at e1 e2; obtain ⟨c1, c2⟩ := c; generalize hd : rNum 4 c2 = d at e1 e2; obtain ⟨d1, d2⟩ := d; generalize he : rText d2 = e at e1 e2; obtain ⟨f1, f2⟩ := e; generalize hn : rNum 2 f2 = n at e1 e2; obtain ⟨n1, n2⟩ := n; simp only [] at e1 e2; generalize hr : rMany rRel n1.toNat n2 = rr at e1 e2; obtain ⟨r1, r2⟩ := rr; generalize hk : rNum 1 r2 = k at e1 e2; obtain ⟨k1, k2⟩ := k; simp only [] at e1 e2; generalize ht : rMany rNote k1.toNat k2 = t at e1 e2; obtain ⟨t1, t2⟩ := t; simp only [] at e1 e2; subst e2; subst e1; obtain ⟨rfl, q1, q2⟩ := rMany_some (fun _ _ _ => rNote_some) ht
 obtain ⟨rfl, q3⟩ := rNum_some hk; obtain ⟨rfl, q4, q5⟩ := rMany_some (fun _ _ _ => rRel_some) hr
 obtain ⟨rfl, q6⟩ := rNum_some hn; obtain ⟨rfl, q7⟩ := rText_some he; obtain ⟨rfl, q8⟩ := rNum_some hd; obtain ⟨rfl, q9⟩ := rNum_some hc; obtain ⟨rfl, q10⟩ := rNum_some hb; obtain ⟨rfl, q11⟩ := rText_some ha; rw [p1] at q3 q9 q10; rw [p2] at q6; rw [p4] at q8; have m1 : (t1.length : Int) = k1 := by omega
 have m2 : (r1.length : Int) = n1 := by omega
 exact ⟨by simp only [encSym, List.append_assoc, m1, m2], q11, q10, q9, q8, q7, by simp only []; omega, q5, by simp only []; omega, q2⟩
theorem getB_some {s : BL} {o : GObj} (h : getB s = some o) : encObj o = s ∧ ObjFit o ∧ mayP o = true := by
 unfold getB at h; split at h
 ·rename_i hc; cases h; obtain ⟨h1, h2, h3⟩ := hc; refine ⟨?_, ?_, h3⟩
  all_goals
   unfold rObj at h1 h2 ⊢; simp only [] at h1 h2 ⊢; generalize ha : rTake 4 (some s) = a at h1 h2 ⊢; obtain ⟨a1, a2⟩ := a; generalize hb : rText a2 = b at h1 ⊢; obtain ⟨b1, b2⟩ := b; generalize hn : rNum 2 b2 = n at h1 ⊢; obtain ⟨n1, n2⟩ := n; simp only [] at h1 h2 ⊢; generalize hr : rMany rSym n1.toNat n2 = rr at h1 ⊢; obtain ⟨r1, r2⟩ := rr; simp only [] at h1 h2 ⊢; subst h1; subst h2; obtain ⟨rfl, q1, q2⟩ := rMany_some (fun _ _ _ => rSym_some) hr
   obtain ⟨rfl, q3⟩ := rNum_some hn; obtain ⟨rfl, q4⟩ := rText_some hb; obtain ⟨q5, -⟩ := rTake_some ha; rw [p2] at q3; have m1 : (r1.length : Int) = n1 := by omega
  ·rw [Option.some.inj q5]; simp [encObj, m1]
  ·exact ⟨q4, by simp only []; omega, q2⟩
 ·cases h
theorem pow256_mono : ∀ {n m : Nat}, n ≤ m → pow256 n ≤ pow256 m
 | 0, m, _ => by have := pow256_pos m; simp only [pow256]; omega
 | n + 1, m + 1, h => by have := pow256_mono (n := n) (m := m) (by omega); simp only [pow256]; omega
theorem rNum_bd (n : Nat) (st : RS) : 0 ≤ (rNum n st).1 ∧ (rNum n st).1 < pow256 n := by
 have h := leV_bd (rTake n st).1
 have hl : (rTake n st).1.length ≤ n := by
  cases st with
  | none => simp [rTake]
  | some r => unfold rTake; simp only []; split <;> simp; omega
 have := pow256_mono hl; exact ⟨h.1, Int.lt_of_lt_of_le h.2 this⟩
theorem rTake_len (n : Nat) (st : RS) : (rTake n st).1.length ≤ n := by
 cases st with
 | none => simp [rTake]
 | some r => unfold rTake; simp only []; split <;> simp; omega
end
section
open Go.RowKit
theorem leV_snoc : ∀ (l : BL) (b : UInt8), leV (l ++ [b]) = leV l + b.toNat * pow256 l.length
 | [], b => by simp [leV, pow256]
 | x :: r, b => by
   rw [List.cons_append, leV, leV_snoc r b, leV, List.length_cons, pow256]; rw [Int.mul_add, ← Int.add_assoc, Int.mul_left_comm]
theorem or_shift (a b k : Nat) (h : a < 2 ^ k) : a ||| b <<< k = a + b * 2 ^ k := by
 rw [Nat.or_comm, Nat.shiftLeft_eq, Nat.mul_comm b, ← Nat.two_pow_add_eq_or_of_lt h, Nat.add_comm]
theorem pow256_eq : ∀ k : Nat, pow256 k = ((2 ^ (8 * k) : Nat) : Int)
 | 0 => rfl
 | k + 1 => by rw [pow256, pow256_eq k, show 8 * (k + 1) = 8 * k + 8 by omega, Nat.pow_add]; simp; omega
theorem or_byte (l : BL) (b : UInt8) (hl : l.length < 4) : bits .or .u32 (leV l) ((b.toNat : Int) % 4294967296 * 2 ^ (8 * l.length) % 4294967296) = leV (l ++ [b]) := by
 have hv := leV_bd l; have hb := b.toNat_lt; rw [leV_snoc, pow256_eq]; rw [pow256_eq] at hv
 have hp : (2 ^ (8 * l.length) : Nat) ≤ 16777216 := by
  have := Nat.pow_le_pow_right (n := 2) (by omega) (show 8 * l.length ≤ 24 by omega)
  exact this
 have hm : b.toNat * 2 ^ (8 * l.length) < 4294967296 := by
  have := Nat.mul_le_mul (show b.toNat ≤ 255 by omega) hp
  omega
 obtain ⟨a, ha⟩ := Int.eq_ofNat_of_zero_le hv.1
 have e1 : ((b.toNat : Int) % 4294967296 * 2 ^ (8 * l.length) % 4294967296) = ((b.toNat * 2 ^ (8 * l.length) : Nat) : Int) := by
  rw [Int.emod_eq_of_lt (a := (b.toNat : Int)) (by omega) (by omega)]
  rw [show (b.toNat : Int) * 2 ^ (8 * l.length) = ((b.toNat * 2 ^ (8 * l.length) : Nat) : Int) by simp]
  exact Int.emod_eq_of_lt (by omega) (by omega)
 rw [e1, ha]; rw [ha] at hv; have ha2 : a < 2 ^ (8 * l.length) := by omega
 rw [u32_or_nat a _ (by omega) hm, ← Nat.shiftLeft_eq, or_shift a b.toNat _ ha2]
 simp
set_option maxHeartbeats 1000000 in
theorem wordGet_any (s : ByteArray) (w : World) (h1 : 1 ≤ s.size) (h4 : s.size ≤ 4) :
 Calls Tryz.prog 87 #[.string s] w fun e w' => e = .returned (.tuple #[.int .u32 (leV s.data.toList), .int .i64 0]) ∧ w = w' := by
 have d1 : decide ((s.size : Int) < 1) = false := by simp; omega
 have d4 : decide ((4 : Int) < (s.size : Int)) = false := by simp; omega
 have d4' : decide (4 < s.size) = false := by simp; omega
 go_enter Tryz.func87, Tryz.ntmps87; go_wp2
 go_loopw [2, 15] (fun v2 v15 wr => ∃ k : Nat, k ≤ s.size ∧ v15 = .int .i64 k ∧ v2 = .int .u32 (leV (s.data.toList.take k)) ∧ w = wr) (fun _ v15 _ => s.size - (intOf v15).toNat)
 case atStart => exact ⟨0, Nat.zero_le _, rfl, rfl, rfl⟩
 case round =>
  obtain ⟨k, hk, rfl, rfl, rfl⟩ := hrel
  by_cases hlt : k < s.size
  ·have HE : Hid (bits .or .u32 (leV (s.data.toList.take k)) ((s[k].toNat : Int) % 4294967296 * 2 ^ (8 * k) % 4294967296) = leV (s.data.toList.take (k + 1))) := by
    have hl : (s.data.toList.take k).length = k := by rw [List.length_take, len_list]; omega
    have := or_byte (s.data.toList.take k) s[k] (by omega)
    rw [hl] at this; rw [Hid, this, List.take_succ_eq_append_getElem (by rw [len_list]; exact hlt)]
    rfl
   go_wp2; exact ⟨⟨k + 1, by omega, by go_num, by rw [HE.out], trivial⟩, by simp [intOf]; omega⟩
  ·have HT : Hid (s.data.toList.take k = s.data.toList) := List.take_of_length_le (by rw [len_list]; omega)
   rw [HT.out]; go_wp2; go_ret2; exact ⟨rfl, rfl⟩
end
section
open Go.RowKit
end
section
open Go.RowKit
theorem add_at (b o i : Nat) : (⟨b, o, none⟩ : Addr).add i = ⟨b, o + i, none⟩ := by
 unfold Addr.add
 by_cases h : i = 0 <;> simp [h]
theorem flat_len {α : Type} {k : Nat} {f : α → List Value} (hk : ∀ x, (f x).length = k) : ∀ l : List α, (l.flatMap f).length = l.length * k
 | [] => by simp
 | x :: r => by
   rw [List.flatMap_cons, List.length_append, flat_len hk r, hk, List.length_cons, Nat.succ_mul]; omega
theorem flat_get {α : Type} {k : Nat} {f : α → List Value} (hk : ∀ x, (f x).length = k) : ∀ (l : List α) (i j : Nat) (hi : i < l.length), j < k → (l.flatMap f)[i * k + j]? = (f l[i])[j]?
 | x :: r, 0, j, _, hj => by
   rw [List.flatMap_cons, Nat.zero_mul, Nat.zero_add, List.getElem?_append_left (by rw [hk]; exact hj)]; rfl
 | x :: r, i + 1, j, hi, hj => by
   have h1 : (i + 1) * k + j = k + (i * k + j) := by rw [Nat.succ_mul]; omega
   rw [List.flatMap_cons, h1, List.getElem?_append_right (by rw [hk]; omega), hk, Nat.add_sub_cancel_left, flat_get hk r i j (by simpa using hi) hj]; rfl
theorem flat_inv {α : Type} {k : Nat} {f : α → List Value} (hk : ∀ x, (f x).length = k) (hk0 : 0 < k) {l : List α} {q : Nat} {u : Value} (h : (l.flatMap f)[q]? = some u) : ∃ (i j : Nat) (hi : i < l.length), j < k ∧ q = i * k + j ∧ (f l[i])[j]? = some u := by
 have hq : q < l.length * k := by
  rw [← flat_len hk l]; exact (List.getElem?_eq_some_iff.1 h).1
 have hi : q / k < l.length := Nat.div_lt_of_lt_mul (by rw [Nat.mul_comm]; exact hq)
 have hj := Nat.mod_lt q hk0; have he : q = q / k * k + q % k := by rw [Nat.mul_comm]; exact (Nat.div_add_mod q k).symm
 refine ⟨q / k, q % k, hi, hj, he, ?_⟩; rw [← flat_get hk l _ _ hi hj, ← he]; exact h
theorem row_news {α : Type} {k : Nat} {f : α → List Value} (hk : ∀ x, (f x).length = k) (hk0 : 0 < k) {w : World} {b o : Nat} {l : List α} (h : ∀ i (hi : i < l.length) j u, (f l[i])[j]? = some u → w.cell? ⟨b, o + i * k + j, none⟩ = some u) :
 ∀ j u, (l.flatMap f)[j]? = some u → w.cell? ((⟨b, o, none⟩ : Addr).add j) = some u := by
 intro q u hq; obtain ⟨i, j, hi, hj, rfl, hu⟩ := flat_inv hk hk0 hq; rw [add_at, ← Nat.add_assoc]; exact h i hi j u hu
theorem owned_row {α : Type} {k base : Nat} {e : TypeId} {f : α → List Value} (hk : ∀ x, (f x).length = k) {w : World} {v : Value} {l : List α} (h : w.ownsRow base e k v l.length (l.flatMap f)) (hl : l.length ≤ 140737488355328)
 {R : World → Nat → Nat → α → Prop} (hR : ∀ g o i (hi : i < l.length), g < w.heap.size → (∀ j u, j < k → (f l[i])[j]? = some u → w.cell? ⟨g, o + j, none⟩ = some u) → R w g o l[i]) : RowAt k R w v l := by
 rcases h.2 with ⟨rfl, h0⟩ | ⟨g, cap, cur, rfl, hb, hg, hnc, hcm, hcs, htk⟩
 ·refine ⟨none, 0, 0, 0, by rw [h0], by omega, hl, fun h => by omega, fun i h => by omega⟩
 ·have hglt : g < w.heap.size := (Array.getElem?_eq_some_iff.1 hg).1; refine ⟨_, cap, g, 0, rfl, hnc, hl, fun _ => rfl, fun i hi => hR g _ i hi hglt fun j u hj hu => ?_⟩
  rw [← flat_get hk l i j hi hj] at hu; have h1 := h.cells (g := g) rfl _ _ hu; rw [add_at] at h1; rw [Nat.add_assoc]; exact h1
end
section
open Go.RowKit
def relCells (x : GRel) : List Value := [.int .u32 x.off, .int .u8 x.kind, .string x.name, .int .u32 x.add]
def noteCells (x : GNote) : List Value := [.int .u8 x.kind, .int .u32 x.n, .int .u32 x.m]
theorem relCells_len (x : GRel) : (relCells x).length = 4 := rfl
theorem noteCells_len (x : GNote) : (noteCells x).length = 3 := rfl
theorem noteCells_one {l : List GNote} : ∀ u ∈ l.flatMap noteCells, u.oneCell' = true := by
 intro u hu; obtain ⟨x, _, hx⟩ := List.mem_flatMap.1 hu; simp only [noteCells, List.mem_cons, List.not_mem_nil, or_false] at hx; rcases hx with rfl | rfl | rfl <;> rfl
theorem note_news {w : World} {b o : Nat} {l : List GNote} (h : ∀ i (hi : i < l.length), NoteR w b (o + i * 3) l[i]) : ∀ j u, (l.flatMap noteCells)[j]? = some u → w.cell? ((⟨b, o, none⟩ : Addr).add j) = some u := by
 refine row_news noteCells_len (by omega) fun i hi j u hu => ?_
 obtain ⟨-, h1, h2, h3, -⟩ := h i hi
 match j, hu with
 | 0, hu => cases hu; exact h1
 | 1, hu => cases hu; exact h2
 | 2, hu => cases hu; exact h3
abbrev SymT := GSym × Value × Value
def symCells (t : SymT) : List Value := [.string t.1.name, .int .u8 t.1.bind, .int .u8 t.1.kind, .int .u32 t.1.size, .string t.1.bytes, t.2.1, t.2.2]
theorem symCells_len (x : SymT) : (symCells x).length = 7 := rfl
theorem sym_back {w : World} {v : Value} {base : Nat} {e : TypeId} {ts : List SymT} (h : w.ownsRow base e 7 v ts.length (ts.flatMap symCells)) (hl : ts.length ≤ 140737488355328) (hin : ∀ t ∈ ts, SymIn w t.1 t.2.1 t.2.2) : RowAt 7 SymR w v (ts.map (·.1)) := by
 have h1 : RowAt 7 (fun w b o (t : SymT) => SymR w b o t.1) w v ts := owned_row symCells_len h hl fun g o' i hi hg hcell =>
  ⟨ts[i].2.1, ts[i].2.2, hg, hcell 0 _ (by omega) rfl, hcell 1 _ (by omega) rfl, hcell 2 _ (by omega) rfl, hcell 3 _ (by omega) rfl, hcell 4 _ (by omega) rfl, hcell 5 _ (by omega) rfl, hcell 6 _ (by omega) rfl, hin _ (List.getElem_mem hi)⟩
 obtain ⟨p, cap, b, o, rfl, h2, h3, h4, h5⟩ := h1; exact ⟨p, cap, b, o, by simp, by simpa using h2, by simpa using h3, by simpa using h4, fun i hi => by simpa using h5 i (by simpa using hi)⟩
end
section
open Go.RowKit
theorem owns_mono {w : World} {base base' : Nat} {e : TypeId} {k : Nat} {v : Value} {n : Nat} {xs : List Value} (h : w.ownsRow base e k v n xs) (hb : base' ≤ base) : w.ownsRow base' e k v n xs := by
 refine ⟨h.1, ?_⟩; rcases h.2 with hn | ⟨g, cap, cur, rfl, hg, rest⟩
 ·exact .inl hn
 ·exact .inr ⟨g, cap, cur, rfl, by omega, rest⟩
theorem own_shape {w : World} {base : Nat} {e : TypeId} {k : Nat} {v : Value} {n : Nat} {xs : List Value} (h : w.ownsRow base e k v n xs) : ∃ p c, v = .slice p n c := by
 rcases h.2 with ⟨rfl, rfl⟩ | ⟨g, cap, cur, rfl, -⟩
 ·exact ⟨_, _, rfl⟩
 ·exact ⟨_, _, rfl⟩
theorem own_type {w : World} {B : Nat} {e : TypeId} {k n : Nat} {v : Value} {xs : List Value} (h : w.ownsRow B e k v n xs) {g : Nat} (hg : v.ownBlock = some g) : ∃ cur, w.heap[g]? = some (.cells cur e (0, 0)) := by
 rcases h.2 with ⟨rfl, -⟩ | ⟨g', cap, cur, rfl, -, h1, -⟩
 ·cases hg
 ·cases hg; exact ⟨cur, h1⟩
theorem own_ne {w : World} {B B' : Nat} {e e' : TypeId} {k k' n n' : Nat} {v v' : Value} {xs xs' : List Value} (h : w.ownsRow B e k v n xs) (h' : w.ownsRow B' e' k' v' n' xs') (hne : e ≠ e') {g : Nat} (hg : v.ownBlock = some g) (hg' : v'.ownBlock = some g) : False := by
 obtain ⟨cur, h1⟩ := own_type h hg; obtain ⟨cur', h2⟩ := own_type h' hg'; rw [h1] at h2; injection h2 with h2; injection h2 with _ h3 _; exact hne h3
theorem own_ne_box {w : World} {B : Nat} {e t : TypeId} {k n g : Nat} {v : Value} {xs : List Value} {cs : Array Value} (h : w.ownsRow B e k v n xs) (hb : w.heap[g]? = some (.cells cs t (0, 0))) (hne : e ≠ t) : v.ownBlock ≠ some g := fun hg => by
 obtain ⟨cur, h1⟩ := own_type h hg; rw [h1] at hb; injection hb with h2; injection h2 with _ h3 _; exact hne h3
end
section
open Go.RowKit
structure BW (w : World) where
 u : World
 b : Below w.heap.size w u
instance (w : World) : Nonempty (BW w) := ⟨⟨w, Below.refl _ _⟩⟩
instance (w : World) : Inhabited (BW w) := ⟨⟨w, Below.refl _ _⟩⟩
theorem wp_region_below {P : Program} {id : Nat} {Q : Exit → Act → World → Prop} {a : Act} {w : World} {l : List Oper} (hm : P.follows .mixedOrders = true) (hB : Region.lexB .any l.toArray = true)
 (h : wpQuiet P l.toArray (fun w' => ∃ x : BW w, w' = x.u) (fun a' => ∀ w', (∃ x : BW w, w' = x.u) → Q .normal a' w') l a) : (Code.region id l.toArray true).wp P Q a w :=
 wp_region_quiet (C := fun w' => ∃ x : BW w, w' = x.u) hm hB ⟨⟨_, (Below.refl _ _).drew⟩, rfl⟩ (by simpa using h)
theorem calls_below {P : Program} {f : FuncId} {args : Array Value} {w : World} {v : Value} {x : BW w}
 (h : Calls P f args x.u fun e w' => e = .returned v ∧ Below x.u.heap.size x.u w') : Calls P f args x.u fun e w'' => e = .returned v ∧ ∃ y : BW w, w'' = y.u :=
 h.mono fun _ w' ⟨he, hb⟩ => ⟨he, ⟨w', x.b.trans (hb.mono x.b.size)⟩, rfl⟩
theorem bw_of {w w' : World} (h : ∃ x : BW w, w' = x.u) : Below w.heap.size w w' := by obtain ⟨x, rfl⟩ := h; exact x.b
theorem bw_cell {w : World} {b o : Nat} {v : Value} (h0 : b < w.heap.size) (h : w.cell? ⟨b, o, none⟩ = some v) : ∀ x : BW w, x.u.cell? ⟨b, o, none⟩ = some v := fun x => by
 rw [x.b.cell (p := ⟨b, o, none⟩) h0]; exact h
end
section
def hasR (l : List GObj) (a b : Int) : Bool := decide (0 ≤ a) && decide (0 ≤ b) && (match l[a.toNat]? with | some o => decide (b.toNat < o.syms.length) | none => false)
theorem hasR_no0 {l : List GObj} {a b : Int} (h : a < 0 ∨ (l.length : Int) ≤ a ∨ b < 0) : hasR l a b = false := by
 unfold hasR; rcases h with h | h | h
 ·simp [show ¬ 0 ≤ a by omega]
 ·rw [List.getElem?_eq_none (by omega)]; simp
 ·simp [show ¬ 0 ≤ b by omega]
theorem hasR_at {l : List GObj} {a b : Nat} (h : a < l.length) : hasR l a b = decide (b < l[a].syms.length) := by
 unfold hasR; simp [List.getElem?_eq_getElem h]
def refsV (c : ByteArray × Int) (l : List GObj) (a b : Int) : List (Nat × Nat) × ByteArray × Int := if c.2 ≠ 0 then ([], c.1, c.2) else if hasR l a b then refsGo l a [] (relsAt l a.toNat b.toNat) else ([], emptyB, 2)
theorem hasR_yes {l : List GObj} {a b : Int} (h : hasR l a b = true) : ∃ (an bn : Nat) (ha : an < l.length), a = an ∧ b = bn ∧ bn < l[an].syms.length := by
 by_cases h1 : a < 0 ∨ (l.length : Int) ≤ a ∨ b < 0
 ·rw [hasR_no0 h1] at h; simp at h
 ·obtain ⟨an, rfl⟩ := Int.eq_ofNat_of_zero_le (show 0 ≤ a by omega)
  obtain ⟨bn, rfl⟩ := Int.eq_ofNat_of_zero_le (show 0 ≤ b by omega)
  have ha : an < l.length := by omega
  rw [hasR_at ha] at h; exact ⟨an, bn, ha, rfl, rfl, by simpa using h⟩
end
section
open Go.RowKit
set_option maxHeartbeats 2000000 in
theorem large_any (v : Value) (l : List GObj) (w : World) (h : ObjsAt w v l) :
 Calls Tryz.prog 26 #[v] w fun e w' => e = .returned (.bool (largeB l)) ∧ Below w.heap.size w w' := by
 obtain ⟨p, cap, b, o, rfl, hcap, hmax, hp, hc⟩ := h; have HC := Lib.hid hc; clear hc; have HP := Lib.hid hp; clear hp; go_enter Tryz.func26, Tryz.ntmps26; go_wp2
 go_loopw [3, 4] (fun v3 v4 wr => ∃ (i : Nat) (n : Int), i ≤ l.length ∧ i ≤ 40 ∧ v4 = .int .i64 i ∧ v3 = .int .i64 n ∧ n = wrap64 (sumI objS (l.take i)) ∧ Below w.heap.size w wr) (fun _ v4 _ => l.length - (intOf v4).toNat)
 case atStart => exact ⟨0, 0, Nat.zero_le _, by omega, rfl, rfl, by simp [sumI, wrap64], Below.refl _ _⟩
 case round =>
  obtain ⟨i, n, hi, hi40, rfl, rfl, hn, hbel⟩ := hrel; have HN := Lib.hid hn; clear hn; have HB := Lib.hid hbel; clear hbel
  by_cases hlt : i < l.length ∧ i < 40
  ·obtain ⟨hlt1, hlt2⟩ := hlt; obtain rfl := HP.out (by omega)
   obtain ⟨vs, g0, g1, g2, hin⟩ := HC.out i hlt1; replace g2 := cell_keep HB.out g0 g2; have g0' := size_keep HB.out g0; have c2 : Hid (w.cell? ⟨b, o + i * 2 + 1, none⟩ = some vs) := by have := g2; rwa [HB.out.cell (p := ⟨b, o + i * 2 + 1, none⟩) g0] at this
   generalize hx : l[i] = x at g1 hin; obtain ⟨xn, xs⟩ := x; simp only [] at g1 hin; have HX := Lib.hid hx; clear hx; obtain ⟨⟨pS, capS, bS, oS, rfl, hcapS, hmaxS, hpS, hcS⟩, hnmx⟩ := hin; have HCS := Lib.hid hcS; clear hcS; have HPS := Lib.hid hpS; clear hpS; clear g1; go_wp2; obtain ⟨wo, rfl⟩ : ∃ wo : World, wo = wr := ⟨_, rfl⟩
   go_loopw [3, 5] (fun v3 v5 wr => ∃ (k : Nat) (m : Int), k ≤ xs.length ∧ k ≤ 200 ∧ v5 = .int .i64 k ∧ v3 = .int .i64 m ∧ m = wrap64 (sumI objS (l.take i) + xs.length + sumI symS (xs.take k)) ∧ Below w.heap.size w wr) (fun _ v5 _ => xs.length - (intOf v5).toNat)
   case atStart => exact ⟨0, _, Nat.zero_le _, by omega, rfl, rfl, by rw [HN.out, wrap64_add_left]; simp [sumI], HB.out⟩
   case round =>
    clear g2 g0' HB; obtain ⟨k, m, hk, hk2, rfl, rfl, hm, hbel⟩ := hrel; have HM := Lib.hid hm; clear hm; have HB := Lib.hid hbel; clear hbel; have g2 := cell_keep HB.out g0 c2.out; have g0' := size_keep HB.out g0
    by_cases hlk : k < xs.length ∧ k < 200
    ·obtain ⟨hlk1, hlk2⟩ := hlk; obtain rfl := HPS.out (by omega)
     obtain ⟨vr, vn, s0, s1, s2, s3, s4, s5, s6, s7, hsin⟩ := symR_keeps _ _ _ _ _ HB.out (HCS.out k hlk1); generalize hy : xs[k] = y at s1 s2 s3 s4 s5 s6 s7 hsin; obtain ⟨yn, yb, yk, ys, yy, yr, yt⟩ := y; simp only [] at s1 s2 s3 s4 s5 s6 s7 hsin; have HY := Lib.hid hy; clear hy; obtain ⟨⟨pR, capR, bR, oR, rfl, hcapR, hmaxR, hpR, hcR⟩, ⟨pT, capT, bT, oT, rfl, hcapT, hmaxT, -, -⟩, -, -, -, hny, hby⟩ := hsin; simp only [] at hny hby hmaxR hmaxT; have HCR := Lib.hid hcR; clear hcR; have HPR := Lib.hid hpR; clear hpR; have HBW := Lib.hid (HB.out.alloc HB.out.size (.cells #[.string yn, .int .u8 yb, .int .u8 yk, .int .u32 ys, .string yy, .slice pR yr.length capR, .slice pT yt.length capT] 55)); go_wp2
     go_loop [3, 7] (fun v3 v7 => ∃ (j : Nat) (q : Int), j ≤ yr.length ∧ j ≤ 1100 ∧ v7 = .int .i64 j ∧ v3 = .int .i64 q ∧ q = wrap64 (sumI objS (l.take i) + xs.length + sumI symS (xs.take k) + ((yr.length : Int) / 4 + (yt.length : Int) / 4 + (yy.size : Int) / 64 + (yn.size : Int) / 16) + sumI relS (yr.take j))) (fun _ v7 => yr.length - (intOf v7).toNat)
     case atStart =>
      refine ⟨0, _, Nat.zero_le _, by omega, rfl, rfl, ?_⟩
      rw [HM.out, wrap5]; simp only [sumI, List.take_zero]
      congr 1; omega
     case round =>
      obtain ⟨j, q, hj, hj2, rfl, rfl, hq⟩ := hrel; have HQ := Lib.hid hq; clear hq
      by_cases hlj : j < yr.length ∧ j < 1100
      ·obtain ⟨hlj1, hlj2⟩ := hlj; obtain rfl := HPR.out (by omega)
       obtain ⟨r0, r1, r2, r3, r4, r5, r6, r7, r8⟩ := HCR.out j hlj1; generalize hz : yr[j] = z at r1 r2 r3 r4 r5 r6 r7 r8; obtain ⟨zo, zk, zn, za⟩ := z; simp only [] at r1 r2 r3 r4 r5 r6 r7 r8; have HZ := Lib.hid hz; clear hz; go_wp2; go_round
       case rel =>
        refine ⟨j + 1, _, by omega, by omega, by go_num, rfl, ?_⟩
        rw [HQ.out, wrap64_add_left, sumI_take_succ relS hlj1 HZ.out]; simp only [relS]
        congr 1; omega
       case measure => simp [intOf]; omega
      ·have HTE := Lib.hid (take_end hj hj2 hlj)
       have HFQ : Hid (q = wrap64 (sumI objS (l.take i) + xs.length + sumI symS (xs.take (k + 1)))) := by
        rw [HQ.out, HTE.out, sumI_take_succ symS hlk1 HY.out]; simp only [symS]
        congr 1; omega
       by_cases hj1 : j < yr.length
       ·have hj3 : ¬ j < 1100 := fun h => hlj ⟨hj1, h⟩
        clear hlj; go_wp2; go_roundw
        case rel => exact ⟨k + 1, _, by omega, by omega, by go_num, rfl, HFQ.out, HBW.out⟩
        case measure => simp [intOf]; omega
       ·clear hlj; go_wp2; go_roundw
        case rel => exact ⟨k + 1, _, by omega, by omega, by go_num, rfl, HFQ.out, HBW.out⟩
        case measure => simp [intOf]; omega
    ·have HTE := Lib.hid (take_end hk hk2 hlk)
     have HFM : Hid (m = wrap64 (sumI objS (l.take (i + 1)))) := by
      rw [HM.out, HTE.out, sumI_take_succ objS hlt1 HX.out]; simp only [objS]
      congr 1; omega
     by_cases hk1 : k < xs.length
     ·have hk3 : ¬ k < 200 := fun h => hlk ⟨hk1, h⟩
      clear hlk; go_wp2; go_roundw
      case rel => exact ⟨i + 1, _, by omega, by omega, by go_num, rfl, HFM.out, HB.out⟩
      case measure => simp [intOf]; omega
     ·clear hlk; go_wp2; go_roundw
      case rel => exact ⟨i + 1, _, by omega, by omega, by go_num, rfl, HFM.out, HB.out⟩
      case measure => simp [intOf]; omega
  ·have HTE := Lib.hid (take_end hi hi40 hlt); have HFN : Hid (n = wrap64 (largeSum l)) := by rw [HN.out, HTE.out]; rfl
   by_cases hi1 : i < l.length
   ·have hi3 : ¬ i < 40 := fun h => hlt ⟨hi1, h⟩
    clear hlt; go_wp2
    all_goals
     go_ret; exact ⟨ret_bool (by unfold largeB; rw [← HFN.out] <;> (go_light; simp; try omega)), HB.out⟩
   ·clear hlt; go_wp2
    all_goals
     go_ret; exact ⟨ret_bool (by unfold largeB; rw [← HFN.out] <;> (go_light; simp; try omega)), HB.out⟩
end
section
open Go.RowKit
def relN (s : GSym) : Int := s.rels.length
def objN (o : GObj) : Int := (o.syms.length : Int) + sumI relN (o.syms.take 70)
def sum13 (l : List GObj) : Int := sumI objN (l.take 20)
def large13B (l : List GObj) : Bool := largeB l || decide (100 < sum13 l)
set_option maxHeartbeats 2000000 in
theorem large13_any (v : Value) (l : List GObj) (w : World) (h : ObjsAt w v l) :
 Calls Tryz.prog 22 #[v] w fun e w' => e = .returned (.bool (large13B l)) ∧ Below w.heap.size w w' := by
 have HL := Lib.hid (large_any v l w h); obtain ⟨p, cap, b, o, rfl, hcap, hmax, hp, hc⟩ := h; have HC := Lib.hid hc; clear hc; have HP := Lib.hid hp; clear hp; go_enter Tryz.func22, Tryz.ntmps22; go_wp2
 go_loop [3, 4] (fun v3 v4 => ∃ (i : Nat) (n : Int), i ≤ l.length ∧ i ≤ 20 ∧ v4 = .int .i64 i ∧ v3 = .int .i64 n ∧ n = sumI objN (l.take i) ∧ 0 ≤ n ∧ n ≤ i * 10000000000000000) (fun _ v4 => l.length - (intOf v4).toNat)
 case atStart => exact ⟨0, 0, Nat.zero_le _, by omega, rfl, rfl, by simp [sumI], by omega, by omega⟩
 case round =>
  obtain ⟨i, n, hi, hi40, rfl, rfl, hn, hn0, hn1⟩ := hrel; have HN := Lib.hid hn; clear hn
  by_cases hlt : i < l.length ∧ i < 20
  ·obtain ⟨hlt1, hlt2⟩ := hlt; obtain rfl := HP.out (by omega)
   obtain ⟨vs, g0, g1, g2, hin⟩ := HC.out i hlt1; generalize hx : l[i] = x at g1 hin; obtain ⟨xn, xs⟩ := x; simp only [] at g1 hin; have HX := Lib.hid hx; clear hx; obtain ⟨⟨pS, capS, bS, oS, rfl, hcapS, hmaxS, hpS, hcS⟩, hnmx⟩ := hin; have HCS := Lib.hid hcS; clear hcS; have HPS := Lib.hid hpS; clear hpS; clear g1; simp only [] at hmaxS hcapS; go_wp2
   go_loop [3, 5] (fun v3 v5 => ∃ (k : Nat) (m : Int), k ≤ xs.length ∧ k ≤ 70 ∧ v5 = .int .i64 k ∧ v3 = .int .i64 m ∧ m = n + xs.length + sumI relN (xs.take k) ∧ 0 ≤ m ∧ m ≤ n + xs.length + k * 140737488355328) (fun _ v5 => xs.length - (intOf v5).toNat)
   case atStart => exact ⟨0, _, Nat.zero_le _, by omega, rfl, rfl, by simp [sumI], by omega, by omega⟩
   case round =>
    obtain ⟨k, m, hk, hk2, rfl, rfl, hm, hm0, hm1⟩ := hrel; have HM := Lib.hid hm; clear hm
    by_cases hlk : k < xs.length ∧ k < 70
    ·obtain ⟨hlk1, hlk2⟩ := hlk; obtain rfl := HPS.out (by omega)
     obtain ⟨vr, vn, s0, s1, s2, s3, s4, s5, s6, s7, hsin⟩ := HCS.out k hlk1; generalize hy : xs[k] = y at s1 s2 s3 s4 s5 s6 s7 hsin; obtain ⟨yn, yb, yk, ys, yy, yr, yt⟩ := y; simp only [] at s1 s2 s3 s4 s5 s6 s7 hsin; have HY := Lib.hid hy; clear hy; obtain ⟨⟨pR, capR, bR, oR, rfl, hcapR, hmaxR, -, -⟩, -⟩ := hsin; simp only [] at hmaxR s6; clear s1 s2 s3 s4 s5 s7; go_wp2; go_round
     case rel =>
      refine ⟨k + 1, _, by omega, by omega, by go_num, rfl, ?_, by omega, by omega⟩
      rw [HM.out, sumI_take_succ relN hlk1 HY.out]; simp only [relN]; omega
     case measure => simp [intOf]; omega
    ·have HFM : Hid (m = sumI objN (l.take (i + 1))) := by
      rw [HM.out, take_end hk hk2 hlk, sumI_take_succ objN hlt1 HX.out, HN.out]; have he : objN ⟨xn, xs⟩ = (xs.length : Int) + sumI relN (xs.take 70) := rfl; rw [he]; unfold Hid; omega
     by_cases hk1 : k < xs.length
     ·have hk3 : ¬ k < 70 := fun h => hlk ⟨hk1, h⟩
      clear hlk; go_wp2; go_round
      case rel => exact ⟨i + 1, _, by omega, by omega, by go_num, rfl, HFM.out, by omega, by omega⟩
      case measure => simp [intOf]; omega
     ·clear hlk; go_wp2; go_round
      case rel => exact ⟨i + 1, _, by omega, by omega, by go_num, rfl, HFM.out, by omega, by omega⟩
      case measure => simp [intOf]; omega
  ·have HF : Hid (n = sum13 l) := by rw [Hid, HN.out, take_end hi hi40 hlt]; rfl
   have HB : Hid (large13B l = (largeB l || decide (100 < n))) := by rw [Hid, HF.out]; rfl
   cases hLB : largeB l with
   | true =>
     rw [hLB] at HL HB; clear hLB
     by_cases hi1 : i < l.length
     ·have hi3 : ¬ i < 20 := fun h => hlt ⟨hi1, h⟩
      clear hlt; go_wp2_with (go_at_call 26; refine HL.out.mono ?_; rintro e w1 ⟨rfl, hB1⟩); go_ret; exact ⟨ret_bool (by rw [HB.out]; rfl), hB1⟩
     ·clear hlt; go_wp2_with (go_at_call 26; refine HL.out.mono ?_; rintro e w1 ⟨rfl, hB1⟩); go_ret; exact ⟨ret_bool (by rw [HB.out]; rfl), hB1⟩
   | false =>
     rw [hLB] at HL HB; clear hLB
     by_cases hi1 : i < l.length
     ·have hi3 : ¬ i < 20 := fun h => hlt ⟨hi1, h⟩
      clear hlt; go_wp2_with (go_at_call 26; refine HL.out.mono ?_; rintro e w1 ⟨rfl, hB1⟩)
      all_goals
       go_ret; exact ⟨ret_bool (by rw [HB.out]; simp [*]), hB1⟩
     ·clear hlt; go_wp2_with (go_at_call 26; refine HL.out.mono ?_; rintro e w1 ⟨rfl, hB1⟩)
      all_goals
       go_ret; exact ⟨ret_bool (by rw [HB.out]; simp [*]), hB1⟩
end
end Go.Proofs.YtboegjdkedjhcaaGreatDoor
