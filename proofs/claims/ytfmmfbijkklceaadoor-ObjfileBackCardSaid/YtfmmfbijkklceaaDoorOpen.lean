/- Arguments opened: a reading of objects is a list of objects that the world holds. Arguments opened, with how many bytes each row has. -/
import Derived.Test.YtfmmfbijkklceaaDoorRows
import Derived.Test.YtfmmfbijkklceaaDoorData
import Derived.ProofKit
import Derived.Deep.Slices
import Derived.Deep.Fields
import Derived.SizedLaws
import Derived.OpenShut
namespace Go.Proofs.YtfmmfbijkklceaaDoor
open Go.ChangeShapes Go.WideShapes Go.ChangeAt Go.RowKit Go.Deep
section
variable {H : Type} {enc : TypeId × Value → H} {w : World} {base : Nat} {spare : Nat → Bool} {held : Bool}
def Small (P : Program) (t : TypeId) (d : DataW H) : Prop := (d.weights P t).all (· ≤ reachBytes) = true
theorem small_all {P : Program} {e : TypeId} : ∀ {l : List (DataW H)}, (DataW.weightsAll P e l).all (· ≤ reachBytes) = true → ∀ d ∈ l, Small P e d
  | [], _, d, hd => by cases hd
  | a :: r, h, d, hd => by
    simp only [DataW.weightsAll, List.all_append, Bool.and_eq_true] at h
    rcases List.mem_cons.1 hd with rfl | hd
    · exact h.1
    · exact small_all h.2 d hd
theorem small_each {P : Program} : ∀ {ts : List TypeId} {l : List (DataW H)}, (DataW.weightsEach P ts l).all (· ≤ reachBytes) = true → ∀ (j : Nat) (t : TypeId) (d : DataW H), ts[j]? = some t → l[j]? = some d → Small P t d := by
  intro ts l h j t d ht hd
  unfold Small
  rw [List.all_eq_true] at h ⊢
  exact fun n hn => h n (DataW.weights_mem_each ht hd n hn)
theorem add_eq (b o i : Nat) : (⟨b, o, none⟩ : Addr).add i = ⟨b, o + i, none⟩ := by
  unfold Addr.add
  by_cases h : i = 0 <;> simp [h]
theorem spot_none {a : Addr} {v : Value} (h : w.cell? a = some v) : a.spot = none := by
  unfold World.cell? at h
  split at h
  · split at h
    · cases h
    · rename_i hs; simpa using hs
  · cases h
theorem add_zero (a : Addr) : a.add 0 = a := by simp [Addr.add]
/-- a slice: if each of its elements is held as R says, the slice is a row of them -/
theorem open_row {α : Type} {P : Program} {t e : TypeId} {k : Nat} {R : World → Nat → Nat → α → Prop} (ht : P.underlying t = some (.slice e)) (hk : P.cellsOf e = k) (hk0 : 0 < k) (hby : 1 ≤ P.bytesOf e)
    (hel : ∀ (b o : Nat) (cs : List Value) (n : Nat) (d : DataW H × List MemPlace), b < w.heap.size → cs.length = k → (∀ j, j < k → w.cell? ⟨b, o + j, none⟩ = cs[j]?) → DataW.trod enc P w base spare held n e cs = some d → Small P e d.1 → ∃ y, R w b o y)
    {fuel : Nat} {cs : List Value} {x : DataW H × List MemPlace} (h : DataW.trod enc P w base spare held fuel t cs = some x) (hs : Small P t x.1) : ∃ v l, cs = [v] ∧ RowAt k R w v l := by
  subst hk
  rcases open_slice ht h with ⟨rfl, rfl⟩ | ⟨a, len, cap, m, n, D, Pl, rfl, hb, hl, hm, hmm, rfl, hi⟩
  · exact ⟨_, [], rfl, none, 0, 0, 0, rfl, Nat.le_refl _, by simp, fun h => by simp at h, fun i h => by simp at h⟩
  have hlm : len ≤ m := by rw [hmm]; split <;> omega
  unfold Small at hs
  simp only [DataW.weights, ht, List.all_cons, List.all_append, Bool.and_eq_true, decide_eq_true_eq, List.length_map, List.length_range] at hs
  obtain ⟨hs1, hs2, _⟩ := hs
  have hsz : ∀ i, i < len → Small P e (D i) := fun i hi => small_all hs2 (D i) (List.mem_map.2 ⟨i, List.mem_range.2 hi, rfl⟩)
  have hlen : len ≤ 140737488355328 := by
    have h1 : len ≤ (len + (m - len)) * P.bytesOf e := Nat.le_trans (by omega) (Nat.le_mul_of_pos_right _ hby)
    have := reachBytes_lt
    omega
  by_cases h0 : len = 0
  · subst h0
    exact ⟨_, [], rfl, some a, cap, 0, 0, rfl, hl, by simp, fun h => by simp at h, fun i h => by simp at h⟩
  obtain ⟨c0, hc0, _⟩ := hi 0 (by omega)
  obtain ⟨_, hcl0, hat0⟩ := World.cells?_some hc0
  have hsp : a.spot = none := by
    have h1 := hat0 0 hk0
    rw [Nat.zero_mul, add_zero, add_zero] at h1
    exact spot_none (h1.trans (List.getElem?_eq_getElem (by omega)))
  obtain ⟨b, o, sp⟩ := a
  simp only at hsp
  subst hsp
  have hblk : b < w.heap.size := by
    have h1 := hat0 0 hk0
    rw [Nat.zero_mul, add_zero, add_zero] at h1
    exact World.block_lt_of_cell? w ⟨b, o, none⟩ (h1.trans (List.getElem?_eq_getElem (by omega)))
  have hall : ∀ i : Fin len, ∃ y, R w b (o + i.val * P.cellsOf e) y := fun i => by
    obtain ⟨cs', hc, htr⟩ := hi i.val (by omega)
    obtain ⟨_, hcl, hat⟩ := World.cells?_some hc
    refine hel b _ cs' n _ hblk hcl (fun j hj => ?_) htr (hsz i.val i.isLt)
    have := hat j hj
    rwa [add_eq, add_eq] at this
  have hch := Classical.axiomOfChoice hall
  obtain ⟨f, hf⟩ := hch
  refine ⟨_, List.ofFn f, rfl, some ⟨b, o, none⟩, cap, b, o, by simp, by simpa using hl, by simpa using hlen, fun _ => rfl, fun i h => ?_⟩
  have := hf ⟨i, by simpa using h⟩
  simpa using this
theorem fst_of {x y : DataW H × List MemPlace} (h : some x = some y) : x.1 = y.1 := by cases h; rfl
/-- a struct of one-cell fields: its cells, and the reading of each -/
theorem open_fields {P : Program} {t : TypeId} {fs : Array Field} {n : Nat} {cs : List Value} {d : DataW H × List MemPlace} (ht : P.underlying t = some (.struct fs)) (hone : oneCellFields P fs = true)
    (h : DataW.trod enc P w base spare held n t cs = some d) (hs : Small P t d.1) (hlen : cs.length = fs.size) :
    ∃ m, ∀ (j : Nat) (f : Field), fs[j]? = some f → ∃ (v : Value) (y : DataW H × List MemPlace), cs[j]? = some v ∧ DataW.trod enc P w base spare held m f.type [v] = some y ∧ Small P f.type y.1 := by
  obtain ⟨xs, m, _, rfl, _, hxl, hf⟩ := DataW.trod_struct ht h
  unfold Small at hs
  simp only [DataW.weights, ht] at hs
  refine ⟨m, fun j f hj => ?_⟩
  obtain ⟨ho, hk⟩ := hone_of hone j f hj
  have hjl : j < fs.size := (Array.getElem?_eq_some_iff.1 hj).1
  have h1 := hf j f hj
  rw [ho, hk] at h1
  have hone' : (cs.drop j).take 1 = [cs[j]'(by omega)] := by rw [List.drop_eq_getElem_cons (by omega)]; rfl
  rw [hone', List.getElem?_eq_getElem (by omega)] at h1
  refine ⟨_, _, List.getElem?_eq_getElem (by omega), h1, ?_⟩
  refine small_each hs j f.type _ ?_ ?_
  · simp [hj]
  · simp [List.getElem?_eq_getElem (show j < xs.length by omega)]
theorem small_string {P : Program} {t : TypeId} {l : List UInt8} (h : Small (H := H) P t (.lit (.string l))) : l.length ≤ 140737488355328 := by
  unfold Small at h
  simp [DataW.weights] at h
  have := reachBytes_lt
  omega
theorem small_bytes {P : Program} {t : TypeId} {s : ByteArray} (h : Small (H := H) P t (.lit (.string s.data.toList))) : s.size ≤ 140737488355328 := by
  have := small_string h
  simpa using this
theorem open_note (b o : Nat) (cs : List Value) (n : Nat) (d : DataW H × List MemPlace) (hb : b < w.heap.size) (hl : cs.length = 3) (hc : ∀ j, j < 3 → w.cell? ⟨b, o + j, none⟩ = cs[j]?)
    (h : DataW.trod enc Tryd.prog w base spare held n 64 cs = some d) (hs : Small Tryd.prog 64 d.1) : ∃ y, NoteR w b o y := by
  obtain ⟨m, hf⟩ := open_fields Tryd.underlying64 (by kernel_rfl) h hs hl
  obtain ⟨v0, y0, e0, t0, _⟩ := hf 0 _ rfl
  obtain ⟨v1, y1, e1, t1, _⟩ := hf 1 _ rfl
  obtain ⟨v2, y2, e2, t2, _⟩ := hf 2 _ rfl
  obtain ⟨n0, c0, -, w0⟩ := DataW.trod_int Tryd.underlying5 t0
  obtain ⟨n1, c1, -, w1⟩ := DataW.trod_int Tryd.underlying43 t1
  obtain ⟨n2, c2, -, w2⟩ := DataW.trod_int Tryd.underlying43 t2
  cases c0; cases c1; cases c2
  exact ⟨⟨n0, n1, n2⟩, hb, (hc 0 (by omega)).trans e0, (hc 1 (by omega)).trans e1, (hc 2 (by omega)).trans e2, bounds_u8 w0, bounds_u32 w1, bounds_u32 w2⟩
theorem open_rel (b o : Nat) (cs : List Value) (n : Nat) (d : DataW H × List MemPlace) (hb : b < w.heap.size) (hl : cs.length = 4) (hc : ∀ j, j < 4 → w.cell? ⟨b, o + j, none⟩ = cs[j]?)
    (h : DataW.trod enc Tryd.prog w base spare held n 49 cs = some d) (hs : Small Tryd.prog 49 d.1) : ∃ y, RelR w b o y := by
  obtain ⟨m, hf⟩ := open_fields Tryd.underlying49 (by kernel_rfl) h hs hl
  obtain ⟨v0, y0, e0, t0, _⟩ := hf 0 _ rfl
  obtain ⟨v1, y1, e1, t1, _⟩ := hf 1 _ rfl
  obtain ⟨v2, y2, e2, t2, s2⟩ := hf 2 _ rfl
  obtain ⟨v3, y3, e3, t3, _⟩ := hf 3 _ rfl
  obtain ⟨n0, c0, -, w0⟩ := DataW.trod_int Tryd.underlying43 t0
  obtain ⟨n1, c1, -, w1⟩ := DataW.trod_int Tryd.underlying5 t1
  obtain ⟨n2, c2, rfl, w2⟩ := DataW.trod_string Tryd.underlying9 t2
  obtain ⟨n3, c3, -, w3⟩ := DataW.trod_int Tryd.underlying43 t3
  cases c0; cases c1; cases c2; cases c3
  exact ⟨⟨n0, n1, n2, n3⟩, hb, (hc 0 (by omega)).trans e0, (hc 1 (by omega)).trans e1, (hc 2 (by omega)).trans e2, (hc 3 (by omega)).trans e3, bounds_u32 w0, bounds_u8 w1, bounds_u32 w3, small_bytes s2⟩
theorem open_rels {fuel : Nat} {cs : List Value} {x : DataW H × List MemPlace} (h : DataW.trod enc Tryd.prog w base spare held fuel 44 cs = some x) (hs : Small Tryd.prog 44 x.1) : ∃ v l, cs = [v] ∧ RowAt 4 RelR w v l :=
  open_row Tryd.underlying44 (by kernel_rfl) (by omega) (of_decide_eq_true (by kernel_rfl)) open_rel h hs
theorem open_notes {fuel : Nat} {cs : List Value} {x : DataW H × List MemPlace} (h : DataW.trod enc Tryd.prog w base spare held fuel 45 cs = some x) (hs : Small Tryd.prog 45 x.1) : ∃ v l, cs = [v] ∧ RowAt 3 NoteR w v l :=
  open_row Tryd.underlying45 (by kernel_rfl) (by omega) (of_decide_eq_true (by kernel_rfl)) open_note h hs
/-- a symbol's cells -/
theorem open_symCells (cs : List Value) (n : Nat) (d : DataW H × List MemPlace) (hl : cs.length = 7)
    (h : DataW.trod enc Tryd.prog w base spare held n 47 cs = some d) (hs : Small Tryd.prog 47 d.1) :
    ∃ (s : GSym) (vr vn : Value), cs = [.string s.name, .int .u8 s.bind, .int .u8 s.kind, .int .u32 s.size, .string s.bytes, vr, vn] ∧ SymIn w s vr vn := by
  obtain ⟨m, hf⟩ := open_fields Tryd.underlying47 (by kernel_rfl) h hs hl
  obtain ⟨v0, y0, e0, t0, s0⟩ := hf 0 _ rfl
  obtain ⟨v1, y1, e1, t1, _⟩ := hf 1 _ rfl
  obtain ⟨v2, y2, e2, t2, _⟩ := hf 2 _ rfl
  obtain ⟨v3, y3, e3, t3, _⟩ := hf 3 _ rfl
  obtain ⟨v4, y4, e4, t4, s4⟩ := hf 4 _ rfl
  obtain ⟨v5, y5, e5, t5, s5⟩ := hf 5 _ rfl
  obtain ⟨v6, y6, e6, t6, s6⟩ := hf 6 _ rfl
  obtain ⟨n0, c0, rfl, w0⟩ := DataW.trod_string Tryd.underlying9 t0
  obtain ⟨n1, c1, -, w1⟩ := DataW.trod_int Tryd.underlying5 t1
  obtain ⟨n2, c2, -, w2⟩ := DataW.trod_int Tryd.underlying5 t2
  obtain ⟨n3, c3, -, w3⟩ := DataW.trod_int Tryd.underlying43 t3
  obtain ⟨n4, c4, rfl, w4⟩ := DataW.trod_string Tryd.underlying9 t4
  obtain ⟨u5, l5, c5, r5⟩ := open_rels t5 s5
  obtain ⟨u6, l6, c6, r6⟩ := open_notes t6 s6
  cases c0; cases c1; cases c2; cases c3; cases c4; cases c5; cases c6
  refine ⟨⟨n0, n1, n2, n3, n4, l5, l6⟩, v5, v6, ?_, r5, r6, bounds_u8 w1, bounds_u8 w2, bounds_u32 w3, small_bytes s0, small_bytes s4⟩
  match cs, hl, e0, e1, e2, e3, e4, e5, e6 with
  | [a0, a1, a2, a3, a4, a5, a6], _, e0, e1, e2, e3, e4, e5, e6 => simp at e0 e1 e2 e3 e4 e5 e6; simp [e0, e1, e2, e3, e4, e5, e6]
theorem open_sym (b o : Nat) (cs : List Value) (n : Nat) (d : DataW H × List MemPlace) (hb : b < w.heap.size) (hl : cs.length = 7) (hc : ∀ j, j < 7 → w.cell? ⟨b, o + j, none⟩ = cs[j]?)
    (h : DataW.trod enc Tryd.prog w base spare held n 47 cs = some d) (hs : Small Tryd.prog 47 d.1) : ∃ y, SymR w b o y := by
  obtain ⟨s, vr, vn, rfl, hin⟩ := open_symCells cs n d hl h hs
  exact ⟨s, vr, vn, hb, hc 0 (by omega), hc 1 (by omega), hc 2 (by omega), hc 3 (by omega), hc 4 (by omega), hc 5 (by omega), hc 6 (by omega), hin⟩
theorem open_syms {fuel : Nat} {cs : List Value} {x : DataW H × List MemPlace} (h : DataW.trod enc Tryd.prog w base spare held fuel 22 cs = some x) (hs : Small Tryd.prog 22 x.1) : ∃ v l, cs = [v] ∧ RowAt 7 SymR w v l :=
  open_row Tryd.underlying22 (by kernel_rfl) (by omega) (of_decide_eq_true (by kernel_rfl)) open_sym h hs
theorem open_obj (b o : Nat) (cs : List Value) (n : Nat) (d : DataW H × List MemPlace) (hb : b < w.heap.size) (hl : cs.length = 2) (hc : ∀ j, j < 2 → w.cell? ⟨b, o + j, none⟩ = cs[j]?)
    (h : DataW.trod enc Tryd.prog w base spare held n 24 cs = some d) (hs : Small Tryd.prog 24 d.1) : ∃ y, ObjR w b o y := by
  obtain ⟨m, hf⟩ := open_fields Tryd.underlying24 (by kernel_rfl) h hs hl
  obtain ⟨v0, y0, e0, t0, s0⟩ := hf 0 _ rfl
  obtain ⟨v1, y1, e1, t1, s1⟩ := hf 1 _ rfl
  obtain ⟨n0, c0, rfl, w0⟩ := DataW.trod_string Tryd.underlying9 t0
  obtain ⟨u1, l1, c1, r1⟩ := open_syms t1 s1
  cases c0; cases c1
  exact ⟨⟨n0, l1⟩, v1, hb, (hc 0 (by omega)).trans e0, (hc 1 (by omega)).trans e1, r1, small_bytes s0⟩
theorem open_objs {v : Value} {d : DataW H} {p : List MemPlace} (h : DataW.Trod enc Tryd.prog w base spare held 38 v d p) (hsl : ∃ a n c, v = .slice a n c) (hs : Small Tryd.prog 38 d) : ∃ l, ObjsAt w v l := by
  obtain ⟨fuel, hf⟩ := h
  obtain ⟨a, n, c, rfl⟩ := hsl
  obtain ⟨v', l, hv, hr⟩ := open_row (x := (d, p)) Tryd.underlying38 (by kernel_rfl) (by omega) (of_decide_eq_true (by kernel_rfl)) open_obj hf hs
  have : v' = .slice a n c := by simpa [Value.cells] using hv.symm
  subst this
  exact ⟨l, hr⟩
end
/-- arguments read as they did in a world that keeps all that there was -/
theorem trodAll_below {H : Type} {enc : TypeId × Value → H} {P : Program} (hl : laidOutB P = true) {W W' : World} (hb : Below W.heap.size W W') : ∀ {ts : List TypeId} {vs : List Value} {ds : List (DataW H)} {ps : List MemPlace},
    (ts.all fun t => P.readableRec t && decide (t < P.types.size)) = true → DataW.TrodAll enc P W 0 (fun _ => true) true ts vs ds ps → (∀ x ∈ ps, x.block < W.heap.size) →
    DataW.TrodAll enc P W' 0 (fun b => decide (b < W.heap.size)) true ts vs ds ps
  | [], [], [], ps, _, h, _ => h
  | t :: ts, v :: vs, d :: ds, ps, hr, h, hlt => by
    obtain ⟨p, q, h1, h2, rfl⟩ := h
    simp only [List.all_cons, Bool.and_eq_true, decide_eq_true_eq] at hr
    exact ⟨p, q, Below.trod hl hr.1.1 hr.1.2 h1 hb (fun x hx => hlt x (List.mem_append.2 (.inl hx))), trodAll_below hl hb (by simpa using hr.2) h2 (fun x hx => hlt x (List.mem_append.2 (.inr hx))), rfl⟩
  | [], _ :: _, _, _, _, h, _ => h.elim
  | [], [], _ :: _, _, _, h, _ => h.elim
  | _ :: _, [], _, _, _, h, _ => h.elim
  | _ :: _, _ :: _, [], _, _, h, _ => h.elim
end Go.Proofs.YtfmmfbijkklceaaDoor
namespace Go.Proofs.YtfmmfbijkklceaaDoor
open Go.ChangeShapes Go.WideShapes Go.ChangeAt Go.RowKit Go.Deep
def SymBd (s : GSym) : Prop := s.rels.length * 32 ≤ 140737488351232 ∧ s.notes.length * 12 ≤ 140737488351232
def ObjBd (o : GObj) : Prop := o.syms.length * 88 ≤ 140737488351232 ∧ ∀ s ∈ o.syms, SymBd s
def ObjsBd (l : List GObj) : Prop := l.length * 40 ≤ 140737488351232 ∧ ∀ o ∈ l, ObjBd o
theorem RowAt.split {α : Type} {k : Nat} {R : World → Nat → Nat → α → Prop} {B : α → Prop} {w : World} {v : Value} {l : List α} (h : RowAt k (fun w b o y => R w b o y ∧ B y) w v l) : RowAt k R w v l ∧ ∀ y ∈ l, B y := by
  obtain ⟨p, cap, b, o, h1, h2, h3, h4, h5⟩ := h
  refine ⟨⟨p, cap, b, o, h1, h2, h3, h4, fun i hi => (h5 i hi).1⟩, fun y hy => ?_⟩
  obtain ⟨i, hi, rfl⟩ := List.mem_iff_getElem.1 hy
  exact (h5 i hi).2
section
variable {H : Type} {enc : TypeId × Value → H} {w : World} {base : Nat} {spare : Nat → Bool} {held : Bool}
theorem slice_bytes {P : Program} {t e : TypeId} (ht : P.underlying t = some (.slice e)) {p : Option Addr} {n cap fuel : Nat} {x : DataW H × List MemPlace} (h : DataW.trod enc P w base spare held fuel t [.slice p n cap] = some x) (hs : Small P t x.1) : n * P.bytesOf e ≤ 140737488351232 := by
  rcases open_slice ht h with ⟨hcs, rfl⟩ | ⟨a, len, cap', m, n', D, Pl, hcs, hb, hl, hm, hmm, rfl, hi⟩
  · cases hcs; simp
  · cases hcs
    unfold Small at hs
    simp only [DataW.weights, ht, List.all_cons, List.all_append, Bool.and_eq_true, decide_eq_true_eq, List.length_map, List.length_range] at hs
    have h1 : n * P.bytesOf e ≤ (n + (m - n)) * P.bytesOf e := Nat.mul_le_mul_right _ (by omega)
    have h9 : reachBytes = 140737488351232 := rfl
    omega
theorem row_bytes {α : Type} {P : Program} {t e : TypeId} {k by' : Nat} {R : World → Nat → Nat → α → Prop} (ht : P.underlying t = some (.slice e)) (hby : P.bytesOf e = by') {v : Value} {l : List α} {fuel : Nat} {x : DataW H × List MemPlace}
    (h : DataW.trod enc P w base spare held fuel t [v] = some x) (hs : Small P t x.1) (hr : RowAt k R w v l) : l.length * by' ≤ 140737488351232 := by
  obtain ⟨p, cap, b, o, rfl, -⟩ := hr
  rw [← hby]
  exact slice_bytes ht h hs
theorem open_symB (b o : Nat) (cs : List Value) (n : Nat) (d : DataW H × List MemPlace) (hb : b < w.heap.size) (hl : cs.length = 7) (hc : ∀ j, j < 7 → w.cell? ⟨b, o + j, none⟩ = cs[j]?)
    (h : DataW.trod enc Tryd.prog w base spare held n 47 cs = some d) (hs : Small Tryd.prog 47 d.1) : ∃ y, SymR w b o y ∧ SymBd y := by
  obtain ⟨s, vr, vn, rfl, hin⟩ := open_symCells cs n d hl h hs
  obtain ⟨m, hf⟩ := open_fields Tryd.underlying47 (by kernel_rfl) h hs hl
  obtain ⟨v5, y5, e5, t5, s5⟩ := hf 5 _ rfl
  obtain ⟨v6, y6, e6, t6, s6⟩ := hf 6 _ rfl
  cases e5; cases e6
  exact ⟨s, ⟨vr, vn, hb, hc 0 (by omega), hc 1 (by omega), hc 2 (by omega), hc 3 (by omega), hc 4 (by omega), hc 5 (by omega), hc 6 (by omega), hin⟩,
    row_bytes Tryd.underlying44 (by kernel_rfl) t5 s5 hin.1, row_bytes Tryd.underlying45 (by kernel_rfl) t6 s6 hin.2.1⟩
theorem open_objB (b o : Nat) (cs : List Value) (n : Nat) (d : DataW H × List MemPlace) (hb : b < w.heap.size) (hl : cs.length = 2) (hc : ∀ j, j < 2 → w.cell? ⟨b, o + j, none⟩ = cs[j]?)
    (h : DataW.trod enc Tryd.prog w base spare held n 24 cs = some d) (hs : Small Tryd.prog 24 d.1) : ∃ y, ObjR w b o y ∧ ObjBd y := by
  obtain ⟨m, hf⟩ := open_fields Tryd.underlying24 (by kernel_rfl) h hs hl
  obtain ⟨v0, y0, e0, t0, s0⟩ := hf 0 _ rfl
  obtain ⟨v1, y1, e1, t1, s1⟩ := hf 1 _ rfl
  obtain ⟨n0, c0, rfl, w0⟩ := DataW.trod_string Tryd.underlying9 t0
  obtain ⟨u1, l1, c1, r1⟩ := open_row (R := fun w b o y => SymR w b o y ∧ SymBd y) Tryd.underlying22 (by kernel_rfl) (by omega) (of_decide_eq_true (by kernel_rfl)) open_symB t1 s1
  cases c0; cases c1
  obtain ⟨r2, r3⟩ := r1.split
  exact ⟨⟨n0, l1⟩, ⟨v1, hb, (hc 0 (by omega)).trans e0, (hc 1 (by omega)).trans e1, r2, small_bytes s0⟩, row_bytes Tryd.underlying22 (by kernel_rfl) t1 s1 r2, r3⟩
theorem open_objsB {v : Value} {d : DataW H} {p : List MemPlace} (h : DataW.Trod enc Tryd.prog w base spare held 38 v d p) (hsl : ∃ a n c, v = .slice a n c) (hs : Small Tryd.prog 38 d) : ∃ l, ObjsAt w v l ∧ ObjsBd l := by
  obtain ⟨fuel, hf⟩ := h
  obtain ⟨a, n, c, rfl⟩ := hsl
  obtain ⟨v', l, hv, hr⟩ := open_row (x := (d, p)) (R := fun w b o y => ObjR w b o y ∧ ObjBd y) Tryd.underlying38 (by kernel_rfl) (by omega) (of_decide_eq_true (by kernel_rfl)) open_objB hf hs
  have : v' = .slice a n c := by simpa [Value.cells] using hv.symm
  subst this
  obtain ⟨r2, r3⟩ := hr.split
  exact ⟨l, r2, row_bytes (x := (d, p)) Tryd.underlying38 (by kernel_rfl) (by simpa [Value.cells] using hf) hs r2, r3⟩
end
end Go.Proofs.YtfmmfbijkklceaaDoor
