/- Arguments opened: rows and fields, whatever the program. No program in sight. Instructions and rows of lines among a law's arguments. The walk of law10.Long, at no notes. What is parsed is bounded. No walk. What the document's parsed answers. -/
import Derived.Test.YtoonkfhphbojcaaGreatDoorBv03
import Derived.ProofKit
import Derived.Deep.Slices
import Derived.Deep.Fields
import Derived.SizedLaws
import Derived.OpenShut
import Derived.Test.YtoonkfhphbojcaaGreatDoorRows
import Derived.Test.YtoonkfhphbojcaaGreatDoorBv28
import Derived.Lib.SmallJoins
import Derived.Test.YtoonkfhphbojcaaGreatDoorBv11
import Derived.Test.YtoonkfhphbojcaaGreatDoorBv29
import Derived.Test.YtoonkfhphbojcaaGreatDoorBv02
import Derived.StillTailTactics
namespace Go.Proofs.YtoonkfhphbojcaaGreatDoor
open Go.ChangeShapes Go.WideShapes Go.ChangeAt Go.RowKit Go.Deep
section
variable {H : Type} {enc : TypeId × Value → H} {w : World} {base : Nat} {spare : Nat → Bool} {held : Bool}
def Small (P : Program) (t : TypeId) (d : DataW H) : Prop := (d.weights P t).all (· ≤ reachBytes) = true
theorem small_all {P : Program} {e : TypeId} : ∀ {l : List (DataW H)}, (DataW.weightsAll P e l).all (· ≤ reachBytes) = true → ∀ d ∈ l, Small P e d
  | [], _, d, hd => by cases hd
  | a :: r, h, d, hd => by
    simp only [DataW.weightsAll, List.all_append, Bool.and_eq_true] at h
    rcases List.mem_cons.1 hd with rfl | hd
    · exact h.1
    · exact small_all h.2 d hd
theorem small_each {P : Program} : ∀ {ts : List TypeId} {l : List (DataW H)}, (DataW.weightsEach P ts l).all (· ≤ reachBytes) = true → ∀ (j : Nat) (t : TypeId) (d : DataW H), ts[j]? = some t → l[j]? = some d → Small P t d := by
  intro ts l h j t d ht hd
  unfold Small
  rw [List.all_eq_true] at h ⊢
  exact fun n hn => h n (DataW.weights_mem_each ht hd n hn)
theorem add_eq (b o i : Nat) : (⟨b, o, none⟩ : Addr).add i = ⟨b, o + i, none⟩ := by
  unfold Addr.add
  by_cases h : i = 0 <;> simp [h]
theorem spot_none {a : Addr} {v : Value} (h : w.cell? a = some v) : a.spot = none := by
  unfold World.cell? at h
  split at h
  · split at h
    · cases h
    · rename_i hs; simpa using hs
  · cases h
theorem add_zero (a : Addr) : a.add 0 = a := by simp [Addr.add]
/-- a slice: if each of its elements is held as R says, the slice is a row of them -/
theorem open_row {α : Type} {P : Program} {t e : TypeId} {k : Nat} {R : World → Nat → Nat → α → Prop} (ht : P.underlying t = some (.slice e)) (hk : P.cellsOf e = k) (hk0 : 0 < k) (hby : 1 ≤ P.bytesOf e)
    (hel : ∀ (b o : Nat) (cs : List Value) (n : Nat) (d : DataW H × List MemPlace), b < w.heap.size → cs.length = k → (∀ j, j < k → w.cell? ⟨b, o + j, none⟩ = cs[j]?) → DataW.trod enc P w base spare held n e cs = some d → Small P e d.1 → ∃ y, R w b o y)
    {fuel : Nat} {cs : List Value} {x : DataW H × List MemPlace} (h : DataW.trod enc P w base spare held fuel t cs = some x) (hs : Small P t x.1) : ∃ v l, cs = [v] ∧ RowAt k R w v l := by
  subst hk
  rcases open_slice ht h with ⟨rfl, rfl⟩ | ⟨a, len, cap, m, n, D, Pl, rfl, hb, hl, hm, hmm, rfl, hi⟩
  · exact ⟨_, [], rfl, none, 0, 0, 0, rfl, Nat.le_refl _, by simp, fun h => by simp at h, fun i h => by simp at h⟩
  have hlm : len ≤ m := by rw [hmm]; split <;> omega
  unfold Small at hs
  simp only [DataW.weights, ht, List.all_cons, List.all_append, Bool.and_eq_true, decide_eq_true_eq, List.length_map, List.length_range] at hs
  obtain ⟨hs1, hs2, _⟩ := hs
  have hsz : ∀ i, i < len → Small P e (D i) := fun i hi => small_all hs2 (D i) (List.mem_map.2 ⟨i, List.mem_range.2 hi, rfl⟩)
  have hlen : len ≤ 140737488355328 := by
    have h1 : len ≤ (len + (m - len)) * P.bytesOf e := Nat.le_trans (by omega) (Nat.le_mul_of_pos_right _ hby)
    have := reachBytes_lt
    omega
  by_cases h0 : len = 0
  · subst h0
    exact ⟨_, [], rfl, some a, cap, 0, 0, rfl, hl, by simp, fun h => by simp at h, fun i h => by simp at h⟩
  obtain ⟨c0, hc0, _⟩ := hi 0 (by omega)
  obtain ⟨_, hcl0, hat0⟩ := World.cells?_some hc0
  have hsp : a.spot = none := by
    have h1 := hat0 0 hk0
    rw [Nat.zero_mul, add_zero, add_zero] at h1
    exact spot_none (h1.trans (List.getElem?_eq_getElem (by omega)))
  obtain ⟨b, o, sp⟩ := a
  simp only at hsp
  subst hsp
  have hblk : b < w.heap.size := by
    have h1 := hat0 0 hk0
    rw [Nat.zero_mul, add_zero, add_zero] at h1
    exact World.block_lt_of_cell? w ⟨b, o, none⟩ (h1.trans (List.getElem?_eq_getElem (by omega)))
  have hall : ∀ i : Fin len, ∃ y, R w b (o + i.val * P.cellsOf e) y := fun i => by
    obtain ⟨cs', hc, htr⟩ := hi i.val (by omega)
    obtain ⟨_, hcl, hat⟩ := World.cells?_some hc
    refine hel b _ cs' n _ hblk hcl (fun j hj => ?_) htr (hsz i.val i.isLt)
    have := hat j hj
    rwa [add_eq, add_eq] at this
  have hch := Classical.axiomOfChoice hall
  obtain ⟨f, hf⟩ := hch
  refine ⟨_, List.ofFn f, rfl, some ⟨b, o, none⟩, cap, b, o, by simp, by simpa using hl, by simpa using hlen, fun _ => rfl, fun i h => ?_⟩
  have := hf ⟨i, by simpa using h⟩
  simpa using this
theorem fst_of {x y : DataW H × List MemPlace} (h : some x = some y) : x.1 = y.1 := by cases h; rfl
/-- a struct of one-cell fields: its cells, and the reading of each -/
theorem open_fields {P : Program} {t : TypeId} {fs : Array Field} {n : Nat} {cs : List Value} {d : DataW H × List MemPlace} (ht : P.underlying t = some (.struct fs)) (hone : oneCellFields P fs = true)
    (h : DataW.trod enc P w base spare held n t cs = some d) (hs : Small P t d.1) (hlen : cs.length = fs.size) :
    ∃ m, ∀ (j : Nat) (f : Field), fs[j]? = some f → ∃ (v : Value) (y : DataW H × List MemPlace), cs[j]? = some v ∧ DataW.trod enc P w base spare held m f.type [v] = some y ∧ Small P f.type y.1 := by
  obtain ⟨xs, m, _, rfl, _, hxl, hf⟩ := DataW.trod_struct ht h
  unfold Small at hs
  simp only [DataW.weights, ht] at hs
  refine ⟨m, fun j f hj => ?_⟩
  obtain ⟨ho, hk⟩ := hone_of hone j f hj
  have hjl : j < fs.size := (Array.getElem?_eq_some_iff.1 hj).1
  have h1 := hf j f hj
  rw [ho, hk] at h1
  have hone' : (cs.drop j).take 1 = [cs[j]'(by omega)] := by rw [List.drop_eq_getElem_cons (by omega)]; rfl
  rw [hone', List.getElem?_eq_getElem (by omega)] at h1
  refine ⟨_, _, List.getElem?_eq_getElem (by omega), h1, ?_⟩
  refine small_each hs j f.type _ ?_ ?_
  · simp [hj]
  · simp [List.getElem?_eq_getElem (show j < xs.length by omega)]
theorem small_string {P : Program} {t : TypeId} {l : List UInt8} (h : Small (H := H) P t (.lit (.string l))) : l.length ≤ 140737488355328 := by
  unfold Small at h
  simp [DataW.weights] at h
  have := reachBytes_lt
  omega
theorem small_bytes {P : Program} {t : TypeId} {s : ByteArray} (h : Small (H := H) P t (.lit (.string s.data.toList))) : s.size ≤ 140737488355328 := by
  have := small_string h
  simpa using this
end
/-- arguments read as they did in a world that keeps all that there was -/
theorem trodAll_below {H : Type} {enc : TypeId × Value → H} {P : Program} (hl : laidOutB P = true) {W W' : World} (hb : Below W.heap.size W W') : ∀ {ts : List TypeId} {vs : List Value} {ds : List (DataW H)} {ps : List MemPlace},
    (ts.all fun t => P.readableRec t && decide (t < P.types.size)) = true → DataW.TrodAll enc P W 0 (fun _ => true) true ts vs ds ps → (∀ x ∈ ps, x.block < W.heap.size) →
    DataW.TrodAll enc P W' 0 (fun b => decide (b < W.heap.size)) true ts vs ds ps
  | [], [], [], ps, _, h, _ => h
  | t :: ts, v :: vs, d :: ds, ps, hr, h, hlt => by
    obtain ⟨p, q, h1, h2, rfl⟩ := h
    simp only [List.all_cons, Bool.and_eq_true, decide_eq_true_eq] at hr
    exact ⟨p, q, Below.trod hl hr.1.1 hr.1.2 h1 hb (fun x hx => hlt x (List.mem_append.2 (.inl hx))), trodAll_below hl hb (by simpa using hr.2) h2 (fun x hx => hlt x (List.mem_append.2 (.inr hx))), rfl⟩
  | [], _ :: _, _, _, _, h, _ => h.elim
  | [], [], _ :: _, _, _, h, _ => h.elim
  | _ :: _, [], _, _, _, h, _ => h.elim
  | _ :: _, _ :: _, [], _, _, h, _ => h.elim
theorem RowAt.split {α : Type} {k : Nat} {R : World → Nat → Nat → α → Prop} {B : α → Prop} {w : World} {v : Value} {l : List α} (h : RowAt k (fun w b o y => R w b o y ∧ B y) w v l) : RowAt k R w v l ∧ ∀ y ∈ l, B y := by
  obtain ⟨p, cap, b, o, h1, h2, h3, h4, h5⟩ := h
  refine ⟨⟨p, cap, b, o, h1, h2, h3, h4, fun i hi => (h5 i hi).1⟩, fun y hy => ?_⟩
  obtain ⟨i, hi, rfl⟩ := List.mem_iff_getElem.1 hy
  exact (h5 i hi).2
section
variable {H : Type} {enc : TypeId × Value → H} {w : World} {base : Nat} {spare : Nat → Bool} {held : Bool}
theorem slice_bytes {P : Program} {t e : TypeId} (ht : P.underlying t = some (.slice e)) {p : Option Addr} {n cap fuel : Nat} {x : DataW H × List MemPlace} (h : DataW.trod enc P w base spare held fuel t [.slice p n cap] = some x) (hs : Small P t x.1) : n * P.bytesOf e ≤ 140737488351232 := by
  rcases open_slice ht h with ⟨hcs, rfl⟩ | ⟨a, len, cap', m, n', D, Pl, hcs, hb, hl, hm, hmm, rfl, hi⟩
  · cases hcs; simp
  · cases hcs
    unfold Small at hs
    simp only [DataW.weights, ht, List.all_cons, List.all_append, Bool.and_eq_true, decide_eq_true_eq, List.length_map, List.length_range] at hs
    have h1 : n * P.bytesOf e ≤ (n + (m - n)) * P.bytesOf e := Nat.mul_le_mul_right _ (by omega)
    have h9 : reachBytes = 140737488351232 := rfl
    omega
theorem row_bytes {α : Type} {P : Program} {t e : TypeId} {k by' : Nat} {R : World → Nat → Nat → α → Prop} (ht : P.underlying t = some (.slice e)) (hby : P.bytesOf e = by') {v : Value} {l : List α} {fuel : Nat} {x : DataW H × List MemPlace}
    (h : DataW.trod enc P w base spare held fuel t [v] = some x) (hs : Small P t x.1) (hr : RowAt k R w v l) : l.length * by' ≤ 140737488351232 := by
  obtain ⟨p, cap, b, o, rfl, -⟩ := hr
  rw [← hby]
  exact slice_bytes ht h hs
end
end Go.Proofs.YtoonkfhphbojcaaGreatDoor
namespace Go.Proofs.YtoonkfhphbojcaaGreatDoor
open Go.ChangeShapes Go.WideShapes Go.ChangeAt Go.RowKit
section
variable {H : Type} {enc : TypeId × Value → H} {w : World} {base : Nat} {spare : Nat → Bool} {held : Bool}
set_option maxRecDepth 100000 in
theorem open_insC {n : Nat} {cs : List Value} {y : DataW H × List MemPlace} (h : DataW.trod enc Tryz.prog w base spare held n 24 cs = some y) (hlen : cs.length = 5) (hs : Small Tryz.prog 24 y.1) :
    ∃ x : GIns, cs = [.int .u8 x.op, .int .u8 x.d, .int .u8 x.a, .int .u8 x.b, .int .u32 x.imm] ∧ InsB x := by
  obtain ⟨m, hf⟩ := open_fields Tryz.underlying24 (by kernel_rfl) h hs hlen
  obtain ⟨v0, y0, e0, t0, -⟩ := hf 0 _ rfl
  obtain ⟨v1, y1, e1, t1, -⟩ := hf 1 _ rfl
  obtain ⟨v2, y2, e2, t2, -⟩ := hf 2 _ rfl
  obtain ⟨v3, y3, e3, t3, -⟩ := hf 3 _ rfl
  obtain ⟨v4, y4, e4, t4, -⟩ := hf 4 _ rfl
  obtain ⟨n0, c0, -, w0⟩ := DataW.trod_int Tryz.underlying5 t0
  obtain ⟨n1, c1, -, w1⟩ := DataW.trod_int Tryz.underlying5 t1
  obtain ⟨n2, c2, -, w2⟩ := DataW.trod_int Tryz.underlying5 t2
  obtain ⟨n3, c3, -, w3⟩ := DataW.trod_int Tryz.underlying5 t3
  obtain ⟨n4, c4, -, w4⟩ := DataW.trod_int Tryz.underlying22 t4
  cases c0; cases c1; cases c2; cases c3; cases c4
  refine ⟨⟨n0, n1, n2, n3, n4⟩, ?_, bounds_u8 w0, bounds_u8 w1, bounds_u8 w2, bounds_u8 w3, bounds_u32 w4⟩
  match cs, hlen, e0, e1, e2, e3, e4 with
  | [a0, a1, a2, a3, a4], _, e0, e1, e2, e3, e4 => simp at e0 e1 e2 e3 e4; simp [e0, e1, e2, e3, e4]
set_option maxRecDepth 100000 in
theorem open_insV {r : Go.Reach} {b0 : Nat} {v : Value} {d : DataW H} {p : List MemPlace} (hv : Value.okWide Tryz.prog w r b0 24 v) (h : DataW.Trod enc Tryz.prog w base spare held 24 v d p) (hs : Small Tryz.prog 24 d) :
    ∃ x : GIns, v = insV x ∧ InsB x := by
  obtain ⟨cs, rfl, hsz⟩ := okWide_struct Tryz.underlying24 hv
  obtain ⟨fuel, hf⟩ := h
  have hC : Tryz.prog.cellsOf 24 = 5 := by kernel_rfl
  have hl : cs.toList.length = 5 := by rw [Array.length_toList]; exact hsz.trans hC
  have hf' : DataW.trod enc Tryz.prog w base spare held fuel 24 cs.toList = some (d, p) := by simpa [Value.cells] using hf
  obtain ⟨x, hx, hB⟩ := open_insC hf' hl hs
  refine ⟨x, ?_, hB⟩
  rw [← Array.toArray_toList (xs := cs), hx]; rfl
/-- a line in a row, its texts of any length -/
def LineRw (w : World) (b o : Nat) (x : GLine) : Prop := b < w.heap.size ∧ w.cell? ⟨b, o, none⟩ = some (.string (bsOf x.label)) ∧ w.cell? ⟨b, o + 1, none⟩ = some (.int .u8 x.x.op) ∧ w.cell? ⟨b, o + 2, none⟩ = some (.int .u8 x.x.d) ∧ w.cell? ⟨b, o + 3, none⟩ = some (.int .u8 x.x.a) ∧ w.cell? ⟨b, o + 4, none⟩ = some (.int .u8 x.x.b) ∧ w.cell? ⟨b, o + 5, none⟩ = some (.int .u32 x.x.imm) ∧ w.cell? ⟨b, o + 6, none⟩ = some (.string (bsOf x.dest)) ∧ w.cell? ⟨b, o + 7, none⟩ = some (.string (bsOf x.name)) ∧
  InsB x.x ∧ x.label.length ≤ 140737488355328 ∧ x.dest.length ≤ 140737488355328 ∧ x.name.length ≤ 140737488355328
theorem lineRw_keeps : Keeps LineRw := fun _ _ _ _ _ hb ⟨h0, h1, h2, h3, h4, h5, h6, h7, h8, r⟩ => ⟨size_keep hb h0, cell_keep hb h0 h1, cell_keep hb h0 h2, cell_keep hb h0 h3, cell_keep hb h0 h4, cell_keep hb h0 h5, cell_keep hb h0 h6, cell_keep hb h0 h7, cell_keep hb h0 h8, r⟩
end
end Go.Proofs.YtoonkfhphbojcaaGreatDoor
namespace Go.Proofs.YtoonkfhphbojcaaGreatDoor
open Go.RowKit Go.Maps
def lnW (x : GLine) : Nat := (x.label.length + x.dest.length + x.name.length) / 16
def sumW : List GLine → Nat
  | [] => 0
  | x :: t => lnW x + sumW t
theorem sumW_snoc : ∀ (l : List GLine) (x : GLine), sumW (l ++ [x]) = sumW l + lnW x
  | [], x => by simp [sumW]
  | y :: t, x => by simp only [List.cons_append, sumW, sumW_snoc t x]; omega
theorem sumW_mem : ∀ (l : List GLine), ∀ x ∈ l, lnW x ≤ sumW l
  | [], x, h => by simp at h
  | y :: t, x, h => by
    simp only [sumW]
    rcases List.mem_cons.1 h with rfl | h
    · omega
    · have := sumW_mem t x h; omega
def longB (l : List GLine) : Bool := decide (1300 < l.length + sumW (l.take 1200))
theorem longB_no {l : List GLine} (h : longB l = false) (hn : l.length ≤ 1200) : ∀ x ∈ l, x.label.length ≤ 30000 ∧ x.dest.length ≤ 30000 ∧ x.name.length ≤ 30000 := by
  intro x hx
  unfold longB at h
  simp only [decide_eq_false_iff_not] at h
  rw [List.take_of_length_le hn] at h
  have := sumW_mem l x hx
  unfold lnW at this
  omega
set_option maxHeartbeats 4000000 in
set_option maxRecDepth 100000 in
theorem long10 (l : List GLine) (vl : Value) (w : World) (hl : RowAt 8 LineRw w vl l) : Calls Tryz.prog 14 #[vl, .slice none 0 0] w fun e w' => e = .returned (.bool (longB l)) ∧ Below w.heap.size w w' := by
  obtain ⟨p, cap, b, o, rfl, hcap, hmax, hp, hc⟩ := hl
  have HP := Lib.hid hp
  have HC := Lib.hid hc
  clear hp hc
  have HD : Hid (longB l = decide (1300 < l.length + sumW (l.take 1200))) := Lib.hid rfl
  generalize longB l = res at HD ⊢
  go_enter Tryz.func14, Tryz.ntmps14
  go_upto_region 3 with fail
  go_loopw [5, 6] (fun v5 v6 wr => ∃ k s : Nat, k ≤ l.length ∧ k ≤ 1200 ∧ v6 = .int .i64 k ∧ v5 = .int .i64 s ∧ s = l.length + sumW (l.take k) ∧ s ≤ 140737488355328 + k * 140737488355328 ∧ Below w.heap.size w wr) (fun _ v6 _ => l.length - (intOf v6).toNat)
  case atStart => exact ⟨0, l.length, Nat.zero_le _, Nat.zero_le _, rfl, rfl, by simp [sumW], by omega, Below.refl _ _⟩
  case round =>
    obtain ⟨k, s, hk, hk2, rfl, rfl, hs, hsb, hbel⟩ := hrel
    have HB := Lib.hid hbel
    have HS := Lib.hid hs
    clear hbel hs
    by_cases hlt : k < l.length
    · by_cases hlt2 : k < 1200
      · obtain rfl := HP.out (by omega)
        obtain ⟨hb0, y0, y1, y2, y3, y4, y5, y6, y7, -, hl1, hl2, hl3⟩ := lineRw_keeps _ _ _ _ _ HB.out (HC.out k hlt)
        have HT : Hid (l.length + sumW (l.take (k + 1)) = s + (l[k].label.length + l[k].dest.length + l[k].name.length) / 16) := Lib.hid (by rw [List.take_succ_eq_append_getElem hlt, sumW_snoc, HS.out]; unfold lnW; omega)
        generalize l[k] = x at *
        have s0 := bsOf_size x.label
        have s6 := bsOf_size x.dest
        have s7 := bsOf_size x.name
        generalize x.label.length = a at *
        generalize x.dest.length = d at *
        generalize x.name.length = n at *
        generalize bsOf x.label = SL at *
        generalize bsOf x.dest = SD at *
        generalize bsOf x.name = SN at *
        clear y1 y2 y3 y4 y5
        subst s0; subst s6; subst s7
        have qq : (((SL.size : Int) + (SD.size : Int)) + (SN.size : Int)).tdiv 16 = (((SL.size + SD.size + SN.size) / 16 : Nat) : Int) := by
          rw [Int.tdiv_eq_ediv_of_nonneg (by omega)]; omega
        go_upto_region 5 with fail
        obtain ⟨RS, HSD⟩ : ∃ RS : World → Prop, ∀ w', RS w' ↔ w' = wr.drew := ⟨_, fun _ => Iff.rfl⟩
        have r0 : ∀ z : HW RS, z.u.cell? ⟨b, o + k * 8, none⟩ = some (.string SL) := fun z => by rw [(HSD _).1 z.h]; exact y0
        have r6 : ∀ z : HW RS, z.u.cell? ⟨b, o + k * 8 + 6, none⟩ = some (.string SD) := fun z => by rw [(HSD _).1 z.h]; exact y6
        have r7 : ∀ z : HW RS, z.u.cell? ⟨b, o + k * 8 + 7, none⟩ = some (.string SN) := fun z => by rw [(HSD _).1 z.h]; exact y7
        haveI : Nonempty (HW RS) := ⟨⟨_, (HSD _).2 rfl⟩⟩
        refine wp_region_marks RS [.r, .r, .r, .r, .r, .r, .r, .r, .r, .r, .r, .r, .r, .r, .r, .r, .r, .r, .r, .r, .r, .r, .r, .p] rfl (by kernel_rfl) ((HSD _).2 rfl) ?_
        repeat (refine wpReads_step (fun K hK => ?_); go_simp; refine hK _ ?_; clear hK K)
        refine wpReads_nil ?_
        refine wpTurns_nil ?_
        simp only [pickP]
        go_wp2_with fail
        refine NoPanic.normal ?_
        clear r0 r6 r7 HSD
        have HB2 : Hid (Below w.heap.size w wr.drew) := HB.out.drew
        generalize wr.drew = wd at *
        go_wp2
        go_roundw
        case rel =>
          refine ⟨k + 1, s + (SL.size + SD.size + SN.size) / 16, by omega, by omega, by go_num, ?_, ?_, ?_, HB2.out⟩
          · have w1 : IntKind.i64.wrap ((SL.size : Int) + (SD.size : Int)) = (SL.size : Int) + (SD.size : Int) := by rw [IntKind.wrap_i64]; omega
            have w2 : IntKind.i64.wrap ((SL.size : Int) + (SD.size : Int) + (SN.size : Int)) = (SL.size : Int) + (SD.size : Int) + (SN.size : Int) := by rw [IntKind.wrap_i64]; omega
            rw [w1, w2, qq]
            have w3 : IntKind.i64.wrap (((SL.size + SD.size + SN.size) / 16 : Nat) : Int) = (((SL.size + SD.size + SN.size) / 16 : Nat) : Int) := by rw [IntKind.wrap_i64]; omega
            rw [w3]
            have w4 : IntKind.i64.wrap ((s : Int) + (((SL.size + SD.size + SN.size) / 16 : Nat) : Int)) = ((s + (SL.size + SD.size + SN.size) / 16 : Nat) : Int) := by rw [IntKind.wrap_i64]; omega
            rw [w4]
          · exact HT.out.symm
          · omega
        case measure => simp [intOf]; omega
      · obtain rfl : k = 1200 := by omega
        have HR : Hid (res = decide (1300 < s)) := Lib.hid (by rw [HD.out, ← HS.out])
        have hcd : (1200 : Nat) < l.length := hlt
        clear HS
        by_cases hbig : 1300 < s
        · have q1 : (1300 : Int) < (s : Int) := by omega
          go_wp2
          go_ret
          exact ⟨by rw [HR.out]; simp [hbig], HB.out⟩
        · have q1 : ¬ (1300 : Int) < (s : Int) := by omega
          go_wp2
          go_ret
          exact ⟨by rw [HR.out]; simp [hbig], HB.out⟩
    · obtain rfl : k = l.length := by omega
      have HR : Hid (res = decide (1300 < s)) := Lib.hid (by rw [HD.out, HS.out, List.take_of_length_le hk2, List.take_of_length_le (Nat.le_refl _)])
      clear HS
      by_cases hbig : 1300 < s
      · have q1 : (1300 : Int) < (s : Int) := by omega
        go_wp2
        go_ret
        exact ⟨by rw [HR.out]; simp [hbig], HB.out⟩
      · have q1 : ¬ (1300 : Int) < (s : Int) := by omega
        go_wp2
        go_ret
        exact ⟨by rw [HR.out]; simp [hbig], HB.out⟩
end Go.Proofs.YtoonkfhphbojcaaGreatDoor
namespace Go.Proofs.YtoonkfhphbojcaaGreatDoor
open Go.RowKit Go.Maps
theorem stR_bd {op : Int} {ps : List BL} {n : Nat} (hp : ∀ p ∈ ps, p.length ≤ n) : ∀ (k : Nat) (x : GIns) (imm : BL) (j : Nat), stR op ps k = some ((x, imm), j) → x.op = op ∧ (0 ≤ x.d ∧ x.d ≤ 16) ∧ (0 ≤ x.a ∧ x.a ≤ 16) ∧ (0 ≤ x.b ∧ x.b ≤ 16) ∧ x.imm = 0 ∧ imm.length ≤ n
  | 0, x, imm, j, h => by simp only [stR] at h; cases h; simp
  | k + 1, x, imm, j, h => by
    simp only [stR] at h
    cases hs : stR op ps k with
    | none => rw [hs] at h; cases h
    | some q =>
      obtain ⟨⟨y, im⟩, m⟩ := q
      rw [hs] at h
      have ih := stR_bd hp k y im m hs
      simp only [] at h
      split at h
      · split at h
        · rename_i hm
          have hw : (ps.getD m []).length ≤ n := hp _ (by simp [List.getD, hm])
          have hr := regR_le (ps.getD m [])
          match k, h with
          | 0, h => simp only [setR] at h; cases h; exact ⟨ih.1, ⟨Int.natCast_nonneg _, by show ((regR (ps.getD m []) : Nat) : Int) ≤ 16; omega⟩, ih.2.2.1, ih.2.2.2.1, ih.2.2.2.2.1, ih.2.2.2.2.2⟩
          | 1, h => simp only [setR] at h; cases h; exact ⟨ih.1, ih.2.1, ⟨Int.natCast_nonneg _, by show ((regR (ps.getD m []) : Nat) : Int) ≤ 16; omega⟩, ih.2.2.2.1, ih.2.2.2.2.1, ih.2.2.2.2.2⟩
          | 2, h => simp only [setR] at h; cases h; exact ⟨ih.1, ih.2.1, ih.2.2.1, ⟨Int.natCast_nonneg _, by show ((regR (ps.getD m []) : Nat) : Int) ≤ 16; omega⟩, ih.2.2.2.2.1, ih.2.2.2.2.2⟩
          | k + 3, h => simp only [setR] at h; cases h; exact ⟨ih.1, ih.2.1, ih.2.2.1, ih.2.2.2.1, ih.2.2.2.2.1, hw⟩
        · cases h
      · cases h; exact ih
theorem parsedR_bd {ps : List BL} {n : Nat} (hp : ∀ p ∈ ps, p.length ≤ n) : (0 ≤ (parsedR ps).1.op ∧ (parsedR ps).1.op ≤ 255) ∧ (0 ≤ (parsedR ps).1.d ∧ (parsedR ps).1.d ≤ 16) ∧ (0 ≤ (parsedR ps).1.a ∧ (parsedR ps).1.a ≤ 16) ∧ (0 ≤ (parsedR ps).1.b ∧ (parsedR ps).1.b ≤ 16) ∧ (parsedR ps).1.imm = 0 ∧ (parsedR ps).2.1.length ≤ n := by
  unfold parsedR
  split
  · simp [ins0]
  · rename_i op ho
    have hop := opOf_bd ho
    split
    · simp [ins0]
    · rename_i x imm j hst
      obtain ⟨h1, h2⟩ := stR_bd hp 4 x imm j hst
      exact ⟨by rw [h1]; omega, h2⟩
end Go.Proofs.YtoonkfhphbojcaaGreatDoor
namespace Go.Proofs.YtoonkfhphbojcaaGreatDoor
open Go.RowKit Go.Maps
/-- an instruction laid into a box, field by field -/
def insSet (w : World) (xb : Nat) (x : GIns) : World := ((((w.setCell ⟨xb, 0, none⟩ (.int .u8 x.op)).setCell ⟨xb, 1, none⟩ (.int .u8 x.d)).setCell ⟨xb, 2, none⟩ (.int .u8 x.a)).setCell ⟨xb, 3, none⟩ (.int .u8 x.b)).setCell ⟨xb, 4, none⟩ (.int .u32 x.imm)
theorem insSet_heap {w : World} {xb : Nat} {x y : GIns} {t : TypeId} {c : Nat × Nat} (h : w.heap[xb]? = some (.cells (insA y) t c)) : (insSet w xb x).heap[xb]? = some (.cells (insA x) t c) := set33 (set33 (set33 (set33 (set33 h 0 _) 1 _) 2 _) 3 _) 4 _
theorem insSet_below {B : Nat} {a w : World} {xb : Nat} {x : GIns} (h : Below B a w) (hb : B ≤ xb) : Below B a (insSet w xb x) := ((((h.setCell (p := ⟨xb, 0, none⟩) hb _).setCell (p := ⟨xb, 1, none⟩) hb _).setCell (p := ⟨xb, 2, none⟩) hb _).setCell (p := ⟨xb, 3, none⟩) hb _).setCell (p := ⟨xb, 4, none⟩) hb _
theorem stR_none {op : Int} {ps : List BL} {k : Nat} (h : stR op ps (k + 1) = none) (hk : k < 4) : stR op ps 4 = none := by
  have hs : ∀ m, stR op ps m = none → stR op ps (m + 1) = none := fun m hm => by rw [stR, hm]
  have hcs : k = 0 ∨ k = 1 ∨ k = 2 ∨ k = 3 := by omega
  rcases hcs with rfl | rfl | rfl | rfl
  · exact hs 3 (hs 2 (hs 1 h))
  · exact hs 3 (hs 2 h)
  · exact hs 3 h
  · exact h
def parsRV (r : GIns × BL × Bool) : Value := .tuple #[insV r.1, .string (bsOf r.2.1), .bool r.2.2]
/-- the words of a text in the world, and the result's box -/
structure RPSt (rb g cap : Nat) (ps : List BL) (w : World) : Prop where
  res : w.heap[rb]? = some (.cells (insA ins0) 24 (0, 0))
  lt : g < w.heap.size
  row : ∀ j, j < ps.length → w.cell? ⟨g, j, none⟩ = some (.string (bsOf (ps.getD j [])))
theorem RPSt.keep {rb g cap : Nat} {ps : List BL} {w w' : World} (h : RPSt rb g cap ps w) (hb : Below w.heap.size w w') : RPSt rb g cap ps w' :=
  ⟨(hb.block rb (Array.getElem?_eq_some_iff.1 h.res).1).trans h.res, size_keep hb h.lt, fun j hj => cell_keep hb h.lt (h.row j hj)⟩
theorem cutAt_pos (c : UInt8) (s : BL) : 0 < (cutAt c s).length := List.length_pos_iff.2 (cutAt_ne c s)
/-- what is claimed of the document's parsed (proved in the text of its walk) -/
def RPars33 : Prop := ∀ (s : BL) (w : World), s.length ≤ 1000000 → Calls Tryz.prog 43 #[.string (bsOf s)] w fun e w' => e = .returned (parsRV (parsedR (cutAt 32 s))) ∧ Below w.heap.size w w'
end Go.Proofs.YtoonkfhphbojcaaGreatDoor
