/- Arguments opened: rows and fields, whatever the program. No program in sight. The walk of asm.may. -/
import Derived.Test.YtoonkfhphbojcaaGreatDoorBu02
import Derived.ProofKit
import Derived.Deep.Slices
import Derived.Deep.Fields
import Derived.SizedLaws
import Derived.OpenShut
import Derived.Test.YtoonkfhphbojcaaGreatDoorBu26
namespace Go.Proofs.YtoonkfhphbojcaaGreatDoor
open Go.ChangeShapes Go.WideShapes Go.ChangeAt Go.RowKit Go.Deep
section
variable {H : Type} {enc : TypeId × Value → H} {w : World} {base : Nat} {spare : Nat → Bool} {held : Bool}
def Small (P : Program) (t : TypeId) (d : DataW H) : Prop := (d.weights P t).all (· ≤ reachBytes) = true
theorem small_all {P : Program} {e : TypeId} : ∀ {l : List (DataW H)}, (DataW.weightsAll P e l).all (· ≤ reachBytes) = true → ∀ d ∈ l, Small P e d
  | [], _, d, hd => by cases hd
  | a :: r, h, d, hd => by
    simp only [DataW.weightsAll, List.all_append, Bool.and_eq_true] at h
    rcases List.mem_cons.1 hd with rfl | hd
    · exact h.1
    · exact small_all h.2 d hd
theorem small_each {P : Program} : ∀ {ts : List TypeId} {l : List (DataW H)}, (DataW.weightsEach P ts l).all (· ≤ reachBytes) = true → ∀ (j : Nat) (t : TypeId) (d : DataW H), ts[j]? = some t → l[j]? = some d → Small P t d := by
  intro ts l h j t d ht hd
  unfold Small
  rw [List.all_eq_true] at h ⊢
  exact fun n hn => h n (DataW.weights_mem_each ht hd n hn)
theorem add_eq (b o i : Nat) : (⟨b, o, none⟩ : Addr).add i = ⟨b, o + i, none⟩ := by
  unfold Addr.add
  by_cases h : i = 0 <;> simp [h]
theorem spot_none {a : Addr} {v : Value} (h : w.cell? a = some v) : a.spot = none := by
  unfold World.cell? at h
  split at h
  · split at h
    · cases h
    · rename_i hs; simpa using hs
  · cases h
theorem add_zero (a : Addr) : a.add 0 = a := by simp [Addr.add]
/-- a slice: if each of its elements is held as R says, the slice is a row of them -/
theorem open_row {α : Type} {P : Program} {t e : TypeId} {k : Nat} {R : World → Nat → Nat → α → Prop} (ht : P.underlying t = some (.slice e)) (hk : P.cellsOf e = k) (hk0 : 0 < k) (hby : 1 ≤ P.bytesOf e)
    (hel : ∀ (b o : Nat) (cs : List Value) (n : Nat) (d : DataW H × List MemPlace), b < w.heap.size → cs.length = k → (∀ j, j < k → w.cell? ⟨b, o + j, none⟩ = cs[j]?) → DataW.trod enc P w base spare held n e cs = some d → Small P e d.1 → ∃ y, R w b o y)
    {fuel : Nat} {cs : List Value} {x : DataW H × List MemPlace} (h : DataW.trod enc P w base spare held fuel t cs = some x) (hs : Small P t x.1) : ∃ v l, cs = [v] ∧ RowAt k R w v l := by
  subst hk
  rcases open_slice ht h with ⟨rfl, rfl⟩ | ⟨a, len, cap, m, n, D, Pl, rfl, hb, hl, hm, hmm, rfl, hi⟩
  · exact ⟨_, [], rfl, none, 0, 0, 0, rfl, Nat.le_refl _, by simp, fun h => by simp at h, fun i h => by simp at h⟩
  have hlm : len ≤ m := by rw [hmm]; split <;> omega
  unfold Small at hs
  simp only [DataW.weights, ht, List.all_cons, List.all_append, Bool.and_eq_true, decide_eq_true_eq, List.length_map, List.length_range] at hs
  obtain ⟨hs1, hs2, _⟩ := hs
  have hsz : ∀ i, i < len → Small P e (D i) := fun i hi => small_all hs2 (D i) (List.mem_map.2 ⟨i, List.mem_range.2 hi, rfl⟩)
  have hlen : len ≤ 140737488355328 := by
    have h1 : len ≤ (len + (m - len)) * P.bytesOf e := Nat.le_trans (by omega) (Nat.le_mul_of_pos_right _ hby)
    have := reachBytes_lt
    omega
  by_cases h0 : len = 0
  · subst h0
    exact ⟨_, [], rfl, some a, cap, 0, 0, rfl, hl, by simp, fun h => by simp at h, fun i h => by simp at h⟩
  obtain ⟨c0, hc0, _⟩ := hi 0 (by omega)
  obtain ⟨_, hcl0, hat0⟩ := World.cells?_some hc0
  have hsp : a.spot = none := by
    have h1 := hat0 0 hk0
    rw [Nat.zero_mul, add_zero, add_zero] at h1
    exact spot_none (h1.trans (List.getElem?_eq_getElem (by omega)))
  obtain ⟨b, o, sp⟩ := a
  simp only at hsp
  subst hsp
  have hblk : b < w.heap.size := by
    have h1 := hat0 0 hk0
    rw [Nat.zero_mul, add_zero, add_zero] at h1
    exact World.block_lt_of_cell? w ⟨b, o, none⟩ (h1.trans (List.getElem?_eq_getElem (by omega)))
  have hall : ∀ i : Fin len, ∃ y, R w b (o + i.val * P.cellsOf e) y := fun i => by
    obtain ⟨cs', hc, htr⟩ := hi i.val (by omega)
    obtain ⟨_, hcl, hat⟩ := World.cells?_some hc
    refine hel b _ cs' n _ hblk hcl (fun j hj => ?_) htr (hsz i.val i.isLt)
    have := hat j hj
    rwa [add_eq, add_eq] at this
  have hch := Classical.axiomOfChoice hall
  obtain ⟨f, hf⟩ := hch
  refine ⟨_, List.ofFn f, rfl, some ⟨b, o, none⟩, cap, b, o, by simp, by simpa using hl, by simpa using hlen, fun _ => rfl, fun i h => ?_⟩
  have := hf ⟨i, by simpa using h⟩
  simpa using this
theorem fst_of {x y : DataW H × List MemPlace} (h : some x = some y) : x.1 = y.1 := by cases h; rfl
/-- a struct of one-cell fields: its cells, and the reading of each -/
theorem open_fields {P : Program} {t : TypeId} {fs : Array Field} {n : Nat} {cs : List Value} {d : DataW H × List MemPlace} (ht : P.underlying t = some (.struct fs)) (hone : oneCellFields P fs = true)
    (h : DataW.trod enc P w base spare held n t cs = some d) (hs : Small P t d.1) (hlen : cs.length = fs.size) :
    ∃ m, ∀ (j : Nat) (f : Field), fs[j]? = some f → ∃ (v : Value) (y : DataW H × List MemPlace), cs[j]? = some v ∧ DataW.trod enc P w base spare held m f.type [v] = some y ∧ Small P f.type y.1 := by
  obtain ⟨xs, m, _, rfl, _, hxl, hf⟩ := DataW.trod_struct ht h
  unfold Small at hs
  simp only [DataW.weights, ht] at hs
  refine ⟨m, fun j f hj => ?_⟩
  obtain ⟨ho, hk⟩ := hone_of hone j f hj
  have hjl : j < fs.size := (Array.getElem?_eq_some_iff.1 hj).1
  have h1 := hf j f hj
  rw [ho, hk] at h1
  have hone' : (cs.drop j).take 1 = [cs[j]'(by omega)] := by rw [List.drop_eq_getElem_cons (by omega)]; rfl
  rw [hone', List.getElem?_eq_getElem (by omega)] at h1
  refine ⟨_, _, List.getElem?_eq_getElem (by omega), h1, ?_⟩
  refine small_each hs j f.type _ ?_ ?_
  · simp [hj]
  · simp [List.getElem?_eq_getElem (show j < xs.length by omega)]
theorem small_string {P : Program} {t : TypeId} {l : List UInt8} (h : Small (H := H) P t (.lit (.string l))) : l.length ≤ 140737488355328 := by
  unfold Small at h
  simp [DataW.weights] at h
  have := reachBytes_lt
  omega
theorem small_bytes {P : Program} {t : TypeId} {s : ByteArray} (h : Small (H := H) P t (.lit (.string s.data.toList))) : s.size ≤ 140737488355328 := by
  have := small_string h
  simpa using this
end
/-- arguments read as they did in a world that keeps all that there was -/
theorem trodAll_below {H : Type} {enc : TypeId × Value → H} {P : Program} (hl : laidOutB P = true) {W W' : World} (hb : Below W.heap.size W W') : ∀ {ts : List TypeId} {vs : List Value} {ds : List (DataW H)} {ps : List MemPlace},
    (ts.all fun t => P.readableRec t && decide (t < P.types.size)) = true → DataW.TrodAll enc P W 0 (fun _ => true) true ts vs ds ps → (∀ x ∈ ps, x.block < W.heap.size) →
    DataW.TrodAll enc P W' 0 (fun b => decide (b < W.heap.size)) true ts vs ds ps
  | [], [], [], ps, _, h, _ => h
  | t :: ts, v :: vs, d :: ds, ps, hr, h, hlt => by
    obtain ⟨p, q, h1, h2, rfl⟩ := h
    simp only [List.all_cons, Bool.and_eq_true, decide_eq_true_eq] at hr
    exact ⟨p, q, Below.trod hl hr.1.1 hr.1.2 h1 hb (fun x hx => hlt x (List.mem_append.2 (.inl hx))), trodAll_below hl hb (by simpa using hr.2) h2 (fun x hx => hlt x (List.mem_append.2 (.inr hx))), rfl⟩
  | [], _ :: _, _, _, _, h, _ => h.elim
  | [], [], _ :: _, _, _, h, _ => h.elim
  | _ :: _, [], _, _, _, h, _ => h.elim
  | _ :: _, _ :: _, [], _, _, h, _ => h.elim
theorem RowAt.split {α : Type} {k : Nat} {R : World → Nat → Nat → α → Prop} {B : α → Prop} {w : World} {v : Value} {l : List α} (h : RowAt k (fun w b o y => R w b o y ∧ B y) w v l) : RowAt k R w v l ∧ ∀ y ∈ l, B y := by
  obtain ⟨p, cap, b, o, h1, h2, h3, h4, h5⟩ := h
  refine ⟨⟨p, cap, b, o, h1, h2, h3, h4, fun i hi => (h5 i hi).1⟩, fun y hy => ?_⟩
  obtain ⟨i, hi, rfl⟩ := List.mem_iff_getElem.1 hy
  exact (h5 i hi).2
section
variable {H : Type} {enc : TypeId × Value → H} {w : World} {base : Nat} {spare : Nat → Bool} {held : Bool}
theorem slice_bytes {P : Program} {t e : TypeId} (ht : P.underlying t = some (.slice e)) {p : Option Addr} {n cap fuel : Nat} {x : DataW H × List MemPlace} (h : DataW.trod enc P w base spare held fuel t [.slice p n cap] = some x) (hs : Small P t x.1) : n * P.bytesOf e ≤ 140737488351232 := by
  rcases open_slice ht h with ⟨hcs, rfl⟩ | ⟨a, len, cap', m, n', D, Pl, hcs, hb, hl, hm, hmm, rfl, hi⟩
  · cases hcs; simp
  · cases hcs
    unfold Small at hs
    simp only [DataW.weights, ht, List.all_cons, List.all_append, Bool.and_eq_true, decide_eq_true_eq, List.length_map, List.length_range] at hs
    have h1 : n * P.bytesOf e ≤ (n + (m - n)) * P.bytesOf e := Nat.mul_le_mul_right _ (by omega)
    have h9 : reachBytes = 140737488351232 := rfl
    omega
theorem row_bytes {α : Type} {P : Program} {t e : TypeId} {k by' : Nat} {R : World → Nat → Nat → α → Prop} (ht : P.underlying t = some (.slice e)) (hby : P.bytesOf e = by') {v : Value} {l : List α} {fuel : Nat} {x : DataW H × List MemPlace}
    (h : DataW.trod enc P w base spare held fuel t [v] = some x) (hs : Small P t x.1) (hr : RowAt k R w v l) : l.length * by' ≤ 140737488351232 := by
  obtain ⟨p, cap, b, o, rfl, -⟩ := hr
  rw [← hby]
  exact slice_bytes ht h hs
end
end Go.Proofs.YtoonkfhphbojcaaGreatDoor
namespace Go.Proofs.YtoonkfhphbojcaaGreatDoor
open Go.RowKit Go.Maps
set_option maxHeartbeats 4000000 in
set_option maxRecDepth 100000 in
theorem asmMay33 (l : GLine) (w : World) (hl : LineB l) : Calls Tryz.prog 139 #[lineV l] w fun e w' => e = .returned (.bool (lnMay l)) ∧ Below w.heap.size w w' := by
  obtain ⟨label, ⟨op, d, a, b, im⟩, dest, name⟩ := l
  obtain ⟨hxb, hl1, hl2, hl3⟩ := hl
  simp only [] at hxb hl1 hl2 hl3
  have HDEF : Hid (lnMay ⟨label, ⟨op, d, a, b, im⟩, dest, name⟩ = (!(!decide (dest = []) && !decide (name = [])) && nameOk label && nameOk dest && nameOk name && (if decide (dest = []) && decide (name = []) then insOk ⟨op, d, a, b, im⟩ else decide (useOf op ≠ 0) && bitOf (useOf op) 8 && insOk ⟨op, d, a, b, 0⟩))) := Lib.hid rfl
  generalize lnMay ⟨label, ⟨op, d, a, b, im⟩, dest, name⟩ = res at HDEF ⊢
  have HC1 := Lib.hid (fun W => insCheck_any ⟨op, d, a, b, im⟩ W hxb)
  have HC2 := Lib.hid (fun W => insCheck_any ⟨op, d, a, b, 0⟩ W ⟨hxb.1, hxb.2.1, hxb.2.2.1, hxb.2.2.2.1, by simp⟩)
  have HU := Lib.hid (fun W => iUses_any op W hxb.1.1 hxb.1.2)
  generalize insOk ⟨op, d, a, b, im⟩ = ok1 at HC1 HDEF
  generalize insOk ⟨op, d, a, b, 0⟩ = ok2 at HC2 HDEF
  unfold insV at HC1 HC2
  simp only [] at HC1 HC2
  unfold lineV lineA
  simp only []
  have hne1 := bs_nil33 dest
  have hne2 := bs_nil33 name
  have hne3 := bs_nil33 (dest ++ name)
  rw [show decide (dest ++ name = []) = (decide (dest = []) && decide (name = [])) by cases dest <;> cases name <;> rfl] at hne3
  have HN1 := Lib.hid (fun W => asmName33 label W (by omega))
  have HN2 := Lib.hid (fun W => asmName33 dest W (by omega))
  have HN3 := Lib.hid (fun W => asmName33 name W (by omega))
  have k1 : bsOf dest ++ bsOf name = bsOf (dest ++ name) := bsOf_cat _ _
  have q1 : ¬ 9223372036854775807 < (bsOf dest).size + (bsOf name).size := by rw [bsOf_size, bsOf_size]; omega
  generalize nameOk label = n1 at HN1 HDEF
  generalize nameOk dest = n2 at HN2 HDEF
  generalize nameOk name = n3 at HN3 HDEF
  generalize decide (dest = []) = bt at hne1 hne3 HDEF
  generalize decide (name = []) = bn at hne2 hne3 HDEF
  generalize bsOf (dest ++ name) = S3 at hne3 k1
  generalize hS1 : bsOf dest = S1 at *
  generalize hS2 : bsOf name = S2 at *
  have hX1 := new_block w (.cells #[.string (bsOf label), .int .u8 op, .int .u8 d, .int .u8 a, .int .u8 b, .int .u32 im, .string S1, .string S2] 59)
  have HB1 := Lib.hid (alloc_old w (.cells #[.string (bsOf label), .int .u8 op, .int .u8 d, .int .u8 a, .int .u8 b, .int .u32 im, .string S1, .string S2] 59))
  generalize hS0 : bsOf label = S0 at *
  clear hS0 hS1 hS2 hl1 hl2 hl3 hxb
  go_enter Tryz.func139, Tryz.ntmps139
  go_upto_region 1 with fail
  generalize (w.alloc (.cells #[.string S0, .int .u8 op, .int .u8 d, .int .u8 a, .int .u8 b, .int .u32 im, .string S1, .string S2] 59)) = w1 at *
  have hlt1 := (Array.getElem?_eq_some_iff.1 hX1).1
  have HBc := Lib.hid HB1.out
  have z0 : w1.cell? ⟨w.heap.size, 0, none⟩ = some (.string S0) := Lib.cell_of_heap hX1 0
  have z6 : w1.cell? ⟨w.heap.size, 6, none⟩ = some (.string S1) := Lib.cell_of_heap hX1 6
  have z7 : w1.cell? ⟨w.heap.size, 7, none⟩ = some (.string S2) := Lib.cell_of_heap hX1 7
  cases bt <;> cases bn
  ·
    go_wp2
    go_ret
    exact ⟨by rw [HDEF.out]; rfl, HBc.out⟩
  ·
    go_wp2_with fail
    refine (HN1.out _).mono ?_
    rintro e w2 ⟨rfl, hB⟩
    have hX2 := (hB.block w.heap.size (Array.getElem?_eq_some_iff.1 hX1).1).trans hX1
    replace HBc := Lib.hid (HBc.out.trans (hB.mono HBc.out.size))
    clear hB z0 z6 z7
    have z6 : w2.cell? ⟨w.heap.size, 6, none⟩ = some (.string S1) := Lib.cell_of_heap hX2 6
    have z7 : w2.cell? ⟨w.heap.size, 7, none⟩ = some (.string S2) := Lib.cell_of_heap hX2 7
    cases n1 with
    | false =>
      go_wp2
      go_ret
      exact ⟨by rw [HDEF.out]; rfl, HBc.out⟩
    | true =>
      go_wp2_with fail
      refine (HN2.out _).mono ?_
      rintro e w3 ⟨rfl, hB⟩
      have hX3 := (hB.block w.heap.size (Array.getElem?_eq_some_iff.1 hX2).1).trans hX2
      replace HBc := Lib.hid (HBc.out.trans (hB.mono HBc.out.size))
      clear hB z6 z7
      have z7 : w3.cell? ⟨w.heap.size, 7, none⟩ = some (.string S2) := Lib.cell_of_heap hX3 7
      cases n2 with
      | false =>
        go_wp2
        go_ret
        exact ⟨by rw [HDEF.out]; rfl, HBc.out⟩
      | true =>
        go_wp2_with fail
        refine (HN3.out _).mono ?_
        rintro e w4 ⟨rfl, hB⟩
        have hX4 := (hB.block w.heap.size (Array.getElem?_eq_some_iff.1 hX3).1).trans hX3
        replace HBc := Lib.hid (HBc.out.trans (hB.mono HBc.out.size))
        clear hB z7
        have z6 : w4.cell? ⟨w.heap.size, 6, none⟩ = some (.string S1) := Lib.cell_of_heap hX4 6
        have z7 : w4.cell? ⟨w.heap.size, 7, none⟩ = some (.string S2) := Lib.cell_of_heap hX4 7
        cases n3 with
        | false =>
          go_wp2
          go_ret
          exact ⟨by rw [HDEF.out]; rfl, HBc.out⟩
        | true =>
          have z1 : w4.cell? ⟨w.heap.size, 1, none⟩ = some (.int .u8 op) := Lib.cell_of_heap hX4 1
          go_wp2_with fail
          refine (HU.out _).mono ?_
          rintro e w5 ⟨rfl, hB⟩
          have hX5 := (hB.block w.heap.size (Array.getElem?_eq_some_iff.1 hX4).1).trans hX4
          replace HBc := Lib.hid (HBc.out.trans (hB.mono HBc.out.size))
          clear hB z1 z6 z7
          have z1 : w5.cell? ⟨w.heap.size, 1, none⟩ = some (.int .u8 op) := Lib.cell_of_heap hX5 1
          have z2 : w5.cell? ⟨w.heap.size, 2, none⟩ = some (.int .u8 d) := Lib.cell_of_heap hX5 2
          have z3 : w5.cell? ⟨w.heap.size, 3, none⟩ = some (.int .u8 a) := Lib.cell_of_heap hX5 3
          have z4 : w5.cell? ⟨w.heap.size, 4, none⟩ = some (.int .u8 b) := Lib.cell_of_heap hX5 4
          have z5 : w5.cell? ⟨w.heap.size, 5, none⟩ = some (.int .u32 im) := Lib.cell_of_heap hX5 5
          have f5 := Lib.frozen_of_heap hX5 5
          have hX6 : (w5.setCell ⟨w.heap.size, 5, none⟩ (.int .u32 0)).heap[w.heap.size]? = some (.cells #[.string S0, .int .u8 op, .int .u8 d, .int .u8 a, .int .u8 b, .int .u32 0, .string S1, .string S2] 59 (0, 0)) := set33 hX5 5 _
          have HBd := Lib.hid (HBc.out.setCell (p := ⟨w.heap.size, 5, none⟩) (Nat.le_refl _) (.int .u32 0))
          by_cases hu : useOf op = 0
          · rw [if_pos hu]
            have HR : Hid (res = false) := Lib.hid (by rw [HDEF.out]; simp [hu])
            clear HDEF hu
            go_wp2
            go_ret
            exact ⟨by rw [HR.out]; rfl, HBd.out⟩
          · rw [if_neg hu]
            cases hb8 : bitOf (useOf op) 8 with
            | false =>
              have HR : Hid (res = false) := Lib.hid (by rw [HDEF.out]; simp [hb8])
              clear HDEF hu
              go_wp2
              go_ret
              exact ⟨by rw [HR.out]; rfl, HBd.out⟩
            | true =>
              have HR : Hid (res = ok2) := Lib.hid (by rw [HDEF.out]; simp [hb8, hu])
              clear HDEF hu
              go_upto_region 8 with fail
              generalize (w5.setCell ⟨w.heap.size, 5, none⟩ (.int .u32 0)) = w6 at *
              clear z1 z2 z3 z4 z5 f5 hX5
              have z1 : w6.cell? ⟨w.heap.size, 1, none⟩ = some (.int .u8 op) := Lib.cell_of_heap hX6 1
              have z2 : w6.cell? ⟨w.heap.size, 2, none⟩ = some (.int .u8 d) := Lib.cell_of_heap hX6 2
              have z3 : w6.cell? ⟨w.heap.size, 3, none⟩ = some (.int .u8 a) := Lib.cell_of_heap hX6 3
              have z4 : w6.cell? ⟨w.heap.size, 4, none⟩ = some (.int .u8 b) := Lib.cell_of_heap hX6 4
              have z5 : w6.cell? ⟨w.heap.size, 5, none⟩ = some (.int .u32 0) := Lib.cell_of_heap hX6 5
              go_wp2_with fail
              refine (HC2.out _).mono ?_
              rintro e w7 ⟨rfl, hB⟩
              have HBe := Lib.hid (HBd.out.trans (hB.mono HBd.out.size))
              clear hB z1 z2 z3 z4 z5
              cases ok2 with
              | false =>
                rw [show erI false 2 = 2 from rfl]
                go_wp2
                go_ret
                exact ⟨by rw [HR.out]; rfl, HBe.out⟩
              | true =>
                rw [show erI true 2 = 0 from rfl]
                go_wp2
                go_ret
                exact ⟨by rw [HR.out]; rfl, HBe.out⟩
  ·
    go_wp2_with fail
    refine (HN1.out _).mono ?_
    rintro e w2 ⟨rfl, hB⟩
    have hX2 := (hB.block w.heap.size (Array.getElem?_eq_some_iff.1 hX1).1).trans hX1
    replace HBc := Lib.hid (HBc.out.trans (hB.mono HBc.out.size))
    clear hB z0 z6 z7
    have z6 : w2.cell? ⟨w.heap.size, 6, none⟩ = some (.string S1) := Lib.cell_of_heap hX2 6
    have z7 : w2.cell? ⟨w.heap.size, 7, none⟩ = some (.string S2) := Lib.cell_of_heap hX2 7
    cases n1 with
    | false =>
      go_wp2
      go_ret
      exact ⟨by rw [HDEF.out]; rfl, HBc.out⟩
    | true =>
      go_wp2_with fail
      refine (HN2.out _).mono ?_
      rintro e w3 ⟨rfl, hB⟩
      have hX3 := (hB.block w.heap.size (Array.getElem?_eq_some_iff.1 hX2).1).trans hX2
      replace HBc := Lib.hid (HBc.out.trans (hB.mono HBc.out.size))
      clear hB z6 z7
      have z7 : w3.cell? ⟨w.heap.size, 7, none⟩ = some (.string S2) := Lib.cell_of_heap hX3 7
      cases n2 with
      | false =>
        go_wp2
        go_ret
        exact ⟨by rw [HDEF.out]; rfl, HBc.out⟩
      | true =>
        go_wp2_with fail
        refine (HN3.out _).mono ?_
        rintro e w4 ⟨rfl, hB⟩
        have hX4 := (hB.block w.heap.size (Array.getElem?_eq_some_iff.1 hX3).1).trans hX3
        replace HBc := Lib.hid (HBc.out.trans (hB.mono HBc.out.size))
        clear hB z7
        have z6 : w4.cell? ⟨w.heap.size, 6, none⟩ = some (.string S1) := Lib.cell_of_heap hX4 6
        have z7 : w4.cell? ⟨w.heap.size, 7, none⟩ = some (.string S2) := Lib.cell_of_heap hX4 7
        cases n3 with
        | false =>
          go_wp2
          go_ret
          exact ⟨by rw [HDEF.out]; rfl, HBc.out⟩
        | true =>
          have z1 : w4.cell? ⟨w.heap.size, 1, none⟩ = some (.int .u8 op) := Lib.cell_of_heap hX4 1
          go_wp2_with fail
          refine (HU.out _).mono ?_
          rintro e w5 ⟨rfl, hB⟩
          have hX5 := (hB.block w.heap.size (Array.getElem?_eq_some_iff.1 hX4).1).trans hX4
          replace HBc := Lib.hid (HBc.out.trans (hB.mono HBc.out.size))
          clear hB z1 z6 z7
          have z1 : w5.cell? ⟨w.heap.size, 1, none⟩ = some (.int .u8 op) := Lib.cell_of_heap hX5 1
          have z2 : w5.cell? ⟨w.heap.size, 2, none⟩ = some (.int .u8 d) := Lib.cell_of_heap hX5 2
          have z3 : w5.cell? ⟨w.heap.size, 3, none⟩ = some (.int .u8 a) := Lib.cell_of_heap hX5 3
          have z4 : w5.cell? ⟨w.heap.size, 4, none⟩ = some (.int .u8 b) := Lib.cell_of_heap hX5 4
          have z5 : w5.cell? ⟨w.heap.size, 5, none⟩ = some (.int .u32 im) := Lib.cell_of_heap hX5 5
          have f5 := Lib.frozen_of_heap hX5 5
          have hX6 : (w5.setCell ⟨w.heap.size, 5, none⟩ (.int .u32 0)).heap[w.heap.size]? = some (.cells #[.string S0, .int .u8 op, .int .u8 d, .int .u8 a, .int .u8 b, .int .u32 0, .string S1, .string S2] 59 (0, 0)) := set33 hX5 5 _
          have HBd := Lib.hid (HBc.out.setCell (p := ⟨w.heap.size, 5, none⟩) (Nat.le_refl _) (.int .u32 0))
          by_cases hu : useOf op = 0
          · rw [if_pos hu]
            have HR : Hid (res = false) := Lib.hid (by rw [HDEF.out]; simp [hu])
            clear HDEF hu
            go_wp2
            go_ret
            exact ⟨by rw [HR.out]; rfl, HBd.out⟩
          · rw [if_neg hu]
            cases hb8 : bitOf (useOf op) 8 with
            | false =>
              have HR : Hid (res = false) := Lib.hid (by rw [HDEF.out]; simp [hb8])
              clear HDEF hu
              go_wp2
              go_ret
              exact ⟨by rw [HR.out]; rfl, HBd.out⟩
            | true =>
              have HR : Hid (res = ok2) := Lib.hid (by rw [HDEF.out]; simp [hb8, hu])
              clear HDEF hu
              go_upto_region 8 with fail
              generalize (w5.setCell ⟨w.heap.size, 5, none⟩ (.int .u32 0)) = w6 at *
              clear z1 z2 z3 z4 z5 f5 hX5
              have z1 : w6.cell? ⟨w.heap.size, 1, none⟩ = some (.int .u8 op) := Lib.cell_of_heap hX6 1
              have z2 : w6.cell? ⟨w.heap.size, 2, none⟩ = some (.int .u8 d) := Lib.cell_of_heap hX6 2
              have z3 : w6.cell? ⟨w.heap.size, 3, none⟩ = some (.int .u8 a) := Lib.cell_of_heap hX6 3
              have z4 : w6.cell? ⟨w.heap.size, 4, none⟩ = some (.int .u8 b) := Lib.cell_of_heap hX6 4
              have z5 : w6.cell? ⟨w.heap.size, 5, none⟩ = some (.int .u32 0) := Lib.cell_of_heap hX6 5
              go_wp2_with fail
              refine (HC2.out _).mono ?_
              rintro e w7 ⟨rfl, hB⟩
              have HBe := Lib.hid (HBd.out.trans (hB.mono HBd.out.size))
              clear hB z1 z2 z3 z4 z5
              cases ok2 with
              | false =>
                rw [show erI false 2 = 2 from rfl]
                go_wp2
                go_ret
                exact ⟨by rw [HR.out]; rfl, HBe.out⟩
              | true =>
                rw [show erI true 2 = 0 from rfl]
                go_wp2
                go_ret
                exact ⟨by rw [HR.out]; rfl, HBe.out⟩
  ·
    go_wp2_with fail
    refine (HN1.out _).mono ?_
    rintro e w2 ⟨rfl, hB⟩
    have hX2 := (hB.block w.heap.size (Array.getElem?_eq_some_iff.1 hX1).1).trans hX1
    replace HBc := Lib.hid (HBc.out.trans (hB.mono HBc.out.size))
    clear hB z0 z6 z7
    have z6 : w2.cell? ⟨w.heap.size, 6, none⟩ = some (.string S1) := Lib.cell_of_heap hX2 6
    have z7 : w2.cell? ⟨w.heap.size, 7, none⟩ = some (.string S2) := Lib.cell_of_heap hX2 7
    cases n1 with
    | false =>
      go_wp2
      go_ret
      exact ⟨by rw [HDEF.out]; rfl, HBc.out⟩
    | true =>
      go_wp2_with fail
      refine (HN2.out _).mono ?_
      rintro e w3 ⟨rfl, hB⟩
      have hX3 := (hB.block w.heap.size (Array.getElem?_eq_some_iff.1 hX2).1).trans hX2
      replace HBc := Lib.hid (HBc.out.trans (hB.mono HBc.out.size))
      clear hB z6 z7
      have z7 : w3.cell? ⟨w.heap.size, 7, none⟩ = some (.string S2) := Lib.cell_of_heap hX3 7
      cases n2 with
      | false =>
        go_wp2
        go_ret
        exact ⟨by rw [HDEF.out]; rfl, HBc.out⟩
      | true =>
        go_wp2_with fail
        refine (HN3.out _).mono ?_
        rintro e w4 ⟨rfl, hB⟩
        have hX4 := (hB.block w.heap.size (Array.getElem?_eq_some_iff.1 hX3).1).trans hX3
        replace HBc := Lib.hid (HBc.out.trans (hB.mono HBc.out.size))
        clear hB z7
        have z6 : w4.cell? ⟨w.heap.size, 6, none⟩ = some (.string S1) := Lib.cell_of_heap hX4 6
        have z7 : w4.cell? ⟨w.heap.size, 7, none⟩ = some (.string S2) := Lib.cell_of_heap hX4 7
        cases n3 with
        | false =>
          go_wp2
          go_ret
          exact ⟨by rw [HDEF.out]; rfl, HBc.out⟩
        | true =>
          have z1 : w4.cell? ⟨w.heap.size, 1, none⟩ = some (.int .u8 op) := Lib.cell_of_heap hX4 1
          have z2 : w4.cell? ⟨w.heap.size, 2, none⟩ = some (.int .u8 d) := Lib.cell_of_heap hX4 2
          have z3 : w4.cell? ⟨w.heap.size, 3, none⟩ = some (.int .u8 a) := Lib.cell_of_heap hX4 3
          have z4 : w4.cell? ⟨w.heap.size, 4, none⟩ = some (.int .u8 b) := Lib.cell_of_heap hX4 4
          have z5 : w4.cell? ⟨w.heap.size, 5, none⟩ = some (.int .u32 im) := Lib.cell_of_heap hX4 5
          go_wp2_with fail
          refine (HC1.out _).mono ?_
          rintro e w5 ⟨rfl, hB⟩
          replace HBc := Lib.hid (HBc.out.trans (hB.mono HBc.out.size))
          clear hB z1 z2 z3 z4 z5 z6 z7
          cases ok1 with
          | false =>
            rw [show erI false 2 = 2 from rfl]
            go_wp2
            go_ret
            exact ⟨by rw [HDEF.out]; rfl, HBc.out⟩
          | true =>
            rw [show erI true 2 = 0 from rfl]
            go_wp2
            go_ret
            exact ⟨by rw [HDEF.out]; rfl, HBc.out⟩
end Go.Proofs.YtoonkfhphbojcaaGreatDoor
