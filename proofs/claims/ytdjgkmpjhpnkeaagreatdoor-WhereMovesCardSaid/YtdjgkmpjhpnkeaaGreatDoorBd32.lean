/- slices.SortFunc at a row of places, by the order of reach. Which symbols moved from one image to another one of the same objects (layer 34), in plain words. No program in sight. The walk of WhereMoves. -/
import Derived.Test.YtdjgkmpjhpnkeaaGreatDoorSortLay
import Derived.Test.YtdjgkmpjhpnkeaaGreatDoorBd31
import Derived.Test.YtdjgkmpjhpnkeaaGreatDoorBd08
import Derived.Test.YtdjgkmpjhpnkeaaGreatDoorBd04
import Derived.Test.YtdjgkmpjhpnkeaaGreatDoorBd21
import Derived.Test.YtdjgkmpjhpnkeaaGreatDoorBd03
import Derived.Lib.Builder
import Derived.Test.YtdjgkmpjhpnkeaaGreatDoorBd12
import Derived.Test.YtdjgkmpjhpnkeaaGreatDoorBd30
namespace Go.Proofs.YtdjgkmpjhpnkeaaGreatDoor
open Go.RowKit Go.Maps Go.Shelf Go.Sort Go.Lib
def toI (p : PP) : Int × Int := ((p.1 : Nat), (p.2 : Nat))
def backI (x : Int × Int) : PP := (x.1.toNat, x.2.toNat)
theorem backI_toI (p : PP) : backI (toI p) = p := by simp [backI, toI]
def encI (x : Int × Int) : List Value := [.int .i64 x.1, .int .i64 x.2]
def plti (x y : Int × Int) : Prop := x.1 < y.1 ∨ (x.1 = y.1 ∧ x.2 < y.2)
instance (x y : Int × Int) : Decidable (plti x y) := by unfold plti; exact inferInstance
theorem cmpP_lt (x y : Int × Int) : cmpP x y < 0 ↔ plti x y := by
  unfold cmpP orI cmpI plti
  by_cases h1 : x.1 < y.1
  · simp [h1]
  · by_cases h2 : y.1 < x.1
    · simp [h1, h2]; omega
    · have e : x.1 = y.1 := by omega
      by_cases h3 : x.2 < y.2
      · simp [e, h3]
      · by_cases h4 : y.2 < x.2 <;> simp [e, h3, h4]
theorem lt_cmpP (x y : Int × Int) : Go.Proofs.ltOf cmpP x y = decide (plti x y) := by
  unfold Go.Proofs.ltOf
  simp only [cmpP_lt]
theorem swoP : SWO (Go.Proofs.ltOf cmpP) where
  irrefl x := by rw [lt_cmpP]; simp [plti]
  trans x y z h1 h2 := by rw [lt_cmpP, decide_eq_true_eq] at *; unfold plti at *; omega
  ntrans x y z h1 h2 := by rw [lt_cmpP, decide_eq_false_iff_not] at *; unfold plti at *; omega
theorem orderLays (blk off size : Nat) (w : World) : Go.Proofs.CmpLays Tryz.prog 140 #[] encI 2 cmpP blk off size w := fun _ _ _ _ x y => order_any x y _
theorem placeCells_enc (ps : List PP) : placeCells ps = (ps.map toI).flatMap encI := by
  induction ps with
  | nil => rfl
  | cons p r ih => simp only [placeCells, List.flatMap_cons, List.map_cons] at *; rw [ih]; rfl
theorem flat2_get : ∀ (l : List (Int × Int)) (t : Nat), t < l.length * 2 → (l.flatMap encI)[t]? = some ((encI (l.toArray[t / 2]!))[t % 2]!)
  | x :: r, 0, _ => by simp [encI]
  | x :: r, 1, _ => by simp [encI]
  | x :: r, t + 2, h => by
    have ih := flat2_get r t (by simp at h; omega)
    have e1 : (t + 2) / 2 = t / 2 + 1 := by omega
    have e2 : (t + 2) % 2 = t % 2 := by omega
    rw [e1, e2, List.flatMap_cons, show encI x = [.int .i64 x.1, .int .i64 x.2] from rfl]
    simp only [List.cons_append, List.nil_append, List.getElem?_cons_succ]
    rw [ih]
    congr 3
    simp [Array.getElem!_eq_getD, Array.getD]
  | [], t, h => by simp at h
theorem flatK_get (l : List (Int × Int)) (t : Nat) (h : t < l.length * 2) : (l.flatMap encI)[t]? = some ((flatK encI 2 l.toArray)[t]!) := by
  rw [flat2_get l t h, get_flatK encI 2 l.toArray t (by simpa using h)]
theorem holds_of_row {base : Nat} {w : World} {ps : List PP} {g cap : Nat} (h : PRow base w (.slice (some ⟨g, 0, none⟩) ps.length cap) ps) : HoldsK encI 2 w g 0 (ps.map toI).toArray := by
  intro j hj
  rw [size_flatK] at hj
  have hj' : j < (ps.map toI).length * 2 := by simpa using hj
  have h1 := flatK_get _ j hj'
  rw [← placeCells_enc] at h1
  have h2 := h.cells (g := g) rfl j _ h1
  rw [add_zero_eq] at h2
  refine ⟨by rw [Nat.zero_add]; exact h2, ?_⟩
  rcases h.2 with ⟨h3, -⟩ | ⟨g', cap', cur, h3, -, h4, -⟩
  · cases h3
  · cases h3; exact Lib.frozen_of_heap h4 _
theorem cells_len (ps : List PP) : (placeCells ps).length = ps.length * 2 := by
  induction ps with
  | nil => rfl
  | cons p r ih => simp only [placeCells, List.flatMap_cons, List.length_append, List.length_cons, List.length_nil] at *; omega
theorem sorted_block {w : World} {g n : Nat} {D : Array (Int × Int)} {os : Array Obj} {cur : Array Value} {e : TypeId} (h : w.heap[g]? = some (.cells cur e (0, 0))) :
    (sortWorldK encI 2 w g 0 n D os).heap[g]? = some (.cells (putCells id 0 (flatK encI 2 D) cur) e (0, 0)) := by
  have hlt := (Array.getElem?_eq_some_iff.1 h).1
  unfold sortWorldK putRowK putRow grow mapBlock Sort.ahead
  rw [Array.getElem?_append_left (by simpa using hlt), Array.getElem?_modify]
  simp only [if_true]
  rw [h]
  rfl
theorem sorted_other {w : World} {g n : Nat} {D : Array (Int × Int)} {os : Array Obj} {k : Nat} (hk : k < w.heap.size) (hne : k ≠ g) : (sortWorldK encI 2 w g 0 n D os).heap[k]? = w.heap[k]? := by
  unfold sortWorldK putRowK putRow grow mapBlock Sort.ahead
  rw [Array.getElem?_append_left (by simpa using hk), Array.getElem?_modify, if_neg (fun e => hne e.symm)]
theorem sorted_size {w : World} {g n : Nat} {D : Array (Int × Int)} {os : Array Obj} : w.heap.size ≤ (sortWorldK encI 2 w g 0 n D os).heap.size := by
  unfold sortWorldK putRowK putRow grow mapBlock Sort.ahead
  simp
theorem row_put {base : Nat} {w : World} {ps ps' : List PP} {g cap n : Nat} {os : Array Obj} (h : PRow base w (.slice (some ⟨g, 0, none⟩) ps.length cap) ps) (hl : ps'.length = ps.length) :
    PRow base (sortWorldK encI 2 w g 0 n (ps'.map toI).toArray os) (.slice (some ⟨g, 0, none⟩) ps.length cap) ps' := by
  refine ⟨cells_len ps', ?_⟩
  rcases h.2 with ⟨h3, -⟩ | ⟨g', cap', cur, h3, hb, h4, h5, h6, h7, h8⟩
  · cases h3
  · cases h3
    refine .inr ⟨g, cap, putCells id 0 (flatK encI 2 (ps'.map toI).toArray) cur, by rw [hl], hb, sorted_block h4, by omega, h6, by simp [putCells, h7], ?_⟩
    apply List.ext_getElem?
    intro t
    by_cases ht : t < ps'.length * 2
    · have h9 := flatK_get (ps'.map toI) t (by simpa using ht)
      rw [← placeCells_enc] at h9
      rw [h9, List.getElem?_take, if_pos ht]
      have hc : t < cur.size := by omega
      simp [putCells, hc]
      omega
    · rw [List.getElem?_eq_none (by simp; omega), List.getElem?_eq_none (by rw [cells_len]; omega)]
theorem perm_back {D' : Array (Int × Int)} {ps : List PP} (h : D'.toList.Perm (ps.map toI)) : ∃ ps' : List PP, ps'.Perm ps ∧ D' = (ps'.map toI).toArray := by
  refine ⟨D'.toList.map backI, ?_, ?_⟩
  · have := h.map backI
    rw [List.map_map] at this
    have e : (backI ∘ toI) = id := by funext p; exact backI_toI p
    rwa [e, List.map_id] at this
  · apply Array.ext'
    rw [List.map_map]
    have : ∀ x ∈ D'.toList, (toI ∘ backI) x = x := fun x hx => by
      obtain ⟨p, -, rfl⟩ := List.mem_map.1 (h.mem_iff.1 hx)
      simp [backI_toI]
    rw [List.map_congr_left this, List.map_id']
theorem sorted_pw {ps' : List PP} {n : Nat} (hn : n = ps'.length) (h : SortedIn (Go.Proofs.ltOf cmpP) 0 n (ps'.map toI).toArray) : ps'.Pairwise (fun a b => ¬ plt b a) := by
  rw [List.pairwise_iff_getElem]
  intro i j hi hj hij hp
  have := h i j (by omega) hij (by omega)
  rw [lt_cmpP, decide_eq_false_iff_not] at this
  apply this
  have e1 : (ps'.map toI).toArray[i]! = toI ps'[i] := by rw [getElem!_pos _ i (by simpa using hi)]; simp
  have e2 : (ps'.map toI).toArray[j]! = toI ps'[j] := by rw [getElem!_pos _ j (by simpa using hj)]; simp
  rw [e1, e2]
  unfold plt at hp
  unfold plti toI
  simp only []
  omega
theorem order_enters (args : Array Value) (w : World) : (callFunc 140 args).run Tryz.prog w = .ok (.enter 140 args) w := enters_of Tryz.func140 (by kernel_rfl) rfl args w
set_option maxRecDepth 100000 in
theorem sort_ok : SortOk := by
  intro base v ps w h hl
  by_cases h0 : ps.length = 0
  · obtain ⟨p, c, rfl⟩ := own_shape h
    obtain rfl : ps = [] := List.eq_nil_of_length_eq_zero h0
    have hcon := Go.Proofs.AnyF.slices_SortFunc_none Tryz.sortPlaces p c (.func (.func 140) #[] #[]) w
    change Calls Tryz.prog 139 _ _ _ at hcon
    refine hcon.mono ?_
    rintro e w' ⟨rfl, rfl⟩
    exact ⟨rfl, [], .refl _, List.Pairwise.nil, h, KB.refl _ _⟩
  · obtain ⟨g, cap, rfl, hbg, hgl⟩ := World.ownsRow.form h (by omega)
    have hsz : ((ps.map toI).toArray).size = ps.length := by simp
    have hcon := Go.Proofs.AnyQ.slices_SortFunc Tryz.sortPlaces 2 Tryz.isAgg63 Tryz.sizeOf63 encI (fun _ => rfl) (fun x v hv => by simp [encI] at hv; rcases hv with rfl | rfl <;> rfl) cmpP swoP 140 #[] g 0 cap (ps.map toI).toArray w order_enters (orderLays g 0 _ w) (holds_of_row h) hgl (by rw [hsz]; omega)
    change Calls Tryz.prog 139 _ _ _ at hcon
    rw [hsz] at hcon
    refine hcon.mono ?_
    rintro e w' ⟨rfl, d', n, os, hp, hs, rfl⟩
    have hpp : d'.toList.Perm (ps.map toI) := by
      have h3 := hp.2.2
      have hz := hp.1
      rw [hsz] at hz
      rw [Array.extract_eq_self_of_le (by omega), Array.extract_eq_self_of_le (by rw [hsz]; omega)] at h3
      exact h3
    obtain ⟨ps', hp1, rfl⟩ := perm_back hpp
    refine ⟨rfl, ps', hp1, sorted_pw hp1.length_eq.symm hs, row_put h hp1.length_eq, ⟨rfl, rfl, rfl, sorted_size, fun k hk hne => sorted_other hk fun e => hne (by rw [e]; rfl)⟩⟩
end Go.Proofs.YtdjgkmpjhpnkeaaGreatDoor
namespace Go.Proofs.YtdjgkmpjhpnkeaaGreatDoor
def keyT (s : GTs) : ByteArray × ByteArray := (s.name, s.object)
def KeyU (T : List GTs) : Prop := T.Pairwise fun a b => keyT a ≠ keyT b
/-- no two objects have one name -/
def ObjU (l : List GObj) : Prop := ∀ i j (hi : i < l.length) (hj : j < l.length), i < j → l[i].name ≠ l[j].name
theorem symsGo_u : ∀ (l seen : List GSym), symsGo seen l = true → (∀ s ∈ seen, ∀ t ∈ l, s.name ≠ t.name) ∧ l.Pairwise (fun a b => a.name ≠ b.name)
  | [], _, _ => ⟨fun _ _ _ ht => (by cases ht), List.Pairwise.nil⟩
  | x :: r, seen, h => by
    simp only [symsGo, Bool.and_eq_true, Bool.not_eq_true'] at h
    obtain ⟨⟨h1, -⟩, h3⟩ := h
    obtain ⟨a1, a2⟩ := symsGo_u r (seen ++ [x]) h3
    refine ⟨fun s hs t ht => ?_, List.pairwise_cons.2 ⟨fun y hy => a1 x (by simp) y hy, a2⟩⟩
    rcases List.mem_cons.1 ht with rfl | ht
    · intro e
      unfold hasName at h1
      have := List.any_eq_false.1 h1 s hs
      rw [e] at this
      simp at this
    · exact a1 s (by simp [hs]) t ht
theorem ordP_trans {a b c : GP} (h : ordP a b = true) (k : ordP b c = true) : ordP a c = true := by
  unfold ordP at *
  simp only [Bool.not_eq_true', Bool.or_eq_false_iff, Bool.and_eq_false_iff, decide_eq_false_iff_not] at *
  omega
theorem ordP_ne {a b : GP} (h : ordP a b = true) : a ≠ b := by
  rintro rfl
  unfold ordP at h
  simp at h
theorem mayGo_pw {l : List GObj} : ∀ (ps : List GP) (pr : Option GP), mayGo l pr ps = true → (∀ q, pr = some q → ∀ x ∈ ps, ordP q x = true) ∧ ps.Pairwise (fun a b => ordP a b = true)
  | [], _, _ => ⟨fun _ _ _ hx => (by cases hx), List.Pairwise.nil⟩
  | p :: r, pr, h => by
    simp only [mayGo, Bool.and_eq_true] at h
    obtain ⟨⟨-, h2⟩, h3⟩ := h
    obtain ⟨a1, a2⟩ := mayGo_pw r (some p) h3
    refine ⟨fun q hq x hx => ?_, List.pairwise_cons.2 ⟨fun y hy => a1 p rfl y hy, a2⟩⟩
    subst hq
    rcases List.mem_cons.1 hx with rfl | hx
    · exact h2
    · exact ordP_trans h2 (a1 p rfl x hx)
theorem key_u {l : List GObj} {ps : List GP} {wh : List GAddr} {sp : List GSpan} (h : layOf l ps = (wh, sp, 0)) (hu : ObjU l) : KeyU (wh.map (tsAt l)) := by
  have hl := laid_of h
  obtain ⟨hm, -⟩ := layOf_zero h
  simp only [layMay, Bool.and_eq_true] at hm
  have hpw := (mayGo_pw ps none hm.2).2
  unfold KeyU
  rw [List.pairwise_iff_getElem] at hpw ⊢
  intro i j hi hj hij
  have hi2 : i < wh.length := by simpa using hi
  have hj2 : j < wh.length := by simpa using hj
  have hi3 : i < ps.length := by rw [← hl.len]; exact hi2
  have hj3 : j < ps.length := by rw [← hl.len]; exact hj2
  obtain ⟨o, s, a1, a2, -, a3, -, e1, p1, a4, a5, -⟩ := tsAt_of h hi3 hi2
  obtain ⟨o', s', b1, b2, -, -, -, e2, p2, b4, b5, -⟩ := tsAt_of h hj3 hj2
  simp only [List.getElem_map]
  rw [e1, e2]
  unfold keyT
  intro hk
  simp only [Prod.mk.injEq] at hk
  obtain ⟨hn, ho⟩ := hk
  obtain ⟨x1, y1⟩ := List.getElem?_eq_some_iff.1 a1
  obtain ⟨x2, y2⟩ := List.getElem?_eq_some_iff.1 b1
  have hoe : wh[i].obj.toNat = wh[j].obj.toNat := by
    rcases Nat.lt_trichotomy wh[i].obj.toNat wh[j].obj.toNat with hlt | he | hlt
    · exact absurd (by rw [y1, y2]; exact ho) (hu _ _ x1 x2 hlt)
    · exact he
    · exact absurd (by rw [y1, y2]; exact ho.symm) (hu _ _ x2 x1 hlt)
  have hoo : o = o' := by
    rw [hoe, b1] at a1
    exact (Option.some.inj a1).symm
  subst hoo
  obtain ⟨x3, y3⟩ := List.getElem?_eq_some_iff.1 a2
  obtain ⟨x4, y4⟩ := List.getElem?_eq_some_iff.1 b2
  simp only [mayP, Bool.and_eq_true] at a3
  have hsu := List.pairwise_iff_getElem.1 (symsGo_u _ _ a3.1.1).2
  have hse : wh[i].sym.toNat = wh[j].sym.toNat := by
    rcases Nat.lt_trichotomy wh[i].sym.toNat wh[j].sym.toNat with hlt | he | hlt
    · exact absurd (by rw [y3, y4]; exact hn) (hsu _ _ x3 x4 hlt)
    · exact he
    · exact absurd (by rw [y3, y4]; exact hn.symm) (hsu _ _ x4 x3 hlt)
  have hpe : ps[i] = ps[j] := by
    rw [← p1, ← p2]
    exact Prod.ext (by simp only []; omega) (by simp only []; omega)
  exact ordP_ne (hpw i j hi3 hj3 hij) hpe
theorem tab_key {l : List GObj} {ps : List GP} {wh : List GAddr} {sp : List GSpan} {T : List GTs} (h : layOf l ps = (wh, sp, 0)) (hu : ObjU l) (hT : TabOf l wh T) : KeyU T :=
  (hT.pm.pairwise_iff (fun hxy e => hxy e.symm)).2 (key_u h hu)
theorem keyU_eq {T : List GTs} (hu : KeyU T) {x y : GTs} (hx : x ∈ T) (hy : y ∈ T) (h : keyT x = keyT y) : x = y := by
  obtain ⟨i, hi, rfl⟩ := List.getElem_of_mem hx
  obtain ⟨j, hj, rfl⟩ := List.getElem_of_mem hy
  have hp := List.pairwise_iff_getElem.1 hu
  rcases Nat.lt_trichotomy i j with hlt | rfl | hlt
  · exact absurd h (hp i j hi hj hlt)
  · rfl
  · exact absurd h.symm (hp j i hj hi hlt)
theorem ofT_mem {T : List GTs} (hu : KeyU T) {x s : GTs} (hx : x ∈ T) (h : keyT x = keyT s) : ofT T s = x.addr := by
  unfold ofT
  cases hf : T.find? (fun (y : GTs) => decide (y.name = s.name) && decide (y.object = s.object)) with
  | none =>
    rw [List.find?_eq_none] at hf
    unfold keyT at h
    simp only [Prod.mk.injEq] at h
    exact absurd (by simp [h]) (hf x hx)
  | some y =>
    have h1 := List.find?_some hf
    simp only [Bool.and_eq_true, decide_eq_true_eq] at h1
    have : y = x := keyU_eq hu (List.mem_of_find?_eq_some hf) hx (by rw [h]; exact Prod.ext h1.1 h1.2)
    subst this
    rfl
theorem ofT_no {T : List GTs} {s : GTs} (h : ∀ x ∈ T, keyT x ≠ keyT s) : ofT T s = 0 := by
  unfold ofT
  have : T.find? (fun (y : GTs) => decide (y.name = s.name) && decide (y.object = s.object)) = none := by
    rw [List.find?_eq_none]
    intro x hx hc
    simp only [Bool.and_eq_true, decide_eq_true_eq] at hc
    exact h x hx (Prod.ext hc.1 hc.2)
  rw [this]; rfl
theorem tab_addr {T : List GTs} (hok : tabOk T = true) : ∀ x ∈ T, 256 ≤ x.addr := fun x hx => by
  obtain ⟨i, hi, rfl⟩ := List.getElem_of_mem hx
  exact (tabGo_at (tabOk_go hok) i hi).1
theorem moves_self {T : List GTs} (hok : tabOk T = true) (hu : KeyU T) : movesOf T T = [] := by
  unfold movesOf
  rw [if_pos ⟨hok, hok⟩]
  have h1 : T.filter (fun (s : GTs) => decide (ofT T s ≠ s.addr)) = [] := List.filter_eq_nil_iff.2 fun s hs => by simp [ofT_mem hu hs rfl]
  have h2 : T.filter (fun (s : GTs) => decide (ofT T s = 0)) = [] := List.filter_eq_nil_iff.2 fun s hs => by
    have := tab_addr hok s hs
    rw [ofT_mem hu hs rfl]
    simp only [decide_eq_true_eq]; omega
  rw [h1, h2]; rfl
def mvOf (a : List GTs) (s : GTs) : GMv := ⟨s.name, s.object, s.addr, ofT a s⟩
def movedB (a : List GTs) (s : GTs) : Bool := decide (ofT a s ≠ s.addr)
/-- what moved stands in its order -/
theorem moves_at {b a : List GTs} (hb : tabOk b = true) (ha : tabOk a = true) {i : Nat} (hi : i < b.length) (hm : movedB a b[i] = true) : (movesOf b a)[((b.take i).filter (movedB a)).length]? = some (mvOf a b[i]) := by
  unfold movesOf
  rw [if_pos ⟨hb, ha⟩]
  have h1 : b.filter (fun (s : GTs) => decide (ofT a s ≠ s.addr)) = (b.take i).filter (movedB a) ++ b[i] :: (b.drop (i + 1)).filter (movedB a) := by
    have h2 : b = b.take i ++ b[i] :: b.drop (i + 1) := by rw [← List.drop_eq_getElem_cons hi, List.take_append_drop]
    have h3 : b.filter (movedB a) = (b.take i).filter (movedB a) ++ (b[i] :: b.drop (i + 1)).filter (movedB a) := by rw [← List.filter_append, ← h2]
    rw [List.filter_cons_of_pos hm] at h3
    exact h3
  rw [h1, List.map_append, List.append_assoc, List.getElem?_append_right (by simp), List.length_map, Nat.sub_self, List.map_cons]
  rfl
theorem movesOf_len {b a : List GTs} (hb : tabOk b = true) (ha : tabOk a = true) : (movesOf b a).length = (b.filter (movedB a)).length + (a.filter (fun (s : GTs) => decide (ofT b s = 0))).length := by
  unfold movesOf
  rw [if_pos ⟨hb, ha⟩, List.length_append, List.length_map, List.length_map]
  rfl
theorem keys_nodup {T : List GTs} (hu : KeyU T) : (T.map keyT).Nodup := by
  unfold List.Nodup
  rw [List.pairwise_map]
  exact hu
/-- those that came -/
theorem came_len {b a : List GTs} (hb : tabOk b = true) (ub : KeyU b) (ua : KeyU a) (hs : ∀ x ∈ b, ∃ y ∈ a, keyT y = keyT x) : (a.filter (fun (s : GTs) => decide (ofT b s = 0))).length + b.length = a.length := by
  have hmem : ∀ s, ofT b s = 0 ↔ keyT s ∉ b.map keyT := fun s => by
    constructor
    · intro h hk
      obtain ⟨x, hx, he⟩ := List.mem_map.1 hk
      have := tab_addr hb x hx
      rw [ofT_mem ub hx he] at h
      omega
    · intro h
      exact ofT_no fun x hx he => h (List.mem_map.2 ⟨x, hx, he⟩)
  have h1 : ((a.filter (fun (s : GTs) => decide (ofT b s = 0))).map keyT ++ b.map keyT).Perm (a.map keyT) := by
    refine (List.perm_ext_iff_of_nodup ?_ (keys_nodup ua)).2 fun k => ?_
    · refine List.nodup_append.2 ⟨(keys_nodup (List.Pairwise.filter _ ua)), keys_nodup ub, ?_⟩
      intro k hk k' hk' he
      subst he
      obtain ⟨x, hx, rfl⟩ := List.mem_map.1 hk
      have := (List.mem_filter.1 hx).2
      simp only [decide_eq_true_eq] at this
      exact (hmem x).1 this hk'
    · rw [List.mem_append]
      constructor
      · rintro (hk | hk)
        · obtain ⟨x, hx, rfl⟩ := List.mem_map.1 hk
          exact List.mem_map.2 ⟨x, (List.mem_filter.1 hx).1, rfl⟩
        · obtain ⟨x, hx, rfl⟩ := List.mem_map.1 hk
          obtain ⟨y, hy, he⟩ := hs x hx
          exact List.mem_map.2 ⟨y, hy, he⟩
      · intro hk
        obtain ⟨x, hx, rfl⟩ := List.mem_map.1 hk
        by_cases hb2 : keyT x ∈ b.map keyT
        · exact .inr hb2
        · exact .inl (List.mem_map.2 ⟨x, List.mem_filter.2 ⟨hx, decide_eq_true ((hmem x).2 hb2)⟩, rfl⟩)
  have h2 := h1.length_eq
  simpa using h2
/-- what is in the smaller image is in the larger one -/
theorem keys_sub {l : List GObj} {ps qs : List GP} {wh wh' : List GAddr} {sp sp' : List GSpan} {T U : List GTs} (h : layOf l ps = (wh, sp, 0)) (h' : layOf l qs = (wh', sp', 0)) (hT : TabOf l wh T) (hU : TabOf l wh' U) (hs : ∀ p ∈ ps, p ∈ qs) : ∀ x ∈ T, ∃ y ∈ U, keyT y = keyT x := by
  intro x hx
  have hl := laid_of h
  have hl' := laid_of h'
  obtain ⟨i, hi, hi2, rfl⟩ := tab_each h hT x hx
  obtain ⟨o, s, a1, a2, -, -, -, e1, p1, a4, a5, -⟩ := tsAt_of h hi2 hi
  obtain ⟨j, hj, hpj⟩ := List.getElem_of_mem (hs _ (List.getElem_mem hi2))
  have hj2 : j < wh'.length := by rw [hl'.len]; exact hj
  obtain ⟨o', s', b1, b2, -, -, -, e2, p2, b4, b5, -⟩ := tsAt_of h' hj hj2
  have hpe : (wh'[j].obj, wh'[j].sym) = (wh[i].obj, wh[i].sym) := by rw [p1, p2, hpj]
  simp only [Prod.mk.injEq] at hpe
  rw [hpe.1, a1] at b1
  obtain rfl := Option.some.inj b1
  rw [hpe.2, a2] at b2
  obtain rfl := Option.some.inj b2
  exact ⟨tsAt l wh'[j], hU.pm.mem_iff.2 (List.mem_map.2 ⟨_, List.getElem_mem hj2, rfl⟩), by rw [e1, e2]; rfl⟩
end Go.Proofs.YtdjgkmpjhpnkeaaGreatDoor
namespace Go.Proofs.YtdjgkmpjhpnkeaaGreatDoor
open Go.RowKit Go.Maps Go.WideMaps
set_option maxRecDepth 100000 in
set_option maxHeartbeats 4000000 in
theorem moves_guard (v : Value) (l : List GObj) (nm : ByteArray) (w : World) (h : ObjsAt w v l) (hn : nm.size ≤ 140737488355328) (hg : large13B l = true ∨ 1024 < nm.size) :
    Calls Tryz.prog 4 #[.string nm, v] w fun e w' => e = .returned (.bool true) ∧ Below w.heap.size w w' := by
  have HLG := Lib.hid (large13_any v l w h)
  obtain ⟨p, cap, rfl⟩ : ∃ (p : Option Addr) (cap : Nat), v = .slice p l.length cap := by obtain ⟨p, cap, b, o, rfl, _⟩ := h; exact ⟨p, cap, rfl⟩
  clear h
  by_cases hl : large13B l = true
  · rw [hl] at HLG
    clear hl hg
    go_enter Tryz.func4, Tryz.ntmps4
    go_wp2_with (first | (go_at_call 10; refine HLG.out.mono ?_; rintro e w1 ⟨rfl, hB1⟩) | (go_at_call 21; refine (alive34_any _).mono ?_; rintro e w2 ⟨rfl, hB2⟩))
    go_ret
    exact ⟨rfl, hB1.trans (hB2.mono hB1.size)⟩
  · have hl' : large13B l = false := by simpa using hl
    have hnm : 1024 < nm.size := by rcases hg with h1 | h1; exact absurd h1 hl; exact h1
    have hd : decide ((1024 : Int) < (nm.size : Int)) = true := by simp; omega
    have hd' : decide (1024 < nm.size) = true := by simp; omega
    rw [hl'] at HLG
    clear hl hl' hg
    go_enter Tryz.func4, Tryz.ntmps4
    go_wp2_with (first | (go_at_call 10; refine HLG.out.mono ?_; rintro e w1 ⟨rfl, hB1⟩) | (go_at_call 21; refine (alive34_any _).mono ?_; rintro e w2 ⟨rfl, hB2⟩))
    go_ret
    exact ⟨rfl, hB1.trans (hB2.mono hB1.size)⟩
/-- where a symbol of a table has come to, as far as it was looked at -/
def ToK (a : List GTs) (s : GTs) (k : Nat) (z : Int) : Prop := z = ofT a s ∨ (z = 0 ∧ ∀ j (hj : j < a.length), j < k → keyT a[j] ≠ keyT s)
theorem ToK.yes {a : List GTs} {s : GTs} {k : Nat} (hu : KeyU a) (h : k < a.length) (he : keyT a[k] = keyT s) : ToK a s (k + 1) a[k].addr := .inl (ofT_mem hu (List.getElem_mem h) he).symm
theorem ToK.no {a : List GTs} {s : GTs} {k : Nat} {z : Int} (h0 : ToK a s k z) (h : k < a.length) (he : keyT a[k] ≠ keyT s) : ToK a s (k + 1) z := by
  rcases h0 with h0 | ⟨h0, h1⟩
  · exact .inl h0
  · refine .inr ⟨h0, fun j hj hjk => ?_⟩
    rcases Nat.lt_succ_iff_lt_or_eq.1 hjk with h2 | h2
    · exact h1 j hj h2
    · subst h2; exact he
theorem ToK.done {a : List GTs} {s : GTs} {k : Nat} {z : Int} (hok : tabOk a = true) (hu : KeyU a) (h0 : ToK a s k z) (hk : ¬ k < a.length) (he : ∃ y ∈ a, keyT y = keyT s) : z = ofT a s ∧ 256 ≤ z := by
  obtain ⟨y, hy, hye⟩ := he
  have h1 := tab_addr hok y hy
  have h2 := ofT_mem hu hy hye
  rcases h0 with h0 | ⟨h0, h3⟩
  · exact ⟨h0, by omega⟩
  · obtain ⟨j, hj, rfl⟩ := List.getElem_of_mem hy
    exact absurd hye (h3 j hj (by omega))
def NamesApart (l : List GObj) (i : Nat) : Prop := ∀ a b (ha : a < l.length) (hb : b < l.length), a < b → b < i → l[a].name ≠ l[b].name
def NameNew (l : List GObj) (i k : Nat) : Prop := ∀ a (ha : a < l.length) (hi : i < l.length), a < k → l[a].name ≠ l[i].name
theorem NamesApart.step {l : List GObj} {i : Nat} (h : NamesApart l i) (hn : NameNew l i i) : NamesApart l (i + 1) := fun a b ha hb hab hbi => by
  rcases Nat.lt_succ_iff_lt_or_eq.1 hbi with h1 | h1
  · exact h a b ha hb hab h1
  · subst h1; exact hn a ha hb hab
theorem NameNew.step {l : List GObj} {i k : Nat} (h : NameNew l i k) (hk : k < l.length) (hi : i < l.length) (hne : l[i].name ≠ l[k].name) : NameNew l i (k + 1) := fun a ha hi' hak => by
  rcases Nat.lt_succ_iff_lt_or_eq.1 hak with h1 | h1
  · exact h a ha hi' h1
  · subst h1; exact fun e => hne e.symm
theorem spec_sub {l : List GObj} {nm : ByteArray} {p : PP} {K : List PP} (h : KeptYes l nm p K) : ∀ x ∈ K.map toG, x ∈ (allK l).map toG := fun x hx => by
  obtain ⟨y, hy, rfl⟩ := List.mem_map.1 hx
  exact List.mem_map.2 ⟨y, reach_all h.2.1 ((h.2.2.1.2 y).1 hy), rfl⟩
theorem mvrow_shape {w : World} {v : Value} {T : List GMv} (h : RowAt 4 MvR w v T) : ∃ (p : Option Addr) (c : Nat), v = .slice p T.length c := by
  obtain ⟨p, c, _, _, rfl, -⟩ := h
  exact ⟨p, c, rfl⟩
theorem mvnil_shape {w : World} {v : Value} (h : RowAt 4 MvR w v []) : ∃ (p : Option Addr) (c : Nat), v = .slice p 0 c := by
  obtain ⟨p, c, _, _, rfl, -⟩ := h
  exact ⟨p, c, rfl⟩
theorem moves_end {a b : List GTs} (ha : tabOk a = true) (hb : tabOk b = true) (ua : KeyU a) (ub : KeyU b) (hs : ∀ x ∈ b, ∃ y ∈ a, keyT y = keyT x) : ((movesOf b a).length : Int) - ((b.filter (movedB a)).length : Int) = (a.length : Int) - (b.length : Int) := by
  have h1 := movesOf_len hb ha
  have h2 := came_len hb ub ua hs
  omega
theorem moves_lt {b a : List GTs} (hb : tabOk b = true) (ha : tabOk a = true) {i : Nat} (hi : i < b.length) (hm : movedB a b[i] = true) : ∃ h : ((b.take i).filter (movedB a)).length < (movesOf b a).length, (movesOf b a)[((b.take i).filter (movedB a)).length] = mvOf a b[i] :=
  List.getElem?_eq_some_iff.1 (moves_at hb ha hi hm)
theorem moves_few {a b : List GTs} (hb : tabOk b = true) (ha : tabOk a = true) : (movesOf b a).length ≤ 2048 := by
  have h1 := movesOf_len hb ha
  have h2 := tab_len ha
  have h3 := tab_len hb
  have h4 := List.length_filter_le (movedB a) b
  have h5 := List.length_filter_le (fun (s : GTs) => decide (ofT b s = 0)) a
  omega
set_option maxRecDepth 100000 in
set_option maxHeartbeats 8000000 in
theorem moves_main (hsort : SortOk) (v : Value) (l : List GObj) (nm : ByteArray) (w : World) (h : ObjsAt w v l) (hnm : nm.size ≤ 1024) (hL : large13B l = false) :
    Calls Tryz.prog 4 #[.string nm, v] w fun e w' => e = .returned (.bool true) ∧ Below w.heap.size w w' := by
  have HSORT := Lib.hid hsort; clear hsort
  have HLG := Lib.hid (large13_any v l w h)
  rw [hL] at HLG
  have HB := Lib.hid (small_ofT h hL)
  have HO := Lib.hid h
  obtain ⟨p, cap, rfl⟩ : ∃ (p : Option Addr) (cap : Nat), v = .slice p l.length cap := by obtain ⟨p, cap, b, o, rfl, _⟩ := h; exact ⟨p, cap, rfl⟩
  have hmax : l.length ≤ 140737488355328 := by obtain ⟨_, _, _, _, _, _, h3, _⟩ := h; exact h3
  have hd : decide ((1024 : Int) < (nm.size : Int)) = false := by simp; omega
  have hd' : decide (1024 < nm.size) = false := by simp; omega
  clear h hL
  go_enter Tryz.func4, Tryz.ntmps4
  go_wp2_with fail
  refine HLG.out.mono ?_
  rintro e w1 ⟨rfl, hB1⟩
  have HB1 := Lib.hid hB1; clear hB1 HLG
  go_wp2_with fail
  go_loopw [5] (fun v5 wr => ∃ i : Nat, i ≤ l.length ∧ v5 = .int .i64 i ∧ NamesApart l i ∧ Below w1.heap.size w1 wr) (fun v5 _ => l.length - (intOf v5).toNat)
  case atStart => exact ⟨0, Nat.zero_le _, by go_num, fun a b _ _ _ hb => by omega, Below.refl _ _⟩
  case round =>
    obtain ⟨i, hi, rfl, hap, hbel⟩ := hrel
    have HAP := Lib.hid hap
    have HB0 : Hid (Below w.heap.size w wr) := HB1.out.trans (hbel.mono HB1.out.size)
    have HBX := Lib.hid hbel
    clear hap hbel
    by_cases hlt : i < l.length
    · go_wp2_with fail
      go_loopw [6] (fun v6 wq => ∃ k : Nat, k ≤ i ∧ v6 = .int .i64 k ∧ NameNew l i k ∧ Below wr.heap.size wr wq) (fun v6 _ => i - (intOf v6).toNat)
      case atStart => exact ⟨0, Nat.zero_le _, by go_num, fun a _ _ ha => by omega, Below.refl _ _⟩
      case round =>
        obtain ⟨k, hk, rfl, hnn, hbel⟩ := hrel
        have HNN := Lib.hid hnn
        have HBR := Lib.hid hbel
        clear hnn hbel
        rename_i wq
        by_cases hlk : k < i
        · have HOQ := HO.out.keep (HB0.out.trans (HBR.out.mono HB0.out.size))
          obtain ⟨_, _, bo, oo, heo, -, -, hpo, hco⟩ := HOQ
          cases heo
          cases hpo (by omega)
          have hlk2 : k < l.length := by omega
          obtain ⟨v1, i0, i1, -, -⟩ := hco i hlt
          obtain ⟨v2, k0, k1, -, -⟩ := hco k hlk2
          have HNX : Hid (l[i].name ≠ l[k].name → NameNew l i (k + 1)) := fun hne => HNN.out.step hlk2 hlt hne
          clear hco hpo
          generalize l[i].name = x1 at i1 HNX
          generalize l[k].name = x2 at k1 HNX
          by_cases he : x1 = x2
          · subst he
            clear HNX
            go_wp2_with fail
            go_quiet (fail)
            go_wp2_with fail
            refine (alive34_any _).mono ?_
            rintro e w9 ⟨rfl, hB9⟩
            go_wp2_with fail
            go_ret
            have hq := below_drewN (HB0.out.trans (HBR.out.mono HB0.out.size)) nq
            exact ⟨rfl, hq.trans (hB9.mono hq.size)⟩
          · have hb := beq_ne he
            have HN := Lib.hid (HNX.out he)
            clear HNX he
            go_wp2_with fail
            go_quiet (fail)
            go_wp2_with fail
            go_roundw
            case rel => exact ⟨k + 1, by omega, by go_num, HN.out, below_drewN HBR.out _⟩
            case measure => simp [intOf]; omega
        · have HN : Hid (NamesApart l (i + 1)) := HAP.out.step (by obtain rfl : k = i := by omega
                                                                   exact HNN.out)
          go_wp2_with fail
          go_roundw
          case rel => exact ⟨i + 1, by omega, by go_num, HN.out, HBX.out.trans (HBR.out.mono HBX.out.size)⟩
          case measure => simp [intOf]; omega
    · have HU : Hid (ObjU l) := fun a b ha hb hab => HAP.out a b ha hb hab (by omega)
      clear HAP HBX
      go_wp2_with fail
      clear hlt hi
      refine (full18_any HSORT.out _ l nm wr (HO.out.keep HB0.out) (by omega) HB.out).mono ?_
      rintro e w2 ⟨r, hfu, ve, vp, vs, va, rfl, hla, hB2⟩
      obtain ⟨x1, x2, x3, x4, x5, x6, x7, x8, rfl, rfl, rfl, rfl⟩ := hla.shape
      have HFU := Lib.hid hfu
      have HB2 : Hid (Below w.heap.size w w2) := HB0.out.trans (hB2.mono HB0.out.size)
      have HBX := Lib.hid (BoxT.new hla)
      obtain ⟨⟨⟨rp, re, rq, rc⟩, ren, rs, ra⟩, rn, rcd⟩ := r
      simp only [] at HBX HFU
      unfold linkV
      simp only []
      generalize hWa : (w2.alloc (.cells #[.int .u32 rp, .slice x1 re.length x2, .slice x3 rq.length x4, .bool rc, .int .u32 ren, .slice x5 rs.length x6, .slice x7 ra.length x8] 37)) = w3 at HBX
      have HB3 : Hid (Below w.heap.size w w3) := by rw [← hWa]; exact HB2.out.trans ((alloc_old w2 _).mono HB2.out.size)
      have HZ3 : Hid (w2.heap.size < w3.heap.size) := by rw [← hWa, Hid]; simp
      clear hla hB2 hfu HB0 HB1
      go_wp2_with fail
      try rw [hWa]
      clear hWa HB2
      generalize w2.heap.size = xb at HBX HZ3 ⊢
      refine (special18_any HSORT.out _ l nm w3 (HO.out.keep HB3.out) (by omega) HB.out).mono ?_
      rintro e w4 ⟨r, hsp, ve, vp, vs, va, rfl, hla, hB4⟩
      obtain ⟨y1, y2, y3, y4, y5, y6, y7, y8, rfl, rfl, rfl, rfl⟩ := hla.shape
      have HSP := Lib.hid hsp
      have HB4 : Hid (Below w.heap.size w w4) := HB3.out.trans (hB4.mono HB3.out.size)
      have HBY := Lib.hid (BoxT.new hla)
      obtain ⟨⟨⟨sp, se, sq, sc⟩, sen, ss, sa⟩, sn, scd⟩ := r
      simp only [] at HBY HSP
      unfold linkV
      simp only []
      generalize hWb : (w4.alloc (.cells #[.int .u32 sp, .slice y1 se.length y2, .slice y3 sq.length y4, .bool sc, .int .u32 sen, .slice y5 ss.length y6, .slice y7 sa.length y8] 37)) = w5 at HBY
      have hB45 : Below w4.heap.size w4 w5 := by rw [← hWb]; exact alloc_old w4 _
      have HB5 : Hid (Below w.heap.size w w5) := HB4.out.trans (hB45.mono HB4.out.size)
      have HZ5 : Hid (w4.heap.size < w5.heap.size) := by rw [← hWb, Hid]; simp
      have HBX5 := Lib.hid ((HBX.out.keep hB4).keep hB45)
      clear hla hB4 hB45 hsp HBX HZ3 HB3 HB4
      by_cases h0 : rcd = 0
      rotate_left
      · have h0b : (rcd != 0) = true := by simpa using h0
        go_wp2_with fail
        try rw [hWb]
        refine (alive34_any _).mono ?_
        rintro e w9 ⟨rfl, hB9⟩
        go_wp2
        go_ret
        exact ⟨rfl, HB5.out.trans (hB9.mono HB5.out.size)⟩
      subst h0
      by_cases h0 : scd = 0
      rotate_left
      · have h0b : (scd != 0) = true := by simpa using h0
        go_wp2_with fail
        try rw [hWb]
        refine (alive34_any _).mono ?_
        rintro e w9 ⟨rfl, hB9⟩
        go_wp2
        go_ret
        exact ⟨rfl, HB5.out.trans (hB9.mono HB5.out.size)⟩
      subst h0
      obtain ⟨hal, pp, K, hky, hre⟩ := fuZ HFU.out rfl
      obtain ⟨wh, sd, hlay, hadr⟩ := linkZ (l := l) (nm := nm) (m := pp) (ps := (allK l).map toG) (by rw [← hre])
      rw [← hre] at hadr
      simp only [] at hadr
      subst hadr
      obtain ⟨pp2, K2, hky2, hre2⟩ := spZ HSP.out rfl
      obtain ⟨wh2, sd2, hlay2, hadr2⟩ := linkZ (l := l) (nm := nm) (m := pp2) (ps := K2.map toG) (by rw [← hre2])
      rw [← hre2] at hadr2
      simp only [] at hadr2
      subst hadr2
      have HSUB := Lib.hid (spec_sub hky2)
      have HLAY := Lib.hid hlay
      have HLAY2 := Lib.hid hlay2
      have HAL : Hid (((allK l).map toG).length ≤ 1024) := by rw [Hid, List.length_map]; exact hal
      have HAL2 : Hid ((K2.map toG).length ≤ 1024) := by rw [Hid, List.length_map]; exact kept_len hky2
      have HTB := Lib.hid (table_any l _ _ sd _ _ _ _ _ (.slice p l.length cap) w5 hlay HAL.out (HO.out.keep HB5.out) HBX5.out.2 rfl)
      clear hal hky hre hlay HFU hky2 hre2 hlay2 HSP
      unfold linkV at HTB
      simp only [] at HTB
      obtain ⟨m0, m1, m2, m3, m4, m5, m6⟩ := boxT_sevens HBX5.out
      simp only [] at m0 m3 m4
      go_wp2_with fail
      try rw [hWb]
      clear hWb
      generalize w4.heap.size = yb at HBY HZ5 ⊢
      go_wp2_with fail
      refine HTB.out.mono ?_
      rintro e w6 ⟨Ta, tv, rfl, hta, hto, hB6⟩
      obtain ⟨pt, ct, rfl⟩ := tab_shape hta
      have HTA := Lib.hid hta
      have HTO := Lib.hid hto
      have HB6 : Hid (Below w.heap.size w w6) := HB5.out.trans (hB6.mono HB5.out.size)
      have HBY6 := Lib.hid (HBY.out.keep hB6)
      clear hta hto hB6 HBX5 HBY HB5 HZ5 HTB m0 m1 m2 m3 m4 m5 m6
      have HTB := Lib.hid (table_any l _ _ sd2 _ _ _ _ _ (.slice p l.length cap) w6 HLAY2.out HAL2.out (HO.out.keep HB6.out) HBY6.out.2 rfl)
      unfold linkV at HTB
      simp only [] at HTB
      obtain ⟨m0, m1, m2, m3, m4, m5, m6⟩ := boxT_sevens HBY6.out
      simp only [] at m0 m3 m4
      go_wp2_with fail
      refine HTB.out.mono ?_
      rintro e w7 ⟨Tb, uv, rfl, htb, htob, hB7⟩
      obtain ⟨pu, cu, rfl⟩ := tab_shape htb
      have HTA7 := Lib.hid (TabAt.keep' hB7 HTA.out)
      have HTB7 := Lib.hid htb
      have HB7 : Hid (Below w.heap.size w w7) := HB6.out.trans (hB7.mono HB6.out.size)
      have HUA := Lib.hid (tab_key HLAY.out HU.out HTO.out)
      have HUB := Lib.hid (tab_key HLAY2.out HU.out htob)
      have HOA := Lib.hid (tab_ok HLAY.out HTO.out HAL.out).1
      have HOB := Lib.hid (tab_ok HLAY2.out htob HAL2.out).1
      have HKS := Lib.hid (keys_sub HLAY2.out HLAY.out htob HTO.out HSUB.out)
      clear htb htob hB7 HTA HBY6 HB6 HTB HTO HLAY HLAY2 HAL HAL2 HU HSUB HO HB HSORT m0 m1 m2 m3 m4 m5 m6
      have HM := Lib.hid (whMoves_any _ _ Ta Ta w7 HTA7.out HTA7.out)
      rw [moves_self HOA.out HUA.out] at HM
      go_wp2_with fail
      refine HM.out.mono ?_
      rintro e w8 ⟨mv, rfl, hrow, hB8⟩
      obtain ⟨mp, mc, rfl⟩ := mvnil_shape hrow
      have HTA8 := Lib.hid (TabAt.keep' hB8 HTA7.out)
      have HTB8 := Lib.hid (TabAt.keep' hB8 HTB7.out)
      have HB8 : Hid (Below w.heap.size w w8) := HB7.out.trans (hB8.mono HB7.out.size)
      clear HM hrow hB8 HTA7 HTB7 HB7
      have HM := Lib.hid (whMoves_any _ _ Tb Tb w8 HTB8.out HTB8.out)
      rw [moves_self HOB.out HUB.out] at HM
      go_wp2_with fail
      refine HM.out.mono ?_
      rintro e w9 ⟨mv, rfl, hrow, hB9⟩
      obtain ⟨np, nc, rfl⟩ := mvnil_shape hrow
      have HTA9 := Lib.hid (TabAt.keep' hB9 HTA8.out)
      have HTB9 := Lib.hid (TabAt.keep' hB9 HTB8.out)
      have HB9 : Hid (Below w.heap.size w w9) := HB8.out.trans (hB9.mono HB8.out.size)
      clear HM hrow hB9 HTA8 HTB8 HB8
      have HM := Lib.hid (whMoves_any _ _ Tb Ta w9 HTB9.out HTA9.out)
      have HLT := Lib.hid (fun i (hi : i < Tb.length) (hm : movedB Ta Tb[i] = true) => moves_lt HOB.out HOA.out hi hm)
      have HEND := Lib.hid (moves_end HOA.out HOB.out HUA.out HUB.out HKS.out)
      have hmf := moves_few HOB.out HOA.out
      generalize movesOf Tb Ta = M at HM HLT HEND hmf
      go_wp2_with fail
      refine HM.out.mono ?_
      rintro e w10 ⟨mv, rfl, hrow, hB10⟩
      obtain ⟨qp, qc, rfl⟩ := mvrow_shape hrow
      have HMR := Lib.hid hrow
      have HTA10 := Lib.hid (TabAt.keep' hB10 HTA9.out)
      have HTB10 := Lib.hid (TabAt.keep' hB10 HTB9.out)
      have HB10 : Hid (Below w.heap.size w w10) := HB9.out.trans (hB10.mono HB9.out.size)
      have hla := tab_len HOA.out
      have hlb := tab_len HOB.out
      clear HM hrow hB10 HTA9 HTB9 HB9
      go_wp2_with fail
      go_loopw [18, 19] (fun v18 v19 wz => ∃ i : Nat, i ≤ Tb.length ∧ v19 = .int .i64 i ∧ v18 = .int .i64 (((Tb.take i).filter (movedB Ta)).length : Nat) ∧ Below w10.heap.size w10 wz) (fun _ v19 _ => Tb.length - (intOf v19).toNat)
      case atStart => exact ⟨0, Nat.zero_le _, by go_num, by go_num, Below.refl _ _⟩
      case round =>
        obtain ⟨wz, rfl⟩ : ∃ wz : World, wz = wr := ⟨_, rfl⟩
        obtain ⟨i, hi, rfl, rfl, hbel⟩ := hrel
        have HBZ := Lib.hid hbel
        clear hbel
        by_cases hlt : i < Tb.length
        · obtain ⟨_, _, bb, ob, heb, -, -, hpb, hcb⟩ := TabAt.keep' HBZ.out HTB10.out
          cases heb
          cases hpb (by omega)
          obtain ⟨g0, g1, g2, g3, -, -, -⟩ := hcb i hlt
          have HXM : Hid (Tb[i] ∈ Tb) := List.getElem_mem hlt
          have HKX := Lib.hid (HKS.out Tb[i] (List.getElem_mem hlt))
          have HLX := Lib.hid (HLT.out i hlt)
          have HFY : Hid (movedB Ta Tb[i] = true → (Tb.take (i + 1)).filter (movedB Ta) = (Tb.take i).filter (movedB Ta) ++ [Tb[i]]) := filter_yes hlt
          have HFN : Hid (movedB Ta Tb[i] = false → (Tb.take (i + 1)).filter (movedB Ta) = (Tb.take i).filter (movedB Ta)) := filter_no hlt
          have hfl := filter_len (f := movedB Ta) (l := Tb) (i := i)
          clear hcb hpb
          generalize Tb[i] = x at g1 g2 g3 HXM HKX HLX HFY HFN
          obtain ⟨xn, xo, xa, xz, xk⟩ := x
          simp only [] at g1 g2 g3
          go_wp2_with fail
          go_loopw [20, 21] (fun v20 v21 wy => ∃ (k : Nat) (z : Int), k ≤ Ta.length ∧ v20 = .int .u32 z ∧ v21 = .int .i64 k ∧ ToK Ta ⟨xn, xo, xa, xz, xk⟩ k z ∧ Below wz.heap.size wz wy) (fun _ v21 _ => Ta.length - (intOf v21).toNat)
          case atStart => exact ⟨0, 0, Nat.zero_le _, by go_num, by go_num, .inr ⟨rfl, fun j _ hj => by omega⟩, Below.refl _ _⟩
          case round =>
            obtain ⟨wy, rfl⟩ : ∃ wy : World, wy = wr := ⟨_, rfl⟩
            obtain ⟨k, z, hk, rfl, rfl, htk, hbel⟩ := hrel
            have HTK := Lib.hid htk
            have HBY := Lib.hid hbel
            clear htk hbel
            by_cases hlk : k < Ta.length
            · obtain ⟨_, _, ba, oa, hea, -, -, hpa, hca⟩ := TabAt.keep' (HBZ.out.trans (HBY.out.mono HBZ.out.size)) HTA10.out
              cases hea
              cases hpa (by omega)
              obtain ⟨a0, a1, a2, a3, -, -, -⟩ := hca k hlk
              have c1 := cell_keep HBY.out g0 g1
              have c2 := cell_keep HBY.out g0 g2
              have c0 := size_keep HBY.out g0
              have HYY := Lib.hid (fun (h : keyT Ta[k] = keyT ⟨xn, xo, xa, xz, xk⟩) => ToK.yes (s := ⟨xn, xo, xa, xz, xk⟩) HUA.out hlk h)
              have HYN := Lib.hid (fun (h : keyT Ta[k] ≠ keyT ⟨xn, xo, xa, xz, xk⟩) => HTK.out.no hlk h)
              clear hca hpa
              generalize Ta[k] = y at a1 a2 a3 HYY HYN
              obtain ⟨yn, yo, ya, yz, yk⟩ := y
              simp only [] at a1 a2 a3 HYY
              by_cases h1 : yn = xn
              case neg =>
                have hb := beq_ne h1
                have HN := Lib.hid (HYN.out (fun e => h1 (congrArg Prod.fst e)))
                clear HYY HYN h1
                go_wp2_with fail
                go_quiet (fail)
                go_wp2_with fail
                go_roundw
                case rel => exact ⟨k + 1, z, by omega, by go_num, by go_num, HN.out, below_drewN HBY.out _⟩
                case measure => simp [intOf]; omega
              subst h1
              by_cases h2 : yo = xo
              case neg =>
                have hb := beq_ne h2
                have HN := Lib.hid (HYN.out (fun e => h2 (congrArg Prod.snd e)))
                clear HYY HYN h2
                go_wp2_with fail
                go_quiet (fail)
                go_wp2_with fail
                go_roundw
                case rel => exact ⟨k + 1, z, by omega, by go_num, by go_num, HN.out, below_drewN HBY.out _⟩
                case measure => simp [intOf]; omega
              subst h2
              have HN := Lib.hid (HYY.out rfl)
              clear HYY HYN
              go_wp2_with fail
              go_quiet (fail)
              go_wp2_with fail
              go_roundw
              case rel => exact ⟨k + 1, ya, by omega, by go_num, by go_num, HN.out, below_drewN HBY.out _⟩
              case measure => simp [intOf]; omega
            · obtain ⟨hze, hzl⟩ := HTK.out.done HOA.out HUA.out hlk HKX.out
              have hz0 : (z == 0) = false := by simp; omega
              have c3 := cell_keep HBY.out g0 g3
              have c1 := cell_keep HBY.out g0 g1
              have c2 := cell_keep HBY.out g0 g2
              have c0 := size_keep HBY.out g0
              have HZE := Lib.hid hze; clear hze
              have HBQ : Hid (Below w10.heap.size w10 wy) := HBZ.out.trans (HBY.out.mono HBZ.out.size)
              clear g1 g2 g3 HTK
              by_cases hm : z = xa
              · have ht : (z == xa) = true := by simpa using hm
                have HF := Lib.hid (HFN.out (by unfold movedB; rw [← HZE.out]; simpa using hm))
                clear HFY HFN hm
                go_wp2_with fail
                go_roundw
                case rel => exact ⟨i + 1, by omega, by go_num, by rw [HF.out], HBQ.out⟩
                case measure => simp [intOf]; omega
              · have ht : (z == xa) = false := by simpa using hm
                have hmv : movedB Ta ⟨xn, xo, xa, xz, xk⟩ = true := by unfold movedB; rw [← HZE.out]; simpa using hm
                have HF := Lib.hid (HFY.out hmv)
                obtain ⟨hln, hle⟩ := HLX.out hmv
                have HFL : Hid (((Tb.take (i + 1)).filter (movedB Ta)).length = ((Tb.take i).filter (movedB Ta)).length + 1) := by rw [Hid, HF.out]; simp
                obtain ⟨_, _, bm, om, hem, -, -, hpm, hcm⟩ := RowAt.keep mvR_keeps HBQ.out HMR.out
                cases hem
                cases hpm (by omega)
                obtain ⟨m0, m1, m2, m3, m4⟩ := hcm _ hln
                rw [hle] at m1 m2 m3 m4
                simp only [mvOf] at m1 m2 m3 m4
                rw [← HZE.out] at m4
                clear hcm hpm hle HFY HFN hm hmv HF
                generalize ((Tb.take i).filter (movedB Ta)).length = n at *
                have d1 : decide ((M.length : Int) ≤ (n : Int)) = false := by simp; omega
                have d2 : decide (M.length ≤ n) = false := by simp; omega
                go_wp2_with fail
                go_quiet (fail)
                go_wp2_with fail
                go_roundw
                case rel => exact ⟨i + 1, by omega, by go_num, by rw [HFL.out]; go_num, below_drewN HBQ.out _⟩
                case measure => simp [intOf]; omega
        · have hti : Tb.take i = Tb := List.take_of_length_le (by omega)
          rw [hti]
          have hen := HEND.out
          have hfb := List.length_filter_le (movedB Ta) Tb
          generalize (Tb.filter (movedB Ta)).length = n at *
          have hE : ((M.length : Int) - (n : Int) == (Ta.length : Int) - (Tb.length : Int)) = true := by simpa using hen
          clear hti hen
          go_wp2_with fail
          refine (alive34_any _).mono ?_
          rintro e w9 ⟨rfl, hB9⟩
          go_wp2_with fail
          go_ret
          have hq := HB10.out.trans (HBZ.out.mono HB10.out.size)
          exact ⟨rfl, hq.trans (hB9.mono hq.size)⟩
theorem moves34_any (hsort : SortOk) (v : Value) (l : List GObj) (nm : ByteArray) (w : World) (h : ObjsAt w v l) (hn : nm.size ≤ 140737488355328) :
    Calls Tryz.prog 4 #[.string nm, v] w fun e w' => e = .returned (.bool true) ∧ Below w.heap.size w w' := by
  by_cases hg : large13B l = true ∨ 1024 < nm.size
  · exact moves_guard v l nm w h hn hg
  · have h1 : large13B l = false := by
      cases h1 : large13B l with
      | false => rfl
      | true => exact absurd (.inl h1) hg
    exact moves_main hsort v l nm w h (by omega) h1
end Go.Proofs.YtdjgkmpjhpnkeaaGreatDoor
