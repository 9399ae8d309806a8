/- The table of an image that was linked (layer 34), in plain words. No program in sight. slices.SortFunc at a row of symbols, by their addresses; slices.Equal at a row of addresses, twice. The walk of slices.Equal at one row of addresses, twice. Fields of a symbol as a value. append onto a row of one's own, as one step of a region that draws its order. No program in sight. The walks of the gatherer of manifests (demand). slices.Sort at a row of integers of any kind: SortU (the worked proofs at int64, turned to a kind K). -/
import Derived.Test.YtdjgkmpjhpnkeaaGreatDoorBd03
import Derived.Test.YtdjgkmpjhpnkeaaGreatDoorBd11
import Derived.Test.YtdjgkmpjhpnkeaaGreatDoorSortLay
import Derived.Test.YtdjgkmpjhpnkeaaGreatDoorBd04
import Derived.Sort.Grow
import Derived.Lib.Builder
import Derived.Deep.RegionHeld3
import Derived.Outline
import Derived.Lib.Hide
import Derived.Test.YtdjgkmpjhpnkeaaGreatDoorBd06
import Derived.WalkKit
import Derived.OwnWalk
import Derived.Maps.AppendAt
import Derived.Deep.RegionLawGrows
import Derived.Shelf.SlLaysM
import Derived.Sort.Walk0
import Derived.OwnWalkIn
import Derived.TacticsInMore
import Derived.RegionIn
import Derived.LoopNIn
import Derived.LoopIn
import Derived.Sort.CutIn
import Derived.Sort.QuietIn
import Derived.Sort.AtCallIn
import Derived.Shelf.RegionOpen
import Derived.Shelf.AbstractIn
namespace Go.Proofs.YtdjgkmpjhpnkeaaGreatDoor
def ts0 : GTs := ⟨emptyB, emptyB, 0, 0, 0⟩
/-- the symbol of a table that an address is told for -/
def tsAt (l : List GObj) (a : GAddr) : GTs :=
  match l[a.obj.toNat]? with
  | some o => (match o.syms[a.sym.toNat]? with | some s => ⟨s.name, o.name, a.at_, s.size, s.kind⟩ | none => ts0)
  | none => ts0
structure TabOf (l : List GObj) (wh : List GAddr) (T : List GTs) : Prop where
  pm : T.Perm (wh.map (tsAt l))
  up : T.Pairwise fun a b => ¬ b.addr < a.addr
theorem tsAt_of {l : List GObj} {ps : List GP} {wh : List GAddr} {sp : List GSpan} (h : layOf l ps = (wh, sp, 0)) {i : Nat} (hi : i < ps.length) (hi2 : i < wh.length) :
    ∃ o s, l[wh[i].obj.toNat]? = some o ∧ o.syms[wh[i].sym.toNat]? = some s ∧ symAt l (wh[i].obj, wh[i].sym) = some s ∧ mayP o = true ∧ symOkP s = true ∧ tsAt l wh[i] = ⟨s.name, o.name, wh[i].at_, s.size, s.kind⟩ ∧ (wh[i].obj, wh[i].sym) = ps[i] ∧ 0 ≤ wh[i].obj ∧ 0 ≤ wh[i].sym ∧ s.size = Zs l ps i := by
  obtain ⟨hm, -⟩ := layOf_zero h
  have hl := laid_of h
  have hma : mayAll l = true := by simp only [layMay, Bool.and_eq_true] at hm; exact hm.1
  obtain ⟨s, q1, q2, q3, -⟩ := may_each hm hi
  have hp := hl.pl i hi
  have hpa : pAt ps i = ps[i] := q2
  rw [aAt_get hi2, hpa] at hp
  have hpe : (wh[i].obj, wh[i].sym) = ps[i] := Prod.ext hp.1 hp.2
  obtain ⟨a, b, ha, hb, hab, hs⟩ := symAt_some q1
  rw [hab] at hpe
  have e1 : wh[i].obj = (a : Int) := congrArg Prod.fst hpe
  have e2 : wh[i].sym = (b : Int) := congrArg Prod.snd hpe
  have h1 : l[wh[i].obj.toNat]? = some l[a] := by rw [e1, Int.toNat_natCast]; exact List.getElem?_eq_getElem ha
  have h2 : l[a].syms[wh[i].sym.toNat]? = some s := by rw [e2, Int.toNat_natCast, List.getElem?_eq_getElem hb, hs]
  have hmp : mayP l[a] = true := by
    simp only [mayAll, Bool.and_eq_true, List.all_eq_true] at hma
    exact hma.2 _ (List.getElem_mem ha)
  refine ⟨l[a], s, h1, h2, ?_, hmp, may_symOk hma q1, ?_, ?_, by omega, by omega, q3.symm⟩
  · rw [hpe, ← hab]; exact q1
  · unfold tsAt; rw [h1]; simp only []; rw [h2]
  · rw [hpe, hab]
def ApartT (a b : GTs) : Prop := a.addr + a.size ≤ b.addr ∨ b.addr + b.size ≤ a.addr
theorem tab_apart {l : List GObj} {ps : List GP} {wh : List GAddr} {sp : List GSpan} (h : layOf l ps = (wh, sp, 0)) : (wh.map (tsAt l)).Pairwise ApartT := by
  have hl := laid_of h
  rw [List.pairwise_iff_getElem]
  intro i j hi hj hij
  have hi2 : i < wh.length := by simpa using hi
  have hj2 : j < wh.length := by simpa using hj
  have hi3 : i < ps.length := by rw [← hl.len]; exact hi2
  have hj3 : j < ps.length := by rw [← hl.len]; exact hj2
  obtain ⟨o, s, -, -, -, -, -, e1, -, -, -, z1⟩ := tsAt_of h hi3 hi2
  obtain ⟨o', s', -, -, -, -, -, e2, -, -, -, z2⟩ := tsAt_of h hj3 hj2
  have hd := hl.dj i j hi3 hj3 (by omega)
  rw [aAt_get hi2, aAt_get hj2] at hd
  simp only [List.getElem_map]
  rw [e1, e2]
  unfold ApartT
  simp only []
  rw [z1, z2]
  exact hd
theorem tabGo_of : ∀ (T : List GTs) (e : Int), (∀ s ∈ T, tsOk e s = true) → T.Pairwise (fun a b => a.addr + a.size ≤ b.addr) → tabGo e T = true
  | [], _, _, _ => rfl
  | s :: r, e, h, hp => by
    have hp' := List.pairwise_cons.1 hp
    rw [tabGo, h s List.mem_cons_self, Bool.true_and]
    refine tabGo_of r _ (fun x hx => ?_) hp'.2
    have h1 := h x (List.mem_cons_of_mem _ hx)
    have h2 := hp'.1 x hx
    simp only [tsOk, Bool.and_eq_true, decide_eq_true_eq] at h1 ⊢
    exact ⟨⟨⟨h1.1.1.1, h2⟩, h1.1.2⟩, h1.2⟩
/-- each symbol of a table -/
theorem tab_each {l : List GObj} {ps : List GP} {wh : List GAddr} {sp : List GSpan} {T : List GTs} (h : layOf l ps = (wh, sp, 0)) (hT : TabOf l wh T) : ∀ x ∈ T, ∃ i, ∃ hi : i < wh.length, i < ps.length ∧ x = tsAt l wh[i] := by
  intro x hx
  have hl := laid_of h
  obtain ⟨a, ha, rfl⟩ := List.mem_map.1 (hT.pm.mem_iff.1 hx)
  obtain ⟨i, hi, rfl⟩ := List.getElem_of_mem ha
  exact ⟨i, hi, by rw [← hl.len]; exact hi, rfl⟩
theorem ts_ok {l : List GObj} {ps : List GP} {wh : List GAddr} {sp : List GSpan} (h : layOf l ps = (wh, sp, 0)) {i : Nat} (hi : i < ps.length) (hi2 : i < wh.length) : tsOk 256 (tsAt l wh[i]) = true := by
  have hl := laid_of h
  obtain ⟨o, s, -, -, -, hmp, hsy, e, -, -, -, z⟩ := tsAt_of h hi hi2
  have hlo := hl.lo i hi
  rw [aAt_get hi2] at hlo
  rw [e]
  simp only [symOkP, sizedOk, sizedB, Bool.and_eq_true, Bool.or_eq_true, decide_eq_true_eq] at hsy
  simp only [mayP, Bool.and_eq_true] at hmp
  obtain ⟨⟨⟨⟨⟨⟨⟨s1, s2⟩, s3⟩, s4⟩, s5⟩, s6⟩, s7⟩, s8⟩ := hsy
  simp only [tsOk, Bool.and_eq_true, decide_eq_true_eq]
  refine ⟨⟨⟨⟨⟨⟨⟨⟨s1, hmp.1.2⟩, s3⟩, s4⟩, s5.1.1.1⟩, s5.1.1.2⟩, hlo.1⟩, ?_⟩, ?_⟩ <;> omega
theorem tab_up {l : List GObj} {ps : List GP} {wh : List GAddr} {sp : List GSpan} {T : List GTs} (h : layOf l ps = (wh, sp, 0)) (hT : TabOf l wh T) : T.Pairwise fun a b => a.addr + a.size ≤ b.addr := by
  have h1 : T.Pairwise ApartT := (hT.pm.pairwise_iff (fun {x y} hxy => hxy.symm)).2 (tab_apart h)
  have h2 := hT.up
  have hs : ∀ x ∈ T, 1 ≤ x.size := fun x hx => by
    obtain ⟨i, hi, hi2, rfl⟩ := tab_each h hT x hx
    have := ts_ok h hi2 hi
    simp only [tsOk, Bool.and_eq_true, decide_eq_true_eq] at this
    exact this.1.1.1.1.2
  rw [List.pairwise_iff_getElem] at h1 h2 ⊢
  intro i j hi hj hij
  have a1 := h1 i j hi hj hij
  have a2 := h2 i j hi hj hij
  have a3 := hs _ (List.getElem_mem hj)
  unfold ApartT at a1
  omega
theorem tab_ok {l : List GObj} {ps : List GP} {wh : List GAddr} {sp : List GSpan} {T : List GTs} (h : layOf l ps = (wh, sp, 0)) (hT : TabOf l wh T) (hlen : ps.length ≤ 1024) : tabOk T = true ∧ T.length = wh.length := by
  have hl := laid_of h
  have hn : T.length = wh.length := by rw [hT.pm.length_eq, List.length_map]
  refine ⟨?_, hn⟩
  unfold tabOk
  rw [tabGo_of T 256 (fun x hx => by
    obtain ⟨i, hi, hi2, rfl⟩ := tab_each h hT x hx
    exact ts_ok h hi2 hi) (tab_up h hT), Bool.true_and]
  exact decide_eq_true (by rw [hn, hl.len]; exact hlen)
/-- within a symbol -/
theorem find_in_tab {T : List GTs} (hok : tabOk T = true) {i : Nat} (hi : i < T.length) {a : Int} (h1 : T[i].addr ≤ a) (h2 : a < T[i].addr + T[i].size) : findT T a = (i, a - T[i].addr, true) :=
  findT_at hok hi h1 h2 fun j hj hc => by
    have := tabGo_lt (tabOk_go hok) j i hj hi
    omega
theorem hit_iff {l : List GObj} {ps : List GP} {wh : List GAddr} {sp : List GSpan} (h : layOf l ps = (wh, sp, 0)) {i : Nat} (hi : i < ps.length) (hi2 : i < wh.length) (a : Int) : atHit l a wh[i] = true ↔ (tsAt l wh[i]).addr ≤ a ∧ a < (tsAt l wh[i]).addr + (tsAt l wh[i]).size := by
  obtain ⟨o, s, -, -, hs, -, -, e, -⟩ := tsAt_of h hi hi2
  rw [e]
  unfold atHit
  rw [hs]
  simp only [Bool.and_eq_true, decide_eq_true_eq]
  omega
/-- an address of a symbol's bytes is found as that symbol's -/
theorem each_hit {l : List GObj} {ps : List GP} {wh : List GAddr} {sp : List GSpan} {T : List GTs} (h : layOf l ps = (wh, sp, 0)) (hT : TabOf l wh T) (hlen : ps.length ≤ 1024) {a : Int} {p : GP} {off : Int} (hat : layAt l wh a = (p, off, true)) :
    ∃ i o s, ∃ hi : i < T.length, findT T a = (i, off, true) ∧ l[p.1.toNat]? = some o ∧ o.syms[p.2.toNat]? = some s ∧ 0 ≤ p.1 ∧ 0 ≤ p.2 ∧ T[i].name = s.name ∧ T[i].object = o.name := by
  unfold layAt at hat
  cases hf : wh.find? (atHit l a) with
  | none => rw [hf] at hat; simp at hat
  | some x =>
    rw [hf] at hat
    simp only [Prod.mk.injEq] at hat
    obtain ⟨rfl, rfl, -⟩ := hat
    obtain ⟨k, hk, rfl⟩ := List.getElem_of_mem (List.mem_of_find?_eq_some hf)
    have hl := laid_of h
    have hk2 : k < ps.length := by rw [← hl.len]; exact hk
    have hh := (hit_iff h hk2 hk a).1 (List.find?_some hf)
    obtain ⟨o, s, h1, h2, -, -, -, e, -, h3, h4, -⟩ := tsAt_of h hk2 hk
    obtain ⟨i, hi, hti⟩ := List.getElem_of_mem (hT.pm.mem_iff.2 (List.mem_map.2 ⟨wh[k], List.getElem_mem hk, rfl⟩))
    rw [← hti] at hh
    have hfd := find_in_tab (tab_ok h hT hlen).1 hi hh.1 hh.2
    have ha : T[i].addr = wh[k].at_ := by rw [hti, e]
    refine ⟨i, o, s, hi, by rw [hfd, ha], h1, h2, h3, h4, by rw [hti, e], by rw [hti, e]⟩
/-- no other address is -/
theorem each_miss {l : List GObj} {ps : List GP} {wh : List GAddr} {sp : List GSpan} {T : List GTs} (h : layOf l ps = (wh, sp, 0)) (hT : TabOf l wh T) {a : Int} {p : GP} {off : Int} (hat : layAt l wh a = (p, off, false)) : findT T a = (0, 0, false) := by
  unfold layAt at hat
  cases hf : wh.find? (atHit l a) with
  | some x => rw [hf] at hat; simp at hat
  | none =>
    rw [List.find?_eq_none] at hf
    refine findT_none fun j hj hc => ?_
    obtain ⟨i, hi, hi2, e⟩ := tab_each h hT _ (List.getElem_mem hj)
    rw [e] at hc
    exact hf _ (List.getElem_mem hi) ((hit_iff h hi2 hi a).2 hc)
end Go.Proofs.YtdjgkmpjhpnkeaaGreatDoor
namespace Go.Proofs.YtdjgkmpjhpnkeaaGreatDoor
open Go.RowKit Go.Maps Go.Shelf Go.Sort Go.Lib
instance : Inhabited GTs := ⟨ts0⟩
def cmpA (a b : Int) : Int := if a < b then -1 else if b < a then 1 else 0
set_option maxHeartbeats 400000 in
theorem isNaN32_any (a : Int) (w : World) : Calls Tryz.prog 174 #[.int .u32 a] w fun e w' => e = .returned (.bool false) ∧ w = w' := by
  go_enter Tryz.func174, Tryz.ntmps174
  go_wp2
  go_ret
  exact ⟨rfl, rfl⟩
set_option maxHeartbeats 400000 in
theorem compare32_any (a b : Int) (w : World) : Calls Tryz.prog 79 #[.int .u32 a, .int .u32 b] w fun e w' => e = .returned (.int .i64 (cmpA a b)) ∧ w = w' := by
  have HN := Lib.hid isNaN32_any
  unfold cmpA
  by_cases h1 : a < b
  · rw [if_pos h1]
    go_enter Tryz.func79, Tryz.ntmps79
    go_wp2_with (go_at_call 174; refine (HN.out _ _).mono ?_; rintro e w' ⟨rfl, rfl⟩)
    go_ret
    exact ⟨rfl, rfl⟩
  · rw [if_neg h1]
    by_cases h2 : b < a
    · rw [if_pos h2]
      go_enter Tryz.func79, Tryz.ntmps79
      go_wp2_with (go_at_call 174; refine (HN.out _ _).mono ?_; rintro e w' ⟨rfl, rfl⟩)
      go_ret
      exact ⟨rfl, rfl⟩
    · rw [if_neg h2]
      go_enter Tryz.func79, Tryz.ntmps79
      go_wp2_with (go_at_call 174; refine (HN.out _ _).mono ?_; rintro e w' ⟨rfl, rfl⟩)
      go_ret
      exact ⟨rfl, rfl⟩
def cmpTs (x y : GTs) : Int := cmpA x.addr y.addr
theorem cmpA_lt (a b : Int) : cmpA a b < 0 ↔ a < b := by
  unfold cmpA
  by_cases h1 : a < b
  · simp [h1]
  · by_cases h2 : b < a <;> simp [h1, h2]
theorem lt_cmpTs (x y : GTs) : Go.Proofs.ltOf cmpTs x y = decide (x.addr < y.addr) := by
  unfold Go.Proofs.ltOf cmpTs
  simp only [cmpA_lt]
theorem swoTs : SWO (Go.Proofs.ltOf cmpTs) where
  irrefl x := by rw [lt_cmpTs]; simp
  trans x y z h1 h2 := by rw [lt_cmpTs, decide_eq_true_eq] at *; omega
  ntrans x y z h1 h2 := by rw [lt_cmpTs, decide_eq_false_iff_not] at *; omega
theorem grow_two (w : World) (a b : Obj) : (w.alloc a).alloc b = grow (w.drewN 0) #[a, b] := by
  have h : (grow w #[a]).alloc b = grow (grow w #[a]) #[b] := by rw [alloc_eq_grow]
  rw [alloc_eq_grow w a, h, grow_grow]; rfl
set_option maxHeartbeats 400000 in
theorem orderTs_any (x y : GTs) (w : World) : Calls Tryz.prog 78 #[.agg (tsCells x).toArray, .agg (tsCells y).toArray] w fun e w' => e = .returned (.int .i64 (cmpTs x y)) ∧ ∃ q os', w' = grow (w.drewN q) os' := by
  have HC := Lib.hid compare32_any
  obtain ⟨x1, x2, x3, x4, x5⟩ := x
  obtain ⟨y1, y2, y3, y4, y5⟩ := y
  unfold cmpTs tsCells
  simp only []
  go_enter Tryz.func78, Tryz.ntmps78
  go_wp2_with fail
  refine (HC.out _ _ _).mono ?_
  rintro e w2 ⟨rfl, rfl⟩
  go_wp2
  go_ret
  exact ⟨rfl, 0, _, grow_two w _ _⟩
theorem orderTs_lays (blk off size : Nat) (w : World) : Go.Proofs.CmpLays Tryz.prog 78 #[] tsCells 5 cmpTs blk off size w := fun _ _ _ _ x y => orderTs_any x y _
theorem flat5_get : ∀ (l : List GTs) (t : Nat), t < l.length * 5 → (l.flatMap tsCells)[t]? = some ((tsCells (l.toArray[t / 5]!))[t % 5]!)
  | x :: r, 0, _ => by simp [tsCells]
  | x :: r, 1, _ => by simp [tsCells]
  | x :: r, 2, _ => by simp [tsCells]
  | x :: r, 3, _ => by simp [tsCells]
  | x :: r, 4, _ => by simp [tsCells]
  | x :: r, t + 5, h => by
    have ih := flat5_get r t (by simp at h; omega)
    have e1 : (t + 5) / 5 = t / 5 + 1 := by omega
    have e2 : (t + 5) % 5 = t % 5 := by omega
    rw [e1, e2, List.flatMap_cons, show tsCells x = [.string x.name, .string x.object, .int .u32 x.addr, .int .u32 x.size, .int .u8 x.kind] from rfl]
    simp only [List.cons_append, List.nil_append, List.getElem?_cons_succ]
    rw [ih]
    congr 3
    simp [Array.getElem!_eq_getD, Array.getD]
  | [], t, h => by simp at h
theorem flatS_get (l : List GTs) (t : Nat) (h : t < l.length * 5) : (l.flatMap tsCells)[t]? = some ((flatK tsCells 5 l.toArray)[t]!) := by
  rw [flat5_get l t h, get_flatK tsCells 5 l.toArray t (by simpa using h)]
/-- a row of symbols of one's own -/
def SRow (base : Nat) (w : World) (v : Value) (l : List GTs) : Prop := w.ownsRow base 56 5 v l.length (l.flatMap tsCells)
theorem cellsS_len (l : List GTs) : (l.flatMap tsCells).length = l.length * 5 := by
  induction l with
  | nil => rfl
  | cons p r ih => simp only [List.flatMap_cons, List.length_append, List.length_cons, tsCells_len] at *; omega
theorem holdsS_of_row {base : Nat} {w : World} {l : List GTs} {g cap : Nat} (h : SRow base w (.slice (some ⟨g, 0, none⟩) l.length cap) l) : HoldsK tsCells 5 w g 0 l.toArray := by
  intro j hj
  rw [size_flatK] at hj
  have hj' : j < l.length * 5 := by simpa using hj
  have h1 := flatS_get _ j hj'
  have h2 := World.ownsRow.cells h (g := g) rfl j _ h1
  rw [add_zero_eq] at h2
  refine ⟨by rw [Nat.zero_add]; exact h2, ?_⟩
  rcases h.2 with ⟨h3, -⟩ | ⟨g', cap', cur, h3, -, h4, -⟩
  · cases h3
  · cases h3; exact Lib.frozen_of_heap h4 _
theorem sortedS_block {w : World} {g n : Nat} {D : Array GTs} {os : Array Obj} {cur : Array Value} {e : TypeId} (h : w.heap[g]? = some (.cells cur e (0, 0))) :
    (sortWorldK tsCells 5 w g 0 n D os).heap[g]? = some (.cells (putCells id 0 (flatK tsCells 5 D) cur) e (0, 0)) := by
  have hlt := (Array.getElem?_eq_some_iff.1 h).1
  unfold sortWorldK putRowK putRow grow mapBlock Sort.ahead
  rw [Array.getElem?_append_left (by simpa using hlt), Array.getElem?_modify]
  simp only [if_true]
  rw [h]
  rfl
theorem sortedS_other {w : World} {g n : Nat} {D : Array GTs} {os : Array Obj} {k : Nat} (hk : k < w.heap.size) (hne : k ≠ g) : (sortWorldK tsCells 5 w g 0 n D os).heap[k]? = w.heap[k]? := by
  unfold sortWorldK putRowK putRow grow mapBlock Sort.ahead
  rw [Array.getElem?_append_left (by simpa using hk), Array.getElem?_modify, if_neg (fun e => hne e.symm)]
theorem sortedS_size {w : World} {g n : Nat} {D : Array GTs} {os : Array Obj} : w.heap.size ≤ (sortWorldK tsCells 5 w g 0 n D os).heap.size := by
  unfold sortWorldK putRowK putRow grow mapBlock Sort.ahead
  simp
theorem rowS_put {base : Nat} {w : World} {l l' : List GTs} {g cap n : Nat} {os : Array Obj} (h : SRow base w (.slice (some ⟨g, 0, none⟩) l.length cap) l) (hl : l'.length = l.length) :
    SRow base (sortWorldK tsCells 5 w g 0 n l'.toArray os) (.slice (some ⟨g, 0, none⟩) l.length cap) l' := by
  refine ⟨cellsS_len l', ?_⟩
  rcases h.2 with ⟨h3, -⟩ | ⟨g', cap', cur, h3, hb, h4, h5, h6, h7, h8⟩
  · cases h3
  · cases h3
    refine .inr ⟨g, cap, putCells id 0 (flatK tsCells 5 l'.toArray) cur, by rw [hl], hb, sortedS_block h4, by omega, h6, by simp [putCells, h7], ?_⟩
    apply List.ext_getElem?
    intro t
    by_cases ht : t < l'.length * 5
    · have h9 := flatS_get l' t ht
      rw [h9, List.getElem?_take, if_pos ht]
      have hc : t < cur.size := by omega
      simp [putCells, hc]
      omega
    · rw [List.getElem?_eq_none (by simp; omega), List.getElem?_eq_none (by rw [cellsS_len]; omega)]
theorem sortedS_pw {l' : List GTs} {n : Nat} (hn : n = l'.length) (h : SortedIn (Go.Proofs.ltOf cmpTs) 0 n l'.toArray) : l'.Pairwise (fun a b => ¬ b.addr < a.addr) := by
  rw [List.pairwise_iff_getElem]
  intro i j hi hj hij hp
  have := h i j (by omega) hij (by omega)
  rw [lt_cmpTs, decide_eq_false_iff_not] at this
  apply this
  have e1 : l'.toArray[i]! = l'[i] := by simp [hi]
  have e2 : l'.toArray[j]! = l'[j] := by simp [hj]
  rw [e1, e2]
  exact hp
theorem orderTs_enters (args : Array Value) (w : World) : (callFunc 78 args).run Tryz.prog w = .ok (.enter 78 args) w := enters_of Tryz.func78 (by kernel_rfl) rfl args w
set_option maxRecDepth 100000 in
theorem sortS_any (base : Nat) (v : Value) (l : List GTs) (w : World) (h : SRow base w v l) (hl : l.length ≤ 100000) :
    Calls Tryz.prog 77 #[v, .func (.func 78) #[] #[]] w fun e w' => e = .returned (.tuple #[]) ∧ ∃ l', l'.Perm l ∧ l'.Pairwise (fun a b => ¬ b.addr < a.addr) ∧ SRow base w' v l' ∧ KB (fun k => v.ownBlock = some k) w w' := by
  by_cases h0 : l.length = 0
  · obtain ⟨p, c, rfl⟩ := own_shape h
    obtain rfl : l = [] := List.eq_nil_of_length_eq_zero h0
    have hcon := Go.Proofs.AnyF.slices_SortFunc_none Tryz.sortSyms p c (.func (.func 78) #[] #[]) w
    change Calls Tryz.prog 77 _ _ _ at hcon
    refine hcon.mono ?_
    rintro e w' ⟨rfl, rfl⟩
    exact ⟨rfl, [], .refl _, List.Pairwise.nil, h, KB.refl _ _⟩
  · obtain ⟨g, cap, rfl, hbg, hgl⟩ := World.ownsRow.form h (by omega)
    have hsz : l.toArray.size = l.length := by simp
    have hcon := Go.Proofs.AnyQ.slices_SortFunc Tryz.sortSyms 5 Tryz.isAgg56 Tryz.sizeOf56 tsCells (fun _ => rfl) (fun x v hv => tsCells_one (l := [x]) v (by simpa using hv)) cmpTs swoTs 78 #[] g 0 cap l.toArray w orderTs_enters (orderTs_lays g 0 _ w) (holdsS_of_row h) hgl (by rw [hsz]; omega)
    change Calls Tryz.prog 77 _ _ _ at hcon
    rw [hsz] at hcon
    refine hcon.mono ?_
    rintro e w' ⟨rfl, d', n, os, hp, hs, rfl⟩
    have hpp : d'.toList.Perm l := by
      have h3 := hp.2.2
      have hz := hp.1
      rw [hsz] at hz
      rw [Array.extract_eq_self_of_le (by omega), Array.extract_eq_self_of_le (by rw [hsz]; omega)] at h3
      exact h3
    obtain ⟨dl, rfl⟩ : ∃ dl : List GTs, d' = dl.toArray := ⟨d'.toList, by simp⟩
    simp only [] at hpp
    refine ⟨rfl, dl, hpp, sortedS_pw hpp.length_eq.symm hs, rowS_put h hpp.length_eq, ⟨rfl, rfl, rfl, sortedS_size, fun k hk hne => sortedS_other hk fun e => hne (by rw [e]; rfl)⟩⟩
end Go.Proofs.YtdjgkmpjhpnkeaaGreatDoor
namespace Go.Proofs.YtdjgkmpjhpnkeaaGreatDoor
open Go.RowKit Go.Maps
set_option maxHeartbeats 1000000 in
theorem equalA_any (v u : Value) (wh : List GAddr) (w : World) (h : RowAt 3 AddrR w v wh) (h' : RowAt 3 AddrR w u wh) :
    Calls Tryz.prog 76 #[v, u] w fun e w' => e = .returned (.bool true) ∧ Below w.heap.size w w' := by
  obtain ⟨p1, c1, b1, o1, rfl, -, hm1, hp1, hc1⟩ := h
  obtain ⟨p2, c2, b2, o2, rfl, -, -, hp2, hc2⟩ := h'
  have HC1 := Lib.hid hc1; clear hc1
  have HC2 := Lib.hid hc2; clear hc2
  have HP1 := Lib.hid hp1; clear hp1
  have HP2 := Lib.hid hp2; clear hp2
  go_enter Tryz.func76, Tryz.ntmps76
  go_wp2
  go_loopw [13] (fun v5 wr => ∃ k : Nat, v5 = .int .i64 k ∧ k ≤ wh.length ∧ Below w.heap.size w wr) (fun v5 _ => wh.length - (intOf v5).toNat)
  case atStart => exact ⟨0, by go_num, Nat.zero_le _, Below.refl _ _⟩
  case round =>
    obtain ⟨k, rfl, hk, hB⟩ := hrel
    have HB := Lib.hid hB; clear hB
    by_cases hlt : k < wh.length
    · obtain rfl := HP1.out (by omega)
      obtain rfl := HP2.out (by omega)
      obtain ⟨g0, g1, g2, g3, -⟩ := addrR_keeps _ _ _ _ _ HB.out (HC1.out k hlt)
      obtain ⟨f0, f1, f2, f3, -⟩ := addrR_keeps _ _ _ _ _ HB.out (HC2.out k hlt)
      generalize wh[k] = x at g1 g2 g3 f1 f2 f3
      obtain ⟨x1, x2, x3⟩ := x
      simp only [] at g1 g2 g3 f1 f2 f3
      go_wp2
      go_region
      all_goals
        go_wp2_with fail
        go_roundw
        case rel => exact ⟨k + 1, by go_num, by omega, HB.out.drew⟩
        case measure => simp [intOf]; omega
    · go_wp2
      go_ret
      exact ⟨rfl, HB.out⟩
end Go.Proofs.YtdjgkmpjhpnkeaaGreatDoor
namespace Go.Proofs.YtdjgkmpjhpnkeaaGreatDoor
open Go.RowKit
theorem field_name (n y : ByteArray) (a b c : Int) (vr vn : Value) (w : World) : (Instr.field 72 (.agg #[.string n, .int .u8 a, .int .u8 b, .int .u32 c, .string y, vr, vn]) 0).run Tryz.prog w = .ok (.string n) w := by
  simp [Instr.field, asAgg, run_underlying Tryz.underlying72, part, go_sem]
theorem field_kind (n y : ByteArray) (a b c : Int) (vr vn : Value) (w : World) : (Instr.field 72 (.agg #[.string n, .int .u8 a, .int .u8 b, .int .u32 c, .string y, vr, vn]) 2).run Tryz.prog w = .ok (.int .u8 b) w := by
  simp [Instr.field, asAgg, run_underlying Tryz.underlying72, part, go_sem]
theorem field_notes (n y : ByteArray) (a b c : Int) (vr vn : Value) (w : World) : (Instr.field 72 (.agg #[.string n, .int .u8 a, .int .u8 b, .int .u32 c, .string y, vr, vn]) 6).run Tryz.prog w = .ok vn w := by
  simp [Instr.field, asAgg, run_underlying Tryz.underlying72, part, go_sem]
end Go.Proofs.YtdjgkmpjhpnkeaaGreatDoor
namespace Go.Proofs.YtdjgkmpjhpnkeaaGreatDoor
open Go.RowKit
/-- append onto a row of one's own, as one step of a region that draws -/
theorem step_append_own_at {P : Program} {ops : Array Oper} {o : Oper} {a : Act} {w : World} {K : Act → World → Prop} {Q : Exit → Act → World → Prop} {E : Prop}
    (hg : o.guard = none) (s x : Operand) (t : TypeId) (hop : o.op = Op.call { callee := Callee.builtin Builtin.append, args := #[s, x], argTypes := #[t, t] })
    (base : Nat) (e : TypeId) (i : TypeInfo) (z : Value) (size bytes : Nat) (h1 : P.underlying t = some (.slice e)) (h2 : P.info? e = some i) (h3 : i.zero = some z) (h4 : i.size = size) (h5 : i.bytes = bytes) (h6 : z.cells.size = size) (h7 : 0 < size)
    (v : Value) (n : Nat) (xs : List Value) (hs : a.eval s = v) (hown : w.ownsRow base e size v n xs)
    (ad : Addr) (m c : Nat) (news : List Value) (hx : a.eval x = .slice (some ad) m c) (hn : news.length = m * size) (hc : ∀ j u, news[j]? = some u → w.cell? (ad.add j) = some u) (h1c : ∀ u ∈ news, u.oneCell' = true)
    (b1 : n + m ≤ maxLen) (b2 : (n + m) * bytes ≤ 140737488355328) (hbase : base ≤ w.heap.size)
    (hK : ∀ v' w', w'.ownsRow base e size v' (n + m) (xs ++ news) → w.grownBy w' v.ownBlock → (v'.ownBlock = v.ownBlock ∨ v'.ownBlock = some w.heap.size) → K (a.put o.dst v') w') :
    if Region.wanted o (yielded ops a.tmps) = true then Oper.wp P o a w K Q else E := by
  have hw : Region.wanted o (yielded ops a.tmps) = true := by simp [Region.wanted, hg]
  rw [if_pos hw]
  obtain ⟨v', w', hrun, r1, r2, r3, r4⟩ := run_append_own_at (P := P) w base t o.type e i z size bytes h1 h2 h3 h4 h5 h6 h7 v n xs hown ad m c news hn hc h1c b1 b2 hbase
  unfold Oper.wp
  simp [execOp, hop, resolve, invoke, builtin, hs, hx, hrun, Result.andThen]
  exact hK v' w' r1 r2 r4
theorem run_call_go {P : Program} {w : World} {f : FuncId} {fn : Func} (hf : P.funcs[f]? = some fn) (hn : (fn.name == "runtime.NumGoroutine") = false) (hb : fn.body.isNone = false) (args : Array Value) :
    (callFunc f args).run P w = .ok (.enter f args) w := by
  have hn' : ¬ fn.name = "runtime.NumGoroutine" := by simpa using hn
  cases hbb : fn.body with
  | none => rw [hbb] at hb; cases hb
  | some c => simp [callFunc, go_sem, hf, hn', hbb]
/-- a call of a Go function, as one step of a region that draws -/
theorem step_call {P : Program} {ops : Array Oper} {o : Oper} {a : Act} {w : World} {K : Act → World → Prop} {Q : Exit → Act → World → Prop} {E : Prop}
    (hg : o.guard = none) (f : FuncId) (xs : Array Operand) (ats : Array TypeId) (hop : o.op = Op.call { callee := Callee.value (Operand.func f), args := xs, argTypes := ats })
    {fn : Func} (hf : P.funcs[f]? = some fn) (hn : (fn.name == "runtime.NumGoroutine") = false) (hb : fn.body.isNone = false)
    (vs : Array Value) (hv : xs.map a.eval = vs) {Post : Ending → World → Prop} (hC : Calls P f vs w Post) (hK : ∀ e w', Post e w' → ∃ v, e = .returned v ∧ K (a.put o.dst v) w') :
    if Region.wanted o (yielded ops a.tmps) = true then Oper.wp P o a w K Q else E := by
  have hw : Region.wanted o (yielded ops a.tmps) = true := by simp [Region.wanted, hg]
  rw [if_pos hw]
  obtain ⟨dst, op, ty, pos, after, guard⟩ := o
  simp only at hg hop
  subst hg; subst hop; subst hv
  unfold Oper.wp
  rw [execOp_call_go]
  have e : (#[] ++ xs.map a.eval ++ #[] : Array Value) = xs.map a.eval := by simp
  rw [e, run_call_go hf hn hb, Oper.upon_enter]
  refine Calls.mono hC fun e w' hp => ?_
  obtain ⟨v, rfl, hk⟩ := hK e w' hp
  exact hk
end Go.Proofs.YtdjgkmpjhpnkeaaGreatDoor
namespace Go.Proofs.YtdjgkmpjhpnkeaaGreatDoor
open Go.RowKit Go.Maps
def gatCells (g : Gat) (ve v : Value) : List Value := .int .u32 g.pages :: ve :: v :: .bool g.cons :: g.blocks.map (.int .u32)
structure GatSt (base gb : Nat) (g : Gat) (w : World) : Prop where
  bx : ∃ v, w.heap[gb]? = some (.cells (gatCells g (.slice none 0 0) v).toArray 254 (0, 0)) ∧ w.ownsRow base 60 1 v g.ports.length (g.ports.map (.int .u16))
  gle : base ≤ gb
theorem gatCells_block {g : Gat} {ve v : Value} {j : Nat} (h : j < g.blocks.length) : (gatCells g ve v).toArray[4 + j]? = some (.int .u32 g.blocks[j]) := by
  simp [gatCells, show 4 + j = j + 1 + 1 + 1 + 1 by omega, h]
theorem info_u16 : (Tryz.prog.info? 60).map (fun i => (i.zero, i.size, i.bytes)) = some (some (.int .u16 0), 1, 2) := by kernel_rfl
theorem one_news {w : World} {g : Nat} {a : Value} (h0 : w.cell? ⟨g, 0, none⟩ = some a) : ∀ j u, [a][j]? = some u → w.cell? ((⟨g, 0, none⟩ : Addr).add j) = some u := by
  intro j u hu
  match j, hu with
  | 0, hu => simp at hu; subst hu; simpa [Addr.add] using h0
theorem one_one' {n : Int} : ∀ u ∈ [Value.int .u16 n], u.oneCell' = true := by
  intro u hu
  simp at hu; subst hu; rfl
theorem GatSt.lt {base gb : Nat} {g : Gat} {w : World} (h : GatSt base gb g w) : gb < w.heap.size := by
  obtain ⟨v, hb, -⟩ := h.bx; exact (Array.getElem?_eq_some_iff.1 hb).1
theorem GatSt.below {base gb : Nat} {g : Gat} {w w' : World} (h : GatSt base gb g w) (hb : Below w.heap.size w w') : GatSt base gb g w' := by
  obtain ⟨v, h1, h2⟩ := h.bx
  exact ⟨⟨v, (hb.block _ h.lt).trans h1, own_congr h2 fun k hk => hb.block k (h2.lt k hk).2⟩, h.gle⟩
theorem GatSt.put {base gb : Nat} {g g' : Gat} {w : World} (h : GatSt base gb g w) (i : Nat) (u : Value) (hc : ∀ ve v, (gatCells g ve v).set i u = gatCells g' ve v) (hp : g'.ports = g.ports) : GatSt base gb g' (w.setCell ⟨gb, i, none⟩ u) := by
  obtain ⟨v, h1, h2⟩ := h.bx
  refine ⟨⟨v, ?_, ?_⟩, h.gle⟩
  · rw [heap_setCell_same _ _ _ _ _ _ h1, ← hc]
    simp
  · rw [hp]
    exact own_congr h2 fun k hk => Below.heap_setCell _ _ _ _ (fun e => own_ne_box h2 h1 (by decide) (hk.trans (congrArg some e)))
theorem below_put {base gb i : Nat} {w : World} {u : Value} {o : Obj} (h : base ≤ gb) (hb : gb < w.heap.size) : Below base w ((w.setCell ⟨gb, i, none⟩ u).alloc o) :=
  ((Below.refl base w).setCell (by exact h) u).trans ((alloc_old _ o).mono (by simp; omega))
set_option maxHeartbeats 1000000 in
set_option maxRecDepth 100000 in
theorem gnote_any (base gb : Nat) (g : Gat) (x : GNote) (w : World) (h : GatSt base gb g w) (hg : GatOk g) (hx : noteOk x = true) (h0 : 0 ≤ x.n) (hl : g.ports.length ≤ 100000) :
    Calls Tryz.prog 155 #[.pointer (some ⟨gb, 0, none⟩), .agg #[.int .u8 x.kind, .int .u32 x.n, .int .u32 x.m]] w fun e w' =>
      e = .returned (.tuple #[]) ∧ GatSt base gb (gatNote g x) w' ∧ Below base w w' := by
  obtain ⟨v, hb, ho⟩ := h.bx
  have hgl := h.gle
  have hlt : gb < w.heap.size := (Array.getElem?_eq_some_iff.1 hb).1
  obtain ⟨pv, cv, rfl⟩ := own_shape ho
  have c0 : w.cell? ⟨gb, 0, none⟩ = some (.int .u32 g.pages) := Lib.cell_of_heap hb 0
  have c2 : w.cell? ⟨gb, 2, none⟩ = some (.slice pv g.ports.length cv) := Lib.cell_of_heap hb 2
  have c3 : w.cell? ⟨gb, 3, none⟩ = some (.bool g.cons) := Lib.cell_of_heap hb 3
  have fz : ∀ j, w.frozen? ⟨gb, j, none⟩ = false := fun j => Lib.frozen_of_heap hb _
  have HB := Lib.hid hb; clear hb
  have HO := Lib.hid ho; clear ho
  have HG := Lib.hid hg; clear hg
  obtain ⟨k, n, m⟩ := x
  rcases noteOk_kinds hx with ⟨e, h1, h2⟩ | ⟨e, h1, h2, h3⟩ | ⟨e, h1, h2, h3⟩ | ⟨e, h1, h2⟩
  · simp only [] at e h1 h2 h0 ⊢
    subst e
    go_enter Tryz.func155, Tryz.ntmps155
    go_wp2
    go_region
    all_goals go_wp2_with fail
    go_end0
    have hst : GatSt base gb (gatNote g ⟨1, n, m⟩) (w.setCell ⟨gb, 0, none⟩ (.int .u32 (max g.pages n))) := h.put 0 _ (fun ve v => by simp [gatCells, gatNote]) (by simp [gatNote])
    exact ⟨rfl, (hst.below (alloc_old _ _)).below (Below.refl _ _).drew, (below_put hgl hlt).drew⟩
  · simp only [] at e h1 h2 h3 h0 ⊢
    subst e
    obtain ⟨n, rfl⟩ : ∃ k : Nat, n = k := ⟨n.toNat, by omega⟩
    have hn : n < g.blocks.length := by rw [HG.out.n]; omega
    have c4 : w.cell? ⟨gb, 4 + n, none⟩ = some (.int .u32 g.blocks[n]) := (Lib.cell_of_heap HB.out (4 + n)).trans (gatCells_block hn)
    have hset : (gatNote g ⟨2, n, m⟩) = { g with blocks := g.blocks.set n (max g.blocks[n] m) } := by
      simp [gatNote, hn]
    have HSET := Lib.hid hset; clear hset
    go_enter Tryz.func155, Tryz.ntmps155
    go_wp2
    go_region
    all_goals go_wp2_with fail
    go_end0
    have hst : GatSt base gb (gatNote g ⟨2, n, m⟩) (w.setCell ⟨gb, 4 + n, none⟩ (.int .u32 (max g.blocks[n] m))) := by
      rw [HSET.out]
      exact h.put (4 + n) _ (fun ve v => by simp [gatCells, show 4 + n = n + 1 + 1 + 1 + 1 by omega]) rfl
    exact ⟨rfl, (hst.below (alloc_old _ _)).below (Below.refl _ _).drew, (below_put hgl hlt).drew⟩
  · simp only [] at e h1 h2 h3 h0 ⊢
    subst e
    obtain rfl := h3
    obtain ⟨i16, s0, s1, s2, s3⟩ := info_parts info_u16
    have HI := Lib.hid (And.intro s0 (And.intro s1 (And.intro s2 s3)))
    clear s0 s1 s2 s3
    have hcv : IntKind.u16.wrap n = n := by rw [IntKind.wrap_u16]; omega
    go_enter Tryz.func155, Tryz.ntmps155
    go_wp2
    have hB0 := alloc_old w (.cells #[.int .u8 3, .int .u32 n, .int .u32 0] 219)
    have b1 : (w.alloc (.cells #[.int .u8 3, .int .u32 n, .int .u32 0] 219)).cell? ⟨w.heap.size, 1, none⟩ = some (.int .u32 n) := by simp [go_sem]
    have hz : (w.alloc (.cells #[.int .u8 3, .int .u32 n, .int .u32 0] 219)).heap.size = w.heap.size + 1 := by simp
    have HS := Lib.hid (h.below hB0); clear h
    generalize w.alloc (.cells #[.int .u8 3, .int .u32 n, .int .u32 0] 219) = wb at *
    obtain ⟨v9, hb9, ho9⟩ := HS.out.bx
    obtain rfl : v9 = .slice pv g.ports.length cv := by
      have e1 : wb.cell? ⟨gb, 2, none⟩ = some v9 := Lib.cell_of_heap hb9 2
      have e2 : wb.cell? ⟨gb, 2, none⟩ = some (.slice pv g.ports.length cv) := cell_keep hB0 hlt c2
      rw [e1] at e2; exact Option.some.inj e2
    have HB0 : Hid (Below w.heap.size w wb) := hB0; clear hB0
    have HB9 := Lib.hid hb9
    have f2 : wb.frozen? ⟨gb, 2, none⟩ = false := Lib.frozen_of_heap hb9 _
    have d2 : wb.cell? ⟨gb, 2, none⟩ = some (.slice pv g.ports.length cv) := Lib.cell_of_heap hb9 2
    have hlt9 : gb < wb.heap.size := by omega
    have HOWN : Hid ((wb.alloc (.cells #[.int .u16 n] 60)).drew.ownsRow base 60 1 (.slice pv g.ports.length cv) g.ports.length (g.ports.map (.int .u16))) := (ho9.alloc _).drew
    clear ho9 hb9 c0 c2 c3 HO HB
    go_region_law ((refine step_append_own_at rfl (.tmp 45) (.tmp 49) 29 rfl base 60 i16 _ 1 2 Tryz.underlying29 HI.out.1 HI.out.2.1 HI.out.2.2.1 HI.out.2.2.2 rfl (by decide) (.slice pv g.ports.length cv) g.ports.length (g.ports.map (.int .u16)) (by simp [Act.eval]) HOWN.out ⟨wb.heap.size, 0, none⟩ 1 1 [.int .u16 n] (by simp [Act.eval]) rfl (one_news (by simp [go_sem])) one_one' (by unfold maxLen; omega) (by omega) (by simp; omega) ?_; intro v' w5 hown hgrow hv; obtain ⟨pw, cw, rfl⟩ := own_shape hown; have HGR := Lib.hid (And.intro hown (And.intro hgrow hv)); have hb5 : w5.heap[gb]? = some (.cells (gatCells g (.slice none 0 0) (.slice pv g.ports.length cv)).toArray 254 (0, 0)) := (hgrow.block gb (by simp; omega) (fun e => own_ne_box HOWN.out ((Below.heap_alloc wb _ gb hlt9).trans HB9.out) (by decide) e.symm)).trans ((Below.heap_alloc wb _ gb hlt9).trans HB9.out); have e1 : w5.cell? ⟨gb, 2, none⟩ = some (.slice pv g.ports.length cv) := Lib.cell_of_heap hb5 2; have e2 : w5.frozen? ⟨gb, 2, none⟩ = false := Lib.frozen_of_heap hb5 _; have HB5 := Lib.hid hb5; clear hown hgrow hv hb5))
    all_goals
      go_wp2_with fail
      go_end0
      have hle : base ≤ wb.heap.size := by omega
      refine ⟨rfl, ⟨⟨.slice pw (g.ports.length + 1) cw, ?_, ?_⟩, hgl⟩, ?_⟩
      · rw [heap_setCell_same _ _ _ _ _ _ HB5.out]
        simp [gatCells, gatNote]
      · have hw := own_congr (w' := w5.setCell ⟨gb, 2, none⟩ (.slice pw (g.ports.length + 1) cw)) HGR.out.1 fun k hk => Below.heap_setCell _ _ _ _ (fun e => own_ne_box HGR.out.1 HB5.out (by decide) (hk.trans (congrArg some e)))
        simpa [gatNote] using hw
      · exact ((((HB0.out.mono (by omega)).alloc hle _).drew).grown HGR.out.2.1 (by simp; omega) (fun q e => (World.ownsRow.lt HOWN.out q e).1)).setCell (by exact hgl) _
  · simp only [] at e h1 h2 h0 ⊢
    subst e
    go_enter Tryz.func155, Tryz.ntmps155
    go_wp2
    go_end0
    have hst : GatSt base gb (gatNote g ⟨4, n, m⟩) (w.setCell ⟨gb, 3, none⟩ (.bool true)) := h.put 3 _ (fun ve v => by simp [gatCells, gatNote]) (by simp [gatNote])
    exact ⟨rfl, hst.below (alloc_old _ _), below_put hgl hlt⟩
end Go.Proofs.YtdjgkmpjhpnkeaaGreatDoor
namespace Go.Proofs.YtdjgkmpjhpnkeaaGreatDoor
open Go.Shelf Go.Sort Go.RowKit
variable {P : Program} {ρ : Ren} {K : IntKind}
structure LaysU (K : IntKind) (P : Program) (ρ : Ren) : Prop where
  mixed : P.follows .mixedOrders = true
  f5 : Bears P (ρ.f 5) (SlBodyM.n5 ρ)
  f7 : Bears P (ρ.f 7) (SlBodyM.n7 ρ)
  f8 : P.funcs[ρ.f 8]? = some (SlBodyM.n8 ρ)
  f10 : Bears P (ρ.f 10) (SlBodyM.n10 ρ)
  f11 : Bears P (ρ.f 11) (SlBodyM.n11 ρ)
  f12 : Bears P (ρ.f 12) (SlBodyM.n12 ρ)
  f13 : Bears P (ρ.f 13) (SlBodyM.n13 ρ)
  f14 : Bears P (ρ.f 14) (SlBodyM.n14 ρ)
  f15 : Bears P (ρ.f 15) (SlBodyM.n15 ρ)
  f16 : Bears P (ρ.f 16) (SlBodyM.n16 ρ)
  f17 : Bears P (ρ.f 17) (SlBodyM.n17 ρ)
  f18 : Bears P (ρ.f 18) (SlBodyM.n18 ρ)
  f19 : P.funcs[ρ.f 19]? = some (SlBodyM.n19 ρ)
  f20 : P.funcs[ρ.f 20]? = some (SlBodyM.n20 ρ)
  f30 : Bears P (ρ.f 30) (SlBodyM.n30 ρ)
  f31 : P.funcs[ρ.f 31]? = some (SlBodyM.n31 ρ)
  f32 : P.funcs[ρ.f 32]? = some (SlBodyM.n32 ρ)
  f33 : Bears P (ρ.f 33) (SlBodyM.n33 ρ)
  f34 : Bears P (ρ.f 34) (SlBodyM.n34 ρ)
  f35 : Bears P (ρ.f 35) (SlBodyM.n35 ρ)
  f40 : Bears P (ρ.f 40) (SlBodyM.n40 ρ)
  t0 : P.underlying (ρ.t 0) = some (TypeDesc.tuple #[])
  a0 : ∀ w, (isAgg (ρ.t 0)).run P w = .ok false w
  z0 : ∀ w, (Go.sizeOf (ρ.t 0)).run P w = .ok 1 w
  v0 : ∀ w, (zeroValue (ρ.t 0)).run P w = .ok (Value.tuple #[]) w
  t3 : P.underlying (ρ.t 3) = some (TypeDesc.int IntKind.i64)
  a3 : ∀ w, (isAgg (ρ.t 3)).run P w = .ok false w
  z3 : ∀ w, (Go.sizeOf (ρ.t 3)).run P w = .ok 1 w
  v3 : ∀ w, (zeroValue (ρ.t 3)).run P w = .ok (Value.int IntKind.i64 0) w
  t4 : P.underlying (ρ.t 4) = some (TypeDesc.bool)
  a4 : ∀ w, (isAgg (ρ.t 4)).run P w = .ok false w
  z4 : ∀ w, (Go.sizeOf (ρ.t 4)).run P w = .ok 1 w
  v4 : ∀ w, (zeroValue (ρ.t 4)).run P w = .ok (Value.bool false) w
  t5 : P.underlying (ρ.t 5) = some (TypeDesc.int IntKind.u8)
  a5 : ∀ w, (isAgg (ρ.t 5)).run P w = .ok false w
  z5 : ∀ w, (Go.sizeOf (ρ.t 5)).run P w = .ok 1 w
  v5 : ∀ w, (zeroValue (ρ.t 5)).run P w = .ok (Value.int IntKind.u8 0) w
  t9 : P.underlying (ρ.t 9) = some (TypeDesc.string)
  a9 : ∀ w, (isAgg (ρ.t 9)).run P w = .ok false w
  z9 : ∀ w, (Go.sizeOf (ρ.t 9)).run P w = .ok 1 w
  v9 : ∀ w, (zeroValue (ρ.t 9)).run P w = .ok (Value.string { data := #[] }) w
  t22 : P.underlying (ρ.t 22) = some (TypeDesc.slice (ρ.t 25))
  a22 : ∀ w, (isAgg (ρ.t 22)).run P w = .ok false w
  z22 : ∀ w, (Go.sizeOf (ρ.t 22)).run P w = .ok 1 w
  v22 : ∀ w, (zeroValue (ρ.t 22)).run P w = .ok (Value.slice none 0 0) w
  t23 : P.underlying (ρ.t 23) = some (TypeDesc.slice (ρ.t 25))
  a23 : ∀ w, (isAgg (ρ.t 23)).run P w = .ok false w
  z23 : ∀ w, (Go.sizeOf (ρ.t 23)).run P w = .ok 1 w
  v23 : ∀ w, (zeroValue (ρ.t 23)).run P w = .ok (Value.slice none 0 0) w
  t25 : P.underlying (ρ.t 25) = some (TypeDesc.int K)
  a25 : ∀ w, (isAgg (ρ.t 25)).run P w = .ok false w
  z25 : ∀ w, (Go.sizeOf (ρ.t 25)).run P w = .ok 1 w
  v25 : ∀ w, (zeroValue (ρ.t 25)).run P w = .ok (Value.int K 0) w
  t32 : P.underlying (ρ.t 32) = some (TypeDesc.int IntKind.u64)
  a32 : ∀ w, (isAgg (ρ.t 32)).run P w = .ok false w
  z32 : ∀ w, (Go.sizeOf (ρ.t 32)).run P w = .ok 1 w
  v32 : ∀ w, (zeroValue (ρ.t 32)).run P w = .ok (Value.int IntKind.u64 0) w
  t35 : P.underlying (ρ.t 35) = some (TypeDesc.int IntKind.i64)
  a35 : ∀ w, (isAgg (ρ.t 35)).run P w = .ok false w
  z35 : ∀ w, (Go.sizeOf (ρ.t 35)).run P w = .ok 1 w
  v35 : ∀ w, (zeroValue (ρ.t 35)).run P w = .ok (Value.int IntKind.i64 0) w
  t36 : P.underlying (ρ.t 36) = some (TypeDesc.tuple #[ρ.t 3, ρ.t 35])
  a36 : ∀ w, (isAgg (ρ.t 36)).run P w = .ok false w
  z36 : ∀ w, (Go.sizeOf (ρ.t 36)).run P w = .ok 1 w
  v36 : ∀ w, (zeroValue (ρ.t 36)).run P w = .ok (Value.tuple #[Value.int IntKind.i64 0, Value.int IntKind.i64 0]) w
  t41 : P.underlying (ρ.t 41) = some (TypeDesc.tuple #[ρ.t 3, ρ.t 4])
  a41 : ∀ w, (isAgg (ρ.t 41)).run P w = .ok false w
  z41 : ∀ w, (Go.sizeOf (ρ.t 41)).run P w = .ok 1 w
  v41 : ∀ w, (zeroValue (ρ.t 41)).run P w = .ok (Value.tuple #[Value.int IntKind.i64 0, Value.bool false]) w
  t44 : P.underlying (ρ.t 44) = some (TypeDesc.int IntKind.u32)
  a44 : ∀ w, (isAgg (ρ.t 44)).run P w = .ok false w
  z44 : ∀ w, (Go.sizeOf (ρ.t 44)).run P w = .ok 1 w
  v44 : ∀ w, (zeroValue (ρ.t 44)).run P w = .ok (Value.int IntKind.u32 0) w
  t46 : P.underlying (ρ.t 46) = some (TypeDesc.int IntKind.u64)
  a46 : ∀ w, (isAgg (ρ.t 46)).run P w = .ok false w
  z46 : ∀ w, (Go.sizeOf (ρ.t 46)).run P w = .ok 1 w
  v46 : ∀ w, (zeroValue (ρ.t 46)).run P w = .ok (Value.int IntKind.u64 0) w
  t53 : P.underlying (ρ.t 53) = some (TypeDesc.int IntKind.u64)
  a53 : ∀ w, (isAgg (ρ.t 53)).run P w = .ok false w
  z53 : ∀ w, (Go.sizeOf (ρ.t 53)).run P w = .ok 1 w
  v53 : ∀ w, (zeroValue (ρ.t 53)).run P w = .ok (Value.int IntKind.u64 0) w
  t57 : P.underlying (ρ.t 57) = some (TypeDesc.pointer (ρ.t 3))
  a57 : ∀ w, (isAgg (ρ.t 57)).run P w = .ok false w
  z57 : ∀ w, (Go.sizeOf (ρ.t 57)).run P w = .ok 1 w
  v57 : ∀ w, (zeroValue (ρ.t 57)).run P w = .ok (Value.pointer none) w
  t63 : P.underlying (ρ.t 63) = some (TypeDesc.pointer (ρ.t 53))
  a63 : ∀ w, (isAgg (ρ.t 63)).run P w = .ok false w
  z63 : ∀ w, (Go.sizeOf (ρ.t 63)).run P w = .ok 1 w
  v63 : ∀ w, (zeroValue (ρ.t 63)).run P w = .ok (Value.pointer none) w
  t64 : P.underlying (ρ.t 64) = some (TypeDesc.tuple #[ρ.t 3, ρ.t 3])
  a64 : ∀ w, (isAgg (ρ.t 64)).run P w = .ok false w
  z64 : ∀ w, (Go.sizeOf (ρ.t 64)).run P w = .ok 1 w
  v64 : ∀ w, (zeroValue (ρ.t 64)).run P w = .ok (Value.tuple #[Value.int IntKind.i64 0, Value.int IntKind.i64 0]) w
set_option maxHeartbeats 1000000 in
theorem AnyU.cmp_isNaN_intIn (Ly : LaysU K P ρ) (D : Nat) (x : Int) (w : World) : CallsIn (Fence.list [ρ.f 5, ρ.f 7, ρ.f 8, ρ.f 10, ρ.f 11, ρ.f 12, ρ.f 13, ρ.f 14, ρ.f 15, ρ.f 16, ρ.f 17, ρ.f 18, ρ.f 20, ρ.f 30, ρ.f 31, ρ.f 32, ρ.f 33, ρ.f 34, ρ.f 35, ρ.f 40] (some D)) 0 P (ρ.f 35) #[.int K x] w fun e w' => e = .returned (.bool false) ∧ w' = w := by
  have mixed := Ly.mixed
  have t4 := Ly.t4; have a4 := Ly.a4; have z4 := Ly.z4; have v4 := Ly.v4; have t25 := Ly.t25; have a25 := Ly.a25; have z25 := Ly.z25; have v25 := Ly.v25
  obtain ⟨_, _, FG⟩ := Ly.f35
  gi_enter FG, SlBodyM.n35_ntmps ρ
  gi_wp2
  go_ret
  exact ⟨by simp, rfl⟩

set_option maxHeartbeats 1000000 in
theorem AnyU.cmp_Less_intIn (Ly : LaysU K P ρ) (D : Nat) (x y : Int) (w : World) : CallsIn (Fence.list [ρ.f 5, ρ.f 7, ρ.f 8, ρ.f 10, ρ.f 11, ρ.f 12, ρ.f 13, ρ.f 14, ρ.f 15, ρ.f 16, ρ.f 17, ρ.f 18, ρ.f 20, ρ.f 30, ρ.f 31, ρ.f 32, ρ.f 33, ρ.f 34, ρ.f 35, ρ.f 40] (some D)) 1 P (ρ.f 16) #[.int K x, .int K y] w fun e w' => e = .returned (.bool (Sort.ltInt x y)) ∧ w' = w := by
  have mixed := Ly.mixed
  have t4 := Ly.t4; have a4 := Ly.a4; have z4 := Ly.z4; have v4 := Ly.v4; have t25 := Ly.t25; have a25 := Ly.a25; have z25 := Ly.z25; have v25 := Ly.v25
  have e215 : ∀ args w, (callFunc (ρ.f 35) args).run P w = .ok (.enter (ρ.f 35) args) w := Ly.f35.enters rfl
  obtain ⟨_, _, FG⟩ := Ly.f16
  gi_enter FG, SlBodyM.n16_ntmps ρ
  gi_wp2_with (gi_at_fn (ρ.f 35); refine (AnyU.cmp_isNaN_intIn { Ly with } D _ _).mono ?_; rintro e w' ⟨rfl, rfl⟩)
  go_ret
  exact ⟨rfl, rfl⟩
end Go.Proofs.YtdjgkmpjhpnkeaaGreatDoor
