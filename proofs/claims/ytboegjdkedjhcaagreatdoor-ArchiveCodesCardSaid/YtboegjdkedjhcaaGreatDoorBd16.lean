/- Is there a symbol at a place, and what a symbol refers to, in plain Lean. No program in sight. Rows of places that a call makes, and rows of places as they are read. What a search of reach keeps. What slices.SortFunc does with a row of places. The walk of lay.up. A search under way: plain steps of it. A way back through a search, in plain Lean. No program in sight. The chapter's example of what is needed, in plain Lean. No program in sight. slices.SortFunc at a row of places, by the order of reach. -/
import Derived.Test.YtboegjdkedjhcaaGreatDoorBd02
import Derived.Test.YtboegjdkedjhcaaGreatDoorRows
import Derived.Test.YtboegjdkedjhcaaGreatDoorBd03
import Derived.Maps.AppendAt
import Derived.Test.YtboegjdkedjhcaaGreatDoorBd14
import Derived.Test.YtboegjdkedjhcaaGreatDoorBd04
import Derived.Test.YtboegjdkedjhcaaGreatDoorBd13
import Derived.Lib.Hide
import Derived.Test.YtboegjdkedjhcaaGreatDoorProg
import Derived.Laws.BitsAllLaws
import Derived.KernelRfl
import Derived.Test.YtboegjdkedjhcaaGreatDoorSortLay
import Derived.Test.YtboegjdkedjhcaaGreatDoorBd15
import Derived.Lib.Builder
namespace Go.Proofs.YtboegjdkedjhcaaGreatDoor
/-- is there a symbol at a place? -/
def hasR (l : List GObj) (a b : Int) : Bool := decide (0 ≤ a) && decide (0 ≤ b) && (match l[a.toNat]? with | some o => decide (b.toNat < o.syms.length) | none => false)
theorem hasR_no0 {l : List GObj} {a b : Int} (h : a < 0 ∨ (l.length : Int) ≤ a ∨ b < 0) : hasR l a b = false := by
  unfold hasR
  rcases h with h | h | h
  · simp [show ¬ 0 ≤ a by omega]
  · rw [List.getElem?_eq_none (by omega)]; simp
  · simp [show ¬ 0 ≤ b by omega]
theorem hasR_at {l : List GObj} {a b : Nat} (h : a < l.length) : hasR l a b = decide (b < l[a].syms.length) := by
  unfold hasR
  simp [List.getElem?_eq_getElem h]
def refsV (c : ByteArray × Int) (l : List GObj) (a b : Int) : List (Nat × Nat) × ByteArray × Int := if c.2 ≠ 0 then ([], c.1, c.2) else if hasR l a b then refsGo l a [] (relsAt l a.toNat b.toNat) else ([], emptyB, 2)
theorem hasR_yes {l : List GObj} {a b : Int} (h : hasR l a b = true) : ∃ (an bn : Nat) (ha : an < l.length), a = an ∧ b = bn ∧ bn < l[an].syms.length := by
  by_cases h1 : a < 0 ∨ (l.length : Int) ≤ a ∨ b < 0
  · rw [hasR_no0 h1] at h; simp at h
  · obtain ⟨an, rfl⟩ := Int.eq_ofNat_of_zero_le (show 0 ≤ a by omega)
    obtain ⟨bn, rfl⟩ := Int.eq_ofNat_of_zero_le (show 0 ≤ b by omega)
    have ha : an < l.length := by omega
    rw [hasR_at ha] at h
    exact ⟨an, bn, ha, rfl, rfl, by simpa using h⟩
end Go.Proofs.YtboegjdkedjhcaaGreatDoor
namespace Go.Proofs.YtboegjdkedjhcaaGreatDoor
open Go.RowKit Go.Maps Go.WideMaps
def placeCells (ps : List (Nat × Nat)) : List Value := ps.flatMap fun p => [.int .i64 p.1, .int .i64 p.2]
def PRow (base : Nat) (w : World) (v : Value) (ps : List (Nat × Nat)) : Prop := w.ownsRow base 185 2 v ps.length (placeCells ps)
theorem PRow.keep {base : Nat} {w w' : World} {v : Value} {ps : List (Nat × Nat)} (hb : Below w.heap.size w w') (h : PRow base w v ps) : PRow base w' v ps := ownsRow_below hb h
theorem PRow.nil (base : Nat) (w : World) : PRow base w (.slice none 0 0) [] := World.ownsRow_nil w _ _ _
theorem placeCells_snoc (ps : List (Nat × Nat)) (a b : Nat) : placeCells (ps ++ [(a, b)]) = placeCells ps ++ [.int .i64 a, .int .i64 b] := by simp [placeCells]
theorem PRow.snoc {base : Nat} {w : World} {v : Value} {ps : List (Nat × Nat)} {a b : Nat} (h : w.ownsRow base 185 2 v (ps.length + 1) (placeCells ps ++ [.int .i64 a, .int .i64 b])) : PRow base w v (ps ++ [(a, b)]) := by
  unfold PRow
  rw [placeCells_snoc, List.length_append]
  exact h
def PlaceR (w : World) (b o : Nat) (p : Nat × Nat) : Prop := b < w.heap.size ∧ w.cell? ⟨b, o, none⟩ = some (.int .i64 p.1) ∧ w.cell? ⟨b, o + 1, none⟩ = some (.int .i64 p.2)
theorem placeR_keeps : Keeps PlaceR := fun _ _ _ _ _ hb ⟨h0, h1, h2⟩ => ⟨size_keep hb h0, cell_keep hb h0 h1, cell_keep hb h0 h2⟩
theorem add_zero_eq (g j : Nat) : (⟨g, 0, none⟩ : Addr).add j = ⟨g, j, none⟩ := by
  unfold Addr.add
  by_cases h : j = 0 <;> simp [h]
theorem placeCells_get : ∀ (ps : List (Nat × Nat)) (i : Nat) (h : i < ps.length), (placeCells ps)[i * 2]? = some (.int .i64 (ps[i].1 : Nat)) ∧ (placeCells ps)[i * 2 + 1]? = some (.int .i64 (ps[i].2 : Nat))
  | p :: r, 0, _ => by simp [placeCells]
  | p :: r, i + 1, h => by
    have := placeCells_get r i (by simpa using h)
    have e : placeCells (p :: r) = .int .i64 p.1 :: .int .i64 p.2 :: placeCells r := by simp [placeCells]
    rw [e, show (i + 1) * 2 = i * 2 + 1 + 1 by omega, show i * 2 + 1 + 1 + 1 = (i * 2 + 1) + 1 + 1 by omega]
    simp only [List.getElem?_cons_succ, List.getElem_cons_succ]
    exact this
  | [], i, h => by simp at h
theorem placeRow_at {base : Nat} {w : World} {g cap : Nat} {ps : List (Nat × Nat)} (h : PRow base w (.slice (some ⟨g, 0, none⟩) ps.length cap) ps) (i : Nat) (hi : i < ps.length) : PlaceR w g (i * 2) ps[i] := by
  have hcl := fun j u => h.cells (g := g) rfl j u
  simp only [add_zero_eq] at hcl
  obtain ⟨e1, e2⟩ := placeCells_get ps i hi
  exact ⟨(h.lt g rfl).2, hcl _ _ e1, hcl _ _ e2⟩
theorem PRow.row {base : Nat} {w : World} {v : Value} {ps : List (Nat × Nat)} (h : PRow base w v ps) (hl : ps.length ≤ 140737488355328) : RowAt 2 PlaceR w v ps := by
  by_cases h0 : ps.length = 0
  · obtain rfl : ps = [] := List.eq_nil_of_length_eq_zero h0
    rcases h.2 with ⟨rfl, -⟩ | ⟨g, cap, cur, rfl, -, -, hc, -⟩
    · exact rowAt_nil
    · exact ⟨_, cap, 0, 0, rfl, hc, by simp, fun h => by simp at h, fun i h => by simp at h⟩
  · obtain ⟨g, cap, rfl, -, hg⟩ := World.ownsRow.form h (by omega)
    have hcap : ps.length ≤ cap := by
      rcases h.2 with ⟨h', -⟩ | ⟨g', cap', cur, h', -, -, h2, -⟩
      · cases h'
      · cases h'; exact h2
    have hcl := fun j u => h.cells (g := g) rfl j u
    simp only [add_zero_eq] at hcl
    refine ⟨_, cap, g, 0, rfl, hcap, hl, fun _ => rfl, fun i hi => ?_⟩
    obtain ⟨e1, e2⟩ := placeCells_get ps i hi
    exact ⟨hg, by simpa using hcl _ _ e1, by rw [Nat.zero_add]; exact hcl _ _ e2⟩
theorem info_place : (Tryz.prog.info? 185).map (fun i => (i.zero, i.size, i.bytes)) = some (some (.agg #[.int .i64 0, .int .i64 0]), 2, 16) := by kernel_rfl
theorem two_news {w : World} {g : Nat} {a b : Value} (h0 : w.cell? ⟨g, 0, none⟩ = some a) (h1 : w.cell? ⟨g, 1, none⟩ = some b) : ∀ j u, [a, b][j]? = some u → w.cell? ((⟨g, 0, none⟩ : Addr).add j) = some u := by
  intro j u hu
  match j, hu with
  | 0, hu => simp at hu; subst hu; simpa [Addr.add] using h0
  | 1, hu => simp at hu; subst hu; simpa [Addr.add] using h1
  | n + 2, hu => simp at hu
theorem two_one {a b : Nat} : ∀ u ∈ [Value.int .i64 (a : Int), Value.int .i64 (b : Int)], u.oneCell' = true := by
  intro u hu
  simp at hu
  rcases hu with rfl | rfl <;> rfl
def RefsPost (w : World) (ps : List (Nat × Nat)) (n : ByteArray) (c : Int) (e : Ending) (w' : World) : Prop := ∃ vo, e = .returned (.tuple #[vo, .string n, .int .i64 c]) ∧ RowAt 2 PlaceR w' vo ps ∧ Below w.heap.size w w'
/-- which symbols are local, or win -/
def selB (fl : List Spot) (x : Spot) : Bool := decide (x.it.bind = 0) || decide (winnerIn fl x.it.name.data.toList = some (x.obj, x.sym))
def selPlaces (fl pre : List Spot) : List (Nat × Nat) := (pre.filter (selB fl)).map fun x => (x.obj, x.sym)
theorem selPlaces_le (fl pre : List Spot) : (selPlaces fl pre).length ≤ pre.length := by
  unfold selPlaces
  rw [List.length_map]
  exact List.length_filter_le _ _
end Go.Proofs.YtboegjdkedjhcaaGreatDoor
namespace Go.Proofs.YtboegjdkedjhcaaGreatDoor
open Go.RowKit Go.Maps
structure SrchSt (base sb mb : Nat) (ov v : Value) (L : List PP) (F : PP → Option PP) (w : World) : Prop where
  box : w.heap[sb]? = some (.cells #[v, .map (some mb), ov] 196 (0, 0))
  row : PRow base w v L
  map : MapKFn placeE w mb L.length (fun x => (F x).map placeV)
  sbl : base ≤ sb
  mbl : base ≤ mb
variable {base sb mb : Nat} {ov v : Value} {L : List PP} {F : PP → Option PP} {w w' : World}
theorem SrchSt.lt (h : SrchSt base sb mb ov v L F w) : sb < w.heap.size := (Array.getElem?_eq_some_iff.1 h.box).1
theorem SrchSt.keep (h : SrchSt base sb mb ov v L F w) (hb : Below w.heap.size w w') : SrchSt base sb mb ov v L F w' :=
  ⟨(hb.block _ h.lt).trans h.box, PRow.keep hb h.row, h.map.below hb h.map.lt, h.sbl, h.mbl⟩
theorem SrchSt.ne (h : SrchSt base sb mb ov v L F w) : sb ≠ mb := by
  obtain ⟨D, ⟨es, clock, h1, _⟩, _⟩ := h.map
  have h2 := h.box
  intro e
  rw [e, h1] at h2
  cases h2
theorem SrchSt.nev (h : SrchSt base sb mb ov v L F w) : v.ownBlock ≠ some sb := own_ne_box h.row h.box (by decide)
theorem SrchSt.nem (h : SrchSt base sb mb ov v L F w) : v.ownBlock ≠ some mb := fun e => by
  obtain ⟨D, ⟨es, clock, h1, _⟩, _⟩ := h.map
  obtain ⟨cur, h2⟩ := own_type h.row e
  rw [h1] at h2
  cases h2
/-- which blocks a search writes -/
def SB (sb mb : Nat) (v : Value) (g : Nat) : Prop := g = sb ∨ g = mb ∨ v.ownBlock = some g
def newL (L : List PP) (F : PP → Option PP) (p : PP) : List PP := if (F p).isSome then L else L ++ [p]
def newF (F : PP → Option PP) (p q : PP) : PP → Option PP := if (F p).isSome then F else updF F p q
def PutPost (base sb mb : Nat) (ov v : Value) (L : List PP) (F : PP → Option PP) (p q : PP) (w : World) (e : Ending) (w' : World) : Prop :=
  e = .returned (.tuple #[]) ∧ ∃ v', SrchSt base sb mb ov v' (newL L F p) (newF F p q) w' ∧ KB (SB sb mb v) w w' ∧ (v'.ownBlock = v.ownBlock ∨ ∃ g, v'.ownBlock = some g ∧ w.heap.size ≤ g)
theorem updF_map (F : PP → Option PP) (p q : PP) : (fun x => if x = p then some (placeV q) else (F x).map placeV) = fun x => (updF F p q x).map placeV := by
  funext x
  unfold updF
  by_cases h : x = p <;> simp [h]
theorem SrchSt.box4 {wc w4 : World} (h : SrchSt base sb mb ov v L F w) (hb : Below w.heap.size w wc) (hg : wc.drew.grownBy w4 (some mb)) : w4.heap[sb]? = some (.cells #[v, .map (some mb), ov] 196 (0, 0)) :=
  (hg.block sb (by have := hb.size; have := h.lt; simp; omega) (fun e => by cases e; exact h.ne rfl)).trans ((hb.block _ h.lt).trans h.box)
theorem SrchSt.row4 {wc w4 : World} (h : SrchSt base sb mb ov v L F w) (hb : Below w.heap.size w wc) (hg : wc.drew.grownBy w4 (some mb)) : PRow base w4 v L :=
  own_congr h.row fun g hgv => (hg.block g (by have := hb.size; have := (h.row.lt g hgv).2; simp; omega) (fun e => by cases e; exact h.nem hgv)).trans (hb.block _ (h.row.lt g hgv).2)
theorem SrchSt.add {wc w4 w5 : World} {p q : PP} {v' : Value} {X : Obj} (h : SrchSt base sb mb ov v L F w) (hF : (F p).isSome = false) (hb : Below w.heap.size w wc)
    (hM : MapKFn placeE w4 mb (L.length + 1) (fun x => (updF F p q x).map placeV)) (hg : wc.drew.grownBy w4 (some mb))
    (hown : w5.ownsRow base 185 2 v' (L.length + 1) (placeCells L ++ [.int .i64 p.1, .int .i64 p.2])) (hg5 : (w4.alloc X).drew.grownBy w5 v.ownBlock) (hv : v'.ownBlock = v.ownBlock ∨ v'.ownBlock = some (w4.alloc X).drew.heap.size) :
    PutPost base sb mb ov v L F p q w (.returned (.tuple #[])) (w5.setCell ⟨sb, 0, none⟩ v') := by
  have hz4 : w.heap.size ≤ w4.heap.size := by have := hb.size; have := hg.size; simp at this; omega
  have hb4 := h.box4 hb hg
  have hr4 := h.row4 hb hg
  have hsl := h.lt
  have hml := h.map.lt
  have hb5 : w5.heap[sb]? = some (.cells #[v, .map (some mb), ov] 196 (0, 0)) :=
    (hg5.block sb (by simp; omega) (fun e => own_ne_box hr4 hb4 (by decide) e.symm)).trans ((Below.heap_alloc w4 X sb (by omega)).trans hb4)
  have hset : ∀ g, g ≠ sb → (w5.setCell ⟨sb, 0, none⟩ v').heap[g]? = w5.heap[g]? := fun g hgs => Below.heap_setCell _ _ _ _ (by simpa using hgs)
  have e1 : newL L F p = L ++ [p] := by unfold newL; rw [hF]; rfl
  have e2 : newF F p q = updF F p q := by unfold newF; rw [hF]; rfl
  refine ⟨rfl, v', ?_, ?_, ?_⟩
  · rw [e1, e2]
    refine ⟨?_, own_congr (PRow.snoc (a := p.1) (b := p.2) hown) fun g hg' => hset g fun e => own_ne_box hown (e ▸ hb5) (by decide) hg', ?_, h.sbl, h.mbl⟩
    · simp [World.setCell, Array.getElem?_modify, hb5]
    · rw [List.length_append]
      exact ((hM.alloc X).drew.kept (hg5.block mb (by simp; omega) (fun e => h.nem e.symm))).setCell (fun e => h.ne e.symm) _
  · refine KB.setCell ((((KB.of_below hb).drew.grown hg fun k e => ?_).alloc X).drew.grown hg5 fun k e => .inl (.inr (.inr e))) (.inl (.inl rfl)) _
    cases e; exact .inl (.inr (.inl rfl))
  · rcases hv with hv | hv
    · exact .inl hv
    · exact .inr ⟨_, hv, by simp; omega⟩
end Go.Proofs.YtboegjdkedjhcaaGreatDoor
namespace Go.Proofs.YtboegjdkedjhcaaGreatDoor
open Go.RowKit Go.Maps
def SortPost (base : Nat) (v : Value) (ps : List PP) (w : World) (e : Ending) (w' : World) : Prop :=
  e = .returned (.tuple #[]) ∧ ∃ ps' : List PP, ps'.Perm ps ∧ ps'.Pairwise (fun a b => ¬ plt b a) ∧ PRow base w' v ps' ∧ KB (fun g => v.ownBlock = some g) w w'
def SortOk : Prop := ∀ (base : Nat) (v : Value) (ps : List PP) (w : World), PRow base w v ps → ps.length ≤ 100000 →
  Calls Tryz.prog 111 #[v, .func (.func 112) #[] #[]] w (SortPost base v ps w)
end Go.Proofs.YtboegjdkedjhcaaGreatDoor
namespace Go.Proofs.YtboegjdkedjhcaaGreatDoor
open Go.RowKit Go.Maps Go.WideMaps
theorem andNot255 (n : Int) (h0 : 0 ≤ n) (h1 : n ≤ 200000) : bits .andNot .u32 (n + 256 - 1) 255 = upTo n 256 := by
  rw [u32_andNot _ _ (by omega) (by omega) (by omega) (by omega), show (4294967295 - (255 : Int).toNat) = 4294967040 from rfl, mask256 _ (by omega)]
  unfold upTo; omega
theorem andNot7 (n : Int) (h0 : 0 ≤ n) (h1 : n ≤ 200000) : bits .andNot .u32 (n + 8 - 1) 7 = upTo n 8 := by
  rw [u32_andNot _ _ (by omega) (by omega) (by omega) (by omega), show (4294967295 - (7 : Int).toNat) = 4294967288 from rfl, mask8 _ (by omega)]
  unfold upTo; omega
set_option maxHeartbeats 400000 in
theorem up_256 (n : Int) (w : World) (h0 : 0 ≤ n) (h1 : n ≤ 200000) : Calls Tryz.prog 204 #[.int .u32 n, .int .u32 256] w fun e w' => e = .returned (.int .u32 (upTo n 256)) ∧ w = w' := by
  go_enter Tryz.func204, Tryz.ntmps204
  go_wp2
  go_ret
  exact ⟨ret_int (andNot255 n h0 h1), rfl⟩
set_option maxHeartbeats 400000 in
theorem up_8 (n : Int) (w : World) (h0 : 0 ≤ n) (h1 : n ≤ 200000) : Calls Tryz.prog 204 #[.int .u32 n, .int .u32 8] w fun e w' => e = .returned (.int .u32 (upTo n 8)) ∧ w = w' := by
  go_enter Tryz.func204, Tryz.ntmps204
  go_wp2
  go_ret
  exact ⟨ret_int (andNot7 n h0 h1), rfl⟩
end Go.Proofs.YtboegjdkedjhcaaGreatDoor
namespace Go.Proofs.YtboegjdkedjhcaaGreatDoor
open Go.RowKit Go.Maps
theorem nodup_sub {α : Type} [DecidableEq α] : ∀ (l m : List α), l.Nodup → (∀ x ∈ l, x ∈ m) → l.length ≤ m.length
  | [], _, _, _ => Nat.zero_le _
  | a :: r, m, hn, h => by
    obtain ⟨h1, h2⟩ := List.nodup_cons.1 hn
    have ih := nodup_sub r (m.erase a) h2 fun x hx => (List.mem_erase_of_ne (fun e => h1 (by rw [← e]; exact hx))).2 (h x (List.mem_cons_of_mem _ hx))
    rw [List.length_erase_of_mem (h a List.mem_cons_self)] at ih
    have : 0 < m.length := List.length_pos_of_mem (h a List.mem_cons_self)
    simp only [List.length_cons]; omega
theorem valid_mem {l : List GObj} {x : PP} (h : validP l x) : x ∈ (flat l).map (fun y => (y.obj, y.sym)) := by
  obtain ⟨o, s, h1, h2⟩ := h
  exact List.mem_map.2 ⟨⟨x.1, x.2, s⟩, mem_flat h1 h2, rfl⟩
theorem valid_len {l : List GObj} {L : List PP} (hm : mayAll l = true) (hn : L.Nodup) (hv : ∀ x ∈ L, validP l x) : L.length ≤ 1024 := by
  have h1 := nodup_sub L ((flat l).map (fun y => (y.obj, y.sym))) hn fun x hx => valid_mem (hv x hx)
  have h2 := flat_length_le hm
  rw [List.length_map] at h1
  omega
theorem Goes.valid {l : List GObj} {p : PP} {L : List PP} {F : PP → Option PP} {n : Nat} (g : Goes l p L F n) (hp : validP l p) : ∀ x ∈ L, validP l x := fun x hx => by
  obtain ⟨i, hi, rfl⟩ := List.mem_iff_getElem.1 hx
  exact (g.reach i hi).valid hp
theorem Goes.len {l : List GObj} {p : PP} {L : List PP} {F : PP → Option PP} {n : Nat} (g : Goes l p L F n) (hp : validP l p) (hc : (beginR l).2 = 0) : L.length ≤ 1024 := valid_len (beginR_zero hc).1 g.nd (g.valid hp)
theorem Goes.next {l : List GObj} {p : PP} {L : List PP} {F : PP → Option PP} {n : Nat} (g : Goes l p L F n) (x : PP) (hx : L[n]? = some x) (h : ∀ q, knowsP l x q → q ∈ L) : Goes l p L F (n + 1) :=
  ⟨g.head, g.nd, g.dom, g.par, fun i hi hin q hq => by
    by_cases h1 : i < n
    · exact g.closed i hi h1 q hq
    · obtain rfl : i = n := by omega
      rw [List.getElem?_eq_getElem hi] at hx
      rw [Option.some.inj hx] at hq
      exact h q hq⟩
theorem newL_get {L : List PP} {F : PP → Option PP} {q x : PP} {n : Nat} (h : L[n]? = some x) : (newL L F q)[n]? = some x := by
  unfold newL
  split
  · exact h
  · rw [List.getElem?_append_left (List.getElem?_eq_some_iff.1 h).1]; exact h
theorem newL_mem {L : List PP} {F : PP → Option PP} {q x : PP} (h : x ∈ L) : x ∈ newL L F q := by
  unfold newL
  split
  · exact h
  · exact List.mem_append.2 (.inl h)
theorem Goes.new {l : List GObj} {p q x : PP} {L : List PP} {F : PP → Option PP} {n : Nat} (g : Goes l p L F n) (hx : L[n]? = some x) (hk : knowsP l x q) : Goes l p (newL L F q) (newF F q x) n ∧ q ∈ newL L F q := by
  have hlt := (List.getElem?_eq_some_iff.1 hx).1
  have hxe : L[n] = x := (List.getElem?_eq_some_iff.1 hx).2
  unfold newL newF
  cases hF : (F q).isSome with
  | true => exact ⟨g, (g.dom q).1 hF⟩
  | false =>
    have := g.put (i := n) (by omega) hlt (by rw [hxe]; exact hk) (q := q) (by simpa using hF)
    rw [hxe] at this
    exact ⟨this, by simp⟩
theorem Goes.full {l : List GObj} {p : PP} {L : List PP} {F : PP → Option PP} {n : Nat} (g : Goes l p L F n) (h : L.length ≤ n) : Goes l p L F L.length := ⟨g.head, g.nd, g.dom, g.par, fun i hi _ q hq => g.closed i hi (by omega) q hq⟩
/-- what a round of goes keeps: the symbols known of one, put one by one -/
structure Inn (w0 wk : World) (sb mb : Nat) (ov : Value) (l : List GObj) (p x : PP) (n : Nat) (ks : List PP) (bk k : Nat) (v : Value) (L : List PP) (F : PP → Option PP) (wi : World) : Prop where
  st : SrchSt w0.heap.size sb mb ov v L F wi
  g : Goes l p L F n
  x : L[n]? = some x
  m : ∀ i (h : i < ks.length), i < k → ks[i] ∈ L
  hb : 0 < ks.length → wi.heap[bk]? = wk.heap[bk]? ∧ v.ownBlock ≠ some bk ∧ bk < wi.heap.size ∧ sb ≠ bk ∧ mb ≠ bk
  b : Below w0.heap.size w0 wi
theorem Inn.step {w0 wk wi w5 w6 : World} {sb mb : Nat} {ov : Value} {l : List GObj} {p x : PP} {n : Nat} {ks : List PP} {bk k : Nat} {v : Value} {L : List PP} {F : PP → Option PP} {e : Ending} (h : Inn w0 wk sb mb ov l p x n ks bk k v L F wi) (hk : k < ks.length) (hkn : ∀ q ∈ ks, knowsP l x q)
    (hb : Below wi.heap.size wi w5) (hp : PutPost w0.heap.size sb mb ov v L F ks[k] x w5 e w6) : ∃ v' L' F', Inn w0 wk sb mb ov l p x n ks bk (k + 1) v' L' F' w6 := by
  obtain ⟨-, v', h1, h2, h3⟩ := hp
  obtain ⟨b1, b2, b3, b4, b5⟩ := h.hb (by omega)
  obtain ⟨g1, g2⟩ := h.g.new h.x (hkn _ (List.getElem_mem hk))
  have hz := hb.size
  refine ⟨v', _, _, h1, g1, newL_get h.x, fun i hi hik => ?_, fun _ => ⟨?_, ?_, ?_, b4, b5⟩, ?_⟩
  · by_cases hik' : i < k
    · exact newL_mem (h.m i hi hik')
    · obtain rfl : i = k := by omega
      exact g2
  · rw [h2.block bk (by omega) (by rintro (r | r | r); exact b4 r.symm; exact b5 r.symm; exact b2 r), hb.block bk b3]; exact b1
  · rcases h3 with h3 | ⟨g, h3, h4⟩
    · rw [h3]; exact b2
    · rw [h3]; intro r; cases r; omega
  · have := h2.size; omega
  · exact (h.b.trans (hb.mono h.b.size)).trans (h2.below (by have := h.b.size; omega) (fun k' hk' r => by
      rcases r with r | r | r
      · have := h.st.sbl; omega
      · have := h.st.mbl; omega
      · have := (h.st.row.lt k' r).1; omega))
end Go.Proofs.YtboegjdkedjhcaaGreatDoor
namespace Go.Proofs.YtboegjdkedjhcaaGreatDoor
end Go.Proofs.YtboegjdkedjhcaaGreatDoor
namespace Go.Proofs.YtboegjdkedjhcaaGreatDoor
end Go.Proofs.YtboegjdkedjhcaaGreatDoor
namespace Go.Proofs.YtboegjdkedjhcaaGreatDoor
open Go.RowKit Go.Maps Go.Shelf Go.Sort Go.Lib
def toI (p : PP) : Int × Int := ((p.1 : Nat), (p.2 : Nat))
def backI (x : Int × Int) : PP := (x.1.toNat, x.2.toNat)
theorem backI_toI (p : PP) : backI (toI p) = p := by simp [backI, toI]
def encI (x : Int × Int) : List Value := [.int .i64 x.1, .int .i64 x.2]
def plti (x y : Int × Int) : Prop := x.1 < y.1 ∨ (x.1 = y.1 ∧ x.2 < y.2)
instance (x y : Int × Int) : Decidable (plti x y) := by unfold plti; exact inferInstance
theorem cmpP_lt (x y : Int × Int) : cmpP x y < 0 ↔ plti x y := by
  unfold cmpP orI cmpI plti
  by_cases h1 : x.1 < y.1
  · simp [h1]
  · by_cases h2 : y.1 < x.1
    · simp [h1, h2]; omega
    · have e : x.1 = y.1 := by omega
      by_cases h3 : x.2 < y.2
      · simp [e, h3]
      · by_cases h4 : y.2 < x.2 <;> simp [e, h3, h4]
theorem lt_cmpP (x y : Int × Int) : Go.Proofs.ltOf cmpP x y = decide (plti x y) := by
  unfold Go.Proofs.ltOf
  simp only [cmpP_lt]
theorem swoP : SWO (Go.Proofs.ltOf cmpP) where
  irrefl x := by rw [lt_cmpP]; simp [plti]
  trans x y z h1 h2 := by rw [lt_cmpP, decide_eq_true_eq] at *; unfold plti at *; omega
  ntrans x y z h1 h2 := by rw [lt_cmpP, decide_eq_false_iff_not] at *; unfold plti at *; omega
theorem orderLays (blk off size : Nat) (w : World) : Go.Proofs.CmpLays Tryz.prog 112 #[] encI 2 cmpP blk off size w := fun _ _ _ _ x y => order_any x y _
theorem placeCells_enc (ps : List PP) : placeCells ps = (ps.map toI).flatMap encI := by
  induction ps with
  | nil => rfl
  | cons p r ih => simp only [placeCells, List.flatMap_cons, List.map_cons] at *; rw [ih]; rfl
theorem flat2_get : ∀ (l : List (Int × Int)) (t : Nat), t < l.length * 2 → (l.flatMap encI)[t]? = some ((encI (l.toArray[t / 2]!))[t % 2]!)
  | x :: r, 0, _ => by simp [encI]
  | x :: r, 1, _ => by simp [encI]
  | x :: r, t + 2, h => by
    have ih := flat2_get r t (by simp at h; omega)
    have e1 : (t + 2) / 2 = t / 2 + 1 := by omega
    have e2 : (t + 2) % 2 = t % 2 := by omega
    rw [e1, e2, List.flatMap_cons, show encI x = [.int .i64 x.1, .int .i64 x.2] from rfl]
    simp only [List.cons_append, List.nil_append, List.getElem?_cons_succ]
    rw [ih]
    congr 3
    simp [Array.getElem!_eq_getD, Array.getD]
  | [], t, h => by simp at h
theorem flatK_get (l : List (Int × Int)) (t : Nat) (h : t < l.length * 2) : (l.flatMap encI)[t]? = some ((flatK encI 2 l.toArray)[t]!) := by
  rw [flat2_get l t h, get_flatK encI 2 l.toArray t (by simpa using h)]
theorem holds_of_row {base : Nat} {w : World} {ps : List PP} {g cap : Nat} (h : PRow base w (.slice (some ⟨g, 0, none⟩) ps.length cap) ps) : HoldsK encI 2 w g 0 (ps.map toI).toArray := by
  intro j hj
  rw [size_flatK] at hj
  have hj' : j < (ps.map toI).length * 2 := by simpa using hj
  have h1 := flatK_get _ j hj'
  rw [← placeCells_enc] at h1
  have h2 := h.cells (g := g) rfl j _ h1
  rw [add_zero_eq] at h2
  refine ⟨by rw [Nat.zero_add]; exact h2, ?_⟩
  rcases h.2 with ⟨h3, -⟩ | ⟨g', cap', cur, h3, -, h4, -⟩
  · cases h3
  · cases h3; exact Lib.frozen_of_heap h4 _
theorem cells_len (ps : List PP) : (placeCells ps).length = ps.length * 2 := by
  induction ps with
  | nil => rfl
  | cons p r ih => simp only [placeCells, List.flatMap_cons, List.length_append, List.length_cons, List.length_nil] at *; omega
theorem sorted_block {w : World} {g n : Nat} {D : Array (Int × Int)} {os : Array Obj} {cur : Array Value} {e : TypeId} (h : w.heap[g]? = some (.cells cur e (0, 0))) :
    (sortWorldK encI 2 w g 0 n D os).heap[g]? = some (.cells (putCells id 0 (flatK encI 2 D) cur) e (0, 0)) := by
  have hlt := (Array.getElem?_eq_some_iff.1 h).1
  unfold sortWorldK putRowK putRow grow mapBlock Sort.ahead
  rw [Array.getElem?_append_left (by simpa using hlt), Array.getElem?_modify]
  simp only [if_true]
  rw [h]
  rfl
theorem sorted_other {w : World} {g n : Nat} {D : Array (Int × Int)} {os : Array Obj} {k : Nat} (hk : k < w.heap.size) (hne : k ≠ g) : (sortWorldK encI 2 w g 0 n D os).heap[k]? = w.heap[k]? := by
  unfold sortWorldK putRowK putRow grow mapBlock Sort.ahead
  rw [Array.getElem?_append_left (by simpa using hk), Array.getElem?_modify, if_neg (fun e => hne e.symm)]
theorem sorted_size {w : World} {g n : Nat} {D : Array (Int × Int)} {os : Array Obj} : w.heap.size ≤ (sortWorldK encI 2 w g 0 n D os).heap.size := by
  unfold sortWorldK putRowK putRow grow mapBlock Sort.ahead
  simp
theorem row_put {base : Nat} {w : World} {ps ps' : List PP} {g cap n : Nat} {os : Array Obj} (h : PRow base w (.slice (some ⟨g, 0, none⟩) ps.length cap) ps) (hl : ps'.length = ps.length) :
    PRow base (sortWorldK encI 2 w g 0 n (ps'.map toI).toArray os) (.slice (some ⟨g, 0, none⟩) ps.length cap) ps' := by
  refine ⟨cells_len ps', ?_⟩
  rcases h.2 with ⟨h3, -⟩ | ⟨g', cap', cur, h3, hb, h4, h5, h6, h7, h8⟩
  · cases h3
  · cases h3
    refine .inr ⟨g, cap, putCells id 0 (flatK encI 2 (ps'.map toI).toArray) cur, by rw [hl], hb, sorted_block h4, by omega, h6, by simp [putCells, h7], ?_⟩
    apply List.ext_getElem?
    intro t
    by_cases ht : t < ps'.length * 2
    · have h9 := flatK_get (ps'.map toI) t (by simpa using ht)
      rw [← placeCells_enc] at h9
      rw [h9, List.getElem?_take, if_pos ht]
      have hc : t < cur.size := by omega
      simp [putCells, hc]
      omega
    · rw [List.getElem?_eq_none (by simp; omega), List.getElem?_eq_none (by rw [cells_len]; omega)]
theorem perm_back {D' : Array (Int × Int)} {ps : List PP} (h : D'.toList.Perm (ps.map toI)) : ∃ ps' : List PP, ps'.Perm ps ∧ D' = (ps'.map toI).toArray := by
  refine ⟨D'.toList.map backI, ?_, ?_⟩
  · have := h.map backI
    rw [List.map_map] at this
    have e : (backI ∘ toI) = id := by funext p; exact backI_toI p
    rwa [e, List.map_id] at this
  · apply Array.ext'
    rw [List.map_map]
    have : ∀ x ∈ D'.toList, (toI ∘ backI) x = x := fun x hx => by
      obtain ⟨p, -, rfl⟩ := List.mem_map.1 (h.mem_iff.1 hx)
      simp [backI_toI]
    rw [List.map_congr_left this, List.map_id']
theorem sorted_pw {ps' : List PP} {n : Nat} (hn : n = ps'.length) (h : SortedIn (Go.Proofs.ltOf cmpP) 0 n (ps'.map toI).toArray) : ps'.Pairwise (fun a b => ¬ plt b a) := by
  rw [List.pairwise_iff_getElem]
  intro i j hi hj hij hp
  have := h i j (by omega) hij (by omega)
  rw [lt_cmpP, decide_eq_false_iff_not] at this
  apply this
  have e1 : (ps'.map toI).toArray[i]! = toI ps'[i] := by rw [getElem!_pos _ i (by simpa using hi)]; simp
  have e2 : (ps'.map toI).toArray[j]! = toI ps'[j] := by rw [getElem!_pos _ j (by simpa using hj)]; simp
  rw [e1, e2]
  unfold plt at hp
  unfold plti toI
  simp only []
  omega
theorem order_enters (args : Array Value) (w : World) : (callFunc 112 args).run Tryz.prog w = .ok (.enter 112 args) w := enters_of Tryz.func112 (by kernel_rfl) rfl args w
set_option maxRecDepth 100000 in
theorem sort_ok : SortOk := by
  intro base v ps w h hl
  by_cases h0 : ps.length = 0
  · obtain ⟨p, c, rfl⟩ := own_shape h
    obtain rfl : ps = [] := List.eq_nil_of_length_eq_zero h0
    have hcon := Go.Proofs.AnyF.slices_SortFunc_none Tryz.sortPlaces p c (.func (.func 112) #[] #[]) w
    change Calls Tryz.prog 111 _ _ _ at hcon
    refine hcon.mono ?_
    rintro e w' ⟨rfl, rfl⟩
    exact ⟨rfl, [], .refl _, List.Pairwise.nil, h, KB.refl _ _⟩
  · obtain ⟨g, cap, rfl, hbg, hgl⟩ := World.ownsRow.form h (by omega)
    have hsz : ((ps.map toI).toArray).size = ps.length := by simp
    have hcon := Go.Proofs.AnyQ.slices_SortFunc Tryz.sortPlaces 2 Tryz.isAgg185 Tryz.sizeOf185 encI (fun _ => rfl) (fun x v hv => by simp [encI] at hv; rcases hv with rfl | rfl <;> rfl) cmpP swoP 112 #[] g 0 cap (ps.map toI).toArray w order_enters (orderLays g 0 _ w) (holds_of_row h) hgl (by rw [hsz]; omega)
    change Calls Tryz.prog 111 _ _ _ at hcon
    rw [hsz] at hcon
    refine hcon.mono ?_
    rintro e w' ⟨rfl, d', n, os, hp, hs, rfl⟩
    have hpp : d'.toList.Perm (ps.map toI) := by
      have h3 := hp.2.2
      have hz := hp.1
      rw [hsz] at hz
      rw [Array.extract_eq_self_of_le (by omega), Array.extract_eq_self_of_le (by rw [hsz]; omega)] at h3
      exact h3
    obtain ⟨ps', hp1, rfl⟩ := perm_back hpp
    refine ⟨rfl, ps', hp1, sorted_pw hp1.length_eq.symm hs, row_put h hp1.length_eq, ⟨rfl, rfl, rfl, sorted_size, fun k hk hne => sorted_other hk fun e => hne (by rw [e]; rfl)⟩⟩
end Go.Proofs.YtboegjdkedjhcaaGreatDoor
