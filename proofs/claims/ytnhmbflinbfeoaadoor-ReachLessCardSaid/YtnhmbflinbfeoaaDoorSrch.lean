/- What a search of reach keeps. What slices.SortFunc does with a row of places. -/
import Derived.Test.YtnhmbflinbfeoaaDoorMapPlace
import Derived.Test.YtnhmbflinbfeoaaDoorPlaces
import Derived.Test.YtnhmbflinbfeoaaDoorKeep
import Derived.Test.YtnhmbflinbfeoaaDoorOwn
import Derived.Test.YtnhmbflinbfeoaaDoorPlain13
import Derived.Lib.Hide
import Derived.Test.YtnhmbflinbfeoaaDoorProg
namespace Go.Proofs.YtnhmbflinbfeoaaDoor
open Go.RowKit Go.Maps
structure SrchSt (base sb mb : Nat) (ov v : Value) (L : List PP) (F : PP → Option PP) (w : World) : Prop where
  box : w.heap[sb]? = some (.cells #[v, .map (some mb), ov] 60 (0, 0))
  row : PRow base w v L
  map : MapKFn placeE w mb L.length (fun x => (F x).map placeV)
  sbl : base ≤ sb
  mbl : base ≤ mb
variable {base sb mb : Nat} {ov v : Value} {L : List PP} {F : PP → Option PP} {w w' : World}
theorem SrchSt.lt (h : SrchSt base sb mb ov v L F w) : sb < w.heap.size := (Array.getElem?_eq_some_iff.1 h.box).1
theorem SrchSt.keep (h : SrchSt base sb mb ov v L F w) (hb : Below w.heap.size w w') : SrchSt base sb mb ov v L F w' :=
  ⟨(hb.block _ h.lt).trans h.box, PRow.keep hb h.row, h.map.below hb h.map.lt, h.sbl, h.mbl⟩
theorem SrchSt.ne (h : SrchSt base sb mb ov v L F w) : sb ≠ mb := by
  obtain ⟨D, ⟨es, clock, h1, _⟩, _⟩ := h.map
  have h2 := h.box
  intro e
  rw [e, h1] at h2
  cases h2
theorem SrchSt.nev (h : SrchSt base sb mb ov v L F w) : v.ownBlock ≠ some sb := own_ne_box h.row h.box (by decide)
theorem SrchSt.nem (h : SrchSt base sb mb ov v L F w) : v.ownBlock ≠ some mb := fun e => by
  obtain ⟨D, ⟨es, clock, h1, _⟩, _⟩ := h.map
  obtain ⟨cur, h2⟩ := own_type h.row e
  rw [h1] at h2
  cases h2
/-- which blocks a search writes -/
def SB (sb mb : Nat) (v : Value) (g : Nat) : Prop := g = sb ∨ g = mb ∨ v.ownBlock = some g
def newL (L : List PP) (F : PP → Option PP) (p : PP) : List PP := if (F p).isSome then L else L ++ [p]
def newF (F : PP → Option PP) (p q : PP) : PP → Option PP := if (F p).isSome then F else updF F p q
def PutPost (base sb mb : Nat) (ov v : Value) (L : List PP) (F : PP → Option PP) (p q : PP) (w : World) (e : Ending) (w' : World) : Prop :=
  e = .returned (.tuple #[]) ∧ ∃ v', SrchSt base sb mb ov v' (newL L F p) (newF F p q) w' ∧ KB (SB sb mb v) w w' ∧ (v'.ownBlock = v.ownBlock ∨ ∃ g, v'.ownBlock = some g ∧ w.heap.size ≤ g)
theorem updF_map (F : PP → Option PP) (p q : PP) : (fun x => if x = p then some (placeV q) else (F x).map placeV) = fun x => (updF F p q x).map placeV := by
  funext x
  unfold updF
  by_cases h : x = p <;> simp [h]
theorem SrchSt.box4 {wc w4 : World} (h : SrchSt base sb mb ov v L F w) (hb : Below w.heap.size w wc) (hg : wc.drew.grownBy w4 (some mb)) : w4.heap[sb]? = some (.cells #[v, .map (some mb), ov] 60 (0, 0)) :=
  (hg.block sb (by have := hb.size; have := h.lt; simp; omega) (fun e => by cases e; exact h.ne rfl)).trans ((hb.block _ h.lt).trans h.box)
theorem SrchSt.row4 {wc w4 : World} (h : SrchSt base sb mb ov v L F w) (hb : Below w.heap.size w wc) (hg : wc.drew.grownBy w4 (some mb)) : PRow base w4 v L :=
  own_congr h.row fun g hgv => (hg.block g (by have := hb.size; have := (h.row.lt g hgv).2; simp; omega) (fun e => by cases e; exact h.nem hgv)).trans (hb.block _ (h.row.lt g hgv).2)
theorem SrchSt.add {wc w4 w5 : World} {p q : PP} {v' : Value} {X : Obj} (h : SrchSt base sb mb ov v L F w) (hF : (F p).isSome = false) (hb : Below w.heap.size w wc)
    (hM : MapKFn placeE w4 mb (L.length + 1) (fun x => (updF F p q x).map placeV)) (hg : wc.drew.grownBy w4 (some mb))
    (hown : w5.ownsRow base 30 2 v' (L.length + 1) (placeCells L ++ [.int .i64 p.1, .int .i64 p.2])) (hg5 : (w4.alloc X).drew.grownBy w5 v.ownBlock) (hv : v'.ownBlock = v.ownBlock ∨ v'.ownBlock = some (w4.alloc X).drew.heap.size) :
    PutPost base sb mb ov v L F p q w (.returned (.tuple #[])) (w5.setCell ⟨sb, 0, none⟩ v') := by
  have hz4 : w.heap.size ≤ w4.heap.size := by have := hb.size; have := hg.size; simp at this; omega
  have hb4 := h.box4 hb hg
  have hr4 := h.row4 hb hg
  have hsl := h.lt
  have hml := h.map.lt
  have hb5 : w5.heap[sb]? = some (.cells #[v, .map (some mb), ov] 60 (0, 0)) :=
    (hg5.block sb (by simp; omega) (fun e => own_ne_box hr4 hb4 (by decide) e.symm)).trans ((Below.heap_alloc w4 X sb (by omega)).trans hb4)
  have hset : ∀ g, g ≠ sb → (w5.setCell ⟨sb, 0, none⟩ v').heap[g]? = w5.heap[g]? := fun g hgs => Below.heap_setCell _ _ _ _ (by simpa using hgs)
  have e1 : newL L F p = L ++ [p] := by unfold newL; rw [hF]; rfl
  have e2 : newF F p q = updF F p q := by unfold newF; rw [hF]; rfl
  refine ⟨rfl, v', ?_, ?_, ?_⟩
  · rw [e1, e2]
    refine ⟨?_, own_congr (PRow.snoc (a := p.1) (b := p.2) hown) fun g hg' => hset g fun e => own_ne_box hown (e ▸ hb5) (by decide) hg', ?_, h.sbl, h.mbl⟩
    · simp [World.setCell, Array.getElem?_modify, hb5]
    · rw [List.length_append]
      exact ((hM.alloc X).drew.kept (hg5.block mb (by simp; omega) (fun e => h.nem e.symm))).setCell (fun e => h.ne e.symm) _
  · refine KB.setCell ((((KB.of_below hb).drew.grown hg fun k e => ?_).alloc X).drew.grown hg5 fun k e => .inl (.inr (.inr e))) (.inl (.inl rfl)) _
    cases e; exact .inl (.inr (.inl rfl))
  · rcases hv with hv | hv
    · exact .inl hv
    · exact .inr ⟨_, hv, by simp; omega⟩
end Go.Proofs.YtnhmbflinbfeoaaDoor
namespace Go.Proofs.YtnhmbflinbfeoaaDoor
open Go.RowKit Go.Maps
def SortPost (base : Nat) (v : Value) (ps : List PP) (w : World) (e : Ending) (w' : World) : Prop :=
  e = .returned (.tuple #[]) ∧ ∃ ps' : List PP, ps'.Perm ps ∧ ps'.Pairwise (fun a b => ¬ plt b a) ∧ PRow base w' v ps' ∧ KB (fun g => v.ownBlock = some g) w w'
def SortOk : Prop := ∀ (base : Nat) (v : Value) (ps : List PP) (w : World), PRow base w v ps → ps.length ≤ 100000 →
  Calls Tryd.prog 20 #[v, .func (.func 21) #[] #[]] w (SortPost base v ps w)
def RevPost (base : Nat) (v : Value) (ps : List PP) (w : World) (e : Ending) (w' : World) : Prop :=
  e = .returned (.tuple #[]) ∧ PRow base w' v ps.reverse ∧ KB (fun g => v.ownBlock = some g) w w'
def RevOk : Prop := ∀ (base : Nat) (v : Value) (ps : List PP) (w : World), PRow base w v ps → ps.length ≤ 100000 → 0 < ps.length →
  Calls Tryd.prog 28 #[v] w (RevPost base v ps w)
end Go.Proofs.YtnhmbflinbfeoaaDoor
