/- What ReachLess keeps while it builds the objects that have the kept symbols only. -/
import Derived.Test.YtnhmbflinbfeoaaDoorSrch
import Derived.Test.YtnhmbflinbfeoaaDoorRowCells
namespace Go.Proofs.YtnhmbflinbfeoaaDoor
open Go.RowKit Go.Maps
theorem subO_snoc {K : List PP} : ∀ (l : List GObj) (j i : Nat) (h : i < l.length), subO K j (l.take (i + 1)) = subO K j (l.take i) ++ [⟨l[i].name, subS K (j + i) 0 l[i].syms⟩]
  | o :: r, j, 0, _ => by simp [subO]
  | o :: r, j, i + 1, h => by
    have ih := subO_snoc (K := K) r (j + 1) i (by simpa using h)
    rw [List.take_succ_cons, List.take_succ_cons, subO, subO, ih, show j + 1 + i = j + (i + 1) by omega]
    simp
abbrev OM := Value × GObj
def objMC (u : OM) : List Value := [.string u.2.name, u.1]
theorem objMC_len (u : OM) : (objMC u).length = 2 := rfl
/-- an object's symbols, in a row of their own -/
def ObjM (w0 w : World) (u : OM) : Prop := ∃ ts : List SymT, w.ownsRow w0.heap.size 46 7 u.1 ts.length (ts.flatMap symCells) ∧ ts.map (·.1) = u.2.syms ∧ (∀ t ∈ ts, SymIn w0 t.1 t.2.1 t.2.2)
structure OutM (w0 : World) (K : List PP) (os : List GObj) (pre : List Spot) (v8 v9 : Value) (us : List OM) (w : World) : Prop where
  row : w.ownsRow w0.heap.size 41 2 v8 us.length (us.flatMap objMC)
  os : us.map (·.2) = os
  each : ∀ u ∈ us, ObjM w0 w u
  wh : PRow w0.heap.size w v9 (whereOf K pre)
  b : Below w0.heap.size w0 w
structure InM (w0 : World) (K : List PP) (os : List GObj) (pre : List Spot) (nm : ByteArray) (v8 v9 : Value) (us : List OM) (ob : Nat) (vs : Value) (ts : List SymT) (w : World) : Prop where
  out : OutM w0 K os pre v8 v9 us w
  box : w.heap[ob]? = some (.cells #[.string nm, vs] 41 (0, 0))
  cur : w.ownsRow w0.heap.size 46 7 vs ts.length (ts.flatMap symCells)
  cin : ∀ t ∈ ts, SymIn w0 t.1 t.2.1 t.2.2
  apart : ∀ u ∈ us, ∀ g, u.1.ownBlock = some g → vs.ownBlock ≠ some g
  ne8 : v8.ownBlock ≠ some ob
  obl : w0.heap.size ≤ ob
variable {w0 w w' : World} {K : List PP} {os : List GObj} {pre : List Spot} {nm : ByteArray} {v8 v9 vs : Value} {us : List OM} {ob : Nat} {ts : List SymT}
theorem ObjM.congr {u : OM} (h : ObjM w0 w u) (hg : ∀ g, u.1.ownBlock = some g → w'.heap[g]? = w.heap[g]?) : ObjM w0 w' u := by
  obtain ⟨ts, h1, h2⟩ := h
  exact ⟨ts, own_congr h1 hg, h2⟩
theorem ObjM.lt {u : OM} (h : ObjM w0 w u) {g : Nat} (hg : u.1.ownBlock = some g) : g < w.heap.size := by
  obtain ⟨ts, h1, h2⟩ := h
  exact (h1.lt g hg).2
theorem OutM.keep (h : OutM w0 K os pre v8 v9 us w) (hb : Below w.heap.size w w') : OutM w0 K os pre v8 v9 us w' :=
  ⟨ownsRow_below hb h.row, h.os, fun u hu => (h.each u hu).congr fun g hg => hb.block g ((h.each u hu).lt hg), PRow.keep hb h.wh, h.b.trans (hb.mono h.b.size)⟩
theorem InM.lt (h : InM w0 K os pre nm v8 v9 us ob vs ts w) : ob < w.heap.size := (Array.getElem?_eq_some_iff.1 h.box).1
theorem InM.keep (h : InM w0 K os pre nm v8 v9 us ob vs ts w) (hb : Below w.heap.size w w') : InM w0 K os pre nm v8 v9 us ob vs ts w' :=
  ⟨h.out.keep hb, (hb.block _ h.lt).trans h.box, ownsRow_below hb h.cur, h.cin, h.apart, h.ne8, h.obl⟩
/-- a new object is begun -/
theorem OutM.start (h : OutM w0 K os pre v8 v9 us w) (nm : ByteArray) :
    InM w0 K os pre nm v8 v9 us w.heap.size (.slice none 0 0) [] (w.alloc (.cells #[.string nm, .slice none 0 0] 41)) :=
  ⟨h.keep (alloc_old w _), heap_alloc_new w _, World.ownsRow_nil _ _ _ _, fun t ht => (by cases ht), fun u hu g hg e => (by cases e), fun e => by have := (h.row.lt _ e).2; omega, h.b.size⟩
/-- a symbol is passed over -/
theorem InM.skip {x : Spot} (h : InM w0 K os pre nm v8 v9 us ob vs ts w) (hx : keptS K x = false) : InM w0 K os (pre ++ [x]) nm v8 v9 us ob vs ts w :=
  ⟨⟨h.out.row, h.out.os, h.out.each, by rw [whereOf_no hx]; exact h.out.wh, h.out.b⟩, h.box, h.cur, h.cin, h.apart, h.ne8, h.obl⟩
/-- a symbol's new place is put down -/
theorem InM.place {x : Spot} {v9' : Value} (h : InM w0 K os pre nm v8 v9 us ob vs ts w) (hx : keptS K x = true) (hg : w.grownBy w' v9.ownBlock)
    (hown : w'.ownsRow w0.heap.size 30 2 v9' ((whereOf K pre).length + 1) (placeCells (whereOf K pre) ++ [.int .i64 (newP K (x.obj, x.sym)).1, .int .i64 (newP K (x.obj, x.sym)).2])) :
    InM w0 K os (pre ++ [x]) nm v8 v9' us ob vs ts w' := by
  have hne : ∀ {e k n v xs} (h' : w.ownsRow w0.heap.size e k v n xs) (_ : e ≠ 30) g, v.ownBlock = some g → w'.heap[g]? = w.heap[g]? := fun h' he g hgv =>
    hg.block g (h'.lt g hgv).2 fun e => own_ne h' h.out.wh he hgv e.symm
  refine ⟨⟨own_congr h.out.row (hne h.out.row (by decide)), h.out.os, fun u hu => ?_, ?_, h.out.b.grown hg h.out.b.size fun g e => (h.out.wh.lt g e).1⟩, ?_, own_congr h.cur (hne h.cur (by decide)), h.cin, h.apart, h.ne8, h.obl⟩
  · obtain ⟨ts', h1, h2⟩ := h.out.each u hu
    exact ⟨ts', own_congr h1 (hne h1 (by decide)), h2⟩
  · rw [whereOf_yes hx]; exact PRow.snoc hown
  · rw [hg.block ob h.lt fun e => own_ne_box h.out.wh h.box (by decide) e.symm]; exact h.box
/-- a symbol is put down -/
theorem InM.sym {t : SymT} {vs' : Value} (h : InM w0 K os pre nm v8 v9 us ob vs ts w) (ht : SymIn w0 t.1 t.2.1 t.2.2) (hg : w.grownBy w' vs.ownBlock)
    (hown : w'.ownsRow w0.heap.size 46 7 vs' (ts.length + 1) (ts.flatMap symCells ++ symCells t)) (hv : vs'.ownBlock = vs.ownBlock ∨ vs'.ownBlock = some w.heap.size) :
    InM w0 K os pre nm v8 v9 us ob vs' (ts ++ [t]) (w'.setCell ⟨ob, 1, none⟩ vs') := by
  have hb' : w'.heap[ob]? = some (.cells #[.string nm, vs] 41 (0, 0)) := (hg.block ob h.lt fun e => own_ne_box h.cur h.box (by decide) e.symm).trans h.box
  have hset : ∀ g, g ≠ ob → (w'.setCell ⟨ob, 1, none⟩ vs').heap[g]? = w'.heap[g]? := fun g hgs => Below.heap_setCell _ _ _ _ (by simpa using hgs)
  have hne : ∀ {e k n v xs} (h' : w.ownsRow w0.heap.size e k v n xs) (_ : e ≠ 46) (_ : v.ownBlock ≠ some ob) g, v.ownBlock = some g → (w'.setCell ⟨ob, 1, none⟩ vs').heap[g]? = w.heap[g]? := fun h' he ho g hgv =>
    (hset g fun e => ho (e ▸ hgv)).trans (hg.block g (h'.lt g hgv).2 fun e => own_ne h' h.cur he hgv e.symm)
  refine ⟨⟨own_congr h.out.row (hne h.out.row (by decide) h.ne8), h.out.os, fun u hu => ?_, own_congr h.out.wh (hne h.out.wh (by decide) (own_ne_box h.out.wh h.box (by decide))), ?_⟩, ?_, ?_, ?_, ?_, h.ne8, h.obl⟩
  · refine (h.out.each u hu).congr fun g hgv => ?_
    obtain ⟨ts', h1, h2⟩ := h.out.each u hu
    exact (hset g fun e => own_ne_box h1 h.box (by decide) (e ▸ hgv)).trans (hg.block g (h1.lt g hgv).2 fun e => h.apart u hu g hgv e.symm)
  · exact (h.out.b.grown hg h.out.b.size fun g e => (h.cur.lt g e).1).setCell h.obl _
  · simp [World.setCell, Array.getElem?_modify, hb']
  · have e2 : (ts ++ [t]).flatMap symCells = ts.flatMap symCells ++ symCells t := by simp
    rw [List.length_append, e2]
    exact own_congr hown fun g hg' => hset g fun e => own_ne_box hown (e ▸ hb') (by decide) hg'
  · intro t' ht'
    rcases List.mem_append.1 ht' with ht' | ht'
    · exact h.cin t' ht'
    · obtain rfl := List.mem_singleton.1 ht'; exact ht
  · intro u hu g hgu e
    rcases hv with hv | hv
    · exact h.apart u hu g hgu (hv ▸ e)
    · rw [hv] at e; cases e
      have := (h.out.each u hu).lt hgu
      omega
/-- an object is put down -/
theorem InM.close {v8' : Value} {o : GObj} (h : InM w0 K os pre nm v8 v9 us ob vs ts w) (ho : o = ⟨nm, ts.map (·.1)⟩) (hg : w.grownBy w' v8.ownBlock)
    (hown : w'.ownsRow w0.heap.size 41 2 v8' (us.length + 1) (us.flatMap objMC ++ [.string nm, vs])) : OutM w0 K (os ++ [o]) pre v8' v9 (us ++ [(vs, o)]) w' := by
  subst ho
  have hne : ∀ {e k n v xs} (h' : w.ownsRow w0.heap.size e k v n xs) (_ : e ≠ 41) g, v.ownBlock = some g → w'.heap[g]? = w.heap[g]? := fun h' he g hgv =>
    hg.block g (h'.lt g hgv).2 fun e => own_ne h' h.out.row he hgv e.symm
  refine ⟨?_, by rw [List.map_append, h.out.os]; rfl, fun u hu => ?_, own_congr h.out.wh (hne h.out.wh (by decide)), h.out.b.grown hg h.out.b.size fun g e => (h.out.row.lt g e).1⟩
  · have e2 : (us ++ [((vs, (⟨nm, ts.map (·.1)⟩ : GObj)) : OM)]).flatMap objMC = us.flatMap objMC ++ [.string nm, vs] := by simp [objMC]
    rw [List.length_append, e2]
    exact hown
  · rcases List.mem_append.1 hu with hu | hu
    · obtain ⟨ts', h1, h2⟩ := h.out.each u hu
      exact ⟨ts', own_congr h1 (hne h1 (by decide)), h2⟩
    · obtain rfl := List.mem_singleton.1 hu
      exact ⟨ts, own_congr h.cur (hne h.cur (by decide)), rfl, h.cin⟩
/-- the objects, as they are read -/
theorem OutM.objs (h : OutM w0 K os pre v8 v9 us w) (hl : us.length ≤ 140737488355328) (hs : ∀ u ∈ us, u.2.syms.length ≤ 140737488355328 ∧ u.2.name.size ≤ 140737488355328) : ObjsAt w v8 os := by
  have h1 : RowAt 2 (fun w b o (u : OM) => ObjR w b o u.2) w v8 us := owned_row objMC_len h.row hl fun g o' i hi hg hcell => by
    have hu := List.getElem_mem hi
    obtain ⟨ts, h1, h2, h3⟩ := h.each _ hu
    obtain ⟨h4, h5⟩ := hs _ hu
    have hlen : ts.length = us[i].2.syms.length := by rw [← h2]; simp
    refine ⟨us[i].1, hg, hcell 0 _ (by omega) rfl, hcell 1 _ (by omega) rfl, ?_, h5⟩
    have := sym_back h1 (by omega) fun t ht => (h3 t ht).keep h.b
    rw [h2] at this
    exact this
  have e := h.os
  subst e
  obtain ⟨p, cap, b, o, rfl, h2, h3, h4, h5⟩ := h1
  exact ⟨p, cap, b, o, by simp, by simpa using h2, by simpa using h3, by simpa using h4, fun i hi => by simpa using h5 i (by simpa using hi)⟩
end Go.Proofs.YtnhmbflinbfeoaaDoor
