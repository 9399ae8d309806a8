/- Rows of places that a call makes, and rows of places as they are read. -/
import Derived.Test.YtnhmbflinbfeoaaDoorRows
import Derived.Test.YtnhmbflinbfeoaaDoorRow0
import Derived.Test.YtnhmbflinbfeoaaDoorPlain
import Derived.Maps.AppendAt
namespace Go.Proofs.YtnhmbflinbfeoaaDoor
open Go.RowKit Go.Maps Go.WideMaps
def placeCells (ps : List (Nat × Nat)) : List Value := ps.flatMap fun p => [.int .i64 p.1, .int .i64 p.2]
def PRow (base : Nat) (w : World) (v : Value) (ps : List (Nat × Nat)) : Prop := w.ownsRow base 30 2 v ps.length (placeCells ps)
theorem PRow.keep {base : Nat} {w w' : World} {v : Value} {ps : List (Nat × Nat)} (hb : Below w.heap.size w w') (h : PRow base w v ps) : PRow base w' v ps := ownsRow_below hb h
theorem PRow.nil (base : Nat) (w : World) : PRow base w (.slice none 0 0) [] := World.ownsRow_nil w _ _ _
theorem placeCells_snoc (ps : List (Nat × Nat)) (a b : Nat) : placeCells (ps ++ [(a, b)]) = placeCells ps ++ [.int .i64 a, .int .i64 b] := by simp [placeCells]
theorem PRow.snoc {base : Nat} {w : World} {v : Value} {ps : List (Nat × Nat)} {a b : Nat} (h : w.ownsRow base 30 2 v (ps.length + 1) (placeCells ps ++ [.int .i64 a, .int .i64 b])) : PRow base w v (ps ++ [(a, b)]) := by
  unfold PRow
  rw [placeCells_snoc, List.length_append]
  exact h
def PlaceR (w : World) (b o : Nat) (p : Nat × Nat) : Prop := b < w.heap.size ∧ w.cell? ⟨b, o, none⟩ = some (.int .i64 p.1) ∧ w.cell? ⟨b, o + 1, none⟩ = some (.int .i64 p.2)
theorem placeR_keeps : Keeps PlaceR := fun _ _ _ _ _ hb ⟨h0, h1, h2⟩ => ⟨size_keep hb h0, cell_keep hb h0 h1, cell_keep hb h0 h2⟩
theorem add_zero_eq (g j : Nat) : (⟨g, 0, none⟩ : Addr).add j = ⟨g, j, none⟩ := by
  unfold Addr.add
  by_cases h : j = 0 <;> simp [h]
theorem placeCells_get : ∀ (ps : List (Nat × Nat)) (i : Nat) (h : i < ps.length), (placeCells ps)[i * 2]? = some (.int .i64 (ps[i].1 : Nat)) ∧ (placeCells ps)[i * 2 + 1]? = some (.int .i64 (ps[i].2 : Nat))
  | p :: r, 0, _ => by simp [placeCells]
  | p :: r, i + 1, h => by
    have := placeCells_get r i (by simpa using h)
    have e : placeCells (p :: r) = .int .i64 p.1 :: .int .i64 p.2 :: placeCells r := by simp [placeCells]
    rw [e, show (i + 1) * 2 = i * 2 + 1 + 1 by omega, show i * 2 + 1 + 1 + 1 = (i * 2 + 1) + 1 + 1 by omega]
    simp only [List.getElem?_cons_succ, List.getElem_cons_succ]
    exact this
  | [], i, h => by simp at h
theorem placeRow_at {base : Nat} {w : World} {g cap : Nat} {ps : List (Nat × Nat)} (h : PRow base w (.slice (some ⟨g, 0, none⟩) ps.length cap) ps) (i : Nat) (hi : i < ps.length) : PlaceR w g (i * 2) ps[i] := by
  have hcl := fun j u => h.cells (g := g) rfl j u
  simp only [add_zero_eq] at hcl
  obtain ⟨e1, e2⟩ := placeCells_get ps i hi
  exact ⟨(h.lt g rfl).2, hcl _ _ e1, hcl _ _ e2⟩
theorem PRow.row {base : Nat} {w : World} {v : Value} {ps : List (Nat × Nat)} (h : PRow base w v ps) (hl : ps.length ≤ 140737488355328) : RowAt 2 PlaceR w v ps := by
  by_cases h0 : ps.length = 0
  · obtain rfl : ps = [] := List.eq_nil_of_length_eq_zero h0
    rcases h.2 with ⟨rfl, -⟩ | ⟨g, cap, cur, rfl, -, -, hc, -⟩
    · exact rowAt_nil
    · exact ⟨_, cap, 0, 0, rfl, hc, by simp, fun h => by simp at h, fun i h => by simp at h⟩
  · obtain ⟨g, cap, rfl, -, hg⟩ := World.ownsRow.form h (by omega)
    have hcap : ps.length ≤ cap := by
      rcases h.2 with ⟨h', -⟩ | ⟨g', cap', cur, h', -, -, h2, -⟩
      · cases h'
      · cases h'; exact h2
    have hcl := fun j u => h.cells (g := g) rfl j u
    simp only [add_zero_eq] at hcl
    refine ⟨_, cap, g, 0, rfl, hcap, hl, fun _ => rfl, fun i hi => ?_⟩
    obtain ⟨e1, e2⟩ := placeCells_get ps i hi
    exact ⟨hg, by simpa using hcl _ _ e1, by rw [Nat.zero_add]; exact hcl _ _ e2⟩
theorem info_place : (Tryd.prog.info? 30).map (fun i => (i.zero, i.size, i.bytes)) = some (some (.agg #[.int .i64 0, .int .i64 0]), 2, 16) := by kernel_rfl
theorem two_news {w : World} {g : Nat} {a b : Value} (h0 : w.cell? ⟨g, 0, none⟩ = some a) (h1 : w.cell? ⟨g, 1, none⟩ = some b) : ∀ j u, [a, b][j]? = some u → w.cell? ((⟨g, 0, none⟩ : Addr).add j) = some u := by
  intro j u hu
  match j, hu with
  | 0, hu => simp at hu; subst hu; simpa [Addr.add] using h0
  | 1, hu => simp at hu; subst hu; simpa [Addr.add] using h1
  | n + 2, hu => simp at hu
theorem two_one {a b : Nat} : ∀ u ∈ [Value.int .i64 (a : Int), Value.int .i64 (b : Int)], u.oneCell' = true := by
  intro u hu
  simp at hu
  rcases hu with rfl | rfl <;> rfl
def WinPost (w : World) (ps : List (Nat × Nat)) (c : Int) (e : Ending) (w' : World) : Prop := ∃ vo, e = .returned (.tuple #[vo, .int .i64 c]) ∧ RowAt 2 PlaceR w' vo ps ∧ Below w.heap.size w w'
def RefsPost (w : World) (ps : List (Nat × Nat)) (n : ByteArray) (c : Int) (e : Ending) (w' : World) : Prop := ∃ vo, e = .returned (.tuple #[vo, .string n, .int .i64 c]) ∧ RowAt 2 PlaceR w' vo ps ∧ Below w.heap.size w w'
/-- which symbols are local, or win -/
def selB (fl : List Spot) (x : Spot) : Bool := decide (x.it.bind = 0) || decide (winnerIn fl x.it.name.data.toList = some (x.obj, x.sym))
def selPlaces (fl pre : List Spot) : List (Nat × Nat) := (pre.filter (selB fl)).map fun x => (x.obj, x.sym)
theorem selPlaces_yes {fl pre : List Spot} {x : Spot} (h : selB fl x = true) : selPlaces fl (pre ++ [x]) = selPlaces fl pre ++ [(x.obj, x.sym)] := by simp [selPlaces, h]
theorem selPlaces_no {fl pre : List Spot} {x : Spot} (h : selB fl x = false) : selPlaces fl (pre ++ [x]) = selPlaces fl pre := by simp [selPlaces, h]
theorem selPlaces_le (fl pre : List Spot) : (selPlaces fl pre).length ≤ pre.length := by
  unfold selPlaces
  rw [List.length_map]
  exact List.length_filter_le _ _
end Go.Proofs.YtnhmbflinbfeoaaDoor
