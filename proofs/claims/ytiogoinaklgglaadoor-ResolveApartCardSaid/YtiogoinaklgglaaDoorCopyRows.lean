/- The rows of places, notes and symbols as rows of cells. No program in sight. -/
import Derived.Test.YtiogoinaklgglaaDoorRowCells
namespace Go.Proofs.YtiogoinaklgglaaDoor
open Go.RowKit
def relCells (x : GRel) : List Value := [.int .u32 x.off, .int .u8 x.kind, .string x.name, .int .u32 x.add]
def noteCells (x : GNote) : List Value := [.int .u8 x.kind, .int .u32 x.n, .int .u32 x.m]
theorem relCells_len (x : GRel) : (relCells x).length = 4 := rfl
theorem noteCells_len (x : GNote) : (noteCells x).length = 3 := rfl
theorem relCells_one {l : List GRel} : ∀ u ∈ l.flatMap relCells, u.oneCell' = true := by
  intro u hu
  obtain ⟨x, _, hx⟩ := List.mem_flatMap.1 hu
  simp only [relCells, List.mem_cons, List.not_mem_nil, or_false] at hx
  rcases hx with rfl | rfl | rfl | rfl <;> rfl
theorem noteCells_one {l : List GNote} : ∀ u ∈ l.flatMap noteCells, u.oneCell' = true := by
  intro u hu
  obtain ⟨x, _, hx⟩ := List.mem_flatMap.1 hu
  simp only [noteCells, List.mem_cons, List.not_mem_nil, or_false] at hx
  rcases hx with rfl | rfl | rfl <;> rfl
theorem rel_news {w : World} {b o : Nat} {l : List GRel} (h : ∀ i (hi : i < l.length), RelR w b (o + i * 4) l[i]) : ∀ j u, (l.flatMap relCells)[j]? = some u → w.cell? ((⟨b, o, none⟩ : Addr).add j) = some u := by
  refine row_news relCells_len (by omega) fun i hi j u hu => ?_
  obtain ⟨-, h1, h2, h3, h4, -⟩ := h i hi
  match j, hu with
  | 0, hu => cases hu; exact h1
  | 1, hu => cases hu; exact h2
  | 2, hu => cases hu; exact h3
  | 3, hu => cases hu; exact h4
theorem note_news {w : World} {b o : Nat} {l : List GNote} (h : ∀ i (hi : i < l.length), NoteR w b (o + i * 3) l[i]) : ∀ j u, (l.flatMap noteCells)[j]? = some u → w.cell? ((⟨b, o, none⟩ : Addr).add j) = some u := by
  refine row_news noteCells_len (by omega) fun i hi j u hu => ?_
  obtain ⟨-, h1, h2, h3, -⟩ := h i hi
  match j, hu with
  | 0, hu => cases hu; exact h1
  | 1, hu => cases hu; exact h2
  | 2, hu => cases hu; exact h3
theorem rel_back {w0 w : World} {v0 v : Value} {base : Nat} {e : TypeId} {l : List GRel} (h0 : RowAt 4 RelR w0 v0 l) (h : w.ownsRow base e 4 v l.length (l.flatMap relCells)) : RowAt 4 RelR w v l := by
  obtain ⟨_, _, b, o, -, -, hm, -, hc⟩ := h0
  refine owned_row relCells_len h hm fun g o' i hi hg hcell => ?_
  obtain ⟨-, -, -, -, -, hbd⟩ := hc i hi
  exact ⟨hg, hcell 0 _ (by omega) rfl, hcell 1 _ (by omega) rfl, hcell 2 _ (by omega) rfl, hcell 3 _ (by omega) rfl, hbd⟩
theorem note_back {w0 w : World} {v0 v : Value} {base : Nat} {e : TypeId} {l : List GNote} (h0 : RowAt 3 NoteR w0 v0 l) (h : w.ownsRow base e 3 v l.length (l.flatMap noteCells)) : RowAt 3 NoteR w v l := by
  obtain ⟨_, _, b, o, -, -, hm, -, hc⟩ := h0
  refine owned_row noteCells_len h hm fun g o' i hi hg hcell => ?_
  obtain ⟨-, -, -, -, hbd⟩ := hc i hi
  exact ⟨hg, hcell 0 _ (by omega) rfl, hcell 1 _ (by omega) rfl, hcell 2 _ (by omega) rfl, hbd⟩
/-- a symbol with its two rows -/
abbrev SymT := GSym × Value × Value
def symCells (t : SymT) : List Value := [.string t.1.name, .int .u8 t.1.bind, .int .u8 t.1.kind, .int .u32 t.1.size, .string t.1.bytes, t.2.1, t.2.2]
theorem symCells_len (x : SymT) : (symCells x).length = 7 := rfl
theorem sym_back {w : World} {v : Value} {base : Nat} {e : TypeId} {ts : List SymT} (h : w.ownsRow base e 7 v ts.length (ts.flatMap symCells)) (hl : ts.length ≤ 140737488355328) (hin : ∀ t ∈ ts, SymIn w t.1 t.2.1 t.2.2) : RowAt 7 SymR w v (ts.map (·.1)) := by
  have h1 : RowAt 7 (fun w b o (t : SymT) => SymR w b o t.1) w v ts := owned_row symCells_len h hl fun g o' i hi hg hcell =>
    ⟨ts[i].2.1, ts[i].2.2, hg, hcell 0 _ (by omega) rfl, hcell 1 _ (by omega) rfl, hcell 2 _ (by omega) rfl, hcell 3 _ (by omega) rfl, hcell 4 _ (by omega) rfl, hcell 5 _ (by omega) rfl, hcell 6 _ (by omega) rfl, hin _ (List.getElem_mem hi)⟩
  obtain ⟨p, cap, b, o, rfl, h2, h3, h4, h5⟩ := h1
  exact ⟨p, cap, b, o, by simp, by simpa using h2, by simpa using h3, by simpa using h4, fun i hi => by simpa using h5 i (by simpa using hi)⟩
end Go.Proofs.YtiogoinaklgglaaDoor
