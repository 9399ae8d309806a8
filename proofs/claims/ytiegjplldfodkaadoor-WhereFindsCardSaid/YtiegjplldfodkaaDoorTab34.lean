/- Tables as rows of a world. No program in sight. -/
import Derived.Test.YtiegjplldfodkaaDoorPlain34
import Derived.Test.YtiegjplldfodkaaDoorOwn
import Derived.Test.YtiegjplldfodkaaDoorRow0
import Derived.Test.YtiegjplldfodkaaDoorKeep
namespace Go.Proofs.YtiegjplldfodkaaDoor
open Go.RowKit
def TsBd (x : GTs) : Prop := (0 ≤ x.addr ∧ x.addr ≤ 4294967295) ∧ (0 ≤ x.size ∧ x.size ≤ 4294967295) ∧ (0 ≤ x.kind ∧ x.kind ≤ 255) ∧ x.name.size ≤ 140737488355328 ∧ x.object.size ≤ 140737488355328
def TsR (w : World) (b o : Nat) (x : GTs) : Prop :=
  b < w.heap.size ∧ w.cell? ⟨b, o, none⟩ = some (.string x.name) ∧ w.cell? ⟨b, o + 1, none⟩ = some (.string x.object) ∧ w.cell? ⟨b, o + 2, none⟩ = some (.int .u32 x.addr) ∧ w.cell? ⟨b, o + 3, none⟩ = some (.int .u32 x.size) ∧ w.cell? ⟨b, o + 4, none⟩ = some (.int .u8 x.kind) ∧ TsBd x
theorem tsR_keeps : Keeps TsR := fun _ _ _ _ _ hb ⟨h0, h1, h2, h3, h4, h5, r⟩ => ⟨size_keep hb h0, cell_keep hb h0 h1, cell_keep hb h0 h2, cell_keep hb h0 h3, cell_keep hb h0 h4, cell_keep hb h0 h5, r⟩
abbrev TabAt (w : World) (v : Value) (t : List GTs) : Prop := RowAt 5 TsR w v t
theorem TabAt.keep' {w w' : World} {v : Value} {t : List GTs} (hb : Below w.heap.size w w') (h : TabAt w v t) : TabAt w' v t := RowAt.keep tsR_keeps hb h
def tsCells (x : GTs) : List Value := [.string x.name, .string x.object, .int .u32 x.addr, .int .u32 x.size, .int .u8 x.kind]
theorem tsCells_len (x : GTs) : (tsCells x).length = 5 := rfl
theorem tsCells_one {l : List GTs} : ∀ u ∈ l.flatMap tsCells, u.oneCell' = true := by
  intro u hu
  obtain ⟨x, _, hx⟩ := List.mem_flatMap.1 hu
  simp only [tsCells, List.mem_cons, List.not_mem_nil, or_false] at hx
  rcases hx with rfl | rfl | rfl | rfl | rfl <;> rfl
theorem ts_news {w : World} {b o : Nat} {l : List GTs} (h : ∀ i (hi : i < l.length), TsR w b (o + i * 5) l[i]) : ∀ j u, (l.flatMap tsCells)[j]? = some u → w.cell? ((⟨b, o, none⟩ : Addr).add j) = some u := by
  refine row_news tsCells_len (by omega) fun i hi j u hu => ?_
  obtain ⟨-, h1, h2, h3, h4, h5, -⟩ := h i hi
  match j, hu with
  | 0, hu => cases hu; exact h1
  | 1, hu => cases hu; exact h2
  | 2, hu => cases hu; exact h3
  | 3, hu => cases hu; exact h4
  | 4, hu => cases hu; exact h5
theorem ts_back {w : World} {v : Value} {base : Nat} {e : TypeId} {l : List GTs} (hb : ∀ x ∈ l, TsBd x) (hm : l.length ≤ 140737488355328) (h : w.ownsRow base e 5 v l.length (l.flatMap tsCells)) : TabAt w v l :=
  owned_row tsCells_len h hm fun _ _ _ hi hg hcell => ⟨hg, hcell 0 _ (by omega) rfl, hcell 1 _ (by omega) rfl, hcell 2 _ (by omega) rfl, hcell 3 _ (by omega) rfl, hcell 4 _ (by omega) rfl, hb _ (List.getElem_mem hi)⟩
theorem TabAt.bd {w : World} {v : Value} {t : List GTs} (h : TabAt w v t) : ∀ x ∈ t, TsBd x := by
  obtain ⟨_, _, _, _, -, -, -, -, hc⟩ := h
  intro x hx
  obtain ⟨i, hi, rfl⟩ := List.mem_iff_getElem.1 hx
  exact (hc i hi).2.2.2.2.2.2
def mvCells (x : GMv) : List Value := [.string x.name, .string x.object, .int .u32 x.fro, .int .u32 x.to]
theorem mvCells_len (x : GMv) : (mvCells x).length = 4 := rfl
def MvR (w : World) (b o : Nat) (x : GMv) : Prop :=
  b < w.heap.size ∧ w.cell? ⟨b, o, none⟩ = some (.string x.name) ∧ w.cell? ⟨b, o + 1, none⟩ = some (.string x.object) ∧ w.cell? ⟨b, o + 2, none⟩ = some (.int .u32 x.fro) ∧ w.cell? ⟨b, o + 3, none⟩ = some (.int .u32 x.to)
theorem mvR_keeps : Keeps MvR := fun _ _ _ _ _ hb ⟨h0, h1, h2, h3, h4⟩ => ⟨size_keep hb h0, cell_keep hb h0 h1, cell_keep hb h0 h2, cell_keep hb h0 h3, cell_keep hb h0 h4⟩
theorem mv_back {w : World} {v : Value} {base : Nat} {e : TypeId} {l : List GMv} (hm : l.length ≤ 140737488355328) (h : w.ownsRow base e 4 v l.length (l.flatMap mvCells)) : RowAt 4 MvR w v l :=
  owned_row mvCells_len h hm fun _ _ _ _ hg hcell => ⟨hg, hcell 0 _ (by omega) rfl, hcell 1 _ (by omega) rfl, hcell 2 _ (by omega) rfl, hcell 3 _ (by omega) rfl⟩
end Go.Proofs.YtiegjplldfodkaaDoor
