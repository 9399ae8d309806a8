/- append onto nothing: a copy. No program in sight. Rows of cells: a row of one's own is a row of elements, and a row of elements has its cells. No program in sight. The rows of places, notes and symbols as rows of cells. No program in sight. -/
import Derived.Test.YtoonkfhphbojcaaGreatDoorBv03
import Derived.Laws.AppendOwnNone
import Derived.OwnWalk
namespace Go.Proofs.YtoonkfhphbojcaaGreatDoor
open Go.RowKit
theorem run_copy_none {P : Program} {w : World} (t ty e : TypeId) (i : TypeInfo) (ht : P.underlying t = some (.slice e)) (hi : P.info? e = some i) (p : Option Addr) (c : Nat) :
    (Builtin.append_ #[t, t] ty #[.slice none 0 0, .slice p 0 c]).run P w = .ok (.slice none 0 0) w := by
  cases p <;> simp [Builtin.append_, run_underlying ht, sizeOf, typeInfo, hi, Builtin.lenOf, Builtin.firstCells, loadCells, loadCellsFrom]
/-- append(nil, x...) where x is a row: a row of one's own with x's cells -/
theorem wpList_copy {P : Program} {w : World} {ops : Array Oper} {rest : List Oper} {o : Oper} {a : Act} {Q : Exit → Act → World → Prop} (hgd : o.guard = none) (s x : Operand) (t : TypeId)
    (ho : o.op = .call { callee := .builtin .append, args := #[s, x], argTypes := #[t, t] })
    (e : TypeId) (i : TypeInfo) (z : Value) (size bytes : Nat) (ht : P.underlying t = some (.slice e)) (hi : P.info? e = some i) (hz : i.zero = some z)
    (hsize : i.size = size) (hby : i.bytes = bytes) (hzs : z.cells.size = size) (hsz : 0 < size) (hs : a.eval s = .slice none 0 0)
    (p : Option Addr) (m c b off : Nat) (news : List Value) (hx : a.eval x = .slice p m c) (hp : 0 < m → p = some ⟨b, off, none⟩) (hl : news.length = m * size) (hnews : 0 < m → ∀ j u, news[j]? = some u → w.cell? ((⟨b, off, none⟩ : Addr).add j) = some u) (h1 : ∀ u ∈ news, u.oneCell' = true)
    (hm : m ≤ 140737488355328) (hbytes : m * bytes ≤ 140737488355328)
    (h : ∀ v' w', w'.ownsRow w.heap.size e size v' m news → w.grownBy w' none → wpList P ops Q rest (a.put o.dst v') w') : wpList P ops Q (o :: rest) a w := by
  by_cases h0 : m = 0
  · subst h0
    refine wpList_plain hgd fun K hK => ?_
    have hrun := run_copy_none (P := P) (w := w) t o.type e i ht hi p c
    have hn : news = [] := List.eq_nil_of_length_eq_zero (by rw [hl, Nat.zero_mul])
    subst hn
    unfold Oper.wp
    simp [execOp, ho, resolve, invoke, builtin, hs, hx, hrun, Result.andThen]
    exact hK _ _ (h _ _ (World.ownsRow_nil w _ _ _) (World.grownBy.refl w none))
  · obtain rfl := hp (by omega)
    refine wpList_append_own w hgd s x t ho w.heap.size e i z size bytes ht hi hz hsize hby hzs hsz (.slice none 0 0) 0 [] hs (World.ownsRow_nil w _ _ _) _ m c news hx hl (hnews (by omega)) h1 (by unfold maxLen; omega) (by simpa using hbytes) (Nat.le_refl _) ?_
    intro v' w' h2 h3 _
    exact h v' w' (by simpa using h2) h3
end Go.Proofs.YtoonkfhphbojcaaGreatDoor
namespace Go.Proofs.YtoonkfhphbojcaaGreatDoor
open Go.RowKit
theorem add_at (b o i : Nat) : (⟨b, o, none⟩ : Addr).add i = ⟨b, o + i, none⟩ := by
  unfold Addr.add
  by_cases h : i = 0 <;> simp [h]
theorem flat_len {α : Type} {k : Nat} {f : α → List Value} (hk : ∀ x, (f x).length = k) : ∀ l : List α, (l.flatMap f).length = l.length * k
  | [] => by simp
  | x :: r => by
    rw [List.flatMap_cons, List.length_append, flat_len hk r, hk, List.length_cons, Nat.succ_mul]; omega
theorem flat_get {α : Type} {k : Nat} {f : α → List Value} (hk : ∀ x, (f x).length = k) : ∀ (l : List α) (i j : Nat) (hi : i < l.length), j < k → (l.flatMap f)[i * k + j]? = (f l[i])[j]?
  | x :: r, 0, j, _, hj => by
    rw [List.flatMap_cons, Nat.zero_mul, Nat.zero_add, List.getElem?_append_left (by rw [hk]; exact hj)]; rfl
  | x :: r, i + 1, j, hi, hj => by
    have h1 : (i + 1) * k + j = k + (i * k + j) := by rw [Nat.succ_mul]; omega
    rw [List.flatMap_cons, h1, List.getElem?_append_right (by rw [hk]; omega), hk, Nat.add_sub_cancel_left, flat_get hk r i j (by simpa using hi) hj]; rfl
theorem flat_inv {α : Type} {k : Nat} {f : α → List Value} (hk : ∀ x, (f x).length = k) (hk0 : 0 < k) {l : List α} {q : Nat} {u : Value} (h : (l.flatMap f)[q]? = some u) : ∃ (i j : Nat) (hi : i < l.length), j < k ∧ q = i * k + j ∧ (f l[i])[j]? = some u := by
  have hq : q < l.length * k := by
    rw [← flat_len hk l]
    exact (List.getElem?_eq_some_iff.1 h).1
  have hi : q / k < l.length := Nat.div_lt_of_lt_mul (by rw [Nat.mul_comm]; exact hq)
  have hj := Nat.mod_lt q hk0
  have he : q = q / k * k + q % k := by rw [Nat.mul_comm]; exact (Nat.div_add_mod q k).symm
  refine ⟨q / k, q % k, hi, hj, he, ?_⟩
  rw [← flat_get hk l _ _ hi hj, ← he]
  exact h
/-- the cells that a row of elements has -/
theorem row_news {α : Type} {k : Nat} {f : α → List Value} (hk : ∀ x, (f x).length = k) (hk0 : 0 < k) {w : World} {b o : Nat} {l : List α} (h : ∀ i (hi : i < l.length) j u, (f l[i])[j]? = some u → w.cell? ⟨b, o + i * k + j, none⟩ = some u) :
    ∀ j u, (l.flatMap f)[j]? = some u → w.cell? ((⟨b, o, none⟩ : Addr).add j) = some u := by
  intro q u hq
  obtain ⟨i, j, hi, hj, rfl, hu⟩ := flat_inv hk hk0 hq
  rw [add_at, ← Nat.add_assoc]
  exact h i hi j u hu
/-- a row of one's own, as a row of elements -/
theorem owned_row {α : Type} {k base : Nat} {e : TypeId} {f : α → List Value} (hk : ∀ x, (f x).length = k) {w : World} {v : Value} {l : List α} (h : w.ownsRow base e k v l.length (l.flatMap f)) (hl : l.length ≤ 140737488355328)
    {R : World → Nat → Nat → α → Prop} (hR : ∀ g o i (hi : i < l.length), g < w.heap.size → (∀ j u, j < k → (f l[i])[j]? = some u → w.cell? ⟨g, o + j, none⟩ = some u) → R w g o l[i]) : RowAt k R w v l := by
  rcases h.2 with ⟨rfl, h0⟩ | ⟨g, cap, cur, rfl, hb, hg, hnc, hcm, hcs, htk⟩
  · refine ⟨none, 0, 0, 0, by rw [h0], by omega, hl, fun h => by omega, fun i h => by omega⟩
  · have hglt : g < w.heap.size := (Array.getElem?_eq_some_iff.1 hg).1
    refine ⟨_, cap, g, 0, rfl, hnc, hl, fun _ => rfl, fun i hi => hR g _ i hi hglt fun j u hj hu => ?_⟩
    rw [← flat_get hk l i j hi hj] at hu
    have h1 := h.cells (g := g) rfl _ _ hu
    rw [add_at] at h1
    rw [Nat.add_assoc]
    exact h1
end Go.Proofs.YtoonkfhphbojcaaGreatDoor
namespace Go.Proofs.YtoonkfhphbojcaaGreatDoor
open Go.RowKit
def relCells (x : GRel) : List Value := [.int .u32 x.off, .int .u8 x.kind, .string x.name, .int .u32 x.add]
def noteCells (x : GNote) : List Value := [.int .u8 x.kind, .int .u32 x.n, .int .u32 x.m]
theorem relCells_len (x : GRel) : (relCells x).length = 4 := rfl
theorem noteCells_len (x : GNote) : (noteCells x).length = 3 := rfl
theorem relCells_one {l : List GRel} : ∀ u ∈ l.flatMap relCells, u.oneCell' = true := by
  intro u hu
  obtain ⟨x, _, hx⟩ := List.mem_flatMap.1 hu
  simp only [relCells, List.mem_cons, List.not_mem_nil, or_false] at hx
  rcases hx with rfl | rfl | rfl | rfl <;> rfl
theorem noteCells_one {l : List GNote} : ∀ u ∈ l.flatMap noteCells, u.oneCell' = true := by
  intro u hu
  obtain ⟨x, _, hx⟩ := List.mem_flatMap.1 hu
  simp only [noteCells, List.mem_cons, List.not_mem_nil, or_false] at hx
  rcases hx with rfl | rfl | rfl <;> rfl
theorem rel_news {w : World} {b o : Nat} {l : List GRel} (h : ∀ i (hi : i < l.length), RelR w b (o + i * 4) l[i]) : ∀ j u, (l.flatMap relCells)[j]? = some u → w.cell? ((⟨b, o, none⟩ : Addr).add j) = some u := by
  refine row_news relCells_len (by omega) fun i hi j u hu => ?_
  obtain ⟨-, h1, h2, h3, h4, -⟩ := h i hi
  match j, hu with
  | 0, hu => cases hu; exact h1
  | 1, hu => cases hu; exact h2
  | 2, hu => cases hu; exact h3
  | 3, hu => cases hu; exact h4
theorem note_news {w : World} {b o : Nat} {l : List GNote} (h : ∀ i (hi : i < l.length), NoteR w b (o + i * 3) l[i]) : ∀ j u, (l.flatMap noteCells)[j]? = some u → w.cell? ((⟨b, o, none⟩ : Addr).add j) = some u := by
  refine row_news noteCells_len (by omega) fun i hi j u hu => ?_
  obtain ⟨-, h1, h2, h3, -⟩ := h i hi
  match j, hu with
  | 0, hu => cases hu; exact h1
  | 1, hu => cases hu; exact h2
  | 2, hu => cases hu; exact h3
theorem rel_back {w0 w : World} {v0 v : Value} {base : Nat} {e : TypeId} {l : List GRel} (h0 : RowAt 4 RelR w0 v0 l) (h : w.ownsRow base e 4 v l.length (l.flatMap relCells)) : RowAt 4 RelR w v l := by
  obtain ⟨_, _, b, o, -, -, hm, -, hc⟩ := h0
  refine owned_row relCells_len h hm fun g o' i hi hg hcell => ?_
  obtain ⟨-, -, -, -, -, hbd⟩ := hc i hi
  exact ⟨hg, hcell 0 _ (by omega) rfl, hcell 1 _ (by omega) rfl, hcell 2 _ (by omega) rfl, hcell 3 _ (by omega) rfl, hbd⟩
theorem note_back {w0 w : World} {v0 v : Value} {base : Nat} {e : TypeId} {l : List GNote} (h0 : RowAt 3 NoteR w0 v0 l) (h : w.ownsRow base e 3 v l.length (l.flatMap noteCells)) : RowAt 3 NoteR w v l := by
  obtain ⟨_, _, b, o, -, -, hm, -, hc⟩ := h0
  refine owned_row noteCells_len h hm fun g o' i hi hg hcell => ?_
  obtain ⟨-, -, -, -, hbd⟩ := hc i hi
  exact ⟨hg, hcell 0 _ (by omega) rfl, hcell 1 _ (by omega) rfl, hcell 2 _ (by omega) rfl, hbd⟩
/-- a symbol with its two rows -/
abbrev SymT := GSym × Value × Value
def symCells (t : SymT) : List Value := [.string t.1.name, .int .u8 t.1.bind, .int .u8 t.1.kind, .int .u32 t.1.size, .string t.1.bytes, t.2.1, t.2.2]
theorem symCells_len (x : SymT) : (symCells x).length = 7 := rfl
theorem sym_back {w : World} {v : Value} {base : Nat} {e : TypeId} {ts : List SymT} (h : w.ownsRow base e 7 v ts.length (ts.flatMap symCells)) (hl : ts.length ≤ 140737488355328) (hin : ∀ t ∈ ts, SymIn w t.1 t.2.1 t.2.2) : RowAt 7 SymR w v (ts.map (·.1)) := by
  have h1 : RowAt 7 (fun w b o (t : SymT) => SymR w b o t.1) w v ts := owned_row symCells_len h hl fun g o' i hi hg hcell =>
    ⟨ts[i].2.1, ts[i].2.2, hg, hcell 0 _ (by omega) rfl, hcell 1 _ (by omega) rfl, hcell 2 _ (by omega) rfl, hcell 3 _ (by omega) rfl, hcell 4 _ (by omega) rfl, hcell 5 _ (by omega) rfl, hcell 6 _ (by omega) rfl, hin _ (List.getElem_mem hi)⟩
  obtain ⟨p, cap, b, o, rfl, h2, h3, h4, h5⟩ := h1
  exact ⟨p, cap, b, o, by simp, by simpa using h2, by simpa using h3, by simpa using h4, fun i hi => by simpa using h5 i (by simpa using hi)⟩
end Go.Proofs.YtoonkfhphbojcaaGreatDoor
