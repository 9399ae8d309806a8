/- An image linked of symbols (layer 18), in plain words. No program in sight. -/
import Derived.Test.YtboegjdkedjhcaaGreatDoorBd12
import Derived.Test.YtboegjdkedjhcaaGreatDoorBd33
import Derived.Test.YtboegjdkedjhcaaGreatDoorBd23
import Derived.Test.YtboegjdkedjhcaaGreatDoorBd29
namespace Go.Proofs.YtboegjdkedjhcaaGreatDoor
structure GSeg where
  addr : Int
  perm : Int
  bytes : ByteArray
structure GLink where
  man : GMan
  entry : Int
  segs : List GSeg
  addrs : List GAddr
def link0 : GLink := ⟨man0, 0, [], []⟩
/-- all symbols' bytes, each where it is laid; or the first one that can't be filled -/
def fillGo (l : List GObj) (wh : List GAddr) : List GP → List GAddr → BL → BL × ByteArray × Int
  | p :: r, a :: q, b =>
    match symAt l p with
    | some s => if (filledR l wh p s).2 = 0 then fillGo l wh r q (putB b (filledR l wh p s).1.data.toList a.at_.toNat) else (b, s.name, (filledR l wh p s).2)
    | none => (b, emptyB, 0)
  | _, _, b => (b, emptyB, 0)
def segOf (b : BL) (x : GSpan) : GSeg := ⟨x.at_, permK x.kind, bsOf ((b.drop x.at_.toNat).take x.size.toNat)⟩
def zeros18 : BL := List.replicate 131072 0
/-- what the walk asks of where symbols are laid -/
structure SegsOk (l : List GObj) (wh : List GAddr) (ps : List GP) (spans : List GSpan) : Prop where
  len : wh.length = ps.length
  sym : ∀ k (h : k < ps.length) (h2 : k < wh.length), ∃ s, symAt l ps[k] = some s ∧ s.bytes.size < 4294967296 ∧ (refsV (beginR l) l ps[k].1 ps[k].2).1.length ≤ 100000 ∧ 0 ≤ wh[k].at_ ∧ wh[k].at_ < 131072 ∧ ((filledR l wh ps[k] s).2 = 0 → wh[k].at_ + (filledR l wh ps[k] s).1.size ≤ 131072)
  spn : ∀ x ∈ spans, 0 ≤ x.at_ ∧ 1 ≤ x.size ∧ x.at_ + x.size ≤ 131072
  few : spans.length ≤ 3
theorem fillGo_step {l : List GObj} {wh : List GAddr} {ps : List GP} {k : Nat} {b : BL} {p : GP} {a : GAddr} {s : GSym} (h : k < ps.length) (h2 : k < wh.length) (hp : ps[k] = p) (ha : wh[k] = a) (hs : symAt l p = some s) :
    fillGo l wh (ps.drop k) (wh.drop k) b = if (filledR l wh p s).2 = 0 then fillGo l wh (ps.drop (k + 1)) (wh.drop (k + 1)) (putB b (filledR l wh p s).1.data.toList a.at_.toNat) else (b, s.name, (filledR l wh p s).2) := by
  rw [List.drop_eq_getElem_cons h, List.drop_eq_getElem_cons h2, hp, ha, fillGo, hs]
theorem fillGo_end {l : List GObj} {wh : List GAddr} {ps : List GP} {k : Nat} {b : BL} (h : ¬ k < ps.length) : fillGo l wh (ps.drop k) (wh.drop k) b = (b, emptyB, 0) := by
  rw [List.drop_of_length_le (by omega)]; cases wh.drop k <;> rfl
end Go.Proofs.YtboegjdkedjhcaaGreatDoor
