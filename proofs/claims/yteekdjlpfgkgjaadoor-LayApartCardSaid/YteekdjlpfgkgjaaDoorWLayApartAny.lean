/- aediculelaw14.LayApart answers true whatever it is given. -/
import Derived.Test.YteekdjlpfgkgjaaDoorWLayApartM
namespace Go.Proofs.YteekdjlpfgkgjaaDoor
open Go.RowKit
theorem layApart_any (v v2 : Value) (l : List GObj) (ps : List GP) (x : Int) (w : World) (h : ObjsAt w v l) (h2 : RowAt 2 PlcR w v2 ps) (hx0 : 0 ≤ x) (hx1 : x ≤ 65535) :
    Calls Tryd.prog 4 #[v, v2, .int .u16 x] w fun e w' => e = .returned (.bool true) ∧ Below w.heap.size w w' := by
  by_cases hg : large13B l = true ∨ 1200 < ps.length
  · exact layApart_guard v v2 l ps x w h h2 hg
  · have h1 : large13B l = false := by
      cases hb : large13B l with
      | false => rfl
      | true => exact absurd (.inl hb) hg
    have hlen : ps.length ≤ 1200 := by
      apply Classical.byContradiction; intro hn; exact hg (.inr (by omega))
    by_cases he : (layOf l ps).2.2 = 0
    · exact layApart_ok v v2 l ps x w h h2 h1 hlen hx0 hx1 (layOf l ps).1 (layOf l ps).2.1 (by rw [← he])
    · exact layApart_err v v2 l ps x w h h2 h1 hlen he
end Go.Proofs.YteekdjlpfgkgjaaDoor
