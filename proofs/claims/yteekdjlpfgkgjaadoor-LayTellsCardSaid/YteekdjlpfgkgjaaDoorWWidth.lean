/- The walk of aediculeref08.Width. -/
import Derived.Test.YteekdjlpfgkgjaaDoorRows
import Derived.Test.YteekdjlpfgkgjaaDoorData
import Derived.WalkLawsBesides
namespace Go.Proofs.YteekdjlpfgkgjaaDoor
open Go.RowKit
set_option maxHeartbeats 400000 in
theorem refWidth_any (k : Int) (w : World) :
    Calls Tryd.prog 50 #[.int .u8 k] w fun e w' => e = .returned (.int .i64 (widthOf k)) ∧ w = w' := by
  unfold widthOf
  by_cases h1 : k = 1
  · subst h1
    go_enter Tryd.func50, Tryd.ntmps50
    go_wp2
    go_ret
    exact ⟨rfl, rfl⟩
  · rw [if_neg h1]
    have g1 : (k == 1) = false := by simpa using h1
    clear h1
    by_cases h2 : k = 2
    · subst h2
      go_enter Tryd.func50, Tryd.ntmps50
      go_wp2
      go_ret
      exact ⟨rfl, rfl⟩
    · rw [if_neg h2]
      have g2 : (k == 2) = false := by simpa using h2
      clear h2
      go_enter Tryd.func50, Tryd.ntmps50
      go_wp2
      go_ret
      exact ⟨rfl, rfl⟩
end Go.Proofs.YteekdjlpfgkgjaaDoor
