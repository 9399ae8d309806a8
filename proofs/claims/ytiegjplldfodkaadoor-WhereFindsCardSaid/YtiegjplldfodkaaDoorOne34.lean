/- The one table of the law's aliveness, in plain Lean. No program in sight. -/
import Derived.Test.YtiegjplldfodkaaDoorWTabPut
import Derived.Test.YtiegjplldfodkaaDoorWTabGet
namespace Go.Proofs.YtiegjplldfodkaaDoor
open Go.RowKit
def ts34 : GTs := ⟨⟨#[109, 97, 105, 110]⟩, ⟨#[111]⟩, 256, 24, 1⟩
def tab34 : List GTs := [ts34]
def bytes34 : ByteArray := ⟨#[65, 83, 84, 49, 1, 0, 4, 0, 109, 97, 105, 110, 1, 0, 111, 0, 1, 0, 0, 24, 0, 1]⟩
theorem ok34 : tabOk tab34 = true := by kernel_rfl
theorem put34 : putT tab34 = (bytes34, 0) := by kernel_rfl
theorem get34 : getTV bytes34 = (tab34, 0) := by kernel_rfl
theorem getx34 : getTV (bytes34 ++ ⟨#[120]⟩) = ([], 7) := by kernel_rfl
theorem find34 : findT tab34 264 = (0, 8, true) := by kernel_rfl
theorem name34a : nameOf tab34 256 = ⟨#[109, 97, 105, 110]⟩ := by kernel_rfl
theorem name34b : nameOf tab34 264 = ⟨#[109, 97, 105, 110, 43, 48, 48, 48, 56]⟩ := by kernel_rfl
theorem name34c : nameOf tab34 280 = ⟨#[64, 48, 48, 48, 48, 48, 49, 49, 56]⟩ := by kernel_rfl
theorem named34 : namedOf tab34 ⟨#[109, 97, 105, 110]⟩ = tab34 := by kernel_rfl
theorem moves34 : movesOf tab34 [] = [⟨⟨#[109, 97, 105, 110]⟩, ⟨#[111]⟩, 256, 0⟩] := by kernel_rfl
theorem bad34 : tabOk [⟨⟨#[]⟩, ⟨#[]⟩, 0, 0, 0⟩] = false := by kernel_rfl
end Go.Proofs.YtiegjplldfodkaaDoor
