/- The walks of aediculeref34's num and text. -/
import Derived.Test.YtiegjplldfodkaaDoorWRef07Num
namespace Go.Proofs.YtiegjplldfodkaaDoor
open Go.RowKit
set_option maxHeartbeats 400000 in
set_option maxRecDepth 100000 in
theorem rnum09 (n : Nat) (v : Int) (w : World) (hn : 1 ≤ n) (hn4 : n ≤ 4) (h0 : 0 ≤ v) (h1 : v < pow256 n) (h2 : v ≤ 4294967295) : Calls Tryd.prog 30 #[.int .u32 v, .int .i64 n] w fun e w' => e = .returned (.string (bsOf (leB n v))) ∧ Below w.heap.size w w' := by
  have HC := Lib.hid (rnum07 n v w hn hn4 h0 h1 h2)
  clear h1
  go_enter Tryd.func30, Tryd.ntmps30
  go_wp2_with fail
  refine HC.out.mono ?_
  rintro e w1 ⟨rfl, hB⟩
  go_wp2
  go_ret
  exact ⟨rfl, hB⟩
set_option maxHeartbeats 400000 in
theorem rtext09 (s : ByteArray) (w : World) (hs : s.size < 65536) : Calls Tryd.prog 31 #[.string s] w fun e w' => e = .returned (.string (bsOf (encText s))) ∧ Below w.heap.size w w' := by
  have HC := Lib.hid (rtext07 s w hs)
  go_enter Tryd.func31, Tryd.ntmps31
  go_wp2_with fail
  refine HC.out.mono ?_
  rintro e w1 ⟨rfl, hB⟩
  go_wp2
  go_ret
  exact ⟨rfl, hB⟩
end Go.Proofs.YtiegjplldfodkaaDoor
