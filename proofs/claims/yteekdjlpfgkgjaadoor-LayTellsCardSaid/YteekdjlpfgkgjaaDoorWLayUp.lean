/- The walk of lay.up. -/
import Derived.Test.YteekdjlpfgkgjaaDoorRows
import Derived.Test.YteekdjlpfgkgjaaDoorPlain
import Derived.Lib.Hide
import Derived.Laws.BitsAllLaws
namespace Go.Proofs.YteekdjlpfgkgjaaDoor
open Go.RowKit Go.Maps Go.WideMaps
theorem andNot255 (n : Int) (h0 : 0 ≤ n) (h1 : n ≤ 200000) : bits .andNot .u32 (n + 256 - 1) 255 = upTo n 256 := by
  rw [u32_andNot _ _ (by omega) (by omega) (by omega) (by omega), show (4294967295 - (255 : Int).toNat) = 4294967040 from rfl, mask256 _ (by omega)]
  unfold upTo; omega
theorem andNot7 (n : Int) (h0 : 0 ≤ n) (h1 : n ≤ 200000) : bits .andNot .u32 (n + 8 - 1) 7 = upTo n 8 := by
  rw [u32_andNot _ _ (by omega) (by omega) (by omega) (by omega), show (4294967295 - (7 : Int).toNat) = 4294967288 from rfl, mask8 _ (by omega)]
  unfold upTo; omega
set_option maxHeartbeats 400000 in
theorem up_256 (n : Int) (w : World) (h0 : 0 ≤ n) (h1 : n ≤ 200000) : Calls Tryd.prog 33 #[.int .u32 n, .int .u32 256] w fun e w' => e = .returned (.int .u32 (upTo n 256)) ∧ w = w' := by
  go_enter Tryd.func33, Tryd.ntmps33
  go_wp2
  go_ret
  exact ⟨ret_int (andNot255 n h0 h1), rfl⟩
set_option maxHeartbeats 400000 in
theorem up_8 (n : Int) (w : World) (h0 : 0 ≤ n) (h1 : n ≤ 200000) : Calls Tryd.prog 33 #[.int .u32 n, .int .u32 8] w fun e w' => e = .returned (.int .u32 (upTo n 8)) ∧ w = w' := by
  go_enter Tryd.func33, Tryd.ntmps33
  go_wp2
  go_ret
  exact ⟨ret_int (andNot7 n h0 h1), rfl⟩
end Go.Proofs.YteekdjlpfgkgjaaDoor
