/- The walks of where.reading's num and text. -/
import Derived.Test.YtiegjplldfodkaaDoorWReader
import Derived.Test.YtiegjplldfodkaaDoorRowCells
namespace Go.Proofs.YtiegjplldfodkaaDoor
open Go.RowKit
def RNPost (rb n : Nat) (s : ByteArray) (st : RS) (w : World) (e : Ending) (w' : World) : Prop := e = .returned (.int .u32 (rNum n st).1) ∧ RdS w' rb s (rNum n st).2 ∧ KR rb w w'
def RWPost (rb : Nat) (s : ByteArray) (st : RS) (w : World) (e : Ending) (w' : World) : Prop := e = .returned (.string (rText st).1) ∧ RdS w' rb s (rText st).2 ∧ KR rb w w'
set_option maxHeartbeats 400000 in
theorem readNum_any (rb n : Nat) (s : ByteArray) (st : RS) (w : World) (h : RdS w rb s st) (h1 : 1 ≤ n) (h4 : n ≤ 4) :
    Calls Tryd.prog 34 #[.agg #[.pointer (some ⟨rb, 0, none⟩)], .int .i64 n] w (RNPost rb n s st w) := by
  have hlt := h.lt
  have HC := Lib.hid (rdNum_any rb n s st (w.alloc (.cells #[.pointer (some ⟨rb, 0, none⟩)] 64)) (h.congr (Below.heap_alloc _ _ _ hlt)) h1 h4)
  clear h
  go_enter Tryd.func34, Tryd.ntmps34
  go_wp2_with fail
  refine HC.out.mono ?_
  rintro e w1 ⟨c, rfl, -, k1, k2⟩
  have K1 := Lib.hid k1; have K2 := Lib.hid k2
  clear k1 k2 HC
  go_wp2
  go_ret
  exact ⟨rfl, K1.out, (KB.of_below (alloc_old w _)).trans K2.out⟩
theorem readNum1 (rb : Nat) (s : ByteArray) (st : RS) (w : World) (h : RdS w rb s st) : Calls Tryd.prog 34 #[.agg #[.pointer (some ⟨rb, 0, none⟩)], .int .i64 1] w (RNPost rb 1 s st w) := readNum_any rb 1 s st w h (by omega) (by omega)
theorem readNum2 (rb : Nat) (s : ByteArray) (st : RS) (w : World) (h : RdS w rb s st) : Calls Tryd.prog 34 #[.agg #[.pointer (some ⟨rb, 0, none⟩)], .int .i64 2] w (RNPost rb 2 s st w) := readNum_any rb 2 s st w h (by omega) (by omega)
theorem readNum4 (rb : Nat) (s : ByteArray) (st : RS) (w : World) (h : RdS w rb s st) : Calls Tryd.prog 34 #[.agg #[.pointer (some ⟨rb, 0, none⟩)], .int .i64 4] w (RNPost rb 4 s st w) := readNum_any rb 4 s st w h (by omega) (by omega)
set_option maxHeartbeats 400000 in
theorem readWord_any (rb : Nat) (s : ByteArray) (st : RS) (w : World) (h : RdS w rb s st) :
    Calls Tryd.prog 36 #[.agg #[.pointer (some ⟨rb, 0, none⟩)]] w (RWPost rb s st w) := by
  have hlt := h.lt
  have HC := Lib.hid (rdText_any rb s st (w.alloc (.cells #[.pointer (some ⟨rb, 0, none⟩)] 64)) (h.congr (Below.heap_alloc _ _ _ hlt)))
  clear h
  go_enter Tryd.func36, Tryd.ntmps36
  go_wp2_with fail
  refine HC.out.mono ?_
  rintro e w1 ⟨c, rfl, -, k1, k2⟩
  have K1 := Lib.hid k1; have K2 := Lib.hid k2
  clear k1 k2 HC
  go_wp2
  go_ret
  exact ⟨rfl, K1.out, (KB.of_below (alloc_old w _)).trans K2.out⟩
end Go.Proofs.YtiegjplldfodkaaDoor
