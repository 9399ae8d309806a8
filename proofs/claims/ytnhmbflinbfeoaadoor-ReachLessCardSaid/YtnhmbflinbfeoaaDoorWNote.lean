/- The walks of obj.told, obj.Note and the search over notes. -/
import Derived.Test.YtnhmbflinbfeoaaDoorWObjName
import Derived.Test.YtnhmbflinbfeoaaDoorPlain
import Derived.Deep.Light
import Derived.Handy
namespace Go.Proofs.YtnhmbflinbfeoaaDoor
open Go.RowKit
theorem told_any (b : Bool) (w : World) : Calls Tryd.prog 52 #[.bool b] w fun e w' => e = .returned (.int .i64 (errB b)) ∧ w = w' := by
  cases b <;>
  (go_enter Tryd.func52, Tryd.ntmps52
   go_wp2
   go_ret
   exact ⟨rfl, rfl⟩)
theorem or_zero {n m : Int} (h2 : 0 ≤ n ∧ n ≤ 4294967295) (h3 : 0 ≤ m ∧ m ≤ 4294967295) : (bits .or .u32 n m == 0) = (decide (n = 0) && decide (m = 0)) := by
  rw [u32_or n m h2.1 (by omega) h3.1 (by omega), Bool.eq_iff_iff]
  simp
  omega
set_option maxHeartbeats 1000000 in
theorem note_any (x : GNote) (w : World) (h1 : 0 ≤ x.kind ∧ x.kind ≤ 255) (h2 : 0 ≤ x.n ∧ x.n ≤ 4294967295) (h3 : 0 ≤ x.m ∧ x.m ≤ 4294967295) :
    Calls Tryd.prog 66 #[.agg #[.int .u8 x.kind, .int .u32 x.n, .int .u32 x.m]] w fun e w' => e = .returned (.int .i64 (errB (noteOk x))) ∧ Below w.heap.size w w' := by
  obtain ⟨k, n, m⟩ := x
  simp only [] at *
  go_enter Tryd.func66, Tryd.ntmps66
  go_wp2_with (go_at_call 52; refine (told_any _ _).mono ?_; rintro e w' ⟨rfl, rfl⟩)
  all_goals
    go_ret
    first
    | exact ⟨ret_int (congrArg errB (by go_light; first | (simp_all [noteOk, ibeq]; done) | (simp_all [noteOk]; omega) | (simp_all [noteOk, or_zero]; done))), alloc_old w _⟩
    | exact ⟨ret_int (show errB false = _ from congrArg errB (by go_light; simp_all [noteOk])), alloc_old w _⟩
set_option maxHeartbeats 400000 in
theorem mayNote_any (x : GNote) (w : World) (h1 : 0 ≤ x.kind ∧ x.kind ≤ 255) (h2 : 0 ≤ x.n ∧ x.n ≤ 4294967295) (h3 : 0 ≤ x.m ∧ x.m ≤ 4294967295) :
    Calls Tryd.prog 65 #[.agg #[.int .u8 x.kind, .int .u32 x.n, .int .u32 x.m]] w fun e w' => e = .returned (.bool (!noteOk x)) ∧ Below w.heap.size w w' := by
  go_enter Tryd.func65, Tryd.ntmps65
  go_wp2_with (go_at_call 66; refine (note_any _ _ h1 h2 h3).mono ?_; rintro e w' ⟨rfl, hB⟩)
  go_ret
  exact ⟨ret_bool (by cases noteOk x <;> rfl), (alloc_old w _).trans (hB.mono (by simp))⟩
set_option maxHeartbeats 400000 in
theorem indexNote_any (v : Value) (l : List GNote) (w : World) (h : RowAt 3 NoteR w v l) :
    Calls Tryd.prog 68 #[v, .func (.func 65) #[] #[]] w fun e w' => (∃ n : Int, e = .returned (.int .i64 n) ∧ decide (0 ≤ n) = !l.all noteOk) ∧ Below w.heap.size w w' := by
  obtain ⟨p, cap, b, o, rfl, hcap, hmax, hp, hc⟩ := h
  have HC := Lib.hid hc; clear hc
  have HP := Lib.hid hp; clear hp
  go_enter Tryd.func68, Tryd.ntmps68
  go_wp2
  go_loopw [8] (fun i wr => ∃ k : Nat, k ≤ l.length ∧ i = .int .i64 k ∧ (l.take k).all noteOk = true ∧ Below w.heap.size w wr) (fun i _ => l.length - (intOf i).toNat)
  case atStart => exact ⟨0, Nat.zero_le _, rfl, rfl, Below.refl _ _⟩
  case round =>
    obtain ⟨k, hk, rfl, hall, hbel⟩ := hrel
    have HA := Lib.hid hall; clear hall
    have HB := Lib.hid hbel; clear hbel
    by_cases hlt : k < l.length
    · obtain rfl := HP.out (by omega)
      obtain ⟨g0, g1, g2, g3, g5, g6, g7⟩ := noteR_keeps _ _ _ _ _ HB.out (HC.out k hlt)
      have HCON := Lib.hid (mayNote_any l[k] wr g5 g6 g7)
      generalize hx : l[k] = x at *
      obtain ⟨xk, xn, xm⟩ := x
      simp only [] at *
      have HX := Lib.hid hx; clear hx
      go_wp2_with (go_at_call 65; refine HCON.out.mono ?_; rintro e w' ⟨rfl, hB⟩)
      · have hbad : (!noteOk ⟨xk, xn, xm⟩) = true := by assumption
        go_ret
        exact ⟨⟨k, rfl, by rw [all_bad hlt HX.out (by simpa using hbad)]; simp⟩, HB.out.trans (hB.mono HB.out.size)⟩
      · have hok : (!noteOk ⟨xk, xn, xm⟩) = false := by assumption
        go_roundw
        case rel => exact ⟨k + 1, by omega, by go_num, take_all_snoc hlt HX.out HA.out (by simpa using hok), HB.out.trans (hB.mono HB.out.size)⟩
        case measure => simp [intOf]; omega
    · go_wp2
      go_ret
      exact ⟨⟨-1, rfl, by rw [all_end hlt HA.out]; rfl⟩, HB.out⟩
set_option maxHeartbeats 400000 in
theorem containsNote_any (v : Value) (l : List GNote) (w : World) (h : RowAt 3 NoteR w v l) :
    Calls Tryd.prog 64 #[v, .func (.func 65) #[] #[]] w fun e w' => e = .returned (.bool (!l.all noteOk)) ∧ Below w.heap.size w w' := by
  have HCON := Lib.hid (indexNote_any v l w h); clear h
  go_enter Tryd.func64, Tryd.ntmps64
  go_wp2_with (go_at_call 68; refine HCON.out.mono ?_; rintro e w' ⟨⟨n, rfl, hn⟩, hB⟩; have HN := Lib.hid hn; clear hn)
  go_ret
  exact ⟨ret_bool HN.out, hB⟩
end Go.Proofs.YtnhmbflinbfeoaaDoor
