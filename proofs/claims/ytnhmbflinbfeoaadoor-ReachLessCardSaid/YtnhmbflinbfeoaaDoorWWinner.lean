/- The walks of resolve.table's winner and of the search over objects. -/
import Derived.Test.YtnhmbflinbfeoaaDoorWObjMay
import Derived.Test.YtnhmbflinbfeoaaDoorPlain
namespace Go.Proofs.YtnhmbflinbfeoaaDoor
open Go.RowKit Go.Maps Go.WideMaps
theorem zeroPlace (w : World) : (zeroValue 30).run Tryd.prog w = .ok (.agg #[.int .i64 0, .int .i64 0]) w := by kernel_rfl
theorem ret_place {a b a' b' : Int} {c c' : Bool} (h1 : a = a') (h2 : b = b') (h3 : c = c') : Ending.returned (.tuple #[.agg #[.int .i64 a, .int .i64 b], .bool c]) = .returned (.tuple #[.agg #[.int .i64 a', .int .i64 b'], .bool c']) := by rw [h1, h2, h3]
set_option maxHeartbeats 400000 in
theorem winner_any (tb n : Nat) (f : List UInt8 → Option Value) (s : ByteArray) (w : World) (a b : Int) (is : Bool) (hm : MapFn Tryd.prog 9 w tb n f) (hs : s.size ≤ 9223372036854775807)
    (hv : (f s.data.toList).getD (.agg #[.int .i64 0, .int .i64 0]) = .agg #[.int .i64 a, .int .i64 b]) (hi : (f s.data.toList).isSome = is) :
    Calls Tryd.prog 25 #[.map (some tb), .string s] w fun e w' => e = .returned (.tuple #[.agg #[.int .i64 a, .int .i64 b], .bool is]) ∧ Below w.heap.size w w' := by
  have HV := Lib.hid hv; clear hv
  have HI := Lib.hid hi; clear hi
  have HM := Lib.hid (hm.alloc (.cells #[.int .i64 0, .int .i64 0] 30)); clear hm
  go_enter Tryd.func25, Tryd.ntmps25
  go_wp2_with (at_lookup; refine wpList_look_ok _ rfl _ _ 70 rfl 9 30 keyedS Tryd.underlying70 Tryd.underlying9 (zeroPlace _) rfl HM.out s rfl hs HV.out HI.out ?_)
  refine bodyPost_ret (v := .tuple #[.agg #[.int .i64 a, .int .i64 b], .bool is]) (by simp [results, Tryd.results25, go_sem]) rfl ⟨rfl, ?_⟩
  go_grown
set_option maxHeartbeats 400000 in
theorem begin1_any (x : GObj) (vs : Value) (w : World) (h : ObjIn w x vs) :
    Calls Tryd.prog 36 #[.agg #[.string x.name, vs]] w fun e w' => e = .returned (.bool (!mayP x)) ∧ Below w.heap.size w w' := by
  have HCON := Lib.hid (objCheck_any x vs _ (h.keep (alloc_old w (.cells #[.string x.name, vs] 41)))); clear h
  go_enter Tryd.func36, Tryd.ntmps36
  go_wp2_with (go_at_call 37; refine HCON.out.mono ?_; rintro e w1 ⟨rfl, hB⟩)
  go_ret
  exact ⟨ret_bool (by cases mayP x <;> rfl), (alloc_old w _).trans (hB.mono (by simp))⟩
set_option maxHeartbeats 400000 in
theorem indexObj_any (v : Value) (l : List GObj) (w : World) (h : ObjsAt w v l) :
    Calls Tryd.prog 51 #[v, .func (.func 36) #[] #[]] w fun e w' => (∃ n : Int, e = .returned (.int .i64 n) ∧ decide (0 ≤ n) = !l.all mayP) ∧ Below w.heap.size w w' := by
  obtain ⟨p, cap, b, o, rfl, hcap, hmax, hp, hc⟩ := h
  have HC := Lib.hid hc; clear hc
  have HP := Lib.hid hp; clear hp
  go_enter Tryd.func51, Tryd.ntmps51
  go_wp2
  go_loopw [8] (fun i wr => ∃ k : Nat, k ≤ l.length ∧ i = .int .i64 k ∧ (l.take k).all mayP = true ∧ Below w.heap.size w wr) (fun i _ => l.length - (intOf i).toNat)
  case atStart => exact ⟨0, Nat.zero_le _, rfl, rfl, Below.refl _ _⟩
  case round =>
    obtain ⟨k, hk, rfl, hall, hbel⟩ := hrel
    have HA := Lib.hid hall; clear hall
    have HB := Lib.hid hbel; clear hbel
    by_cases hlt : k < l.length
    · obtain rfl := HP.out (by omega)
      obtain ⟨vs, g0, g1, g2, hin⟩ := objR_keeps _ _ _ _ _ HB.out (HC.out k hlt)
      have HCON := Lib.hid (begin1_any l[k] vs wr hin); clear hin
      generalize hx : l[k] = x at *
      obtain ⟨xn, xs⟩ := x
      simp only [] at *
      have HX := Lib.hid hx; clear hx
      go_wp2_with (go_at_call 36; refine HCON.out.mono ?_; rintro e w' ⟨rfl, hB⟩)
      · have hbad : (!mayP ⟨xn, xs⟩) = true := by assumption
        go_ret
        exact ⟨⟨k, rfl, by rw [all_bad hlt HX.out (by simpa using hbad)]; simp⟩, HB.out.trans (hB.mono HB.out.size)⟩
      · have hok : (!mayP ⟨xn, xs⟩) = false := by assumption
        go_roundw
        case rel => exact ⟨k + 1, by omega, by go_num, take_all_snoc hlt HX.out HA.out (by simpa using hok), HB.out.trans (hB.mono HB.out.size)⟩
        case measure => simp [intOf]; omega
    · go_wp2
      go_ret
      exact ⟨⟨-1, rfl, by rw [all_end hlt HA.out]; rfl⟩, HB.out⟩
set_option maxHeartbeats 400000 in
theorem containsObj_any (v : Value) (l : List GObj) (w : World) (h : ObjsAt w v l) :
    Calls Tryd.prog 35 #[v, .func (.func 36) #[] #[]] w fun e w' => e = .returned (.bool (!l.all mayP)) ∧ Below w.heap.size w w' := by
  have HCON := Lib.hid (indexObj_any v l w h); clear h
  go_enter Tryd.func35, Tryd.ntmps35
  go_wp2_with (go_at_call 51; refine HCON.out.mono ?_; rintro e w' ⟨⟨n, rfl, hn⟩, hB⟩; have HN := Lib.hid hn; clear hn)
  go_ret
  exact ⟨ret_bool HN.out, hB⟩
end Go.Proofs.YtnhmbflinbfeoaaDoor
