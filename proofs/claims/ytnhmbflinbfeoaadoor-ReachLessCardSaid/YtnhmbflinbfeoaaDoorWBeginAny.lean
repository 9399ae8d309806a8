/- resolve.begin, whatever the objects, and the walk of resolve.Check. -/
import Derived.Test.YtnhmbflinbfeoaaDoorWBegin
namespace Go.Proofs.YtnhmbflinbfeoaaDoor
open Go.RowKit Go.Maps Go.WideMaps
/-- begin, whatever the objects: by what it answers -/
def BeginPost (v : Value) (l : List GObj) (w : World) (e : Ending) (w' : World) : Prop :=
  ((∃ c : Int, (beginR l).2 = c ∧ c ≠ 0 ∧ e = .returned (.tuple #[.pointer none, .string (beginR l).1, .int .i64 c])) ∨ ((beginR l).2 = 0 ∧ (beginR l).1 = emptyB ∧ ∃ rb, e = .returned (.tuple #[.pointer (some ⟨rb, 0, none⟩), .string emptyB, .int .i64 0]) ∧ Resolver w' rb v l)) ∧ Below w.heap.size w w'
theorem begin_any (v : Value) (l : List GObj) (w : World) (h : ObjsAt w v l) : Calls Tryd.prog 23 #[v] w (BeginPost v l w) := by
  by_cases hm : mayAll l = true
  · refine (begin_ok v l w h hm).mono fun e w' ⟨h1, h2⟩ => ⟨?_, h2⟩
    rcases h1 with ⟨n, hd, rfl⟩ | ⟨hd, rb, rfl, hr⟩
    · exact .inl ⟨120, by simp [beginR, hm, hd], by decide, by simp [beginR, hm, hd]⟩
    · exact .inr ⟨by simp [beginR, hm, hd], by simp [beginR, hm, hd], rb, rfl, hr⟩
  · have hm' : mayAll l = false := by simpa using hm
    refine (begin_bad v l w h hm').mono fun e w' ⟨h1, h2⟩ => ⟨?_, h2⟩
    subst h1
    exact .inl ⟨2, by simp [beginR, hm'], by decide, by simp [beginR, hm']⟩
set_option maxHeartbeats 1000000 in
theorem resCheck_any (v : Value) (l : List GObj) (w : World) (h : ObjsAt w v l) :
    Calls Tryd.prog 26 #[v] w fun e w' => e = .returned (.tuple #[.string (beginR l).1, .int .i64 (beginR l).2]) ∧ Below w.heap.size w w' := by
  have HBG := Lib.hid (begin_any v l w h); clear h
  go_enter Tryd.func26, Tryd.ntmps26
  go_wp2_with fail
  refine HBG.out.mono ?_
  rintro e w1 ⟨hcase, hB⟩
  rcases hcase with ⟨c, hb2, hc0, rfl⟩ | ⟨hb2, hb1, rb, rfl, hres⟩
  · have HB2 := Lib.hid hb2; clear hb2 hc0
    generalize hbn : (beginR l).1 = bn
    have HBN := Lib.hid hbn; clear hbn
    go_wp2_with fail
    go_ret2
    exact ⟨by rw [HB2.out, HBN.out]; rfl, hB⟩
  · have HB2 := Lib.hid hb2; clear hb2
    have HB1 := Lib.hid hb1; clear hb1 hres
    go_wp2_with fail
    go_ret2
    exact ⟨by rw [HB2.out, HB1.out]; rfl, hB⟩
end Go.Proofs.YtnhmbflinbfeoaaDoor
