/- The walk of aediculelaw14.LayApart. -/
import Derived.Test.YteekdjlpfgkgjaaDoorWAlive14
import Derived.Test.YteekdjlpfgkgjaaDoorWLarge13
import Derived.Test.YteekdjlpfgkgjaaDoorWWithin
import Derived.Test.YteekdjlpfgkgjaaDoorPlainLaid
import Derived.Test.YteekdjlpfgkgjaaDoorWRefHas
namespace Go.Proofs.YteekdjlpfgkgjaaDoor
open Go.RowKit Go.Maps Go.WideMaps
theorem hasR_sym {l : List GObj} {p : GP} {s : GSym} (h : symAt l p = some s) : hasR l p.1 p.2 = true := by
  obtain ⟨a, b, ha, hb, rfl, -⟩ := symAt_some h
  rw [hasR_at ha]; simpa using hb
set_option maxRecDepth 100000 in
set_option maxHeartbeats 1000000 in
theorem layApart_guard (v v2 : Value) (l : List GObj) (ps : List GP) (x : Int) (w : World) (h : ObjsAt w v l) (h2 : RowAt 2 PlcR w v2 ps) (hg : large13B l = true ∨ 1200 < ps.length) :
    Calls Tryd.prog 4 #[v, v2, .int .u16 x] w fun e w' => e = .returned (.bool true) ∧ Below w.heap.size w w' := by
  have HL := Lib.hid (large13_any v l w h)
  obtain ⟨p, cap, bb, o, rfl, hcap, hmax, -, -⟩ := h
  obtain ⟨p2, cap2, b2, o2, rfl, hcap2, hmax2, -, -⟩ := h2
  by_cases h1 : large13B l = true
  · rw [h1] at HL
    clear hg h1
    go_enter Tryd.func4, Tryd.ntmps4
    go_wp2_with (first | (go_at_call 5; refine HL.out.mono ?_; rintro e w1 ⟨rfl, hB1⟩) | (go_at_call 6; refine (alive14_any _).mono ?_; rintro e w2 ⟨rfl, hB2⟩))
    go_ret
    exact ⟨rfl, hB1.trans (hB2.mono hB1.size)⟩
  · have h1' : large13B l = false := by simpa using h1
    rw [h1'] at HL
    have hlen := hg.resolve_left h1
    clear h1 hg h1'
    have h2' : decide ((1200 : Int) < (ps.length : Int)) = true := by simp; omega
    go_enter Tryd.func4, Tryd.ntmps4
    go_wp2_with (first | (go_at_call 5; refine HL.out.mono ?_; rintro e w1 ⟨rfl, hB1⟩) | (go_at_call 6; refine (alive14_any _).mono ?_; rintro e w2 ⟨rfl, hB2⟩))
    go_ret
    exact ⟨rfl, hB1.trans (hB2.mono hB1.size)⟩
set_option maxRecDepth 100000 in
set_option maxHeartbeats 1000000 in
theorem layApart_err (v v2 : Value) (l : List GObj) (ps : List GP) (x : Int) (w : World) (h : ObjsAt w v l) (h2 : RowAt 2 PlcR w v2 ps) (h1 : large13B l = false) (hlen : ps.length ≤ 1200) (he : (layOf l ps).2.2 ≠ 0) :
    Calls Tryd.prog 4 #[v, v2, .int .u16 x] w fun e w' => e = .returned (.bool true) ∧ Below w.heap.size w w' := by
  have HL := Lib.hid (large13_any v l w h)
  rw [h1] at HL
  have HOF := Lib.hid (fun w1 (hb : Below w.heap.size w w1) => layOf_any v v2 l ps w1 (ObjsAt.keep hb h) (RowAt.keep plcR_keeps hb h2) hlen)
  obtain ⟨hb1, hb2⟩ := layOf_bad he
  generalize layOf l ps = r at HOF he hb1 hb2
  obtain ⟨ra, rs, rc⟩ := r
  simp only [] at he hb1 hb2
  subst hb1; subst hb2
  obtain ⟨p, cap, bb, o, rfl, hcap, hmax, -, -⟩ := h
  obtain ⟨p2, cap2, b2, o2, rfl, hcap2, hmax2, -, -⟩ := h2
  have h2' : decide ((1200 : Int) < (ps.length : Int)) = false := by simp; omega
  have hcb : (rc != 0) = true := by simpa using he
  clear he h1
  go_enter Tryd.func4, Tryd.ntmps4
  go_wp2_with (go_at_call 5; refine HL.out.mono ?_; rintro e w1 ⟨rfl, hB1⟩)
  refine (HOF.out w1 hB1).mono ?_
  rintro e w2 ⟨va, vs, rfl, ⟨pa, ca, ba, oa, rfl, -⟩, ⟨pc, cc, bc, oc, rfl, -⟩, hB2⟩
  have HW := Lib.hid (hB1.trans (hB2.mono hB1.size)); clear hB1 hB2
  simp only [List.length_nil]
  go_wp2_with (go_at_call 6; refine (alive14_any _).mono ?_; rintro e w3 ⟨rfl, hB3⟩)
  go_ret
  exact ⟨rfl, HW.out.trans (hB3.mono HW.out.size)⟩
end Go.Proofs.YteekdjlpfgkgjaaDoor
