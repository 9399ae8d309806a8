/- The walk of obj.symbol's may. -/
import Derived.Test.YtnhmbflinbfeoaaDoorWSized
namespace Go.Proofs.YtnhmbflinbfeoaaDoor
open Go.RowKit
set_option maxHeartbeats 1000000 in
theorem symMay_any (s : GSym) (vr vn : Value) (w : World) (h : SymIn w s vr vn) :
    Calls Tryd.prog 59 #[.agg #[.string s.name, .int .u8 s.bind, .int .u8 s.kind, .int .u32 s.size, .string s.bytes, vr, vn]] w fun e w' => e = .returned (.bool (symOkP s)) ∧ Below w.heap.size w w' := by
  have H := Lib.hid h
  obtain ⟨hr, hn, hb, hk, hs, hnm, hbs⟩ := h
  obtain ⟨p, cap, b, o, rfl, hcap, hmax, -, -⟩ := hn
  clear hr
  have HB : Hid (Below w.heap.size w (w.alloc (.cells #[.string s.name, .int .u8 s.bind, .int .u8 s.kind, .int .u32 s.size, .string s.bytes, vr, .slice p s.notes.length cap] 119))) := alloc_old w _
  go_enter Tryd.func59, Tryd.ntmps59
  go_wp2_with (first | (go_at_call 60; refine (objName_any _ _ (by omega)).mono ?_; rintro e w1 ⟨rfl, hB⟩; obtain ⟨hc, hf⟩ := bcell hB; have hz : w.heap.size < w1.heap.size := (by have := hB.size; (try simp at this); omega); replace HB : Hid (Below w.heap.size w w1) := HB.out.trans (hB.mono HB.out.size); clear hB) | (go_at_call 62; refine (sized_any s _ _ _ hbs hk hs).mono ?_; rintro e w1 ⟨rfl, hB⟩; obtain ⟨hc, hf⟩ := bcell hB; have hz : w.heap.size < w1.heap.size := (by have := hB.size; (try simp at this); omega); replace HB : Hid (Below w.heap.size w w1) := HB.out.trans (hB.mono HB.out.size); clear hB) | (go_at_call 63; refine (places_any s _ _ _ (H.out.keep HB.out)).mono ?_; rintro e w1 ⟨rfl, hB⟩; obtain ⟨hc, hf⟩ := bcell hB; have hz : w.heap.size < w1.heap.size := (by have := hB.size; (try simp at this); omega); replace HB : Hid (Below w.heap.size w w1) := HB.out.trans (hB.mono HB.out.size); clear hB) | (go_at_call 64; refine (containsNote_any _ s.notes _ (H.out.keep HB.out).2.1).mono ?_; rintro e w1 ⟨rfl, hB⟩; obtain ⟨hc, hf⟩ := bcell hB; have hz : w.heap.size < w1.heap.size := (by have := hB.size; (try simp at this); omega); replace HB : Hid (Below w.heap.size w w1) := HB.out.trans (hB.mono HB.out.size); clear hB))
  all_goals
    go_ret
    exact ⟨ret_bool (by go_light; simp_all [symOkP]; try omega), HB.out⟩
end Go.Proofs.YtnhmbflinbfeoaaDoor
