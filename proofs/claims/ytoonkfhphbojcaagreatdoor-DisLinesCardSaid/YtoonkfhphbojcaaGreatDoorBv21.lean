/- The walks of obj.symbol's sized and places. -/
import Derived.Test.YtoonkfhphbojcaaGreatDoorBv17
import Derived.WalkKit
import Derived.WalkSpells
import Derived.WalkLawsBesides
import Derived.Lib.Hide
import Derived.Deep.Light
import Derived.Handy
namespace Go.Proofs.YtoonkfhphbojcaaGreatDoor
open Go.RowKit
set_option maxHeartbeats 1000000 in
theorem sized_any (s : GSym) (vr vn : Value) (w : World) (hbs : s.bytes.size ≤ 140737488355328) (hk : 0 ≤ s.kind ∧ s.kind ≤ 255) (hz : 0 ≤ s.size ∧ s.size ≤ 4294967295) :
    Calls Tryz.prog 150 #[.agg #[.string s.name, .int .u8 s.bind, .int .u8 s.kind, .int .u32 s.size, .string s.bytes, vr, vn]] w fun e w' => e = .returned (.bool (sizedOk s)) ∧ Below w.heap.size w w' := by
  obtain ⟨name, bind, kind, size, bytes, rels, notes⟩ := s
  simp only [] at *
  go_enter Tryz.func150, Tryz.ntmps150
  go_wp2
  all_goals
    go_ret
    exact ⟨ret_bool (sizedB_eq (n := (bytes.size : Int) % 4294967296) (by go_light; simp; omega)), alloc_old w _⟩
theorem placesOk_no {s : GSym} {k : Nat} {e : Int} {x : GRel} (hlt : k < s.rels.length) (hx : s.rels[k] = x) (hgo : relsGo (len32 s.bytes) e (s.rels.drop k) = relsGo (len32 s.bytes) 0 s.rels)
    (h : (decide (widthOf x.kind ≠ 0) && isName x.name && decide (x.off ≤ 8192) && decide (e ≤ x.off) && decide (x.off + widthOf x.kind ≤ len32 s.bytes)) = false) : false = placesOk s := by
  rw [List.drop_eq_getElem_cons hlt, hx, relsGo, h] at hgo
  simp [placesOk, ← hgo]
theorem placesOk_end {s : GSym} {k : Nat} {e : Int} (hlt : ¬ k < s.rels.length) (hgo : relsGo (len32 s.bytes) e (s.rels.drop k) = relsGo (len32 s.bytes) 0 s.rels) : decide ((s.rels.length : Int) ≤ 1024) = placesOk s := by
  rw [List.drop_of_length_le (by omega), relsGo] at hgo
  simp [placesOk, ← hgo]; omega
theorem placesOk_no' {s : GSym} {k : Nat} {e : Int} {x : GRel} (hlt : k < s.rels.length) (hx : s.rels[k] = x) (hgo : relsGo (len32 s.bytes) e (s.rels.drop k) = relsGo (len32 s.bytes) 0 s.rels)
    (h : isName x.name = false ∨ (8192 < x.off ∨ x.off < e ∨ len32 s.bytes < x.off + widthOf x.kind)) : false = placesOk s :=
  placesOk_no hlt hx hgo (by
    rcases h with h | h
    · simp [h]
    · rw [Bool.eq_false_iff]; intro h2; simp at h2; omega)
theorem placesGo_yes {s : GSym} {k : Nat} {e g : Int} {x : GRel} (hlt : k < s.rels.length) (hx : s.rels[k] = x) (hgo : relsGo (len32 s.bytes) e (s.rels.drop k) = relsGo (len32 s.bytes) 0 s.rels)
    (hn : isName x.name = true) (h : widthOf x.kind ≠ 0 ∧ x.off ≤ 8192 ∧ e ≤ x.off ∧ x.off + widthOf x.kind ≤ len32 s.bytes) (hg : g = x.off + widthOf x.kind) : relsGo (len32 s.bytes) g (s.rels.drop (k + 1)) = relsGo (len32 s.bytes) 0 s.rels :=
  relsGo_yes hlt hx hgo (by simp [hn, h]) hg
theorem widthOf1 : widthOf 1 = 4 := rfl
theorem widthOf2 : widthOf 2 = 2 := rfl
set_option maxHeartbeats 1000000 in
theorem places_any (s : GSym) (vr vn : Value) (w : World) (h : SymIn w s vr vn) :
    Calls Tryz.prog 151 #[.agg #[.string s.name, .int .u8 s.bind, .int .u8 s.kind, .int .u32 s.size, .string s.bytes, vr, vn]] w fun e w' => e = .returned (.bool (placesOk s)) ∧ Below w.heap.size w w' := by
  obtain ⟨hr, -, -, -, -, -, hbs⟩ := h
  obtain ⟨p, cap, b, o, rfl, hcap, hmax, hp, hc⟩ := hr
  have HC := Lib.hid hc; clear hc
  have HP := Lib.hid hp; clear hp
  have hl32 : len32 s.bytes = (s.bytes.size : Int) % 4294967296 := rfl
  have HL := Lib.hid hl32; clear hl32
  go_enter Tryz.func151, Tryz.ntmps151
  go_wp2
  go_loopw [3, 11] (fun v3 v4 wr => ∃ (k : Nat) (e : Int), k ≤ s.rels.length ∧ v4 = .int .i64 k ∧ v3 = .int .u32 e ∧ 0 ≤ e ∧ e ≤ 8196 ∧ relsGo (len32 s.bytes) e (s.rels.drop k) = relsGo (len32 s.bytes) 0 s.rels ∧ Below (w.heap.size + 1) (w.alloc (.cells #[.string s.name, .int .u8 s.bind, .int .u8 s.kind, .int .u32 s.size, .string s.bytes, .slice p s.rels.length cap, vn] 169)) wr) (fun _ v4 _ => s.rels.length - (intOf v4).toNat)
  case atStart => exact ⟨0, 0, Nat.zero_le _, rfl, rfl, by omega, by omega, rfl, Below.refl _ _⟩
  case round =>
    obtain ⟨k, e, hk, rfl, rfl, he0, he1, hgo, hbel⟩ := hrel
    have HGO := Lib.hid hgo; clear hgo
    have c5 : wr.cell? ⟨w.heap.size, 5, none⟩ = some (.slice p s.rels.length cap) := by rw [hbel.cell (by simp)]; simp [go_sem]
    have c4 : wr.cell? ⟨w.heap.size, 4, none⟩ = some (.string s.bytes) := by rw [hbel.cell (by simp)]; simp [go_sem]
    have hsz : w.heap.size + 1 ≤ wr.heap.size := by have := hbel.size; simpa using this
    have HB := Lib.hid hbel; clear hbel
    by_cases hlt : k < s.rels.length
    · obtain rfl := HP.out (by omega)
      obtain ⟨g0, g1, g2, g3, g4, g5, g6, g7, g8⟩ := relR_keeps _ _ _ _ _ ((alloc_old w _).trans (HB.out.mono (by omega))) (HC.out k hlt)
      generalize hx : s.rels[k] = x at *
      obtain ⟨xo, xk, xn, xa⟩ := x
      simp only [] at *
      have HX := Lib.hid hx; clear hx
      have hsz' : w.heap.size < wr.heap.size := by omega
      have HBW : Hid (Below w.heap.size w wr) := (alloc_old w _).trans (HB.out.mono (by omega))
      rcases (show xk = 1 ∨ xk = 2 ∨ (xk ≠ 1 ∧ xk ≠ 2) by omega) with rfl | rfl | ⟨q1, q2⟩
      · go_wp2_with (go_at_call 149; refine (objName_any _ _ (by omega)).mono ?_; rintro e w' ⟨rfl, hB⟩; obtain ⟨hc1, hf1⟩ := bcell hB; have hz1 : wr.heap.size < w'.heap.size := (by have := hB.size; simp at this; omega); have HB1 := Lib.hid hB; clear hB)
        all_goals
          have HB2 : Hid (Below (w.heap.size + 1) wr w') := (Below.alloc (Below.refl _ _) (by omega) _).trans (HB1.out.mono (by simp; omega))
          first
          | (go_roundw
             case rel => exact ⟨k + 1, _, by omega, by go_num, rfl, by omega, by omega, placesGo_yes hlt HX.out HGO.out (by assumption) (by go_light; rw [HL.out]; simp only [widthOf1]; omega) rfl, HB.out.trans HB2.out⟩
             case measure => simp [intOf]; omega)
          | (have hbad : ¬ isName xn = true := (by assumption)
             go_ret
             exact ⟨ret_bool (placesOk_no' hlt HX.out HGO.out (.inl (by simpa using hbad))), HBW.out.trans (HB2.out.mono (by omega))⟩)
          | (go_ret
             exact ⟨ret_bool (placesOk_no' hlt HX.out HGO.out (.inr (by go_light; rw [HL.out]; simp only [widthOf1]; omega))), HBW.out.trans (HB2.out.mono (by omega))⟩)
      · go_wp2_with (go_at_call 149; refine (objName_any _ _ (by omega)).mono ?_; rintro e w' ⟨rfl, hB⟩; obtain ⟨hc1, hf1⟩ := bcell hB; have hz1 : wr.heap.size < w'.heap.size := (by have := hB.size; simp at this; omega); have HB1 := Lib.hid hB; clear hB)
        all_goals
          have HB2 : Hid (Below (w.heap.size + 1) wr w') := (Below.alloc (Below.refl _ _) (by omega) _).trans (HB1.out.mono (by simp; omega))
          first
          | (go_roundw
             case rel => exact ⟨k + 1, _, by omega, by go_num, rfl, by omega, by omega, placesGo_yes hlt HX.out HGO.out (by assumption) (by go_light; rw [HL.out]; simp only [widthOf2]; omega) rfl, HB.out.trans HB2.out⟩
             case measure => simp [intOf]; omega)
          | (have hbad : ¬ isName xn = true := (by assumption)
             go_ret
             exact ⟨ret_bool (placesOk_no' hlt HX.out HGO.out (.inl (by simpa using hbad))), HBW.out.trans (HB2.out.mono (by omega))⟩)
          | (go_ret
             exact ⟨ret_bool (placesOk_no' hlt HX.out HGO.out (.inr (by go_light; rw [HL.out]; simp only [widthOf2]; omega))), HBW.out.trans (HB2.out.mono (by omega))⟩)
      · have HW : Hid (widthOf xk = 0) := by unfold widthOf; rw [if_neg q1, if_neg q2]; rfl
        have b1 : (xk == 1) = false := by simpa using q1
        have b2 : (xk == 2) = false := by simpa using q2
        clear q1 q2
        go_wp2
        go_ret
        exact ⟨ret_bool (placesOk_no hlt HX.out HGO.out (by simp [HW.out])), HBW.out.alloc (by omega) _⟩
    · go_wp2
      go_ret
      exact ⟨ret_bool (placesOk_end hlt HGO.out), (alloc_old w _).trans (HB.out.mono (by omega))⟩
end Go.Proofs.YtoonkfhphbojcaaGreatDoor
