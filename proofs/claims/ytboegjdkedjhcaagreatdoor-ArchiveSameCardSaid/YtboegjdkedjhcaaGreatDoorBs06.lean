/- The walks of obj.told, obj.Note and the search over notes. The walks of obj.symbol's sized and places. The walk of obj.symbol's may. The walks of obj.object's may and obj.Check. The walks of resolve.table's winner and of the search over. -/
import Derived.Test.YtboegjdkedjhcaaGreatDoorBs01
import Derived.Deep.Light
import Derived.Handy
import Derived.WalkKit
import Derived.WalkSpells
import Derived.WalkLawsBesides
import Derived.Lib.Hide
import Derived.Test.YtboegjdkedjhcaaGreatDoorBs02
import Derived.Deep.RegionHeld3
import Derived.Deep.DeepCutAuto
import Derived.Deep.QuietTactic
import Derived.BigQuiet
import Derived.StillTailTactics
namespace Go.Proofs.YtboegjdkedjhcaaGreatDoor
section
open Go.RowKit
theorem told_any (b : Bool) (w : World) : Calls Tryz.prog 75 #[.bool b] w fun e w' => e = .returned (.int .i64 (errB b)) ∧ w = w' := by
 cases b <;>
 (go_enter Tryz.func75, Tryz.ntmps75
  go_wp2; go_ret; exact ⟨rfl, rfl⟩)
theorem or_zero {n m : Int} (h2 : 0 ≤ n ∧ n ≤ 4294967295) (h3 : 0 ≤ m ∧ m ≤ 4294967295) : (bits .or .u32 n m == 0) = (decide (n = 0) && decide (m = 0)) := by
 rw [u32_or n m h2.1 (by omega) h3.1 (by omega), Bool.eq_iff_iff]
 simp; omega
set_option maxHeartbeats 1000000 in
theorem note_any (x : GNote) (w : World) (h1 : 0 ≤ x.kind ∧ x.kind ≤ 255) (h2 : 0 ≤ x.n ∧ x.n ≤ 4294967295) (h3 : 0 ≤ x.m ∧ x.m ≤ 4294967295) :
 Calls Tryz.prog 159 #[.agg #[.int .u8 x.kind, .int .u32 x.n, .int .u32 x.m]] w fun e w' => e = .returned (.int .i64 (errB (noteOk x))) ∧ Below w.heap.size w w' := by
 obtain ⟨k, n, m⟩ := x; simp only [] at *; go_enter Tryz.func159, Tryz.ntmps159; go_wp2_with (go_at_call 75; refine (told_any _ _).mono ?_; rintro e w' ⟨rfl, rfl⟩)
 all_goals
  go_ret
  first
  | exact ⟨ret_int (congrArg errB (by go_light; first | (simp_all [noteOk, ibeq]; done) | (simp_all [noteOk]; omega) | (simp_all [noteOk, or_zero]; done))), alloc_old w _⟩
  | exact ⟨ret_int (show errB false = _ from congrArg errB (by go_light; simp_all [noteOk])), alloc_old w _⟩
set_option maxHeartbeats 400000 in
theorem mayNote_any (x : GNote) (w : World) (h1 : 0 ≤ x.kind ∧ x.kind ≤ 255) (h2 : 0 ≤ x.n ∧ x.n ≤ 4294967295) (h3 : 0 ≤ x.m ∧ x.m ≤ 4294967295) :
 Calls Tryz.prog 175 #[.agg #[.int .u8 x.kind, .int .u32 x.n, .int .u32 x.m]] w fun e w' => e = .returned (.bool (!noteOk x)) ∧ Below w.heap.size w w' := by
 go_enter Tryz.func175, Tryz.ntmps175; go_wp2_with (go_at_call 159; refine (note_any _ _ h1 h2 h3).mono ?_; rintro e w' ⟨rfl, hB⟩); go_ret; exact ⟨ret_bool (by cases noteOk x <;> rfl), (alloc_old w _).trans (hB.mono (by simp))⟩
set_option maxHeartbeats 400000 in
theorem indexNote_any (v : Value) (l : List GNote) (w : World) (h : RowAt 3 NoteR w v l) :
 Calls Tryz.prog 213 #[v, .func (.func 175) #[] #[]] w fun e w' => (∃ n : Int, e = .returned (.int .i64 n) ∧ decide (0 ≤ n) = !l.all noteOk) ∧ Below w.heap.size w w' := by
 obtain ⟨p, cap, b, o, rfl, hcap, hmax, hp, hc⟩ := h; have HC := Lib.hid hc; clear hc; have HP := Lib.hid hp; clear hp; go_enter Tryz.func213, Tryz.ntmps213; go_wp2
 go_loopw [8] (fun i wr => ∃ k : Nat, k ≤ l.length ∧ i = .int .i64 k ∧ (l.take k).all noteOk = true ∧ Below w.heap.size w wr) (fun i _ => l.length - (intOf i).toNat)
 case atStart => exact ⟨0, Nat.zero_le _, rfl, rfl, Below.refl _ _⟩
 case round =>
  obtain ⟨k, hk, rfl, hall, hbel⟩ := hrel; have HA := Lib.hid hall; clear hall; have HB := Lib.hid hbel; clear hbel
  by_cases hlt : k < l.length
  ·obtain rfl := HP.out (by omega)
   obtain ⟨g0, g1, g2, g3, g5, g6, g7⟩ := noteR_keeps _ _ _ _ _ HB.out (HC.out k hlt); have HCON := Lib.hid (mayNote_any l[k] wr g5 g6 g7); generalize hx : l[k] = x at *; obtain ⟨xk, xn, xm⟩ := x; simp only [] at *; have HX := Lib.hid hx; clear hx; go_wp2_with (go_at_call 175; refine HCON.out.mono ?_; rintro e w' ⟨rfl, hB⟩)
   ·have hbad : (!noteOk ⟨xk, xn, xm⟩) = true := by assumption
    go_ret; exact ⟨⟨k, rfl, by rw [all_bad hlt HX.out (by simpa using hbad)]; simp⟩, HB.out.trans (hB.mono HB.out.size)⟩
   ·have hok : (!noteOk ⟨xk, xn, xm⟩) = false := by assumption
    go_roundw
    case rel => exact ⟨k + 1, by omega, by go_num, take_all_snoc hlt HX.out HA.out (by simpa using hok), HB.out.trans (hB.mono HB.out.size)⟩
    case measure => simp [intOf]; omega
  ·go_wp2; go_ret; exact ⟨⟨-1, rfl, by rw [all_end hlt HA.out]; rfl⟩, HB.out⟩
set_option maxHeartbeats 400000 in
theorem containsNote_any (v : Value) (l : List GNote) (w : World) (h : RowAt 3 NoteR w v l) :
 Calls Tryz.prog 174 #[v, .func (.func 175) #[] #[]] w fun e w' => e = .returned (.bool (!l.all noteOk)) ∧ Below w.heap.size w w' := by
 have HCON := Lib.hid (indexNote_any v l w h); clear h; go_enter Tryz.func174, Tryz.ntmps174; go_wp2_with (go_at_call 213; refine HCON.out.mono ?_; rintro e w' ⟨⟨n, rfl, hn⟩, hB⟩; have HN := Lib.hid hn; clear hn); go_ret; exact ⟨ret_bool HN.out, hB⟩
end
section
open Go.RowKit
set_option maxHeartbeats 1000000 in
theorem sized_any (s : GSym) (vr vn : Value) (w : World) (hbs : s.bytes.size ≤ 140737488355328) (hk : 0 ≤ s.kind ∧ s.kind ≤ 255) (hz : 0 ≤ s.size ∧ s.size ≤ 4294967295) :
 Calls Tryz.prog 172 #[.agg #[.string s.name, .int .u8 s.bind, .int .u8 s.kind, .int .u32 s.size, .string s.bytes, vr, vn]] w fun e w' => e = .returned (.bool (sizedOk s)) ∧ Below w.heap.size w w' := by
 obtain ⟨name, bind, kind, size, bytes, rels, notes⟩ := s; simp only [] at *; go_enter Tryz.func172, Tryz.ntmps172; go_wp2
 all_goals
  go_ret; exact ⟨ret_bool (sizedB_eq (n := (bytes.size : Int) % 4294967296) (by go_light; simp; omega)), alloc_old w _⟩
theorem placesOk_no {s : GSym} {k : Nat} {e : Int} {x : GRel} (hlt : k < s.rels.length) (hx : s.rels[k] = x) (hgo : relsGo (len32 s.bytes) e (s.rels.drop k) = relsGo (len32 s.bytes) 0 s.rels)
 (h : (decide (widthOf x.kind ≠ 0) && isName x.name && decide (x.off ≤ 8192) && decide (e ≤ x.off) && decide (x.off + widthOf x.kind ≤ len32 s.bytes)) = false) : false = placesOk s := by
 rw [List.drop_eq_getElem_cons hlt, hx, relsGo, h] at hgo; simp [placesOk, ← hgo]
theorem placesOk_end {s : GSym} {k : Nat} {e : Int} (hlt : ¬ k < s.rels.length) (hgo : relsGo (len32 s.bytes) e (s.rels.drop k) = relsGo (len32 s.bytes) 0 s.rels) : decide ((s.rels.length : Int) ≤ 1024) = placesOk s := by
 rw [List.drop_of_length_le (by omega), relsGo] at hgo
 simp [placesOk, ← hgo]; omega
theorem placesOk_no' {s : GSym} {k : Nat} {e : Int} {x : GRel} (hlt : k < s.rels.length) (hx : s.rels[k] = x) (hgo : relsGo (len32 s.bytes) e (s.rels.drop k) = relsGo (len32 s.bytes) 0 s.rels)
 (h : isName x.name = false ∨ (8192 < x.off ∨ x.off < e ∨ len32 s.bytes < x.off + widthOf x.kind)) : false = placesOk s :=
 placesOk_no hlt hx hgo (by
  rcases h with h | h
  ·simp [h]
  ·rw [Bool.eq_false_iff]; intro h2; simp at h2; omega)
theorem placesGo_yes {s : GSym} {k : Nat} {e g : Int} {x : GRel} (hlt : k < s.rels.length) (hx : s.rels[k] = x) (hgo : relsGo (len32 s.bytes) e (s.rels.drop k) = relsGo (len32 s.bytes) 0 s.rels)
 (hn : isName x.name = true) (h : widthOf x.kind ≠ 0 ∧ x.off ≤ 8192 ∧ e ≤ x.off ∧ x.off + widthOf x.kind ≤ len32 s.bytes) (hg : g = x.off + widthOf x.kind) : relsGo (len32 s.bytes) g (s.rels.drop (k + 1)) = relsGo (len32 s.bytes) 0 s.rels :=
 relsGo_yes hlt hx hgo (by simp [hn, h]) hg
theorem widthOf1 : widthOf 1 = 4 := rfl
theorem widthOf2 : widthOf 2 = 2 := rfl
set_option maxHeartbeats 1000000 in
theorem places_any (s : GSym) (vr vn : Value) (w : World) (h : SymIn w s vr vn) :
 Calls Tryz.prog 173 #[.agg #[.string s.name, .int .u8 s.bind, .int .u8 s.kind, .int .u32 s.size, .string s.bytes, vr, vn]] w fun e w' => e = .returned (.bool (placesOk s)) ∧ Below w.heap.size w w' := by
 obtain ⟨hr, -, -, -, -, -, hbs⟩ := h; obtain ⟨p, cap, b, o, rfl, hcap, hmax, hp, hc⟩ := hr; have HC := Lib.hid hc; clear hc; have HP := Lib.hid hp; clear hp; have hl32 : len32 s.bytes = (s.bytes.size : Int) % 4294967296 := rfl; have HL := Lib.hid hl32; clear hl32; go_enter Tryz.func173, Tryz.ntmps173; go_wp2
 go_loopw [3, 11] (fun v3 v4 wr => ∃ (k : Nat) (e : Int), k ≤ s.rels.length ∧ v4 = .int .i64 k ∧ v3 = .int .u32 e ∧ 0 ≤ e ∧ e ≤ 8196 ∧ relsGo (len32 s.bytes) e (s.rels.drop k) = relsGo (len32 s.bytes) 0 s.rels ∧ Below (w.heap.size + 1) (w.alloc (.cells #[.string s.name, .int .u8 s.bind, .int .u8 s.kind, .int .u32 s.size, .string s.bytes, .slice p s.rels.length cap, vn] 220)) wr) (fun _ v4 _ => s.rels.length - (intOf v4).toNat)
 case atStart => exact ⟨0, 0, Nat.zero_le _, rfl, rfl, by omega, by omega, rfl, Below.refl _ _⟩
 case round =>
  obtain ⟨k, e, hk, rfl, rfl, he0, he1, hgo, hbel⟩ := hrel; have HGO := Lib.hid hgo; clear hgo; have c5 : wr.cell? ⟨w.heap.size, 5, none⟩ = some (.slice p s.rels.length cap) := by rw [hbel.cell (by simp)]; simp [go_sem]
  have c4 : wr.cell? ⟨w.heap.size, 4, none⟩ = some (.string s.bytes) := by rw [hbel.cell (by simp)]; simp [go_sem]
  have hsz : w.heap.size + 1 ≤ wr.heap.size := by have := hbel.size; simpa using this
  have HB := Lib.hid hbel; clear hbel
  by_cases hlt : k < s.rels.length
  ·obtain rfl := HP.out (by omega)
   obtain ⟨g0, g1, g2, g3, g4, g5, g6, g7, g8⟩ := relR_keeps _ _ _ _ _ ((alloc_old w _).trans (HB.out.mono (by omega))) (HC.out k hlt)
   generalize hx : s.rels[k] = x at *; obtain ⟨xo, xk, xn, xa⟩ := x; simp only [] at *; have HX := Lib.hid hx; clear hx; have hsz' : w.heap.size < wr.heap.size := by omega
   have HBW : Hid (Below w.heap.size w wr) := (alloc_old w _).trans (HB.out.mono (by omega))
   rcases (show xk = 1 ∨ xk = 2 ∨ (xk ≠ 1 ∧ xk ≠ 2) by omega) with rfl | rfl | ⟨q1, q2⟩
   ·go_wp2_with (go_at_call 125; refine (objName_any _ _ (by omega)).mono ?_; rintro e w' ⟨rfl, hB⟩; obtain ⟨hc1, hf1⟩ := bcell hB; have hz1 : wr.heap.size < w'.heap.size := (by have := hB.size; simp at this; omega); have HB1 := Lib.hid hB; clear hB)
    all_goals
     have HB2 : Hid (Below (w.heap.size + 1) wr w') := (Below.alloc (Below.refl _ _) (by omega) _).trans (HB1.out.mono (by simp; omega))
     first
     | (go_roundw
        case rel => exact ⟨k + 1, _, by omega, by go_num, rfl, by omega, by omega, placesGo_yes hlt HX.out HGO.out (by assumption) (by go_light; rw [HL.out]; simp only [widthOf1]; omega) rfl, HB.out.trans HB2.out⟩
        case measure => simp [intOf]; omega)
     | (have hbad : ¬ isName xn = true := (by assumption)
        go_ret; exact ⟨ret_bool (placesOk_no' hlt HX.out HGO.out (.inl (by simpa using hbad))), HBW.out.trans (HB2.out.mono (by omega))⟩)
     | (go_ret
        exact ⟨ret_bool (placesOk_no' hlt HX.out HGO.out (.inr (by go_light; rw [HL.out]; simp only [widthOf1]; omega))), HBW.out.trans (HB2.out.mono (by omega))⟩)
   ·go_wp2_with (go_at_call 125; refine (objName_any _ _ (by omega)).mono ?_; rintro e w' ⟨rfl, hB⟩; obtain ⟨hc1, hf1⟩ := bcell hB; have hz1 : wr.heap.size < w'.heap.size := (by have := hB.size; simp at this; omega); have HB1 := Lib.hid hB; clear hB)
    all_goals
     have HB2 : Hid (Below (w.heap.size + 1) wr w') := (Below.alloc (Below.refl _ _) (by omega) _).trans (HB1.out.mono (by simp; omega))
     first
     | (go_roundw
        case rel => exact ⟨k + 1, _, by omega, by go_num, rfl, by omega, by omega, placesGo_yes hlt HX.out HGO.out (by assumption) (by go_light; rw [HL.out]; simp only [widthOf2]; omega) rfl, HB.out.trans HB2.out⟩
        case measure => simp [intOf]; omega)
     | (have hbad : ¬ isName xn = true := (by assumption)
        go_ret; exact ⟨ret_bool (placesOk_no' hlt HX.out HGO.out (.inl (by simpa using hbad))), HBW.out.trans (HB2.out.mono (by omega))⟩)
     | (go_ret
        exact ⟨ret_bool (placesOk_no' hlt HX.out HGO.out (.inr (by go_light; rw [HL.out]; simp only [widthOf2]; omega))), HBW.out.trans (HB2.out.mono (by omega))⟩)
   ·have HW : Hid (widthOf xk = 0) := by unfold widthOf; rw [if_neg q1, if_neg q2]; rfl
    have b1 : (xk == 1) = false := by simpa using q1
    have b2 : (xk == 2) = false := by simpa using q2
    clear q1 q2; go_wp2; go_ret; exact ⟨ret_bool (placesOk_no hlt HX.out HGO.out (by simp [HW.out])), HBW.out.alloc (by omega) _⟩
  ·go_wp2; go_ret; exact ⟨ret_bool (placesOk_end hlt HGO.out), (alloc_old w _).trans (HB.out.mono (by omega))⟩
end
section
open Go.RowKit
set_option maxHeartbeats 1000000 in
theorem symMay_any (s : GSym) (vr vn : Value) (w : World) (h : SymIn w s vr vn) :
 Calls Tryz.prog 124 #[.agg #[.string s.name, .int .u8 s.bind, .int .u8 s.kind, .int .u32 s.size, .string s.bytes, vr, vn]] w fun e w' => e = .returned (.bool (symOkP s)) ∧ Below w.heap.size w w' := by
 have H := Lib.hid h; obtain ⟨hr, hn, hb, hk, hs, hnm, hbs⟩ := h; obtain ⟨p, cap, b, o, rfl, hcap, hmax, -, -⟩ := hn; clear hr; have HB : Hid (Below w.heap.size w (w.alloc (.cells #[.string s.name, .int .u8 s.bind, .int .u8 s.kind, .int .u32 s.size, .string s.bytes, vr, .slice p s.notes.length cap] 220))) := alloc_old w _; go_enter Tryz.func124, Tryz.ntmps124
 go_wp2_with (first | (go_at_call 125; refine (objName_any _ _ (by omega)).mono ?_; rintro e w1 ⟨rfl, hB⟩; obtain ⟨hc, hf⟩ := bcell hB; have hz : w.heap.size < w1.heap.size := (by have := hB.size; (try simp at this); omega); replace HB : Hid (Below w.heap.size w w1) := HB.out.trans (hB.mono HB.out.size); clear hB) | (go_at_call 172; refine (sized_any s _ _ _ hbs hk hs).mono ?_; rintro e w1 ⟨rfl, hB⟩; obtain ⟨hc, hf⟩ := bcell hB; have hz : w.heap.size < w1.heap.size := (by have := hB.size; (try simp at this); omega); replace HB : Hid (Below w.heap.size w w1) := HB.out.trans (hB.mono HB.out.size); clear hB) | (go_at_call 173; refine (places_any s _ _ _ (H.out.keep HB.out)).mono ?_; rintro e w1 ⟨rfl, hB⟩; obtain ⟨hc, hf⟩ := bcell hB; have hz : w.heap.size < w1.heap.size := (by have := hB.size; (try simp at this); omega); replace HB : Hid (Below w.heap.size w w1) := HB.out.trans (hB.mono HB.out.size); clear hB) | (go_at_call 174; refine (containsNote_any _ s.notes _ (H.out.keep HB.out).2.1).mono ?_; rintro e w1 ⟨rfl, hB⟩; obtain ⟨hc, hf⟩ := bcell hB; have hz : w.heap.size < w1.heap.size := (by have := hB.size; (try simp at this); omega); replace HB : Hid (Below w.heap.size w w1) := HB.out.trans (hB.mono HB.out.size); clear hB))
 all_goals
  go_ret; exact ⟨ret_bool (by go_light; simp_all [symOkP]; try omega), HB.out⟩
end
section
open Go.RowKit Go.Maps Go.WideMaps
theorem keyedS : Keyed Tryz.prog 9 := string_keyed Tryz.underlying9
theorem zeroInt (w : World) : (zeroValue 3).run Tryz.prog w = .ok (.int .i64 0) w := by kernel_rfl
set_option maxHeartbeats 1000000 in
theorem objMay_any (x : GObj) (vs : Value) (w : World) (h : ObjIn w x vs) :
 Calls Tryz.prog 76 #[.agg #[.string x.name, vs]] w fun e w' => e = .returned (.bool (mayP x)) ∧ Below w.heap.size w w' := by
 obtain ⟨hr, hnm⟩ := h; obtain ⟨p, cap, b, o, rfl, hcap, hmax, hp, hc⟩ := hr; have HC := Lib.hid hc; clear hc; have HP := Lib.hid hp; clear hp; have hmm := @run_makeMap Tryz.prog; go_enter Tryz.func76, Tryz.ntmps76; go_wp2; clear hmm
 go_loopw [11] (fun i wr => ∃ k : Nat, k ≤ x.syms.length ∧ i = .int .i64 k ∧ symsGo (x.syms.take k) (x.syms.drop k) = symsGo [] x.syms ∧ MapFn Tryz.prog 9 wr (w.heap.size + 1) k (seenFn (x.syms.take k)) ∧ Below (w.heap.size + 1) (w.alloc (.cells #[.string x.name, .slice p x.syms.length cap] 151)) wr) (fun i _ => x.syms.length - (intOf i).toNat)
 case atStart =>
  refine ⟨0, Nat.zero_le _, rfl, rfl, ?_, (Below.refl _ _).alloc (by simp) _⟩
  have := MapFn.made Tryz.prog 9 (w.alloc (.cells #[.string x.name, .slice p x.syms.length cap] 151)); rw [seenFn_nil] at this; simpa using this
 case round =>
  obtain ⟨k, hk, rfl, hgo, hmap, hbel⟩ := hrel; have HGO := Lib.hid hgo; clear hgo; have c0 : wr.cell? ⟨w.heap.size, 0, none⟩ = some (.string x.name) := by rw [hbel.cell (by simp)]; simp [go_sem]
  have c1 : wr.cell? ⟨w.heap.size, 1, none⟩ = some (.slice p x.syms.length cap) := by rw [hbel.cell (by simp)]; simp [go_sem]
  have hsz : w.heap.size + 1 < wr.heap.size := hmap.lt; have hsz1 : w.heap.size < wr.heap.size := by omega
  have HBW : Hid (Below w.heap.size w wr) := (alloc_old w _).trans (hbel.mono (by omega))
  have HB := Lib.hid hbel; clear hbel
  by_cases hlt : k < x.syms.length
  ·obtain rfl := HP.out (by omega)
   obtain ⟨vr, vn, g0, g1, g2, g3, g4, g5, g6, g7, hsin⟩ := symR_keeps _ _ _ _ _ HBW.out (HC.out k hlt); obtain ⟨p1, q1, p2, q2, rfl, rfl⟩ := hsin.shape; have hns : x.syms[k].name.size ≤ maxLen := by have := hsin.2.2.2.2.2.1; unfold maxLen; omega
   generalize hx : x.syms[k] = y at *; obtain ⟨yn, yb, yk, ys, yy, yr, yt⟩ := y; simp only [] at *; have HX := Lib.hid hx; clear hx; have SIN := Lib.hid (hsin.keep (alloc_old wr (.cells #[.string yn, .int .u8 yb, .int .u8 yk, .int .u32 ys, .string yy, .slice p1 yr.length q1, .slice p2 yt.length q2] 55))); clear hsin; have HM := Lib.hid (hmap.alloc (.cells #[.string yn, .int .u8 yb, .int .u8 yk, .int .u32 ys, .string yy, .slice p1 yr.length q1, .slice p2 yt.length q2] 55)); clear hmap; have hns' : yn.size ≤ 9223372036854775807 := hns
   by_cases hseen : hasName (x.syms.take k) yn.data.toList = true
   ·have HV := Lib.hid (seenFn_yes hseen); have HS := Lib.hid hseen; clear hseen; go_wp2_with (at_lookup; refine wpList_look _ rfl _ _ 78 rfl 9 3 keyedS Tryz.underlying78 Tryz.underlying9 (zeroInt _) rfl HM.out _ rfl hns' HV.out ?_); go_ret; exact ⟨ret_bool (mayP_no hlt HX.out HGO.out (.inl HS.out)), HBW.out.alloc (by omega) _⟩
   ·have hseen' : hasName (x.syms.take k) yn.data.toList = false := by simpa using hseen
    have HV := Lib.hid (seenFn_no hseen'); have HS := Lib.hid hseen'; clear hseen' hseen; have HB1 : Hid (Below (w.heap.size + 1) wr (wr.alloc (.cells #[.string yn, .int .u8 yb, .int .u8 yk, .int .u32 ys, .string yy, .slice p1 yr.length q1, .slice p2 yt.length q2] 55))) := (Below.refl _ _).alloc (by omega) _
    go_wp2_with (first | (at_lookup; refine wpList_look _ rfl _ _ 78 rfl 9 3 keyedS Tryz.underlying78 Tryz.underlying9 (zeroInt _) rfl HM.out _ rfl hns' HV.out ?_) | (go_at_call 124; refine (symMay_any ⟨yn, yb, yk, ys, yy, yr, yt⟩ _ _ _ SIN.out).mono ?_; rintro e w1 ⟨rfl, hB⟩; obtain ⟨hc, hf⟩ := bcell hB; have hz : wr.heap.size < w1.heap.size := (by have := hB.size; (try simp at this); omega); replace HM : Hid (MapFn Tryz.prog 9 w1 (w.heap.size + 1) k (seenFn (x.syms.take k))) := HM.out.below hB (by simp; omega); replace HB1 : Hid (Below (w.heap.size + 1) wr w1) := HB1.out.trans (hB.mono (by simp; omega)); clear hB) | (at_mapUpdate; refine wpList_put _ rfl _ _ _ 78 rfl 9 3 keyedS Tryz.underlying78 Tryz.underlying9 rfl HM.out (by unfold maxLen; omega) yn (.int .i64 1) rfl rfl hns' ?_; intro w2 hM2 hg2; have HM2 := Lib.hid hM2; have HG2 := Lib.hid hg2; clear hM2 hg2))
    ·have hbad : (!symOkP ⟨yn, yb, yk, ys, yy, yr, yt⟩) = true := by assumption
     go_ret; exact ⟨ret_bool (mayP_no hlt HX.out HGO.out (.inr (by simpa using hbad))), HBW.out.trans (HB1.out.mono (by omega))⟩
    ·have hok : (!symOkP ⟨yn, yb, yk, ys, yy, yr, yt⟩) = false := by assumption
     have HM3 : Hid (MapFn Tryz.prog 9 w2 (w.heap.size + 1) (k + 1) (seenFn (x.syms.take (k + 1)))) := (seenFn_snoc hlt HX.out) ▸ HM2.out; go_roundw
     case rel => exact ⟨k + 1, by omega, by go_num, symsGo_yes hlt HX.out HGO.out HS.out (by simpa using hok), HM3.out, HB.out.trans (HB1.out.grown HG2.out (by omega) (fun j e => by simp at e; omega))⟩
     case measure => simp [intOf]; omega
  ·go_wp2_with (go_at_call 125; refine (objName_any _ _ hnm).mono ?_; rintro e w1 ⟨rfl, hB⟩; obtain ⟨hc, hf⟩ := bcell hB)
   all_goals
    go_ret; exact ⟨ret_bool (by rw [mayP_end hlt HGO.out]; go_light; simp_all; try omega), HBW.out.trans (hB.mono HBW.out.size)⟩
set_option maxHeartbeats 400000 in
theorem objCheck_any (x : GObj) (vs : Value) (w : World) (h : ObjIn w x vs) :
 Calls Tryz.prog 30 #[.agg #[.string x.name, vs]] w fun e w' => e = .returned (.int .i64 (errB (mayP x))) ∧ Below w.heap.size w w' := by
 have HCON := Lib.hid (objMay_any x vs _ (h.keep (alloc_old w (.cells #[.string x.name, vs] 50)))); clear h; go_enter Tryz.func30, Tryz.ntmps30; go_wp2_with (first | (go_at_call 76; refine HCON.out.mono ?_; rintro e w1 ⟨rfl, hB⟩) | (go_at_call 75; refine (told_any _ _).mono ?_; rintro e w1 ⟨rfl, rfl⟩))
 go_ret; exact ⟨rfl, (alloc_old w _).trans (hB.mono (by simp))⟩
end
section
open Go.RowKit Go.Maps Go.WideMaps
theorem zeroPlace (w : World) : (zeroValue 185).run Tryz.prog w = .ok (.agg #[.int .i64 0, .int .i64 0]) w := by kernel_rfl
set_option maxHeartbeats 400000 in
theorem winner_any (tb n : Nat) (f : List UInt8 → Option Value) (s : ByteArray) (w : World) (a b : Int) (is : Bool) (hm : MapFn Tryz.prog 9 w tb n f) (hs : s.size ≤ 9223372036854775807)
 (hv : (f s.data.toList).getD (.agg #[.int .i64 0, .int .i64 0]) = .agg #[.int .i64 a, .int .i64 b]) (hi : (f s.data.toList).isSome = is) :
 Calls Tryz.prog 201 #[.map (some tb), .string s] w fun e w' => e = .returned (.tuple #[.agg #[.int .i64 a, .int .i64 b], .bool is]) ∧ Below w.heap.size w w' := by
 have HV := Lib.hid hv; clear hv; have HI := Lib.hid hi; clear hi; have HM := Lib.hid (hm.alloc (.cells #[.int .i64 0, .int .i64 0] 185)); clear hm; go_enter Tryz.func201, Tryz.ntmps201; go_wp2_with (at_lookup; refine wpList_look_ok _ rfl _ _ 302 rfl 9 185 keyedS Tryz.underlying302 Tryz.underlying9 (zeroPlace _) rfl HM.out s rfl hs HV.out HI.out ?_); refine bodyPost_ret (v := .tuple #[.agg #[.int .i64 a, .int .i64 b], .bool is]) (by simp [results, Tryz.results201, go_sem]) rfl ⟨rfl, ?_⟩
 go_grown
set_option maxHeartbeats 400000 in
theorem begin1_any (x : GObj) (vs : Value) (w : World) (h : ObjIn w x vs) :
 Calls Tryz.prog 200 #[.agg #[.string x.name, vs]] w fun e w' => e = .returned (.bool (!mayP x)) ∧ Below w.heap.size w w' := by
 have HCON := Lib.hid (objCheck_any x vs _ (h.keep (alloc_old w (.cells #[.string x.name, vs] 50)))); clear h; go_enter Tryz.func200, Tryz.ntmps200; go_wp2_with (go_at_call 30; refine HCON.out.mono ?_; rintro e w1 ⟨rfl, hB⟩); go_ret; exact ⟨ret_bool (by cases mayP x <;> rfl), (alloc_old w _).trans (hB.mono (by simp))⟩
set_option maxHeartbeats 400000 in
theorem indexObj_any (v : Value) (l : List GObj) (w : World) (h : ObjsAt w v l) :
 Calls Tryz.prog 98 #[v, .func (.func 200) #[] #[]] w fun e w' => (∃ n : Int, e = .returned (.int .i64 n) ∧ decide (0 ≤ n) = !l.all mayP) ∧ Below w.heap.size w w' := by
 obtain ⟨p, cap, b, o, rfl, hcap, hmax, hp, hc⟩ := h; have HC := Lib.hid hc; clear hc; have HP := Lib.hid hp; clear hp; go_enter Tryz.func98, Tryz.ntmps98; go_wp2
 go_loopw [8] (fun i wr => ∃ k : Nat, k ≤ l.length ∧ i = .int .i64 k ∧ (l.take k).all mayP = true ∧ Below w.heap.size w wr) (fun i _ => l.length - (intOf i).toNat)
 case atStart => exact ⟨0, Nat.zero_le _, rfl, rfl, Below.refl _ _⟩
 case round =>
  obtain ⟨k, hk, rfl, hall, hbel⟩ := hrel; have HA := Lib.hid hall; clear hall; have HB := Lib.hid hbel; clear hbel
  by_cases hlt : k < l.length
  ·obtain rfl := HP.out (by omega)
   obtain ⟨vs, g0, g1, g2, hin⟩ := objR_keeps _ _ _ _ _ HB.out (HC.out k hlt); have HCON := Lib.hid (begin1_any l[k] vs wr hin); clear hin; generalize hx : l[k] = x at *; obtain ⟨xn, xs⟩ := x; simp only [] at *; have HX := Lib.hid hx; clear hx; go_wp2_with (go_at_call 200; refine HCON.out.mono ?_; rintro e w' ⟨rfl, hB⟩)
   ·have hbad : (!mayP ⟨xn, xs⟩) = true := by assumption
    go_ret; exact ⟨⟨k, rfl, by rw [all_bad hlt HX.out (by simpa using hbad)]; simp⟩, HB.out.trans (hB.mono HB.out.size)⟩
   ·have hok : (!mayP ⟨xn, xs⟩) = false := by assumption
    go_roundw
    case rel => exact ⟨k + 1, by omega, by go_num, take_all_snoc hlt HX.out HA.out (by simpa using hok), HB.out.trans (hB.mono HB.out.size)⟩
    case measure => simp [intOf]; omega
  ·go_wp2; go_ret; exact ⟨⟨-1, rfl, by rw [all_end hlt HA.out]; rfl⟩, HB.out⟩
set_option maxHeartbeats 400000 in
theorem containsObj_any (v : Value) (l : List GObj) (w : World) (h : ObjsAt w v l) :
 Calls Tryz.prog 54 #[v, .func (.func 200) #[] #[]] w fun e w' => e = .returned (.bool (!l.all mayP)) ∧ Below w.heap.size w w' := by
 have HCON := Lib.hid (indexObj_any v l w h); clear h; go_enter Tryz.func54, Tryz.ntmps54; go_wp2_with (go_at_call 98; refine HCON.out.mono ?_; rintro e w' ⟨⟨n, rfl, hn⟩, hB⟩; have HN := Lib.hid hn; clear hn); go_ret; exact ⟨ret_bool HN.out, hB⟩
end
section
open Go.RowKit Go.Maps Go.WideMaps
def Tabs (B : Nat) (v : Value) (w : World) (pre : List Spot) : Prop :=
 w.cell? ⟨B + 1, 0, none⟩ = some (.map (some B)) ∧ w.cell? ⟨B + 1, 1, none⟩ = some v ∧ MapFn Tryz.prog 9 w B pre.length (tabFn pre) ∧ MapFn Tryz.prog 9 w (B + 1 + 1) pre.length (strongFn pre)
theorem Tabs.keep {B : Nat} {v : Value} {w w' : World} {pre : List Spot} (hb : Below w.heap.size w w') (h : Tabs B v w pre) : Tabs B v w' pre :=
 ⟨cell_keep hb (by have := h.2.2.2.lt; omega) h.1, cell_keep hb (by have := h.2.2.2.lt; omega) h.2.1, h.2.2.1.below hb h.2.2.1.lt, h.2.2.2.below hb h.2.2.2.lt⟩
def Resolver (w : World) (rb : Nat) (v : Value) (l : List GObj) : Prop :=
 ∃ tb n, w.cell? ⟨rb, 0, none⟩ = some (.map (some tb)) ∧ w.cell? ⟨rb, 1, none⟩ = some v ∧ MapFn Tryz.prog 9 w tb n (tabFn (flat l)) ∧ rb < w.heap.size
set_option maxHeartbeats 400000 in
theorem begin_bad (v : Value) (l : List GObj) (w : World) (h : ObjsAt w v l) (hm : mayAll l = false) :
 Calls Tryz.prog 148 #[v] w fun e w' => e = .returned (.tuple #[.pointer none, .string emptyB, .int .i64 2]) ∧ Below w.heap.size w w' := by
 have HCON := Lib.hid (containsObj_any v l w h); obtain ⟨p, cap, b, o, rfl, hcap, hmax, -, -⟩ := h
 by_cases hl : l.length ≤ 16
 ·have ha : (!l.all mayP) = true := by simp [mayAll, hl] at hm; simpa using hm
  rw [ha] at HCON; clear ha hm; go_enter Tryz.func148, Tryz.ntmps148; go_wp2_with (go_at_call 54; refine HCON.out.mono ?_; rintro e w1 ⟨rfl, hB⟩); go_ret3; exact ⟨rfl, hB⟩
 ·clear hm; go_enter Tryz.func148, Tryz.ntmps148; go_wp2; go_ret3; exact ⟨rfl, Below.refl _ _⟩
set_option maxRecDepth 100000 in
set_option maxHeartbeats 2000000 in
theorem begin_ok (v : Value) (l : List GObj) (w : World) (h : ObjsAt w v l) (hm : mayAll l = true) :
 Calls Tryz.prog 148 #[v] w fun e w' => ((∃ n, dupGo [] (flat l) = some n ∧ e = .returned (.tuple #[.pointer none, .string n, .int .i64 120])) ∨ (dupGo [] (flat l) = none ∧ ∃ rb, e = .returned (.tuple #[.pointer (some ⟨rb, 0, none⟩), .string emptyB, .int .i64 0]) ∧ Resolver w' rb v l)) ∧ Below w.heap.size w w' := by
 have HCON := Lib.hid (containsObj_any v l w h); have HFL := Lib.hid (flat_length_le hm); obtain ⟨p, cap, b, o, rfl, hcap, hmax, hp, hc⟩ := h; have HC := Lib.hid hc; clear hc; have HP := Lib.hid hp; clear hp; simp only [mayAll, Bool.and_eq_true, decide_eq_true_eq] at hm; obtain ⟨hl16, hall⟩ := hm; have hb16 : decide ((16 : Int) < (l.length : Int)) = false := by simp; omega
 rw [hall] at HCON; clear hall; have hmm := @run_makeMap Tryz.prog; go_enter Tryz.func148, Tryz.ntmps148; go_wp2_with (go_at_call 54; refine HCON.out.mono ?_; rintro e w1 ⟨rfl, hB0⟩); clear hmm; have hsz01 : w.heap.size ≤ w1.heap.size := hB0.size
 go_loopw [27] (fun v27 wr => ∃ (i : Nat) (pre : List Spot), i ≤ l.length ∧ v27 = .int .i64 i ∧ pre ++ objsFrom i (l.drop i) = flat l ∧ dupGo pre (objsFrom i (l.drop i)) = dupGo [] (flat l) ∧ Tabs w1.heap.size (.slice p l.length cap) wr pre ∧ Below w.heap.size w wr) (fun v27 _ => l.length - (intOf v27).toNat)
 case atStart =>
  refine ⟨0, [], Nat.zero_le _, rfl, rfl, rfl, ⟨by simp [go_sem], by simp [go_sem], ?_, ?_⟩, ?_⟩
  ·have := MapFn.made Tryz.prog 9 w1; rw [tabFn_nil] at this; exact (this.alloc _).alloc _
  ·have := MapFn.made Tryz.prog 9 ((w1.alloc (.map #[] 0)).alloc (.cells #[.map (some w1.heap.size), .slice p l.length cap] 304)); rw [strongFn_nil] at this; simpa using this
  ·have := hB0.size
   go_grown
 case round =>
  obtain ⟨i, pre, hi, rfl, hcat, hdup, htabs, hbel⟩ := hrel; have HB := Lib.hid hbel; clear hbel; have HT := Lib.hid htabs; clear htabs; have HCAT := Lib.hid hcat; clear hcat; have HDUP := Lib.hid hdup; clear hdup
  by_cases hlt : i < l.length
  ·obtain rfl := HP.out (by omega)
   obtain ⟨vs, g0, g1, g2, hin⟩ := HC.out i hlt; replace g1 := cell_keep HB.out g0 g1; replace g2 := cell_keep HB.out g0 g2; replace g0 := size_keep HB.out g0; have hcat := HCAT.out; have hdup := HDUP.out; rw [objsFrom_drop hlt] at hcat hdup; generalize hx : l[i] = x at g1 g2 hin hcat hdup; obtain ⟨xn, xs⟩ := x; simp only [] at g1 g2 hin hcat hdup; obtain ⟨⟨pS, capS, bS, oS, rfl, hcapS, hmaxS, hpS, hcS⟩, hnmx⟩ := hin; clear HCAT HDUP hx; have HCAT := Lib.hid hcat; clear hcat; have HDUP := Lib.hid hdup; clear hdup; have HCS := Lib.hid hcS; clear hcS; have HPS := Lib.hid hpS; clear hpS; go_wp2; obtain ⟨wo, rfl⟩ : ∃ wo : World, wo = wr := ⟨_, rfl⟩
   go_loopw [35] (fun v35 wr => ∃ (k : Nat) (pre : List Spot), k ≤ xs.length ∧ v35 = .int .i64 k ∧ pre ++ (symsFrom i k (xs.drop k) ++ objsFrom (i + 1) (l.drop (i + 1))) = flat l ∧ dupGo pre (symsFrom i k (xs.drop k) ++ objsFrom (i + 1) (l.drop (i + 1))) = dupGo [] (flat l) ∧ Tabs w1.heap.size (.slice (some ⟨b, o, none⟩) l.length cap) wr pre ∧ Below w.heap.size w wr) (fun v35 _ => xs.length - (intOf v35).toNat)
   case atStart => exact ⟨0, pre, Nat.zero_le _, rfl, HCAT.out, HDUP.out, HT.out.keep (alloc_old _ _), HB.out.alloc HB.out.size _⟩
   case round =>
    clear HCAT HDUP HT g1 g2 g0 HB; obtain ⟨k, pre, hk, rfl, hcat, hdup, htabs, hbel⟩ := hrel; have HCAT := Lib.hid hcat; clear hcat; have HDUP := Lib.hid hdup; clear hdup; have HB := Lib.hid hbel; clear hbel; have HT := Lib.hid htabs; obtain ⟨t0, t1, hM, hN⟩ := htabs; have z2 : w1.heap.size + 1 + 1 < wr.heap.size := hN.lt; have z1 : w1.heap.size + 1 < wr.heap.size := by omega
    have z0 : w1.heap.size < wr.heap.size := by omega
    by_cases hks : k < xs.length
    ·obtain rfl := HPS.out (by omega)
     obtain ⟨vr, vn, g0, g1, g2, g3, g4, g5, g6, g7, hsin⟩ := symR_keeps _ _ _ _ _ HB.out (HCS.out k hks); obtain ⟨p1, q1, p2, q2, rfl, rfl⟩ := hsin.shape; have hns : xs[k].name.size ≤ 9223372036854775807 := by have := hsin.2.2.2.2.2.1; omega
     generalize hy : xs[k] = y at g1 g2 g3 g4 g5 g6 g7 hsin hns; obtain ⟨yn, yb, yk, ys, yy, yr, yt⟩ := y; simp only [] at g1 g2 g3 g4 g5 g6 g7 hsin hns; have HY := Lib.hid hy; clear hy; have HM := Lib.hid (hM.alloc (.cells #[.string yn, .int .u8 yb, .int .u8 yk, .int .u32 ys, .string yy, .slice p1 yr.length q1, .slice p2 yt.length q2] 55)); clear hM; have HN := Lib.hid (hN.alloc (.cells #[.string yn, .int .u8 yb, .int .u8 yk, .int .u32 ys, .string yy, .slice p1 yr.length q1, .slice p2 yt.length q2] 55)); clear hN; obtain ⟨pa, pb, hv⟩ := tabFn_val pre yn.data.toList; have HV := Lib.hid hv; clear hv; have HI := Lib.hid (tabFn_isSome pre yn.data.toList); go_wp2
     go_cut [12] (fun v12 wx => v12 = .bool (winnerIn pre yn.data.toList).isSome ∧ Below (wr.heap.size + 1) (wr.alloc (.cells #[.string yn, .int .u8 yb, .int .u8 yk, .int .u32 ys, .string yy, .slice p1 yr.length q1, .slice p2 yt.length q2] 55)) wx)
     case first =>
      have hne0 : ¬ wr.heap.size = w1.heap.size := by omega
      go_region_held3 (fun w' => w'.cell? ⟨w1.heap.size + 1, 0, none⟩ = some (.map (some w1.heap.size)) ∧ w'.cell? ⟨wr.heap.size, 0, none⟩ = some (.string yn)) (go_keep) (first | (go_at_call 201; refine (winner_any w1.heap.size pre.length (tabFn pre) yn _ pa pb _ ?_ hns HV.out HI.out).mono ?_; (first | exact HM.out.drew | exact (HM.out.alloc _).drew); rintro e w' ⟨rfl, hB⟩; have k1 : w'.cell? ⟨w1.heap.size + 1, 0, none⟩ = some (.map (some w1.heap.size)) := cell_keep hB (by simp; omega) (by simp [go_sem, *]); have k2 : w'.cell? ⟨wr.heap.size, 0, none⟩ = some (.string yn) := cell_keep hB (by simp <;> omega) (by simp [go_sem, *]); obtain ⟨hc, hf⟩ := bcell hB))
      all_goals clear HV HI
      all_goals go_wp2_with fail
      all_goals go_meet
      ·exact ⟨rfl, ((Below.refl _ _).drew.trans (hB.mono (by simp))).alloc (by have := hB.size; simp at this; omega) _⟩
      ·exact ⟨rfl, ((((Below.refl _ _).alloc (by simp) _).drew.trans (hB.mono (by simp))).setCell (by simp) _).setCell (by simp) _⟩
     case rest =>
      obtain ⟨rfl, hbx⟩ := hcut; have k0 : wc.cell? ⟨wr.heap.size, 0, none⟩ = some (.string yn) := by rw [hbx.cell (by simp)]; simp [go_sem]
      have k1 : wc.cell? ⟨wr.heap.size, 1, none⟩ = some (.int .u8 yb) := by rw [hbx.cell (by simp)]; simp [go_sem]
      have t0c : wc.cell? ⟨w1.heap.size + 1, 0, none⟩ = some (.map (some w1.heap.size)) := by rw [hbx.cell (by simp; omega)]; simp [go_sem, *]
      have t1c : wc.cell? ⟨w1.heap.size + 1, 1, none⟩ = some (.slice (some ⟨b, o, none⟩) l.length cap) := by rw [hbx.cell (by simp; omega)]; simp [go_sem, *]
      have zc : wr.heap.size < wc.heap.size := by have := hbx.size; simp at this; omega
      have HMc := Lib.hid (HM.out.below hbx (by omega)); clear HM
      have HNc := Lib.hid (HN.out.below hbx (by omega)); clear HN
      have HBW : Hid (Below w.heap.size w wc) := HB.out.trans ((alloc_old wr _).mono HB.out.size |>.trans (hbx.mono (by have := HB.out.size; omega)))
      have hplen : pre.length < 1024 := by
       have h1 := HFL.out; rw [← HCAT.out, List.length_append, List.length_append, symsFrom_length, List.length_drop] at h1; omega
      have HBX := Lib.hid hbx; clear hbx; clear t0 t1 g1 g2 g3 g4 g5 g6 g7 hsin HT HB HV HI
      by_cases hb1 : yb = 1
      ·subst hb1
       by_cases hst : (firstBy pre yn.data.toList 1).isSome = true
       ·have hrun := HNc.out.look (t := 78) (e := 3) keyedS Tryz.underlying78 Tryz.underlying9 (zeroInt _) hns; rw [strongFn_val_yes hst] at hrun
        have HDUP2 : Hid (dupGo [] (flat l) = some yn) := by
         rw [← HDUP.out, symsFrom_drop hks, HY.out, List.cons_append, dupGo, if_pos ⟨rfl, hst⟩]; rfl
        have HST := Lib.hid hst; clear hst; go_wp2
        go_quiet (fail)
        go_wp2; go_ret3; exact ⟨.inl ⟨yn, HDUP2.out, rfl⟩, below_drewN HBW.out _⟩
       ·have hst' : (firstBy pre yn.data.toList 1).isSome = false := by simpa using hst
        have hrun := HNc.out.look (t := 78) (e := 3) keyedS Tryz.underlying78 Tryz.underlying9 (zeroInt _) hns; rw [strongFn_val_no hst'] at hrun; have HDUP2 := Lib.hid (dup_step hks HY.out HDUP.out (by simp [hst']))
        have HST := Lib.hid hst'; clear hst hst'; go_wp2
        go_still_tail 9, (by kernel_rfl)
        refine wpList_put _ rfl _ _ _ 302 rfl 9 185 keyedS Tryz.underlying302 Tryz.underlying9 rfl HMc.out.drew (by unfold maxLen; omega) yn (placeV (i, k)) rfl rfl hns ?_
        intro w2 hM2 hg2; rw [tab_strong (x := ⟨i, k, ⟨yn, 1, yk, ys, yy, yr, yt⟩⟩) rfl HST.out] at hM2; have hz2 : wc.heap.size ≤ w2.heap.size := hg2.size; have k0' : w2.cell? ⟨wr.heap.size, 0, none⟩ = some (.string yn) := cell_grown hg2 zc (by omega) k0
        have k1' : w2.cell? ⟨wr.heap.size, 1, none⟩ = some (.int .u8 1) := cell_grown hg2 zc (by omega) k1
        have t0' : w2.cell? ⟨w1.heap.size + 1, 0, none⟩ = some (.map (some w1.heap.size)) := cell_grown hg2 (Nat.lt_trans z1 zc) (by omega) t0c
        have t1' : w2.cell? ⟨w1.heap.size + 1, 1, none⟩ = some (.slice (some ⟨b, o, none⟩) l.length cap) := cell_grown hg2 (Nat.lt_trans z1 zc) (by omega) t1c
        have HN2 := Lib.hid (HNc.out.drew.grown hg2 (by omega))
        have HM2 := Lib.hid hM2; clear hM2; have HG2 := Lib.hid hg2; clear hg2; have zc2 : wr.heap.size < w2.heap.size := by omega
        have HV := Lib.hid (strongFn_val_no HST.out); clear hrun HMc HNc k0 k1 t0c t1c; go_wp2_with (first | (at_lookup; refine wpList_look _ rfl _ _ 78 rfl 9 3 keyedS Tryz.underlying78 Tryz.underlying9 (zeroInt _) rfl HN2.out yn rfl hns HV.out ?_) | (at_mapUpdate; refine wpList_put _ rfl _ _ _ 78 rfl 9 3 keyedS Tryz.underlying78 Tryz.underlying9 rfl HN2.out (by unfold maxLen; omega) yn (.int .i64 1) rfl rfl hns ?_; intro w3 hM3 hg3; have HM3 := Lib.hid hM3; have HG3 := Lib.hid hg3; clear hM3 hg3))
        go_roundw
        case rel => exact ⟨k + 1, _, by omega, by go_num, cat_step hks HY.out HCAT.out, HDUP2.out, ⟨cell_grown HG3.out (by omega) (by omega) t0', cell_grown HG3.out (by omega) (by omega) t1', (HM2.out.grown HG3.out (by omega)).mono (by simp), ((strong_yes (x := ⟨i, k, ⟨yn, 1, yk, ys, yy, yr, yt⟩⟩) rfl) ▸ HM3.out).mono (by simp)⟩, (HBW.out.drew.grown HG2.out (by simp; omega) (fun q e => by simp at e; omega)).grown HG3.out (by omega) (fun q e => by simp at e; omega)⟩
        case measure => simp [intOf]; omega
      ·have b1 : (yb == 1) = false := by simpa using hb1
       have HDUP2 := Lib.hid (dup_step hks HY.out HDUP.out (by simp [hb1]))
       have HB1 := Lib.hid hb1; clear hb1
       by_cases hb2 : yb = 2 ∧ (winnerIn pre yn.data.toList).isSome = false
       ·obtain ⟨rfl, hw⟩ := hb2; have HW := Lib.hid hw; go_wp2
        go_still_tail 9, (by kernel_rfl)
        refine wpList_put _ rfl _ _ _ 302 rfl 9 185 keyedS Tryz.underlying302 Tryz.underlying9 rfl HMc.out.drew (by unfold maxLen; omega) yn (placeV (i, k)) rfl rfl hns ?_
        intro w2 hM2 hg2; rw [tab_weak (x := ⟨i, k, ⟨yn, 2, yk, ys, yy, yr, yt⟩⟩) rfl HW.out] at hM2; have hz2 : wc.heap.size ≤ w2.heap.size := hg2.size; have k1' : w2.cell? ⟨wr.heap.size, 1, none⟩ = some (.int .u8 2) := cell_grown hg2 zc (by omega) k1
        have t0' : w2.cell? ⟨w1.heap.size + 1, 0, none⟩ = some (.map (some w1.heap.size)) := cell_grown hg2 (Nat.lt_trans z1 zc) (by omega) t0c
        have t1' : w2.cell? ⟨w1.heap.size + 1, 1, none⟩ = some (.slice (some ⟨b, o, none⟩) l.length cap) := cell_grown hg2 (Nat.lt_trans z1 zc) (by omega) t1c
        have HN2 := Lib.hid (HNc.out.drew.grown hg2 (by omega))
        have HM2 := Lib.hid hM2; clear hM2; have HG2 := Lib.hid hg2; clear hg2; have zc2 : wr.heap.size < w2.heap.size := by omega
        clear HMc HNc k0 k1 t0c t1c; go_wp2; go_roundw
        case rel => exact ⟨k + 1, _, by omega, by go_num, cat_step hks HY.out HCAT.out, HDUP2.out, ⟨t0', t1', HM2.out.mono (by simp), ((strong_same (l := pre) (x := ⟨i, k, ⟨yn, 2, yk, ys, yy, yr, yt⟩⟩) HB1.out) ▸ HN2.out).mono (by simp)⟩, HBW.out.drew.grown HG2.out (by simp; omega) (fun q e => by simp at e; omega)⟩
        case measure => simp [intOf]; omega
       ·have hor : ¬ yb = 2 ∨ (winnerIn pre yn.data.toList).isSome = true := by
         by_cases h2 : yb = 2
         ·right; cases h3 : (winnerIn pre yn.data.toList).isSome with
          | true => rfl
          | false => exact absurd ⟨h2, h3⟩ hb2
         ·exact .inl h2
        have HOR := Lib.hid hor; clear hb2
        have fin : Hid (Tabs w1.heap.size (.slice (some ⟨b, o, none⟩) l.length cap) wc (pre ++ [⟨i, k, ⟨yn, yb, yk, ys, yy, yr, yt⟩⟩])) :=
         ⟨t0c, t1c, ((tab_same (l := pre) (x := ⟨i, k, ⟨yn, yb, yk, ys, yy, yr, yt⟩⟩) HB1.out HOR.out) ▸ HMc.out).mono (by simp), ((strong_same (l := pre) (x := ⟨i, k, ⟨yn, yb, yk, ys, yy, yr, yt⟩⟩) HB1.out) ▸ HNc.out).mono (by simp)⟩
        clear HMc HNc t0c t1c; rcases hor with h2 | h2
        ·have b2 : (yb == 2) = false := by simpa using h2
         clear h2; go_wp2; go_roundw
         case rel => exact ⟨k + 1, _, by omega, by go_num, cat_step hks HY.out HCAT.out, HDUP2.out, fin.out, HBW.out⟩
         case measure => simp [intOf]; omega
        ·go_wp2
         all_goals
          go_roundw
          case rel => exact ⟨k + 1, _, by omega, by go_num, cat_step hks HY.out HCAT.out, HDUP2.out, fin.out, HBW.out⟩
          case measure => simp [intOf]; omega
    ·go_wp2; have hcat := HCAT.out; have hdup := HDUP.out; rw [List.drop_of_length_le (by omega), symsFrom, List.nil_append] at hcat hdup
     have HCAT2 := Lib.hid hcat; clear hcat; have HDUP2 := Lib.hid hdup; clear hdup; go_roundw
     case rel => exact ⟨i + 1, pre, by omega, by go_num, HCAT2.out, HDUP2.out, HT.out, HB.out⟩
     case measure => simp [intOf]; omega
  ·have hcat := HCAT.out; have hdup := HDUP.out; rw [List.drop_of_length_le (by omega), objsFrom] at hcat hdup
   rw [List.append_nil] at hcat; subst hcat; have HD : Hid (dupGo [] (flat l) = none) := hdup.symm; clear hdup HCAT HDUP; go_wp2; go_ret3; obtain ⟨t0, t1, hM, hN⟩ := HT.out; exact ⟨.inr ⟨HD.out, _, rfl, _, _, t0, t1, hM, by have := hN.lt; omega⟩, HB.out⟩
end
end Go.Proofs.YtboegjdkedjhcaaGreatDoor
