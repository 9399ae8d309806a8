/- A text is a name just if trimming the name bytes leaves nothing of it. No program in sight. The walk of obj.name: it returns isName. The walks of obj.told, obj.Note and the search over notes. The walks of obj.symbol's sized and places. The walk of obj.symbol's may. A map with string keys as a function from texts to values, over the kit's word ownsMap. No program in sight. The walks of obj.object's may and obj.Check. The walk of objfile.Get. Archives (layer 35), in plain words: which may be, their bytes, and what is read of bytes. No program in sight. -/
import Derived.Test.YtboegjdkedjhcaaGreatDoorBd01
import Derived.Lib.SlTrimSet
import Derived.Test.YtboegjdkedjhcaaGreatDoorRows
import Derived.Test.YtboegjdkedjhcaaGreatDoorTrimLay
import Derived.WalkLawsBesides
import Derived.Lib.Hide
import Derived.Test.YtboegjdkedjhcaaGreatDoorBd02
import Derived.Deep.Light
import Derived.Handy
import Derived.WalkKit
import Derived.WalkSpells
import Derived.Maps.OwnSet
import Derived.Maps.Views
import Derived.StringKeys
import Derived.Test.YtboegjdkedjhcaaGreatDoorBd06
namespace Go.Proofs.YtboegjdkedjhcaaGreatDoor
def nameSet : List UInt8 := [97, 98, 99, 100, 101, 102, 103, 104, 105, 106, 107, 108, 109, 110, 111, 112, 113, 114, 115, 116, 117, 118, 119, 120, 121, 122, 48, 49, 50, 51, 52, 53, 54, 55, 56, 57, 46, 95]
theorem nameSet_all : ∀ n : Fin 256, nameSet.contains (UInt8.ofNat n.val) = nameByte (UInt8.ofNat n.val) := by decide +kernel
theorem nameSet_contains (b : UInt8) : nameSet.contains b = nameByte b := by
  have := nameSet_all ⟨b.toNat, b.toNat_lt⟩
  simpa using this
theorem dropWhile_nil {α : Type} (p : α → Bool) : ∀ l : List α, l.dropWhile p = [] ↔ l.all p = true
  | [] => by simp
  | a :: l => by
    by_cases h : p a = true
    · simp [h, dropWhile_nil p l]
    · simp [h]
theorem trimS_nil (l : List UInt8) : Lib.trimS l nameSet = [] ↔ l.all nameByte = true := by
  have e : (fun b => nameSet.contains b) = nameByte := funext nameSet_contains
  unfold Lib.trimS Lib.trimLeftS Lib.trimRightS
  simp only [e]
  rw [dropWhile_nil]
  simp only [List.all_reverse]
  constructor
  · intro h
    by_cases h2 : l.all nameByte = true
    · exact h2
    · exfalso
      have h3 : ¬ (l.reverse.dropWhile nameByte = []) := by rw [dropWhile_nil, List.all_reverse]; exact h2
      obtain ⟨a, t, hat⟩ := List.exists_cons_of_ne_nil h3
      have h4 : nameByte a = false := by
        have := List.head?_dropWhile_not nameByte l.reverse
        rw [hat] at this
        simpa using this
      rw [hat] at h
      simp [h4] at h
  · intro h
    have h3 : l.reverse.dropWhile nameByte = [] := by rw [dropWhile_nil, List.all_reverse]; exact h
    simp [h3]
theorem trim_isName (s : ByteArray) (h0 : 1 ≤ s.size) (h1 : s.size ≤ 32) : (Lib.trimS s.data.toList nameSet).isEmpty = isName s := by
  rw [Bool.eq_iff_iff, List.isEmpty_iff, trimS_nil]
  simp [isName, h0, h1]
end Go.Proofs.YtboegjdkedjhcaaGreatDoor
namespace Go.Proofs.YtboegjdkedjhcaaGreatDoor
open Go.RowKit Go.Shelf Go.Lib
theorem trim_any (s : ByteArray) (w : World) (hs : s.size ≤ 9223372036854775807) :
    Calls Tryz.prog 176 #[.string s, .string ⟨#[97, 98, 99, 100, 101, 102, 103, 104, 105, 106, 107, 108, 109, 110, 111, 112, 113, 114, 115, 116, 117, 118, 119, 120, 121, 122, 48, 49, 50, 51, 52, 53, 54, 55, 56, 57, 46, 95]⟩] w fun e w' => e = .returned (.string ⟨(Lib.trimS s.data.toList nameSet).toArray⟩) ∧ Below w.heap.size w w' :=
  Any.strings_Trim_laid Tryz.lays160 (by kernel_rfl) s ⟨#[97, 98, 99, 100, 101, 102, 103, 104, 105, 106, 107, 108, 109, 110, 111, 112, 113, 114, 115, 116, 117, 118, 119, 120, 121, 122, 48, 49, 50, 51, 52, 53, 54, 55, 56, 57, 46, 95]⟩ w hs (by decide) (ascii_of_all (by decide))
set_option maxHeartbeats 400000 in
theorem objName_any (s : ByteArray) (w : World) (hs : s.size ≤ 140737488355328) :
    Calls Tryz.prog 125 #[.string s] w fun e w' => e = .returned (.bool (isName s)) ∧ Below w.heap.size w w' := by
  by_cases h0 : s.size = 0
  · have hn : isName s = false := by simp [isName, h0]
    rw [hn]; clear hn
    have hl := toList_nil h0
    clear h0
    go_enter Tryz.func125, Tryz.ntmps125
    go_wp2
    go_ret
    exact ⟨rfl, Below.refl _ _⟩
  · have h1 : 1 ≤ s.size := by omega
    have hl := toList_not_nil h1
    have hl' := toList_isEmpty h1
    clear h0
    by_cases h2 : s.size ≤ 32
    · have HN := Lib.hid (trim_isName s h1 h2)
      have hcon := trim_any s w (by omega)
      generalize Lib.trimS s.data.toList nameSet = r at hcon HN
      have HCON := Lib.hid hcon; clear hcon
      go_enter Tryz.func125, Tryz.ntmps125
      go_wp2_with (go_at_call 176; refine HCON.out.mono ?_; rintro e w' ⟨rfl, hB⟩)
      go_ret
      exact ⟨ret_bool HN.out, hB⟩
    · have hn : isName s = false := by simp [isName, h2]
      rw [hn]; clear hn
      go_enter Tryz.func125, Tryz.ntmps125
      go_wp2
      go_ret
      exact ⟨rfl, Below.refl _ _⟩
end Go.Proofs.YtboegjdkedjhcaaGreatDoor
namespace Go.Proofs.YtboegjdkedjhcaaGreatDoor
open Go.RowKit
theorem told_any (b : Bool) (w : World) : Calls Tryz.prog 75 #[.bool b] w fun e w' => e = .returned (.int .i64 (errB b)) ∧ w = w' := by
  cases b <;>
  (go_enter Tryz.func75, Tryz.ntmps75
   go_wp2
   go_ret
   exact ⟨rfl, rfl⟩)
theorem or_zero {n m : Int} (h2 : 0 ≤ n ∧ n ≤ 4294967295) (h3 : 0 ≤ m ∧ m ≤ 4294967295) : (bits .or .u32 n m == 0) = (decide (n = 0) && decide (m = 0)) := by
  rw [u32_or n m h2.1 (by omega) h3.1 (by omega), Bool.eq_iff_iff]
  simp
  omega
set_option maxHeartbeats 1000000 in
theorem note_any (x : GNote) (w : World) (h1 : 0 ≤ x.kind ∧ x.kind ≤ 255) (h2 : 0 ≤ x.n ∧ x.n ≤ 4294967295) (h3 : 0 ≤ x.m ∧ x.m ≤ 4294967295) :
    Calls Tryz.prog 159 #[.agg #[.int .u8 x.kind, .int .u32 x.n, .int .u32 x.m]] w fun e w' => e = .returned (.int .i64 (errB (noteOk x))) ∧ Below w.heap.size w w' := by
  obtain ⟨k, n, m⟩ := x
  simp only [] at *
  go_enter Tryz.func159, Tryz.ntmps159
  go_wp2_with (go_at_call 75; refine (told_any _ _).mono ?_; rintro e w' ⟨rfl, rfl⟩)
  all_goals
    go_ret
    first
    | exact ⟨ret_int (congrArg errB (by go_light; first | (simp_all [noteOk, ibeq]; done) | (simp_all [noteOk]; omega) | (simp_all [noteOk, or_zero]; done))), alloc_old w _⟩
    | exact ⟨ret_int (show errB false = _ from congrArg errB (by go_light; simp_all [noteOk])), alloc_old w _⟩
set_option maxHeartbeats 400000 in
theorem mayNote_any (x : GNote) (w : World) (h1 : 0 ≤ x.kind ∧ x.kind ≤ 255) (h2 : 0 ≤ x.n ∧ x.n ≤ 4294967295) (h3 : 0 ≤ x.m ∧ x.m ≤ 4294967295) :
    Calls Tryz.prog 175 #[.agg #[.int .u8 x.kind, .int .u32 x.n, .int .u32 x.m]] w fun e w' => e = .returned (.bool (!noteOk x)) ∧ Below w.heap.size w w' := by
  go_enter Tryz.func175, Tryz.ntmps175
  go_wp2_with (go_at_call 159; refine (note_any _ _ h1 h2 h3).mono ?_; rintro e w' ⟨rfl, hB⟩)
  go_ret
  exact ⟨ret_bool (by cases noteOk x <;> rfl), (alloc_old w _).trans (hB.mono (by simp))⟩
set_option maxHeartbeats 400000 in
theorem indexNote_any (v : Value) (l : List GNote) (w : World) (h : RowAt 3 NoteR w v l) :
    Calls Tryz.prog 213 #[v, .func (.func 175) #[] #[]] w fun e w' => (∃ n : Int, e = .returned (.int .i64 n) ∧ decide (0 ≤ n) = !l.all noteOk) ∧ Below w.heap.size w w' := by
  obtain ⟨p, cap, b, o, rfl, hcap, hmax, hp, hc⟩ := h
  have HC := Lib.hid hc; clear hc
  have HP := Lib.hid hp; clear hp
  go_enter Tryz.func213, Tryz.ntmps213
  go_wp2
  go_loopw [8] (fun i wr => ∃ k : Nat, k ≤ l.length ∧ i = .int .i64 k ∧ (l.take k).all noteOk = true ∧ Below w.heap.size w wr) (fun i _ => l.length - (intOf i).toNat)
  case atStart => exact ⟨0, Nat.zero_le _, rfl, rfl, Below.refl _ _⟩
  case round =>
    obtain ⟨k, hk, rfl, hall, hbel⟩ := hrel
    have HA := Lib.hid hall; clear hall
    have HB := Lib.hid hbel; clear hbel
    by_cases hlt : k < l.length
    · obtain rfl := HP.out (by omega)
      obtain ⟨g0, g1, g2, g3, g5, g6, g7⟩ := noteR_keeps _ _ _ _ _ HB.out (HC.out k hlt)
      have HCON := Lib.hid (mayNote_any l[k] wr g5 g6 g7)
      generalize hx : l[k] = x at *
      obtain ⟨xk, xn, xm⟩ := x
      simp only [] at *
      have HX := Lib.hid hx; clear hx
      go_wp2_with (go_at_call 175; refine HCON.out.mono ?_; rintro e w' ⟨rfl, hB⟩)
      · have hbad : (!noteOk ⟨xk, xn, xm⟩) = true := by assumption
        go_ret
        exact ⟨⟨k, rfl, by rw [all_bad hlt HX.out (by simpa using hbad)]; simp⟩, HB.out.trans (hB.mono HB.out.size)⟩
      · have hok : (!noteOk ⟨xk, xn, xm⟩) = false := by assumption
        go_roundw
        case rel => exact ⟨k + 1, by omega, by go_num, take_all_snoc hlt HX.out HA.out (by simpa using hok), HB.out.trans (hB.mono HB.out.size)⟩
        case measure => simp [intOf]; omega
    · go_wp2
      go_ret
      exact ⟨⟨-1, rfl, by rw [all_end hlt HA.out]; rfl⟩, HB.out⟩
set_option maxHeartbeats 400000 in
theorem containsNote_any (v : Value) (l : List GNote) (w : World) (h : RowAt 3 NoteR w v l) :
    Calls Tryz.prog 174 #[v, .func (.func 175) #[] #[]] w fun e w' => e = .returned (.bool (!l.all noteOk)) ∧ Below w.heap.size w w' := by
  have HCON := Lib.hid (indexNote_any v l w h); clear h
  go_enter Tryz.func174, Tryz.ntmps174
  go_wp2_with (go_at_call 213; refine HCON.out.mono ?_; rintro e w' ⟨⟨n, rfl, hn⟩, hB⟩; have HN := Lib.hid hn; clear hn)
  go_ret
  exact ⟨ret_bool HN.out, hB⟩
end Go.Proofs.YtboegjdkedjhcaaGreatDoor
namespace Go.Proofs.YtboegjdkedjhcaaGreatDoor
open Go.RowKit
set_option maxHeartbeats 1000000 in
theorem sized_any (s : GSym) (vr vn : Value) (w : World) (hbs : s.bytes.size ≤ 140737488355328) (hk : 0 ≤ s.kind ∧ s.kind ≤ 255) (hz : 0 ≤ s.size ∧ s.size ≤ 4294967295) :
    Calls Tryz.prog 172 #[.agg #[.string s.name, .int .u8 s.bind, .int .u8 s.kind, .int .u32 s.size, .string s.bytes, vr, vn]] w fun e w' => e = .returned (.bool (sizedOk s)) ∧ Below w.heap.size w w' := by
  obtain ⟨name, bind, kind, size, bytes, rels, notes⟩ := s
  simp only [] at *
  go_enter Tryz.func172, Tryz.ntmps172
  go_wp2
  all_goals
    go_ret
    exact ⟨ret_bool (sizedB_eq (n := (bytes.size : Int) % 4294967296) (by go_light; simp; omega)), alloc_old w _⟩
theorem placesOk_no {s : GSym} {k : Nat} {e : Int} {x : GRel} (hlt : k < s.rels.length) (hx : s.rels[k] = x) (hgo : relsGo (len32 s.bytes) e (s.rels.drop k) = relsGo (len32 s.bytes) 0 s.rels)
    (h : (decide (widthOf x.kind ≠ 0) && isName x.name && decide (x.off ≤ 8192) && decide (e ≤ x.off) && decide (x.off + widthOf x.kind ≤ len32 s.bytes)) = false) : false = placesOk s := by
  rw [List.drop_eq_getElem_cons hlt, hx, relsGo, h] at hgo
  simp [placesOk, ← hgo]
theorem placesOk_end {s : GSym} {k : Nat} {e : Int} (hlt : ¬ k < s.rels.length) (hgo : relsGo (len32 s.bytes) e (s.rels.drop k) = relsGo (len32 s.bytes) 0 s.rels) : decide ((s.rels.length : Int) ≤ 1024) = placesOk s := by
  rw [List.drop_of_length_le (by omega), relsGo] at hgo
  simp [placesOk, ← hgo]; omega
theorem placesOk_no' {s : GSym} {k : Nat} {e : Int} {x : GRel} (hlt : k < s.rels.length) (hx : s.rels[k] = x) (hgo : relsGo (len32 s.bytes) e (s.rels.drop k) = relsGo (len32 s.bytes) 0 s.rels)
    (h : isName x.name = false ∨ (8192 < x.off ∨ x.off < e ∨ len32 s.bytes < x.off + widthOf x.kind)) : false = placesOk s :=
  placesOk_no hlt hx hgo (by
    rcases h with h | h
    · simp [h]
    · rw [Bool.eq_false_iff]; intro h2; simp at h2; omega)
theorem placesGo_yes {s : GSym} {k : Nat} {e g : Int} {x : GRel} (hlt : k < s.rels.length) (hx : s.rels[k] = x) (hgo : relsGo (len32 s.bytes) e (s.rels.drop k) = relsGo (len32 s.bytes) 0 s.rels)
    (hn : isName x.name = true) (h : widthOf x.kind ≠ 0 ∧ x.off ≤ 8192 ∧ e ≤ x.off ∧ x.off + widthOf x.kind ≤ len32 s.bytes) (hg : g = x.off + widthOf x.kind) : relsGo (len32 s.bytes) g (s.rels.drop (k + 1)) = relsGo (len32 s.bytes) 0 s.rels :=
  relsGo_yes hlt hx hgo (by simp [hn, h]) hg
theorem widthOf1 : widthOf 1 = 4 := rfl
theorem widthOf2 : widthOf 2 = 2 := rfl
set_option maxHeartbeats 1000000 in
theorem places_any (s : GSym) (vr vn : Value) (w : World) (h : SymIn w s vr vn) :
    Calls Tryz.prog 173 #[.agg #[.string s.name, .int .u8 s.bind, .int .u8 s.kind, .int .u32 s.size, .string s.bytes, vr, vn]] w fun e w' => e = .returned (.bool (placesOk s)) ∧ Below w.heap.size w w' := by
  obtain ⟨hr, -, -, -, -, -, hbs⟩ := h
  obtain ⟨p, cap, b, o, rfl, hcap, hmax, hp, hc⟩ := hr
  have HC := Lib.hid hc; clear hc
  have HP := Lib.hid hp; clear hp
  have hl32 : len32 s.bytes = (s.bytes.size : Int) % 4294967296 := rfl
  have HL := Lib.hid hl32; clear hl32
  go_enter Tryz.func173, Tryz.ntmps173
  go_wp2
  go_loopw [3, 11] (fun v3 v4 wr => ∃ (k : Nat) (e : Int), k ≤ s.rels.length ∧ v4 = .int .i64 k ∧ v3 = .int .u32 e ∧ 0 ≤ e ∧ e ≤ 8196 ∧ relsGo (len32 s.bytes) e (s.rels.drop k) = relsGo (len32 s.bytes) 0 s.rels ∧ Below (w.heap.size + 1) (w.alloc (.cells #[.string s.name, .int .u8 s.bind, .int .u8 s.kind, .int .u32 s.size, .string s.bytes, .slice p s.rels.length cap, vn] 220)) wr) (fun _ v4 _ => s.rels.length - (intOf v4).toNat)
  case atStart => exact ⟨0, 0, Nat.zero_le _, rfl, rfl, by omega, by omega, rfl, Below.refl _ _⟩
  case round =>
    obtain ⟨k, e, hk, rfl, rfl, he0, he1, hgo, hbel⟩ := hrel
    have HGO := Lib.hid hgo; clear hgo
    have c5 : wr.cell? ⟨w.heap.size, 5, none⟩ = some (.slice p s.rels.length cap) := by rw [hbel.cell (by simp)]; simp [go_sem]
    have c4 : wr.cell? ⟨w.heap.size, 4, none⟩ = some (.string s.bytes) := by rw [hbel.cell (by simp)]; simp [go_sem]
    have hsz : w.heap.size + 1 ≤ wr.heap.size := by have := hbel.size; simpa using this
    have HB := Lib.hid hbel; clear hbel
    by_cases hlt : k < s.rels.length
    · obtain rfl := HP.out (by omega)
      obtain ⟨g0, g1, g2, g3, g4, g5, g6, g7, g8⟩ := relR_keeps _ _ _ _ _ ((alloc_old w _).trans (HB.out.mono (by omega))) (HC.out k hlt)
      generalize hx : s.rels[k] = x at *
      obtain ⟨xo, xk, xn, xa⟩ := x
      simp only [] at *
      have HX := Lib.hid hx; clear hx
      have hsz' : w.heap.size < wr.heap.size := by omega
      have HBW : Hid (Below w.heap.size w wr) := (alloc_old w _).trans (HB.out.mono (by omega))
      rcases (show xk = 1 ∨ xk = 2 ∨ (xk ≠ 1 ∧ xk ≠ 2) by omega) with rfl | rfl | ⟨q1, q2⟩
      · go_wp2_with (go_at_call 125; refine (objName_any _ _ (by omega)).mono ?_; rintro e w' ⟨rfl, hB⟩; obtain ⟨hc1, hf1⟩ := bcell hB; have hz1 : wr.heap.size < w'.heap.size := (by have := hB.size; simp at this; omega); have HB1 := Lib.hid hB; clear hB)
        all_goals
          have HB2 : Hid (Below (w.heap.size + 1) wr w') := (Below.alloc (Below.refl _ _) (by omega) _).trans (HB1.out.mono (by simp; omega))
          first
          | (go_roundw
             case rel => exact ⟨k + 1, _, by omega, by go_num, rfl, by omega, by omega, placesGo_yes hlt HX.out HGO.out (by assumption) (by go_light; rw [HL.out]; simp only [widthOf1]; omega) rfl, HB.out.trans HB2.out⟩
             case measure => simp [intOf]; omega)
          | (have hbad : ¬ isName xn = true := (by assumption)
             go_ret
             exact ⟨ret_bool (placesOk_no' hlt HX.out HGO.out (.inl (by simpa using hbad))), HBW.out.trans (HB2.out.mono (by omega))⟩)
          | (go_ret
             exact ⟨ret_bool (placesOk_no' hlt HX.out HGO.out (.inr (by go_light; rw [HL.out]; simp only [widthOf1]; omega))), HBW.out.trans (HB2.out.mono (by omega))⟩)
      · go_wp2_with (go_at_call 125; refine (objName_any _ _ (by omega)).mono ?_; rintro e w' ⟨rfl, hB⟩; obtain ⟨hc1, hf1⟩ := bcell hB; have hz1 : wr.heap.size < w'.heap.size := (by have := hB.size; simp at this; omega); have HB1 := Lib.hid hB; clear hB)
        all_goals
          have HB2 : Hid (Below (w.heap.size + 1) wr w') := (Below.alloc (Below.refl _ _) (by omega) _).trans (HB1.out.mono (by simp; omega))
          first
          | (go_roundw
             case rel => exact ⟨k + 1, _, by omega, by go_num, rfl, by omega, by omega, placesGo_yes hlt HX.out HGO.out (by assumption) (by go_light; rw [HL.out]; simp only [widthOf2]; omega) rfl, HB.out.trans HB2.out⟩
             case measure => simp [intOf]; omega)
          | (have hbad : ¬ isName xn = true := (by assumption)
             go_ret
             exact ⟨ret_bool (placesOk_no' hlt HX.out HGO.out (.inl (by simpa using hbad))), HBW.out.trans (HB2.out.mono (by omega))⟩)
          | (go_ret
             exact ⟨ret_bool (placesOk_no' hlt HX.out HGO.out (.inr (by go_light; rw [HL.out]; simp only [widthOf2]; omega))), HBW.out.trans (HB2.out.mono (by omega))⟩)
      · have HW : Hid (widthOf xk = 0) := by unfold widthOf; rw [if_neg q1, if_neg q2]; rfl
        have b1 : (xk == 1) = false := by simpa using q1
        have b2 : (xk == 2) = false := by simpa using q2
        clear q1 q2
        go_wp2
        go_ret
        exact ⟨ret_bool (placesOk_no hlt HX.out HGO.out (by simp [HW.out])), HBW.out.alloc (by omega) _⟩
    · go_wp2
      go_ret
      exact ⟨ret_bool (placesOk_end hlt HGO.out), (alloc_old w _).trans (HB.out.mono (by omega))⟩
end Go.Proofs.YtboegjdkedjhcaaGreatDoor
namespace Go.Proofs.YtboegjdkedjhcaaGreatDoor
open Go.RowKit
set_option maxHeartbeats 1000000 in
theorem symMay_any (s : GSym) (vr vn : Value) (w : World) (h : SymIn w s vr vn) :
    Calls Tryz.prog 124 #[.agg #[.string s.name, .int .u8 s.bind, .int .u8 s.kind, .int .u32 s.size, .string s.bytes, vr, vn]] w fun e w' => e = .returned (.bool (symOkP s)) ∧ Below w.heap.size w w' := by
  have H := Lib.hid h
  obtain ⟨hr, hn, hb, hk, hs, hnm, hbs⟩ := h
  obtain ⟨p, cap, b, o, rfl, hcap, hmax, -, -⟩ := hn
  clear hr
  have HB : Hid (Below w.heap.size w (w.alloc (.cells #[.string s.name, .int .u8 s.bind, .int .u8 s.kind, .int .u32 s.size, .string s.bytes, vr, .slice p s.notes.length cap] 220))) := alloc_old w _
  go_enter Tryz.func124, Tryz.ntmps124
  go_wp2_with (first | (go_at_call 125; refine (objName_any _ _ (by omega)).mono ?_; rintro e w1 ⟨rfl, hB⟩; obtain ⟨hc, hf⟩ := bcell hB; have hz : w.heap.size < w1.heap.size := (by have := hB.size; (try simp at this); omega); replace HB : Hid (Below w.heap.size w w1) := HB.out.trans (hB.mono HB.out.size); clear hB) | (go_at_call 172; refine (sized_any s _ _ _ hbs hk hs).mono ?_; rintro e w1 ⟨rfl, hB⟩; obtain ⟨hc, hf⟩ := bcell hB; have hz : w.heap.size < w1.heap.size := (by have := hB.size; (try simp at this); omega); replace HB : Hid (Below w.heap.size w w1) := HB.out.trans (hB.mono HB.out.size); clear hB) | (go_at_call 173; refine (places_any s _ _ _ (H.out.keep HB.out)).mono ?_; rintro e w1 ⟨rfl, hB⟩; obtain ⟨hc, hf⟩ := bcell hB; have hz : w.heap.size < w1.heap.size := (by have := hB.size; (try simp at this); omega); replace HB : Hid (Below w.heap.size w w1) := HB.out.trans (hB.mono HB.out.size); clear hB) | (go_at_call 174; refine (containsNote_any _ s.notes _ (H.out.keep HB.out).2.1).mono ?_; rintro e w1 ⟨rfl, hB⟩; obtain ⟨hc, hf⟩ := bcell hB; have hz : w.heap.size < w1.heap.size := (by have := hB.size; (try simp at this); omega); replace HB : Hid (Below w.heap.size w w1) := HB.out.trans (hB.mono HB.out.size); clear hB))
  all_goals
    go_ret
    exact ⟨ret_bool (by go_light; simp_all [symOkP]; try omega), HB.out⟩
end Go.Proofs.YtboegjdkedjhcaaGreatDoor
namespace Go.Proofs.YtboegjdkedjhcaaGreatDoor
open Go.RowKit Go.Maps Go.WideMaps
def mapR (v : Value) : Option (DataW Value × List MemPlace) := some (.held v, [])
/-- block b is a map of at most n entries: a text's value is f's -/
def MapFn (P : Program) (k : TypeId) (w : World) (b n : Nat) (f : List UInt8 → Option Value) : Prop :=
  ∃ D : DataW Value, w.ownsMap P k mapR b n D ∧ ∀ l, (∀ v, f l = some v → ∀ z, D.atKey (.string l) z = .held v) ∧ (f l = none → ∀ z, D.atKey (.string l) z = z)
section
variable {P : Program} {k : TypeId} {w : World} {b n : Nat} {f : List UInt8 → Option Value}
theorem MapFn.made (P : Program) (k : TypeId) (w : World) : MapFn P k (w.alloc (.map #[] 0)) w.heap.size 0 (fun _ => none) :=
  ⟨_, World.ownsMap_made w P k mapR, fun _ => ⟨fun _ h => (by cases h), fun _ _ => rfl⟩⟩
theorem MapFn.lt (h : MapFn P k w b n f) : b < w.heap.size := by obtain ⟨D, hD, _⟩ := h; exact hD.lt
theorem MapFn.kept {w' : World} (h : MapFn P k w b n f) (hb : w'.heap[b]? = w.heap[b]?) : MapFn P k w' b n f := by
  obtain ⟨D, ⟨es, clock, h1, h2⟩, hf⟩ := h
  exact ⟨D, ⟨es, clock, hb.trans h1, h2⟩, hf⟩
theorem MapFn.below {w' : World} {B : Nat} (h : MapFn P k w b n f) (hb : Below B w w') (hB : b < B) : MapFn P k w' b n f := h.kept (hb.block b hB)
theorem MapFn.alloc (h : MapFn P k w b n f) (o : Obj) : MapFn P k (w.alloc o) b n f := h.kept (Below.heap_alloc w o b h.lt)
theorem MapFn.drew (h : MapFn P k w b n f) : MapFn P k w.drew b n f := h.kept rfl
theorem MapFn.mono (h : MapFn P k w b n f) {n' : Nat} (hn : n ≤ n') : MapFn P k w b n' f := by
  obtain ⟨D, hD, hf⟩ := h; exact ⟨D, hD.mono hn, hf⟩
theorem MapFn.setCell (h : MapFn P k w b n f) {a : Addr} (ha : b ≠ a.block) (u : Value) : MapFn P k (w.setCell a u) b n f := h.kept (Below.heap_setCell w a u b ha)
theorem MapFn.grown {w' : World} {r : Nat} (h : MapFn P k w b n f) (hg : w.grownBy w' (some r)) (hne : b ≠ r) : MapFn P k w' b n f := h.kept (hg.block b h.lt (by simpa using hne))
/-- 'm[key]' -/
theorem MapFn.look {t e : TypeId} (h : MapFn P k w b n f) (K : Keyed P k) (ht : P.underlying t = some (.map k e)) (hk : P.underlying k = some .string) {z : Value} (hz : (zeroValue e).run P w = .ok z w) {s : ByteArray} (hs : s.size ≤ maxLen) :
    (Instr.lookup t (.map (some b)) (.string s) false).run P w = .ok ((f s.data.toList).getD z) w := by
  obtain ⟨D, hD, hf⟩ := h
  obtain ⟨v, ps, hrun, hR⟩ := hD.lookup K ht hz (zd := .held z) (zp := []) rfl (keyOf_string_mk hk hs)
  rw [hrun]
  obtain ⟨h1, h2⟩ := hf s.data.toList
  cases hfs : f s.data.toList with
  | none =>
    rw [h2 hfs] at hR
    simp [mapR] at hR
    rw [hR.1]; rfl
  | some u =>
    rw [h1 u hfs] at hR
    simp [mapR] at hR
    rw [hR.1]; rfl
/-- 'v, ok := m[key]' -/
theorem MapFn.look_ok {t e : TypeId} (h : MapFn P k w b n f) (K : Keyed P k) (ht : P.underlying t = some (.map k e)) (hk : P.underlying k = some .string) {z : Value} (hz : (zeroValue e).run P w = .ok z w) {s : ByteArray} (hs : s.size ≤ maxLen) :
    (Instr.lookup t (.map (some b)) (.string s) true).run P w = .ok (.tuple #[(f s.data.toList).getD z, .bool (f s.data.toList).isSome]) w := by
  obtain ⟨D, hD, hf⟩ := h
  obtain ⟨v, ps, hrun, hR⟩ := hD.look_ok K ht hz (zd := .held z) (zp := []) rfl (keyOf_string_mk hk hs)
  rw [hrun]
  obtain ⟨h1, h2⟩ := hf s.data.toList
  cases hfs : f s.data.toList with
  | none =>
    rw [Maps.has_false_of_atKey (h2 hfs)]
    rw [h2 hfs] at hR
    simp [mapR] at hR
    rw [hR.1]; rfl
  | some u =>
    rw [Maps.has_true_of_atKey (h1 u hfs)]
    rw [h1 u hfs] at hR
    simp [mapR] at hR
    rw [hR.1]; rfl
/-- 'm[key] = v' -/
theorem MapFn.put {t e : TypeId} (h : MapFn P k w b n f) (K : Keyed P k) (ht : P.underlying t = some (.map k e)) (hk : P.underlying k = some .string) (hn : n < maxLen) {s : ByteArray} (hs : s.size ≤ maxLen) (v : Value) :
    ∃ w', (Instr.mapUpdate t (.map (some b)) (.string s) v).run P w = .ok () w' ∧ MapFn P k w' b (n + 1) (fun l => if l = s.data.toList then some v else f l) ∧ w.grownBy w' (some b) := by
  obtain ⟨D, hD, hf⟩ := h
  obtain ⟨w', hrun, hD', hg⟩ := hD.update K ht hn (keyOf_string_mk hk hs) (val := v) (d := .held v) (ps := []) rfl
  refine ⟨w', hrun, ⟨_, hD', fun l => ?_⟩, hg⟩
  obtain ⟨h1, h2⟩ := hf l
  by_cases hl : l = s.data.toList
  · subst hl
    refine ⟨fun u hu z => ?_, fun hu => by simp at hu⟩
    simp at hu
    subst hu
    exact Maps.atKey_put_same hD.isMap (by simp [WideAt.IsKeyLit]) _ _
  · have hne : (Lit.string l) ≠ .string s.data.toList := fun e => hl (by cases e; rfl)
    refine ⟨fun u hu z => ?_, fun hu z => ?_⟩
    · rw [Maps.atKey_put_other hne]; simp [hl] at hu; exact h1 u hu z
    · rw [Maps.atKey_put_other hne]; simp [hl] at hu; exact h2 hu z
end
theorem cell_grown {w w' : World} {b o r : Nat} {v : Value} (hg : w.grownBy w' (some r)) (hlt : b < w.heap.size) (hne : b ≠ r) (h : w.cell? ⟨b, o, none⟩ = some v) : w'.cell? ⟨b, o, none⟩ = some v := by
  rw [World.cell?_of_block (w := w) (a := ⟨b, o, none⟩) (hg.block b hlt (by simpa using hne))]; exact h
/-- the look-up, at the operation -/
theorem wpList_look {P : Program} (w : World) {ops : Array Oper} {rest : List Oper} {o : Oper} {a : Act} {Q : Exit → Act → World → Prop} {b n : Nat} {f : List UInt8 → Option Value}
    (hg : o.guard = none) (m x : Operand) (t : TypeId) (hop : o.op = Op.lookup t m x false)
    (k e : TypeId) (K : Keyed P k) (ht : P.underlying t = some (.map k e)) (hk : P.underlying k = some .string) {z : Value} (hz : (zeroValue e).run P w = .ok z w)
    (hm : a.eval m = .map (some b)) (hown : MapFn P k w b n f) (s : ByteArray) (hx : a.eval x = .string s) (hs : s.size ≤ maxLen) {v : Value} (hv : (f s.data.toList).getD z = v)
    (hK : wpList P ops Q rest (a.put o.dst v) w) :
    wpList P ops Q (o :: rest) a w := by
  refine wpList_plain hg fun K' hK' => ?_
  have hrun := hown.look K ht hk hz hs
  rw [hv] at hrun
  unfold Oper.wp
  simp [execOp, hop, hm, hx, hrun, Result.andThen]
  exact hK' _ _ hK
theorem wpList_look_ok {P : Program} (w : World) {ops : Array Oper} {rest : List Oper} {o : Oper} {a : Act} {Q : Exit → Act → World → Prop} {b n : Nat} {f : List UInt8 → Option Value}
    (hg : o.guard = none) (m x : Operand) (t : TypeId) (hop : o.op = Op.lookup t m x true)
    (k e : TypeId) (K : Keyed P k) (ht : P.underlying t = some (.map k e)) (hk : P.underlying k = some .string) {z : Value} (hz : (zeroValue e).run P w = .ok z w)
    (hm : a.eval m = .map (some b)) (hown : MapFn P k w b n f) (s : ByteArray) (hx : a.eval x = .string s) (hs : s.size ≤ maxLen) {v : Value} (hv : (f s.data.toList).getD z = v) {is : Bool} (hi : (f s.data.toList).isSome = is)
    (hK : wpList P ops Q rest (a.put o.dst (.tuple #[v, .bool is])) w) :
    wpList P ops Q (o :: rest) a w := by
  refine wpList_plain hg fun K' hK' => ?_
  have hrun := hown.look_ok K ht hk hz hs
  rw [hv, hi] at hrun
  unfold Oper.wp
  simp [execOp, hop, hm, hx, hrun, Result.andThen]
  exact hK' _ _ hK
/-- the store, at the operation -/
theorem wpList_put {P : Program} (w : World) {ops : Array Oper} {rest : List Oper} {o : Oper} {a : Act} {Q : Exit → Act → World → Prop} {b n : Nat} {f : List UInt8 → Option Value}
    (hg : o.guard = none) (m x v : Operand) (t : TypeId) (hop : o.op = Op.mapUpdate t m x v)
    (k e : TypeId) (K : Keyed P k) (ht : P.underlying t = some (.map k e)) (hk : P.underlying k = some .string)
    (hm : a.eval m = .map (some b)) (hown : MapFn P k w b n f) (hn : n < maxLen) (s : ByteArray) (val : Value) (hx : a.eval x = .string s) (hv : a.eval v = val) (hs : s.size ≤ maxLen)
    (hK : ∀ w', MapFn P k w' b (n + 1) (fun l => if l = s.data.toList then some val else f l) → w.grownBy w' (some b) → wpList P ops Q rest (a.put o.dst undef) w') :
    wpList P ops Q (o :: rest) a w := by
  refine wpList_plain hg fun K' hK' => ?_
  obtain ⟨w', hrun, r1, r2⟩ := hown.put K ht hk hn hs val
  unfold Oper.wp
  simp [execOp, hop, hm, hx, hv, hrun, Result.andThen]
  exact hK' _ _ (hK w' r1 r2)
end Go.Proofs.YtboegjdkedjhcaaGreatDoor
namespace Go.Proofs.YtboegjdkedjhcaaGreatDoor
open Go.RowKit Go.Maps Go.WideMaps
theorem keyedS : Keyed Tryz.prog 9 := string_keyed Tryz.underlying9
theorem zeroInt (w : World) : (zeroValue 3).run Tryz.prog w = .ok (.int .i64 0) w := by kernel_rfl
set_option maxHeartbeats 1000000 in
theorem objMay_any (x : GObj) (vs : Value) (w : World) (h : ObjIn w x vs) :
    Calls Tryz.prog 76 #[.agg #[.string x.name, vs]] w fun e w' => e = .returned (.bool (mayP x)) ∧ Below w.heap.size w w' := by
  obtain ⟨hr, hnm⟩ := h
  obtain ⟨p, cap, b, o, rfl, hcap, hmax, hp, hc⟩ := hr
  have HC := Lib.hid hc; clear hc
  have HP := Lib.hid hp; clear hp
  have hmm := @run_makeMap Tryz.prog
  go_enter Tryz.func76, Tryz.ntmps76
  go_wp2
  clear hmm
  go_loopw [11] (fun i wr => ∃ k : Nat, k ≤ x.syms.length ∧ i = .int .i64 k ∧ symsGo (x.syms.take k) (x.syms.drop k) = symsGo [] x.syms ∧ MapFn Tryz.prog 9 wr (w.heap.size + 1) k (seenFn (x.syms.take k)) ∧ Below (w.heap.size + 1) (w.alloc (.cells #[.string x.name, .slice p x.syms.length cap] 151)) wr) (fun i _ => x.syms.length - (intOf i).toNat)
  case atStart =>
    refine ⟨0, Nat.zero_le _, rfl, rfl, ?_, (Below.refl _ _).alloc (by simp) _⟩
    have := MapFn.made Tryz.prog 9 (w.alloc (.cells #[.string x.name, .slice p x.syms.length cap] 151))
    rw [seenFn_nil] at this
    simpa using this
  case round =>
    obtain ⟨k, hk, rfl, hgo, hmap, hbel⟩ := hrel
    have HGO := Lib.hid hgo; clear hgo
    have c0 : wr.cell? ⟨w.heap.size, 0, none⟩ = some (.string x.name) := by rw [hbel.cell (by simp)]; simp [go_sem]
    have c1 : wr.cell? ⟨w.heap.size, 1, none⟩ = some (.slice p x.syms.length cap) := by rw [hbel.cell (by simp)]; simp [go_sem]
    have hsz : w.heap.size + 1 < wr.heap.size := hmap.lt
    have hsz1 : w.heap.size < wr.heap.size := by omega
    have HBW : Hid (Below w.heap.size w wr) := (alloc_old w _).trans (hbel.mono (by omega))
    have HB := Lib.hid hbel; clear hbel
    by_cases hlt : k < x.syms.length
    · obtain rfl := HP.out (by omega)
      obtain ⟨vr, vn, g0, g1, g2, g3, g4, g5, g6, g7, hsin⟩ := symR_keeps _ _ _ _ _ HBW.out (HC.out k hlt)
      obtain ⟨p1, q1, p2, q2, rfl, rfl⟩ := hsin.shape
      have hns : x.syms[k].name.size ≤ maxLen := by have := hsin.2.2.2.2.2.1; unfold maxLen; omega
      generalize hx : x.syms[k] = y at *
      obtain ⟨yn, yb, yk, ys, yy, yr, yt⟩ := y
      simp only [] at *
      have HX := Lib.hid hx; clear hx
      have SIN := Lib.hid (hsin.keep (alloc_old wr (.cells #[.string yn, .int .u8 yb, .int .u8 yk, .int .u32 ys, .string yy, .slice p1 yr.length q1, .slice p2 yt.length q2] 55))); clear hsin
      have HM := Lib.hid (hmap.alloc (.cells #[.string yn, .int .u8 yb, .int .u8 yk, .int .u32 ys, .string yy, .slice p1 yr.length q1, .slice p2 yt.length q2] 55)); clear hmap
      have hns' : yn.size ≤ 9223372036854775807 := hns
      by_cases hseen : hasName (x.syms.take k) yn.data.toList = true
      · have HV := Lib.hid (seenFn_yes hseen)
        have HS := Lib.hid hseen; clear hseen
        go_wp2_with (at_lookup; refine wpList_look _ rfl _ _ 78 rfl 9 3 keyedS Tryz.underlying78 Tryz.underlying9 (zeroInt _) rfl HM.out _ rfl hns' HV.out ?_)
        go_ret
        exact ⟨ret_bool (mayP_no hlt HX.out HGO.out (.inl HS.out)), HBW.out.alloc (by omega) _⟩
      · have hseen' : hasName (x.syms.take k) yn.data.toList = false := by simpa using hseen
        have HV := Lib.hid (seenFn_no hseen')
        have HS := Lib.hid hseen'; clear hseen' hseen
        have HB1 : Hid (Below (w.heap.size + 1) wr (wr.alloc (.cells #[.string yn, .int .u8 yb, .int .u8 yk, .int .u32 ys, .string yy, .slice p1 yr.length q1, .slice p2 yt.length q2] 55))) := (Below.refl _ _).alloc (by omega) _
        go_wp2_with (first | (at_lookup; refine wpList_look _ rfl _ _ 78 rfl 9 3 keyedS Tryz.underlying78 Tryz.underlying9 (zeroInt _) rfl HM.out _ rfl hns' HV.out ?_) | (go_at_call 124; refine (symMay_any ⟨yn, yb, yk, ys, yy, yr, yt⟩ _ _ _ SIN.out).mono ?_; rintro e w1 ⟨rfl, hB⟩; obtain ⟨hc, hf⟩ := bcell hB; have hz : wr.heap.size < w1.heap.size := (by have := hB.size; (try simp at this); omega); replace HM : Hid (MapFn Tryz.prog 9 w1 (w.heap.size + 1) k (seenFn (x.syms.take k))) := HM.out.below hB (by simp; omega); replace HB1 : Hid (Below (w.heap.size + 1) wr w1) := HB1.out.trans (hB.mono (by simp; omega)); clear hB) | (at_mapUpdate; refine wpList_put _ rfl _ _ _ 78 rfl 9 3 keyedS Tryz.underlying78 Tryz.underlying9 rfl HM.out (by unfold maxLen; omega) yn (.int .i64 1) rfl rfl hns' ?_; intro w2 hM2 hg2; have HM2 := Lib.hid hM2; have HG2 := Lib.hid hg2; clear hM2 hg2))
        · have hbad : (!symOkP ⟨yn, yb, yk, ys, yy, yr, yt⟩) = true := by assumption
          go_ret
          exact ⟨ret_bool (mayP_no hlt HX.out HGO.out (.inr (by simpa using hbad))), HBW.out.trans (HB1.out.mono (by omega))⟩
        · have hok : (!symOkP ⟨yn, yb, yk, ys, yy, yr, yt⟩) = false := by assumption
          have HM3 : Hid (MapFn Tryz.prog 9 w2 (w.heap.size + 1) (k + 1) (seenFn (x.syms.take (k + 1)))) := (seenFn_snoc hlt HX.out) ▸ HM2.out
          go_roundw
          case rel => exact ⟨k + 1, by omega, by go_num, symsGo_yes hlt HX.out HGO.out HS.out (by simpa using hok), HM3.out, HB.out.trans (HB1.out.grown HG2.out (by omega) (fun j e => by simp at e; omega))⟩
          case measure => simp [intOf]; omega
    · go_wp2_with (go_at_call 125; refine (objName_any _ _ hnm).mono ?_; rintro e w1 ⟨rfl, hB⟩; obtain ⟨hc, hf⟩ := bcell hB)
      all_goals
        go_ret
        exact ⟨ret_bool (by rw [mayP_end hlt HGO.out]; go_light; simp_all; try omega), HBW.out.trans (hB.mono HBW.out.size)⟩
set_option maxHeartbeats 400000 in
theorem objCheck_any (x : GObj) (vs : Value) (w : World) (h : ObjIn w x vs) :
    Calls Tryz.prog 30 #[.agg #[.string x.name, vs]] w fun e w' => e = .returned (.int .i64 (errB (mayP x))) ∧ Below w.heap.size w w' := by
  have HCON := Lib.hid (objMay_any x vs _ (h.keep (alloc_old w (.cells #[.string x.name, vs] 50)))); clear h
  go_enter Tryz.func30, Tryz.ntmps30
  go_wp2_with (first | (go_at_call 76; refine HCON.out.mono ?_; rintro e w1 ⟨rfl, hB⟩) | (go_at_call 75; refine (told_any _ _).mono ?_; rintro e w1 ⟨rfl, rfl⟩))
  go_ret
  exact ⟨rfl, (alloc_old w _).trans (hB.mono (by simp))⟩
end Go.Proofs.YtboegjdkedjhcaaGreatDoor
namespace Go.Proofs.YtboegjdkedjhcaaGreatDoor
open Go.RowKit Go.Maps
/-- an object that was made: its row of symbols and their rows are new -/
def Fresh (B : Nat) (w : World) (o : GObj) (vs : Value) : Prop := ∃ ts : List SymT, ts.map (·.1) = o.syms ∧ w.ownsRow B 55 7 vs ts.length (ts.flatMap symCells) ∧ ∀ t ∈ ts, SymOwn B w vs t
theorem Fresh.keep {B : Nat} {w w' : World} {o : GObj} {vs : Value} (h : Fresh B w o vs) (hb : Below w.heap.size w w') : Fresh B w' o vs := by
  obtain ⟨ts, h1, h2, h3⟩ := h
  exact ⟨ts, h1, ownsRow_below hb h2, fun t ht => SymOwn.keep hb (h3 t ht)⟩
theorem Fresh.mono {B B' : Nat} {w : World} {o : GObj} {vs : Value} (h : Fresh B w o vs) (hb : B' ≤ B) : Fresh B' w o vs := by
  obtain ⟨ts, h1, h2, h3⟩ := h
  exact ⟨ts, h1, owns_mono h2 hb, fun t ht => ⟨owns_mono (h3 t ht).1 hb, owns_mono (h3 t ht).2.1 hb, (h3 t ht).2.2⟩⟩
theorem Fresh.shape {B : Nat} {w : World} {o : GObj} {vs : Value} (h : Fresh B w o vs) : ∃ p c, vs = .slice p o.syms.length c := by
  obtain ⟨ts, h1, h2, h3⟩ := h
  rw [← h1, List.length_map]; exact own_shape h2
theorem rel_in {w : World} {v : Value} {base : Nat} {e : TypeId} {l : List GRel} (hf : ∀ x ∈ l, RelFit x) (hl : l.length ≤ 140737488355328) (h : w.ownsRow base e 4 v l.length (l.flatMap relCells)) : RowAt 4 RelR w v l := by
  refine owned_row relCells_len h hl fun g o' i hi hg hcell => ?_
  obtain ⟨f1, f2, f3, f4⟩ := hf _ (List.getElem_mem hi)
  exact ⟨hg, hcell 0 _ (by omega) rfl, hcell 1 _ (by omega) rfl, hcell 2 _ (by omega) rfl, hcell 3 _ (by omega) rfl, by omega, by omega, by omega, by omega⟩
theorem note_in {w : World} {v : Value} {base : Nat} {e : TypeId} {l : List GNote} (hf : ∀ x ∈ l, NoteFit x) (hl : l.length ≤ 140737488355328) (h : w.ownsRow base e 3 v l.length (l.flatMap noteCells)) : RowAt 3 NoteR w v l := by
  refine owned_row noteCells_len h hl fun g o' i hi hg hcell => ?_
  obtain ⟨f1, f2, f3⟩ := hf _ (List.getElem_mem hi)
  exact ⟨hg, hcell 0 _ (by omega) rfl, hcell 1 _ (by omega) rfl, hcell 2 _ (by omega) rfl, by omega, by omega, by omega⟩
theorem Fresh.objIn {B : Nat} {w : World} {o : GObj} {vs : Value} (h : Fresh B w o vs) (hf : ObjFit o) : ObjIn w o vs := by
  obtain ⟨ts, h1, h2, h3⟩ := h
  obtain ⟨f1, f2, f3⟩ := hf
  refine ⟨?_, by omega⟩
  have hl : ts.length = o.syms.length := by rw [← h1, List.length_map]
  rw [← h1]
  refine sym_back h2 (by omega) fun t ht => ?_
  obtain ⟨q1, q2, q3, q4, q5, q6, q7, q8, q9⟩ := f3 t.1 (by rw [← h1]; exact List.mem_map_of_mem ht)
  obtain ⟨s1, s2, -, -⟩ := h3 t ht
  exact ⟨rel_in q7 (by omega) s1, note_in q9 (by omega) s2, by omega, by omega, by omega, by omega, by omega⟩
theorem Fresh.congr {B : Nat} {w w' : World} {o : GObj} {vs : Value} (h : Fresh B w o vs) (hk : ∀ g, B ≤ g → w'.heap[g]? = w.heap[g]?) : Fresh B w' o vs := by
  obtain ⟨ts, h1, h2, h3⟩ := h
  refine ⟨ts, h1, own_congr h2 fun g hg => hk g (h2.lt g hg).1, fun t ht => ?_⟩
  obtain ⟨a, b, c, d⟩ := h3 t ht
  exact ⟨own_congr a fun g hg => hk g (a.lt g hg).1, own_congr b fun g hg => hk g (b.lt g hg).1, c, d⟩
theorem fresh_away {B B' : Nat} {w w' : World} {o : GObj} {vs : Value} (h : Fresh B w o vs) (hb : B' ≤ B) (hk : ∀ g, B ≤ g → w'.heap[g]? = w.heap[g]?) : Fresh B' w' o vs := (h.congr hk).mono hb
/-- what is read to its end fits -/
theorem rObj_fit {s m : BL} {o : GObj} (h : rObj s = (m, o, some [])) : ObjFit o := by
  unfold rObj at h
  simp only [] at h
  generalize ha : rTake 4 (some s) = a at h
  obtain ⟨a1, a2⟩ := a
  generalize hb : rText a2 = b at h
  obtain ⟨b1, b2⟩ := b
  generalize hn : rNum 2 b2 = n at h
  obtain ⟨n1, n2⟩ := n
  simp only [] at h
  generalize hr : rMany rSym n1.toNat n2 = rr at h
  obtain ⟨r1, r2⟩ := rr
  simp only [Prod.mk.injEq] at h
  obtain ⟨-, rfl, rfl⟩ := h
  obtain ⟨rfl, q1, q2⟩ := rMany_some (fun _ _ _ => rSym_some) hr
  obtain ⟨rfl, q3⟩ := rNum_some hn
  obtain ⟨rfl, q4⟩ := rText_some hb
  rw [p2] at q3
  exact ⟨q4, by simp only []; omega, q2⟩
def GetPost (s : ByteArray) (w : World) (e : Ending) (w' : World) : Prop :=
  (match getB s.data.toList with
    | some o => ∃ vs, e = .returned (.tuple #[.agg #[.string o.name, vs], .int .i64 0]) ∧ Fresh w.heap.size w' o vs
    | none => e = .returned (.tuple #[.agg #[.string ⟨#[]⟩, .slice none 0 0], .int .i64 7])) ∧ Below w.heap.size w w'
theorem goesO_int (Q : Nat → Prop) (qb ob rb : Nat) (hq : Q qb) (s : ByteArray) (st : RS) (nm : ByteArray) (w0 w : World) (k : Int) (h : ObjSt (fun w st => RdS w rb s st) Q ob rb st nm [] w0 w) (hk : 0 ≤ k ∧ k < 65536) :
    Calls Tryz.prog 89 #[.agg #[.pointer (some ⟨rb, 0, none⟩)], .int .u32 k, .func (.func 91) #[] #[.pointer (some ⟨ob, 0, none⟩), .pointer (some ⟨qb, 0, none⟩)]] w fun e w' => e = .returned (.tuple #[]) ∧ ObjSt (fun w st => RdS w rb s st) Q ob rb (rMany rSym k.toNat st).2 nm (rMany rSym k.toNat st).1 w0 w' := by
  obtain ⟨n, rfl⟩ := Int.eq_ofNat_of_zero_le hk.1
  have := goesO Q qb ob rb hq s st nm [] w0 w n h (by simp; omega)
  rw [List.nil_append] at this
  exact this
theorem rdTake4 (rb : Nat) (s : ByteArray) (st : RS) (w : World) (h : RdS w rb s st) : Calls Tryz.prog 43 #[.pointer (some ⟨rb, 0, none⟩), .int .i64 4] w (TkPost rb 4 s st w) := rdTake_any rb 4 s st w h
set_option maxRecDepth 100000 in
set_option maxHeartbeats 2000000 in
theorem get_any (s : ByteArray) (w : World) (hz : s.size ≤ 140737488355328) :
    Calls Tryz.prog 47 #[.string s] w (GetPost s w) := by
  go_enter Tryz.func47, Tryz.ntmps47
  go_upto_region 1 with fail
  generalize hw0 : w.alloc (.cells #[.string ⟨#[]⟩, .slice none 0 0] 50) = w0
  have HB0 : Hid (Below w.heap.size w w0) := by subst hw0; exact alloc_old _ _
  have hz0 : w.heap.size < w0.heap.size := by subst hw0; simp
  have HR0 : Hid (w0.heap[w.heap.size]? = some (.cells #[.string ⟨#[]⟩, .slice none 0 0] 50 (0, 0))) := by subst hw0; exact heap_alloc_new w _
  clear hw0
  go_wp2_with fail
  refine (new_any s w0 hz).mono ?_
  rintro e w1 ⟨rfl, k1, k2⟩
  have K1 : Hid (RdS w1 w0.heap.size s (some s.data.toList)) := ⟨0, 0, k1, by rw [stOf_ok]; rfl⟩
  have hz1 : w0.heap.size < w1.heap.size := k1.lt
  have HB1 : Hid (Below w.heap.size w w1) := HB0.out.trans (k2.mono (by omega))
  replace HR0 := Lib.hid ((k2.block w.heap.size hz0).trans HR0.out)
  clear k1 k2 HB0
  generalize hrb : w0.heap.size = rb at K1 hz1
  have hrw : w.heap.size < rb := by omega
  clear hrb hz0
  go_upto_region 2 with fail
  generalize hw2 : w1.alloc (.cells #[.pointer (some ⟨rb, 0, none⟩)] 166) = w2
  have HB2 : Hid (Below w1.heap.size w1 w2) := by subst hw2; exact alloc_old _ _
  have HQ : Hid (w2.heap[w1.heap.size]? = some (.cells #[.pointer (some ⟨rb, 0, none⟩)] 166 (0, 0))) := by subst hw2; exact heap_alloc_new w1 _
  have K2 : Hid (RdS w2 rb s (some s.data.toList)) := K1.out.congr (HB2.out.block rb hz1)
  clear hw2 K1
  generalize hqb : w1.heap.size = qb at HQ
  have HQB := Lib.hid hqb; clear hqb
  have c : w2.cell? ⟨qb, 0, none⟩ = some (.pointer (some ⟨rb, 0, none⟩)) := Lib.cell_of_heap HQ.out 0
  go_wp2_with fail
  refine (rdTake4 rb s _ w2 K2.out).mono ?_
  rintro e w3 ⟨c3, rfl, -, k1, k2⟩
  have K3 := Lib.hid k1
  have HK3 : Hid (KR rb w1 w3) := (KB.of_below HB2.out).trans k2
  have HQ3 : Hid (w3.heap[qb]? = some (.cells #[.pointer (some ⟨rb, 0, none⟩)] 166 (0, 0))) := (k2.block qb (Array.getElem?_eq_some_iff.1 HQ.out).1 (by have := HQB.out; omega)).trans HQ.out
  clear k1 k2 K2 HB2 HQ c
  have HM : Hid ((rObj s.data.toList).1 = (rTake 4 (some s.data.toList)).1) := rfl
  have c : w3.cell? ⟨qb, 0, none⟩ = some (.pointer (some ⟨rb, 0, none⟩)) := Lib.cell_of_heap HQ3.out 0
  go_upto_region 3 with fail
  go_wp2_with fail
  refine (readWord_any rb s _ w3 K3.out).mono ?_
  rintro e w4 ⟨rfl, k1, k2⟩
  have K4 := Lib.hid k1
  have HK4 : Hid (KR rb w1 w4) := HK3.out.trans k2
  have HQ4 : Hid (w4.heap[qb]? = some (.cells #[.pointer (some ⟨rb, 0, none⟩)] 166 (0, 0))) := (k2.block qb (Array.getElem?_eq_some_iff.1 HQ3.out).1 (by have := HQB.out; omega)).trans HQ3.out
  clear k1 k2 K3 HK3 HQ3 c
  go_upto_region 4 with fail
  generalize hst4 : rText (rTake 4 (some s.data.toList)).2 = tt at K4 ⊢
  have HT := Lib.hid hst4; clear hst4
  obtain ⟨nm, st4⟩ := tt
  simp only [] at K4 ⊢
  have HS : Hid (ObjSt (fun w st => RdS w rb s st) (fun g => g = qb) w4.heap.size rb st4 nm [] w1 (w4.alloc (.cells #[.string nm, .slice none 0 0] 50))) := by
    have hb := alloc_old w4 (.cells #[.string nm, .slice none 0 0] 50)
    refine ⟨rdr_obj rb s, fun g hg => ?_, ⟨.slice none 0 0, [], ⟨heap_alloc_new w4 _, World.ownsRow_nil _ _ _ _, fun t ht => by cases ht⟩, rfl⟩, K4.out.congr (hb.block rb K4.out.lt), HK4.out.trans (KB.of_below hb), hz1, HK4.out.size⟩
    subst hg
    exact ⟨(hb.block _ (Array.getElem?_eq_some_iff.1 HQ4.out).1).trans HQ4.out, Nat.le_of_eq HQB.out⟩
  have HOB4 : Hid (w1.heap.size ≤ w4.heap.size) := HK4.out.size
  generalize w4.alloc (.cells #[.string nm, .slice none 0 0] 50) = w5 at HS ⊢
  generalize w4.heap.size = ob at HS HOB4 ⊢
  clear K4 HK4 HQ4 w2 w3 w4
  replace HS := Lib.hid (HS.out.keep (Below.refl _ _).drew)
  have c := HS.out.c (qb := qb) rfl
  have HBD := Lib.hid (rNum_bd 2 st4)
  rw [p2] at HBD
  go_cut [24] from 20 to 24 (fun _ wx => ObjSt (fun w st => RdS w rb s st) (fun g => g = qb) ob rb (rMany rSym (rNum 2 st4).1.toNat (rNum 2 st4).2).2 nm (rMany rSym (rNum 2 st4).1.toNat (rNum 2 st4).2).1 w1 wx)
  case first =>
    go_region_held3 (fun w' => w'.cell? ⟨qb, 0, none⟩ = some (.pointer (some ⟨rb, 0, none⟩))) (go_keep) (first | (go_at_call 90; (with_reducible refine (readNum2 rb s _ _ HS.out.rd).mono ?_); rintro e wn ⟨rfl, k1, k2⟩; replace HS := Lib.hid (HS.out.read k1 k2); have cn := HS.out.c (qb := qb) rfl; clear k1 k2) | (go_at_call 89; (with_reducible refine (goesO_int (fun g => g = qb) qb ob rb rfl s _ nm w1 _ _ HS.out HBD.out).mono ?_); rintro e wn ⟨rfl, hs2⟩; replace HS := Lib.hid hs2; have cn := HS.out.c (qb := qb) rfl; clear hs2))
    all_goals (go_wp2_with fail; go_meet; exact HS.out)
  case rest =>
  replace HS := Lib.hid hcut
  clear hcut c
  have HRO : Hid (rObj s.data.toList = ((rTake 4 (some s.data.toList)).1, ⟨nm, (rMany rSym (rNum 2 st4).1.toNat (rNum 2 st4).2).1⟩, (rMany rSym (rNum 2 st4).1.toNat (rNum 2 st4).2).2)) := by
    rw [Hid, rObj, HT.out]
  generalize rMany rSym (rNum 2 st4).1.toNat (rNum 2 st4).2 = rs at HS HRO
  obtain ⟨ys, st5⟩ := rs
  simp only [] at HS HRO
  generalize (rTake 4 (some s.data.toList)).1 = mg at HRO ⊢
  have c := HS.out.c (qb := qb) rfl
  clear HM HBD HT
  go_wp2_with fail
  refine (rdEnd_any rb s st5 _ HS.out.rd).mono ?_
  rintro e w7 ⟨c7, rfl, hc7, k1⟩
  obtain ⟨v, ts, ho, hts⟩ := HS.out.o
  have HO : Hid (ObjRow w1.heap.size ob nm v ts w7) := ho.congr HOB4.out fun g hg hb => k1.block g hg (by omega)
  have HK7 : Hid (KR rb w1 w7) := HS.out.kb.trans k1
  have HTS := Lib.hid hts
  clear ho hts k1 HS c
  obtain ⟨pv, cv, rfl⟩ := own_shape HO.out.2.1
  have HR7 : Hid (w7.heap[w.heap.size]? = some (.cells #[.string ⟨#[]⟩, .slice none 0 0] 50 (0, 0))) := (HK7.out.block _ (by omega) (by omega)).trans HR0.out
  have HB7 : Hid (Below w.heap.size w w7) := HB1.out.trans (HK7.out.below HB1.out.size (fun g hg => by omega))
  have HC7 := Lib.hid hc7; clear hc7
  have q0 : w7.cell? ⟨w.heap.size, 0, none⟩ = some (.string ⟨#[]⟩) := Lib.cell_of_heap HR7.out 0
  have q1 : w7.cell? ⟨w.heap.size, 1, none⟩ = some (.slice none 0 0) := Lib.cell_of_heap HR7.out 1
  have e0 : w7.frozen? ⟨w.heap.size, 0, none⟩ = false := Lib.frozen_of_heap HR7.out 0
  have e1 : w7.frozen? ⟨w.heap.size, 1, none⟩ = false := Lib.frozen_of_heap HR7.out 1
  have a0 : w7.cell? ⟨ob, 0, none⟩ = some (.string nm) := Lib.cell_of_heap HO.out.1 0
  have a1 : w7.cell? ⟨ob, 1, none⟩ = some (.slice pv ts.length cv) := Lib.cell_of_heap HO.out.1 1
  by_cases hst : st5 = some []
  · have hc0 : c7 = 0 := HC7.out.2 hst
    subst hc0
    by_cases hmg : mg = magicB
    · have bl : (bsOf mg).toList = [65, 79, 66, 49] := by rw [hmg, ByteArray.toList_eq]; rfl
      have hro := HRO.out
      rw [hst] at hro
      have hfit := rObj_fit hro
      have HFR : Hid (Fresh w1.heap.size w7 ⟨nm, ys⟩ (.slice pv ts.length cv)) := ⟨ts, HTS.out, HO.out.2.1, HO.out.2.2⟩
      have HCK := Lib.hid (objCheck_any ⟨nm, ys⟩ (.slice pv ts.length cv) w7 (HFR.out.objIn hfit))
      simp only [] at HCK
      clear hro hfit
      by_cases hmay : mayP ⟨nm, ys⟩ = true
      · rw [hmay] at HCK
        simp only [errB, if_true] at HCK
        have HN : Hid (getB s.data.toList = some ⟨nm, ys⟩) := by rw [Hid, getB, if_pos]; rw [HRO.out]; rw [HRO.out]; exact ⟨hst, hmg, hmay⟩
        clear hmg hst hmay
        go_wp2_with fail
        refine HCK.out.mono ?_
        rintro e w8 ⟨rfl, hB8⟩
        have HR8 : Hid (w8.heap[w.heap.size]? = some (.cells #[.string ⟨#[]⟩, .slice none 0 0] 50 (0, 0))) := (hB8.block _ (Array.getElem?_eq_some_iff.1 HR7.out).1).trans HR7.out
        have HB8 : Hid (Below w.heap.size w w8) := HB7.out.trans (hB8.mono HB7.out.size)
        replace HFR := Lib.hid (HFR.out.keep hB8)
        have HO8 : Hid (w8.heap[ob]? = some (.cells #[.string nm, .slice pv ts.length cv] 50 (0, 0))) := (hB8.block ob (Array.getElem?_eq_some_iff.1 HO.out.1).1).trans HO.out.1
        clear hB8 HCK q0 q1 e0 e1 a0 a1
        have q0 : w8.cell? ⟨w.heap.size, 0, none⟩ = some (.string ⟨#[]⟩) := Lib.cell_of_heap HR8.out 0
        have q1 : w8.cell? ⟨w.heap.size, 1, none⟩ = some (.slice none 0 0) := Lib.cell_of_heap HR8.out 1
        have e0 : w8.frozen? ⟨w.heap.size, 0, none⟩ = false := Lib.frozen_of_heap HR8.out 0
        have e1 : w8.frozen? ⟨w.heap.size, 1, none⟩ = false := Lib.frozen_of_heap HR8.out 1
        have a0 : w8.cell? ⟨ob, 0, none⟩ = some (.string nm) := Lib.cell_of_heap HO8.out 0
        have a1 : w8.cell? ⟨ob, 1, none⟩ = some (.slice pv ts.length cv) := Lib.cell_of_heap HO8.out 1
        go_wp2
        refine bodyPost_ret (v := .tuple #[.agg #[.string nm, .slice pv ts.length cv], .int .i64 0]) (by simp [results, Tryz.results47, go_sem, *]) rfl ?_
        unfold GetPost
        rw [HN.out]
        have hle : w.heap.size ≤ w1.heap.size := HB1.out.size
        refine ⟨⟨_, rfl, fresh_away (HFR.out) (by omega) (fun g hg => ?_)⟩, (HB8.out.setCell (Nat.le_refl _) _).setCell (Nat.le_refl _) _⟩
        have hset : ∀ (W : World) (j : Nat) (u : Value), (W.setCell ⟨w.heap.size, j, none⟩ u).heap[g]? = W.heap[g]? := fun W j u => Below.heap_setCell _ _ _ _ (by simp; omega)
        simp only [hset]
      · have hmay' : mayP ⟨nm, ys⟩ = false := by simpa using hmay
        rw [hmay'] at HCK
        simp only [errB, Bool.false_eq_true, if_false] at HCK
        have HN : Hid (getB s.data.toList = none) := by rw [Hid, getB, if_neg]; rw [HRO.out]; exact fun h => hmay h.2.2
        clear hmg hst hmay hmay'
        go_wp2_with fail
        refine HCK.out.mono ?_
        rintro e w8 ⟨rfl, hB8⟩
        have HR8 : Hid (w8.heap[w.heap.size]? = some (.cells #[.string ⟨#[]⟩, .slice none 0 0] 50 (0, 0))) := (hB8.block _ (Array.getElem?_eq_some_iff.1 HR7.out).1).trans HR7.out
        have HB8 : Hid (Below w.heap.size w w8) := HB7.out.trans (hB8.mono HB7.out.size)
        clear hB8 HCK q0 q1 e0 e1 a0 a1
        have q0 : w8.cell? ⟨w.heap.size, 0, none⟩ = some (.string ⟨#[]⟩) := Lib.cell_of_heap HR8.out 0
        have q1 : w8.cell? ⟨w.heap.size, 1, none⟩ = some (.slice none 0 0) := Lib.cell_of_heap HR8.out 1
        have e0 : w8.frozen? ⟨w.heap.size, 0, none⟩ = false := Lib.frozen_of_heap HR8.out 0
        have e1 : w8.frozen? ⟨w.heap.size, 1, none⟩ = false := Lib.frozen_of_heap HR8.out 1
        go_wp2
        refine bodyPost_ret (v := .tuple #[.agg #[.string ⟨#[]⟩, .slice none 0 0], .int .i64 7]) (by simp [results, Tryz.results47, go_sem, *]) rfl ?_
        unfold GetPost
        rw [HN.out]
        exact ⟨rfl, (HB8.out.setCell (Nat.le_refl _) _).setCell (Nat.le_refl _) _⟩
    · have bl : ¬ (bsOf mg).toList = [65, 79, 66, 49] := by rw [ByteArray.toList_eq]; exact hmg
      have HN : Hid (getB s.data.toList = none) := by rw [Hid, getB, if_neg]; rw [HRO.out]; exact fun h => hmg h.2.1
      clear hmg hst
      go_wp2
      refine bodyPost_ret (v := .tuple #[.agg #[.string ⟨#[]⟩, .slice none 0 0], .int .i64 7]) (by simp [results, Tryz.results47, go_sem, *]) rfl ?_
      unfold GetPost
      rw [HN.out]
      exact ⟨rfl, (HB7.out.setCell (Nat.le_refl _) _).setCell (Nat.le_refl _) _⟩
  · have bc : (c7 != 0) = true := by simp; exact fun e => hst (HC7.out.1 e)
    have HN : Hid (getB s.data.toList = none) := by rw [Hid, getB, if_neg]; rw [HRO.out]; exact fun h => hst h.1
    clear hst
    go_wp2
    refine bodyPost_ret (v := .tuple #[.agg #[.string ⟨#[]⟩, .slice none 0 0], .int .i64 7]) (by simp [results, Tryz.results47, go_sem, *]) rfl ?_
    unfold GetPost
    rw [HN.out]
    exact ⟨rfl, (HB7.out.setCell (Nat.le_refl _) _).setCell (Nat.le_refl _) _⟩
end Go.Proofs.YtboegjdkedjhcaaGreatDoor
namespace Go.Proofs.YtboegjdkedjhcaaGreatDoor
structure GArc where
  name : ByteArray
  members : List GObj
def aMagic : BL := [65, 65, 82, 49]
/-- is a name among these objects'? -/
def hasObj (l : List GObj) (n : List UInt8) : Bool := l.any fun o => o.name.data.toList == n
def memsGo : List GObj → List GObj → Bool
  | _, [] => true
  | seen, o :: r => !hasObj seen o.name.data.toList && mayP o && memsGo (seen ++ [o]) r
def arcOk (a : GArc) : Bool := memsGo [] a.members && isName a.name && decide (a.members.length ≤ 32)
def encMem (o : GObj) : BL := leB 4 (encObj o).length ++ encObj o
def encArc (a : GArc) : BL := aMagic ++ encText a.name ++ leB 1 a.members.length ++ a.members.flatMap encMem
/-- members, one behind the other; none: one is no object -/
def rMems : Nat → RS → Option (List GObj × RS)
  | 0, st => some ([], st)
  | _ + 1, none => some ([], none)
  | n + 1, some r =>
    match getB (rTake (rNum 4 (some r)).1.toNat (rNum 4 (some r)).2).1 with
    | none => none
    | some o =>
      match rMems n (rTake (rNum 4 (some r)).1.toNat (rNum 4 (some r)).2).2 with
      | none => none
      | some (l, st) => some (o :: l, st)
/-- the archive of bytes -/
def arcGet (s : BL) : Option GArc :=
  match rMems (rNum 1 (rText (rTake 4 (some s)).2).2).1.toNat (rNum 1 (rText (rTake 4 (some s)).2).2).2 with
  | none => none
  | some (l, st) => if st = some [] ∧ (rTake 4 (some s)).1 = aMagic ∧ arcOk ⟨(rText (rTake 4 (some s)).2).1, l⟩ = true then some ⟨(rText (rTake 4 (some s)).2).1, l⟩ else none
theorem memsGo_each : ∀ (l seen : List GObj), memsGo seen l = true → ∀ o ∈ l, mayP o = true
  | [], _, _, o, ho => by cases ho
  | x :: r, seen, h, o, ho => by
    simp only [memsGo, Bool.and_eq_true] at h
    rcases List.mem_cons.1 ho with rfl | ho
    · exact h.1.2
    · exact memsGo_each r _ h.2 o ho
theorem rMems_enc : ∀ (l : List GObj) (r : BL), (∀ o ∈ l, ObjFit o ∧ mayP o = true ∧ (encObj o).length < 4294967296) → rMems l.length (some (l.flatMap encMem ++ r)) = some (l, some r)
  | [], r, _ => by simp [rMems]
  | x :: l, r, h => by
    have ih := rMems_enc l r fun o ho => h o (List.mem_cons_of_mem _ ho)
    obtain ⟨h1, h2, h3⟩ := h x (List.mem_cons_self ..)
    have e1 : rNum 4 (some (encMem x ++ (l.flatMap encMem ++ r))) = (((encObj x).length : Int), some (encObj x ++ (l.flatMap encMem ++ r))) := by
      rw [encMem, List.append_assoc]; exact rNum_enc _ (by omega) (by rw [p4]; omega)
    have e2 : rTake (encObj x).length (some (encObj x ++ (l.flatMap encMem ++ r))) = (encObj x, some (l.flatMap encMem ++ r)) := rTake_app _ _
    simp only [List.length_cons, List.flatMap_cons, List.append_assoc, rMems, e1, Int.toNat_natCast, e2, getB_enc h1 h2, ih]
theorem arcGet_enc {a : GArc} (h : arcOk a = true) (hm : ∀ o ∈ a.members, ObjFit o ∧ (encObj o).length < 4294967296) : arcGet (encArc a) = some a := by
  have h' := h
  simp only [arcOk, Bool.and_eq_true, decide_eq_true_eq] at h'
  obtain ⟨⟨k1, k2⟩, k3⟩ := h'
  have hn := isName_le k2
  have e0 : ∀ r, rTake 4 (some (aMagic ++ r)) = (aMagic, some r) := fun r => rTake_app' rfl
  have e1 : ∀ r, rNum 1 (some (leB 1 (a.members.length : Int) ++ r)) = ((a.members.length : Int), some r) := fun r => rNum_enc _ (by omega) (by rw [p1]; omega)
  have e2 := rMems_enc a.members [] fun o ho => ⟨(hm o ho).1, memsGo_each _ _ k1 o ho, (hm o ho).2⟩
  rw [List.append_nil] at e2
  unfold arcGet encArc
  simp only [List.append_assoc, e0, rText_enc _ (show a.name.size < 65536 by omega), e1, Int.toNat_natCast, e2]
  rw [if_pos ⟨trivial, trivial, h⟩]
theorem rMems_some : ∀ {n : Nat} {st : RS} {l : List GObj} {r : BL}, rMems n st = some (l, some r) → st = some (l.flatMap encMem ++ r) ∧ l.length = n ∧ ∀ o ∈ l, ObjFit o ∧ mayP o = true ∧ (encObj o).length < 4294967296
  | 0, st, l, r, h => by
    simp only [rMems, Option.some.injEq, Prod.mk.injEq] at h
    obtain ⟨rfl, rfl⟩ := h
    exact ⟨by simp, rfl, fun o ho => by cases ho⟩
  | n + 1, none, l, r, h => by simp [rMems] at h
  | n + 1, some q, l, r, h => by
    simp only [rMems] at h
    generalize hk : rNum 4 (some q) = k at h
    obtain ⟨k1, k2⟩ := k
    simp only [] at h
    generalize ht : rTake k1.toNat k2 = t at h
    obtain ⟨t1, t2⟩ := t
    simp only [] at h
    cases hg : getB t1 with
    | none => rw [hg] at h; cases h
    | some o =>
      rw [hg] at h
      simp only [] at h
      cases hr : rMems n t2 with
      | none => rw [hr] at h; cases h
      | some p =>
        obtain ⟨l', st'⟩ := p
        rw [hr] at h
        simp only [Option.some.injEq, Prod.mk.injEq] at h
        obtain ⟨rfl, rfl⟩ := h
        obtain ⟨rfl, q1, q2⟩ := rMems_some hr
        obtain ⟨rfl, q3⟩ := rTake_some ht
        obtain ⟨q4, q5, q6⟩ := rNum_some hk
        obtain ⟨rfl, q7, q8⟩ := getB_some hg
        rw [p4] at q6
        have m1 : ((encObj o).length : Int) = k1 := by omega
        refine ⟨by rw [q4, List.flatMap_cons, encMem, m1]; simp only [List.append_assoc], by simp [q1], fun y hy => ?_⟩
        rcases List.mem_cons.1 hy with rfl | hy
        · exact ⟨q7, q8, by omega⟩
        · exact q2 y hy
theorem arcGet_some {s : BL} {a : GArc} (h : arcGet s = some a) : encArc a = s ∧ arcOk a = true ∧ ∀ o ∈ a.members, ObjFit o ∧ mayP o = true ∧ (encObj o).length < 4294967296 := by
  unfold arcGet at h
  generalize hm : rTake 4 (some s) = m at h
  obtain ⟨m1, m2⟩ := m
  simp only [] at h
  generalize ht : rText m2 = t at h
  obtain ⟨t1, t2⟩ := t
  simp only [] at h
  generalize hn : rNum 1 t2 = n at h
  obtain ⟨n1, n2⟩ := n
  simp only [] at h
  cases hr : rMems n1.toNat n2 with
  | none => rw [hr] at h; cases h
  | some p =>
    obtain ⟨l, st⟩ := p
    rw [hr] at h
    simp only [] at h
    split at h
    · rename_i hc
      obtain ⟨rfl, rfl, h3⟩ := hc
      cases h
      obtain ⟨rfl, q1, q2⟩ := rMems_some hr
      obtain ⟨rfl, q3, -⟩ := rNum_some hn
      obtain ⟨rfl, -⟩ := rText_some ht
      obtain ⟨q4, -⟩ := rTake_some hm
      have m1 : (l.length : Int) = n1 := by omega
      refine ⟨?_, h3, q2⟩
      rw [Option.some.inj q4]
      simp [encArc, m1]
    · cases h
end Go.Proofs.YtboegjdkedjhcaaGreatDoor
