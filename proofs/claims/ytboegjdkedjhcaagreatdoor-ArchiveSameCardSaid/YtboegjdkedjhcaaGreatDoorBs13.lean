/- The walks of pack.Reader's methods. The walk of resolve.Find. -/
import Derived.Test.YtboegjdkedjhcaaGreatDoorBs04
import Derived.Test.YtboegjdkedjhcaaGreatDoorBs07
import Derived.Lib.Builder
import Derived.Lib.Strings
import Derived.BigQuiet
import Derived.IntWalk
import Derived.Test.YtboegjdkedjhcaaGreatDoorBs09
namespace Go.Proofs.YtboegjdkedjhcaaGreatDoor
section
open Go.RowKit
def RdB (w : World) (rb : Nat) (s : ByteArray) (a : Nat) (f : Int) : Prop :=
 w.heap[rb]? = some (.cells #[.string s, .int .i64 a, .int .i64 f] 162 (0, 0)) ∧ a ≤ s.size ∧ s.size ≤ 140737488355328
theorem RdB.lt {w : World} {rb : Nat} {s : ByteArray} {a : Nat} {f : Int} (h : RdB w rb s a f) : rb < w.heap.size := (Array.getElem?_eq_some_iff.1 h.1).1
theorem RdB.congr {w w' : World} {rb : Nat} {s : ByteArray} {a : Nat} {f : Int} (h : RdB w rb s a f) (k : w'.heap[rb]? = w.heap[rb]?) : RdB w' rb s a f := ⟨k.trans h.1, h.2⟩
theorem RdB.set1 {w : World} {rb : Nat} {s : ByteArray} {a : Nat} {f : Int} (h : RdB w rb s a f) (a' : Nat) (ha : a' ≤ s.size) : RdB (w.setCell ⟨rb, 1, none⟩ (.int .i64 a')) rb s a' f := by
 refine ⟨?_, ha, h.2.2⟩; simp [World.setCell, Array.getElem?_modify, h.1]
theorem RdB.set2 {w : World} {rb : Nat} {s : ByteArray} {a : Nat} {f : Int} (h : RdB w rb s a f) (f' : Int) : RdB (w.setCell ⟨rb, 2, none⟩ (.int .i64 f')) rb s a f' := by
 refine ⟨?_, h.2⟩; simp [World.setCell, Array.getElem?_modify, h.1]
theorem RdB.c0 {w : World} {rb : Nat} {s : ByteArray} {a : Nat} {f : Int} (h : RdB w rb s a f) : w.cell? ⟨rb, 0, none⟩ = some (.string s) := Lib.cell_of_heap h.1 0
theorem RdB.c1 {w : World} {rb : Nat} {s : ByteArray} {a : Nat} {f : Int} (h : RdB w rb s a f) : w.cell? ⟨rb, 1, none⟩ = some (.int .i64 a) := Lib.cell_of_heap h.1 1
theorem RdB.c2 {w : World} {rb : Nat} {s : ByteArray} {a : Nat} {f : Int} (h : RdB w rb s a f) : w.cell? ⟨rb, 2, none⟩ = some (.int .i64 f) := Lib.cell_of_heap h.1 2
theorem RdB.fz {w : World} {rb : Nat} {s : ByteArray} {a : Nat} {f : Int} (h : RdB w rb s a f) (j : Nat) : w.frozen? ⟨rb, j, none⟩ = false := Lib.frozen_of_heap h.1 j
abbrev KR (rb : Nat) (w w' : World) : Prop := KB (fun g => g = rb) w w'
theorem KR.set {rb : Nat} {w w' : World} (h : KR rb w w') (j : Nat) (u : Value) : KR rb w (w'.setCell ⟨rb, j, none⟩ u) := KB.setCell h (.inl rfl) u
theorem KR.draw {rb : Nat} {w : World} (n : Nat) : KR rb w (w.drewN n) := (KB.refl _ w).drewN n
set_option maxHeartbeats 400000 in
theorem fault_any (rb : Nat) (s : ByteArray) (a : Nat) (f : Int) (w : World) (h : RdB w rb s a f) :
 Calls Tryz.prog 46 #[.pointer (some ⟨rb, 0, none⟩)] w fun e w' => e = .returned (.int .i64 f) ∧ w = w' := by
 have c := h.c2; clear h; go_enter Tryz.func46, Tryz.ntmps46; go_wp2; go_ret; exact ⟨rfl, rfl⟩
set_option maxHeartbeats 400000 in
theorem left_any (rb : Nat) (s : ByteArray) (a : Nat) (f : Int) (w : World) (h : RdB w rb s a f) :
 Calls Tryz.prog 93 #[.pointer (some ⟨rb, 0, none⟩)] w fun e w' => e = .returned (.int .i64 ((s.size : Int) - a)) ∧ ∃ n, w' = w.drewN n := by
 have c := h.c0; have c1 := h.c1; have h1 := h.2.1; have h2 := h.2.2; have hw : IntKind.i64.wrap ((s.size : Int) - a) = (s.size : Int) - a := IntWalk.i64_in _ (by omega)
 clear h; go_enter Tryz.func93, Tryz.ntmps93; go_wp2
 go_quiet (fail)
 go_wp2; go_ret; exact ⟨rfl, _, rfl⟩
set_option maxHeartbeats 400000 in
theorem spoilt_any (rb : Nat) (s : ByteArray) (a : Nat) (f f' : Int) (w : World) (h : RdB w rb s a f) :
 Calls Tryz.prog 85 #[.pointer (some ⟨rb, 0, none⟩), .int .i64 f'] w fun e w' => e = .returned (.int .i64 f') ∧ w' = w.setCell ⟨rb, 2, none⟩ (.int .i64 f') := by
 have c := h.c2; have cf := h.fz 2; clear h; go_enter Tryz.func85, Tryz.ntmps85; go_wp2; go_ret; exact ⟨rfl, rfl⟩
set_option maxHeartbeats 400000 in
theorem new_any (s : ByteArray) (w : World) (hs : s.size ≤ 140737488355328) :
 Calls Tryz.prog 42 #[.string s] w fun e w' => e = .returned (.pointer (some ⟨w.heap.size, 0, none⟩)) ∧ RdB w' w.heap.size s 0 0 ∧ Below w.heap.size w w' := by
 go_enter Tryz.func42, Tryz.ntmps42; go_wp2; go_ret; exact ⟨rfl, ⟨heap_alloc_new w _, Nat.zero_le _, hs⟩, alloc_old w _⟩
set_option maxHeartbeats 1000000 in
theorem take_no (rb : Nat) (s : ByteArray) (a n : Nat) (f : Int) (w : World) (h : RdB w rb s a f) (hn : s.size - a < n) :
 Calls Tryz.prog 86 #[.pointer (some ⟨rb, 0, none⟩), .int .i64 n] w fun e w' => e = .returned (.tuple #[.string ⟨#[]⟩, .int .i64 6]) ∧ RdB w' rb s a 6 ∧ KR rb w w' := by
 have H := Lib.hid h; have HC := Lib.hid (left_any rb s a f w h); have h1 := h.2.1; have h2 := h.2.2; have d : decide ((s.size : Int) - a < (n : Int)) = true := by simp; omega
 clear h; go_enter Tryz.func86, Tryz.ntmps86; go_wp2_with fail; refine HC.out.mono ?_; rintro e w1 ⟨rfl, q, rfl⟩; have HD : Hid (RdB (w.drewN q) rb s a f) := H.out.congr rfl; have HS := Lib.hid (spoilt_any rb s a f 6 (w.drewN q) HD.out); go_wp2_with fail; refine HS.out.mono ?_; rintro e w2 ⟨rfl, rfl⟩; have HE := Lib.hid (HD.out.set2 6); have HK : Hid (KR rb w ((w.drewN q).setCell ⟨rb, 2, none⟩ (.int .i64 6))) := (KR.draw q).set 2 _; clear HS HC; go_wp2; go_ret2; exact ⟨rfl, HE.out, HK.out⟩
set_option maxHeartbeats 1000000 in
theorem take_yes (rb : Nat) (s : ByteArray) (a n : Nat) (f : Int) (w : World) (h : RdB w rb s a f) (hn : a + n ≤ s.size) :
 Calls Tryz.prog 86 #[.pointer (some ⟨rb, 0, none⟩), .int .i64 n] w fun e w' => e = .returned (.tuple #[.string (s.extract a (a + n)), .int .i64 0]) ∧ RdB w' rb s (a + n) f ∧ KR rb w w' := by
 have H := Lib.hid h; have HC := Lib.hid (left_any rb s a f w h); have h1 := h.2.1; have h2 := h.2.2; have d : decide ((s.size : Int) - a < (n : Int)) = false := by simp; omega
 clear h; go_enter Tryz.func86, Tryz.ntmps86; go_wp2_with fail; refine HC.out.mono ?_; rintro e w1 ⟨rfl, q, rfl⟩; have HD : Hid (RdB (w.drewN q) rb s a f) := H.out.congr rfl; generalize hwd : w.drewN q = wd at HD ⊢; have HKD : Hid (KR rb w wd) := by subst hwd; exact KR.draw q
 clear hwd HC H; have c1 := HD.out.c1; have f1 := HD.out.fz 1; go_wp2; have HE := Lib.hid (HD.out.set1 (a + n) hn); have HK : Hid (KR rb w (wd.setCell ⟨rb, 1, none⟩ (.int .i64 ((a + n : Nat) : Int)))) := HKD.out.set 1 _; clear c1 f1; rw [show (a : Int) + (n : Int) = ((a + n : Nat) : Int) by omega]
 generalize wd.setCell ⟨rb, 1, none⟩ (.int .i64 ((a + n : Nat) : Int)) = w2 at HE HK ⊢; have c0 := HE.out.c0; have c1 := HE.out.c1; have ha : a ≤ a + n := by omega
 have ha' : (a : Int) ≤ ((a + n : Nat) : Int) := by omega
 have hm' : ((a + n : Nat) : Int) ≤ (s.size : Int) := by omega
 have hw : IntKind.i64.wrap (((a + n : Nat) : Int) - (n : Int)) = (a : Int) := by rw [show ((a + n : Nat) : Int) - (n : Int) = (a : Int) by omega]; exact IntWalk.i64_in _ (by omega)
 generalize hm : a + n = m at *; have HM := Lib.hid hm; clear hm
 go_quiet (fail)
 rename_i nq; have HE2 : Hid (RdB (w2.drewN nq) rb s m f) := HE.out.congr rfl; have HK2 : Hid (KR rb w (w2.drewN nq)) := KB.drewN HK.out nq; clear hw; go_wp2; go_ret2; obtain rfl := HM.out; exact ⟨rfl, HE2.out, HK2.out⟩
def stOf (s : ByteArray) (a : Nat) (f : Int) : RS := if f = 0 then some (s.data.toList.drop a) else none
def RdS (w : World) (rb : Nat) (s : ByteArray) (st : RS) : Prop := ∃ a f, RdB w rb s a f ∧ st = stOf s a f
theorem RdS.congr {w w' : World} {rb : Nat} {s : ByteArray} {st : RS} (h : RdS w rb s st) (k : w'.heap[rb]? = w.heap[rb]?) : RdS w' rb s st := by
 obtain ⟨a, f, h1, h2⟩ := h; exact ⟨a, f, h1.congr k, h2⟩
theorem RdS.lt {w : World} {rb : Nat} {s : ByteArray} {st : RS} (h : RdS w rb s st) : rb < w.heap.size := by obtain ⟨a, f, h1, -⟩ := h; exact h1.lt
theorem stOf_spoilt {s : ByteArray} {a : Nat} {f : Int} (h : f ≠ 0) : stOf s a f = none := by simp [stOf, h]
theorem stOf_ok {s : ByteArray} {a : Nat} : stOf s a 0 = some (s.data.toList.drop a) := by simp [stOf]
theorem extract_bs (s : ByteArray) (a n : Nat) : s.extract a (a + n) = bsOf ((s.data.toList.drop a).take n) := by
 apply ByteArray.ext; apply Array.toList_inj.1; rw [Lib.extract_data, bsOf_list, show a + n - a = n by omega]
theorem rTake_stOf {s : ByteArray} {a n : Nat} (ha : a ≤ s.size) : rTake n (stOf s a 0) = if a + n ≤ s.size then ((s.data.toList.drop a).take n, stOf s (a + n) 0) else ([], none) := by
 rw [stOf_ok, rTake]; have hl : (s.data.toList.drop a).length = s.size - a := by rw [List.length_drop, len_list]
 by_cases h : a + n ≤ s.size
 ·rw [if_pos (by omega), if_pos h, stOf_ok, List.drop_drop]
 ·rw [if_neg (by omega), if_neg h]
def ErrSt (c : Int) (st : RS) : Prop := (c = 0 ∧ st.isSome = true) ∨ (c ≠ 0 ∧ st = none)
def TkPost (rb n : Nat) (s : ByteArray) (st : RS) (w : World) (e : Ending) (w' : World) : Prop := ∃ c, e = .returned (.tuple #[.string (bsOf (rTake n st).1), .int .i64 c]) ∧ ErrSt c (rTake n st).2 ∧ RdS w' rb s (rTake n st).2 ∧ KR rb w w'
def NmPost (rb n : Nat) (s : ByteArray) (st : RS) (w : World) (e : Ending) (w' : World) : Prop := ∃ c, e = .returned (.tuple #[.int .u32 (rNum n st).1, .int .i64 c]) ∧ ErrSt c (rNum n st).2 ∧ RdS w' rb s (rNum n st).2 ∧ KR rb w w'
def TxPost (rb : Nat) (s : ByteArray) (st : RS) (w : World) (e : Ending) (w' : World) : Prop := ∃ c, e = .returned (.tuple #[.string (rText st).1, .int .i64 c]) ∧ ErrSt c (rText st).2 ∧ RdS w' rb s (rText st).2 ∧ KR rb w w'
set_option maxHeartbeats 1000000 in
theorem rdTake_any (rb n : Nat) (s : ByteArray) (st : RS) (w : World) (h : RdS w rb s st) :
 Calls Tryz.prog 43 #[.pointer (some ⟨rb, 0, none⟩), .int .i64 n] w (TkPost rb n s st w) := by
 obtain ⟨a, f, hb, rfl⟩ := h; have HB := Lib.hid hb; have HF := Lib.hid (fault_any rb s a f w hb); have d0 : decide ((n : Int) < 0) = false := by simp
 by_cases hf : f = 0
 ·subst hf; have HT := Lib.hid (rTake_stOf (n := n) hb.2.1)
  by_cases hn2 : a + n ≤ s.size
  ·have HC := Lib.hid (take_yes rb s a n 0 w hb hn2); rw [if_pos hn2] at HT; clear hb; go_enter Tryz.func43, Tryz.ntmps43; go_wp2_with fail; refine HF.out.mono ?_; rintro e w1 ⟨rfl, rfl⟩; go_wp2_with fail; refine HC.out.mono ?_; rintro e w2 ⟨rfl, h1, h2⟩; have H1 := Lib.hid h1; have H2 := Lib.hid h2; clear h1 h2 HC HF; go_wp2; go_ret2; unfold TkPost; rw [HT.out]; exact ⟨0, by rw [extract_bs s a n]; rfl, .inl ⟨rfl, by rw [stOf_ok]; rfl⟩, ⟨_, _, H1.out, rfl⟩, H2.out⟩
  ·have HC := Lib.hid (take_no rb s a n 0 w hb (by have := hb.2.1; omega))
   rw [if_neg hn2] at HT; clear hb; go_enter Tryz.func43, Tryz.ntmps43; go_wp2_with fail; refine HF.out.mono ?_; rintro e w1 ⟨rfl, rfl⟩; go_wp2_with fail; refine HC.out.mono ?_; rintro e w2 ⟨rfl, h1, h2⟩; have H1 := Lib.hid h1; have H2 := Lib.hid h2; clear h1 h2 HC HF; go_wp2; go_ret2; unfold TkPost; rw [HT.out]; exact ⟨6, rfl, .inr ⟨by omega, rfl⟩, ⟨_, _, H1.out, (stOf_spoilt (by omega)).symm⟩, H2.out⟩
 ·have HT : Hid (rTake n (stOf s a f) = ([], none)) := by rw [Hid, stOf_spoilt hf]; rfl
  have bf : (f != 0) = true := by simpa using hf
  have HFN := Lib.hid hf; clear hb hf; go_enter Tryz.func43, Tryz.ntmps43; go_wp2_with fail; refine HF.out.mono ?_; rintro e w1 ⟨rfl, rfl⟩; clear HF; go_wp2; go_ret2; unfold TkPost; rw [HT.out]; exact ⟨f, rfl, .inr ⟨HFN.out, rfl⟩, ⟨_, _, HB.out, (stOf_spoilt HFN.out).symm⟩, KB.refl _ _⟩
set_option maxHeartbeats 1000000 in
theorem num_yes (rb n : Nat) (s : ByteArray) (a : Nat) (w : World) (hb : RdB w rb s a 0) (h1 : 1 ≤ n) (h4 : n ≤ 4) (hn : a + n ≤ s.size) :
 Calls Tryz.prog 45 #[.pointer (some ⟨rb, 0, none⟩), .int .i64 n] w fun e w' => e = .returned (.tuple #[.int .u32 (leV ((s.data.toList.drop a).take n)), .int .i64 0]) ∧ RdB w' rb s (a + n) 0 ∧ KR rb w w' := by
 have HF := Lib.hid (fault_any rb s a 0 w hb); have HC := Lib.hid (take_yes rb s a n 0 w hb hn); have d1 : decide ((n : Int) < 1) = false := by simp; omega
 have d4 : decide ((4 : Int) < (n : Int)) = false := by simp; omega
 have d4' : decide (4 < n) = false := by simp; omega
 have HZ : Hid ((s.extract a (a + n)).size = n) := by rw [Hid, extract_bs, bsOf_size, List.length_take, List.length_drop, len_list]; omega
 have HD : Hid ((s.extract a (a + n)).data.toList = (s.data.toList.drop a).take n) := by rw [Hid, extract_bs, bsOf_list]
 clear hb; go_enter Tryz.func45, Tryz.ntmps45; go_wp2_with fail; refine HF.out.mono ?_; rintro e w1 ⟨rfl, rfl⟩; go_wp2_with fail; refine HC.out.mono ?_; rintro e w2 ⟨rfl, h1, h2⟩; have H1 := Lib.hid h1; have H2 := Lib.hid h2; clear h1 h2 HC HF; have HG := Lib.hid (wordGet_any (s.extract a (a + n)) w2 (by rw [HZ.out]; omega) (by rw [HZ.out]; omega))
 rw [HD.out] at HG; go_wp2_with fail; refine HG.out.mono ?_; rintro e w3 ⟨rfl, rfl⟩; clear HG; go_wp2; go_ret2; exact ⟨rfl, H1.out, H2.out⟩
set_option maxHeartbeats 1000000 in
theorem num_no (rb n : Nat) (s : ByteArray) (a : Nat) (w : World) (hb : RdB w rb s a 0) (h1 : 1 ≤ n) (h4 : n ≤ 4) (hn : ¬ a + n ≤ s.size) :
 Calls Tryz.prog 45 #[.pointer (some ⟨rb, 0, none⟩), .int .i64 n] w fun e w' => e = .returned (.tuple #[.int .u32 0, .int .i64 6]) ∧ RdB w' rb s a 6 ∧ KR rb w w' := by
 have HF := Lib.hid (fault_any rb s a 0 w hb); have HC := Lib.hid (take_no rb s a n 0 w hb (by have := hb.2.1; omega))
 have d1 : decide ((n : Int) < 1) = false := by simp; omega
 have d4 : decide ((4 : Int) < (n : Int)) = false := by simp; omega
 have d4' : decide (4 < n) = false := by simp; omega
 clear hb; go_enter Tryz.func45, Tryz.ntmps45; go_wp2_with fail; refine HF.out.mono ?_; rintro e w1 ⟨rfl, rfl⟩; go_wp2_with fail; refine HC.out.mono ?_; rintro e w2 ⟨rfl, h1, h2⟩; have H1 := Lib.hid h1; have H2 := Lib.hid h2; clear h1 h2 HC HF; go_wp2; go_ret2; exact ⟨rfl, H1.out, H2.out⟩
set_option maxHeartbeats 1000000 in
theorem num_bad (rb n : Nat) (s : ByteArray) (a : Nat) (f : Int) (w : World) (hb : RdB w rb s a f) (hf : f ≠ 0) :
 Calls Tryz.prog 45 #[.pointer (some ⟨rb, 0, none⟩), .int .i64 n] w fun e w' => e = .returned (.tuple #[.int .u32 0, .int .i64 f]) ∧ w = w' := by
 have HF := Lib.hid (fault_any rb s a f w hb); have bf : (f != 0) = true := by simpa using hf
 clear hb hf; go_enter Tryz.func45, Tryz.ntmps45; go_wp2_with fail; refine HF.out.mono ?_; rintro e w1 ⟨rfl, rfl⟩; clear HF; go_wp2; go_ret2; exact ⟨rfl, rfl⟩
theorem rdNum_any (rb n : Nat) (s : ByteArray) (st : RS) (w : World) (h : RdS w rb s st) (h1 : 1 ≤ n) (h4 : n ≤ 4) :
 Calls Tryz.prog 45 #[.pointer (some ⟨rb, 0, none⟩), .int .i64 n] w (NmPost rb n s st w) := by
 obtain ⟨a, f, hb, rfl⟩ := h
 by_cases hf : f = 0
 ·subst hf; have HT := rTake_stOf (n := n) hb.2.1
  by_cases hn : a + n ≤ s.size
  ·rw [if_pos hn] at HT; refine (num_yes rb n s a w hb h1 h4 hn).mono ?_; rintro e w' ⟨rfl, k1, k2⟩; exact ⟨0, by rw [rNum, HT], by rw [rNum, HT]; exact .inl ⟨rfl, by rw [stOf_ok]; rfl⟩, ⟨_, _, k1, by rw [rNum, HT]⟩, k2⟩
  ·rw [if_neg hn] at HT; refine (num_no rb n s a w hb h1 h4 hn).mono ?_; rintro e w' ⟨rfl, k1, k2⟩; exact ⟨6, by rw [rNum, HT]; rfl, by rw [rNum, HT]; exact .inr ⟨by omega, rfl⟩, ⟨_, _, k1, by rw [rNum, HT, stOf_spoilt (by omega)]⟩, k2⟩
 ·have HT : rTake n (stOf s a f) = ([], none) := by rw [stOf_spoilt hf]; rfl
  refine (num_bad rb n s a f w hb hf).mono ?_; rintro e w' ⟨rfl, rfl⟩; exact ⟨f, by rw [rNum, HT]; rfl, by rw [rNum, HT]; exact .inr ⟨hf, rfl⟩, ⟨_, _, hb, by rw [rNum, HT, stOf_spoilt hf]⟩, KB.refl _ _⟩
set_option maxHeartbeats 2000000 in
theorem rdText_any (rb : Nat) (s : ByteArray) (st : RS) (w : World) (h : RdS w rb s st) :
 Calls Tryz.prog 44 #[.pointer (some ⟨rb, 0, none⟩)] w (TxPost rb s st w) := by
 obtain ⟨a, f, hb, rfl⟩ := h; have HB := Lib.hid hb
 by_cases hf : f = 0
 ·subst hf; have ha := hb.2.1; have hz := hb.2.2; have HT := Lib.hid (rTake_stOf (n := 2) ha)
  by_cases hn : a + 2 ≤ s.size
  ·have HN := Lib.hid (num_yes rb 2 s a w hb (by omega) (by omega) hn)
   rw [if_pos hn] at HT; have HV := Lib.hid (leV_bd ((s.data.toList.drop a).take 2)); have HL : Hid (((s.data.toList.drop a).take 2).length = 2) := by rw [Hid, List.length_take, List.length_drop, len_list]; omega
   have HX : Hid (rText (stOf s a 0) = (bsOf (rTake (leV ((s.data.toList.drop a).take 2)).toNat (stOf s (a + 2) 0)).1, (rTake (leV ((s.data.toList.drop a).take 2)).toNat (stOf s (a + 2) 0)).2)) := by
    unfold rText rNum; rw [Hid, HT.out]
   rw [HL.out, p2] at HV; generalize leV ((s.data.toList.drop a).take 2) = lv at HN HV HX; obtain ⟨hv0, hv1⟩ := HV.out; obtain ⟨m, rfl⟩ := Int.eq_ofNat_of_zero_le hv0; rw [Int.toNat_natCast] at HX; have HT2 := Lib.hid (rTake_stOf (s := s) (a := a + 2) (n := m) hn); clear hb HT
   by_cases hm : a + 2 + m ≤ s.size
   ·rw [if_pos hm] at HT2; go_enter Tryz.func44, Tryz.ntmps44; go_wp2_with fail; refine HN.out.mono ?_; rintro e w1 ⟨rfl, k1, k2⟩; have HC := Lib.hid (take_yes rb s (a + 2) m 0 w1 k1 hm); have K2 := Lib.hid k2; clear k1 k2 HN; go_wp2_with fail; refine HC.out.mono ?_; rintro e w2 ⟨rfl, k3, k4⟩; have K3 := Lib.hid k3; have K4 := Lib.hid k4; clear k3 k4 HC; go_wp2; go_ret2; unfold TxPost; rw [HX.out, HT2.out]; exact ⟨0, by rw [extract_bs]; rfl, .inl ⟨rfl, by simp only [stOf_ok]; rfl⟩, ⟨_, _, K3.out, rfl⟩, K2.out.trans K4.out⟩
   ·rw [if_neg hm] at HT2; go_enter Tryz.func44, Tryz.ntmps44; go_wp2_with fail; refine HN.out.mono ?_; rintro e w1 ⟨rfl, k1, k2⟩; have HC := Lib.hid (take_no rb s (a + 2) m 0 w1 k1 (by omega))
    have K2 := Lib.hid k2; clear k1 k2 HN; go_wp2_with fail; refine HC.out.mono ?_; rintro e w2 ⟨rfl, k3, k4⟩; have K3 := Lib.hid k3; have K4 := Lib.hid k4; have c1 := k3.c1; have cf := k3.fz 1; clear k3 k4 HC; have hs1 : (a : Int) + 2 - 2 = (a : Int) := by omega
    go_wp2; have HE := Lib.hid (K3.out.set1 a ha); clear c1 cf hs1; go_ret2; unfold TxPost; rw [HX.out, HT2.out]; exact ⟨6, rfl, .inr ⟨by omega, rfl⟩, ⟨_, _, HE.out, (stOf_spoilt (by omega)).symm⟩, KR.set (K2.out.trans K4.out) 1 _⟩
  ·have HN := Lib.hid (num_no rb 2 s a w hb (by omega) (by omega) hn)
   rw [if_neg hn] at HT; have HX : Hid (rText (stOf s a 0) = (bsOf [], none)) := by unfold rText rNum; rw [Hid, HT.out]; rfl
   clear hb HT; go_enter Tryz.func44, Tryz.ntmps44; go_wp2_with fail; refine HN.out.mono ?_; rintro e w1 ⟨rfl, k1, k2⟩; have K1 := Lib.hid k1; have K2 := Lib.hid k2; clear k1 k2 HN; go_wp2; go_ret2; unfold TxPost; rw [HX.out]; exact ⟨6, rfl, .inr ⟨by omega, rfl⟩, ⟨_, _, K1.out, (stOf_spoilt (by omega)).symm⟩, K2.out⟩
 ·have HN := Lib.hid (num_bad rb 2 s a f w hb hf); have HX : Hid (rText (stOf s a f) = (bsOf [], none)) := by rw [Hid, stOf_spoilt hf]; rfl
  have bf : (f != 0) = true := by simpa using hf
  have HFN := Lib.hid hf; clear hb hf; go_enter Tryz.func44, Tryz.ntmps44; go_wp2_with fail; refine HN.out.mono ?_; rintro e w1 ⟨rfl, rfl⟩; clear HN; go_wp2; go_ret2; unfold TxPost; rw [HX.out]; exact ⟨f, rfl, .inr ⟨HFN.out, rfl⟩, ⟨_, _, HB.out, (stOf_spoilt HFN.out).symm⟩, KB.refl _ _⟩
def EdPost (rb : Nat) (st : RS) (w : World) (e : Ending) (w' : World) : Prop := ∃ c : Int, e = .returned (.int .i64 c) ∧ (c = 0 ↔ st = some []) ∧ KR rb w w'
set_option maxHeartbeats 1000000 in
theorem rdEnd_any (rb : Nat) (s : ByteArray) (st : RS) (w : World) (h : RdS w rb s st) :
 Calls Tryz.prog 48 #[.pointer (some ⟨rb, 0, none⟩)] w (EdPost rb st w) := by
 obtain ⟨a, f, hb, rfl⟩ := h; have HB := Lib.hid hb; have HF := Lib.hid (fault_any rb s a f w hb)
 by_cases hf : f = 0
 ·subst hf; have HL := Lib.hid (left_any rb s a 0 w hb); have ha := hb.2.1; have hz := hb.2.2
  by_cases hl : a = s.size
  ·have HE : Hid (stOf s a 0 = some []) := by rw [Hid, stOf_ok, List.drop_of_length_le (by rw [len_list]; omega)]
   have d : decide ((0 : Int) < (s.size : Int) - a) = false := by simp; omega
   have d' : decide (a < s.size) = false := by simp; omega
   clear hb hl; go_enter Tryz.func48, Tryz.ntmps48; go_wp2_with fail; refine HF.out.mono ?_; rintro e w1 ⟨rfl, rfl⟩; go_wp2_with fail; refine HL.out.mono ?_; rintro e w2 ⟨rfl, q, rfl⟩; clear HF HL; go_wp2; go_ret; exact ⟨0, rfl, ⟨fun _ => HE.out, fun _ => rfl⟩, KR.draw q⟩
  ·have HE : Hid (stOf s a 0 ≠ some []) := by
    rw [Hid, stOf_ok]; intro he; have := congrArg List.length (Option.some.inj he); rw [List.length_drop, len_list] at this; simp at this; omega
   have d : decide ((0 : Int) < (s.size : Int) - a) = true := by simp; omega
   have d' : decide (a < s.size) = true := by simp; omega
   clear hb hl; go_enter Tryz.func48, Tryz.ntmps48; go_wp2_with fail; refine HF.out.mono ?_; rintro e w1 ⟨rfl, rfl⟩; go_wp2_with fail; refine HL.out.mono ?_; rintro e w2 ⟨rfl, q, rfl⟩; have HD : Hid (RdB (w.drewN q) rb s a 0) := HB.out.congr rfl; have HS := Lib.hid (spoilt_any rb s a 0 7 (w.drewN q) HD.out); clear HF HL; go_wp2_with fail; refine HS.out.mono ?_; rintro e w3 ⟨rfl, rfl⟩; clear HS; go_wp2; go_ret; exact ⟨7, rfl, ⟨fun h => (by omega), fun h => absurd h HE.out⟩, (KR.draw q).set 2 _⟩
 ·have HE : Hid (stOf s a f ≠ some []) := by rw [Hid, stOf_spoilt hf]; simp
  have bf : (f != 0) = true := by simpa using hf
  have HFN := Lib.hid hf; clear hb hf; go_enter Tryz.func48, Tryz.ntmps48; go_wp2_with fail; refine HF.out.mono ?_; rintro e w1 ⟨rfl, rfl⟩; clear HF; go_wp2; go_ret; exact ⟨f, rfl, ⟨fun h => absurd h HFN.out, fun h => absurd h HE.out⟩, KB.refl _ _⟩
end
section
open Go.RowKit Go.Maps Go.WideMaps
def findV (r : (Nat × Nat) × Int) : Value := .tuple #[.agg #[.int .i64 r.1.1, .int .i64 r.1.2], .int .i64 r.2]
set_option maxHeartbeats 1000000 in
theorem resFind_any (v : Value) (l : List GObj) (i : Int) (nm : ByteArray) (w : World) (h : ObjsAt w v l) (hn : nm.size ≤ 9223372036854775807) :
 Calls Tryz.prog 114 #[v, .int .i64 i, .string nm] w fun e w' => e = .returned (findV (findAll l i nm.data.toList)) ∧ Below w.heap.size w w' := by
 have HO := Lib.hid h; have HBG := Lib.hid (begin_any v l (w.alloc (.cells #[.int .i64 0, .int .i64 0] 185)) (ObjsAt.keep (alloc_old w _) h)); have hsh : ∃ (p : Option Addr) (cap : Nat), v = .slice p l.length cap := by obtain ⟨p, cap, b, o, rfl, _⟩ := h; exact ⟨p, cap, rfl⟩
 obtain ⟨p, cap, rfl⟩ := hsh; clear h; have HFA := Lib.hid (show findAll l i nm.data.toList = _ from rfl)
 go_enter Tryz.func114, Tryz.ntmps114; go_wp2_with fail; refine HBG.out.mono ?_; rintro e w1 ⟨hcase, hB⟩; obtain ⟨hc1, hf1⟩ := bcell hB; have hz : w.heap.size < w1.heap.size := by have := hB.size; (try simp at this); omega
 have HBW := Lib.hid ((alloc_old w (.cells #[.int .i64 0, .int .i64 0] 185)).trans (hB.mono (by simp)))
 have q0 : w1.cell? ⟨w.heap.size, 0, none⟩ = some (.int .i64 0) := by rw [hB.cell (by simp)]; simp [go_sem]
 have q1 : w1.cell? ⟨w.heap.size, 1, none⟩ = some (.int .i64 0) := by rw [hB.cell (by simp)]; simp [go_sem]
 rcases hcase with ⟨c, hb2, hc0, rfl⟩ | ⟨hb2, hb1, rb, rfl, hres⟩
 ·have hcb : (c != 0) = true := by simpa using hc0
  have HF : Hid (findAll l i nm.data.toList = ((0, 0), c)) := by unfold findAll; rw [hb2, if_pos hc0]; rfl
  clear hb2; generalize (beginR l).1 = bn; go_wp2_with fail; rw [HF.out]; refine bodyPost_ret (v := .tuple #[.agg #[.int .i64 0, .int .i64 0], .int .i64 c]) (by simp [results, Tryz.results114, go_sem, q0, q1]) rfl ⟨rfl, ?_⟩
  exact (HBW.out.setCell (by simp) _).setCell (by simp) _
 ·have HB2 := Lib.hid hb2; clear hb2 hb1; have HR := Lib.hid hres; clear hres
  by_cases hr : i < -1 ∨ (l.length : Int) ≤ i
  ·have HF : Hid (findAll l i nm.data.toList = ((0, 0), 2)) := by unfold findAll; rw [HB2.out, if_neg (by simp), if_pos hr]; rfl
   go_wp2_with fail
   all_goals
    rw [HF.out]; refine bodyPost_ret (v := .tuple #[.agg #[.int .i64 0, .int .i64 0], .int .i64 2]) (by simp [results, Tryz.results114, go_sem, q0, q1]) rfl ⟨rfl, ?_⟩
    exact (HBW.out.setCell (by simp) _).setCell (by simp) _
  ·have hr1 : ¬ i < -1 := fun h => hr (.inl h)
   have hr2 : ¬ (l.length : Int) ≤ i := fun h => hr (.inr h)
   have HF : Hid (findAll l i nm.data.toList = match findR l i nm.data.toList with | some p => (p, 0) | none => ((0, 0), 121)) := by unfold findAll; rw [HB2.out, if_neg (by simp), if_neg hr]; rfl
   have HCON : Hid (Calls Tryz.prog 149 #[.pointer (some ⟨rb, 0, none⟩), .int .i64 i, .string nm] w1 fun e w' => e = .returned (placeRet (findR l i nm.data.toList)) ∧ Below w1.heap.size w1 w') := by
    by_cases hi0 : i < 0
    ·have hf : findR l i nm.data.toList = winnerIn (flat l) nm.data.toList := by unfold findR; rw [if_neg (by omega)]
     rw [hf]; exact findNeg rb _ l i nm w1 HR.out hn hi0
    ·obtain ⟨j, rfl⟩ := Int.eq_ofNat_of_zero_le (show 0 ≤ i by omega)
     exact findPos rb _ l j nm w1 HR.out (ObjsAt.keep HBW.out HO.out) hn (by omega)
   generalize findR l i nm.data.toList = fr at HF HCON; cases fr with
   | none =>
     simp only [placeRet] at HCON; go_wp2_with (go_at_call 149; refine HCON.out.mono ?_; rintro e w2 ⟨rfl, hB2⟩; obtain ⟨hc2, hf2⟩ := bcell hB2; have hz2 : w.heap.size < w2.heap.size := (by have := hB2.size; omega))
     have q0' : w2.cell? ⟨w.heap.size, 0, none⟩ = some (.int .i64 0) := cell_keep hB2 hz q0; have q1' : w2.cell? ⟨w.heap.size, 1, none⟩ = some (.int .i64 0) := cell_keep hB2 hz q1; rw [HF.out]; refine bodyPost_ret (v := .tuple #[.agg #[.int .i64 0, .int .i64 0], .int .i64 121]) (by simp [results, Tryz.results114, go_sem, q0', q1', hz2]) rfl ⟨rfl, ?_⟩
     have hfin : Below w.heap.size w w2 := HBW.out.trans (hB2.mono HBW.out.size); exact ((hfin.setCell (by simp) _).setCell (by simp) _).alloc (by simp; omega) _
   | some pq =>
     obtain ⟨pi, pk⟩ := pq; simp only [placeRet] at HCON; go_wp2_with (go_at_call 149; refine HCON.out.mono ?_; rintro e w2 ⟨rfl, hB2⟩; obtain ⟨hc2, hf2⟩ := bcell hB2; have hz2 : w.heap.size < w2.heap.size := (by have := hB2.size; omega))
     have q0' : w2.cell? ⟨w.heap.size, 0, none⟩ = some (.int .i64 0) := cell_keep hB2 hz q0; have q1' : w2.cell? ⟨w.heap.size, 1, none⟩ = some (.int .i64 0) := cell_keep hB2 hz q1; rw [HF.out]; refine bodyPost_ret (v := .tuple #[.agg #[.int .i64 (pi : Nat), .int .i64 (pk : Nat)], .int .i64 0]) (by simp [results, Tryz.results114, go_sem, q0', q1', hz2]) rfl ⟨rfl, ?_⟩
     have hfin : Below w.heap.size w w2 := HBW.out.trans (hB2.mono HBW.out.size); exact ((hfin.setCell (by simp) _).setCell (by simp) _).alloc (by simp; omega) _
end
end Go.Proofs.YtboegjdkedjhcaaGreatDoor
