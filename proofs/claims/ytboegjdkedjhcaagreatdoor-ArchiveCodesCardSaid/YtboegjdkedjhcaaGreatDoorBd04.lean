/- The walks of pack.Reader's methods. The walks of objfile.reading's num and word. Rows of one's own: shapes, blocks, types. No program in sight. The walk of aediculeref08.Copy. -/
import Derived.Test.YtboegjdkedjhcaaGreatDoorBd03
import Derived.Lib.Builder
import Derived.Lib.Strings
import Derived.BigQuiet
import Derived.IntWalk
import Derived.WalkKit
import Derived.OwnWalk
import Derived.Test.YtboegjdkedjhcaaGreatDoorBd01
import Derived.Maps.AppendAt
import Derived.Lib.Hide
namespace Go.Proofs.YtboegjdkedjhcaaGreatDoor
open Go.RowKit
/-- a reader: its text, where it is, its fault -/
def RdB (w : World) (rb : Nat) (s : ByteArray) (a : Nat) (f : Int) : Prop :=
  w.heap[rb]? = some (.cells #[.string s, .int .i64 a, .int .i64 f] 162 (0, 0)) ∧ a ≤ s.size ∧ s.size ≤ 140737488355328
theorem RdB.lt {w : World} {rb : Nat} {s : ByteArray} {a : Nat} {f : Int} (h : RdB w rb s a f) : rb < w.heap.size := (Array.getElem?_eq_some_iff.1 h.1).1
theorem RdB.congr {w w' : World} {rb : Nat} {s : ByteArray} {a : Nat} {f : Int} (h : RdB w rb s a f) (k : w'.heap[rb]? = w.heap[rb]?) : RdB w' rb s a f := ⟨k.trans h.1, h.2⟩
theorem RdB.set1 {w : World} {rb : Nat} {s : ByteArray} {a : Nat} {f : Int} (h : RdB w rb s a f) (a' : Nat) (ha : a' ≤ s.size) : RdB (w.setCell ⟨rb, 1, none⟩ (.int .i64 a')) rb s a' f := by
  refine ⟨?_, ha, h.2.2⟩
  simp [World.setCell, Array.getElem?_modify, h.1]
theorem RdB.set2 {w : World} {rb : Nat} {s : ByteArray} {a : Nat} {f : Int} (h : RdB w rb s a f) (f' : Int) : RdB (w.setCell ⟨rb, 2, none⟩ (.int .i64 f')) rb s a f' := by
  refine ⟨?_, h.2⟩
  simp [World.setCell, Array.getElem?_modify, h.1]
theorem RdB.c0 {w : World} {rb : Nat} {s : ByteArray} {a : Nat} {f : Int} (h : RdB w rb s a f) : w.cell? ⟨rb, 0, none⟩ = some (.string s) := Lib.cell_of_heap h.1 0
theorem RdB.c1 {w : World} {rb : Nat} {s : ByteArray} {a : Nat} {f : Int} (h : RdB w rb s a f) : w.cell? ⟨rb, 1, none⟩ = some (.int .i64 a) := Lib.cell_of_heap h.1 1
theorem RdB.c2 {w : World} {rb : Nat} {s : ByteArray} {a : Nat} {f : Int} (h : RdB w rb s a f) : w.cell? ⟨rb, 2, none⟩ = some (.int .i64 f) := Lib.cell_of_heap h.1 2
theorem RdB.fz {w : World} {rb : Nat} {s : ByteArray} {a : Nat} {f : Int} (h : RdB w rb s a f) (j : Nat) : w.frozen? ⟨rb, j, none⟩ = false := Lib.frozen_of_heap h.1 j
abbrev KR (rb : Nat) (w w' : World) : Prop := KB (fun g => g = rb) w w'
theorem KR.set {rb : Nat} {w w' : World} (h : KR rb w w') (j : Nat) (u : Value) : KR rb w (w'.setCell ⟨rb, j, none⟩ u) := KB.setCell h (.inl rfl) u
theorem KR.draw {rb : Nat} {w : World} (n : Nat) : KR rb w (w.drewN n) := (KB.refl _ w).drewN n
set_option maxHeartbeats 400000 in
theorem fault_any (rb : Nat) (s : ByteArray) (a : Nat) (f : Int) (w : World) (h : RdB w rb s a f) :
    Calls Tryz.prog 46 #[.pointer (some ⟨rb, 0, none⟩)] w fun e w' => e = .returned (.int .i64 f) ∧ w = w' := by
  have c := h.c2
  clear h
  go_enter Tryz.func46, Tryz.ntmps46
  go_wp2
  go_ret
  exact ⟨rfl, rfl⟩
set_option maxHeartbeats 400000 in
theorem left_any (rb : Nat) (s : ByteArray) (a : Nat) (f : Int) (w : World) (h : RdB w rb s a f) :
    Calls Tryz.prog 93 #[.pointer (some ⟨rb, 0, none⟩)] w fun e w' => e = .returned (.int .i64 ((s.size : Int) - a)) ∧ ∃ n, w' = w.drewN n := by
  have c := h.c0
  have c1 := h.c1
  have h1 := h.2.1
  have h2 := h.2.2
  have hw : IntKind.i64.wrap ((s.size : Int) - a) = (s.size : Int) - a := IntWalk.i64_in _ (by omega)
  clear h
  go_enter Tryz.func93, Tryz.ntmps93
  go_wp2
  go_quiet (fail)
  go_wp2
  go_ret
  exact ⟨rfl, _, rfl⟩
set_option maxHeartbeats 400000 in
theorem spoilt_any (rb : Nat) (s : ByteArray) (a : Nat) (f f' : Int) (w : World) (h : RdB w rb s a f) :
    Calls Tryz.prog 85 #[.pointer (some ⟨rb, 0, none⟩), .int .i64 f'] w fun e w' => e = .returned (.int .i64 f') ∧ w' = w.setCell ⟨rb, 2, none⟩ (.int .i64 f') := by
  have c := h.c2
  have cf := h.fz 2
  clear h
  go_enter Tryz.func85, Tryz.ntmps85
  go_wp2
  go_ret
  exact ⟨rfl, rfl⟩
set_option maxHeartbeats 400000 in
theorem new_any (s : ByteArray) (w : World) (hs : s.size ≤ 140737488355328) :
    Calls Tryz.prog 42 #[.string s] w fun e w' => e = .returned (.pointer (some ⟨w.heap.size, 0, none⟩)) ∧ RdB w' w.heap.size s 0 0 ∧ Below w.heap.size w w' := by
  go_enter Tryz.func42, Tryz.ntmps42
  go_wp2
  go_ret
  exact ⟨rfl, ⟨heap_alloc_new w _, Nat.zero_le _, hs⟩, alloc_old w _⟩
set_option maxHeartbeats 1000000 in
theorem take_no (rb : Nat) (s : ByteArray) (a n : Nat) (f : Int) (w : World) (h : RdB w rb s a f) (hn : s.size - a < n) :
    Calls Tryz.prog 86 #[.pointer (some ⟨rb, 0, none⟩), .int .i64 n] w fun e w' => e = .returned (.tuple #[.string ⟨#[]⟩, .int .i64 6]) ∧ RdB w' rb s a 6 ∧ KR rb w w' := by
  have H := Lib.hid h
  have HC := Lib.hid (left_any rb s a f w h)
  have h1 := h.2.1
  have h2 := h.2.2
  have d : decide ((s.size : Int) - a < (n : Int)) = true := by simp; omega
  clear h
  go_enter Tryz.func86, Tryz.ntmps86
  go_wp2_with fail
  refine HC.out.mono ?_
  rintro e w1 ⟨rfl, q, rfl⟩
  have HD : Hid (RdB (w.drewN q) rb s a f) := H.out.congr rfl
  have HS := Lib.hid (spoilt_any rb s a f 6 (w.drewN q) HD.out)
  go_wp2_with fail
  refine HS.out.mono ?_
  rintro e w2 ⟨rfl, rfl⟩
  have HE := Lib.hid (HD.out.set2 6)
  have HK : Hid (KR rb w ((w.drewN q).setCell ⟨rb, 2, none⟩ (.int .i64 6))) := (KR.draw q).set 2 _
  clear HS HC
  go_wp2
  go_ret2
  exact ⟨rfl, HE.out, HK.out⟩
set_option maxHeartbeats 1000000 in
theorem take_yes (rb : Nat) (s : ByteArray) (a n : Nat) (f : Int) (w : World) (h : RdB w rb s a f) (hn : a + n ≤ s.size) :
    Calls Tryz.prog 86 #[.pointer (some ⟨rb, 0, none⟩), .int .i64 n] w fun e w' => e = .returned (.tuple #[.string (s.extract a (a + n)), .int .i64 0]) ∧ RdB w' rb s (a + n) f ∧ KR rb w w' := by
  have H := Lib.hid h
  have HC := Lib.hid (left_any rb s a f w h)
  have h1 := h.2.1
  have h2 := h.2.2
  have d : decide ((s.size : Int) - a < (n : Int)) = false := by simp; omega
  clear h
  go_enter Tryz.func86, Tryz.ntmps86
  go_wp2_with fail
  refine HC.out.mono ?_
  rintro e w1 ⟨rfl, q, rfl⟩
  have HD : Hid (RdB (w.drewN q) rb s a f) := H.out.congr rfl
  generalize hwd : w.drewN q = wd at HD ⊢
  have HKD : Hid (KR rb w wd) := by subst hwd; exact KR.draw q
  clear hwd HC H
  have c1 := HD.out.c1
  have f1 := HD.out.fz 1
  go_wp2
  have HE := Lib.hid (HD.out.set1 (a + n) hn)
  have HK : Hid (KR rb w (wd.setCell ⟨rb, 1, none⟩ (.int .i64 ((a + n : Nat) : Int)))) := HKD.out.set 1 _
  clear c1 f1
  rw [show (a : Int) + (n : Int) = ((a + n : Nat) : Int) by omega]
  generalize wd.setCell ⟨rb, 1, none⟩ (.int .i64 ((a + n : Nat) : Int)) = w2 at HE HK ⊢
  have c0 := HE.out.c0
  have c1 := HE.out.c1
  have ha : a ≤ a + n := by omega
  have ha' : (a : Int) ≤ ((a + n : Nat) : Int) := by omega
  have hm' : ((a + n : Nat) : Int) ≤ (s.size : Int) := by omega
  have hw : IntKind.i64.wrap (((a + n : Nat) : Int) - (n : Int)) = (a : Int) := by rw [show ((a + n : Nat) : Int) - (n : Int) = (a : Int) by omega]; exact IntWalk.i64_in _ (by omega)
  generalize hm : a + n = m at *
  have HM := Lib.hid hm; clear hm
  go_quiet (fail)
  rename_i nq
  have HE2 : Hid (RdB (w2.drewN nq) rb s m f) := HE.out.congr rfl
  have HK2 : Hid (KR rb w (w2.drewN nq)) := KB.drewN HK.out nq
  clear hw
  go_wp2
  go_ret2
  obtain rfl := HM.out
  exact ⟨rfl, HE2.out, HK2.out⟩
/-- what is left, as the reader has it -/
def stOf (s : ByteArray) (a : Nat) (f : Int) : RS := if f = 0 then some (s.data.toList.drop a) else none
def RdS (w : World) (rb : Nat) (s : ByteArray) (st : RS) : Prop := ∃ a f, RdB w rb s a f ∧ st = stOf s a f
theorem RdS.congr {w w' : World} {rb : Nat} {s : ByteArray} {st : RS} (h : RdS w rb s st) (k : w'.heap[rb]? = w.heap[rb]?) : RdS w' rb s st := by
  obtain ⟨a, f, h1, h2⟩ := h; exact ⟨a, f, h1.congr k, h2⟩
theorem RdS.lt {w : World} {rb : Nat} {s : ByteArray} {st : RS} (h : RdS w rb s st) : rb < w.heap.size := by obtain ⟨a, f, h1, -⟩ := h; exact h1.lt
theorem stOf_spoilt {s : ByteArray} {a : Nat} {f : Int} (h : f ≠ 0) : stOf s a f = none := by simp [stOf, h]
theorem stOf_ok {s : ByteArray} {a : Nat} : stOf s a 0 = some (s.data.toList.drop a) := by simp [stOf]
theorem extract_bs (s : ByteArray) (a n : Nat) : s.extract a (a + n) = bsOf ((s.data.toList.drop a).take n) := by
  apply ByteArray.ext
  apply Array.toList_inj.1
  rw [Lib.extract_data, bsOf_list, show a + n - a = n by omega]
/-- a take that goes well, or not -/
theorem rTake_stOf {s : ByteArray} {a n : Nat} (ha : a ≤ s.size) : rTake n (stOf s a 0) = if a + n ≤ s.size then ((s.data.toList.drop a).take n, stOf s (a + n) 0) else ([], none) := by
  rw [stOf_ok, rTake]
  have hl : (s.data.toList.drop a).length = s.size - a := by rw [List.length_drop, len_list]
  by_cases h : a + n ≤ s.size
  · rw [if_pos (by omega), if_pos h, stOf_ok, List.drop_drop]
  · rw [if_neg (by omega), if_neg h]
/-- a fault, and whether something is left -/
def ErrSt (c : Int) (st : RS) : Prop := (c = 0 ∧ st.isSome = true) ∨ (c ≠ 0 ∧ st = none)
def TkPost (rb n : Nat) (s : ByteArray) (st : RS) (w : World) (e : Ending) (w' : World) : Prop := ∃ c, e = .returned (.tuple #[.string (bsOf (rTake n st).1), .int .i64 c]) ∧ ErrSt c (rTake n st).2 ∧ RdS w' rb s (rTake n st).2 ∧ KR rb w w'
def NmPost (rb n : Nat) (s : ByteArray) (st : RS) (w : World) (e : Ending) (w' : World) : Prop := ∃ c, e = .returned (.tuple #[.int .u32 (rNum n st).1, .int .i64 c]) ∧ ErrSt c (rNum n st).2 ∧ RdS w' rb s (rNum n st).2 ∧ KR rb w w'
def TxPost (rb : Nat) (s : ByteArray) (st : RS) (w : World) (e : Ending) (w' : World) : Prop := ∃ c, e = .returned (.tuple #[.string (rText st).1, .int .i64 c]) ∧ ErrSt c (rText st).2 ∧ RdS w' rb s (rText st).2 ∧ KR rb w w'
set_option maxHeartbeats 1000000 in
theorem rdTake_any (rb n : Nat) (s : ByteArray) (st : RS) (w : World) (h : RdS w rb s st) :
    Calls Tryz.prog 43 #[.pointer (some ⟨rb, 0, none⟩), .int .i64 n] w (TkPost rb n s st w) := by
  obtain ⟨a, f, hb, rfl⟩ := h
  have HB := Lib.hid hb
  have HF := Lib.hid (fault_any rb s a f w hb)
  have d0 : decide ((n : Int) < 0) = false := by simp
  by_cases hf : f = 0
  · subst hf
    have HT := Lib.hid (rTake_stOf (n := n) hb.2.1)
    by_cases hn2 : a + n ≤ s.size
    · have HC := Lib.hid (take_yes rb s a n 0 w hb hn2)
      rw [if_pos hn2] at HT
      clear hb
      go_enter Tryz.func43, Tryz.ntmps43
      go_wp2_with fail
      refine HF.out.mono ?_
      rintro e w1 ⟨rfl, rfl⟩
      go_wp2_with fail
      refine HC.out.mono ?_
      rintro e w2 ⟨rfl, h1, h2⟩
      have H1 := Lib.hid h1; have H2 := Lib.hid h2
      clear h1 h2 HC HF
      go_wp2
      go_ret2
      unfold TkPost
      rw [HT.out]
      exact ⟨0, by rw [extract_bs s a n]; rfl, .inl ⟨rfl, by rw [stOf_ok]; rfl⟩, ⟨_, _, H1.out, rfl⟩, H2.out⟩
    · have HC := Lib.hid (take_no rb s a n 0 w hb (by have := hb.2.1; omega))
      rw [if_neg hn2] at HT
      clear hb
      go_enter Tryz.func43, Tryz.ntmps43
      go_wp2_with fail
      refine HF.out.mono ?_
      rintro e w1 ⟨rfl, rfl⟩
      go_wp2_with fail
      refine HC.out.mono ?_
      rintro e w2 ⟨rfl, h1, h2⟩
      have H1 := Lib.hid h1; have H2 := Lib.hid h2
      clear h1 h2 HC HF
      go_wp2
      go_ret2
      unfold TkPost
      rw [HT.out]
      exact ⟨6, rfl, .inr ⟨by omega, rfl⟩, ⟨_, _, H1.out, (stOf_spoilt (by omega)).symm⟩, H2.out⟩
  · have HT : Hid (rTake n (stOf s a f) = ([], none)) := by rw [Hid, stOf_spoilt hf]; rfl
    have bf : (f != 0) = true := by simpa using hf
    have HFN := Lib.hid hf
    clear hb hf
    go_enter Tryz.func43, Tryz.ntmps43
    go_wp2_with fail
    refine HF.out.mono ?_
    rintro e w1 ⟨rfl, rfl⟩
    clear HF
    go_wp2
    go_ret2
    unfold TkPost
    rw [HT.out]
    exact ⟨f, rfl, .inr ⟨HFN.out, rfl⟩, ⟨_, _, HB.out, (stOf_spoilt HFN.out).symm⟩, KB.refl _ _⟩
set_option maxHeartbeats 1000000 in
theorem num_yes (rb n : Nat) (s : ByteArray) (a : Nat) (w : World) (hb : RdB w rb s a 0) (h1 : 1 ≤ n) (h4 : n ≤ 4) (hn : a + n ≤ s.size) :
    Calls Tryz.prog 45 #[.pointer (some ⟨rb, 0, none⟩), .int .i64 n] w fun e w' => e = .returned (.tuple #[.int .u32 (leV ((s.data.toList.drop a).take n)), .int .i64 0]) ∧ RdB w' rb s (a + n) 0 ∧ KR rb w w' := by
  have HF := Lib.hid (fault_any rb s a 0 w hb)
  have HC := Lib.hid (take_yes rb s a n 0 w hb hn)
  have d1 : decide ((n : Int) < 1) = false := by simp; omega
  have d4 : decide ((4 : Int) < (n : Int)) = false := by simp; omega
  have d4' : decide (4 < n) = false := by simp; omega
  have HZ : Hid ((s.extract a (a + n)).size = n) := by rw [Hid, extract_bs, bsOf_size, List.length_take, List.length_drop, len_list]; omega
  have HD : Hid ((s.extract a (a + n)).data.toList = (s.data.toList.drop a).take n) := by rw [Hid, extract_bs, bsOf_list]
  clear hb
  go_enter Tryz.func45, Tryz.ntmps45
  go_wp2_with fail
  refine HF.out.mono ?_
  rintro e w1 ⟨rfl, rfl⟩
  go_wp2_with fail
  refine HC.out.mono ?_
  rintro e w2 ⟨rfl, h1, h2⟩
  have H1 := Lib.hid h1; have H2 := Lib.hid h2
  clear h1 h2 HC HF
  have HG := Lib.hid (wordGet_any (s.extract a (a + n)) w2 (by rw [HZ.out]; omega) (by rw [HZ.out]; omega))
  rw [HD.out] at HG
  go_wp2_with fail
  refine HG.out.mono ?_
  rintro e w3 ⟨rfl, rfl⟩
  clear HG
  go_wp2
  go_ret2
  exact ⟨rfl, H1.out, H2.out⟩
set_option maxHeartbeats 1000000 in
theorem num_no (rb n : Nat) (s : ByteArray) (a : Nat) (w : World) (hb : RdB w rb s a 0) (h1 : 1 ≤ n) (h4 : n ≤ 4) (hn : ¬ a + n ≤ s.size) :
    Calls Tryz.prog 45 #[.pointer (some ⟨rb, 0, none⟩), .int .i64 n] w fun e w' => e = .returned (.tuple #[.int .u32 0, .int .i64 6]) ∧ RdB w' rb s a 6 ∧ KR rb w w' := by
  have HF := Lib.hid (fault_any rb s a 0 w hb)
  have HC := Lib.hid (take_no rb s a n 0 w hb (by have := hb.2.1; omega))
  have d1 : decide ((n : Int) < 1) = false := by simp; omega
  have d4 : decide ((4 : Int) < (n : Int)) = false := by simp; omega
  have d4' : decide (4 < n) = false := by simp; omega
  clear hb
  go_enter Tryz.func45, Tryz.ntmps45
  go_wp2_with fail
  refine HF.out.mono ?_
  rintro e w1 ⟨rfl, rfl⟩
  go_wp2_with fail
  refine HC.out.mono ?_
  rintro e w2 ⟨rfl, h1, h2⟩
  have H1 := Lib.hid h1; have H2 := Lib.hid h2
  clear h1 h2 HC HF
  go_wp2
  go_ret2
  exact ⟨rfl, H1.out, H2.out⟩
set_option maxHeartbeats 1000000 in
theorem num_bad (rb n : Nat) (s : ByteArray) (a : Nat) (f : Int) (w : World) (hb : RdB w rb s a f) (hf : f ≠ 0) :
    Calls Tryz.prog 45 #[.pointer (some ⟨rb, 0, none⟩), .int .i64 n] w fun e w' => e = .returned (.tuple #[.int .u32 0, .int .i64 f]) ∧ w = w' := by
  have HF := Lib.hid (fault_any rb s a f w hb)
  have bf : (f != 0) = true := by simpa using hf
  clear hb hf
  go_enter Tryz.func45, Tryz.ntmps45
  go_wp2_with fail
  refine HF.out.mono ?_
  rintro e w1 ⟨rfl, rfl⟩
  clear HF
  go_wp2
  go_ret2
  exact ⟨rfl, rfl⟩
theorem rdNum_any (rb n : Nat) (s : ByteArray) (st : RS) (w : World) (h : RdS w rb s st) (h1 : 1 ≤ n) (h4 : n ≤ 4) :
    Calls Tryz.prog 45 #[.pointer (some ⟨rb, 0, none⟩), .int .i64 n] w (NmPost rb n s st w) := by
  obtain ⟨a, f, hb, rfl⟩ := h
  by_cases hf : f = 0
  · subst hf
    have HT := rTake_stOf (n := n) hb.2.1
    by_cases hn : a + n ≤ s.size
    · rw [if_pos hn] at HT
      refine (num_yes rb n s a w hb h1 h4 hn).mono ?_
      rintro e w' ⟨rfl, k1, k2⟩
      exact ⟨0, by rw [rNum, HT], by rw [rNum, HT]; exact .inl ⟨rfl, by rw [stOf_ok]; rfl⟩, ⟨_, _, k1, by rw [rNum, HT]⟩, k2⟩
    · rw [if_neg hn] at HT
      refine (num_no rb n s a w hb h1 h4 hn).mono ?_
      rintro e w' ⟨rfl, k1, k2⟩
      exact ⟨6, by rw [rNum, HT]; rfl, by rw [rNum, HT]; exact .inr ⟨by omega, rfl⟩, ⟨_, _, k1, by rw [rNum, HT, stOf_spoilt (by omega)]⟩, k2⟩
  · have HT : rTake n (stOf s a f) = ([], none) := by rw [stOf_spoilt hf]; rfl
    refine (num_bad rb n s a f w hb hf).mono ?_
    rintro e w' ⟨rfl, rfl⟩
    exact ⟨f, by rw [rNum, HT]; rfl, by rw [rNum, HT]; exact .inr ⟨hf, rfl⟩, ⟨_, _, hb, by rw [rNum, HT, stOf_spoilt hf]⟩, KB.refl _ _⟩
set_option maxHeartbeats 2000000 in
theorem rdText_any (rb : Nat) (s : ByteArray) (st : RS) (w : World) (h : RdS w rb s st) :
    Calls Tryz.prog 44 #[.pointer (some ⟨rb, 0, none⟩)] w (TxPost rb s st w) := by
  obtain ⟨a, f, hb, rfl⟩ := h
  have HB := Lib.hid hb
  by_cases hf : f = 0
  · subst hf
    have ha := hb.2.1
    have hz := hb.2.2
    have HT := Lib.hid (rTake_stOf (n := 2) ha)
    by_cases hn : a + 2 ≤ s.size
    · have HN := Lib.hid (num_yes rb 2 s a w hb (by omega) (by omega) hn)
      rw [if_pos hn] at HT
      have HV := Lib.hid (leV_bd ((s.data.toList.drop a).take 2))
      have HL : Hid (((s.data.toList.drop a).take 2).length = 2) := by rw [Hid, List.length_take, List.length_drop, len_list]; omega
      have HX : Hid (rText (stOf s a 0) = (bsOf (rTake (leV ((s.data.toList.drop a).take 2)).toNat (stOf s (a + 2) 0)).1, (rTake (leV ((s.data.toList.drop a).take 2)).toNat (stOf s (a + 2) 0)).2)) := by
        unfold rText rNum; rw [Hid, HT.out]
      rw [HL.out, p2] at HV
      generalize leV ((s.data.toList.drop a).take 2) = lv at HN HV HX
      obtain ⟨hv0, hv1⟩ := HV.out
      obtain ⟨m, rfl⟩ := Int.eq_ofNat_of_zero_le hv0
      rw [Int.toNat_natCast] at HX
      have HT2 := Lib.hid (rTake_stOf (s := s) (a := a + 2) (n := m) hn)
      clear hb HT
      by_cases hm : a + 2 + m ≤ s.size
      · rw [if_pos hm] at HT2
        go_enter Tryz.func44, Tryz.ntmps44
        go_wp2_with fail
        refine HN.out.mono ?_
        rintro e w1 ⟨rfl, k1, k2⟩
        have HC := Lib.hid (take_yes rb s (a + 2) m 0 w1 k1 hm)
        have K2 := Lib.hid k2
        clear k1 k2 HN
        go_wp2_with fail
        refine HC.out.mono ?_
        rintro e w2 ⟨rfl, k3, k4⟩
        have K3 := Lib.hid k3; have K4 := Lib.hid k4
        clear k3 k4 HC
        go_wp2
        go_ret2
        unfold TxPost
        rw [HX.out, HT2.out]
        exact ⟨0, by rw [extract_bs]; rfl, .inl ⟨rfl, by simp only [stOf_ok]; rfl⟩, ⟨_, _, K3.out, rfl⟩, K2.out.trans K4.out⟩
      · rw [if_neg hm] at HT2
        go_enter Tryz.func44, Tryz.ntmps44
        go_wp2_with fail
        refine HN.out.mono ?_
        rintro e w1 ⟨rfl, k1, k2⟩
        have HC := Lib.hid (take_no rb s (a + 2) m 0 w1 k1 (by omega))
        have K2 := Lib.hid k2
        clear k1 k2 HN
        go_wp2_with fail
        refine HC.out.mono ?_
        rintro e w2 ⟨rfl, k3, k4⟩
        have K3 := Lib.hid k3; have K4 := Lib.hid k4
        have c1 := k3.c1
        have cf := k3.fz 1
        clear k3 k4 HC
        have hs1 : (a : Int) + 2 - 2 = (a : Int) := by omega
        go_wp2
        have HE := Lib.hid (K3.out.set1 a ha)
        clear c1 cf hs1
        go_ret2
        unfold TxPost
        rw [HX.out, HT2.out]
        exact ⟨6, rfl, .inr ⟨by omega, rfl⟩, ⟨_, _, HE.out, (stOf_spoilt (by omega)).symm⟩, KR.set (K2.out.trans K4.out) 1 _⟩
    · have HN := Lib.hid (num_no rb 2 s a w hb (by omega) (by omega) hn)
      rw [if_neg hn] at HT
      have HX : Hid (rText (stOf s a 0) = (bsOf [], none)) := by unfold rText rNum; rw [Hid, HT.out]; rfl
      clear hb HT
      go_enter Tryz.func44, Tryz.ntmps44
      go_wp2_with fail
      refine HN.out.mono ?_
      rintro e w1 ⟨rfl, k1, k2⟩
      have K1 := Lib.hid k1; have K2 := Lib.hid k2
      clear k1 k2 HN
      go_wp2
      go_ret2
      unfold TxPost
      rw [HX.out]
      exact ⟨6, rfl, .inr ⟨by omega, rfl⟩, ⟨_, _, K1.out, (stOf_spoilt (by omega)).symm⟩, K2.out⟩
  · have HN := Lib.hid (num_bad rb 2 s a f w hb hf)
    have HX : Hid (rText (stOf s a f) = (bsOf [], none)) := by rw [Hid, stOf_spoilt hf]; rfl
    have bf : (f != 0) = true := by simpa using hf
    have HFN := Lib.hid hf
    clear hb hf
    go_enter Tryz.func44, Tryz.ntmps44
    go_wp2_with fail
    refine HN.out.mono ?_
    rintro e w1 ⟨rfl, rfl⟩
    clear HN
    go_wp2
    go_ret2
    unfold TxPost
    rw [HX.out]
    exact ⟨f, rfl, .inr ⟨HFN.out, rfl⟩, ⟨_, _, HB.out, (stOf_spoilt HFN.out).symm⟩, KB.refl _ _⟩
def EdPost (rb : Nat) (st : RS) (w : World) (e : Ending) (w' : World) : Prop := ∃ c : Int, e = .returned (.int .i64 c) ∧ (c = 0 ↔ st = some []) ∧ KR rb w w'
set_option maxHeartbeats 1000000 in
theorem rdEnd_any (rb : Nat) (s : ByteArray) (st : RS) (w : World) (h : RdS w rb s st) :
    Calls Tryz.prog 48 #[.pointer (some ⟨rb, 0, none⟩)] w (EdPost rb st w) := by
  obtain ⟨a, f, hb, rfl⟩ := h
  have HB := Lib.hid hb
  have HF := Lib.hid (fault_any rb s a f w hb)
  by_cases hf : f = 0
  · subst hf
    have HL := Lib.hid (left_any rb s a 0 w hb)
    have ha := hb.2.1
    have hz := hb.2.2
    by_cases hl : a = s.size
    · have HE : Hid (stOf s a 0 = some []) := by rw [Hid, stOf_ok, List.drop_of_length_le (by rw [len_list]; omega)]
      have d : decide ((0 : Int) < (s.size : Int) - a) = false := by simp; omega
      have d' : decide (a < s.size) = false := by simp; omega
      clear hb hl
      go_enter Tryz.func48, Tryz.ntmps48
      go_wp2_with fail
      refine HF.out.mono ?_
      rintro e w1 ⟨rfl, rfl⟩
      go_wp2_with fail
      refine HL.out.mono ?_
      rintro e w2 ⟨rfl, q, rfl⟩
      clear HF HL
      go_wp2
      go_ret
      exact ⟨0, rfl, ⟨fun _ => HE.out, fun _ => rfl⟩, KR.draw q⟩
    · have HE : Hid (stOf s a 0 ≠ some []) := by
        rw [Hid, stOf_ok]; intro he
        have := congrArg List.length (Option.some.inj he)
        rw [List.length_drop, len_list] at this
        simp at this; omega
      have d : decide ((0 : Int) < (s.size : Int) - a) = true := by simp; omega
      have d' : decide (a < s.size) = true := by simp; omega
      clear hb hl
      go_enter Tryz.func48, Tryz.ntmps48
      go_wp2_with fail
      refine HF.out.mono ?_
      rintro e w1 ⟨rfl, rfl⟩
      go_wp2_with fail
      refine HL.out.mono ?_
      rintro e w2 ⟨rfl, q, rfl⟩
      have HD : Hid (RdB (w.drewN q) rb s a 0) := HB.out.congr rfl
      have HS := Lib.hid (spoilt_any rb s a 0 7 (w.drewN q) HD.out)
      clear HF HL
      go_wp2_with fail
      refine HS.out.mono ?_
      rintro e w3 ⟨rfl, rfl⟩
      clear HS
      go_wp2
      go_ret
      exact ⟨7, rfl, ⟨fun h => (by omega), fun h => absurd h HE.out⟩, (KR.draw q).set 2 _⟩
  · have HE : Hid (stOf s a f ≠ some []) := by rw [Hid, stOf_spoilt hf]; simp
    have bf : (f != 0) = true := by simpa using hf
    have HFN := Lib.hid hf
    clear hb hf
    go_enter Tryz.func48, Tryz.ntmps48
    go_wp2_with fail
    refine HF.out.mono ?_
    rintro e w1 ⟨rfl, rfl⟩
    clear HF
    go_wp2
    go_ret
    exact ⟨f, rfl, ⟨fun h => absurd h HFN.out, fun h => absurd h HE.out⟩, KB.refl _ _⟩
end Go.Proofs.YtboegjdkedjhcaaGreatDoor
namespace Go.Proofs.YtboegjdkedjhcaaGreatDoor
open Go.RowKit
def RNPost (rb n : Nat) (s : ByteArray) (st : RS) (w : World) (e : Ending) (w' : World) : Prop := e = .returned (.int .u32 (rNum n st).1) ∧ RdS w' rb s (rNum n st).2 ∧ KR rb w w'
def RWPost (rb : Nat) (s : ByteArray) (st : RS) (w : World) (e : Ending) (w' : World) : Prop := e = .returned (.string (rText st).1) ∧ RdS w' rb s (rText st).2 ∧ KR rb w w'
set_option maxHeartbeats 400000 in
theorem readNum_any (rb n : Nat) (s : ByteArray) (st : RS) (w : World) (h : RdS w rb s st) (h1 : 1 ≤ n) (h4 : n ≤ 4) :
    Calls Tryz.prog 90 #[.agg #[.pointer (some ⟨rb, 0, none⟩)], .int .i64 n] w (RNPost rb n s st w) := by
  have hlt := h.lt
  have HC := Lib.hid (rdNum_any rb n s st (w.alloc (.cells #[.pointer (some ⟨rb, 0, none⟩)] 166)) (h.congr (Below.heap_alloc _ _ _ hlt)) h1 h4)
  clear h
  go_enter Tryz.func90, Tryz.ntmps90
  go_wp2_with fail
  refine HC.out.mono ?_
  rintro e w1 ⟨c, rfl, -, k1, k2⟩
  have K1 := Lib.hid k1; have K2 := Lib.hid k2
  clear k1 k2 HC
  go_wp2
  go_ret
  exact ⟨rfl, K1.out, (KB.of_below (alloc_old w _)).trans K2.out⟩
theorem readNum1 (rb : Nat) (s : ByteArray) (st : RS) (w : World) (h : RdS w rb s st) : Calls Tryz.prog 90 #[.agg #[.pointer (some ⟨rb, 0, none⟩)], .int .i64 1] w (RNPost rb 1 s st w) := readNum_any rb 1 s st w h (by omega) (by omega)
theorem readNum2 (rb : Nat) (s : ByteArray) (st : RS) (w : World) (h : RdS w rb s st) : Calls Tryz.prog 90 #[.agg #[.pointer (some ⟨rb, 0, none⟩)], .int .i64 2] w (RNPost rb 2 s st w) := readNum_any rb 2 s st w h (by omega) (by omega)
theorem readNum4 (rb : Nat) (s : ByteArray) (st : RS) (w : World) (h : RdS w rb s st) : Calls Tryz.prog 90 #[.agg #[.pointer (some ⟨rb, 0, none⟩)], .int .i64 4] w (RNPost rb 4 s st w) := readNum_any rb 4 s st w h (by omega) (by omega)
set_option maxHeartbeats 400000 in
theorem readWord_any (rb : Nat) (s : ByteArray) (st : RS) (w : World) (h : RdS w rb s st) :
    Calls Tryz.prog 88 #[.agg #[.pointer (some ⟨rb, 0, none⟩)]] w (RWPost rb s st w) := by
  have hlt := h.lt
  have HC := Lib.hid (rdText_any rb s st (w.alloc (.cells #[.pointer (some ⟨rb, 0, none⟩)] 166)) (h.congr (Below.heap_alloc _ _ _ hlt)))
  clear h
  go_enter Tryz.func88, Tryz.ntmps88
  go_wp2_with fail
  refine HC.out.mono ?_
  rintro e w1 ⟨c, rfl, -, k1, k2⟩
  have K1 := Lib.hid k1; have K2 := Lib.hid k2
  clear k1 k2 HC
  go_wp2
  go_ret
  exact ⟨rfl, K1.out, (KB.of_below (alloc_old w _)).trans K2.out⟩
/-- what a symbol's reading keeps: the reading's boxes (Q), the symbol's box, its two rows (all in blocks below R), the reader -/
structure SymSt (R : Nat) (Q : Nat → Prop) (sb rb : Nat) (s : ByteArray) (st : RS) (y : GSym) (w0 w : World) : Prop where
  q : ∀ g, Q g → w.heap[g]? = some (.cells #[.pointer (some ⟨rb, 0, none⟩)] 166 (0, 0)) ∧ w0.heap.size ≤ g ∧ g < R
  y : ∃ vr vn, w.heap[sb]? = some (.cells #[.string y.name, .int .u8 y.bind, .int .u8 y.kind, .int .u32 y.size, .string y.bytes, vr, vn] 55 (0, 0)) ∧
    w.ownsRow w0.heap.size 133 4 vr y.rels.length (y.rels.flatMap relCells) ∧ w.ownsRow w0.heap.size 155 3 vn y.notes.length (y.notes.flatMap noteCells) ∧
    (∀ g, vr.ownBlock = some g → g < R) ∧ (∀ g, vn.ownBlock = some g → g < R)
  rd : RdS w rb s st
  kb : KR rb w0 w
  rlt : rb < w0.heap.size
  sle : w0.heap.size ≤ sb
  slt : sb < R
  rle : R ≤ w.heap.size
/-- blocks from R on, and the reader's, may change -/
abbrev KRR (R rb : Nat) (w w' : World) : Prop := KB (fun g => g = rb ∨ R ≤ g) w w'
theorem KRR.of_kr {R rb : Nat} {w w' : World} (h : KR rb w w') : KRR R rb w w' := ⟨h.os, h.tape, h.output, h.size, fun k hk hs => h.block k hk fun e => hs (.inl e)⟩
theorem SymSt.read {R : Nat} {Q : Nat → Prop} {sb rb : Nat} {s : ByteArray} {st st' : RS} {y : GSym} {w0 w w' : World} (h : SymSt R Q sb rb s st y w0 w) (hr : RdS w' rb s st') (k : KRR R rb w w') : SymSt R Q sb rb s st' y w0 w' := by
  obtain ⟨vr, vn, h1, h2, h3, h4, h5⟩ := h.y
  have r1 := h.rlt; have r3 := h.sle; have r5 := h.slt; have r6 := h.rle
  have hk : ∀ g, g < R → g ≠ rb → w'.heap[g]? = w.heap[g]? := fun g hg hn => k.block g (by omega) (by rintro (e | e); exact hn e; omega)
  refine ⟨fun g hg => by obtain ⟨q1, q2, q3⟩ := h.q g hg; exact ⟨by rw [hk g q3 (by omega)]; exact q1, q2, q3⟩, ⟨vr, vn, by rw [hk sb r5 (by omega)]; exact h1, own_congr h2 fun g hg => hk g (h4 g hg) (by have := (h2.lt g hg).1; omega), own_congr h3 fun g hg => hk g (h5 g hg) (by have := (h3.lt g hg).1; omega), h4, h5⟩, hr, ?_, r1, r3, r5, Nat.le_trans r6 k.size⟩
  exact ⟨k.os.trans h.kb.os, k.tape.trans h.kb.tape, k.output.trans h.kb.output, Nat.le_trans h.kb.size k.size, fun g hg hn => (hk g (by omega) hn).trans (h.kb.block g hg hn)⟩
/-- behind what leaves the reader alone -/
theorem SymSt.still {R : Nat} {Q : Nat → Prop} {sb rb : Nat} {s : ByteArray} {st : RS} {y : GSym} {w0 w w' : World} (h : SymSt R Q sb rb s st y w0 w) (k : KB (fun g => R ≤ g) w w') : SymSt R Q sb rb s st y w0 w' :=
  h.read (h.rd.congr (k.block rb h.rd.lt (by have := h.rlt; have := h.sle; have := h.slt; omega))) ⟨k.os, k.tape, k.output, k.size, fun g hg hs => k.block g hg fun e => hs (.inr e)⟩
theorem SymSt.keep {R : Nat} {Q : Nat → Prop} {sb rb : Nat} {s : ByteArray} {st : RS} {y : GSym} {w0 w w' : World} (h : SymSt R Q sb rb s st y w0 w) (k : Below w.heap.size w w') : SymSt R Q sb rb s st y w0 w' := h.still (KB.of_below k)
theorem SymSt.fresh {R : Nat} {Q : Nat → Prop} {sb rb : Nat} {s : ByteArray} {st : RS} {y : GSym} {w0 w : World} (h : SymSt R Q sb rb s st y w0 w) : SymSt w.heap.size Q sb rb s st y w0 w := by
  obtain ⟨vr, vn, h1, h2, h3, h4, h5⟩ := h.y
  have := h.rle
  exact ⟨fun g hg => by obtain ⟨q1, q2, q3⟩ := h.q g hg; exact ⟨q1, q2, by omega⟩, ⟨vr, vn, h1, h2, h3, fun g hg => (h2.lt g hg).2, fun g hg => (h3.lt g hg).2⟩, h.rd, h.kb, h.rlt, h.sle, by have := h.slt; omega, Nat.le_refl _⟩
theorem SymSt.c {R : Nat} {Q : Nat → Prop} {sb rb : Nat} {s : ByteArray} {st : RS} {y : GSym} {w0 w : World} (h : SymSt R Q sb rb s st y w0 w) {qb : Nat} (hq : Q qb) : w.cell? ⟨qb, 0, none⟩ = some (.pointer (some ⟨rb, 0, none⟩)) := Lib.cell_of_heap (h.q qb hq).1 0
end Go.Proofs.YtboegjdkedjhcaaGreatDoor
namespace Go.Proofs.YtboegjdkedjhcaaGreatDoor
open Go.RowKit
theorem owns_setCell {w : World} {base : Nat} {e : TypeId} {k : Nat} {v : Value} {n : Nat} {xs : List Value} (h : w.ownsRow base e k v n xs) {a : Addr} (ha : a.block < base) (u : Value) : (w.setCell a u).ownsRow base e k v n xs := by
  refine ⟨h.1, ?_⟩
  rcases h.2 with hn | ⟨g, cap, cur, rfl, hb, hg, rest⟩
  · exact .inl hn
  · exact .inr ⟨g, cap, cur, rfl, hb, by rw [Below.heap_setCell w a u g (by omega)]; exact hg, rest⟩
theorem owns_mono {w : World} {base base' : Nat} {e : TypeId} {k : Nat} {v : Value} {n : Nat} {xs : List Value} (h : w.ownsRow base e k v n xs) (hb : base' ≤ base) : w.ownsRow base' e k v n xs := by
  refine ⟨h.1, ?_⟩
  rcases h.2 with hn | ⟨g, cap, cur, rfl, hg, rest⟩
  · exact .inl hn
  · exact .inr ⟨g, cap, cur, rfl, by omega, rest⟩
theorem own_away {w w' : World} {base base' : Nat} {e e' : TypeId} {k k' : Nat} {v v' : Value} {n n' : Nat} {xs xs' : List Value} (h : w.ownsRow base e k v n xs) (h' : w'.ownsRow base' e' k' v' n' xs') (hb : w'.heap.size ≤ base) : v.ownBlock = none ∨ v.ownBlock ≠ v'.ownBlock := by
  cases hv : v.ownBlock with
  | none => exact .inl rfl
  | some g =>
    refine .inr fun h1 => ?_
    have h2 := (h.lt g hv).1
    have h3 := (h'.lt g h1.symm).2
    omega
theorem own_shape {w : World} {base : Nat} {e : TypeId} {k : Nat} {v : Value} {n : Nat} {xs : List Value} (h : w.ownsRow base e k v n xs) : ∃ p c, v = .slice p n c := by
  rcases h.2 with ⟨rfl, rfl⟩ | ⟨g, cap, cur, rfl, -⟩
  · exact ⟨_, _, rfl⟩
  · exact ⟨_, _, rfl⟩
theorem own_type {w : World} {B : Nat} {e : TypeId} {k n : Nat} {v : Value} {xs : List Value} (h : w.ownsRow B e k v n xs) {g : Nat} (hg : v.ownBlock = some g) : ∃ cur, w.heap[g]? = some (.cells cur e (0, 0)) := by
  rcases h.2 with ⟨rfl, -⟩ | ⟨g', cap, cur, rfl, -, h1, -⟩
  · cases hg
  · cases hg; exact ⟨cur, h1⟩
theorem own_ne {w : World} {B B' : Nat} {e e' : TypeId} {k k' n n' : Nat} {v v' : Value} {xs xs' : List Value} (h : w.ownsRow B e k v n xs) (h' : w.ownsRow B' e' k' v' n' xs') (hne : e ≠ e') {g : Nat} (hg : v.ownBlock = some g) (hg' : v'.ownBlock = some g) : False := by
  obtain ⟨cur, h1⟩ := own_type h hg
  obtain ⟨cur', h2⟩ := own_type h' hg'
  rw [h1] at h2
  injection h2 with h2; injection h2 with _ h3 _; exact hne h3
theorem own_ne_box {w : World} {B : Nat} {e t : TypeId} {k n g : Nat} {v : Value} {xs : List Value} {cs : Array Value} (h : w.ownsRow B e k v n xs) (hb : w.heap[g]? = some (.cells cs t (0, 0))) (hne : e ≠ t) : v.ownBlock ≠ some g := fun hg => by
  obtain ⟨cur, h1⟩ := own_type h hg
  rw [h1] at hb
  injection hb with h2; injection h2 with _ h3 _; exact hne h3
end Go.Proofs.YtboegjdkedjhcaaGreatDoor
namespace Go.Proofs.YtboegjdkedjhcaaGreatDoor
open Go.RowKit Go.Maps Go.WideMaps
/-- a copied symbol: its two rows are its own, and lie apart from the row r -/
def SymOwn (base : Nat) (w : World) (r : Value) (t : SymT) : Prop :=
  w.ownsRow base 133 4 t.2.1 t.1.rels.length (t.1.rels.flatMap relCells) ∧ w.ownsRow base 155 3 t.2.2 t.1.notes.length (t.1.notes.flatMap noteCells) ∧
  (t.2.1.ownBlock = none ∨ t.2.1.ownBlock ≠ r.ownBlock) ∧ (t.2.2.ownBlock = none ∨ t.2.2.ownBlock ≠ r.ownBlock)
theorem SymOwn.keep {base : Nat} {w w' : World} {r : Value} {t : SymT} (hb : Below w.heap.size w w') (h : SymOwn base w r t) : SymOwn base w' r t := ⟨ownsRow_below hb h.1, ownsRow_below hb h.2.1, h.2.2⟩
theorem SymOwn.grown {base : Nat} {w w' : World} {r r' : Value} {t : SymT} (h : SymOwn base w r t) (hg : w.grownBy w' r.ownBlock) (hr : r'.ownBlock = r.ownBlock ∨ r'.ownBlock = some w.heap.size) : SymOwn base w' r' t := by
  obtain ⟨h1, h2, h3, h4⟩ := h
  refine ⟨h1.kept hg h3, h2.kept hg h4, ?_, ?_⟩
  · rcases hr with hr | hr
    · rw [hr]; exact h3
    · by_cases h5 : t.2.1.ownBlock = none
      · exact .inl h5
      · obtain ⟨k, hk⟩ := Option.ne_none_iff_exists'.1 h5
        have := (h1.lt k hk).2
        refine .inr ?_
        rw [hr, hk]; intro h; cases h; omega
  · rcases hr with hr | hr
    · rw [hr]; exact h4
    · by_cases h5 : t.2.2.ownBlock = none
      · exact .inl h5
      · obtain ⟨k, hk⟩ := Option.ne_none_iff_exists'.1 h5
        have := (h2.lt k hk).2
        refine .inr ?_
        rw [hr, hk]; intro h; cases h; omega
theorem info_rel : (Tryz.prog.info? 133).map (fun i => (i.zero, i.size, i.bytes)) = some (some (.agg #[.int .u32 0, .int .u8 0, .string ⟨#[]⟩, .int .u32 0]), 4, 32) := by kernel_rfl
theorem info_note : (Tryz.prog.info? 155).map (fun i => (i.zero, i.size, i.bytes)) = some (some (.agg #[.int .u8 0, .int .u32 0, .int .u32 0]), 3, 12) := by kernel_rfl
theorem info_sym : (Tryz.prog.info? 55).map (fun i => (i.zero, i.size, i.bytes)) = some (some (.agg #[.string ⟨#[]⟩, .int .u8 0, .int .u8 0, .int .u32 0, .string ⟨#[]⟩, .slice none 0 0, .slice none 0 0]), 7, 88) := by kernel_rfl
theorem info_obj : (Tryz.prog.info? 50).map (fun i => (i.zero, i.size, i.bytes)) = some (some (.agg #[.string ⟨#[]⟩, .slice none 0 0]), 2, 40) := by kernel_rfl
theorem seven_news {w : World} {g : Nat} {t : SymT} (h : ∀ j u, j < 7 → (symCells t)[j]? = some u → w.cell? ⟨g, j, none⟩ = some u) : ∀ j u, (symCells t)[j]? = some u → w.cell? ((⟨g, 0, none⟩ : Addr).add j) = some u := by
  intro j u hu
  have hj : j < 7 := (List.getElem?_eq_some_iff.1 hu).1
  rw [add_at, Nat.zero_add]
  exact h j u hj hu
theorem seven_one {t : SymT} {p1 p2 : Option Addr} {n1 c1 n2 c2 : Nat} (h1 : t.2.1 = .slice p1 n1 c1) (h2 : t.2.2 = .slice p2 n2 c2) : ∀ u ∈ symCells t, u.oneCell' = true := by
  intro u hu
  simp only [symCells, List.mem_cons, List.not_mem_nil, or_false, h1, h2] at hu
  rcases hu with rfl | rfl | rfl | rfl | rfl | rfl | rfl <;> rfl
def CopyPost (w : World) (x : GObj) (e : Ending) (w' : World) : Prop := ∃ (vs : Value) (ts : List SymT), e = .returned (.agg #[.string x.name, vs]) ∧ ts.map (·.1) = x.syms ∧ w'.ownsRow w.heap.size 55 7 vs ts.length (ts.flatMap symCells) ∧ (∀ t ∈ ts, SymOwn w.heap.size w' vs t) ∧ Below w.heap.size w w'
set_option maxRecDepth 100000 in
set_option maxHeartbeats 2000000 in
theorem copy_any (x : GObj) (vs : Value) (w : World) (h : ObjIn w x vs) (hbd : ObjBd x) :
    Calls Tryz.prog 74 #[.agg #[.string x.name, vs]] w (CopyPost w x) := by
  obtain ⟨xn, xs⟩ := x
  obtain ⟨⟨p, cap, b, o, rfl, hcap, hmax, hp, hc⟩, hnm⟩ := h
  obtain ⟨hb1, hb2⟩ := hbd
  simp only [] at *
  have HP := Lib.hid hp; clear hp
  have HC := Lib.hid hc; clear hc
  have HBD := Lib.hid hb2; clear hb2
  obtain ⟨iR, r0, r1, r2, r3⟩ := info_parts info_rel
  obtain ⟨iN, n0, n1, n2, n3⟩ := info_parts info_note
  obtain ⟨iS, s0, s1, s2, s3⟩ := info_parts info_sym
  have HR := Lib.hid (And.intro r0 (And.intro r1 (And.intro r2 r3)))
  have HN := Lib.hid (And.intro n0 (And.intro n1 (And.intro n2 n3)))
  have HS := Lib.hid (And.intro s0 (And.intro s1 (And.intro s2 s3)))
  clear r0 r1 r2 r3 n0 n1 n2 n3 s0 s1 s2 s3
  go_enter Tryz.func74, Tryz.ntmps74
  go_wp2
  generalize hW0 : (w.alloc (.cells #[.string xn, .slice p xs.length cap] 50)).alloc (.cells #[.string ⟨#[]⟩, .slice none 0 0] 50) = w0
  have HB0 : Hid (Below w.heap.size w w0) := by subst hW0; exact (alloc_old w _).alloc (by simp) _
  have hs0 : w.heap.size + 1 < w0.heap.size := by subst hW0; simp
  have HA0 : Hid (w0.cell? ⟨w.heap.size, 0, none⟩ = some (.string xn)) := by subst hW0; simp [Hid, go_sem]
  have HA1 : Hid (w0.cell? ⟨w.heap.size, 1, none⟩ = some (.slice p xs.length cap)) := by subst hW0; simp [Hid, go_sem]
  have HA2 : Hid (w0.cell? ⟨w.heap.size + 1, 0, none⟩ = some (.string ⟨#[]⟩)) := by subst hW0; simp [Hid, go_sem]
  have HA3 : Hid (w0.cell? ⟨w.heap.size + 1, 1, none⟩ = some (.slice none 0 0)) := by subst hW0; simp [Hid, go_sem]
  have HF1 : Hid (w0.frozen? ⟨w.heap.size, 1, none⟩ = false) := by subst hW0; simp [Hid, go_sem]
  have HF2 : Hid (w0.frozen? ⟨w.heap.size + 1, 0, none⟩ = false) := by subst hW0; simp [Hid, go_sem]
  have HF3 : Hid (w0.frozen? ⟨w.heap.size + 1, 1, none⟩ = false) := by subst hW0; simp [Hid, go_sem]
  clear hW0
  go_loopw [3, 4] (fun v3 v4 wr => ∃ (i : Nat) (ts : List SymT), i ≤ xs.length ∧ v4 = .int .i64 i ∧ ts.length = i ∧ ts.map (·.1) = xs.take i ∧ wr.ownsRow w0.heap.size 55 7 v3 i (ts.flatMap symCells) ∧ (∀ t ∈ ts, SymOwn w0.heap.size wr v3 t) ∧ Below w0.heap.size w0 wr) (fun _ v4 _ => xs.length - (intOf v4).toNat)
  case atStart => exact ⟨0, [], Nat.zero_le _, rfl, rfl, rfl, World.ownsRow_nil _ _ _ _, fun t ht => (by cases ht), Below.refl _ _⟩
  case round =>
    obtain ⟨i, ts, hi, rfl, htl, htm, hown, hsy, hbel⟩ := hrel
    have HTM := Lib.hid htm; clear htm
    have HOWN := Lib.hid hown; clear hown
    have HSY := Lib.hid hsy; clear hsy
    have HB := Lib.hid hbel; clear hbel
    have HBW : Hid (Below w.heap.size w wr) := HB0.out.trans (HB.out.mono HB0.out.size)
    have a0 := cell_keep HB.out (by omega) HA0.out
    have a1 := cell_keep HB.out (by omega) HA1.out
    have z1 : w.heap.size + 1 < wr.heap.size := size_keep HB.out hs0
    have z0 : w.heap.size < wr.heap.size := by omega
    by_cases hlt : i < xs.length
    · obtain rfl := HP.out (by omega)
      obtain ⟨vr, vn, g0, g1, g2, g3, g4, g5, g6, g7, hin⟩ := symR_keeps _ _ _ _ _ HBW.out (HC.out i hlt)
      obtain ⟨p1, q1, p2, q2, rfl, rfl⟩ := hin.shape
      generalize hy : xs[i] = y at g1 g2 g3 g4 g5 g6 g7 hin
      obtain ⟨yn, yb, yk, ys, yy, yr, yt⟩ := y
      simp only [] at g1 g2 g3 g4 g5 g6 g7 hin
      have HY := Lib.hid hy; clear hy
      have HIN := Lib.hid hin; clear hin
      obtain ⟨⟨_, _, bR, oR, eR, _, mR, pR, cR⟩, ⟨_, _, bN, oN, eN, _, mN, pN, cN⟩, hrest⟩ := HIN.out
      cases eR
      cases eN
      have hbb := HBD.out _ (List.getElem_mem hlt)
      rw [HY.out] at hbb
      obtain ⟨bb1, bb2⟩ := hbb
      simp only [] at bb1 bb2 mR mN pR pN cR cN
      have PR := Lib.hid pR; clear pR
      have PN := Lib.hid pN; clear pN
      have CR := Lib.hid cR; clear cR
      have CN := Lib.hid cN; clear cN
      have HRS := Lib.hid hrest; clear hrest
      go_wp2_with (at_builtin; refine wpList_copy rfl _ _ 52 rfl 133 iR _ 4 32 Tryz.underlying52 HR.out.1 HR.out.2.1 HR.out.2.2.1 HR.out.2.2.2 rfl (by decide) rfl p1 yr.length q1 bR oR (yr.flatMap relCells) rfl PR.out (flat_len relCells_len yr) ?c2 relCells_one mR (by omega) ?_)
      case c2 =>
        intro _ j u hu
        have h1 := rel_news (fun k hk => relR_keeps _ _ _ _ _ (alloc_old wr (.cells #[.string yn, .int .u8 yb, .int .u8 yk, .int .u32 ys, .string yy, .slice p1 yr.length q1, .slice p2 yt.length q2] 55)) (CR.out k hk)) j u hu
        rwa [add_at] at h1
      intro vR wR hoR hgR
      obtain ⟨pr, cr, rfl⟩ := own_shape hoR
      have HOR := Lib.hid hoR; clear hoR
      have HBR : Hid (Below (wr.heap.size + 1) (wr.alloc (.cells #[.string yn, .int .u8 yb, .int .u8 yk, .int .u32 ys, .string yy, .slice p1 yr.length q1, .slice p2 yt.length q2] 55)) wR) := (Below.refl _ _).grown hgR (by simp) (fun k hk => by cases hk)
      clear hgR
      have k0 : wR.cell? ⟨wr.heap.size, 0, none⟩ = some (.string yn) := by rw [HBR.out.cell (by simp)]; simp [go_sem]
      have k1 : wR.cell? ⟨wr.heap.size, 1, none⟩ = some (.int .u8 yb) := by rw [HBR.out.cell (by simp)]; simp [go_sem]
      have k2 : wR.cell? ⟨wr.heap.size, 2, none⟩ = some (.int .u8 yk) := by rw [HBR.out.cell (by simp)]; simp [go_sem]
      have k3 : wR.cell? ⟨wr.heap.size, 3, none⟩ = some (.int .u32 ys) := by rw [HBR.out.cell (by simp)]; simp [go_sem]
      have k4 : wR.cell? ⟨wr.heap.size, 4, none⟩ = some (.string yy) := by rw [HBR.out.cell (by simp)]; simp [go_sem]
      have k5 : wR.cell? ⟨wr.heap.size, 5, none⟩ = some (.slice p1 yr.length q1) := by rw [HBR.out.cell (by simp)]; simp [go_sem]
      have k6 : wR.cell? ⟨wr.heap.size, 6, none⟩ = some (.slice p2 yt.length q2) := by rw [HBR.out.cell (by simp)]; simp [go_sem]
      have zR : wr.heap.size < wR.heap.size := by have := HBR.out.size; (try simp at this); omega
      have HBRW : Hid (Below wr.heap.size wr wR) := (alloc_old wr _).trans (HBR.out.mono (by omega))
      obtain ⟨hcR, hfR⟩ := bcell HBR.out
      clear g0 g1 g2 g3 g4 g5 g6 g7 a0 a1
      go_wp2_with (at_builtin; refine wpList_copy rfl _ _ 53 rfl 155 iN _ 3 12 Tryz.underlying53 HN.out.1 HN.out.2.1 HN.out.2.2.1 HN.out.2.2.2 rfl (by decide) rfl p2 yt.length q2 bN oN (yt.flatMap noteCells) rfl PN.out (flat_len noteCells_len yt) ?c2 noteCells_one mN (by omega) ?_)
      case c2 =>
        intro _ j u hu
        have h1 := note_news (fun k hk => noteR_keeps _ _ _ _ _ (show Below wr.heap.size wr (wR.setCell ⟨wr.heap.size, 5, none⟩ (.slice pr yr.length cr)) from HBRW.out.setCell (by simp) _) (CN.out k hk)) j u hu
        exact h1
      intro vN wN hoN hgN
      obtain ⟨pn, cn, rfl⟩ := own_shape hoN
      have HON := Lib.hid hoN; clear hoN
      have HBN : Hid (Below wR.heap.size (wR.setCell ⟨wr.heap.size, 5, none⟩ (.slice pr yr.length cr)) wN) := (Below.refl _ _).grown hgN (by simp) (fun k hk => by cases hk)
      clear hgN hcR hfR
      obtain ⟨hcN, hfN⟩ := bcell HBN.out
      obtain ⟨hcR, hfR⟩ := bcell HBR.out
      have zN : wr.heap.size < wN.heap.size := by have := HBN.out.size; (try simp at this); omega
      have m0 : wN.cell? ⟨wr.heap.size, 0, none⟩ = some (.string yn) := by rw [HBN.out.cell zR]; simp [go_sem, *]
      have m1 : wN.cell? ⟨wr.heap.size, 1, none⟩ = some (.int .u8 yb) := by rw [HBN.out.cell zR]; simp [go_sem, *]
      have m2 : wN.cell? ⟨wr.heap.size, 2, none⟩ = some (.int .u8 yk) := by rw [HBN.out.cell zR]; simp [go_sem, *]
      have m3 : wN.cell? ⟨wr.heap.size, 3, none⟩ = some (.int .u32 ys) := by rw [HBN.out.cell zR]; simp [go_sem, *]
      have m4 : wN.cell? ⟨wr.heap.size, 4, none⟩ = some (.string yy) := by rw [HBN.out.cell zR]; simp [go_sem, *]
      have m5 : wN.cell? ⟨wr.heap.size, 5, none⟩ = some (.slice pr yr.length cr) := by rw [HBN.out.cell zR]; simp [go_sem, *]
      have m6 : wN.cell? ⟨wr.heap.size, 6, none⟩ = some (.slice p2 yt.length q2) := by rw [HBN.out.cell zR]; simp [go_sem, *]
      clear k0 k1 k2 k3 k4 k5 k6
      have HBNW : Hid (Below wr.heap.size wr wN) := (HBRW.out.setCell (by simp) _).trans (HBN.out.mono (by omega))
      go_wp2_with (at_builtin; refine wpList_append_own_at _ rfl _ _ 48 rfl w0.heap.size 55 iS _ 7 88 Tryz.underlying48 HS.out.1 HS.out.2.1 HS.out.2.2.1 HS.out.2.2.2 rfl (by decide) _ i (ts.flatMap symCells) rfl ?c0 _ 1 1 (symCells (⟨yn, yb, yk, ys, yy, yr, yt⟩, .slice pr yr.length cr, .slice pn yt.length cn)) rfl rfl ?c1 (seven_one rfl rfl) ?c3 ?c4 ?c5 ?_)
      case c0 => exact ownsRow_below ((HBNW.out.setCell (by simp) _).alloc (by have := HBNW.out.size; simp; omega) _) HOWN.out
      case c1 =>
        refine seven_news fun j u hj hu => ?_
        match j, hu with
        | 0, hu => cases hu; simp [go_sem]
        | 1, hu => cases hu; simp [go_sem]
        | 2, hu => cases hu; simp [go_sem]
        | 3, hu => cases hu; simp [go_sem]
        | 4, hu => cases hu; simp [go_sem]
        | 5, hu => cases hu; simp [go_sem]
        | 6, hu => cases hu; simp [go_sem]
      case c3 => unfold maxLen; omega
      case c4 => omega
      case c5 => have := HB.out.size; have := HBNW.out.size; simp; omega
      intro v' w' hown3 hgrow3 _ hblk
      have q1 := HB.out.size
      have q2 := HBNW.out.size
      have hor := ownsRow_below (alloc_old _ (.cells #[.string yn, .int .u8 yb, .int .u8 yk, .int .u32 ys, .string yy, .slice pr yr.length cr, .slice pn yt.length cn] 55)) (owns_setCell (ownsRow_below (show Below (wR.setCell ⟨wr.heap.size, 5, none⟩ (.slice pr yr.length cr)).heap.size _ wN by simpa using HBN.out) (owns_setCell HOR.out (a := ⟨wr.heap.size, 5, none⟩) (by simp) (.slice pr yr.length cr))) (a := ⟨wr.heap.size, 6, none⟩) (by simp) (.slice pn yt.length cn))
      have hon := ownsRow_below (alloc_old _ (.cells #[.string yn, .int .u8 yb, .int .u8 yk, .int .u32 ys, .string yy, .slice pr yr.length cr, .slice pn yt.length cn] 55)) (owns_setCell HON.out (a := ⟨wr.heap.size, 6, none⟩) (by simpa using zR) (.slice pn yt.length cn))
      have HNEW : Hid (SymOwn w0.heap.size _ _ (⟨yn, yb, yk, ys, yy, yr, yt⟩, .slice pr yr.length cr, .slice pn yt.length cn)) := ⟨owns_mono hor (by omega), owns_mono hon (by omega), own_away hor HOWN.out (by omega), own_away hon HOWN.out (by omega)⟩
      clear hor hon
      have HBK := Lib.hid ((show Below wr.heap.size wr (wN.setCell ⟨wr.heap.size, 6, none⟩ (.slice pn yt.length cn)) from HBNW.out.setCell (by simp) _).alloc (by simpa using q2) (.cells #[.string yn, .int .u8 yb, .int .u8 yk, .int .u32 ys, .string yy, .slice pr yr.length cr, .slice pn yt.length cn] 55))
      have HALL : Hid (∀ t ∈ ts ++ [(⟨yn, yb, yk, ys, yy, yr, yt⟩, .slice pr yr.length cr, .slice pn yt.length cn)], SymOwn w0.heap.size w' v' t) := fun t ht => by
        rcases List.mem_append.1 ht with ht | ht
        · exact (SymOwn.keep HBK.out (HSY.out t ht)).grown hgrow3 (by simpa using hblk)
        · obtain rfl : t = _ := by simpa using ht
          exact HNEW.out.grown hgrow3 (by simpa using hblk)
      have HB4 : Hid (Below w0.heap.size w0 w') := (HB.out.trans (HBK.out.mono q1)).grown hgrow3 (by simp; omega) (fun q e => (World.ownsRow.lt HOWN.out q e).1)
      have HO4 := Lib.hid hown3; clear hown3 hgrow3 hblk
      go_wp2
      go_roundw
      case rel => exact ⟨i + 1, _, by omega, by go_num, by simp [htl], by rw [List.map_append, HTM.out, List.take_succ_eq_append_getElem hlt, HY.out]; rfl, by simpa using HO4.out, HALL.out, HB4.out⟩
      case measure => simp [intOf]; omega
    · have a2 := cell_keep HB.out (by omega) HA2.out
      have a3 := cell_keep HB.out (by omega) HA3.out
      have f1 : wr.frozen? ⟨w.heap.size, 1, none⟩ = false := by rw [HB.out.frozen (by simp; omega)]; exact HF1.out
      have f2 : wr.frozen? ⟨w.heap.size + 1, 0, none⟩ = false := by rw [HB.out.frozen (by simp; omega)]; exact HF2.out
      have f3 : wr.frozen? ⟨w.heap.size + 1, 1, none⟩ = false := by rw [HB.out.frozen (by simp; omega)]; exact HF3.out
      obtain ⟨pv, cv, rfl⟩ := own_shape HOWN.out
      go_wp2
      have hie : i = xs.length := by omega
      have hset : ∀ (W : World) (k : Nat) (v : Value) (n : Nat) (e : TypeId) (cs : List Value), W.ownsRow w0.heap.size e k v n cs → (((W.setCell ⟨w.heap.size, 1, none⟩ (.slice pv i cv)).setCell ⟨w.heap.size + 1, 0, none⟩ (.string xn)).setCell ⟨w.heap.size + 1, 1, none⟩ (.slice pv i cv)).ownsRow w.heap.size e k v n cs := fun W k v n e cs ho =>
        owns_mono (owns_setCell (owns_setCell (owns_setCell ho (by simp; omega) _) (by simp; omega) _) (by simp; omega) _) (by omega)
      refine bodyPost_ret (v := .agg #[.string xn, .slice pv i cv]) (by simp [results, Tryz.results74, go_sem, *]) rfl ⟨_, ts, rfl, by rw [HTM.out, hie]; simp, by rw [htl]; exact hset _ _ _ _ _ _ HOWN.out, fun t ht => ?_, ?_⟩
      · obtain ⟨h1, h2, h3, h4⟩ := HSY.out t ht
        exact ⟨hset _ _ _ _ _ _ h1, hset _ _ _ _ _ _ h2, h3, h4⟩
      · exact ((HBW.out.setCell (by simp) _).setCell (by simp) _).setCell (by simp) _
end Go.Proofs.YtboegjdkedjhcaaGreatDoor
