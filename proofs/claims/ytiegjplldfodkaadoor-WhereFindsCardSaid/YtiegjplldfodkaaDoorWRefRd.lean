/- The walks of aediculeref07.Reader's methods. -/
import Derived.Test.YtiegjplldfodkaaDoorWReader
import Derived.Test.YtiegjplldfodkaaDoorOwn
namespace Go.Proofs.YtiegjplldfodkaaDoor
open Go.RowKit
/-- the reference's reader: what is left, and its fault -/
def RrB (w : World) (rb : Nat) (s : ByteArray) (f : Int) : Prop := w.heap[rb]? = some (.cells #[.string s, .int .i64 f] 70 (0, 0)) ∧ s.size ≤ 140737488355328
def rrOf (s : ByteArray) (f : Int) : RS := if f = 0 then some s.data.toList else none
def RrS (w : World) (rb : Nat) (st : RS) : Prop := ∃ s f, RrB w rb s f ∧ st = rrOf s f
theorem RrB.lt {w : World} {rb : Nat} {s : ByteArray} {f : Int} (h : RrB w rb s f) : rb < w.heap.size := (Array.getElem?_eq_some_iff.1 h.1).1
theorem RrB.congr {w w' : World} {rb : Nat} {s : ByteArray} {f : Int} (h : RrB w rb s f) (k : w'.heap[rb]? = w.heap[rb]?) : RrB w' rb s f := ⟨k.trans h.1, h.2⟩
theorem RrB.c0 {w : World} {rb : Nat} {s : ByteArray} {f : Int} (h : RrB w rb s f) : w.cell? ⟨rb, 0, none⟩ = some (.string s) := Lib.cell_of_heap h.1 0
theorem RrB.c1 {w : World} {rb : Nat} {s : ByteArray} {f : Int} (h : RrB w rb s f) : w.cell? ⟨rb, 1, none⟩ = some (.int .i64 f) := Lib.cell_of_heap h.1 1
theorem RrB.fz {w : World} {rb : Nat} {s : ByteArray} {f : Int} (h : RrB w rb s f) (j : Nat) : w.frozen? ⟨rb, j, none⟩ = false := Lib.frozen_of_heap h.1 j
theorem RrB.set0 {w : World} {rb : Nat} {s : ByteArray} {f : Int} (h : RrB w rb s f) (s' : ByteArray) (hs : s'.size ≤ 140737488355328) : RrB (w.setCell ⟨rb, 0, none⟩ (.string s')) rb s' f := by
  refine ⟨?_, hs⟩
  simp [World.setCell, Array.getElem?_modify, h.1]
theorem RrB.set1 {w : World} {rb : Nat} {s : ByteArray} {f : Int} (h : RrB w rb s f) (f' : Int) : RrB (w.setCell ⟨rb, 1, none⟩ (.int .i64 f')) rb s f' := by
  refine ⟨?_, h.2⟩
  simp [World.setCell, Array.getElem?_modify, h.1]
theorem RrS.congr {w w' : World} {rb : Nat} {st : RS} (h : RrS w rb st) (k : w'.heap[rb]? = w.heap[rb]?) : RrS w' rb st := by
  obtain ⟨s, f, h1, h2⟩ := h; exact ⟨s, f, h1.congr k, h2⟩
theorem RrS.lt {w : World} {rb : Nat} {st : RS} (h : RrS w rb st) : rb < w.heap.size := by obtain ⟨s, f, h1, -⟩ := h; exact h1.lt
set_option maxHeartbeats 400000 in
theorem fails_any (rb : Nat) (s : ByteArray) (f f' : Int) (w : World) (h : RrB w rb s f) :
    Calls Tryd.prog 60 #[.pointer (some ⟨rb, 0, none⟩), .int .i64 f'] w fun e w' => e = .returned (.int .i64 f') ∧ w' = w.setCell ⟨rb, 1, none⟩ (.int .i64 f') := by
  have c := h.c1
  have cf := h.fz 1
  clear h
  go_enter Tryd.func60, Tryd.ntmps60
  go_wp2
  go_ret
  exact ⟨rfl, rfl⟩
theorem rrOf_ok {s : ByteArray} : rrOf s 0 = some s.data.toList := by simp [rrOf]
theorem rrOf_bad {s : ByteArray} {f : Int} (h : f ≠ 0) : rrOf s f = none := by simp [rrOf, h]
theorem extract_head (s : ByteArray) (n : Nat) : s.extract 0 n = bsOf (s.data.toList.take n) := by
  apply ByteArray.ext; apply Array.toList_inj.1
  rw [Lib.extract_data, bsOf_list]; simp
theorem extract_tail (s : ByteArray) (n : Nat) : s.extract n s.size = bsOf (s.data.toList.drop n) := by
  apply ByteArray.ext; apply Array.toList_inj.1
  rw [Lib.extract_data, bsOf_list, List.take_of_length_le (by rw [List.length_drop, len_list]; exact Nat.le_refl _)]
def RkPost (rb n : Nat) (st : RS) (w : World) (e : Ending) (w' : World) : Prop := ∃ c, e = .returned (.tuple #[.string (bsOf (rTake n st).1), .int .i64 c]) ∧ ErrSt c (rTake n st).2 ∧ RrS w' rb (rTake n st).2 ∧ KR rb w w'
set_option maxHeartbeats 1000000 in
theorem rrTake_any (rb n : Nat) (st : RS) (w : World) (h : RrS w rb st) :
    Calls Tryd.prog 38 #[.pointer (some ⟨rb, 0, none⟩), .int .i64 n] w (RkPost rb n st w) := by
  obtain ⟨s, f, hb, rfl⟩ := h
  have HB := Lib.hid hb
  have c0 := hb.c0
  have c1 := hb.c1
  have f0 := hb.fz 0
  have hz := hb.2
  have d0 : decide ((n : Int) < 0) = false := by simp
  by_cases hf : f = 0
  · subst hf
    by_cases hn : n ≤ s.size
    · have HT : Hid (rTake n (rrOf s 0) = (s.data.toList.take n, some (s.data.toList.drop n))) := by rw [Hid, rrOf_ok, rTake, if_pos (by rw [len_list]; exact hn)]
      have d1 : decide ((s.size : Int) < (n : Int)) = false := by simp; omega
      have d1' : decide (s.size < n) = false := by simp; omega
      clear hb
      go_enter Tryd.func38, Tryd.ntmps38
      go_wp2
      go_ret2
      unfold RkPost
      rw [HT.out]
      refine ⟨0, by rw [extract_head]; rfl, .inl ⟨rfl, rfl⟩, ⟨_, 0, HB.out.set0 (s.extract n s.size) ?_, ?_⟩, KR.set (KB.refl _ w) 0 _⟩
      · rw [extract_tail, bsOf_size, List.length_drop, len_list]; omega
      · rw [rrOf_ok, extract_tail, bsOf_list]
    · have HT : Hid (rTake n (rrOf s 0) = ([], none)) := by rw [Hid, rrOf_ok, rTake, if_neg (by rw [len_list]; exact hn)]
      have d1 : decide ((s.size : Int) < (n : Int)) = true := by simp; omega
      have d1' : decide (s.size < n) = true := by simp; omega
      have HF := Lib.hid (fails_any rb s 0 6 w hb)
      clear hb
      go_enter Tryd.func38, Tryd.ntmps38
      go_wp2_with fail
      refine HF.out.mono ?_
      rintro e w1 ⟨rfl, rfl⟩
      clear HF
      go_wp2
      go_ret2
      unfold RkPost
      rw [HT.out]
      exact ⟨6, rfl, .inr ⟨by omega, rfl⟩, ⟨_, _, HB.out.set1 6, (rrOf_bad (by omega)).symm⟩, KR.set (KB.refl _ w) 1 _⟩
  · have HT : Hid (rTake n (rrOf s f) = ([], none)) := by rw [Hid, rrOf_bad hf]; rfl
    have bf : (f != 0) = true := by simpa using hf
    have HFN := Lib.hid hf
    clear hb hf
    go_enter Tryd.func38, Tryd.ntmps38
    go_wp2
    go_quiet (fail)
    rename_i nq
    go_wp2
    go_ret2
    unfold RkPost
    rw [HT.out]
    exact ⟨f, rfl, .inr ⟨HFN.out, rfl⟩, ⟨_, _, HB.out.congr rfl, (rrOf_bad HFN.out).symm⟩, KR.draw nq⟩
def RmPost (rb n : Nat) (st : RS) (w : World) (e : Ending) (w' : World) : Prop := ∃ c, e = .returned (.tuple #[.int .u32 (rNum n st).1, .int .i64 c]) ∧ ErrSt c (rNum n st).2 ∧ RrS w' rb (rNum n st).2 ∧ KR rb w w'
theorem leV_drop {l : BL} {m : Nat} (h : m < l.length) : leV (l.drop m) = l[m].toNat + 256 * leV (l.drop (m + 1)) := by rw [List.drop_eq_getElem_cons h]; rfl
set_option maxRecDepth 100000 in
set_option maxHeartbeats 1000000 in
theorem rrNum_any (rb n : Nat) (st : RS) (w : World) (h : RrS w rb st) (h1 : 1 ≤ n) (h4 : n ≤ 4) :
    Calls Tryd.prog 39 #[.pointer (some ⟨rb, 0, none⟩), .int .i64 n] w (RmPost rb n st w) := by
  have HC := Lib.hid (rrTake_any rb n st w h)
  have HL := Lib.hid (rTake_len n st)
  obtain ⟨s, f, hb, he⟩ := h
  have c1 := hb.c1
  clear hb he
  have d1 : decide ((n : Int) < 1) = false := by simp; omega
  have d4 : decide ((4 : Int) < (n : Int)) = false := by simp; omega
  have d4' : decide (4 < n) = false := by simp; omega
  have bf : ((f == 0) = true) ∨ ((f == 0) = false) := by cases (f == 0) <;> simp
  rcases bf with bf | bf
  all_goals
    go_enter Tryd.func39, Tryd.ntmps39
    go_wp2_with fail
    refine HC.out.mono ?_
    rintro e w1 ⟨c, rfl, k1, k2, k3⟩
    have K := Lib.hid (And.intro k1 (And.intro k2 k3))
    clear k1 k2 k3 HC c1 bf
    have HZ : Hid ((bsOf (rTake n st).1).size ≤ 4) := by rw [Hid, bsOf_size]; have := HL.out; omega
    have HD : Hid (leV (bsOf (rTake n st).1).data.toList = (rNum n st).1) := rfl
    generalize bsOf (rTake n st).1 = t at HZ HD ⊢
    have hz := HZ.out
    go_wp2
    go_loopw [8, 9] (fun v8 v9 wr => ∃ m : Nat, m ≤ t.size ∧ v9 = .int .i64 ((m : Int) - 1) ∧ v8 = .int .u32 (leV (t.data.toList.drop m)) ∧ w1 = wr) (fun _ v9 _ => (intOf v9 + 1).toNat)
    case atStart => exact ⟨t.size, Nat.le_refl _, rfl, by rw [List.drop_of_length_le (by rw [len_list]; exact Nat.le_refl _)]; rfl, rfl⟩
    case round =>
      obtain ⟨m, hm, rfl, rfl, rfl⟩ := hrel
      by_cases hm0 : m = 0
      · subst hm0
        rw [List.drop_zero, HD.out]
        go_wp2
        go_ret2
        exact ⟨c, rfl, K.out.1, K.out.2.1, K.out.2.2⟩
      · obtain ⟨i, rfl⟩ : ∃ i, m = i + 1 := ⟨m - 1, by omega⟩
        have hbd := leV_bd (t.data.toList.drop (i + 1))
        have hp : pow256 (t.data.toList.drop (i + 1)).length ≤ 16777216 := pow256_mono (m := 3) (by rw [List.length_drop, len_list]; omega)
        have HN : Hid (leV (t.data.toList.drop i) = t[i].toNat + 256 * leV (t.data.toList.drop (i + 1))) := leV_drop (by rw [len_list]; omega)
        have hs1 : (((i + 1 : Nat) : Int) - 1) = (i : Int) := by omega
        have hb2 := (t[i]'(by omega)).toNat_lt
        rw [hs1]
        generalize leV (t.data.toList.drop (i + 1)) = v at hbd HN ⊢
        have hv0 := hbd.1
        have hv1 : v ≤ 16777215 := by omega
        clear hbd hp hs1
        go_wp2
        go_roundw
        case rel => exact ⟨i, by omega, by go_num, by rw [HN.out]; go_num, trivial⟩
        case measure => simp [intOf]
def RtPost (rb : Nat) (st : RS) (w : World) (e : Ending) (w' : World) : Prop := ∃ c, e = .returned (.tuple #[.string (rText st).1, .int .i64 c]) ∧ RrS w' rb (rText st).2 ∧ KR rb w w'
set_option maxHeartbeats 1000000 in
theorem rrText_any (rb : Nat) (st : RS) (w : World) (h : RrS w rb st) :
    Calls Tryd.prog 40 #[.pointer (some ⟨rb, 0, none⟩)] w (RtPost rb st w) := by
  have HC := Lib.hid (rrNum_any rb 2 st w h (by omega) (by omega))
  have HBD := Lib.hid (rNum_bd 2 st)
  rw [p2] at HBD
  obtain ⟨s, f, hb, he⟩ := h
  have c0 := hb.c0
  have HZ := Lib.hid hb.2
  clear hb he
  go_enter Tryd.func40, Tryd.ntmps40
  go_wp2_with fail
  refine HC.out.mono ?_
  rintro e w1 ⟨c, rfl, k1, k2, k3⟩
  have K2 := Lib.hid k2; have K3 := Lib.hid k3
  clear k2 k3 HC c0
  have HX : Hid (rText st = (bsOf (rTake (rNum 2 st).1.toNat (rNum 2 st).2).1, (rTake (rNum 2 st).1.toNat (rNum 2 st).2).2)) := rfl
  generalize rNum 2 st = nn at k1 K2 HBD HX ⊢
  obtain ⟨n1, st1⟩ := nn
  simp only [] at k1 K2 HBD HX ⊢
  obtain ⟨m, rfl⟩ := Int.eq_ofNat_of_zero_le HBD.out.1
  rw [Int.toNat_natCast] at HX
  have hm : (m : Int) < 65536 := HBD.out.2
  rcases k1 with ⟨rfl, hs⟩ | ⟨hc, hs⟩
  · have HT := Lib.hid (rrTake_any rb m st1 w1 K2.out)
    clear hs
    go_wp2_with fail
    refine HT.out.mono ?_
    rintro e w2 ⟨c, rfl, j1, j2, j3⟩
    have J2 := Lib.hid j2; have J3 := Lib.hid j3
    clear j2 j3 HT
    rcases j1 with ⟨rfl, hs⟩ | ⟨hc, hs⟩
    · clear hs
      go_wp2
      go_ret2
      unfold RtPost
      rw [HX.out]
      exact ⟨0, rfl, J2.out, K3.out.trans J3.out⟩
    · have bc : (c != 0) = true := by simpa using hc
      obtain ⟨s2, f2, hb2, he2⟩ := J2.out
      have a0 := hb2.c0
      have af := hb2.fz 0
      have HB2 := Lib.hid hb2; have HE2 := Lib.hid he2; have HSN := Lib.hid hs
      clear hb2 he2 hs hc
      go_wp2
      go_ret2
      unfold RtPost
      rw [HX.out]
      refine ⟨c, rfl, ⟨_, _, HB2.out.set0 s HZ.out, ?_⟩, KR.set (K3.out.trans J3.out) 0 _⟩
      have hf : f2 ≠ 0 := fun e => by have := HE2.out; rw [HSN.out, e, rrOf_ok] at this; cases this
      rw [HSN.out, rrOf_bad hf]
  · have bc : (c != 0) = true := by simpa using hc
    have HN : Hid (st1 = none) := hs
    clear hs hc
    go_wp2
    go_ret2
    unfold RtPost
    rw [HX.out, HN.out]
    have k2 := K2.out
    rw [HN.out] at k2
    exact ⟨c, rfl, k2, K3.out⟩
set_option maxHeartbeats 1000000 in
theorem rrEnd_any (rb : Nat) (st : RS) (w : World) (h : RrS w rb st) :
    Calls Tryd.prog 41 #[.pointer (some ⟨rb, 0, none⟩)] w (EdPost rb st w) := by
  obtain ⟨s, f, hb, rfl⟩ := h
  have HB := Lib.hid hb
  have c0 := hb.c0
  have c1 := hb.c1
  by_cases hf : f = 0
  · subst hf
    by_cases hl : s.data.toList = []
    · have HE : Hid (rrOf s 0 = some []) := by rw [Hid, rrOf_ok, hl]
      have hs : s = ⟨#[]⟩ := by apply ByteArray.ext; apply Array.toList_inj.1; rw [hl]
      subst hs
      clear hb hl
      go_enter Tryd.func41, Tryd.ntmps41
      go_wp2
      go_ret
      exact ⟨0, rfl, ⟨fun _ => HE.out, fun _ => rfl⟩, KB.refl _ _⟩
    · have HE : Hid (rrOf s 0 ≠ some []) := by rw [Hid, rrOf_ok]; intro e; exact hl (Option.some.inj e)
      have HF := Lib.hid (fails_any rb s 0 7 w hb)
      have b1 : s.toList.isEmpty = false := toList_isEmpty (by
        rw [← len_list]
        cases hc : s.data.toList with
        | nil => exact absurd hc hl
        | cons x r => simp)
      have b2 : (!s.toList.isEmpty) = true := by rw [b1]; rfl
      clear hb hl
      go_enter Tryd.func41, Tryd.ntmps41
      go_wp2_with fail
      refine HF.out.mono ?_
      rintro e w1 ⟨rfl, rfl⟩
      clear HF
      go_wp2
      go_ret
      exact ⟨7, rfl, ⟨fun h => (by omega), fun h => absurd h HE.out⟩, KR.set (KB.refl _ w) 1 _⟩
  · have HE : Hid (rrOf s f ≠ some []) := by rw [Hid, rrOf_bad hf]; simp
    have bf : (f != 0) = true := by simpa using hf
    have HFN := Lib.hid hf
    clear hb hf
    go_enter Tryd.func41, Tryd.ntmps41
    go_wp2
    go_ret
    exact ⟨f, rfl, ⟨fun h => absurd h HFN.out, fun h => absurd h HE.out⟩, KB.refl _ _⟩
end Go.Proofs.YtiegjplldfodkaaDoor
