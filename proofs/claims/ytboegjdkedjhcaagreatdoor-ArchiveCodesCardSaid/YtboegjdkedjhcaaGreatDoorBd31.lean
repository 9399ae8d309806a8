/- The walks of aediculeref07.Reader's methods. The walks of aediculeref09.one and word. What aediculeref09.sym keeps (printed by genrefsym.py). The walk of aediculeref09.sym. -/
import Derived.Test.YtboegjdkedjhcaaGreatDoorBd04
import Derived.Test.YtboegjdkedjhcaaGreatDoorBd06
import Derived.Deep.Onto
namespace Go.Proofs.YtboegjdkedjhcaaGreatDoor
open Go.RowKit
/-- the reference's reader: what is left, and its fault -/
def RrB (w : World) (rb : Nat) (s : ByteArray) (f : Int) : Prop := w.heap[rb]? = some (.cells #[.string s, .int .i64 f] 108 (0, 0)) ∧ s.size ≤ 140737488355328
def rrOf (s : ByteArray) (f : Int) : RS := if f = 0 then some s.data.toList else none
def RrS (w : World) (rb : Nat) (st : RS) : Prop := ∃ s f, RrB w rb s f ∧ st = rrOf s f
theorem RrB.lt {w : World} {rb : Nat} {s : ByteArray} {f : Int} (h : RrB w rb s f) : rb < w.heap.size := (Array.getElem?_eq_some_iff.1 h.1).1
theorem RrB.congr {w w' : World} {rb : Nat} {s : ByteArray} {f : Int} (h : RrB w rb s f) (k : w'.heap[rb]? = w.heap[rb]?) : RrB w' rb s f := ⟨k.trans h.1, h.2⟩
theorem RrB.c0 {w : World} {rb : Nat} {s : ByteArray} {f : Int} (h : RrB w rb s f) : w.cell? ⟨rb, 0, none⟩ = some (.string s) := Lib.cell_of_heap h.1 0
theorem RrB.c1 {w : World} {rb : Nat} {s : ByteArray} {f : Int} (h : RrB w rb s f) : w.cell? ⟨rb, 1, none⟩ = some (.int .i64 f) := Lib.cell_of_heap h.1 1
theorem RrB.fz {w : World} {rb : Nat} {s : ByteArray} {f : Int} (h : RrB w rb s f) (j : Nat) : w.frozen? ⟨rb, j, none⟩ = false := Lib.frozen_of_heap h.1 j
theorem RrB.set0 {w : World} {rb : Nat} {s : ByteArray} {f : Int} (h : RrB w rb s f) (s' : ByteArray) (hs : s'.size ≤ 140737488355328) : RrB (w.setCell ⟨rb, 0, none⟩ (.string s')) rb s' f := by
  refine ⟨?_, hs⟩
  simp [World.setCell, Array.getElem?_modify, h.1]
theorem RrB.set1 {w : World} {rb : Nat} {s : ByteArray} {f : Int} (h : RrB w rb s f) (f' : Int) : RrB (w.setCell ⟨rb, 1, none⟩ (.int .i64 f')) rb s f' := by
  refine ⟨?_, h.2⟩
  simp [World.setCell, Array.getElem?_modify, h.1]
theorem RrS.congr {w w' : World} {rb : Nat} {st : RS} (h : RrS w rb st) (k : w'.heap[rb]? = w.heap[rb]?) : RrS w' rb st := by
  obtain ⟨s, f, h1, h2⟩ := h; exact ⟨s, f, h1.congr k, h2⟩
theorem RrS.lt {w : World} {rb : Nat} {st : RS} (h : RrS w rb st) : rb < w.heap.size := by obtain ⟨s, f, h1, -⟩ := h; exact h1.lt
set_option maxHeartbeats 400000 in
theorem fails_any (rb : Nat) (s : ByteArray) (f f' : Int) (w : World) (h : RrB w rb s f) :
    Calls Tryz.prog 94 #[.pointer (some ⟨rb, 0, none⟩), .int .i64 f'] w fun e w' => e = .returned (.int .i64 f') ∧ w' = w.setCell ⟨rb, 1, none⟩ (.int .i64 f') := by
  have c := h.c1
  have cf := h.fz 1
  clear h
  go_enter Tryz.func94, Tryz.ntmps94
  go_wp2
  go_ret
  exact ⟨rfl, rfl⟩
theorem rrOf_ok {s : ByteArray} : rrOf s 0 = some s.data.toList := by simp [rrOf]
theorem rrOf_bad {s : ByteArray} {f : Int} (h : f ≠ 0) : rrOf s f = none := by simp [rrOf, h]
theorem extract_head (s : ByteArray) (n : Nat) : s.extract 0 n = bsOf (s.data.toList.take n) := by
  apply ByteArray.ext; apply Array.toList_inj.1
  rw [Lib.extract_data, bsOf_list]; simp
theorem extract_tail (s : ByteArray) (n : Nat) : s.extract n s.size = bsOf (s.data.toList.drop n) := by
  apply ByteArray.ext; apply Array.toList_inj.1
  rw [Lib.extract_data, bsOf_list, List.take_of_length_le (by rw [List.length_drop, len_list]; exact Nat.le_refl _)]
def RkPost (rb n : Nat) (st : RS) (w : World) (e : Ending) (w' : World) : Prop := ∃ c, e = .returned (.tuple #[.string (bsOf (rTake n st).1), .int .i64 c]) ∧ ErrSt c (rTake n st).2 ∧ RrS w' rb (rTake n st).2 ∧ KR rb w w'
set_option maxHeartbeats 1000000 in
theorem rrTake_any (rb n : Nat) (st : RS) (w : World) (h : RrS w rb st) :
    Calls Tryz.prog 49 #[.pointer (some ⟨rb, 0, none⟩), .int .i64 n] w (RkPost rb n st w) := by
  obtain ⟨s, f, hb, rfl⟩ := h
  have HB := Lib.hid hb
  have c0 := hb.c0
  have c1 := hb.c1
  have f0 := hb.fz 0
  have hz := hb.2
  have d0 : decide ((n : Int) < 0) = false := by simp
  by_cases hf : f = 0
  · subst hf
    by_cases hn : n ≤ s.size
    · have HT : Hid (rTake n (rrOf s 0) = (s.data.toList.take n, some (s.data.toList.drop n))) := by rw [Hid, rrOf_ok, rTake, if_pos (by rw [len_list]; exact hn)]
      have d1 : decide ((s.size : Int) < (n : Int)) = false := by simp; omega
      have d1' : decide (s.size < n) = false := by simp; omega
      clear hb
      go_enter Tryz.func49, Tryz.ntmps49
      go_wp2
      go_ret2
      unfold RkPost
      rw [HT.out]
      refine ⟨0, by rw [extract_head]; rfl, .inl ⟨rfl, rfl⟩, ⟨_, 0, HB.out.set0 (s.extract n s.size) ?_, ?_⟩, KR.set (KB.refl _ w) 0 _⟩
      · rw [extract_tail, bsOf_size, List.length_drop, len_list]; omega
      · rw [rrOf_ok, extract_tail, bsOf_list]
    · have HT : Hid (rTake n (rrOf s 0) = ([], none)) := by rw [Hid, rrOf_ok, rTake, if_neg (by rw [len_list]; exact hn)]
      have d1 : decide ((s.size : Int) < (n : Int)) = true := by simp; omega
      have d1' : decide (s.size < n) = true := by simp; omega
      have HF := Lib.hid (fails_any rb s 0 6 w hb)
      clear hb
      go_enter Tryz.func49, Tryz.ntmps49
      go_wp2_with fail
      refine HF.out.mono ?_
      rintro e w1 ⟨rfl, rfl⟩
      clear HF
      go_wp2
      go_ret2
      unfold RkPost
      rw [HT.out]
      exact ⟨6, rfl, .inr ⟨by omega, rfl⟩, ⟨_, _, HB.out.set1 6, (rrOf_bad (by omega)).symm⟩, KR.set (KB.refl _ w) 1 _⟩
  · have HT : Hid (rTake n (rrOf s f) = ([], none)) := by rw [Hid, rrOf_bad hf]; rfl
    have bf : (f != 0) = true := by simpa using hf
    have HFN := Lib.hid hf
    clear hb hf
    go_enter Tryz.func49, Tryz.ntmps49
    go_wp2
    go_quiet (fail)
    rename_i nq
    go_wp2
    go_ret2
    unfold RkPost
    rw [HT.out]
    exact ⟨f, rfl, .inr ⟨HFN.out, rfl⟩, ⟨_, _, HB.out.congr rfl, (rrOf_bad HFN.out).symm⟩, KR.draw nq⟩
def RmPost (rb n : Nat) (st : RS) (w : World) (e : Ending) (w' : World) : Prop := ∃ c, e = .returned (.tuple #[.int .u32 (rNum n st).1, .int .i64 c]) ∧ ErrSt c (rNum n st).2 ∧ RrS w' rb (rNum n st).2 ∧ KR rb w w'
theorem leV_drop {l : BL} {m : Nat} (h : m < l.length) : leV (l.drop m) = l[m].toNat + 256 * leV (l.drop (m + 1)) := by rw [List.drop_eq_getElem_cons h]; rfl
set_option maxRecDepth 100000 in
set_option maxHeartbeats 1000000 in
theorem rrNum_any (rb n : Nat) (st : RS) (w : World) (h : RrS w rb st) (h1 : 1 ≤ n) (h4 : n ≤ 4) :
    Calls Tryz.prog 51 #[.pointer (some ⟨rb, 0, none⟩), .int .i64 n] w (RmPost rb n st w) := by
  have HC := Lib.hid (rrTake_any rb n st w h)
  have HL := Lib.hid (rTake_len n st)
  obtain ⟨s, f, hb, he⟩ := h
  have c1 := hb.c1
  clear hb he
  have d1 : decide ((n : Int) < 1) = false := by simp; omega
  have d4 : decide ((4 : Int) < (n : Int)) = false := by simp; omega
  have d4' : decide (4 < n) = false := by simp; omega
  have bf : ((f == 0) = true) ∨ ((f == 0) = false) := by cases (f == 0) <;> simp
  rcases bf with bf | bf
  all_goals
    go_enter Tryz.func51, Tryz.ntmps51
    go_wp2_with fail
    refine HC.out.mono ?_
    rintro e w1 ⟨c, rfl, k1, k2, k3⟩
    have K := Lib.hid (And.intro k1 (And.intro k2 k3))
    clear k1 k2 k3 HC c1 bf
    have HZ : Hid ((bsOf (rTake n st).1).size ≤ 4) := by rw [Hid, bsOf_size]; have := HL.out; omega
    have HD : Hid (leV (bsOf (rTake n st).1).data.toList = (rNum n st).1) := rfl
    generalize bsOf (rTake n st).1 = t at HZ HD ⊢
    have hz := HZ.out
    go_wp2
    go_loopw [8, 9] (fun v8 v9 wr => ∃ m : Nat, m ≤ t.size ∧ v9 = .int .i64 ((m : Int) - 1) ∧ v8 = .int .u32 (leV (t.data.toList.drop m)) ∧ w1 = wr) (fun _ v9 _ => (intOf v9 + 1).toNat)
    case atStart => exact ⟨t.size, Nat.le_refl _, rfl, by rw [List.drop_of_length_le (by rw [len_list]; exact Nat.le_refl _)]; rfl, rfl⟩
    case round =>
      obtain ⟨m, hm, rfl, rfl, rfl⟩ := hrel
      by_cases hm0 : m = 0
      · subst hm0
        rw [List.drop_zero, HD.out]
        go_wp2
        go_ret2
        exact ⟨c, rfl, K.out.1, K.out.2.1, K.out.2.2⟩
      · obtain ⟨i, rfl⟩ : ∃ i, m = i + 1 := ⟨m - 1, by omega⟩
        have hbd := leV_bd (t.data.toList.drop (i + 1))
        have hp : pow256 (t.data.toList.drop (i + 1)).length ≤ 16777216 := pow256_mono (m := 3) (by rw [List.length_drop, len_list]; omega)
        have HN : Hid (leV (t.data.toList.drop i) = t[i].toNat + 256 * leV (t.data.toList.drop (i + 1))) := leV_drop (by rw [len_list]; omega)
        have hs1 : (((i + 1 : Nat) : Int) - 1) = (i : Int) := by omega
        have hb2 := (t[i]'(by omega)).toNat_lt
        rw [hs1]
        generalize leV (t.data.toList.drop (i + 1)) = v at hbd HN ⊢
        have hv0 := hbd.1
        have hv1 : v ≤ 16777215 := by omega
        clear hbd hp hs1
        go_wp2
        go_roundw
        case rel => exact ⟨i, by omega, by go_num, by rw [HN.out]; go_num, trivial⟩
        case measure => simp [intOf]
def RtPost (rb : Nat) (st : RS) (w : World) (e : Ending) (w' : World) : Prop := ∃ c, e = .returned (.tuple #[.string (rText st).1, .int .i64 c]) ∧ RrS w' rb (rText st).2 ∧ KR rb w w'
set_option maxHeartbeats 1000000 in
theorem rrText_any (rb : Nat) (st : RS) (w : World) (h : RrS w rb st) :
    Calls Tryz.prog 50 #[.pointer (some ⟨rb, 0, none⟩)] w (RtPost rb st w) := by
  have HC := Lib.hid (rrNum_any rb 2 st w h (by omega) (by omega))
  have HBD := Lib.hid (rNum_bd 2 st)
  rw [p2] at HBD
  obtain ⟨s, f, hb, he⟩ := h
  have c0 := hb.c0
  have HZ := Lib.hid hb.2
  clear hb he
  go_enter Tryz.func50, Tryz.ntmps50
  go_wp2_with fail
  refine HC.out.mono ?_
  rintro e w1 ⟨c, rfl, k1, k2, k3⟩
  have K2 := Lib.hid k2; have K3 := Lib.hid k3
  clear k2 k3 HC c0
  have HX : Hid (rText st = (bsOf (rTake (rNum 2 st).1.toNat (rNum 2 st).2).1, (rTake (rNum 2 st).1.toNat (rNum 2 st).2).2)) := rfl
  generalize rNum 2 st = nn at k1 K2 HBD HX ⊢
  obtain ⟨n1, st1⟩ := nn
  simp only [] at k1 K2 HBD HX ⊢
  obtain ⟨m, rfl⟩ := Int.eq_ofNat_of_zero_le HBD.out.1
  rw [Int.toNat_natCast] at HX
  have hm : (m : Int) < 65536 := HBD.out.2
  rcases k1 with ⟨rfl, hs⟩ | ⟨hc, hs⟩
  · have HT := Lib.hid (rrTake_any rb m st1 w1 K2.out)
    clear hs
    go_wp2_with fail
    refine HT.out.mono ?_
    rintro e w2 ⟨c, rfl, j1, j2, j3⟩
    have J2 := Lib.hid j2; have J3 := Lib.hid j3
    clear j2 j3 HT
    rcases j1 with ⟨rfl, hs⟩ | ⟨hc, hs⟩
    · clear hs
      go_wp2
      go_ret2
      unfold RtPost
      rw [HX.out]
      exact ⟨0, rfl, J2.out, K3.out.trans J3.out⟩
    · have bc : (c != 0) = true := by simpa using hc
      obtain ⟨s2, f2, hb2, he2⟩ := J2.out
      have a0 := hb2.c0
      have af := hb2.fz 0
      have HB2 := Lib.hid hb2; have HE2 := Lib.hid he2; have HSN := Lib.hid hs
      clear hb2 he2 hs hc
      go_wp2
      go_ret2
      unfold RtPost
      rw [HX.out]
      refine ⟨c, rfl, ⟨_, _, HB2.out.set0 s HZ.out, ?_⟩, KR.set (K3.out.trans J3.out) 0 _⟩
      have hf : f2 ≠ 0 := fun e => by have := HE2.out; rw [HSN.out, e, rrOf_ok] at this; cases this
      rw [HSN.out, rrOf_bad hf]
  · have bc : (c != 0) = true := by simpa using hc
    have HN : Hid (st1 = none) := hs
    clear hs hc
    go_wp2
    go_ret2
    unfold RtPost
    rw [HX.out, HN.out]
    have k2 := K2.out
    rw [HN.out] at k2
    exact ⟨c, rfl, k2, K3.out⟩
set_option maxHeartbeats 1000000 in
theorem rrEnd_any (rb : Nat) (st : RS) (w : World) (h : RrS w rb st) :
    Calls Tryz.prog 53 #[.pointer (some ⟨rb, 0, none⟩)] w (EdPost rb st w) := by
  obtain ⟨s, f, hb, rfl⟩ := h
  have HB := Lib.hid hb
  have c0 := hb.c0
  have c1 := hb.c1
  by_cases hf : f = 0
  · subst hf
    by_cases hl : s.data.toList = []
    · have HE : Hid (rrOf s 0 = some []) := by rw [Hid, rrOf_ok, hl]
      have hs : s = ⟨#[]⟩ := by apply ByteArray.ext; apply Array.toList_inj.1; rw [hl]
      subst hs
      clear hb hl
      go_enter Tryz.func53, Tryz.ntmps53
      go_wp2
      go_ret
      exact ⟨0, rfl, ⟨fun _ => HE.out, fun _ => rfl⟩, KB.refl _ _⟩
    · have HE : Hid (rrOf s 0 ≠ some []) := by rw [Hid, rrOf_ok]; intro e; exact hl (Option.some.inj e)
      have HF := Lib.hid (fails_any rb s 0 7 w hb)
      have b1 : s.toList.isEmpty = false := toList_isEmpty (by
        rw [← len_list]
        cases hc : s.data.toList with
        | nil => exact absurd hc hl
        | cons x r => simp)
      have b2 : (!s.toList.isEmpty) = true := by rw [b1]; rfl
      clear hb hl
      go_enter Tryz.func53, Tryz.ntmps53
      go_wp2_with fail
      refine HF.out.mono ?_
      rintro e w1 ⟨rfl, rfl⟩
      clear HF
      go_wp2
      go_ret
      exact ⟨7, rfl, ⟨fun h => (by omega), fun h => absurd h HE.out⟩, KR.set (KB.refl _ w) 1 _⟩
  · have HE : Hid (rrOf s f ≠ some []) := by rw [Hid, rrOf_bad hf]; simp
    have bf : (f != 0) = true := by simpa using hf
    have HFN := Lib.hid hf
    clear hb hf
    go_enter Tryz.func53, Tryz.ntmps53
    go_wp2
    go_ret
    exact ⟨f, rfl, ⟨fun h => absurd h HFN.out, fun h => absurd h HE.out⟩, KB.refl _ _⟩
end Go.Proofs.YtboegjdkedjhcaaGreatDoor
namespace Go.Proofs.YtboegjdkedjhcaaGreatDoor
open Go.RowKit
def OnPost (rb n : Nat) (st : RS) (w : World) (e : Ending) (w' : World) : Prop := e = .returned (.int .u32 (rNum n st).1) ∧ RrS w' rb (rNum n st).2 ∧ KR rb w w'
def WoPost (rb : Nat) (st : RS) (w : World) (e : Ending) (w' : World) : Prop := e = .returned (.string (rText st).1) ∧ RrS w' rb (rText st).2 ∧ KR rb w w'
set_option maxHeartbeats 400000 in
theorem one_any (rb n : Nat) (st : RS) (w : World) (h : RrS w rb st) (h1 : 1 ≤ n) (h4 : n ≤ 4) :
    Calls Tryz.prog 96 #[.pointer (some ⟨rb, 0, none⟩), .int .i64 n] w (OnPost rb n st w) := by
  have HC := Lib.hid (rrNum_any rb n st w h h1 h4)
  clear h
  go_enter Tryz.func96, Tryz.ntmps96
  go_wp2_with fail
  refine HC.out.mono ?_
  rintro e w1 ⟨c, rfl, -, k1, k2⟩
  have K1 := Lib.hid k1; have K2 := Lib.hid k2
  clear k1 k2 HC
  go_wp2
  go_ret
  exact ⟨rfl, K1.out, K2.out⟩
set_option maxHeartbeats 400000 in
theorem word09_any (rb : Nat) (st : RS) (w : World) (h : RrS w rb st) :
    Calls Tryz.prog 95 #[.pointer (some ⟨rb, 0, none⟩)] w (WoPost rb st w) := by
  have HC := Lib.hid (rrText_any rb st w h)
  clear h
  go_enter Tryz.func95, Tryz.ntmps95
  go_wp2_with fail
  refine HC.out.mono ?_
  rintro e w1 ⟨c, rfl, k1, k2⟩
  have K1 := Lib.hid k1; have K2 := Lib.hid k2
  clear k1 k2 HC
  go_wp2
  go_ret
  exact ⟨rfl, K1.out, K2.out⟩
end Go.Proofs.YtboegjdkedjhcaaGreatDoor
namespace Go.Proofs.YtboegjdkedjhcaaGreatDoor
open Go.RowKit Go.Maps
/-- what a symbol's reading keeps: the reading's boxes (Q), the symbol's box, its two rows (all in blocks below R), the reader -/
structure RSymSt (R : Nat) (Q : Nat → Prop) (sb rb : Nat) (st : RS) (y : GSym) (w0 w : World) : Prop where
  q : ∀ g, Q g → w.heap[g]? = some (.cells #[.pointer (some ⟨rb, 0, none⟩)] 166 (0, 0)) ∧ w0.heap.size ≤ g ∧ g < R
  y : ∃ vr vn, w.heap[sb]? = some (.cells #[.string y.name, .int .u8 y.bind, .int .u8 y.kind, .int .u32 y.size, .string y.bytes, vr, vn] 55 (0, 0)) ∧
    w.ownsRow w0.heap.size 133 4 vr y.rels.length (y.rels.flatMap relCells) ∧ w.ownsRow w0.heap.size 155 3 vn y.notes.length (y.notes.flatMap noteCells) ∧
    (∀ g, vr.ownBlock = some g → g < R) ∧ (∀ g, vn.ownBlock = some g → g < R)
  rd : RrS w rb st
  kb : KR rb w0 w
  rlt : rb < w0.heap.size
  sle : w0.heap.size ≤ sb
  slt : sb < R
  rle : R ≤ w.heap.size
theorem RSymSt.read {R : Nat} {Q : Nat → Prop} {sb rb : Nat} {st st' : RS} {y : GSym} {w0 w w' : World} (h : RSymSt R Q sb rb st y w0 w) (hr : RrS w' rb st') (k : KRR R rb w w') : RSymSt R Q sb rb st' y w0 w' := by
  obtain ⟨vr, vn, h1, h2, h3, h4, h5⟩ := h.y
  have r1 := h.rlt; have r3 := h.sle; have r5 := h.slt; have r6 := h.rle
  have hk : ∀ g, g < R → g ≠ rb → w'.heap[g]? = w.heap[g]? := fun g hg hn => k.block g (by omega) (by rintro (e | e); exact hn e; omega)
  refine ⟨fun g hg => by obtain ⟨q1, q2, q3⟩ := h.q g hg; exact ⟨by rw [hk g q3 (by omega)]; exact q1, q2, q3⟩, ⟨vr, vn, by rw [hk sb r5 (by omega)]; exact h1, own_congr h2 fun g hg => hk g (h4 g hg) (by have := (h2.lt g hg).1; omega), own_congr h3 fun g hg => hk g (h5 g hg) (by have := (h3.lt g hg).1; omega), h4, h5⟩, hr, ?_, r1, r3, r5, Nat.le_trans r6 k.size⟩
  exact ⟨k.os.trans h.kb.os, k.tape.trans h.kb.tape, k.output.trans h.kb.output, Nat.le_trans h.kb.size k.size, fun g hg hn => (hk g (by omega) hn).trans (h.kb.block g hg hn)⟩
/-- behind what leaves the reader alone -/
theorem RSymSt.still {R : Nat} {Q : Nat → Prop} {sb rb : Nat} {st : RS} {y : GSym} {w0 w w' : World} (h : RSymSt R Q sb rb st y w0 w) (k : KB (fun g => R ≤ g) w w') : RSymSt R Q sb rb st y w0 w' :=
  h.read (h.rd.congr (k.block rb h.rd.lt (by have := h.rlt; have := h.sle; have := h.slt; omega))) ⟨k.os, k.tape, k.output, k.size, fun g hg hs => k.block g hg fun e => hs (.inr e)⟩
theorem RSymSt.keep {R : Nat} {Q : Nat → Prop} {sb rb : Nat} {st : RS} {y : GSym} {w0 w w' : World} (h : RSymSt R Q sb rb st y w0 w) (k : Below w.heap.size w w') : RSymSt R Q sb rb st y w0 w' := h.still (KB.of_below k)
theorem RSymSt.fresh {R : Nat} {Q : Nat → Prop} {sb rb : Nat} {st : RS} {y : GSym} {w0 w : World} (h : RSymSt R Q sb rb st y w0 w) : RSymSt w.heap.size Q sb rb st y w0 w := by
  obtain ⟨vr, vn, h1, h2, h3, h4, h5⟩ := h.y
  have := h.rle
  exact ⟨fun g hg => by obtain ⟨q1, q2, q3⟩ := h.q g hg; exact ⟨q1, q2, by omega⟩, ⟨vr, vn, h1, h2, h3, fun g hg => (h2.lt g hg).2, fun g hg => (h3.lt g hg).2⟩, h.rd, h.kb, h.rlt, h.sle, by have := h.slt; omega, Nat.le_refl _⟩
/-- behind the append to the symbol's places -/
theorem RSymSt.addR {R : Nat} {Q : Nat → Prop} {sb rb : Nat} {st : RS} {y : GSym} {w0 w1 wa w2 : World} {vr vn v' : Value} {x : GRel} (h : RSymSt R Q sb rb st y w0 w1)
    (hs : w1.heap[sb]? = some (.cells #[.string y.name, .int .u8 y.bind, .int .u8 y.kind, .int .u32 y.size, .string y.bytes, vr, vn] 55 (0, 0)))
    (hr : w1.ownsRow w0.heap.size 133 4 vr y.rels.length (y.rels.flatMap relCells)) (hn : w1.ownsRow w0.heap.size 155 3 vn y.notes.length (y.notes.flatMap noteCells))
    (ha : Below w1.heap.size w1 wa) (ho : w2.ownsRow w0.heap.size 133 4 v' (y.rels.length + 1) (y.rels.flatMap relCells ++ relCells x)) (hg : wa.grownBy w2 vr.ownBlock) :
    RSymSt (w2.setCell ⟨sb, 5, none⟩ v').heap.size Q sb rb st (addRel y x) w0 (w2.setCell ⟨sb, 5, none⟩ v') := by
  have r1 := h.rlt; have r3 := h.sle; have r5 := h.slt; have r6 := h.rle
  have z1 := ha.size; have z2 := hg.size
  have hz : (w2.setCell ⟨sb, 5, none⟩ v').heap.size = w2.heap.size := by simp
  have hk : ∀ g, g < w1.heap.size → vr.ownBlock ≠ some g → w2.heap[g]? = w1.heap[g]? := fun g hg' hne => by
    rw [hg.block g (by omega) (fun e => hne e.symm), ha.block g hg']
  have hs2 := hk sb (by omega) (own_ne_box hr hs (by decide))
  have hset : ∀ g, g ≠ sb → (w2.setCell ⟨sb, 5, none⟩ v').heap[g]? = w2.heap[g]? := fun g hgs => Below.heap_setCell _ _ _ _ (by simpa using hgs)
  have hqs : ∀ g, Q g → g ≠ sb := fun g hg e => by have h2 := (h.q g hg).1; rw [e, hs] at h2; simp at h2
  have hrb : vr.ownBlock ≠ some rb := fun e => by have := (hr.lt rb e).1; omega
  have hn2 : w2.ownsRow w0.heap.size 155 3 vn y.notes.length (y.notes.flatMap noteCells) := own_congr hn fun g hg' => hk g (hn.lt g hg').2 fun e => own_ne hr hn (by decide) e hg'
  have hs2' : w2.heap[sb]? = some (.cells #[.string y.name, .int .u8 y.bind, .int .u8 y.kind, .int .u32 y.size, .string y.bytes, vr, vn] 55 (0, 0)) := hs2.trans hs
  have e1 : (addRel y x).rels.length = y.rels.length + 1 := by simp [addRel]
  have e2 : (addRel y x).rels.flatMap relCells = y.rels.flatMap relCells ++ relCells x := by simp [addRel]
  have ho3 : (w2.setCell ⟨sb, 5, none⟩ v').ownsRow w0.heap.size 133 4 v' (addRel y x).rels.length ((addRel y x).rels.flatMap relCells) := by
    rw [e1, e2]; exact own_congr ho fun g hg' => hset g fun e => own_ne_box ho (e ▸ hs2') (by decide) hg'
  have hn3 : (w2.setCell ⟨sb, 5, none⟩ v').ownsRow w0.heap.size 155 3 vn y.notes.length (y.notes.flatMap noteCells) := own_congr hn2 fun g hg' => hset g fun e => own_ne_box hn2 (e ▸ hs2') (by decide) hg'
  refine ⟨fun g hg => by obtain ⟨q1, q2, q3⟩ := h.q g hg; exact ⟨by rw [hset g (hqs g hg), hk g (by omega) (own_ne_box hr q1 (by decide))]; exact q1, q2, by rw [hz]; omega⟩, ⟨v', vn, ?_, ho3, hn3, fun g hg' => (ho3.lt g hg').2, fun g hg' => (hn3.lt g hg').2⟩, ?_, ?_, r1, r3, by rw [hz]; omega, Nat.le_refl _⟩
  · simp [World.setCell, Array.getElem?_modify, hs2', addRel]
  · exact h.rd.congr (by rw [hset rb (by omega), hk rb (by omega) hrb])
  · have hg0 := h.kb.grown (w' := w2) (r := vr.ownBlock) ⟨hg.os.trans ha.os, hg.tape.trans ha.tape, hg.output.trans ha.output, Nat.le_trans z1 z2, fun k hk' hne => hk k hk' (fun e => hne e.symm)⟩ (fun k e => .inr (hr.lt k e).1)
    exact KB.setCell hg0 (.inr r3) _
/-- behind the append to the symbol's notes -/
theorem RSymSt.addN {R : Nat} {Q : Nat → Prop} {sb rb : Nat} {st : RS} {y : GSym} {w0 w1 wa w2 : World} {vr vn v' : Value} {x : GNote} (h : RSymSt R Q sb rb st y w0 w1)
    (hs : w1.heap[sb]? = some (.cells #[.string y.name, .int .u8 y.bind, .int .u8 y.kind, .int .u32 y.size, .string y.bytes, vr, vn] 55 (0, 0)))
    (hr : w1.ownsRow w0.heap.size 133 4 vr y.rels.length (y.rels.flatMap relCells)) (hn : w1.ownsRow w0.heap.size 155 3 vn y.notes.length (y.notes.flatMap noteCells))
    (ha : Below w1.heap.size w1 wa) (ho : w2.ownsRow w0.heap.size 155 3 v' (y.notes.length + 1) (y.notes.flatMap noteCells ++ noteCells x)) (hg : wa.grownBy w2 vn.ownBlock) :
    RSymSt (w2.setCell ⟨sb, 6, none⟩ v').heap.size Q sb rb st (addNote y x) w0 (w2.setCell ⟨sb, 6, none⟩ v') := by
  have r1 := h.rlt; have r3 := h.sle; have r5 := h.slt; have r6 := h.rle
  have z1 := ha.size; have z2 := hg.size
  have hz : (w2.setCell ⟨sb, 6, none⟩ v').heap.size = w2.heap.size := by simp
  have hk : ∀ g, g < w1.heap.size → vn.ownBlock ≠ some g → w2.heap[g]? = w1.heap[g]? := fun g hg' hne => by
    rw [hg.block g (by omega) (fun e => hne e.symm), ha.block g hg']
  have hs2 := hk sb (by omega) (own_ne_box hn hs (by decide))
  have hset : ∀ g, g ≠ sb → (w2.setCell ⟨sb, 6, none⟩ v').heap[g]? = w2.heap[g]? := fun g hgs => Below.heap_setCell _ _ _ _ (by simpa using hgs)
  have hqs : ∀ g, Q g → g ≠ sb := fun g hg e => by have h2 := (h.q g hg).1; rw [e, hs] at h2; simp at h2
  have hrb : vn.ownBlock ≠ some rb := fun e => by have := (hn.lt rb e).1; omega
  have hn2 : w2.ownsRow w0.heap.size 133 4 vr y.rels.length (y.rels.flatMap relCells) := own_congr hr fun g hg' => hk g (hr.lt g hg').2 fun e => own_ne hr hn (by decide) hg' e
  have hs2' : w2.heap[sb]? = some (.cells #[.string y.name, .int .u8 y.bind, .int .u8 y.kind, .int .u32 y.size, .string y.bytes, vr, vn] 55 (0, 0)) := hs2.trans hs
  have e1 : (addNote y x).notes.length = y.notes.length + 1 := by simp [addNote]
  have e2 : (addNote y x).notes.flatMap noteCells = y.notes.flatMap noteCells ++ noteCells x := by simp [addNote]
  have ho3 : (w2.setCell ⟨sb, 6, none⟩ v').ownsRow w0.heap.size 155 3 v' (addNote y x).notes.length ((addNote y x).notes.flatMap noteCells) := by
    rw [e1, e2]; exact own_congr ho fun g hg' => hset g fun e => own_ne_box ho (e ▸ hs2') (by decide) hg'
  have hn3 : (w2.setCell ⟨sb, 6, none⟩ v').ownsRow w0.heap.size 133 4 vr y.rels.length (y.rels.flatMap relCells) := own_congr hn2 fun g hg' => hset g fun e => own_ne_box hn2 (e ▸ hs2') (by decide) hg'
  refine ⟨fun g hg => by obtain ⟨q1, q2, q3⟩ := h.q g hg; exact ⟨by rw [hset g (hqs g hg), hk g (by omega) (own_ne_box hn q1 (by decide))]; exact q1, q2, by rw [hz]; omega⟩, ⟨vr, v', ?_, hn3, ho3, fun g hg' => (hn3.lt g hg').2, fun g hg' => (ho3.lt g hg').2⟩, ?_, ?_, r1, r3, by rw [hz]; omega, Nat.le_refl _⟩
  · simp [World.setCell, Array.getElem?_modify, hs2', addNote]
  · exact h.rd.congr (by rw [hset rb (by omega), hk rb (by omega) hrb])
  · have hg0 := h.kb.grown (w' := w2) (r := vn.ownBlock) ⟨hg.os.trans ha.os, hg.tape.trans ha.tape, hg.output.trans ha.output, Nat.le_trans z1 z2, fun k hk' hne => hk k hk' (fun e => hne e.symm)⟩ (fun k e => .inr (hn.lt k e).1)
    exact KB.setCell hg0 (.inr r3) _
theorem RSymSt.put {R : Nat} {Q : Nat → Prop} {sb rb : Nat} {st : RS} {y : GSym} {w0 w : World} (h : RSymSt R Q sb rb st y w0 w) (y' : GSym) (j : Nat) (v : Value) (hr : y'.rels = y.rels) (hn : y'.notes = y.notes)
    (hs : ∀ vr vn, (#[.string y.name, .int .u8 y.bind, .int .u8 y.kind, .int .u32 y.size, .string y.bytes, vr, vn] : Array Value).setIfInBounds j v = #[.string y'.name, .int .u8 y'.bind, .int .u8 y'.kind, .int .u32 y'.size, .string y'.bytes, vr, vn]) :
    RSymSt R Q sb rb st y' w0 (w.setCell ⟨sb, j, none⟩ v) := by
  obtain ⟨vr, vn, h1, h2, h3, h4, h5⟩ := h.y
  have r1 := h.rlt; have r3 := h.sle; have r5 := h.slt; have r6 := h.rle
  have hset : ∀ g, g ≠ sb → (w.setCell ⟨sb, j, none⟩ v).heap[g]? = w.heap[g]? := fun g hgs => Below.heap_setCell _ _ _ _ (by simpa using hgs)
  have hqs : ∀ g, Q g → g ≠ sb := fun g hg e => by have h2 := (h.q g hg).1; rw [e, h1] at h2; simp at h2
  refine ⟨fun g hg => by rw [hset g (hqs g hg)]; exact h.q g hg, ⟨vr, vn, ?_, ?_, ?_, h4, h5⟩, h.rd.congr (hset rb (by omega)), KB.setCell h.kb (.inr r3) _, r1, r3, r5, by simpa using r6⟩
  · rw [← hs]; simp [World.setCell, Array.getElem?_modify, h1]
  · rw [hr]; exact own_congr h2 fun g hg => hset g fun e => own_ne_box h2 (e ▸ h1) (by decide) hg
  · rw [hn]; exact own_congr h3 fun g hg => hset g fun e => own_ne_box h3 (e ▸ h1) (by decide) hg
/-- the symbol's first five cells -/
theorem RSymSt.five {R : Nat} {Q : Nat → Prop} {sb rb : Nat} {st : RS} {y : GSym} {w0 w : World} (h : RSymSt R Q sb rb st y w0 w) :
    (w.cell? ⟨sb, 0, none⟩ = some (.string y.name) ∧ w.cell? ⟨sb, 1, none⟩ = some (.int .u8 y.bind) ∧ w.cell? ⟨sb, 2, none⟩ = some (.int .u8 y.kind) ∧ w.cell? ⟨sb, 3, none⟩ = some (.int .u32 y.size) ∧ w.cell? ⟨sb, 4, none⟩ = some (.string y.bytes)) ∧ ∀ j, w.frozen? ⟨sb, j, none⟩ = false := by
  obtain ⟨vr, vn, h1, -⟩ := h.y
  exact ⟨⟨Lib.cell_of_heap h1 0, Lib.cell_of_heap h1 1, Lib.cell_of_heap h1 2, Lib.cell_of_heap h1 3, Lib.cell_of_heap h1 4⟩, fun j => Lib.frozen_of_heap h1 j⟩
end Go.Proofs.YtboegjdkedjhcaaGreatDoor
namespace Go.Proofs.YtboegjdkedjhcaaGreatDoor
open Go.RowKit Go.Maps
theorem one1 (rb : Nat) (st : RS) (w : World) (h : RrS w rb st) : Calls Tryz.prog 96 #[.pointer (some ⟨rb, 0, none⟩), .int .i64 1] w (OnPost rb 1 st w) := one_any rb 1 st w h (by omega) (by omega)
theorem one2 (rb : Nat) (st : RS) (w : World) (h : RrS w rb st) : Calls Tryz.prog 96 #[.pointer (some ⟨rb, 0, none⟩), .int .i64 2] w (OnPost rb 2 st w) := one_any rb 2 st w h (by omega) (by omega)
theorem one4 (rb : Nat) (st : RS) (w : World) (h : RrS w rb st) : Calls Tryz.prog 96 #[.pointer (some ⟨rb, 0, none⟩), .int .i64 4] w (OnPost rb 4 st w) := one_any rb 4 st w h (by omega) (by omega)
def RSPost (rb : Nat) (r : GSym × RS) (w : World) (e : Ending) (w' : World) : Prop := ∃ vr vn, e = .returned (.agg #[.string r.1.name, .int .u8 r.1.bind, .int .u8 r.1.kind, .int .u32 r.1.size, .string r.1.bytes, vr, vn]) ∧
  w'.ownsRow w.heap.size 133 4 vr r.1.rels.length (r.1.rels.flatMap relCells) ∧ w'.ownsRow w.heap.size 155 3 vn r.1.notes.length (r.1.notes.flatMap noteCells) ∧ RrS w' rb r.2 ∧ KR rb w w'
/-- what stands behind the copy into the result's block -/
theorem refSym_fin {w w0 wr : World} {sb rb R : Nat} {st' : RS} {yn yy : ByteArray} {yb yk ys : Int} {yr : List GRel} {yt : List GNote} {pR pN : Option Addr} {cR cN : Nat} {r : GSym × RS}
    (hb0 : Below w.heap.size w w0) (hz0 : w.heap.size < w0.heap.size) (hs : RSymSt R (fun _ => False) sb rb st' ⟨yn, yb, yk, ys, yy, yr, yt⟩ w0 wr)
    (g2 : wr.ownsRow w0.heap.size 133 4 (.slice pR yr.length cR) yr.length (yr.flatMap relCells)) (g3 : wr.ownsRow w0.heap.size 155 3 (.slice pN yt.length cN) yt.length (yt.flatMap noteCells))
    (he : r = (⟨yn, yb, yk, ys, yy, yr, yt⟩, st')) (hlt : rb < w.heap.size) (u0 u1 u2 u3 u4 u5 u6 : Value) :
    RSPost rb r w (.returned (.agg #[.string yn, .int .u8 yb, .int .u8 yk, .int .u32 ys, .string yy, .slice pR yr.length cR, .slice pN yt.length cN]))
      (((((((wr.setCell ⟨w.heap.size, 0, none⟩ u0).setCell ⟨w.heap.size, 1, none⟩ u1).setCell ⟨w.heap.size, 2, none⟩ u2).setCell ⟨w.heap.size, 3, none⟩ u3).setCell ⟨w.heap.size, 4, none⟩ u4).setCell ⟨w.heap.size, 5, none⟩ u5).setCell ⟨w.heap.size, 6, none⟩ u6) := by
  subst he
  have hset : ∀ (W : World) (j : Nat) (u : Value) (g : Nat), g ≠ w.heap.size → (W.setCell ⟨w.heap.size, j, none⟩ u).heap[g]? = W.heap[g]? := fun W j u g hg => Below.heap_setCell _ _ _ _ (by simpa using hg)
  have hle : w.heap.size ≤ w0.heap.size := by omega
  have k0 : KR rb w wr := (KB.of_below hb0).trans hs.kb
  refine ⟨_, _, rfl, own_congr (g2.mono hle) fun g hg => ?_, own_congr (g3.mono hle) fun g hg => ?_, hs.rd.congr ?_, ((((((KB.setCell k0 (.inr (Nat.le_refl _)) _).setCell (.inr (Nat.le_refl _)) _).setCell (.inr (Nat.le_refl _)) _).setCell (.inr (Nat.le_refl _)) _).setCell (.inr (Nat.le_refl _)) _).setCell (.inr (Nat.le_refl _)) _).setCell (.inr (Nat.le_refl _)) _⟩
  · have := (g2.lt g hg).1
    simp only [hset _ _ _ g (by omega)]
  · have := (g3.lt g hg).1
    simp only [hset _ _ _ g (by omega)]
  · simp only [hset _ _ _ rb (show rb ≠ w.heap.size by omega)]
set_option maxRecDepth 100000 in
set_option maxHeartbeats 4000000 in
theorem refSymRd_any (rb : Nat) (st : RS) (w : World) (h : RrS w rb st) :
    Calls Tryz.prog 97 #[.pointer (some ⟨rb, 0, none⟩)] w (RSPost rb (rSym st) w) := by
  have hlt := h.lt
  have H := Lib.hid h; clear h
  go_enter Tryz.func97, Tryz.ntmps97
  go_upto_region 1 with fail
  generalize hw0 : w.alloc (.cells #[.string ⟨#[]⟩, .int .u8 0, .int .u8 0, .int .u32 0, .string ⟨#[]⟩, .slice none 0 0, .slice none 0 0] 55) = w0
  have HB0 : Hid (Below w.heap.size w w0) := by subst hw0; exact alloc_old _ _
  have hz0 : w.heap.size < w0.heap.size := by subst hw0; simp
  have HR0 : Hid (w0.heap[w.heap.size]? = some (.cells #[.string ⟨#[]⟩, .int .u8 0, .int .u8 0, .int .u32 0, .string ⟨#[]⟩, .slice none 0 0, .slice none 0 0] 55 (0, 0))) := by subst hw0; exact heap_alloc_new w _
  clear hw0
  replace H := Lib.hid (H.out.congr (HB0.out.block rb hlt))
  go_wp2_with fail
  refine (word09_any rb st w0 H.out).mono ?_
  rintro e w1 ⟨rfl, k1, k2⟩
  have K1 := Lib.hid k1; have K2 := Lib.hid k2
  clear k1 k2
  go_upto_region 2 with fail
  have HS : Hid (RSymSt (w1.alloc (.cells #[.string (rText st).1, .int .u8 0, .int .u8 0, .int .u32 0, .string ⟨#[]⟩, .slice none 0 0, .slice none 0 0] 55)).heap.size (fun _ => False) w1.heap.size rb (rText st).2 { sym0 with name := (rText st).1 } w0 (w1.alloc (.cells #[.string (rText st).1, .int .u8 0, .int .u8 0, .int .u32 0, .string ⟨#[]⟩, .slice none 0 0, .slice none 0 0] 55))) := by
    have hb := alloc_old w1 (.cells #[.string (rText st).1, .int .u8 0, .int .u8 0, .int .u32 0, .string ⟨#[]⟩, .slice none 0 0, .slice none 0 0] 55)
    exact ⟨fun g hg => hg.elim, ⟨.slice none 0 0, .slice none 0 0, heap_alloc_new w1 _, World.ownsRow_nil _ _ _ _, World.ownsRow_nil _ _ _ _, fun g hg => (by cases hg), fun g hg => (by cases hg)⟩, K1.out.congr (hb.block rb K1.out.lt), K2.out.trans (KB.of_below hb), by omega, K2.out.size, by simp, Nat.le_refl _⟩
  generalize w1.alloc (.cells #[.string (rText st).1, .int .u8 0, .int .u8 0, .int .u32 0, .string ⟨#[]⟩, .slice none 0 0, .slice none 0 0] 55) = w2 at HS ⊢
  generalize w1.heap.size = sb at HS ⊢
  have hbd := rNum_bd 1 (rText st).2
  rw [p1] at hbd
  have hb0 := hbd.1
  have hb1 : (rNum 1 (rText st).2).1 ≤ 255 := by omega
  clear hbd
  go_wp2_with fail
  refine (one1 rb _ _ HS.out.rd).mono ?_
  rintro e wn ⟨rfl, k1, k2⟩
  replace HS := Lib.hid (HS.out.read k1 (KRR.of_kr k2)); clear k1 k2
  obtain ⟨⟨b0, b1, b2, b3, b4⟩, bf⟩ := HS.out.five
  have ff := bf 1
  clear bf
  go_upto_region 3 with fail
  replace HS := Lib.hid (HS.out.put { sym0 with name := (rText st).1, bind := (rNum 1 (rText st).2).1 } 1 (.int .u8 (rNum 1 (rText st).2).1) rfl rfl (fun _ _ => rfl))
  clear b0 b1 b2 b3 b4 ff hb0 hb1
  generalize wn.setCell ⟨sb, 1, none⟩ (.int .u8 (rNum 1 (rText st).2).1) = w3 at HS ⊢
  have hbd := rNum_bd 1 (rNum 1 (rText st).2).2
  rw [p1] at hbd
  have hb0 := hbd.1
  have hb1 : (rNum 1 (rNum 1 (rText st).2).2).1 ≤ 255 := by omega
  clear hbd
  go_wp2_with fail
  refine (one1 rb _ _ HS.out.rd).mono ?_
  rintro e wn ⟨rfl, k1, k2⟩
  replace HS := Lib.hid (HS.out.read k1 (KRR.of_kr k2)); clear k1 k2
  obtain ⟨⟨b0, b1, b2, b3, b4⟩, bf⟩ := HS.out.five
  have ff := bf 2
  clear bf
  go_upto_region 4 with fail
  replace HS := Lib.hid (HS.out.put { sym0 with name := (rText st).1, bind := (rNum 1 (rText st).2).1, kind := (rNum 1 (rNum 1 (rText st).2).2).1 } 2 (.int .u8 (rNum 1 (rNum 1 (rText st).2).2).1) rfl rfl (fun _ _ => rfl))
  clear b0 b1 b2 b3 b4 ff hb0 hb1
  generalize wn.setCell ⟨sb, 2, none⟩ (.int .u8 (rNum 1 (rNum 1 (rText st).2).2).1) = w4 at HS ⊢
  go_wp2_with fail
  refine (one4 rb _ _ HS.out.rd).mono ?_
  rintro e wn ⟨rfl, k1, k2⟩
  replace HS := Lib.hid (HS.out.read k1 (KRR.of_kr k2)); clear k1 k2
  obtain ⟨⟨b0, b1, b2, b3, b4⟩, bf⟩ := HS.out.five
  have ff := bf 3
  clear bf
  go_upto_region 5 with fail
  replace HS := Lib.hid (HS.out.put { sym0 with name := (rText st).1, bind := (rNum 1 (rText st).2).1, kind := (rNum 1 (rNum 1 (rText st).2).2).1, size := (rNum 4 (rNum 1 (rNum 1 (rText st).2).2).2).1 } 3 (.int .u32 (rNum 4 (rNum 1 (rNum 1 (rText st).2).2).2).1) rfl rfl (fun _ _ => rfl))
  clear b0 b1 b2 b3 b4 ff
  generalize wn.setCell ⟨sb, 3, none⟩ (.int .u32 (rNum 4 (rNum 1 (rNum 1 (rText st).2).2).2).1) = w5 at HS ⊢
  go_wp2_with fail
  refine (word09_any rb _ _ HS.out.rd).mono ?_
  rintro e wn ⟨rfl, k1, k2⟩
  replace HS := Lib.hid (HS.out.read k1 (KRR.of_kr k2)); clear k1 k2
  obtain ⟨⟨b0, b1, b2, b3, b4⟩, bf⟩ := HS.out.five
  have ff := bf 4
  clear bf
  go_upto_region 6 with fail
  replace HS := Lib.hid (HS.out.put { sym0 with name := (rText st).1, bind := (rNum 1 (rText st).2).1, kind := (rNum 1 (rNum 1 (rText st).2).2).1, size := (rNum 4 (rNum 1 (rNum 1 (rText st).2).2).2).1, bytes := (rText (rNum 4 (rNum 1 (rNum 1 (rText st).2).2).2).2).1 } 4 (.string (rText (rNum 4 (rNum 1 (rNum 1 (rText st).2).2).2).2).1) rfl rfl (fun _ _ => rfl))
  clear b0 b1 b2 b3 b4 ff
  generalize wn.setCell ⟨sb, 4, none⟩ (.string (rText (rNum 4 (rNum 1 (rNum 1 (rText st).2).2).2).2).1) = w6 at HS ⊢
  generalize hst5 : (rText (rNum 4 (rNum 1 (rNum 1 (rText st).2).2).2).2).2 = st5 at HS
  have HST5 := Lib.hid hst5; clear hst5
  generalize hy5 : ({ sym0 with name := (rText st).1, bind := (rNum 1 (rText st).2).1, kind := (rNum 1 (rNum 1 (rText st).2).2).1, size := (rNum 4 (rNum 1 (rNum 1 (rText st).2).2).2).1, bytes := (rText (rNum 4 (rNum 1 (rNum 1 (rText st).2).2).2).2).1 } : GSym) = y5 at HS
  have HY5 := Lib.hid hy5; clear hy5
  have HR5 : Hid (y5.rels = [] ∧ y5.notes = []) := by rw [Hid, ← HY5.out]; exact ⟨rfl, rfl⟩
  have HBD := Lib.hid (rNum_bd 2 st5)
  rw [p2] at HBD
  have HC := Lib.hid (one2 rb st5 _ HS.out.rd)
  have HSY : Hid (rSym st = (fun (q : Int × RS) => (withNotes (withRels y5 (rMany rRel q.1.toNat q.2).1) (rMany rNote (rNum 1 (rMany rRel q.1.toNat q.2).2).1.toNat (rNum 1 (rMany rRel q.1.toNat q.2).2).2).1, (rMany rNote (rNum 1 (rMany rRel q.1.toNat q.2).2).1.toNat (rNum 1 (rMany rRel q.1.toNat q.2).2).2).2)) (rNum 2 st5)) := by
    rw [Hid, ← HST5.out, ← HY5.out]; rfl
  unfold OnPost at HC
  generalize rNum 2 st5 = nn at HC HBD HSY
  obtain ⟨n1, st6⟩ := nn
  simp only [] at HC HBD HSY
  obtain ⟨k, rfl⟩ := Int.eq_ofNat_of_zero_le HBD.out.1
  have hk : (k : Int) < 65536 := HBD.out.2
  rw [Int.toNat_natCast] at HSY
  go_wp2_with fail
  refine HC.out.mono ?_
  rintro e w7 ⟨rfl, k1, k2⟩
  replace HS := Lib.hid (HS.out.read k1 (KRR.of_kr k2)); clear k1 k2 HC HBD HST5 HY5
  have HG0 : Hid (GR y5 (rMany rRel k st6) k st6 y5) := ⟨rfl, by rw [HR5.out.1]; rfl, rfl, by rw [HR5.out.1]; simp; omega⟩
  generalize rMany rRel k st6 = T at HG0 HSY
  go_wp2
  go_loopw [5] (fun v5 wr => ∃ (i j : Nat) (st' : RS) (y' : GSym) (R' : Nat), v5 = .int .u32 i ∧ i + j = k ∧ GR y5 T j st' y' ∧ RSymSt R' (fun _ => False) sb rb st' y' w0 wr) (fun v5 _ => k - (intOf v5).toNat)
  case atStart => exact ⟨0, k, st6, y5, _, rfl, by omega, HG0.out, HS.out⟩
  case round =>
    clear HG0 HS
    obtain ⟨i, j, st', y', R', rfl, hij, hg, hs⟩ := hrel
    have HG := Lib.hid hg; have HS := Lib.hid hs.fresh
    have hj := hg.2.2.2
    clear hg hs
    obtain ⟨sS, fF, hb, he⟩ := HS.out.rd
    have c1 := hb.c1
    have HE := Lib.hid he; clear hb he
    by_cases hround : j ≠ 0 ∧ fF = 0
    · obtain ⟨hj0, rfl⟩ := hround
      have HE2 : Hid (st' = some sS.data.toList) := HE.out.trans rrOf_ok
      generalize sS.data.toList = r at HE2
      obtain ⟨j', rfl⟩ : ∃ j', j = j' + 1 := ⟨j - 1, by omega⟩
      have hg := HG.out
      rw [HE2.out] at hg
      have HGS := Lib.hid hg.step
      rw [HE2.out] at HS
      clear hg HE HG HE2
      have d1 : decide ((i : Int) < (k : Int)) = true := by simp; omega
      have d1' : decide (i < k) = true := by simp; omega
      go_wp2_with fail
      refine (one4 rb _ _ HS.out.rd).mono ?_
      rintro e wn ⟨rfl, k1, k2⟩
      replace HS := Lib.hid (HS.out.read k1 (KRR.of_kr k2)); clear k1 k2 c1
      go_upto_region 11 with fail
      have hxr : wr.heap.size ≤ wn.heap.size := HS.out.rle
      have HX : Hid ((wn.alloc (.cells #[.int .u32 (rNum 4 (some r)).1, .int .u8 0, .string ⟨#[]⟩, .int .u32 0] 133)).heap[wn.heap.size]? = some (.cells #[.int .u32 (rNum 4 (some r)).1, .int .u8 0, .string ⟨#[]⟩, .int .u32 0] 133 (0, 0))) := heap_alloc_new wn _
      replace HS := Lib.hid (HS.out.keep (alloc_old wn (.cells #[.int .u32 (rNum 4 (some r)).1, .int .u8 0, .string ⟨#[]⟩, .int .u32 0] 133)))
      generalize wn.alloc (.cells #[.int .u32 (rNum 4 (some r)).1, .int .u8 0, .string ⟨#[]⟩, .int .u32 0] 133) = wb at HS HX ⊢
      generalize wn.heap.size = xb at hxr HX ⊢
      have hbd := rNum_bd 1 (rNum 4 (some r)).2
      rw [p1] at hbd
      have hb0 := hbd.1
      have hb1 : (rNum 1 (rNum 4 (some r)).2).1 ≤ 255 := by omega
      clear hbd
      go_wp2_with fail
      refine (one1 rb _ _ HS.out.rd).mono ?_
      rintro e wn ⟨rfl, k1, k2⟩
      replace HX := Lib.hid ((k2.block xb (Array.getElem?_eq_some_iff.1 HX.out).1 (by have := HS.out.rlt; have := HS.out.sle; have := HS.out.slt; omega)).trans HX.out)
      replace HS := Lib.hid (HS.out.read k1 (KRR.of_kr k2)); clear k1 k2
      have bb : wn.cell? ⟨xb, 1, none⟩ = some (.int .u8 0) := Lib.cell_of_heap HX.out 1
      have ff : wn.frozen? ⟨xb, 1, none⟩ = false := Lib.frozen_of_heap HX.out 1
      go_upto_region 12 with fail
      replace HX : Hid ((wn.setCell ⟨xb, 1, none⟩ (.int .u8 (rNum 1 (rNum 4 (some r)).2).1)).heap[xb]? = some (.cells #[.int .u32 (rNum 4 (some r)).1, .int .u8 (rNum 1 (rNum 4 (some r)).2).1, .string ⟨#[]⟩, .int .u32 0] 133 (0, 0))) := by
        rw [Hid]; simp [World.setCell, Array.getElem?_modify, HX.out]
      replace HS := Lib.hid (HS.out.still ((KB.refl _ wn).setR hxr 1 (.int .u8 (rNum 1 (rNum 4 (some r)).2).1)))
      clear bb ff hb0 hb1
      generalize wn.setCell ⟨xb, 1, none⟩ (.int .u8 (rNum 1 (rNum 4 (some r)).2).1) = wb1 at HS HX ⊢
      go_wp2_with fail
      refine (word09_any rb _ _ HS.out.rd).mono ?_
      rintro e wn ⟨rfl, k1, k2⟩
      replace HX := Lib.hid ((k2.block xb (Array.getElem?_eq_some_iff.1 HX.out).1 (by have := HS.out.rlt; have := HS.out.sle; have := HS.out.slt; omega)).trans HX.out)
      replace HS := Lib.hid (HS.out.read k1 (KRR.of_kr k2)); clear k1 k2
      have bb : wn.cell? ⟨xb, 2, none⟩ = some (.string ⟨#[]⟩) := Lib.cell_of_heap HX.out 2
      have ff : wn.frozen? ⟨xb, 2, none⟩ = false := Lib.frozen_of_heap HX.out 2
      go_upto_region 13 with fail
      replace HX : Hid ((wn.setCell ⟨xb, 2, none⟩ (.string (rText (rNum 1 (rNum 4 (some r)).2).2).1)).heap[xb]? = some (.cells #[.int .u32 (rNum 4 (some r)).1, .int .u8 (rNum 1 (rNum 4 (some r)).2).1, .string (rText (rNum 1 (rNum 4 (some r)).2).2).1, .int .u32 0] 133 (0, 0))) := by
        rw [Hid]; simp [World.setCell, Array.getElem?_modify, HX.out]
      replace HS := Lib.hid (HS.out.still ((KB.refl _ wn).setR hxr 2 (.string (rText (rNum 1 (rNum 4 (some r)).2).2).1)))
      clear bb ff
      generalize wn.setCell ⟨xb, 2, none⟩ (.string (rText (rNum 1 (rNum 4 (some r)).2).2).1) = wb2 at HS HX ⊢
      go_wp2_with fail
      refine (one4 rb _ _ HS.out.rd).mono ?_
      rintro e wn ⟨rfl, k1, k2⟩
      replace HX := Lib.hid ((k2.block xb (Array.getElem?_eq_some_iff.1 HX.out).1 (by have := HS.out.rlt; have := HS.out.sle; have := HS.out.slt; omega)).trans HX.out)
      replace HS := Lib.hid (HS.out.read k1 (KRR.of_kr k2)); clear k1 k2
      have bb : wn.cell? ⟨xb, 3, none⟩ = some (.int .u32 0) := Lib.cell_of_heap HX.out 3
      have ff : wn.frozen? ⟨xb, 3, none⟩ = false := Lib.frozen_of_heap HX.out 3
      go_upto_region 14 with fail
      replace HX : Hid ((wn.setCell ⟨xb, 3, none⟩ (.int .u32 (rNum 4 (rText (rNum 1 (rNum 4 (some r)).2).2).2).1)).heap[xb]? = some (.cells #[.int .u32 (rNum 4 (some r)).1, .int .u8 (rNum 1 (rNum 4 (some r)).2).1, .string (rText (rNum 1 (rNum 4 (some r)).2).2).1, .int .u32 (rNum 4 (rText (rNum 1 (rNum 4 (some r)).2).2).2).1] 133 (0, 0))) := by
        rw [Hid]; simp [World.setCell, Array.getElem?_modify, HX.out]
      replace HS := Lib.hid (HS.out.still ((KB.refl _ wn).setR hxr 3 (.int .u32 (rNum 4 (rText (rNum 1 (rNum 4 (some r)).2).2).2).1)))
      clear bb ff
      generalize wn.setCell ⟨xb, 3, none⟩ (.int .u32 (rNum 4 (rText (rNum 1 (rNum 4 (some r)).2).2).2).1) = wb3 at HS HX ⊢
      generalize hrr : rRel (some r) = rr at HGS
      have HX3 : Hid (wb3.heap[xb]? = some (.cells #[.int .u32 rr.1.off, .int .u8 rr.1.kind, .string rr.1.name, .int .u32 rr.1.add] 133 (0, 0))) := by rw [Hid, ← hrr]; exact HX.out
      have HS3 : Hid (RSymSt wr.heap.size (fun _ => False) sb rb rr.2 y' w0 wb3) := by rw [← hrr]; exact HS.out
      clear hrr HX HS
      obtain ⟨⟨ro, rk, rn, ra⟩, rst⟩ := rr
      simp only [] at HX3 HS3 HGS
      have HX := HX3; have HS := HS3
      clear HX3 HS3
      obtain ⟨vr, vn, g1, g2, g3, -, -⟩ := HS.out.y
      obtain ⟨pR, cR, rfl⟩ := own_shape g2
      have G1 := Lib.hid g1; have G2 := Lib.hid g2; have G3 := Lib.hid g3
      clear g1 g2 g3
      have s5 : wb3.cell? ⟨sb, 5, none⟩ = some (.slice pR y'.rels.length cR) := Lib.cell_of_heap G1.out 5
      have x0 : wb3.cell? ⟨xb, 0, none⟩ = some (.int .u32 ro) := Lib.cell_of_heap HX.out 0
      have x1 : wb3.cell? ⟨xb, 1, none⟩ = some (.int .u8 rk) := Lib.cell_of_heap HX.out 1
      have x2 : wb3.cell? ⟨xb, 2, none⟩ = some (.string rn) := Lib.cell_of_heap HX.out 2
      have x3 : wb3.cell? ⟨xb, 3, none⟩ = some (.int .u32 ra) := Lib.cell_of_heap HX.out 3
      obtain ⟨iR, r0, r1, r2, r3⟩ := info_parts info_rel
      have HA := Lib.hid (And.intro r0 (And.intro r1 (And.intro r2 r3)))
      clear r0 r1 r2 r3
      have hz1 := HS.out.kb.size
      have hzs : sb < wb3.heap.size := (Array.getElem?_eq_some_iff.1 G1.out).1
      go_wp2_with (at_builtin; refine wpList_append_own_at _ rfl _ _ 52 rfl w0.heap.size 133 iR _ 4 32 Tryz.underlying52 HA.out.1 HA.out.2.1 HA.out.2.2.1 HA.out.2.2.2 rfl (by decide) _ y'.rels.length (y'.rels.flatMap relCells) rfl ?c0 _ 1 1 (relCells ⟨ro, rk, rn, ra⟩) rfl rfl ?c1 ?c2 ?c3 ?c4 ?c5 ?_)
      case c0 => exact G2.out.alloc _
      case c1 =>
        intro j u hu
        rw [add_at, Nat.zero_add]
        match j, hu with
        | 0, hu => cases hu; simp [go_sem]
        | 1, hu => cases hu; simp [go_sem]
        | 2, hu => cases hu; simp [go_sem]
        | 3, hu => cases hu; simp [go_sem]
      case c2 =>
        intro u hu
        simp only [relCells, List.mem_cons, List.not_mem_nil, or_false] at hu
        rcases hu with rfl | rfl | rfl | rfl <;> rfl
      case c3 => unfold maxLen; omega
      case c4 => omega
      case c5 => simp; omega
      intro v' w9 hown hgrow _ _
      have HF := Lib.hid (HS.out.addR (x := ⟨ro, rk, rn, ra⟩) G1.out G2.out G3.out (alloc_old _ _) hown hgrow)
      have hb : w9.heap[sb]? = wb3.heap[sb]? := by rw [hgrow.block sb (by simp; omega) (fun e => own_ne_box G2.out G1.out (by decide) e.symm), Below.heap_alloc _ _ _ hzs]
      have t5 : w9.cell? ⟨sb, 5, none⟩ = some (.slice pR y'.rels.length cR) := by rw [World.cell?_of_block (w := wb3) hb]; exact s5
      have tf : w9.frozen? ⟨sb, 5, none⟩ = false := Lib.frozen_of_heap (hb.trans G1.out) 5
      obtain ⟨pv, cv, rfl⟩ := own_shape hown
      clear hown hgrow hb s5 x0 x1 x2 x3
      go_wp2
      go_roundw
      case rel => exact ⟨i + 1, j', _, _, _, by go_num, by omega, HGS.out, HF.out⟩
      case measure => simp [intOf]; omega
    · have HD := Lib.hid (HG.out.done (by
        by_cases hj0 : j = 0
        · exact .inl hj0
        · exact .inr (HE.out.trans (rrOf_bad fun e => hround ⟨hj0, e⟩))))
      have hdone : (decide ((i : Int) < (k : Int)) = false ∧ decide (i < k) = false) ∨ (decide ((i : Int) < (k : Int)) = true ∧ decide (i < k) = true ∧ (fF == 0) = false) := by
        by_cases hj0 : j = 0
        · exact .inl ⟨by simp; omega, by simp; omega⟩
        · exact .inr ⟨by simp; omega, by simp; omega, by simp; exact fun e => hround ⟨hj0, e⟩⟩
      clear hround
      obtain ⟨T1, T2⟩ := T
      simp only [] at HD HSY
      obtain ⟨h1, h2⟩ := HD.out
      rw [h1, h2] at HS
      clear h1 h2 HD HG HE hj hij
      have HC := Lib.hid (one1 rb T2 _ HS.out.rd)
      have HBD := Lib.hid (rNum_bd 1 T2)
      rw [p1] at HBD
      have HN5 : Hid ((withRels y5 T1).notes = []) := HR5.out.2
      unfold OnPost at HC
      generalize withRels y5 T1 = y6 at HS HSY HN5
      generalize rNum 1 T2 = nn at HC HBD HSY
      obtain ⟨n2, st7⟩ := nn
      simp only [] at HC HBD HSY
      obtain ⟨kn, rfl⟩ := Int.eq_ofNat_of_zero_le HBD.out.1
      have hkn : (kn : Int) < 256 := HBD.out.2
      rw [Int.toNat_natCast] at HSY
      rcases hdone with ⟨d, d'⟩ | ⟨d, d', bf⟩
      all_goals
        go_wp2_with fail
        refine HC.out.mono ?_
        rintro e w8 ⟨rfl, k1, k2⟩
        replace HS := Lib.hid (HS.out.read k1 (KRR.of_kr k2)); clear k1 k2 HC HBD c1
        have HG0 : Hid (GN y6 (rMany rNote kn st7) kn st7 y6) := ⟨rfl, by rw [HN5.out]; rfl, rfl, by rw [HN5.out]; simp; omega⟩
        generalize rMany rNote kn st7 = T at HG0 HSY
        go_wp2
        go_loopw [7] (fun v7 wr => ∃ (i j : Nat) (st' : RS) (y' : GSym) (R' : Nat), v7 = .int .u32 i ∧ i + j = kn ∧ GN y6 T j st' y' ∧ RSymSt R' (fun _ => False) sb rb st' y' w0 wr) (fun v7 _ => kn - (intOf v7).toNat)
        case atStart => exact ⟨0, kn, st7, y6, _, rfl, by omega, HG0.out, HS.out⟩
        case round =>
          clear HG0 HS d d'
          obtain ⟨i2, j, st', y', R', rfl, hij, hg, hs⟩ := hrel
          have HG := Lib.hid hg; have HS := Lib.hid hs.fresh
          have hj := hg.2.2.2
          clear hg hs
          obtain ⟨sS2, fF2, hb, he⟩ := HS.out.rd
          have c1 := hb.c1
          have HE := Lib.hid he; clear hb he
          by_cases hround : j ≠ 0 ∧ fF2 = 0
          · obtain ⟨hj0, rfl⟩ := hround
            have HE2 : Hid (st' = some sS2.data.toList) := HE.out.trans rrOf_ok
            generalize sS2.data.toList = r at HE2
            obtain ⟨j', rfl⟩ : ∃ j', j = j' + 1 := ⟨j - 1, by omega⟩
            have hg := HG.out
            rw [HE2.out] at hg
            have HGS := Lib.hid hg.step
            rw [HE2.out] at HS
            clear hg HE HG HE2
            have d1 : decide ((i2 : Int) < (kn : Int)) = true := by simp; omega
            have d1' : decide (i2 < kn) = true := by simp; omega
            have hbd := rNum_bd 1 (some r)
            rw [p1] at hbd
            have hb0 := hbd.1
            have hb1 : (rNum 1 (some r)).1 ≤ 255 := by omega
            clear hbd
            go_wp2_with fail
            refine (one1 rb _ _ HS.out.rd).mono ?_
            rintro e wn ⟨rfl, k1, k2⟩
            replace HS := Lib.hid (HS.out.read k1 (KRR.of_kr k2)); clear k1 k2 c1
            go_upto_region 20 with fail
            have hxr : wr.heap.size ≤ wn.heap.size := HS.out.rle
            have HX : Hid ((wn.alloc (.cells #[.int .u8 (rNum 1 (some r)).1, .int .u32 0, .int .u32 0] 155)).heap[wn.heap.size]? = some (.cells #[.int .u8 (rNum 1 (some r)).1, .int .u32 0, .int .u32 0] 155 (0, 0))) := heap_alloc_new wn _
            replace HS := Lib.hid (HS.out.keep (alloc_old wn (.cells #[.int .u8 (rNum 1 (some r)).1, .int .u32 0, .int .u32 0] 155)))
            clear hb0 hb1
            generalize wn.alloc (.cells #[.int .u8 (rNum 1 (some r)).1, .int .u32 0, .int .u32 0] 155) = wb at HS HX ⊢
            generalize wn.heap.size = xb at hxr HX ⊢
            go_wp2_with fail
            refine (one4 rb _ _ HS.out.rd).mono ?_
            rintro e wn ⟨rfl, k1, k2⟩
            replace HX := Lib.hid ((k2.block xb (Array.getElem?_eq_some_iff.1 HX.out).1 (by have := HS.out.rlt; have := HS.out.sle; have := HS.out.slt; omega)).trans HX.out)
            replace HS := Lib.hid (HS.out.read k1 (KRR.of_kr k2)); clear k1 k2
            have bb : wn.cell? ⟨xb, 1, none⟩ = some (.int .u32 0) := Lib.cell_of_heap HX.out 1
            have ff : wn.frozen? ⟨xb, 1, none⟩ = false := Lib.frozen_of_heap HX.out 1
            go_upto_region 21 with fail
            replace HX : Hid ((wn.setCell ⟨xb, 1, none⟩ (.int .u32 (rNum 4 (rNum 1 (some r)).2).1)).heap[xb]? = some (.cells #[.int .u8 (rNum 1 (some r)).1, .int .u32 (rNum 4 (rNum 1 (some r)).2).1, .int .u32 0] 155 (0, 0))) := by
              rw [Hid]; simp [World.setCell, Array.getElem?_modify, HX.out]
            replace HS := Lib.hid (HS.out.still ((KB.refl _ wn).setR hxr 1 (.int .u32 (rNum 4 (rNum 1 (some r)).2).1)))
            clear bb ff
            generalize wn.setCell ⟨xb, 1, none⟩ (.int .u32 (rNum 4 (rNum 1 (some r)).2).1) = wb1 at HS HX ⊢
            go_wp2_with fail
            refine (one4 rb _ _ HS.out.rd).mono ?_
            rintro e wn ⟨rfl, k1, k2⟩
            replace HX := Lib.hid ((k2.block xb (Array.getElem?_eq_some_iff.1 HX.out).1 (by have := HS.out.rlt; have := HS.out.sle; have := HS.out.slt; omega)).trans HX.out)
            replace HS := Lib.hid (HS.out.read k1 (KRR.of_kr k2)); clear k1 k2
            have bb : wn.cell? ⟨xb, 2, none⟩ = some (.int .u32 0) := Lib.cell_of_heap HX.out 2
            have ff : wn.frozen? ⟨xb, 2, none⟩ = false := Lib.frozen_of_heap HX.out 2
            go_upto_region 22 with fail
            replace HX : Hid ((wn.setCell ⟨xb, 2, none⟩ (.int .u32 (rNum 4 (rNum 4 (rNum 1 (some r)).2).2).1)).heap[xb]? = some (.cells #[.int .u8 (rNum 1 (some r)).1, .int .u32 (rNum 4 (rNum 1 (some r)).2).1, .int .u32 (rNum 4 (rNum 4 (rNum 1 (some r)).2).2).1] 155 (0, 0))) := by
              rw [Hid]; simp [World.setCell, Array.getElem?_modify, HX.out]
            replace HS := Lib.hid (HS.out.still ((KB.refl _ wn).setR hxr 2 (.int .u32 (rNum 4 (rNum 4 (rNum 1 (some r)).2).2).1)))
            clear bb ff
            generalize wn.setCell ⟨xb, 2, none⟩ (.int .u32 (rNum 4 (rNum 4 (rNum 1 (some r)).2).2).1) = wb3 at HS HX ⊢
            generalize hrr : rNote (some r) = rr at HGS
            have HX3 : Hid (wb3.heap[xb]? = some (.cells #[.int .u8 rr.1.kind, .int .u32 rr.1.n, .int .u32 rr.1.m] 155 (0, 0))) := by rw [Hid, ← hrr]; exact HX.out
            have HS3 : Hid (RSymSt wr.heap.size (fun _ => False) sb rb rr.2 y' w0 wb3) := by rw [← hrr]; exact HS.out
            clear hrr HX HS
            obtain ⟨⟨rk, rn, ra⟩, rst⟩ := rr
            simp only [] at HX3 HS3 HGS
            have HX := HX3; have HS := HS3
            clear HX3 HS3
            obtain ⟨vr, vn, g1, g2, g3, -, -⟩ := HS.out.y
            obtain ⟨pR, cR, rfl⟩ := own_shape g3
            have G1 := Lib.hid g1; have G2 := Lib.hid g2; have G3 := Lib.hid g3
            clear g1 g2 g3
            have s5 : wb3.cell? ⟨sb, 6, none⟩ = some (.slice pR y'.notes.length cR) := Lib.cell_of_heap G1.out 6
            have x0 : wb3.cell? ⟨xb, 0, none⟩ = some (.int .u8 rk) := Lib.cell_of_heap HX.out 0
            have x1 : wb3.cell? ⟨xb, 1, none⟩ = some (.int .u32 rn) := Lib.cell_of_heap HX.out 1
            have x2 : wb3.cell? ⟨xb, 2, none⟩ = some (.int .u32 ra) := Lib.cell_of_heap HX.out 2
            obtain ⟨iR, r0, r1, r2, r3⟩ := info_parts info_note
            have HA := Lib.hid (And.intro r0 (And.intro r1 (And.intro r2 r3)))
            clear r0 r1 r2 r3
            have hz1 := HS.out.kb.size
            have hzs : sb < wb3.heap.size := (Array.getElem?_eq_some_iff.1 G1.out).1
            go_wp2_with (at_builtin; refine wpList_append_own_at _ rfl _ _ 53 rfl w0.heap.size 155 iR _ 3 12 Tryz.underlying53 HA.out.1 HA.out.2.1 HA.out.2.2.1 HA.out.2.2.2 rfl (by decide) _ y'.notes.length (y'.notes.flatMap noteCells) rfl ?c0 _ 1 1 (noteCells ⟨rk, rn, ra⟩) rfl rfl ?c1 ?c2 ?c3 ?c4 ?c5 ?_)
            case c0 => exact G3.out.alloc _
            case c1 =>
              intro j u hu
              rw [add_at, Nat.zero_add]
              match j, hu with
              | 0, hu => cases hu; simp [go_sem]
              | 1, hu => cases hu; simp [go_sem]
              | 2, hu => cases hu; simp [go_sem]
            case c2 =>
              intro u hu
              simp only [noteCells, List.mem_cons, List.not_mem_nil, or_false] at hu
              rcases hu with rfl | rfl | rfl <;> rfl
            case c3 => unfold maxLen; omega
            case c4 => omega
            case c5 => simp; omega
            intro v' w9 hown hgrow _ _
            have HF := Lib.hid (HS.out.addN (x := ⟨rk, rn, ra⟩) G1.out G2.out G3.out (alloc_old _ _) hown hgrow)
            have hb : w9.heap[sb]? = wb3.heap[sb]? := by rw [hgrow.block sb (by simp; omega) (fun e => own_ne_box G3.out G1.out (by decide) e.symm), Below.heap_alloc _ _ _ hzs]
            have t5 : w9.cell? ⟨sb, 6, none⟩ = some (.slice pR y'.notes.length cR) := by rw [World.cell?_of_block (w := wb3) hb]; exact s5
            have tf : w9.frozen? ⟨sb, 6, none⟩ = false := Lib.frozen_of_heap (hb.trans G1.out) 6
            obtain ⟨pv, cv, rfl⟩ := own_shape hown
            clear hown hgrow hb s5 x0 x1 x2
            go_wp2
            go_roundw
            case rel => exact ⟨i2 + 1, j', _, _, _, by go_num, by omega, HGS.out, HF.out⟩
            case measure => simp [intOf]; omega
          · have HD := Lib.hid (HG.out.done (by
              by_cases hj0 : j = 0
              · exact .inl hj0
              · exact .inr (HE.out.trans (rrOf_bad fun e => hround ⟨hj0, e⟩))))
            have hdone : (decide ((i2 : Int) < (kn : Int)) = false ∧ decide (i2 < kn) = false) ∨ (decide ((i2 : Int) < (kn : Int)) = true ∧ decide (i2 < kn) = true ∧ (fF2 == 0) = false) := by
              by_cases hj0 : j = 0
              · exact .inl ⟨by simp; omega, by simp; omega⟩
              · exact .inr ⟨by simp; omega, by simp; omega, by simp; exact fun e => hround ⟨hj0, e⟩⟩
            clear hround
            obtain ⟨T1', T2'⟩ := T
            simp only [] at HD HSY
            obtain ⟨h1, h2⟩ := HD.out
            rw [h1, h2] at HS
            clear h1 h2 HD HG HE hj hij
            generalize withNotes y6 T1' = y7 at HS HSY
            have HR1 : Hid (wr.heap[w.heap.size]? = some (.cells #[.string ⟨#[]⟩, .int .u8 0, .int .u8 0, .int .u32 0, .string ⟨#[]⟩, .slice none 0 0, .slice none 0 0] 55 (0, 0))) := (HS.out.kb.block w.heap.size hz0 (fun e => by omega)).trans HR0.out
            obtain ⟨vr, vn, g1, g2, g3, -, -⟩ := HS.out.y
            obtain ⟨pR, cR, rfl⟩ := own_shape g2
            obtain ⟨pN, cN, rfl⟩ := own_shape g3
            have G1 := Lib.hid g1; have G2 := Lib.hid g2; have G3 := Lib.hid g3
            clear g1 g2 g3
            obtain ⟨yn, yb, yk, ys, yy, yr, yt⟩ := y7
            simp only [] at G1 G2 G3
            have a0 : wr.cell? ⟨sb, 0, none⟩ = some (.string yn) := Lib.cell_of_heap G1.out 0
            have a1 : wr.cell? ⟨sb, 1, none⟩ = some (.int .u8 yb) := Lib.cell_of_heap G1.out 1
            have a2 : wr.cell? ⟨sb, 2, none⟩ = some (.int .u8 yk) := Lib.cell_of_heap G1.out 2
            have a3 : wr.cell? ⟨sb, 3, none⟩ = some (.int .u32 ys) := Lib.cell_of_heap G1.out 3
            have a4 : wr.cell? ⟨sb, 4, none⟩ = some (.string yy) := Lib.cell_of_heap G1.out 4
            have a5 : wr.cell? ⟨sb, 5, none⟩ = some (.slice pR yr.length cR) := Lib.cell_of_heap G1.out 5
            have a6 : wr.cell? ⟨sb, 6, none⟩ = some (.slice pN yt.length cN) := Lib.cell_of_heap G1.out 6
            have q0 : wr.cell? ⟨w.heap.size, 0, none⟩ = some (.string ⟨#[]⟩) := Lib.cell_of_heap HR1.out 0
            have q1 : wr.cell? ⟨w.heap.size, 1, none⟩ = some (.int .u8 0) := Lib.cell_of_heap HR1.out 1
            have q2 : wr.cell? ⟨w.heap.size, 2, none⟩ = some (.int .u8 0) := Lib.cell_of_heap HR1.out 2
            have q3 : wr.cell? ⟨w.heap.size, 3, none⟩ = some (.int .u32 0) := Lib.cell_of_heap HR1.out 3
            have q4 : wr.cell? ⟨w.heap.size, 4, none⟩ = some (.string ⟨#[]⟩) := Lib.cell_of_heap HR1.out 4
            have q5 : wr.cell? ⟨w.heap.size, 5, none⟩ = some (.slice none 0 0) := Lib.cell_of_heap HR1.out 5
            have q6 : wr.cell? ⟨w.heap.size, 6, none⟩ = some (.slice none 0 0) := Lib.cell_of_heap HR1.out 6
            have e0 : wr.frozen? ⟨w.heap.size, 0, none⟩ = false := Lib.frozen_of_heap HR1.out 0
            have e1 : wr.frozen? ⟨w.heap.size, 1, none⟩ = false := Lib.frozen_of_heap HR1.out 1
            have e2 : wr.frozen? ⟨w.heap.size, 2, none⟩ = false := Lib.frozen_of_heap HR1.out 2
            have e3 : wr.frozen? ⟨w.heap.size, 3, none⟩ = false := Lib.frozen_of_heap HR1.out 3
            have e4 : wr.frozen? ⟨w.heap.size, 4, none⟩ = false := Lib.frozen_of_heap HR1.out 4
            have e5 : wr.frozen? ⟨w.heap.size, 5, none⟩ = false := Lib.frozen_of_heap HR1.out 5
            have e6 : wr.frozen? ⟨w.heap.size, 6, none⟩ = false := Lib.frozen_of_heap HR1.out 6
            have hsb := HS.out.sle
            rcases hdone with ⟨d, d'⟩ | ⟨d, d', bf2⟩
            all_goals
              go_wp2
              refine bodyPost_ret (v := .agg #[.string yn, .int .u8 yb, .int .u8 yk, .int .u32 ys, .string yy, .slice pR yr.length cR, .slice pN yt.length cN]) (by simp [results, Tryz.results97, go_sem, *]) rfl ?_
              exact refSym_fin HB0.out hz0 HS.out G2.out G3.out HSY.out hlt _ _ _ _ _ _ _
end Go.Proofs.YtboegjdkedjhcaaGreatDoor
