/- What the reading of a table keeps, whatever the reader. The walks of where.reading's num and text. The walk of where.Get. The walks of where.Named and aediculeref34.Named. The walks of where.of and aediculeref34.of. -/
import Derived.Test.YtdjgkmpjhpnkeaaGreatDoorBd04
import Derived.Test.YtdjgkmpjhpnkeaaGreatDoorBd27
import Derived.Deep.Onto
import Derived.Test.YtdjgkmpjhpnkeaaGreatDoorBd03
import Derived.Test.YtdjgkmpjhpnkeaaGreatDoorBd26
import Derived.Test.YtdjgkmpjhpnkeaaGreatDoorBd12
import Derived.Deep.RegionHeld3
namespace Go.Proofs.YtdjgkmpjhpnkeaaGreatDoor
open Go.RowKit
/-- what is asked of a reader's predicate: it speaks of the reader's block alone -/
structure RdrT (rb : Nat) (RD : World → RS → Prop) : Prop where
  congr : ∀ {w w' : World} {st : RS}, RD w st → w'.heap[rb]? = w.heap[rb]? → RD w' st
  lt : ∀ {w : World} {st : RS}, RD w st → rb < w.heap.size
theorem rdrT_obj (rb : Nat) (s : ByteArray) : RdrT rb (fun w st => RdS w rb s st) := ⟨fun h k => h.congr k, fun h => h.lt⟩
/-- the reading's box, the row of symbols, the reader -/
structure TabSt (RD : World → RS → Prop) (Q : Nat → Prop) (T : TypeId) (rb : Nat) (st : RS) (v : Value) (ts : List GTs) (w0 w : World) : Prop where
  r : RdrT rb RD
  q : ∀ g, Q g → w.heap[g]? = some (.cells #[.pointer (some ⟨rb, 0, none⟩)] T (0, 0)) ∧ w0.heap.size ≤ g
  o : w.ownsRow w0.heap.size 56 5 v ts.length (ts.flatMap tsCells)
  rd : RD w st
  kb : KR rb w0 w
  rlt : rb < w0.heap.size
  ne : 56 ≠ T
theorem TabSt.read {RD : World → RS → Prop} {Q : Nat → Prop} {T : TypeId} {rb : Nat} {st st' : RS} {v : Value} {ts : List GTs} {w0 w w' : World} (h : TabSt RD Q T rb st v ts w0 w) (hr : RD w' st') (k : KR rb w w') : TabSt RD Q T rb st' v ts w0 w' := by
  have h1 := h.rlt
  refine ⟨h.r, fun g hg => ?_, own_congr h.o fun g hg => k.block g (h.o.lt g hg).2 (by have := (h.o.lt g hg).1; omega), hr, h.kb.trans k, h1, h.ne⟩
  obtain ⟨q1, q2⟩ := h.q g hg
  exact ⟨(k.block g (Array.getElem?_eq_some_iff.1 q1).1 (by omega)).trans q1, q2⟩
theorem TabSt.keep {RD : World → RS → Prop} {Q : Nat → Prop} {T : TypeId} {rb : Nat} {st : RS} {v : Value} {ts : List GTs} {w0 w w' : World} (h : TabSt RD Q T rb st v ts w0 w) (k : Below w.heap.size w w') : TabSt RD Q T rb st v ts w0 w' :=
  h.read (h.r.congr h.rd (k.block rb (h.r.lt h.rd))) (KB.of_below k)
theorem TabSt.c {RD : World → RS → Prop} {Q : Nat → Prop} {T : TypeId} {rb : Nat} {st : RS} {v : Value} {ts : List GTs} {w0 w : World} (h : TabSt RD Q T rb st v ts w0 w) {qb : Nat} (hq : Q qb) : w.cell? ⟨qb, 0, none⟩ = some (.pointer (some ⟨rb, 0, none⟩)) := Lib.cell_of_heap (h.q qb hq).1 0
theorem TabSt.add {RD : World → RS → Prop} {Q : Nat → Prop} {T : TypeId} {rb : Nat} {st : RS} {v v' : Value} {ts : List GTs} {x : GTs} {w0 w w2 : World} {ob : Obj} (h : TabSt RD Q T rb st v ts w0 w)
    (ho : w2.ownsRow w0.heap.size 56 5 v' (ts.length + 1) (ts.flatMap tsCells ++ tsCells x)) (hg : (w.alloc ob).grownBy w2 v.ownBlock) : TabSt RD Q T rb st v' (ts ++ [x]) w0 w2 := by
  have hs := h.keep (alloc_old w ob)
  have h1 := h.rlt
  have hrb : v.ownBlock ≠ some rb := fun e => by have := (h.o.lt rb e).1; omega
  refine ⟨h.r, fun g hq => ?_, ?_, h.r.congr hs.rd (hg.block rb (h.r.lt hs.rd) fun e => hrb e.symm), hs.kb.grown hg fun g e => .inr (h.o.lt g e).1, h1, h.ne⟩
  · obtain ⟨q1, q2⟩ := hs.q g hq
    exact ⟨(hg.block g (Array.getElem?_eq_some_iff.1 q1).1 fun e => own_ne_box hs.o q1 h.ne e.symm).trans q1, q2⟩
  · have e1 : (ts ++ [x]).flatMap tsCells = ts.flatMap tsCells ++ tsCells x := by simp
    rw [List.length_append, e1]; exact ho
end Go.Proofs.YtdjgkmpjhpnkeaaGreatDoor
namespace Go.Proofs.YtdjgkmpjhpnkeaaGreatDoor
open Go.RowKit
def RNPost (rb n : Nat) (s : ByteArray) (st : RS) (w : World) (e : Ending) (w' : World) : Prop := e = .returned (.int .u32 (rNum n st).1) ∧ RdS w' rb s (rNum n st).2 ∧ KR rb w w'
def RWPost (rb : Nat) (s : ByteArray) (st : RS) (w : World) (e : Ending) (w' : World) : Prop := e = .returned (.string (rText st).1) ∧ RdS w' rb s (rText st).2 ∧ KR rb w w'
set_option maxHeartbeats 400000 in
theorem readNum_any (rb n : Nat) (s : ByteArray) (st : RS) (w : World) (h : RdS w rb s st) (h1 : 1 ≤ n) (h4 : n ≤ 4) :
    Calls Tryz.prog 93 #[.agg #[.pointer (some ⟨rb, 0, none⟩)], .int .i64 n] w (RNPost rb n s st w) := by
  have hlt := h.lt
  have HC := Lib.hid (rdNum_any rb n s st (w.alloc (.cells #[.pointer (some ⟨rb, 0, none⟩)] 168)) (h.congr (Below.heap_alloc _ _ _ hlt)) h1 h4)
  clear h
  go_enter Tryz.func93, Tryz.ntmps93
  go_wp2_with fail
  refine HC.out.mono ?_
  rintro e w1 ⟨c, rfl, -, k1, k2⟩
  have K1 := Lib.hid k1; have K2 := Lib.hid k2
  clear k1 k2 HC
  go_wp2
  go_ret
  exact ⟨rfl, K1.out, (KB.of_below (alloc_old w _)).trans K2.out⟩
theorem readNum1 (rb : Nat) (s : ByteArray) (st : RS) (w : World) (h : RdS w rb s st) : Calls Tryz.prog 93 #[.agg #[.pointer (some ⟨rb, 0, none⟩)], .int .i64 1] w (RNPost rb 1 s st w) := readNum_any rb 1 s st w h (by omega) (by omega)
theorem readNum2 (rb : Nat) (s : ByteArray) (st : RS) (w : World) (h : RdS w rb s st) : Calls Tryz.prog 93 #[.agg #[.pointer (some ⟨rb, 0, none⟩)], .int .i64 2] w (RNPost rb 2 s st w) := readNum_any rb 2 s st w h (by omega) (by omega)
theorem readNum4 (rb : Nat) (s : ByteArray) (st : RS) (w : World) (h : RdS w rb s st) : Calls Tryz.prog 93 #[.agg #[.pointer (some ⟨rb, 0, none⟩)], .int .i64 4] w (RNPost rb 4 s st w) := readNum_any rb 4 s st w h (by omega) (by omega)
set_option maxHeartbeats 400000 in
theorem readWord_any (rb : Nat) (s : ByteArray) (st : RS) (w : World) (h : RdS w rb s st) :
    Calls Tryz.prog 95 #[.agg #[.pointer (some ⟨rb, 0, none⟩)]] w (RWPost rb s st w) := by
  have hlt := h.lt
  have HC := Lib.hid (rdText_any rb s st (w.alloc (.cells #[.pointer (some ⟨rb, 0, none⟩)] 168)) (h.congr (Below.heap_alloc _ _ _ hlt)))
  clear h
  go_enter Tryz.func95, Tryz.ntmps95
  go_wp2_with fail
  refine HC.out.mono ?_
  rintro e w1 ⟨c, rfl, -, k1, k2⟩
  have K1 := Lib.hid k1; have K2 := Lib.hid k2
  clear k1 k2 HC
  go_wp2
  go_ret
  exact ⟨rfl, K1.out, (KB.of_below (alloc_old w _)).trans K2.out⟩
end Go.Proofs.YtdjgkmpjhpnkeaaGreatDoor
namespace Go.Proofs.YtdjgkmpjhpnkeaaGreatDoor
open Go.RowKit
theorem info_ts : (Tryz.prog.info? 56).map (fun i => (i.zero, i.size, i.bytes)) = some (some (.agg #[.string ⟨#[]⟩, .string ⟨#[]⟩, .int .u32 0, .int .u32 0, .int .u8 0]), 5, 48) := by kernel_rfl
/-- how far the table is read -/
def GT (T : List GTs × RS) (k : Nat) (st : RS) (zs : List GTs) : Prop := T.1 = zs ++ (rMany rTs k st).1 ∧ (rMany rTs k st).2 = T.2 ∧ zs.length + k ≤ 70000 ∧ ∀ x ∈ zs, TsBd x
theorem rMany_zero {α : Type} (f : RS → α × RS) (st : RS) : rMany f 0 st = ([], st) := by cases st <;> rfl
theorem rMany_none {α : Type} (f : RS → α × RS) (k : Nat) : rMany f k none = ([], none) := by cases k <;> rfl
theorem rTs_bd (st : RS) : TsBd (rTs st).1 := by
  have a1 := rText_bd st
  have a2 := rText_bd (rText st).2
  have a3 := rNum_bd 4 (rText (rText st).2).2
  have a4 := rNum_bd 2 (rNum 4 (rText (rText st).2).2).2
  have a5 := rNum_bd 1 (rNum 2 (rNum 4 (rText (rText st).2).2).2).2
  rw [p4] at a3; rw [p2] at a4; rw [p1] at a5
  simp only [TsBd, rTs]
  omega
theorem GT.step {T : List GTs × RS} {k : Nat} {r : BL} {zs : List GTs} (h : GT T (k + 1) (some r) zs) : GT T k (rTs (some r)).2 (zs ++ [(rTs (some r)).1]) := by
  obtain ⟨h2, h3, h4, h5⟩ := h
  rw [rMany] at h2 h3
  refine ⟨by simp [h2], h3, by simp; omega, fun x hx => ?_⟩
  rcases List.mem_append.1 hx with hx | hx
  · exact h5 x hx
  · obtain rfl : x = _ := (by simpa using hx); exact rTs_bd _
theorem GT.done {T : List GTs × RS} {k : Nat} {st : RS} {zs : List GTs} (h : GT T k st zs) (hk : k = 0 ∨ st = none) : zs = T.1 ∧ st = T.2 := by
  obtain ⟨h2, h3, -⟩ := h
  rcases hk with rfl | rfl
  · rw [rMany_zero] at h2 h3; rw [List.append_nil] at h2; exact ⟨h2.symm, h3⟩
  · rw [rMany_none] at h2 h3; rw [List.append_nil] at h2; exact ⟨h2.symm, h3⟩
/-- what Get answers -/
def getTV (s : ByteArray) : List GTs × Int := match getT s.data.toList with | some t => (t, 0) | none => ([], 7)
def GotT (r : List GTs × Int) (w : World) (e : Ending) (w' : World) : Prop := ∃ v, e = .returned (.tuple #[v, .int .i64 r.2]) ∧ TabAt w' v r.1 ∧ Below w.heap.size w w'
theorem rdTake4 (rb : Nat) (s : ByteArray) (st : RS) (w : World) (h : RdS w rb s st) : Calls Tryz.prog 92 #[.pointer (some ⟨rb, 0, none⟩), .int .i64 4] w (TkPost rb 4 s st w) := rdTake_any rb 4 s st w h
theorem new_five (w : World) (a b : ByteArray) (c d e : Int) :
    ∀ j u, (tsCells ⟨a, b, c, d, e⟩)[j]? = some u → (w.alloc (.cells #[.string a, .string b, .int .u32 c, .int .u32 d, .int .u8 e] 56)).cell? ((⟨w.heap.size, 0, none⟩ : Addr).add j) = some u := by
  intro j u hu
  rw [add_at, Nat.zero_add]
  match j, hu with
  | 0, hu => cases hu; simp [go_sem]
  | 1, hu => cases hu; simp [go_sem]
  | 2, hu => cases hu; simp [go_sem]
  | 3, hu => cases hu; simp [go_sem]
  | 4, hu => cases hu; simp [go_sem]
theorem five_one (x : GTs) : ∀ u ∈ tsCells x, u.oneCell' = true := by
  intro u hu
  simp only [tsCells, List.mem_cons, List.not_mem_nil, or_false] at hu
  rcases hu with rfl | rfl | rfl | rfl | rfl <;> rfl
set_option maxRecDepth 100000 in
set_option maxHeartbeats 4000000 in
theorem whGet_any (s : ByteArray) (w : World) (hz : s.size ≤ 140737488355328) :
    Calls Tryz.prog 29 #[.string s] w (GotT (getTV s) w) := by
  go_enter Tryz.func29, Tryz.ntmps29
  go_wp2_with fail
  refine (new_any s w hz).mono ?_
  rintro e w1 ⟨rfl, k1, k2⟩
  have K1 : Hid (RdS w1 w.heap.size s (some s.data.toList)) := ⟨0, 0, k1, by rw [stOf_ok]; rfl⟩
  have hz1 : w.heap.size < w1.heap.size := k1.lt
  have HB1 : Hid (Below w.heap.size w w1) := k2
  clear k1 k2
  generalize hrb : w.heap.size = rb at K1 hz1
  have hrw : w.heap.size ≤ rb := by omega
  have HRB := Lib.hid hrb; clear hrb
  go_upto_region 2 with fail
  have HS : Hid (TabSt (fun w st => RdS w rb s st) (fun g => g = w1.heap.size) 168 rb (some s.data.toList) (.slice none 0 0) [] w1 (w1.alloc (.cells #[.pointer (some ⟨rb, 0, none⟩)] 168))) := by
    have hb := alloc_old w1 (.cells #[.pointer (some ⟨rb, 0, none⟩)] 168)
    refine ⟨rdrT_obj rb s, fun g hg => ?_, World.ownsRow_nil _ _ _ _, K1.out.congr (hb.block rb hz1), KB.of_below hb, hz1, by decide⟩
    subst hg
    exact ⟨heap_alloc_new w1 _, Nat.le_refl _⟩
  generalize w1.alloc (.cells #[.pointer (some ⟨rb, 0, none⟩)] 168) = w2 at HS ⊢
  generalize w1.heap.size = qb at HS ⊢
  have c := HS.out.c (qb := qb) rfl
  go_wp2_with fail
  refine (rdTake4 rb s _ w2 HS.out.rd).mono ?_
  rintro e w3 ⟨c3, rfl, -, k1, k2⟩
  replace HS := Lib.hid (HS.out.read k1 k2)
  clear k1 k2 c
  have c := HS.out.c (qb := qb) rfl
  have HRT : Hid (rTab s.data.toList = ((rTake 4 (some s.data.toList)).1, (rMany rTs (rNum 2 (rTake 4 (some s.data.toList)).2).1.toNat (rNum 2 (rTake 4 (some s.data.toList)).2).2).1, (rMany rTs (rNum 2 (rTake 4 (some s.data.toList)).2).1.toNat (rNum 2 (rTake 4 (some s.data.toList)).2).2).2)) := rfl
  generalize rTake 4 (some s.data.toList) = tk at HS HRT ⊢
  obtain ⟨mg, st1⟩ := tk
  simp only [] at HS HRT ⊢
  have HBD := Lib.hid (rNum_bd 2 st1)
  rw [p2] at HBD
  have HC := Lib.hid (readNum2 rb s st1 w3 HS.out.rd)
  unfold RNPost at HC
  generalize rNum 2 st1 = nn at HC HBD HRT
  obtain ⟨n1, st2⟩ := nn
  simp only [] at HC HBD HRT
  obtain ⟨k, rfl⟩ := Int.eq_ofNat_of_zero_le HBD.out.1
  have hk : (k : Int) < 65536 := HBD.out.2
  rw [Int.toNat_natCast] at HRT
  go_wp2_with fail
  refine HC.out.mono ?_
  rintro e w4 ⟨rfl, k1, k2⟩
  replace HS := Lib.hid (HS.out.read k1 k2); clear k1 k2 HC HBD c
  have HG0 : Hid (GT (rMany rTs k st2) k st2 []) := ⟨rfl, rfl, by simp; omega, fun x hx => by cases hx⟩
  generalize rMany rTs k st2 = T at HG0 HRT
  obtain ⟨iS, s0, s1, s2, s3⟩ := info_parts info_ts
  have HI := Lib.hid (And.intro s0 (And.intro s1 (And.intro s2 s3)))
  clear s0 s1 s2 s3
  go_wp2
  go_loopw [7, 8] (fun v7 v8 wr => ∃ (j : Nat) (st' : RS) (zs : List GTs), v8 = .int .u32 j ∧ GT T j st' zs ∧ TabSt (fun w st => RdS w rb s st) (fun g => g = qb) 168 rb st' v7 zs w1 wr) (fun _ v8 _ => (intOf v8).toNat)
  case atStart => exact ⟨k, st2, [], rfl, HG0.out, HS.out⟩
  case round =>
    clear HG0 HS
    obtain ⟨j, st', zs, rfl, hg, hs⟩ := hrel
    have HG := Lib.hid hg; have HS := Lib.hid hs
    have hj := hg.2.2.1
    clear hg hs
    obtain ⟨a, f, hb, he⟩ := HS.out.rd
    have HF := Lib.hid (fault_any rb s a f wr hb)
    have HE := Lib.hid he; clear hb he
    have c := HS.out.c (qb := qb) rfl
    obtain ⟨pv, cv, rfl⟩ := own_shape HS.out.o
    by_cases hround : j ≠ 0 ∧ f = 0
    · obtain ⟨hj0, rfl⟩ := hround
      have d : decide ((0 : Int) < (j : Int)) = true := by simp; omega
      have d' : decide (0 < j) = true := by simp; omega
      have HE2 : Hid (st' = some (s.data.toList.drop a)) := HE.out.trans stOf_ok
      generalize s.data.toList.drop a = r at HE2
      obtain ⟨i, rfl⟩ : ∃ i, j = i + 1 := ⟨j - 1, by omega⟩
      have hg := HG.out
      rw [HE2.out] at hg
      have HGS := Lib.hid hg.step
      rw [HE2.out] at HS
      clear hg HE
      go_wp2_with fail
      refine HF.out.mono ?_
      rintro e w5 ⟨rfl, rfl⟩
      clear HF c
      replace HS := Lib.hid (HS.out.keep (Below.refl _ _).drew)
      have c := HS.out.c (qb := qb) rfl
      have hwr : IntKind.u8.wrap (rNum 1 (rNum 2 (rNum 4 (rText (rText (some r)).2).2).2).2).1 = (rNum 1 (rNum 2 (rNum 4 (rText (rText (some r)).2).2).2).2).1 := by have := rNum_bd 1 (rNum 2 (rNum 4 (rText (rText (some r)).2).2).2).2; rw [p1] at this; rw [IntKind.wrap_u8]; omega
      have hb5 := rNum_bd 1 (rNum 2 (rNum 4 (rText (rText (some r)).2).2).2).2
      rw [p1] at hb5
      have hb50 := hb5.1
      have hb51 : (rNum 1 (rNum 2 (rNum 4 (rText (rText (some r)).2).2).2).2).1 ≤ 255 := by omega
      clear hb5
      go_wp2_with fail
      go_region_held3 (fun w' => w'.cell? ⟨qb, 0, none⟩ = some (.pointer (some ⟨rb, 0, none⟩))) (first | go_keep | assumption) (first
        | (go_at_call 95; (with_reducible refine (readWord_any rb s _ _ HS.out.rd).mono ?_); rintro e wn ⟨rfl, k1, k2⟩; replace HS := Lib.hid (HS.out.read k1 k2); have cn := HS.out.c (qb := qb) rfl; clear k1 k2)
        | (go_at_call 93; (with_reducible first | refine (readNum4 rb s _ _ HS.out.rd).mono ?_ | refine (readNum2 rb s _ _ HS.out.rd).mono ?_ | refine (readNum1 rb s _ _ HS.out.rd).mono ?_); rintro e wn ⟨rfl, k1, k2⟩; replace HS := Lib.hid (HS.out.read k1 k2); have cn := HS.out.c (qb := qb) rfl; clear k1 k2)
        | (refine step_append_own_at rfl (.tmp 30) (.tmp 43) 50 rfl w1.heap.size 56 iS _ 5 48 Tryz.underlying50 HI.out.1 HI.out.2.1 HI.out.2.2.1 HI.out.2.2.2 rfl (by decide) (.slice pv zs.length cv) zs.length (zs.flatMap tsCells) (by simp [Act.eval]) (HS.out.o.alloc _) ⟨wn.heap.size, 0, none⟩ 1 1 (tsCells (rTs (some r)).1) (by simp [Act.eval]) rfl (new_five wn _ _ _ _ _) (five_one _) (by unfold maxLen; omega) (by omega) (by have := HS.out.kb.size; simp; omega) ?_; intro v' w9 hown hgrow hv; obtain ⟨pw, cw, rfl⟩ := own_shape hown; have HS9 := Lib.hid (HS.out.add hown hgrow); have cn9 := HS9.out.c (qb := qb) rfl; clear hown hgrow hv))
      all_goals
        clear HS c hwr hb50 hb51
        go_wp2
        go_roundw
        case rel => exact ⟨i, _, _, by first | rfl | go_num, HGS.out, HS9.out⟩
        case measure => simp [intOf]
    · have HD := Lib.hid (HG.out.done (by
        by_cases hj0 : j = 0
        · exact .inl hj0
        · exact .inr (HE.out.trans (stOf_spoilt fun e => hround ⟨hj0, e⟩))))
      have hdone : (decide ((0 : Int) < (j : Int)) = false ∧ decide (0 < j) = false) ∨ (decide ((0 : Int) < (j : Int)) = true ∧ decide (0 < j) = true ∧ (f == 0) = false) := by
        by_cases hj0 : j = 0
        · exact .inl ⟨by simp; omega, by simp; omega⟩
        · exact .inr ⟨by simp; omega, by simp; omega, by simp; exact fun e => hround ⟨hj0, e⟩⟩
      have HBDY := Lib.hid HG.out.2.2.2
      clear hround
      obtain ⟨ys, st5⟩ := T
      simp only [] at HD HRT
      obtain ⟨rfl, rfl⟩ := HD.out
      clear HD HG HE
      have hj2 : zs.length ≤ 70000 := by omega
      clear hj
      have HEN := Lib.hid (rdEnd_any rb s st' _ HS.out.rd)
      rcases hdone with ⟨d, d'⟩ | ⟨d, d', bf⟩
      · go_wp2_with fail
        refine HEN.out.mono ?_
        rintro e w7 ⟨c7, rfl, hc7, k1⟩
        have HK := Lib.hid k1
        have HC7 := Lib.hid hc7; clear hc7 k1
        clear c d d' HEN HF
        have HS7 : Hid (KR rb w1 w7 ∧ w7.ownsRow w1.heap.size 56 5 (.slice pv zs.length cv) zs.length (zs.flatMap tsCells)) := ⟨HS.out.kb.trans HK.out, own_congr HS.out.o fun g hg => HK.out.block g (HS.out.o.lt g hg).2 (by have := (HS.out.o.lt g hg).1; omega)⟩
        clear HS HK
        have HW7 : Hid (Below w.heap.size w w7) := HB1.out.trans (HS7.out.1.below HB1.out.size (fun g hg => by have := HRB.out; omega))
        have HO := Lib.hid HS7.out.2
        clear HS7
        by_cases hst : st' = some []
        · have hc0 : c7 = 0 := HC7.out.2 hst
          subst hc0
          by_cases hmg : mg = magicT
          · have bl : (bsOf mg).toList = [65, 83, 84, 49] := by rw [hmg, ByteArray.toList_eq]; rfl
            have HTA : Hid (TabAt w7 (.slice pv zs.length cv) zs) := ts_back HBDY.out (by omega) HO.out
            have HCK := Lib.hid (whCheck_any _ zs w7 HTA.out)
            by_cases hmay : tabOk zs = true
            · rw [hmay] at HCK
              simp only [errB, if_true] at HCK
              have HN : Hid (getTV s = (zs, 0)) := by rw [Hid, getTV, getT, if_pos (by rw [HRT.out]; exact ⟨hst, hmg, hmay⟩), HRT.out]
              clear hmg hst hmay
              go_wp2_with fail
              refine HCK.out.mono ?_
              rintro e w8 ⟨rfl, hB8⟩
              replace HTA := Lib.hid (HTA.out.keep' hB8)
              replace HW7 := Lib.hid (HW7.out.trans (hB8.mono HW7.out.size))
              clear hB8 HCK
              go_wp2
              go_ret2
              rw [HN.out]
              exact ⟨_, rfl, HTA.out, HW7.out⟩
            · have hmay' : tabOk zs = false := by simpa using hmay
              rw [hmay'] at HCK
              simp only [errB, Bool.false_eq_true, if_false] at HCK
              have HN : Hid (getTV s = ([], 7)) := by rw [Hid, getTV, getT, if_neg (by rw [HRT.out]; exact fun h => hmay h.2.2)]
              clear hmg hst hmay hmay'
              go_wp2_with fail
              refine HCK.out.mono ?_
              rintro e w8 ⟨rfl, hB8⟩
              replace HW7 := Lib.hid (HW7.out.trans (hB8.mono HW7.out.size))
              clear hB8 HCK
              go_wp2
              go_ret2
              rw [HN.out]
              exact ⟨_, rfl, rowAt_nil, HW7.out⟩
          · have bl : ¬ (bsOf mg).toList = [65, 83, 84, 49] := by rw [ByteArray.toList_eq]; exact hmg
            have HN : Hid (getTV s = ([], 7)) := by rw [Hid, getTV, getT, if_neg (by rw [HRT.out]; exact fun h => hmg h.2.1)]
            clear hmg hst
            go_wp2
            go_ret2
            rw [HN.out]
            exact ⟨_, rfl, rowAt_nil, HW7.out⟩
        · have bc : (c7 != 0) = true := by simp; exact fun e => hst (HC7.out.1 e)
          have HN : Hid (getTV s = ([], 7)) := by rw [Hid, getTV, getT, if_neg (by rw [HRT.out]; exact fun h => hst h.1)]
          clear hst
          go_wp2
          go_ret2
          rw [HN.out]
          exact ⟨_, rfl, rowAt_nil, HW7.out⟩
      · go_wp2_with fail
        refine HF.out.mono ?_
        rintro e w5 ⟨rfl, rfl⟩
        go_wp2_with fail
        refine HEN.out.mono ?_
        rintro e w7 ⟨c7, rfl, hc7, k1⟩
        have HK := Lib.hid k1
        have HC7 := Lib.hid hc7; clear hc7 k1
        clear c d d' HEN HF bf
        have HS7 : Hid (KR rb w1 w7 ∧ w7.ownsRow w1.heap.size 56 5 (.slice pv zs.length cv) zs.length (zs.flatMap tsCells)) := ⟨HS.out.kb.trans HK.out, own_congr HS.out.o fun g hg => HK.out.block g (HS.out.o.lt g hg).2 (by have := (HS.out.o.lt g hg).1; omega)⟩
        clear HS HK
        have HW7 : Hid (Below w.heap.size w w7) := HB1.out.trans (HS7.out.1.below HB1.out.size (fun g hg => by have := HRB.out; omega))
        have HO := Lib.hid HS7.out.2
        clear HS7
        by_cases hst : st' = some []
        · have hc0 : c7 = 0 := HC7.out.2 hst
          subst hc0
          by_cases hmg : mg = magicT
          · have bl : (bsOf mg).toList = [65, 83, 84, 49] := by rw [hmg, ByteArray.toList_eq]; rfl
            have HTA : Hid (TabAt w7 (.slice pv zs.length cv) zs) := ts_back HBDY.out (by omega) HO.out
            have HCK := Lib.hid (whCheck_any _ zs w7 HTA.out)
            by_cases hmay : tabOk zs = true
            · rw [hmay] at HCK
              simp only [errB, if_true] at HCK
              have HN : Hid (getTV s = (zs, 0)) := by rw [Hid, getTV, getT, if_pos (by rw [HRT.out]; exact ⟨hst, hmg, hmay⟩), HRT.out]
              clear hmg hst hmay
              go_wp2_with fail
              refine HCK.out.mono ?_
              rintro e w8 ⟨rfl, hB8⟩
              replace HTA := Lib.hid (HTA.out.keep' hB8)
              replace HW7 := Lib.hid (HW7.out.trans (hB8.mono HW7.out.size))
              clear hB8 HCK
              go_wp2
              go_ret2
              rw [HN.out]
              exact ⟨_, rfl, HTA.out, HW7.out⟩
            · have hmay' : tabOk zs = false := by simpa using hmay
              rw [hmay'] at HCK
              simp only [errB, Bool.false_eq_true, if_false] at HCK
              have HN : Hid (getTV s = ([], 7)) := by rw [Hid, getTV, getT, if_neg (by rw [HRT.out]; exact fun h => hmay h.2.2)]
              clear hmg hst hmay hmay'
              go_wp2_with fail
              refine HCK.out.mono ?_
              rintro e w8 ⟨rfl, hB8⟩
              replace HW7 := Lib.hid (HW7.out.trans (hB8.mono HW7.out.size))
              clear hB8 HCK
              go_wp2
              go_ret2
              rw [HN.out]
              exact ⟨_, rfl, rowAt_nil, HW7.out⟩
          · have bl : ¬ (bsOf mg).toList = [65, 83, 84, 49] := by rw [ByteArray.toList_eq]; exact hmg
            have HN : Hid (getTV s = ([], 7)) := by rw [Hid, getTV, getT, if_neg (by rw [HRT.out]; exact fun h => hmg h.2.1)]
            clear hmg hst
            go_wp2
            go_ret2
            rw [HN.out]
            exact ⟨_, rfl, rowAt_nil, HW7.out⟩
        · have bc : (c7 != 0) = true := by simp; exact fun e => hst (HC7.out.1 e)
          have HN : Hid (getTV s = ([], 7)) := by rw [Hid, getTV, getT, if_neg (by rw [HRT.out]; exact fun h => hst h.1)]
          clear hst
          go_wp2
          go_ret2
          rw [HN.out]
          exact ⟨_, rfl, rowAt_nil, HW7.out⟩
end Go.Proofs.YtdjgkmpjhpnkeaaGreatDoor
namespace Go.Proofs.YtdjgkmpjhpnkeaaGreatDoor
open Go.RowKit
theorem toList_ne {a b : ByteArray} (h : ¬ a = b) : ¬ a.toList = b.toList := by
  rw [ByteArray.toList_eq, ByteArray.toList_eq]
  intro e
  exact h (ByteArray.ext (Array.toList_inj.1 e))
theorem filter_yes {α : Type} {f : α → Bool} {l : List α} {i : Nat} (h : i < l.length) (hf : f l[i] = true) : (l.take (i + 1)).filter f = (l.take i).filter f ++ [l[i]] := by
  rw [List.take_succ_eq_append_getElem h, List.filter_append]; simp [hf]
theorem filter_no {α : Type} {f : α → Bool} {l : List α} {i : Nat} (h : i < l.length) (hf : f l[i] = false) : (l.take (i + 1)).filter f = (l.take i).filter f := by
  rw [List.take_succ_eq_append_getElem h, List.filter_append]; simp [hf]
theorem filter_len {α : Type} {f : α → Bool} {l : List α} {i : Nat} : ((l.take i).filter f).length ≤ i := Nat.le_trans (List.length_filter_le _ _) (List.length_take_le _ _)
def isNm (n : ByteArray) (s : GTs) : Bool := decide (s.name = n)
def TabPost (r : List GTs) (w : World) (e : Ending) (w' : World) : Prop := ∃ v, e = .returned v ∧ TabAt w' v r ∧ Below w.heap.size w w'
set_option maxRecDepth 100000 in
set_option maxHeartbeats 2000000 in
theorem whNamed_any (v : Value) (t : List GTs) (n : ByteArray) (w : World) (h : TabAt w v t) :
    Calls Tryz.prog 75 #[v, .string n] w (TabPost (namedOf t n) w) := by
  obtain ⟨p, cap, b, o, rfl, hcap, hmax, -⟩ := id h
  have HBD := Lib.hid (TabAt.bd h)
  have H := Lib.hid h; clear h
  have HCK := Lib.hid (whCheck_any _ t w H.out)
  by_cases hok : tabOk t = true
  case neg =>
    have hok' : tabOk t = false := by simpa using hok
    rw [hok'] at HCK
    simp only [errB, Bool.false_eq_true, if_false] at HCK
    have HR : Hid (namedOf t n = []) := by simp [Hid, namedOf, hok']
    clear hok hok'
    go_enter Tryz.func75, Tryz.ntmps75
    go_wp2_with fail
    refine HCK.out.mono ?_
    rintro e w1 ⟨rfl, hB⟩
    clear HCK
    go_wp2
    go_ret
    rw [HR.out]
    exact ⟨_, rfl, rowAt_nil, hB⟩
  rw [hok] at HCK
  simp only [errB, if_true] at HCK
  have hlen : t.length ≤ 1024 := by simp only [tabOk, Bool.and_eq_true, decide_eq_true_eq] at hok; exact hok.2
  have HR : Hid (namedOf t n = t.filter (isNm n)) := by rw [Hid, namedOf, if_pos hok]; rfl
  clear hok
  obtain ⟨iS, s0, s1, s2, s3⟩ := info_parts info_ts
  have HI := Lib.hid (And.intro s0 (And.intro s1 (And.intro s2 s3)))
  clear s0 s1 s2 s3
  go_enter Tryz.func75, Tryz.ntmps75
  go_wp2_with fail
  refine HCK.out.mono ?_
  rintro e w1 ⟨rfl, hB⟩
  have HB0 := Lib.hid hB
  clear hB HCK
  go_wp2
  go_loopw [4, 12] (fun v4 v12 wr => ∃ i : Nat, i ≤ t.length ∧ v12 = .int .i64 i ∧ wr.ownsRow w.heap.size 56 5 v4 ((t.take i).filter (isNm n)).length (((t.take i).filter (isNm n)).flatMap tsCells) ∧ Below w.heap.size w wr) (fun _ v12 _ => t.length - (intOf v12).toNat)
  case atStart => exact ⟨0, Nat.zero_le _, rfl, World.ownsRow_nil _ _ _ _, HB0.out⟩
  case round =>
    clear HB0
    obtain ⟨i, hi, rfl, hown, hbel⟩ := hrel
    have HO := Lib.hid hown; have HB := Lib.hid hbel
    clear hown hbel
    by_cases hlt : i < t.length
    · obtain ⟨p', cap', b', o', e', -, -, q1, q2⟩ := TabAt.keep' HB.out H.out
      injection e' with e1 e2 e3
      subst e1; subst e3; clear e2
      obtain rfl := q1 (by omega)
      obtain ⟨g0, g1, g2, g3, g4, g5, -⟩ := q2 i hlt
      clear q1 q2
      have HFY : Hid (isNm n t[i] = true → (t.take (i + 1)).filter (isNm n) = (t.take i).filter (isNm n) ++ [t[i]]) := filter_yes hlt
      have HFN : Hid (isNm n t[i] = false → (t.take (i + 1)).filter (isNm n) = (t.take i).filter (isNm n)) := filter_no hlt
      have hfl := filter_len (f := isNm n) (l := t) (i := i)
      generalize (t.take i).filter (isNm n) = ts at HO HFY HFN hfl
      generalize t[i] = x at g1 g2 g3 g4 g5 HFY HFN
      obtain ⟨xn, xo, xa, xs, xk⟩ := x
      simp only [isNm] at g1 g2 g3 g4 g5 HFY HFN
      go_upto_region 6 with fail
      have HX : Hid ((wr.alloc (.cells #[.string xn, .string xo, .int .u32 xa, .int .u32 xs, .int .u8 xk] 56)).heap[wr.heap.size]? = some (.cells #[.string xn, .string xo, .int .u32 xa, .int .u32 xs, .int .u8 xk] 56 (0, 0))) := heap_alloc_new wr _
      replace HO := Lib.hid (HO.out.alloc (.cells #[.string xn, .string xo, .int .u32 xa, .int .u32 xs, .int .u8 xk] 56))
      replace HB := Lib.hid (HB.out.alloc HB.out.size (.cells #[.string xn, .string xo, .int .u32 xa, .int .u32 xs, .int .u8 xk] 56))
      generalize wr.alloc (.cells #[.string xn, .string xo, .int .u32 xa, .int .u32 xs, .int .u8 xk] 56) = w2 at HX HO HB ⊢
      generalize wr.heap.size = xb at HX ⊢
      have x0 : w2.cell? ⟨xb, 0, none⟩ = some (.string xn) := Lib.cell_of_heap HX.out 0
      have x1 : w2.cell? ⟨xb, 1, none⟩ = some (.string xo) := Lib.cell_of_heap HX.out 1
      have x2 : w2.cell? ⟨xb, 2, none⟩ = some (.int .u32 xa) := Lib.cell_of_heap HX.out 2
      have x3 : w2.cell? ⟨xb, 3, none⟩ = some (.int .u32 xs) := Lib.cell_of_heap HX.out 3
      have x4 : w2.cell? ⟨xb, 4, none⟩ = some (.int .u8 xk) := Lib.cell_of_heap HX.out 4
      clear g0 g1 g2 g3 g4 g5
      by_cases hn : xn = n
      · have HE := Lib.hid (HFY.out (by simpa using hn))
        subst hn
        clear HFY HFN
        have hz := HB.out.size
        obtain ⟨pv, cv, hv⟩ := own_shape HO.out
        subst hv
        go_wp2_with (at_builtin; refine wpList_append_own_at _ rfl _ _ 50 rfl w.heap.size 56 iS _ 5 48 Tryz.underlying50 HI.out.1 HI.out.2.1 HI.out.2.2.1 HI.out.2.2.2 rfl (by decide) _ ts.length (ts.flatMap tsCells) rfl (HO.out.alloc _) ⟨w2.heap.size, 0, none⟩ 1 1 (tsCells ⟨xn, xo, xa, xs, xk⟩) rfl rfl (new_five w2 _ _ _ _ _) (five_one _) (by unfold maxLen; omega) (by omega) (by simp; omega) ?_)
        intro v' w9 hown hgrow _ hv
        obtain ⟨pw, cw, rfl⟩ := own_shape hown
        have HB9 : Hid (Below w.heap.size w w9) := (HB.out.alloc hz _).grown hgrow (by simp; omega) (fun q e => (World.ownsRow.lt HO.out q e).1)
        have HO9 : Hid (w9.ownsRow w.heap.size 56 5 (.slice pw (ts.length + 1) cw) ((t.take (i + 1)).filter (isNm xn)).length (((t.take (i + 1)).filter (isNm xn)).flatMap tsCells)) := by
          have e1 : (ts ++ [(⟨xn, xo, xa, xs, xk⟩ : GTs)]).flatMap tsCells = ts.flatMap tsCells ++ tsCells ⟨xn, xo, xa, xs, xk⟩ := by simp
          have e2 := HE.out
          have e3 : (t.take (i + 1)).filter (isNm xn) = ts ++ [(⟨xn, xo, xa, xs, xk⟩ : GTs)] := e2
          rw [Hid, e3, List.length_append, e1]; exact hown
        clear hown hgrow hv x0 x1 x2 x3 x4 HX HO
        go_wp2
        go_roundw
        case rel => exact ⟨i + 1, by omega, by go_num, HO9.out, HB9.out⟩
        case measure => simp [intOf]; omega
      · have HE := Lib.hid (HFN.out (by simpa using hn))
        have hnl := toList_ne hn
        have HO9 : Hid (w2.ownsRow w.heap.size 56 5 u4 ((t.take (i + 1)).filter (isNm n)).length (((t.take (i + 1)).filter (isNm n)).flatMap tsCells)) := by
          have e3 : (t.take (i + 1)).filter (isNm n) = ts := HE.out
          rw [Hid, e3]; exact HO.out
        have hbe : (xn.toList == n.toList) = false := by simpa using hnl
        clear HFY HFN hn hnl
        go_wp2
        go_roundw
        case rel => exact ⟨i + 1, by omega, by go_num, HO9.out, HB.out⟩
        case measure => simp [intOf]; omega
    · have HE : Hid (t.take i = t) := List.take_of_length_le (by omega)
      have ho := HO.out
      rw [HE.out] at ho
      obtain ⟨pv, cv, hv⟩ := own_shape ho
      subst hv
      have HTA : Hid (TabAt wr (.slice pv (t.filter (isNm n)).length cv) (t.filter (isNm n))) := ts_back (fun x hx => HBD.out x (List.mem_filter.1 hx).1) (Nat.le_trans (List.length_filter_le _ _) (by omega)) ho
      clear ho HO
      go_wp2
      go_ret
      rw [HR.out]
      exact ⟨_, rfl, HTA.out, HB.out⟩
end Go.Proofs.YtdjgkmpjhpnkeaaGreatDoor
namespace Go.Proofs.YtdjgkmpjhpnkeaaGreatDoor
open Go.RowKit
def isOf (s x : GTs) : Bool := decide (x.name = s.name) && decide (x.object = s.object)
theorem ofT_def (t : List GTs) (s : GTs) : ofT t s = ((t.find? (isOf s)).map GTs.addr).getD 0 := rfl
theorem ofT_at {t : List GTs} {s : GTs} {i : Nat} (h : i < t.length) (h1 : isOf s t[i] = true) (h2 : ∀ j (hj : j < t.length), j < i → isOf s t[j] = false) : ofT t s = t[i].addr := by
  have : t.find? (isOf s) = some t[i] := by
    rw [List.find?_eq_some_iff_getElem]
    exact ⟨h1, i, h, rfl, fun j hj => by simp [h2 j (by omega) hj]⟩
  simp [ofT_def, this]
theorem ofT_none {t : List GTs} {s : GTs} (h : ∀ j (hj : j < t.length), isOf s t[j] = false) : ofT t s = 0 := by
  have : t.find? (isOf s) = none := by
    rw [List.find?_eq_none]
    intro x hx
    obtain ⟨j, hj, rfl⟩ := List.mem_iff_getElem.1 hx
    simp [h j hj]
  simp [ofT_def, this]
/-- a symbol's box -/
def TsBox (w : World) (sb : Nat) (s : GTs) : Prop := w.heap[sb]? = some (.cells #[.string s.name, .string s.object, .int .u32 s.addr, .int .u32 s.size, .int .u8 s.kind] 56 (0, 0))
theorem TsBox.keep {w w' : World} {sb : Nat} {s : GTs} (h : TsBox w sb s) (hb : Below w.heap.size w w') : TsBox w' sb s := (hb.block sb (Array.getElem?_eq_some_iff.1 h).1).trans h
theorem TsBox.new (w : World) (s : GTs) : TsBox (w.alloc (.cells #[.string s.name, .string s.object, .int .u32 s.addr, .int .u32 s.size, .int .u8 s.kind] 56)) w.heap.size s := heap_alloc_new w _
theorem beq_ne {a b : ByteArray} (h : ¬ a = b) : (a.toList == b.toList) = false := by simpa using toList_ne h
set_option maxHeartbeats 1000000 in
theorem of1_any (sb : Nat) (s x : GTs) (w : World) (h : TsBox w sb s) :
    Calls Tryz.prog 176 #[.agg #[.string x.name, .string x.object, .int .u32 x.addr, .int .u32 x.size, .int .u8 x.kind], .pointer (some ⟨sb, 0, none⟩)] w (IsB (isOf s x) w) := by
  have zs : sb < w.heap.size := (Array.getElem?_eq_some_iff.1 h).1
  have c0 : w.cell? ⟨sb, 0, none⟩ = some (.string s.name) := Lib.cell_of_heap h 0
  have c1 : w.cell? ⟨sb, 1, none⟩ = some (.string s.object) := Lib.cell_of_heap h 1
  clear h
  obtain ⟨sn, so, sa, ss, sk⟩ := s
  obtain ⟨xn, xo, xa, xs, xk⟩ := x
  simp only [isOf] at c0 c1 ⊢
  by_cases h1 : xn = sn
  case neg =>
    have hb := beq_ne h1
    have HR : Hid ((decide (xn = sn) && decide (xo = so)) = false) := by simp [Hid, h1]
    clear h1
    go_enter Tryz.func176, Tryz.ntmps176
    go_wp2
    go_ret
    rw [HR.out]
    exact ⟨rfl, alloc_old w _⟩
  subst h1
  by_cases h2 : xo = so
  case neg =>
    have hb := beq_ne h2
    have HR : Hid (¬ xo = so) := h2
    clear h2
    go_enter Tryz.func176, Tryz.ntmps176
    go_wp2
    go_ret
    show IsB _ w (.returned (.bool false)) _
    exact ⟨ret_bool (by simp [HR.out]), alloc_old w _⟩
  subst h2
  go_enter Tryz.func176, Tryz.ntmps176
  go_wp2
  go_ret
  show IsB _ w (.returned (.bool true)) _
  exact ⟨ret_bool (by simp), alloc_old w _⟩
def IdxPost (t : List GTs) (s : GTs) (w : World) (e : Ending) (w' : World) : Prop :=
  ((∃ (i : Nat) (h : i < t.length), e = .returned (.int .i64 i) ∧ isOf s t[i] = true ∧ ∀ j (hj : j < t.length), j < i → isOf s t[j] = false) ∨ (e = .returned (.int .i64 (-1)) ∧ ∀ j (hj : j < t.length), isOf s t[j] = false)) ∧ Below w.heap.size w w'
set_option maxRecDepth 100000 in
set_option maxHeartbeats 1000000 in
theorem idx_any (sb : Nat) (s : GTs) (v : Value) (t : List GTs) (w : World) (h : TabAt w v t) (hs : TsBox w sb s) :
    Calls Tryz.prog 175 #[v, .func (.func 176) #[] #[.pointer (some ⟨sb, 0, none⟩)]] w (IdxPost t s w) := by
  obtain ⟨p, cap, b, o, rfl, hcap, hmax, -⟩ := id h
  have H := Lib.hid h; clear h
  have HS := Lib.hid hs; clear hs
  go_enter Tryz.func175, Tryz.ntmps175
  go_wp2
  go_loopw [8] (fun v8 wr => ∃ i : Nat, i ≤ t.length ∧ v8 = .int .i64 i ∧ (∀ j (hj : j < t.length), j < i → isOf s t[j] = false) ∧ Below w.heap.size w wr) (fun v8 _ => t.length - (intOf v8).toNat)
  case atStart => exact ⟨0, Nat.zero_le _, rfl, fun j hj h => by omega, Below.refl _ _⟩
  case round =>
    obtain ⟨i, hi, rfl, hno, hbel⟩ := hrel
    have HNO := Lib.hid hno; have HB := Lib.hid hbel
    clear hno hbel
    by_cases hlt : i < t.length
    · obtain ⟨p', cap', b', o', e', -, -, q1, q2⟩ := TabAt.keep' HB.out H.out
      injection e' with e1 e2 e3
      subst e1; subst e3; clear e2
      obtain rfl := q1 (by omega)
      obtain ⟨g0, g1, g2, g3, g4, g5, -⟩ := q2 i hlt
      clear q1 q2
      have HNX : Hid (isOf s t[i] = false → ∀ j (hj : j < t.length), j < i + 1 → isOf s t[j] = false) := fun h j hj hji => by
        rcases Nat.lt_succ_iff_lt_or_eq.1 hji with h1 | h1
        · exact HNO.out j hj h1
        · subst h1; exact h
      have HYX : Hid (isOf s t[i] = true → ∃ (k : Nat) (h : k < t.length), k = i ∧ isOf s t[k] = true ∧ ∀ j (hj : j < t.length), j < k → isOf s t[j] = false) := fun h => ⟨i, hlt, rfl, h, HNO.out⟩
      have HC := Lib.hid (of1_any sb s t[i] wr (HS.out.keep HB.out))
      generalize t[i] = x at g1 g2 g3 g4 g5 HNX HYX HC
      unfold IsB at HC
      cases hx : isOf s x with
      | false =>
        rw [hx] at HC
        have HN := Lib.hid (HNX.out hx)
        clear HNX HYX hx
        obtain ⟨xn, xo, xa, xs, xk⟩ := x
        simp only [] at g1 g2 g3 g4 g5 HC
        go_wp2_with fail
        refine HC.out.mono ?_
        rintro e w2 ⟨rfl, hB⟩
        replace HB := Lib.hid (HB.out.trans (hB.mono HB.out.size))
        clear hB HC
        go_wp2
        go_roundw
        case rel => exact ⟨i + 1, by omega, by go_num, HN.out, HB.out⟩
        case measure => simp [intOf]; omega
      | true =>
        rw [hx] at HC
        have HY := Lib.hid (HYX.out hx)
        clear HNX HYX hx
        obtain ⟨xn, xo, xa, xs, xk⟩ := x
        simp only [] at g1 g2 g3 g4 g5 HC
        go_wp2_with fail
        refine HC.out.mono ?_
        rintro e w2 ⟨rfl, hB⟩
        replace HB := Lib.hid (HB.out.trans (hB.mono HB.out.size))
        clear hB HC
        go_wp2
        go_ret
        obtain ⟨k, hk, rfl, k1, k2⟩ := HY.out
        exact ⟨.inl ⟨k, hk, rfl, k1, k2⟩, HB.out⟩
    · have HN : Hid (∀ j (hj : j < t.length), isOf s t[j] = false) := fun j hj => HNO.out j hj (by omega)
      go_wp2
      go_ret
      exact ⟨.inr ⟨rfl, HN.out⟩, HB.out⟩
def IntPost (k : IntKind) (c : Int) (w : World) (e : Ending) (w' : World) : Prop := e = .returned (.int k c) ∧ Below w.heap.size w w'
set_option maxRecDepth 100000 in
set_option maxHeartbeats 1000000 in
theorem whOf_any (v : Value) (t : List GTs) (s : GTs) (w : World) (h : TabAt w v t) :
    Calls Tryz.prog 80 #[v, .agg #[.string s.name, .string s.object, .int .u32 s.addr, .int .u32 s.size, .int .u8 s.kind]] w (IntPost .u32 (ofT t s) w) := by
  have HI := Lib.hid (idx_any w.heap.size s v t _ (TabAt.keep' (alloc_old w _) h) (TsBox.new w s))
  have HBB := Lib.hid (alloc_old w (.cells #[.string s.name, .string s.object, .int .u32 s.addr, .int .u32 s.size, .int .u8 s.kind] 56))
  obtain ⟨p, cap, b, o, rfl, hcap, hmax, -⟩ := id h
  have H := Lib.hid h; clear h
  have HRS : Hid (∀ c, ofT t s = c → ofT t s = c) := fun _ h => h
  have HOA : Hid (∀ (i : Nat) (h : i < t.length), isOf s t[i] = true → (∀ j (hj : j < t.length), j < i → isOf s t[j] = false) → ofT t s = t[i].addr) := fun i h h1 h2 => ofT_at h h1 h2
  have HON : Hid ((∀ j (hj : j < t.length), isOf s t[j] = false) → ofT t s = 0) := fun h => ofT_none h
  clear HRS
  unfold IntPost
  generalize hw1 : w.alloc (.cells #[.string s.name, .string s.object, .int .u32 s.addr, .int .u32 s.size, .int .u8 s.kind] 56) = w1 at HI HBB
  obtain ⟨sn, so, sa, ss, sk⟩ := s
  simp only [] at hw1 ⊢
  have HW1 := Lib.hid hw1; clear hw1
  go_enter Tryz.func80, Tryz.ntmps80
  go_wp2_with fail
  rw [HW1.out]
  refine HI.out.mono ?_
  rintro e w2 ⟨hcase, hB⟩
  have HB : Hid (Below w.heap.size w w2) := HBB.out.trans (hB.mono HBB.out.size)
  clear hB HI HW1
  rcases hcase with ⟨i, hi, rfl, k1, k2⟩ | ⟨rfl, k2⟩
  · have HE := Lib.hid (HOA.out i hi k1 k2)
    clear HOA HON k1 k2
    obtain ⟨p', cap', b', o', e', -, -, q1, q2⟩ := TabAt.keep' HB.out H.out
    injection e' with e1 e2 e3
    subst e1; subst e3; clear e2
    obtain rfl := q1 (by omega)
    obtain ⟨g0, g1, g2, g3, g4, g5, -⟩ := q2 i hi
    clear q1 q2
    generalize t[i] = x at g1 g2 g3 g4 g5 HE
    obtain ⟨xn, xo, xa, xs, xk⟩ := x
    simp only [] at g1 g2 g3 g4 g5 HE
    go_wp2
    go_ret
    rw [HE.out]
    exact ⟨rfl, HB.out⟩
  · have HE := Lib.hid (HON.out k2)
    clear HOA HON k2
    go_wp2
    go_ret
    rw [HE.out]
    exact ⟨rfl, HB.out⟩
end Go.Proofs.YtdjgkmpjhpnkeaaGreatDoor
