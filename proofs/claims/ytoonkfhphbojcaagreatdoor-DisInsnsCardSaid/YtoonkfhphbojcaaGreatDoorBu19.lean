/- The walk of word.Get. The walk of obj.symbol's may. The walks of obj.object's may and obj.Check. -/
import Derived.Test.YtoonkfhphbojcaaGreatDoorRows
import Derived.Test.YtoonkfhphbojcaaGreatDoorBu47
import Derived.Lib.Hide
import Derived.Laws.BitsAllLaws
import Derived.Test.YtoonkfhphbojcaaGreatDoorBu16
import Derived.Test.YtoonkfhphbojcaaGreatDoorBu14
namespace Go.Proofs.YtoonkfhphbojcaaGreatDoor
open Go.RowKit
theorem leV_snoc : ∀ (l : BL) (b : UInt8), leV (l ++ [b]) = leV l + b.toNat * pow256 l.length
  | [], b => by simp [leV, pow256]
  | x :: r, b => by
    rw [List.cons_append, leV, leV_snoc r b, leV, List.length_cons, pow256]
    rw [Int.mul_add, ← Int.add_assoc, Int.mul_left_comm]
theorem or_shift (a b k : Nat) (h : a < 2 ^ k) : a ||| b <<< k = a + b * 2 ^ k := by
  rw [Nat.or_comm, Nat.shiftLeft_eq, Nat.mul_comm b, ← Nat.two_pow_add_eq_or_of_lt h, Nat.add_comm]
theorem pow256_eq : ∀ k : Nat, pow256 k = ((2 ^ (8 * k) : Nat) : Int)
  | 0 => rfl
  | k + 1 => by rw [pow256, pow256_eq k, show 8 * (k + 1) = 8 * k + 8 by omega, Nat.pow_add]; simp; omega
theorem or_byte (l : BL) (b : UInt8) (hl : l.length < 4) : bits .or .u32 (leV l) ((b.toNat : Int) % 4294967296 * 2 ^ (8 * l.length) % 4294967296) = leV (l ++ [b]) := by
  have hv := leV_bd l
  have hb := b.toNat_lt
  rw [leV_snoc, pow256_eq]
  rw [pow256_eq] at hv
  have hp : (2 ^ (8 * l.length) : Nat) ≤ 16777216 := by
    have := Nat.pow_le_pow_right (n := 2) (by omega) (show 8 * l.length ≤ 24 by omega)
    exact this
  have hm : b.toNat * 2 ^ (8 * l.length) < 4294967296 := by
    have := Nat.mul_le_mul (show b.toNat ≤ 255 by omega) hp
    omega
  obtain ⟨a, ha⟩ := Int.eq_ofNat_of_zero_le hv.1
  have e1 : ((b.toNat : Int) % 4294967296 * 2 ^ (8 * l.length) % 4294967296) = ((b.toNat * 2 ^ (8 * l.length) : Nat) : Int) := by
    rw [Int.emod_eq_of_lt (a := (b.toNat : Int)) (by omega) (by omega)]
    rw [show (b.toNat : Int) * 2 ^ (8 * l.length) = ((b.toNat * 2 ^ (8 * l.length) : Nat) : Int) by simp]
    exact Int.emod_eq_of_lt (by omega) (by omega)
  rw [e1, ha]
  rw [ha] at hv
  have ha2 : a < 2 ^ (8 * l.length) := by omega
  rw [u32_or_nat a _ (by omega) hm, ← Nat.shiftLeft_eq, or_shift a b.toNat _ ha2]
  simp
set_option maxHeartbeats 1000000 in
set_option maxRecDepth 100000 in
theorem wordGet_any (s : ByteArray) (w : World) (h1 : 1 ≤ s.size) (h4 : s.size ≤ 4) :
    Calls Tryz.prog 98 #[.string s] w fun e w' => e = .returned (.tuple #[.int .u32 (leV s.data.toList), .int .i64 0]) ∧ w = w' := by
  have d1 : decide ((s.size : Int) < 1) = false := by simp; omega
  have d4 : decide ((4 : Int) < (s.size : Int)) = false := by simp; omega
  have d4' : decide (4 < s.size) = false := by simp; omega
  go_enter Tryz.func98, Tryz.ntmps98
  go_wp2
  go_loopw [2, 15] (fun v2 v15 wr => ∃ k : Nat, k ≤ s.size ∧ v15 = .int .i64 k ∧ v2 = .int .u32 (leV (s.data.toList.take k)) ∧ w = wr) (fun _ v15 _ => s.size - (intOf v15).toNat)
  case atStart => exact ⟨0, Nat.zero_le _, rfl, rfl, rfl⟩
  case round =>
    obtain ⟨k, hk, rfl, rfl, rfl⟩ := hrel
    by_cases hlt : k < s.size
    · have HE : Hid (bits .or .u32 (leV (s.data.toList.take k)) ((s[k].toNat : Int) % 4294967296 * 2 ^ (8 * k) % 4294967296) = leV (s.data.toList.take (k + 1))) := by
        have hl : (s.data.toList.take k).length = k := by rw [List.length_take, len_list]; omega
        have := or_byte (s.data.toList.take k) s[k] (by omega)
        rw [hl] at this
        rw [Hid, this, List.take_succ_eq_append_getElem (by rw [len_list]; exact hlt)]
        rfl
      go_wp2
      exact ⟨⟨k + 1, by omega, by go_num, by rw [HE.out], trivial⟩, by simp [intOf]; omega⟩
    · have HT : Hid (s.data.toList.take k = s.data.toList) := List.take_of_length_le (by rw [len_list]; omega)
      rw [HT.out]
      go_wp2
      go_ret2
      exact ⟨rfl, rfl⟩
end Go.Proofs.YtoonkfhphbojcaaGreatDoor
namespace Go.Proofs.YtoonkfhphbojcaaGreatDoor
open Go.RowKit
set_option maxHeartbeats 1000000 in
theorem symMay_any (s : GSym) (vr vn : Value) (w : World) (h : SymIn w s vr vn) :
    Calls Tryz.prog 112 #[.agg #[.string s.name, .int .u8 s.bind, .int .u8 s.kind, .int .u32 s.size, .string s.bytes, vr, vn]] w fun e w' => e = .returned (.bool (symOkP s)) ∧ Below w.heap.size w w' := by
  have H := Lib.hid h
  obtain ⟨hr, hn, hb, hk, hs, hnm, hbs⟩ := h
  obtain ⟨p, cap, b, o, rfl, hcap, hmax, -, -⟩ := hn
  clear hr
  have HB : Hid (Below w.heap.size w (w.alloc (.cells #[.string s.name, .int .u8 s.bind, .int .u8 s.kind, .int .u32 s.size, .string s.bytes, vr, .slice p s.notes.length cap] 169))) := alloc_old w _
  go_enter Tryz.func112, Tryz.ntmps112
  go_wp2_with (first | (go_at_call 149; refine (objName_any _ _ (by omega)).mono ?_; rintro e w1 ⟨rfl, hB⟩; obtain ⟨hc, hf⟩ := bcell hB; have hz : w.heap.size < w1.heap.size := (by have := hB.size; (try simp at this); omega); replace HB : Hid (Below w.heap.size w w1) := HB.out.trans (hB.mono HB.out.size); clear hB) | (go_at_call 150; refine (sized_any s _ _ _ hbs hk hs).mono ?_; rintro e w1 ⟨rfl, hB⟩; obtain ⟨hc, hf⟩ := bcell hB; have hz : w.heap.size < w1.heap.size := (by have := hB.size; (try simp at this); omega); replace HB : Hid (Below w.heap.size w w1) := HB.out.trans (hB.mono HB.out.size); clear hB) | (go_at_call 151; refine (places_any s _ _ _ (H.out.keep HB.out)).mono ?_; rintro e w1 ⟨rfl, hB⟩; obtain ⟨hc, hf⟩ := bcell hB; have hz : w.heap.size < w1.heap.size := (by have := hB.size; (try simp at this); omega); replace HB : Hid (Below w.heap.size w w1) := HB.out.trans (hB.mono HB.out.size); clear hB) | (go_at_call 152; refine (containsNote_any _ s.notes _ (H.out.keep HB.out).2.1).mono ?_; rintro e w1 ⟨rfl, hB⟩; obtain ⟨hc, hf⟩ := bcell hB; have hz : w.heap.size < w1.heap.size := (by have := hB.size; (try simp at this); omega); replace HB : Hid (Below w.heap.size w w1) := HB.out.trans (hB.mono HB.out.size); clear hB))
  all_goals
    go_ret
    exact ⟨ret_bool (by go_light; simp_all [symOkP]; try omega), HB.out⟩
end Go.Proofs.YtoonkfhphbojcaaGreatDoor
namespace Go.Proofs.YtoonkfhphbojcaaGreatDoor
open Go.RowKit Go.Maps Go.WideMaps
theorem keyedS : Keyed Tryz.prog 9 := string_keyed Tryz.underlying9
theorem zeroInt (w : World) : (zeroValue 3).run Tryz.prog w = .ok (.int .i64 0) w := by kernel_rfl
set_option maxHeartbeats 1000000 in
theorem objMay_any (x : GObj) (vs : Value) (w : World) (h : ObjIn w x vs) :
    Calls Tryz.prog 110 #[.agg #[.string x.name, vs]] w fun e w' => e = .returned (.bool (mayP x)) ∧ Below w.heap.size w w' := by
  obtain ⟨hr, hnm⟩ := h
  obtain ⟨p, cap, b, o, rfl, hcap, hmax, hp, hc⟩ := hr
  have HC := Lib.hid hc; clear hc
  have HP := Lib.hid hp; clear hp
  have hmm := @run_makeMap Tryz.prog
  go_enter Tryz.func110, Tryz.ntmps110
  go_wp2
  clear hmm
  go_loopw [11] (fun i wr => ∃ k : Nat, k ≤ x.syms.length ∧ i = .int .i64 k ∧ symsGo (x.syms.take k) (x.syms.drop k) = symsGo [] x.syms ∧ MapFn Tryz.prog 9 wr (w.heap.size + 1) k (seenFn (x.syms.take k)) ∧ Below (w.heap.size + 1) (w.alloc (.cells #[.string x.name, .slice p x.syms.length cap] 167)) wr) (fun i _ => x.syms.length - (intOf i).toNat)
  case atStart =>
    refine ⟨0, Nat.zero_le _, rfl, rfl, ?_, (Below.refl _ _).alloc (by simp) _⟩
    have := MapFn.made Tryz.prog 9 (w.alloc (.cells #[.string x.name, .slice p x.syms.length cap] 167))
    rw [seenFn_nil] at this
    simpa using this
  case round =>
    obtain ⟨k, hk, rfl, hgo, hmap, hbel⟩ := hrel
    have HGO := Lib.hid hgo; clear hgo
    have c0 : wr.cell? ⟨w.heap.size, 0, none⟩ = some (.string x.name) := by rw [hbel.cell (by simp)]; simp [go_sem]
    have c1 : wr.cell? ⟨w.heap.size, 1, none⟩ = some (.slice p x.syms.length cap) := by rw [hbel.cell (by simp)]; simp [go_sem]
    have hsz : w.heap.size + 1 < wr.heap.size := hmap.lt
    have hsz1 : w.heap.size < wr.heap.size := by omega
    have HBW : Hid (Below w.heap.size w wr) := (alloc_old w _).trans (hbel.mono (by omega))
    have HB := Lib.hid hbel; clear hbel
    by_cases hlt : k < x.syms.length
    · obtain rfl := HP.out (by omega)
      obtain ⟨vr, vn, g0, g1, g2, g3, g4, g5, g6, g7, hsin⟩ := symR_keeps _ _ _ _ _ HBW.out (HC.out k hlt)
      obtain ⟨p1, q1, p2, q2, rfl, rfl⟩ := hsin.shape
      have hns : x.syms[k].name.size ≤ maxLen := by have := hsin.2.2.2.2.2.1; unfold maxLen; omega
      generalize hx : x.syms[k] = y at *
      obtain ⟨yn, yb, yk, ys, yy, yr, yt⟩ := y
      simp only [] at *
      have HX := Lib.hid hx; clear hx
      have SIN := Lib.hid (hsin.keep (alloc_old wr (.cells #[.string yn, .int .u8 yb, .int .u8 yk, .int .u32 ys, .string yy, .slice p1 yr.length q1, .slice p2 yt.length q2] 52))); clear hsin
      have HM := Lib.hid (hmap.alloc (.cells #[.string yn, .int .u8 yb, .int .u8 yk, .int .u32 ys, .string yy, .slice p1 yr.length q1, .slice p2 yt.length q2] 52)); clear hmap
      have hns' : yn.size ≤ 9223372036854775807 := hns
      by_cases hseen : hasName (x.syms.take k) yn.data.toList = true
      · have HV := Lib.hid (seenFn_yes hseen)
        have HS := Lib.hid hseen; clear hseen
        go_wp2_with (at_lookup; refine wpList_look _ rfl _ _ 202 rfl 9 3 keyedS Tryz.underlying202 Tryz.underlying9 (zeroInt _) rfl HM.out _ rfl hns' HV.out ?_)
        go_ret
        exact ⟨ret_bool (mayP_no hlt HX.out HGO.out (.inl HS.out)), HBW.out.alloc (by omega) _⟩
      · have hseen' : hasName (x.syms.take k) yn.data.toList = false := by simpa using hseen
        have HV := Lib.hid (seenFn_no hseen')
        have HS := Lib.hid hseen'; clear hseen' hseen
        have HB1 : Hid (Below (w.heap.size + 1) wr (wr.alloc (.cells #[.string yn, .int .u8 yb, .int .u8 yk, .int .u32 ys, .string yy, .slice p1 yr.length q1, .slice p2 yt.length q2] 52))) := (Below.refl _ _).alloc (by omega) _
        go_wp2_with (first | (at_lookup; refine wpList_look _ rfl _ _ 202 rfl 9 3 keyedS Tryz.underlying202 Tryz.underlying9 (zeroInt _) rfl HM.out _ rfl hns' HV.out ?_) | (go_at_call 112; refine (symMay_any ⟨yn, yb, yk, ys, yy, yr, yt⟩ _ _ _ SIN.out).mono ?_; rintro e w1 ⟨rfl, hB⟩; obtain ⟨hc, hf⟩ := bcell hB; have hz : wr.heap.size < w1.heap.size := (by have := hB.size; (try simp at this); omega); replace HM : Hid (MapFn Tryz.prog 9 w1 (w.heap.size + 1) k (seenFn (x.syms.take k))) := HM.out.below hB (by simp; omega); replace HB1 : Hid (Below (w.heap.size + 1) wr w1) := HB1.out.trans (hB.mono (by simp; omega)); clear hB) | (at_mapUpdate; refine wpList_put _ rfl _ _ _ 202 rfl 9 3 keyedS Tryz.underlying202 Tryz.underlying9 rfl HM.out (by unfold maxLen; omega) yn (.int .i64 1) rfl rfl hns' ?_; intro w2 hM2 hg2; have HM2 := Lib.hid hM2; have HG2 := Lib.hid hg2; clear hM2 hg2))
        · have hbad : (!symOkP ⟨yn, yb, yk, ys, yy, yr, yt⟩) = true := by assumption
          go_ret
          exact ⟨ret_bool (mayP_no hlt HX.out HGO.out (.inr (by simpa using hbad))), HBW.out.trans (HB1.out.mono (by omega))⟩
        · have hok : (!symOkP ⟨yn, yb, yk, ys, yy, yr, yt⟩) = false := by assumption
          have HM3 : Hid (MapFn Tryz.prog 9 w2 (w.heap.size + 1) (k + 1) (seenFn (x.syms.take (k + 1)))) := (seenFn_snoc hlt HX.out) ▸ HM2.out
          go_roundw
          case rel => exact ⟨k + 1, by omega, by go_num, symsGo_yes hlt HX.out HGO.out HS.out (by simpa using hok), HM3.out, HB.out.trans (HB1.out.grown HG2.out (by omega) (fun j e => by simp at e; omega))⟩
          case measure => simp [intOf]; omega
    · go_wp2_with (go_at_call 149; refine (objName_any _ _ hnm).mono ?_; rintro e w1 ⟨rfl, hB⟩; obtain ⟨hc, hf⟩ := bcell hB)
      all_goals
        go_ret
        exact ⟨ret_bool (by rw [mayP_end hlt HGO.out]; go_light; simp_all; try omega), HBW.out.trans (hB.mono HBW.out.size)⟩
set_option maxHeartbeats 400000 in
theorem objCheck_any (x : GObj) (vs : Value) (w : World) (h : ObjIn w x vs) :
    Calls Tryz.prog 62 #[.agg #[.string x.name, vs]] w fun e w' => e = .returned (.int .i64 (errB (mayP x))) ∧ Below w.heap.size w w' := by
  have HCON := Lib.hid (objMay_any x vs _ (h.keep (alloc_old w (.cells #[.string x.name, vs] 43)))); clear h
  go_enter Tryz.func62, Tryz.ntmps62
  go_wp2_with (first | (go_at_call 110; refine HCON.out.mono ?_; rintro e w1 ⟨rfl, hB⟩) | (go_at_call 109; refine (told_any _ _).mono ?_; rintro e w1 ⟨rfl, rfl⟩))
  go_ret
  exact ⟨rfl, (alloc_old w _).trans (hB.mono (by simp))⟩
end Go.Proofs.YtoonkfhphbojcaaGreatDoor
