/- The walks of aediculeref35.SameObjects, Same and May. What Large lets pass is not long (layer 35). The walk of aediculeref07.Same, at two rows of the same texts. An archive among a law's arguments, and a row of archives. The walk of aediculeref09.Put (printed by genrefput.py). The walk of aediculeref35.Put, where the archive may be. The walk of aediculeref35.Copies at one archive. -/
import Derived.Test.YtboegjdkedjhcaaGreatDoorBd09
import Derived.Test.YtboegjdkedjhcaaGreatDoorBd23
import Derived.Test.YtboegjdkedjhcaaGreatDoorBd08
import Derived.Test.YtboegjdkedjhcaaGreatDoorBd10
import Derived.Test.YtboegjdkedjhcaaGreatDoorBd11
import Derived.Test.YtboegjdkedjhcaaGreatDoorBd03
import Derived.Test.YtboegjdkedjhcaaGreatDoorRows
import Derived.Lib.Hide
import Derived.Deep.QuietTactic
import Derived.BigQuiet
import Derived.Test.YtboegjdkedjhcaaGreatDoorBd18
import Derived.Test.YtboegjdkedjhcaaGreatDoorBd01
import Derived.Test.YtboegjdkedjhcaaGreatDoorBd15
import Derived.Test.YtboegjdkedjhcaaGreatDoorBd06
import Derived.Deep.Cut
import Derived.IntWalk
import Derived.Test.YtboegjdkedjhcaaGreatDoorBd30
import Derived.Test.YtboegjdkedjhcaaGreatDoorBd13
namespace Go.Proofs.YtboegjdkedjhcaaGreatDoor
open Go.RowKit Go.Maps
set_option maxRecDepth 100000 in
set_option maxHeartbeats 2000000 in
theorem sameObjs35_any (v1 v2 : Value) (l : List GObj) (w : World) (h1 : ObjsAt w v1 l) (h2 : ObjsAt w v2 l) :
    Calls Tryz.prog 18 #[v1, v2] w fun e w' => e = .returned (.bool true) ∧ Below w.heap.size w w' := by
  have HO1 := Lib.hid h1
  have HO2 := Lib.hid h2
  obtain ⟨p1, c1, b1, o1, rfl, hc1, hm1, hp1, -⟩ := h1
  obtain ⟨p2, c2, b2, o2, rfl, hc2, -, hp2, -⟩ := h2
  have HP1 := Lib.hid hp1
  have HP2 := Lib.hid hp2
  clear hp1 hp2
  go_enter Tryz.func18, Tryz.ntmps18
  go_wp2
  go_loopw [5] (fun v5 wr => ∃ k : Nat, k ≤ l.length ∧ v5 = .int .i64 k ∧ Below w.heap.size w wr) (fun v5 _ => l.length - (intOf v5).toNat)
  case atStart => exact ⟨0, Nat.zero_le _, rfl, Below.refl _ _⟩
  case round =>
    obtain ⟨k, hk, rfl, hbel⟩ := hrel
    have HB := Lib.hid hbel; clear hbel
    by_cases hlt : k < l.length
    · obtain rfl := HP1.out (by omega)
      obtain rfl := HP2.out (by omega)
      obtain ⟨_, _, _, _, e1, -, -, f1, hc1⟩ := ObjsAt.keep HB.out HO1.out
      cases e1
      cases f1 (by omega)
      obtain ⟨_, _, _, _, e2, -, -, f2, hc2⟩ := ObjsAt.keep HB.out HO2.out
      cases e2
      cases f2 (by omega)
      obtain ⟨vs, g0, g1, g2, hin1⟩ := hc1 k hlt
      obtain ⟨us, k0, k1, k2, hin2⟩ := hc2 k hlt
      clear hc1 hc2
      generalize l[k] = x at g1 g2 hin1 k1 k2 hin2
      have HCS := Lib.hid (sameObj_any x vs us wr.drew (ObjIn.keep (Below.refl _ _).drew hin1) (ObjIn.keep (Below.refl _ _).drew hin2))
      obtain ⟨⟨pS, capS, bS, oS, rfl, -⟩, -⟩ := hin1
      obtain ⟨⟨pT, capT, bT, oT, rfl, -⟩, -⟩ := hin2
      obtain ⟨xn, xs⟩ := x
      simp only [] at g1 g2 k1 k2 HCS
      go_wp2
      go_still_tail 8, (by kernel_rfl)
      change wpList _ _ _ _ _ wr.drew
      go_wp2_with (go_at_call 62; refine HCS.out.mono ?_; rintro e w2 ⟨rfl, hB2⟩)
      exact ⟨⟨k + 1, by omega, by go_num, HB.out.drew.trans (hB2.mono HB.out.size)⟩, by simp [intOf]; omega⟩
    · go_wp2
      go_ret
      exact ⟨rfl, HB.out⟩
set_option maxRecDepth 100000 in
set_option maxHeartbeats 1000000 in
theorem same35_any (x : GArc) (v1 v2 : Value) (w : World) (h1 : ArcIn w x v1) (h2 : ArcIn w x v2) :
    Calls Tryz.prog 12 #[.agg #[.string x.name, v1], .agg #[.string x.name, v2]] w fun e w' => e = .returned (.bool true) ∧ Below w.heap.size w w' := by
  have hbb : Below w.heap.size w ((w.alloc (.cells #[.string x.name, v1] 24)).alloc (.cells #[.string x.name, v2] 24)) := (alloc_old w _).alloc (by simp) _
  have HS := Lib.hid (sameObjs35_any v1 v2 x.members _ (h1.1.keep hbb) (h2.1.keep hbb))
  have HBB := Lib.hid hbb
  obtain ⟨p1, c1, _, _, rfl, -⟩ := h1.1
  obtain ⟨p2, c2, _, _, rfl, -⟩ := h2.1
  clear h1 h2 hbb
  obtain ⟨xn, xm⟩ := x
  simp only [] at HS HBB
  have bq : (xn.toList == xn.toList) = true := by simp
  go_enter Tryz.func12, Tryz.ntmps12
  go_wp2_with (go_at_call 18; refine HS.out.mono ?_; rintro e w2 ⟨rfl, hB2⟩)
  go_ret
  exact ⟨rfl, HBB.out.trans (hB2.mono HBB.out.size)⟩
def memsGoR : List GObj → List GObj → Bool
  | _, [] => true
  | seen, o :: r => !hasObj seen o.name.data.toList && mayOk o && memsGoR (seen ++ [o]) r
/-- the reference's May -/
def arcOkR (a : GArc) : Bool := memsGoR [] a.members && isName a.name && decide (a.members.length ≤ 32)
theorem memsGoR_yes {l : List GObj} {k : Nat} {x : GObj} (hlt : k < l.length) (hx : l[k] = x) (hgo : memsGoR (l.take k) (l.drop k) = memsGoR [] l)
    (h1 : hasObj (l.take k) x.name.data.toList = false) (h2 : mayOk x = true) : memsGoR (l.take (k + 1)) (l.drop (k + 1)) = memsGoR [] l := by
  rw [← hgo, List.drop_eq_getElem_cons hlt, hx, memsGoR, h1, h2, List.take_succ_eq_append_getElem hlt, hx]; simp
theorem arcOkR_no {o : GArc} {k : Nat} {x : GObj} (hlt : k < o.members.length) (hx : o.members[k] = x) (hgo : memsGoR (o.members.take k) (o.members.drop k) = memsGoR [] o.members)
    (h : hasObj (o.members.take k) x.name.data.toList = true ∨ mayOk x = false) : false = arcOkR o := by
  rw [List.drop_eq_getElem_cons hlt, hx, memsGoR] at hgo
  rcases h with h | h <;> simp [arcOkR, ← hgo, h]
theorem arcOkR_end {o : GArc} {k : Nat} (hlt : ¬ k < o.members.length) (hgo : memsGoR (o.members.take k) (o.members.drop k) = memsGoR [] o.members) : arcOkR o = (isName o.name && decide (o.members.length ≤ 32)) := by
  rw [List.drop_of_length_le (by omega), memsGoR] at hgo
  simp [arcOkR, ← hgo]
theorem memsGo_same : ∀ (l seen : List GObj), (∀ o ∈ l, mayP o = mayOk o) → memsGo seen l = memsGoR seen l
  | [], _, _ => rfl
  | o :: r, seen, h => by rw [memsGo, memsGoR, h o (List.mem_cons_self ..), memsGo_same r _ fun x hx => h x (List.mem_cons_of_mem _ hx)]
theorem arcOk_same {a : GArc} (h : ∀ o ∈ a.members, mayP o = mayOk o) : arcOk a = arcOkR a := by unfold arcOk arcOkR; rw [memsGo_same _ _ h]
theorem hasObj_take {l : List GObj} {k : Nat} {x : GObj} {n : List UInt8} (h : k < l.length) (hx : l[k] = x) : hasObj (l.take (k + 1)) n = (hasObj (l.take k) n || x.name.data.toList == n) := by
  rw [List.take_succ_eq_append_getElem h, hx, hasObj_snoc]
theorem hasObj_hit {l : List GObj} {i k : Nat} {x : GObj} {n : List UInt8} (hk : k < i) (h : k < l.length) (hx : l[k] = x) (hn : x.name.data.toList = n) : hasObj (l.take i) n = true := by
  unfold hasObj
  rw [List.any_eq_true]
  refine ⟨x, ?_, by simp [hn]⟩
  rw [List.mem_take_iff_getElem]
  exact ⟨k, by omega, hx⟩
set_option maxRecDepth 100000 in
set_option maxHeartbeats 2000000 in
theorem arcMayR_any (x : GArc) (vs : Value) (w : World) (h : ArcIn w x vs) :
    Calls Tryz.prog 13 #[.agg #[.string x.name, vs]] w fun e w' => e = .returned (.bool (arcOkR x)) ∧ Below w.heap.size w w' := by
  obtain ⟨hr, hnm⟩ := h
  obtain ⟨p, cap, b, o, rfl, hcap, hmax, hp, hc⟩ := hr
  have HC := Lib.hid hc; clear hc
  have HP := Lib.hid hp; clear hp
  go_enter Tryz.func13, Tryz.ntmps13
  go_wp2
  go_loopw [3] (fun v3 wr => ∃ i : Nat, i ≤ x.members.length ∧ v3 = .int .i64 i ∧ memsGoR (x.members.take i) (x.members.drop i) = memsGoR [] x.members ∧ Below (w.heap.size + 1) (w.alloc (.cells #[.string x.name, .slice p x.members.length cap] 24)) wr) (fun v3 _ => x.members.length - (intOf v3).toNat)
  case atStart => exact ⟨0, Nat.zero_le _, rfl, rfl, Below.refl _ _⟩
  case round =>
    obtain ⟨i, hi, rfl, hgo, hbel⟩ := hrel
    have HGO := Lib.hid hgo; clear hgo
    have c0 : wr.cell? ⟨w.heap.size, 0, none⟩ = some (.string x.name) := by rw [hbel.cell (by simp)]; simp [go_sem]
    have c1 : wr.cell? ⟨w.heap.size, 1, none⟩ = some (.slice p x.members.length cap) := by rw [hbel.cell (by simp)]; simp [go_sem]
    have hsz1 : w.heap.size < wr.heap.size := by have := hbel.size; simp at this; omega
    have HBW : Hid (Below w.heap.size w wr) := (alloc_old w _).trans (hbel.mono (by omega))
    have HB := Lib.hid hbel; clear hbel
    by_cases hlt : i < x.members.length
    · obtain rfl := HP.out (by omega)
      obtain ⟨vs, g0, g1, g2, hsin⟩ := objR_keeps _ _ _ _ _ HBW.out (HC.out i hlt)
      have N0 := Lib.hid (HC.out i hlt)
      have HCON := Lib.hid (refMay_any x.members[i] vs wr hsin)
      obtain ⟨pS, capS, rfl⟩ := hsin.form
      clear hsin
      generalize hx : x.members[i] = y at g1 g2 HCON N0
      obtain ⟨yn, ys⟩ := y
      simp only [] at g1 g2 HCON
      have HX := Lib.hid hx; clear hx
      go_wp2_with (go_at_call 37; refine HCON.out.mono ?_; rintro e w1 ⟨rfl, hB1⟩; have HB1 := Lib.hid hB1; clear hB1)
      · have hbad : (!mayOk ⟨yn, ys⟩) = true := by assumption
        go_ret
        exact ⟨ret_bool (arcOkR_no hlt HX.out HGO.out (.inr (by simpa using hbad))), HBW.out.trans (HB1.out.mono HBW.out.size)⟩
      · have hok : (!mayOk ⟨yn, ys⟩) = false := by assumption
        have HOK : Hid (mayOk ⟨yn, ys⟩ = true) := by simpa [Hid] using hok
        have HB2 := Lib.hid (HB.out.trans (HB1.out.mono (by omega)))
        clear c0 c1 g0 g1 g2 HBW HB
        obtain ⟨wo, rfl⟩ : ∃ wo : World, wo = wr := ⟨_, rfl⟩
        go_loopw [4] (fun v4 wr => ∃ k : Nat, k ≤ i ∧ v4 = .int .i64 k ∧ hasObj (x.members.take k) yn.data.toList = false ∧ Below (w.heap.size + 1) (w.alloc (.cells #[.string x.name, .slice (some ⟨b, o, none⟩) x.members.length cap] 24)) wr) (fun v4 _ => i - (intOf v4).toNat)
        case atStart => exact ⟨0, Nat.zero_le _, rfl, by simp [hasObj], HB2.out⟩
        case round =>
          obtain ⟨k, hk, rfl, hno, hbel⟩ := hrel
          have HNO := Lib.hid hno; clear hno
          have c1 : wr.cell? ⟨w.heap.size, 1, none⟩ = some (.slice (some ⟨b, o, none⟩) x.members.length cap) := by rw [hbel.cell (by simp)]; simp [go_sem]
          have hsz2 : w.heap.size < wr.heap.size := by have := hbel.size; simp at this; omega
          have HBW : Hid (Below w.heap.size w wr) := (alloc_old w _).trans (hbel.mono (by omega))
          have HB := Lib.hid hbel; clear hbel
          by_cases hki : k < i
          · obtain ⟨vr2, q0, q1, -⟩ := objR_keeps _ _ _ _ _ HBW.out (HC.out k (by omega))
            obtain ⟨vr3, g0, g1, -⟩ := objR_keeps _ _ _ _ _ HBW.out N0.out
            simp only [] at g1
            generalize hz : x.members[k] = z at q1
            obtain ⟨zn, zs⟩ := z
            simp only [] at q1
            have HZ := Lib.hid hz; clear hz
            have e1 : (0 : Int) ≤ (k : Int) := by omega
            have e2 : (k : Int) < (x.members.length : Int) := by omega
            have e3 : (0 : Int) ≤ (i : Int) := by omega
            have e4 : (i : Int) < (x.members.length : Int) := by omega
            by_cases hnn : zn.data.toList = yn.data.toList
            · have bq : (zn.toList == yn.toList) = true := by rw [toList_beq', hnn]; simp
              have HNN := Lib.hid hnn; clear hnn
              go_wp2
              go_quiet (fail)
              go_wp2
              go_ret
              exact ⟨ret_bool (arcOkR_no hlt HX.out HGO.out (.inl (hasObj_hit hki (by omega) HZ.out HNN.out))), below_drewN HBW.out _⟩
            · have bq : (zn.toList == yn.toList) = false := by rw [toList_beq', beq_eq_false_iff_ne]; exact hnn
              have HNN := Lib.hid hnn; clear hnn
              go_wp2
              go_quiet (fail)
              go_wp2
              go_roundw
              case rel => exact ⟨k + 1, by omega, by go_num, by rw [hasObj_take (by omega) HZ.out, HNO.out]; simp only [Bool.false_or, beq_eq_false_iff_ne]; exact HNN.out, below_drewN HB.out _⟩
              case measure => simp [intOf]; omega
          · obtain rfl : k = i := by omega
            go_wp2
            go_roundw
            case rel => exact ⟨k + 1, by omega, by go_num, memsGoR_yes hlt HX.out HGO.out HNO.out HOK.out, HB.out⟩
            case measure => simp [intOf]; omega
    · go_wp2_with (go_at_call 38; refine (refName_any _ _ (by unfold maxLen; omega)).mono ?_; rintro e w' ⟨rfl, rfl⟩)
      all_goals
        go_ret
        exact ⟨ret_bool (by rw [arcOkR_end hlt HGO.out]; go_light; simp_all; try omega), HBW.out⟩
end Go.Proofs.YtboegjdkedjhcaaGreatDoor
namespace Go.Proofs.YtboegjdkedjhcaaGreatDoor
open Go.RowKit
theorem mayP_len {o : GObj} (h : mayP o = true) : o.syms.length ≤ 64 := by
  simp only [mayP, Bool.and_eq_true, decide_eq_true_eq] at h; exact h.2
theorem short_bytes {o : GObj} (h : ShortO 400 o) (hl : o.syms.length ≤ 64) : ∀ s ∈ o.syms, s.bytes.size < 4294967296 := fun s hs => by
  obtain ⟨j, hj, rfl⟩ := List.getElem_of_mem hs
  have := h j hj (by omega)
  omega
theorem short_small {o : GObj} (h : ShortO 400 o) (hm : mayP o = true) : ∀ s ∈ o.syms, s.bytes.size < 4294967296 := short_bytes h (mayP_len hm)
theorem short_same {o : GObj} (h : ShortO 400 o) : mayP o = mayOk o := by
  by_cases hl : o.syms.length ≤ 64
  · exact mayP_eq (short_bytes h hl)
  · simp [mayP, mayOk, hl]
theorem arc_mem_may {a : GArc} (h : arcOk a = true) : (∀ o ∈ a.members, mayP o = true) ∧ a.members.length ≤ 32 ∧ a.name.size ≤ 32 := by
  simp only [arcOk, Bool.and_eq_true, decide_eq_true_eq] at h
  exact ⟨memsGo_each _ _ h.1.1, h.2, isName_le h.1.2⟩
theorem arc_small {a : GArc} (hs : ∀ o ∈ a.members, ShortO 400 o) (h : arcOk a = true) : ∀ o ∈ a.members, ∀ s ∈ o.syms, s.bytes.size < 4294967296 := fun o ho => short_small (hs o ho) ((arc_mem_may h).1 o ho)
theorem arc_fit {w : World} {a : GArc} {va : Value} (hin : ArcIn w a va) (h : arcOk a = true) (hs : ∀ o ∈ a.members, ∀ s ∈ o.syms, s.bytes.size < 4294967296) : ∀ o ∈ a.members, ObjFit o ∧ (encObj o).length ≤ 4000000 := fun o ho => by
  obtain ⟨⟨p, cap, b, o0, rfl, -, -, -, hc⟩, -⟩ := hin
  obtain ⟨i, hi, rfl⟩ := List.getElem_of_mem ho
  obtain ⟨vs, -, -, -, hob⟩ := hc i hi
  have hm := (arc_mem_may h).1 _ ho
  exact ⟨objFit_of (objSm_of hm (objNum_of hob) (hs _ ho)), encObj_le hob hm (hs _ ho)⟩
theorem encArc_len {a : GArc} (h : arcOk a = true) (hf : ∀ o ∈ a.members, ObjFit o ∧ (encObj o).length ≤ 4000000) : (encArc a).length ≤ 200000000 := by
  obtain ⟨-, h2, h3⟩ := arc_mem_may h
  have h4 := flat_le (f := encMem) (c := 4000004) (l := a.members) fun o ho => by
    have := (hf o ho).2
    unfold encMem; rw [List.length_append, leB_length]; omega
  have h5 : a.members.length * 4000004 ≤ 32 * 4000004 := Nat.mul_le_mul_right _ h2
  have h6 : aMagic.length = 4 := rfl
  unfold encArc
  rw [List.length_append, List.length_append, List.length_append, encText_len, leB_length, h6]
  omega
/-- what was put is got -/
theorem put_got {a : GArc} (h : arcOk a = true) (hf : ∀ o ∈ a.members, ObjFit o ∧ (encObj o).length ≤ 4000000) : arcGetV (bsOf (encArc a)) = (a, 0) := by
  unfold arcGetV
  rw [bsOf_list, arcGet_enc h fun o ho => ⟨(hf o ho).1, by have := (hf o ho).2; omega⟩]
/-- what is got of bytes: none, or an archive that may be, whose bytes these are -/
theorem got_put (s : ByteArray) : arcGetV s = (⟨⟨#[]⟩, []⟩, 7) ∨ ∃ x, arcGetV s = (x, 0) ∧ arcOk x = true ∧ bsOf (encArc x) = s ∧ ∀ o ∈ x.members, ∀ y ∈ o.syms, y.bytes.size < 4294967296 := by
  unfold arcGetV
  cases h : arcGet s.data.toList with
  | none => exact .inl rfl
  | some x =>
    obtain ⟨h1, h2, h3⟩ := arcGet_some h
    refine .inr ⟨x, rfl, h2, ?_, fun o ho y hy => ?_⟩
    · rw [h1]
      apply ByteArray.ext
      apply Array.toList_inj.1
      exact bsOf_list _
    · have := ((h3 o ho).1.2.2 y hy).2.2.2.2.1
      omega
end Go.Proofs.YtboegjdkedjhcaaGreatDoor
namespace Go.Proofs.YtboegjdkedjhcaaGreatDoor
open Go.RowKit
theorem below_draws {B : Nat} {a w : World} (h : Below B a w) (n : Nat) : Below B a (w.drewN n) := ⟨h.os, h.tape, h.output, h.size, h.block⟩
set_option maxRecDepth 100000 in
set_option maxHeartbeats 1000000 in
theorem same07_any (b1 o1 c1 b2 o2 c2 : Nat) (l : List ByteArray) (w : World) (hl : l.length ≤ 1000000000) (h1 : ∀ i (h : i < l.length), w.cell? ⟨b1, o1 + i, none⟩ = some (.string l[i])) (h2 : ∀ i (h : i < l.length), w.cell? ⟨b2, o2 + i, none⟩ = some (.string l[i])) (hb1 : b1 < w.heap.size) (hb2 : b2 < w.heap.size) :
    Calls Tryz.prog 28 #[.slice (some ⟨b1, o1, none⟩) l.length c1, .slice (some ⟨b2, o2, none⟩) l.length c2] w fun e w' => e = .returned (.bool true) ∧ Below w.heap.size w w' := by
  have H1 := Lib.hid h1; have H2 := Lib.hid h2; clear h1 h2
  go_enter Tryz.func28, Tryz.ntmps28
  go_wp2
  go_loopw [5] (fun v5 wr => ∃ k : Nat, k ≤ l.length ∧ v5 = .int .i64 k ∧ Below w.heap.size w wr) (fun v5 _ => l.length - (intOf v5).toNat)
  case atStart => exact ⟨0, Nat.zero_le _, rfl, Below.refl _ _⟩
  case round =>
    obtain ⟨k, hk, rfl, hbel⟩ := hrel
    have HB := Lib.hid hbel; clear hbel
    by_cases hlt : k < l.length
    · have x1 := (HB.out.cell (p := ⟨b1, o1 + k, none⟩) hb1).trans (H1.out k hlt)
      have x2 := (HB.out.cell (p := ⟨b2, o2 + k, none⟩) hb2).trans (H2.out k hlt)
      generalize l[k] = s at x1 x2
      go_wp2
      go_quiet (fail)
      go_wp2
      go_roundw
      case rel => exact ⟨k + 1, by omega, by go_num, below_draws HB.out _⟩
      case measure => simp [intOf]; omega
    · go_wp2
      go_ret
      exact ⟨rfl, HB.out⟩
end Go.Proofs.YtboegjdkedjhcaaGreatDoor
namespace Go.Proofs.YtboegjdkedjhcaaGreatDoor
open Go.ChangeShapes Go.WideShapes Go.ChangeAt Go.RowKit Go.Deep
section
variable {H : Type} {enc : TypeId × Value → H} {w : World} {base : Nat} {spare : Nat → Bool} {held : Bool}
set_option maxRecDepth 100000 in
theorem open_arcB (b o : Nat) (cs : List Value) (n : Nat) (d : DataW H × List MemPlace) (hb : b < w.heap.size) (hl : cs.length = 2) (hc : ∀ j, j < 2 → w.cell? ⟨b, o + j, none⟩ = cs[j]?)
    (h : DataW.trod enc Tryz.prog w base spare held n 24 cs = some d) (hs : Small Tryz.prog 24 d.1) : ∃ y, ArcR w b o y := by
  obtain ⟨m, hf⟩ := open_fields Tryz.underlying24 (by kernel_rfl) h hs hl
  obtain ⟨v0, y0, e0, t0, s0⟩ := hf 0 _ rfl
  obtain ⟨v1, y1, e1, t1, s1⟩ := hf 1 _ rfl
  obtain ⟨n0, c0, rfl, w0⟩ := DataW.trod_string Tryz.underlying9 t0
  obtain ⟨u1, l1, c1, r1⟩ := open_row (R := fun w b o y => ObjR w b o y ∧ ObjBd y) Tryz.underlying22 (by kernel_rfl) (by omega) (of_decide_eq_true (by kernel_rfl)) open_objB t1 s1
  cases c0; cases c1
  obtain ⟨r2, r3⟩ := r1.split
  exact ⟨⟨n0, l1⟩, v1, hb, (hc 0 (by omega)).trans e0, (hc 1 (by omega)).trans e1, r2, small_bytes s0⟩
theorem open_arcs {v : Value} {d : DataW H} {p : List MemPlace} (h : DataW.Trod enc Tryz.prog w base spare held 26 v d p) (hsl : ∃ a n c, v = .slice a n c) (hs : Small Tryz.prog 26 d) : ∃ l, ArcsAt w v l := by
  obtain ⟨fuel, hf⟩ := h
  obtain ⟨a, n, c, rfl⟩ := hsl
  obtain ⟨v', l, hv, hr⟩ := open_row (x := (d, p)) (R := ArcR) Tryz.underlying26 (by kernel_rfl) (by omega) (of_decide_eq_true (by kernel_rfl)) open_arcB hf hs
  have : v' = .slice a n c := by simpa [Value.cells] using hv.symm
  subst this
  exact ⟨l, hr⟩
set_option maxRecDepth 100000 in
theorem open_arcV {r : Go.Reach} {b0 : Nat} {v : Value} {d : DataW H} {p : List MemPlace} (hv : Value.okWide Tryz.prog w r b0 24 v) (h : DataW.Trod enc Tryz.prog w base spare held 24 v d p) (hs : Small Tryz.prog 24 d) :
    ∃ (o : GArc) (vs : Value), v = .agg #[.string o.name, vs] ∧ ArcIn w o vs ∧ ObjsBd o.members := by
  obtain ⟨cs, rfl, hsz⟩ := okWide_struct Tryz.underlying24 hv
  obtain ⟨fuel, hf⟩ := h
  have hC : Tryz.prog.cellsOf 24 = 2 := by kernel_rfl
  have hl : cs.toList.length = 2 := by rw [Array.length_toList]; exact hsz.trans hC
  have hf' : DataW.trod enc Tryz.prog w base spare held fuel 24 cs.toList = some (d, p) := by simpa [Value.cells] using hf
  obtain ⟨m, hff⟩ := open_fields Tryz.underlying24 (by kernel_rfl) hf' hs hl
  obtain ⟨v0, y0, e0, t0, s0⟩ := hff 0 _ rfl
  obtain ⟨v1, y1, e1, t1, s1⟩ := hff 1 _ rfl
  obtain ⟨n0, c0, rfl, w0⟩ := DataW.trod_string Tryz.underlying9 t0
  obtain ⟨u1, l1, c1, r1⟩ := open_row (R := fun w b o y => ObjR w b o y ∧ ObjBd y) Tryz.underlying22 (by kernel_rfl) (by omega) (of_decide_eq_true (by kernel_rfl)) open_objB t1 s1
  cases c0; cases c1
  obtain ⟨r2, r3⟩ := r1.split
  refine ⟨⟨n0, l1⟩, v1, ?_, ⟨r2, small_bytes s0⟩, row_bytes Tryz.underlying22 (by kernel_rfl) t1 s1 r2, r3⟩
  have : cs.toList = [.string n0, v1] := by
    match hcs : cs.toList, hl with
    | [a, b], _ => rw [hcs] at e0 e1; cases e0; cases e1; rfl
  rw [← Array.toArray_toList (xs := cs), this]
end
end Go.Proofs.YtboegjdkedjhcaaGreatDoor
namespace Go.Proofs.YtboegjdkedjhcaaGreatDoor
open Go.RowKit
theorem bs_cat (a c : BL) : bsOf a ++ bsOf c = bsOf (a ++ c) := bsOf_app a (bsOf c)
theorem small_cat {a c : BL} {n : Nat} (h : a.length ≤ n) (hc : c.length ≤ 100000) (hn : n ≤ 100000000) : ¬ 9223372036854775807 < (bsOf a).size + (bsOf c).size := by rw [bsOf_size, bsOf_size]; omega
theorem app_le {a c : BL} {n k : Nat} (h : a.length ≤ n) (hc : c.length ≤ k) : (a ++ c).length ≤ n + k := by rw [List.length_append]; omega
theorem leB_le (n : Nat) (v : Int) : (leB n v).length ≤ n := by rw [leB_length]; exact Nat.le_refl _
theorem enc_le {s : ByteArray} {k : Nat} (h : s.size ≤ k) : (encText s).length ≤ 2 + k := by rw [encText_len]; omega
set_option maxRecDepth 100000 in
set_option maxHeartbeats 4000000 in
theorem refPut_ok (o : GObj) (vs : Value) (w : World) (h : ObjIn w o vs) (hSM : o.name.size ≤ 32 ∧ o.syms.length ≤ 64 ∧ ∀ s ∈ o.syms, SymSm s) :
    Calls Tryz.prog 41 #[.agg #[.string o.name, vs]] w fun e w' => e = .returned (.string (bsOf (encObj o))) ∧ Below w.heap.size w w' := by
  have HSM := Lib.hid hSM.2.2
  obtain ⟨hn1, hn2, -⟩ := hSM
  obtain ⟨on, os⟩ := o
  obtain ⟨⟨p, cap, b0, o0, rfl, hcap, hmax, hp, hc⟩, hnm⟩ := h
  simp only [] at *
  have HP := Lib.hid hp; clear hp
  have HC := Lib.hid hc; clear hc
  have hap : ∀ a c : BL, bsOf a ++ bsOf c = bsOf (a ++ c) := bs_cat
  have hmg : (⟨#[65, 79, 66, 49]⟩ : ByteArray) = bsOf magicB := rfl
  have hm4 : magicB.length ≤ 4 := Nat.le_refl _
  have T0 : Hid (∀ (W : World) (s : ByteArray), s.size < 65536 → ∀ x : BW W, Calls Tryz.prog 83 #[.string s] x.u fun e w' => e = .returned (.string (bsOf (encText s))) ∧ ∃ y : BW W, w' = y.u) := fun W s hs x => calls_below (rtext09 s x.u hs)
  have N0 : Hid (∀ (W : World) (n : Nat) (v : Int), 1 ≤ n → n ≤ 4 → 0 ≤ v → v < pow256 n → v ≤ 4294967295 → ∀ x : BW W, Calls Tryz.prog 84 #[.int .u32 v, .int .i64 n] x.u fun e w' => e = .returned (.string (bsOf (leB n v))) ∧ ∃ y : BW W, w' = y.u) := fun W n v a b c d f x => calls_below (rnum09 n v x.u a b c d f)
  go_enter Tryz.func41, Tryz.ntmps41
  go_wp2
  generalize hw1 : w.alloc (.cells #[.string on, .slice p os.length cap] 50) = w1
  have HB1 : Hid (Below w.heap.size w w1) := by subst hw1; exact alloc_old _ _
  have z1 : w.heap.size < w1.heap.size := by subst hw1; simp
  have x0 : w1.cell? ⟨w.heap.size, 0, none⟩ = some (.string on) := by subst hw1; simp [go_sem]
  have x1 : w1.cell? ⟨w.heap.size, 1, none⟩ = some (.slice p os.length cap) := by subst hw1; simp [go_sem]
  clear hw1
  have HX1 := Lib.hid x1
  have s1 : ¬ 9223372036854775807 < (bsOf (magicB)).size + (bsOf (encText on)).size := small_cat (n := 4) hm4 (Nat.le_trans (enc_le (k := 32) hn1) (by omega)) (by omega)
  have s2 : ¬ 9223372036854775807 < (bsOf (magicB ++ encText on)).size + (bsOf (leB 2 ((os.length : Int)))).size := small_cat (n := 4 + (34)) (app_le hm4 (enc_le (k := 32) hn1)) (Nat.le_trans (leB_le 2 _) (by omega)) (by omega)
  have HC1 := Lib.hid (T0.out w1 on (by omega))
  have HC2 : Hid (∀ x : BW w1, Calls Tryz.prog 84 #[.int .u32 ((os.length : Int)), .int .i64 2] x.u fun e w' => e = .returned (.string (bsOf (leB 2 ((os.length : Int))))) ∧ ∃ y : BW w1, w' = y.u) := N0.out w1 2 ((os.length : Int)) (by omega) (by omega) (by omega) (by rw [p2]; omega) (by omega)
  have y0 := bw_cell z1 x0
  have y1 := bw_cell z1 x1
  have wr1 : IntKind.u32.wrap (os.length : Int) = (os.length : Int) := IntWalk.u32_in _ (by omega)
  refine wp_region_below (by kernel_rfl) (by kernel_rfl) ?_
  repeat (first | go_big_quiet_skip | quiet_step ((first | (go_at_call 83; (with_reducible exact HC1.out _)) | (go_at_call 84; (with_reducible exact HC2.out _)))))
  refine wpQuiet_nil ?_
  rintro w4 hx4; have hB4 := bw_of hx4; clear hx4
  clear s1 s2 HC1 HC2 y0 y1 wr1
  have HB4 := Lib.hid hB4; clear hB4
  have hl1 : (magicB ++ (encText on ++ leB 2 ((os.length : Int)))).length ≤ 1000 := (Nat.le_trans (app_le hm4 (app_le (enc_le (k := 32) hn1) (leB_le 2 _))) (by omega))
  have HL1 : Hid ((magicB ++ (encText on ++ leB 2 ((os.length : Int)))) ++ os.flatMap encSym = encObj ⟨on, os⟩) := by simp only [Hid, encObj, List.append_assoc]
  generalize magicB ++ (encText on ++ leB 2 ((os.length : Int))) = l1 at hl1 HL1 ⊢
  clear hmg hm4 x0 x1
  have HZ0 : Hid (bsOf l1 = bsOf (l1 ++ (os.take 0).flatMap encSym)) := by simp [Hid]
  go_wp2
  go_loopw [3, 4] (fun v3 v4 wr => ∃ i : Nat, i ≤ os.length ∧ v4 = .int .i64 i ∧ v3 = .string (bsOf (l1 ++ (os.take i).flatMap encSym)) ∧ Below w1.heap.size w1 wr) (fun _ v4 _ => os.length - (intOf v4).toNat)
  case atStart => exact ⟨0, Nat.zero_le _, rfl, congrArg Value.string HZ0.out, HB4.out⟩
  case round =>
    clear HB4 HZ0
    obtain ⟨i, hi, rfl, rfl, hbel⟩ := hrel
    have HB := Lib.hid hbel; clear hbel
    have x1 := cell_keep HB.out z1 HX1.out
    have HBW : Hid (Below w.heap.size w wr) := HB1.out.trans (HB.out.mono HB1.out.size)
    by_cases hlt : i < os.length
    · obtain rfl := HP.out (by omega)
      have dI : decide ((i : Int) < (os.length : Int)) = true := by simp; omega
      have dI' : decide (i < os.length) = true := by simpa using hlt
      obtain ⟨vr, vn, g0, g1, g2, g3, g4, g5, g6, g7, hin⟩ := symR_keeps _ _ _ _ _ HBW.out (HC.out i hlt)
      obtain ⟨hfit, hsn, hsb, hsr, hrn, hsnt⟩ := HSM.out _ (List.getElem_mem hlt)
      have HT : Hid (l1 ++ (os.take (i + 1)).flatMap encSym = (l1 ++ (os.take i).flatMap encSym) ++ encSym os[i]) := by rw [Hid, take_flat hlt, List.append_assoc]
      have hl0 : (l1 ++ (os.take i).flatMap encSym).length ≤ 4000000 := by
        have := take_flat_le (f := encSym) (c := 60000) (l := os) (fun x hx => encSym_len (HSM.out x hx)) i
        rw [List.length_append]; omega
      generalize hy : os[i] = y at g1 g2 g3 g4 g5 g6 g7 hin hfit hsn hsb hsr hrn hsnt HT
      clear hy
      obtain ⟨yn, yb, yk, ys, yy, yr, yt⟩ := y
      obtain ⟨f1, f2, f3, f4, f5, f6, f7, f8, f9⟩ := hfit
      obtain ⟨⟨pR, capR, bR, oR, rfl, hcapR, hmaxR, hpR, hcR⟩, ⟨pN, capN, bN, oN, rfl, hcapN, hmaxN, hpN, hcN⟩, -⟩ := hin
      simp only [] at g1 g2 g3 g4 g5 g6 g7 f1 f2 f3 f4 f5 f6 f7 f8 f9 hsn hsb hsr hrn hsnt hcapR hmaxR hpR hcR hcapN hmaxN hpN hcN
      have HPR := Lib.hid hpR; have HCR := Lib.hid hcR; have HPN := Lib.hid hpN; have HCN := Lib.hid hcN
      have HF7 := Lib.hid f7; have HF9 := Lib.hid f9; have HRN := Lib.hid hrn
      clear hpR hcR hpN hcN f7 f9 hrn
      generalize hl0e : l1 ++ (os.take i).flatMap encSym = l0 at HT hl0 ⊢
      clear hl0e
      obtain ⟨wo, rfl⟩ : ∃ wo : World, wo = wr := ⟨_, rfl⟩
      go_upto_region 6 with fail
      generalize hwk : wo.alloc (.cells #[.string yn, .int .u8 yb, .int .u8 yk, .int .u32 ys, .string yy, .slice pR yr.length capR, .slice pN yt.length capN] 55) = wk
      have HBK : Hid (Below wo.heap.size wo wk) := by subst hwk; exact alloc_old _ _
      have zs : wo.heap.size < wk.heap.size := by subst hwk; simp
      have k0 : wk.cell? ⟨wo.heap.size, 0, none⟩ = some (.string yn) := by subst hwk; simp [go_sem]
      have k1 : wk.cell? ⟨wo.heap.size, 1, none⟩ = some (.int .u8 yb) := by subst hwk; simp [go_sem]
      have k2 : wk.cell? ⟨wo.heap.size, 2, none⟩ = some (.int .u8 yk) := by subst hwk; simp [go_sem]
      have k3 : wk.cell? ⟨wo.heap.size, 3, none⟩ = some (.int .u32 ys) := by subst hwk; simp [go_sem]
      have k4 : wk.cell? ⟨wo.heap.size, 4, none⟩ = some (.string yy) := by subst hwk; simp [go_sem]
      have k5 : wk.cell? ⟨wo.heap.size, 5, none⟩ = some (.slice pR yr.length capR) := by subst hwk; simp [go_sem]
      have k6 : wk.cell? ⟨wo.heap.size, 6, none⟩ = some (.slice pN yt.length capN) := by subst hwk; simp [go_sem]
      clear hwk g1 g2 g3 g4 g5 g6 g7
      have HK5 := Lib.hid k5; have HK6 := Lib.hid k6
      generalize wo.heap.size = sb at zs k0 k1 k2 k3 k4 k5 k6 HK5 HK6 ⊢
      have s1 : ¬ 9223372036854775807 < (bsOf (l0)).size + (bsOf (encText yn)).size := small_cat (n := 4000000) hl0 (Nat.le_trans (enc_le (k := 32) hsn) (by omega)) (by omega)
      have s2 : ¬ 9223372036854775807 < (bsOf (l0 ++ encText yn)).size + (bsOf (leB 1 (yb))).size := small_cat (n := 4000000 + (34)) (app_le hl0 (enc_le (k := 32) hsn)) (Nat.le_trans (leB_le 1 _) (by omega)) (by omega)
      have s3 : ¬ 9223372036854775807 < (bsOf (l0 ++ (encText yn ++ leB 1 (yb)))).size + (bsOf (leB 1 (yk))).size := small_cat (n := 4000000 + (34 + (1))) (app_le hl0 (app_le (enc_le (k := 32) hsn) (leB_le 1 _))) (Nat.le_trans (leB_le 1 _) (by omega)) (by omega)
      have s4 : ¬ 9223372036854775807 < (bsOf (l0 ++ (encText yn ++ (leB 1 (yb) ++ leB 1 (yk))))).size + (bsOf (leB 4 (ys))).size := small_cat (n := 4000000 + (34 + (1 + (1)))) (app_le hl0 (app_le (enc_le (k := 32) hsn) (app_le (leB_le 1 _) (leB_le 1 _)))) (Nat.le_trans (leB_le 4 _) (by omega)) (by omega)
      have s5 : ¬ 9223372036854775807 < (bsOf (l0 ++ (encText yn ++ (leB 1 (yb) ++ (leB 1 (yk) ++ leB 4 (ys)))))).size + (bsOf (encText yy)).size := small_cat (n := 4000000 + (34 + (1 + (1 + (4))))) (app_le hl0 (app_le (enc_le (k := 32) hsn) (app_le (leB_le 1 _) (app_le (leB_le 1 _) (leB_le 4 _))))) (Nat.le_trans (enc_le (k := 8192) hsb) (by omega)) (by omega)
      have s6 : ¬ 9223372036854775807 < (bsOf (l0 ++ (encText yn ++ (leB 1 (yb) ++ (leB 1 (yk) ++ (leB 4 (ys) ++ encText yy)))))).size + (bsOf (leB 2 ((yr.length : Int)))).size := small_cat (n := 4000000 + (34 + (1 + (1 + (4 + (8194)))))) (app_le hl0 (app_le (enc_le (k := 32) hsn) (app_le (leB_le 1 _) (app_le (leB_le 1 _) (app_le (leB_le 4 _) (enc_le (k := 8192) hsb)))))) (Nat.le_trans (leB_le 2 _) (by omega)) (by omega)
      have HC1 := Lib.hid (T0.out wk yn (by omega))
      have HC2 : Hid (∀ x : BW wk, Calls Tryz.prog 84 #[.int .u32 (yb), .int .i64 1] x.u fun e w' => e = .returned (.string (bsOf (leB 1 (yb)))) ∧ ∃ y : BW wk, w' = y.u) := N0.out wk 1 (yb) (by omega) (by omega) (by omega) (by rw [p1]; omega) (by omega)
      have HC3 : Hid (∀ x : BW wk, Calls Tryz.prog 84 #[.int .u32 (yk), .int .i64 1] x.u fun e w' => e = .returned (.string (bsOf (leB 1 (yk)))) ∧ ∃ y : BW wk, w' = y.u) := N0.out wk 1 (yk) (by omega) (by omega) (by omega) (by rw [p1]; omega) (by omega)
      have HC4 : Hid (∀ x : BW wk, Calls Tryz.prog 84 #[.int .u32 (ys), .int .i64 4] x.u fun e w' => e = .returned (.string (bsOf (leB 4 (ys)))) ∧ ∃ y : BW wk, w' = y.u) := N0.out wk 4 (ys) (by omega) (by omega) (by omega) (by rw [p4]; omega) (by omega)
      have HC5 := Lib.hid (T0.out wk yy (by omega))
      have HC6 : Hid (∀ x : BW wk, Calls Tryz.prog 84 #[.int .u32 ((yr.length : Int)), .int .i64 2] x.u fun e w' => e = .returned (.string (bsOf (leB 2 ((yr.length : Int))))) ∧ ∃ y : BW wk, w' = y.u) := N0.out wk 2 ((yr.length : Int)) (by omega) (by omega) (by omega) (by rw [p2]; omega) (by omega)
      have y0 := bw_cell zs k0
      have y1 := bw_cell zs k1
      have y2 := bw_cell zs k2
      have y3 := bw_cell zs k3
      have y4 := bw_cell zs k4
      have y5 := bw_cell zs k5
      have y6 := bw_cell zs k6
      have wr1 : IntKind.u32.wrap (yr.length : Int) = (yr.length : Int) := IntWalk.u32_in _ (by omega)
      have wr2 : IntKind.u32.wrap yb = yb := IntWalk.u32_in _ (by omega)
      have wr3 : IntKind.u32.wrap yk = yk := IntWalk.u32_in _ (by omega)
      refine wp_region_below (by kernel_rfl) (by kernel_rfl) ?_
      repeat (first | go_big_quiet_skip | quiet_step ((first | (go_at_call 83; (with_reducible exact HC1.out _)) | (go_at_call 84; (with_reducible exact HC2.out _)) | (go_at_call 84; (with_reducible exact HC3.out _)) | (go_at_call 84; (with_reducible exact HC4.out _)) | (go_at_call 83; (with_reducible exact HC5.out _)) | (go_at_call 84; (with_reducible exact HC6.out _)))))
      refine wpQuiet_nil ?_
      rintro w4 hx4; have hB4 := bw_of hx4; clear hx4
      clear s1 s2 s3 s4 s5 s6 HC1 HC2 HC3 HC4 HC5 HC6 y0 y1 y2 y3 y4 y5 y6 wr1 wr2 wr3
      clear k0 k1 k2 k3 k4 k5 k6
      have HB4 := Lib.hid hB4; clear hB4
      have hl2 : (l0 ++ (encText yn ++ (leB 1 (yb) ++ (leB 1 (yk) ++ (leB 4 (ys) ++ (encText yy ++ leB 2 ((yr.length : Int)))))))).length ≤ 4100000 := (Nat.le_trans (app_le hl0 (app_le (enc_le (k := 32) hsn) (app_le (leB_le 1 _) (app_le (leB_le 1 _) (app_le (leB_le 4 _) (app_le (enc_le (k := 8192) hsb) (leB_le 2 _))))))) (by omega))
      have HL2 : Hid ((l0 ++ (encText yn ++ (leB 1 (yb) ++ (leB 1 (yk) ++ (leB 4 (ys) ++ (encText yy ++ leB 2 ((yr.length : Int)))))))) ++ yr.flatMap encRel ++ leB 1 yt.length ++ yt.flatMap encNote = l0 ++ encSym ⟨yn, yb, yk, ys, yy, yr, yt⟩) := by simp only [Hid, encSym, List.append_assoc]
      generalize l0 ++ (encText yn ++ (leB 1 (yb) ++ (leB 1 (yk) ++ (leB 4 (ys) ++ (encText yy ++ leB 2 ((yr.length : Int))))))) = l2 at hl2 HL2 ⊢
      have HZ2 : Hid (bsOf l2 = bsOf (l2 ++ (yr.take 0).flatMap encRel)) := by simp [Hid]
      have HBWK : Hid (Below w.heap.size w wk) := HBW.out.trans (HBK.out.mono HBW.out.size)
      go_wp2
      go_loopw [3, 6] (fun v3 v6 wr => ∃ k : Nat, k ≤ yr.length ∧ v6 = .int .i64 k ∧ v3 = .string (bsOf (l2 ++ (yr.take k).flatMap encRel)) ∧ Below wk.heap.size wk wr) (fun _ v6 _ => yr.length - (intOf v6).toNat)
      case atStart => exact ⟨0, Nat.zero_le _, rfl, congrArg Value.string HZ2.out, HB4.out⟩
      case round =>
        clear HB4 HZ2
        obtain ⟨k, hk, rfl, rfl, hbel⟩ := hrel
        have HBR := Lib.hid hbel; clear hbel
        have k5 := cell_keep HBR.out zs HK5.out
        have k6 := cell_keep HBR.out zs HK6.out
        have HBWR : Hid (Below w.heap.size w wr) := HBWK.out.trans (HBR.out.mono HBWK.out.size)
        by_cases hkl : k < yr.length
        · obtain rfl := HPR.out (by omega)
          obtain ⟨q0, q1, q2, q3, q4, q5, q6, q7, q8⟩ := relR_keeps _ _ _ _ _ HBR.out (relR_keeps _ _ _ _ _ HBK.out (HCR.out k hkl))
          have hfx := HF7.out _ (List.getElem_mem hkl)
          have hnx := HRN.out _ (List.getElem_mem hkl)
          have HT2 : Hid (l2 ++ (yr.take (k + 1)).flatMap encRel = (l2 ++ (yr.take k).flatMap encRel) ++ encRel yr[k]) := by rw [Hid, take_flat hkl, List.append_assoc]
          have hl3 : (l2 ++ (yr.take k).flatMap encRel).length ≤ 5000000 := by
            have := take_flat_le (f := encRel) (c := 43) (l := yr) (fun x hx => by rw [encRel_len]; have := HRN.out x hx; omega) k
            rw [List.length_append]; omega
          generalize yr[k] = x at q1 q2 q3 q4 q5 q6 q7 q8 hfx hnx HT2
          obtain ⟨xo, xk, xn, xa⟩ := x
          obtain ⟨u1, u2, u3, u4⟩ := hfx
          simp only [] at q1 q2 q3 q4 q5 q6 q7 q8 hnx u1 u2 u3 u4
          generalize hl3e : l2 ++ (yr.take k).flatMap encRel = l3 at HT2 hl3 ⊢
          clear hl3e
          obtain ⟨wi, rfl⟩ : ∃ wi : World, wi = wr := ⟨_, rfl⟩
          go_upto_region 11 with fail
          generalize hwk : wi.alloc (.cells #[.int .u32 xo, .int .u8 xk, .string xn, .int .u32 xa] 133) = wj
          have HBJ : Hid (Below wi.heap.size wi wj) := by subst hwk; exact alloc_old _ _
          have zj : wi.heap.size < wj.heap.size := by subst hwk; simp
          have j0 : wj.cell? ⟨wi.heap.size, 0, none⟩ = some (.int .u32 xo) := by subst hwk; simp [go_sem]
          have j1 : wj.cell? ⟨wi.heap.size, 1, none⟩ = some (.int .u8 xk) := by subst hwk; simp [go_sem]
          have j2 : wj.cell? ⟨wi.heap.size, 2, none⟩ = some (.string xn) := by subst hwk; simp [go_sem]
          have j3 : wj.cell? ⟨wi.heap.size, 3, none⟩ = some (.int .u32 xa) := by subst hwk; simp [go_sem]
          clear hwk k5 k6 q1 q2 q3 q4
          generalize wi.heap.size = xb at zj j0 j1 j2 j3 ⊢
          have s1 : ¬ 9223372036854775807 < (bsOf (l3)).size + (bsOf (leB 4 (xo))).size := small_cat (n := 5000000) hl3 (Nat.le_trans (leB_le 4 _) (by omega)) (by omega)
          have s2 : ¬ 9223372036854775807 < (bsOf (l3 ++ leB 4 (xo))).size + (bsOf (leB 1 (xk))).size := small_cat (n := 5000000 + (4)) (app_le hl3 (leB_le 4 _)) (Nat.le_trans (leB_le 1 _) (by omega)) (by omega)
          have s3 : ¬ 9223372036854775807 < (bsOf (l3 ++ (leB 4 (xo) ++ leB 1 (xk)))).size + (bsOf (encText xn)).size := small_cat (n := 5000000 + (4 + (1))) (app_le hl3 (app_le (leB_le 4 _) (leB_le 1 _))) (Nat.le_trans (enc_le (k := 32) hnx) (by omega)) (by omega)
          have s4 : ¬ 9223372036854775807 < (bsOf (l3 ++ (leB 4 (xo) ++ (leB 1 (xk) ++ encText xn)))).size + (bsOf (leB 4 (xa))).size := small_cat (n := 5000000 + (4 + (1 + (34)))) (app_le hl3 (app_le (leB_le 4 _) (app_le (leB_le 1 _) (enc_le (k := 32) hnx)))) (Nat.le_trans (leB_le 4 _) (by omega)) (by omega)
          have HC1 : Hid (∀ x : BW wj, Calls Tryz.prog 84 #[.int .u32 (xo), .int .i64 4] x.u fun e w' => e = .returned (.string (bsOf (leB 4 (xo)))) ∧ ∃ y : BW wj, w' = y.u) := N0.out wj 4 (xo) (by omega) (by omega) (by omega) (by rw [p4]; omega) (by omega)
          have HC2 : Hid (∀ x : BW wj, Calls Tryz.prog 84 #[.int .u32 (xk), .int .i64 1] x.u fun e w' => e = .returned (.string (bsOf (leB 1 (xk)))) ∧ ∃ y : BW wj, w' = y.u) := N0.out wj 1 (xk) (by omega) (by omega) (by omega) (by rw [p1]; omega) (by omega)
          have HC3 := Lib.hid (T0.out wj xn (by omega))
          have HC4 : Hid (∀ x : BW wj, Calls Tryz.prog 84 #[.int .u32 (xa), .int .i64 4] x.u fun e w' => e = .returned (.string (bsOf (leB 4 (xa)))) ∧ ∃ y : BW wj, w' = y.u) := N0.out wj 4 (xa) (by omega) (by omega) (by omega) (by rw [p4]; omega) (by omega)
          have y0 := bw_cell zj j0
          have y1 := bw_cell zj j1
          have y2 := bw_cell zj j2
          have y3 := bw_cell zj j3
          have wr1 : IntKind.u32.wrap xk = xk := IntWalk.u32_in _ (by omega)
          refine wp_region_below (by kernel_rfl) (by kernel_rfl) ?_
          repeat (first | go_big_quiet_skip | quiet_step ((first | (go_at_call 84; (with_reducible exact HC1.out _)) | (go_at_call 84; (with_reducible exact HC2.out _)) | (go_at_call 83; (with_reducible exact HC3.out _)) | (go_at_call 84; (with_reducible exact HC4.out _)))))
          refine wpQuiet_nil ?_
          rintro w4 hx4; have hB4 := bw_of hx4; clear hx4
          clear s1 s2 s3 s4 HC1 HC2 HC3 HC4 y0 y1 y2 y3 wr1
          have HB5 : Hid (Below wk.heap.size wk w4) := (HBR.out.trans (HBJ.out.mono HBR.out.size)).trans (hB4.mono (Nat.le_trans HBR.out.size HBJ.out.size))
          have HE : Hid (l3 ++ (leB 4 (xo) ++ (leB 1 (xk) ++ (encText xn ++ leB 4 (xa)))) = l3 ++ encRel ⟨xo, xk, xn, xa⟩) := by simp only [Hid, encRel, List.append_assoc]
          clear hB4
          go_wp2
          rw [HE.out, ← HT2.out]
          go_roundw
          case rel => exact ⟨k + 1, by omega, by go_num, rfl, HB5.out⟩
          case measure => simp [intOf]; omega
        · have HE3 : Hid (yr.take k = yr) := List.take_of_length_le (by omega)
          have dK : decide ((k : Int) < (yr.length : Int)) = false := by simp; omega
          have dK' : decide (k < yr.length) = false := by simpa using hkl
          rw [HE3.out]
          have hl4 : (l2 ++ yr.flatMap encRel).length ≤ 5000000 := by
            have := flat_le (f := encRel) (c := 43) (l := yr) (fun x hx => by rw [encRel_len]; have := HRN.out x hx; omega)
            rw [List.length_append]; omega
          clear HE3
          have HCN1 := Lib.hid (rnum09 1 (yt.length : Int) wr (by omega) (by omega) (by omega) (by rw [p1]; omega) (by omega))
          have s1 : ¬ 9223372036854775807 < (bsOf (l2 ++ yr.flatMap encRel)).size + (bsOf (leB 1 (yt.length : Int))).size := small_cat hl4 (Nat.le_trans (leB_le 1 _) (by omega)) (by omega)
          go_wp2_with fail
          refine HCN1.out.mono ?_
          rintro e w5 ⟨rfl, hB5⟩
          have HB5 : Hid (Below wk.heap.size wk w5) := HBR.out.trans (hB5.mono HBR.out.size)
          clear hB5 HCN1 k5 k6
          have HL5 : Hid ((l2 ++ (yr.flatMap encRel ++ leB 1 (yt.length : Int))) ++ yt.flatMap encNote = l0 ++ encSym ⟨yn, yb, yk, ys, yy, yr, yt⟩) := by rw [Hid, ← HL2.out]; simp only [List.append_assoc]
          have hl5 : (l2 ++ (yr.flatMap encRel ++ leB 1 (yt.length : Int))).length ≤ 5000010 := by rw [← List.append_assoc, List.length_append, leB_length]; omega
          go_wp2
          clear s1
          generalize l2 ++ (yr.flatMap encRel ++ leB 1 (yt.length : Int)) = l5 at HL5 hl5 ⊢
          have HZ5 : Hid (bsOf l5 = bsOf (l5 ++ (yt.take 0).flatMap encNote)) := by simp [Hid]
          obtain ⟨wo3, rfl⟩ : ∃ wo3 : World, wo3 = wr := ⟨_, rfl⟩
          go_loopw [3, 8] (fun v3 v8 wr => ∃ j : Nat, j ≤ yt.length ∧ v8 = .int .i64 j ∧ v3 = .string (bsOf (l5 ++ (yt.take j).flatMap encNote)) ∧ Below wk.heap.size wk wr) (fun _ v8 _ => yt.length - (intOf v8).toNat)
          case atStart => exact ⟨0, Nat.zero_le _, rfl, congrArg Value.string HZ5.out, HB5.out⟩
          case round =>
            clear HB5 HZ5 HBWR HBR
            obtain ⟨j, hj, rfl, rfl, hbel⟩ := hrel
            have HBR := Lib.hid hbel; clear hbel
            have k6 := cell_keep HBR.out zs HK6.out
            by_cases hjl : j < yt.length
            · obtain rfl := HPN.out (by omega)
              obtain ⟨q0, q1, q2, q3, q4, q5, q6⟩ := noteR_keeps _ _ _ _ _ HBR.out (noteR_keeps _ _ _ _ _ HBK.out (HCN.out j hjl))
              have HT2 : Hid (l5 ++ (yt.take (j + 1)).flatMap encNote = (l5 ++ (yt.take j).flatMap encNote) ++ encNote yt[j]) := by rw [Hid, take_flat hjl, List.append_assoc]
              have hl6 : (l5 ++ (yt.take j).flatMap encNote).length ≤ 6000000 := by
                have := take_flat_le (f := encNote) (c := 9) (l := yt) (fun x _ => by rw [encNote_len]; exact Nat.le_refl _) j
                rw [List.length_append]; omega
              generalize yt[j] = x at q1 q2 q3 q4 q5 q6 HT2
              obtain ⟨xk, xn, xm⟩ := x
              simp only [] at q1 q2 q3 q4 q5 q6
              generalize hl6e : l5 ++ (yt.take j).flatMap encNote = l6 at HT2 hl6 ⊢
              clear hl6e
              obtain ⟨wi, rfl⟩ : ∃ wi : World, wi = wr := ⟨_, rfl⟩
              go_upto_region 17 with fail
              generalize hwk : wi.alloc (.cells #[.int .u8 xk, .int .u32 xn, .int .u32 xm] 155) = wj
              have HBJ : Hid (Below wi.heap.size wi wj) := by subst hwk; exact alloc_old _ _
              have zj : wi.heap.size < wj.heap.size := by subst hwk; simp
              have j0 : wj.cell? ⟨wi.heap.size, 0, none⟩ = some (.int .u8 xk) := by subst hwk; simp [go_sem]
              have j1 : wj.cell? ⟨wi.heap.size, 1, none⟩ = some (.int .u32 xn) := by subst hwk; simp [go_sem]
              have j2 : wj.cell? ⟨wi.heap.size, 2, none⟩ = some (.int .u32 xm) := by subst hwk; simp [go_sem]
              clear hwk k6 q1 q2 q3
              generalize wi.heap.size = xb at zj j0 j1 j2 ⊢
              have s1 : ¬ 9223372036854775807 < (bsOf (l6)).size + (bsOf (leB 1 (xk))).size := small_cat (n := 6000000) hl6 (Nat.le_trans (leB_le 1 _) (by omega)) (by omega)
              have s2 : ¬ 9223372036854775807 < (bsOf (l6 ++ leB 1 (xk))).size + (bsOf (leB 4 (xn))).size := small_cat (n := 6000000 + (1)) (app_le hl6 (leB_le 1 _)) (Nat.le_trans (leB_le 4 _) (by omega)) (by omega)
              have s3 : ¬ 9223372036854775807 < (bsOf (l6 ++ (leB 1 (xk) ++ leB 4 (xn)))).size + (bsOf (leB 4 (xm))).size := small_cat (n := 6000000 + (1 + (4))) (app_le hl6 (app_le (leB_le 1 _) (leB_le 4 _))) (Nat.le_trans (leB_le 4 _) (by omega)) (by omega)
              have HC1 : Hid (∀ x : BW wj, Calls Tryz.prog 84 #[.int .u32 (xk), .int .i64 1] x.u fun e w' => e = .returned (.string (bsOf (leB 1 (xk)))) ∧ ∃ y : BW wj, w' = y.u) := N0.out wj 1 (xk) (by omega) (by omega) (by omega) (by rw [p1]; omega) (by omega)
              have HC2 : Hid (∀ x : BW wj, Calls Tryz.prog 84 #[.int .u32 (xn), .int .i64 4] x.u fun e w' => e = .returned (.string (bsOf (leB 4 (xn)))) ∧ ∃ y : BW wj, w' = y.u) := N0.out wj 4 (xn) (by omega) (by omega) (by omega) (by rw [p4]; omega) (by omega)
              have HC3 : Hid (∀ x : BW wj, Calls Tryz.prog 84 #[.int .u32 (xm), .int .i64 4] x.u fun e w' => e = .returned (.string (bsOf (leB 4 (xm)))) ∧ ∃ y : BW wj, w' = y.u) := N0.out wj 4 (xm) (by omega) (by omega) (by omega) (by rw [p4]; omega) (by omega)
              have y0 := bw_cell zj j0
              have y1 := bw_cell zj j1
              have y2 := bw_cell zj j2
              have wr1 : IntKind.u32.wrap xk = xk := IntWalk.u32_in _ (by omega)
              refine wp_region_below (by kernel_rfl) (by kernel_rfl) ?_
              repeat (first | go_big_quiet_skip | quiet_step ((first | (go_at_call 84; (with_reducible exact HC1.out _)) | (go_at_call 84; (with_reducible exact HC2.out _)) | (go_at_call 84; (with_reducible exact HC3.out _)))))
              refine wpQuiet_nil ?_
              rintro w4 hx4; have hB4 := bw_of hx4; clear hx4
              clear s1 s2 s3 HC1 HC2 HC3 y0 y1 y2 wr1
              have HB6 : Hid (Below wk.heap.size wk w4) := (HBR.out.trans (HBJ.out.mono HBR.out.size)).trans (hB4.mono (Nat.le_trans HBR.out.size HBJ.out.size))
              have HE : Hid (l6 ++ (leB 1 (xk) ++ (leB 4 (xn) ++ leB 4 (xm))) = l6 ++ encNote ⟨xk, xn, xm⟩) := by simp only [Hid, encNote, List.append_assoc]
              clear hB4
              go_wp2
              rw [HE.out, ← HT2.out]
              go_roundw
              case rel => exact ⟨j + 1, by omega, by go_num, rfl, HB6.out⟩
              case measure => simp [intOf]; omega
            · have HE3 : Hid (yt.take j = yt) := List.take_of_length_le (by omega)
              have dJ : decide ((j : Int) < (yt.length : Int)) = false := by simp; omega
              have dJ' : decide (j < yt.length) = false := by simpa using hjl
              rw [HE3.out, HL5.out, ← HT.out]
              clear HE3
              have HB7 : Hid (Below w1.heap.size w1 wr) := HB.out.trans ((HBK.out.trans (HBR.out.mono HBK.out.size)).mono HB.out.size)
              go_wp2
              go_roundw
              case rel => exact ⟨i + 1, by omega, by go_num, rfl, HB7.out⟩
              case measure => simp [intOf]; omega
    · have HE : Hid (os.take i = os) := List.take_of_length_le (by omega)
      rw [HE.out, HL1.out]
      clear HE
      go_wp2
      go_ret
      exact ⟨rfl, HBW.out⟩
end Go.Proofs.YtboegjdkedjhcaaGreatDoor
namespace Go.Proofs.YtboegjdkedjhcaaGreatDoor
open Go.RowKit
set_option maxHeartbeats 1000000 in
theorem rnum35 (n : Nat) (v : Int) (w : World) (hn : 1 ≤ n) (hn4 : n ≤ 4) (h0 : 0 ≤ v) (h1 : v < pow256 n) (h2 : v ≤ 4294967295) : Calls Tryz.prog 40 #[.int .u32 v, .int .i64 n] w fun e w' => e = .returned (.string (bsOf (leB n v))) ∧ Below w.heap.size w w' := by
  have HC := Lib.hid (rnum07 n v w hn hn4 h0 h1 h2)
  clear h1
  go_enter Tryz.func40, Tryz.ntmps40
  go_wp2_with fail
  refine HC.out.mono ?_
  rintro e w1 ⟨rfl, hB⟩
  go_wp2
  go_ret
  exact ⟨rfl, hB⟩
theorem small_cat2 {a c : BL} {n k : Nat} (h : a.length ≤ n) (hc : c.length ≤ k) (hn : n + k ≤ 1000000000) : ¬ 9223372036854775807 < (bsOf a).size + (bsOf c).size := by rw [bsOf_size, bsOf_size]; omega
theorem encMem_len (o : GObj) : (encMem o).length = 4 + (encObj o).length := by rw [encMem, List.length_append, leB_length]
theorem encMems_le {l : List GObj} {c : Nat} (h : ∀ o ∈ l, (encObj o).length ≤ c) : (l.flatMap encMem).length ≤ l.length * (4 + c) := by
  induction l with
  | nil => simp
  | cons o r ih =>
    have h1 := h o (List.mem_cons_self ..)
    have h2 := ih fun x hx => h x (List.mem_cons_of_mem _ hx)
    rw [List.flatMap_cons, List.length_append, encMem_len, List.length_cons, Nat.succ_mul]; omega
set_option maxRecDepth 100000 in
set_option maxHeartbeats 4000000 in
theorem refArcPut_ok (a : GArc) (vs : Value) (w : World) (h : ArcIn w a vs) (hm : arcOk a = true) (hsm : ∀ o ∈ a.members, ∀ s ∈ o.syms, s.bytes.size < 4294967296) :
    Calls Tryz.prog 14 #[.agg #[.string a.name, vs]] w fun e w' => e = .returned (.string (bsOf (encArc a))) ∧ Below w.heap.size w w' := by
  simp only [arcOk, Bool.and_eq_true, decide_eq_true_eq] at hm
  obtain ⟨⟨k1, k2⟩, k3⟩ := hm
  have hnl := isName_le k2
  have HEA := Lib.hid (memsGo_each _ _ k1)
  have HSM := Lib.hid hsm
  obtain ⟨an, am⟩ := a
  have HR := Lib.hid h.1
  obtain ⟨⟨p, cap, b0, o0, rfl, hcap, hmax, hp, -⟩, hnm⟩ := h
  simp only [] at *
  clear hsm k1 k2
  have HP := Lib.hid hp; clear hp
  have hap : ∀ a c : BL, bsOf a ++ bsOf c = bsOf (a ++ c) := bs_cat
  have hmg : (⟨#[65, 65, 82, 49]⟩ : ByteArray) = bsOf aMagic := rfl
  have hm4 : aMagic.length ≤ 4 := Nat.le_refl _
  have HLE : Hid (∀ o ∈ am, (encObj o).length ≤ 4000000) := fun o ho => by
    obtain ⟨i, hi, rfl⟩ := List.mem_iff_getElem.1 ho
    obtain ⟨_, _, _, _, -, -, -, -, hc⟩ := HR.out
    obtain ⟨vs, -, -, -, hin⟩ := hc i hi
    exact encObj_le hin (HEA.out _ ho) (HSM.out _ ho)
  have HT0 := Lib.hid (rtext07 an (w.alloc (.cells #[.string an, .slice p am.length cap] 24)) (by omega))
  go_enter Tryz.func14, Tryz.ntmps14
  go_wp2_with fail
  refine HT0.out.mono ?_
  rintro e w1 ⟨rfl, hB1⟩
  have HB1 : Hid (Below (w.heap.size + 1) (w.alloc (.cells #[.string an, .slice p am.length cap] 24)) w1) := by simpa [Hid] using hB1
  have HBW1 : Hid (Below w.heap.size w w1) := (alloc_old w _).trans (hB1.mono (by simp))
  have x1 : w1.cell? ⟨w.heap.size, 1, none⟩ = some (.slice p am.length cap) := by rw [hB1.cell (by simp)]; simp [go_sem]
  have z1 : w.heap.size < w1.heap.size := by have := hB1.size; simp at this; omega
  have HX1 := Lib.hid x1
  clear hB1 HT0
  have s1 : ¬ 9223372036854775807 < (bsOf aMagic).size + (bsOf (encText an)).size := small_cat (n := 4) hm4 (Nat.le_trans (enc_le (k := 32) hnl) (by omega)) (by omega)
  have s2 : ¬ 9223372036854775807 < (bsOf (aMagic ++ encText an)).size + (bsOf (leB 1 (am.length : Int))).size := small_cat (n := 4 + 34) (app_le hm4 (enc_le (k := 32) hnl)) (Nat.le_trans (leB_le 1 _) (by omega)) (by omega)
  have HN1 := Lib.hid (rnum35 1 (am.length : Int) w1 (by omega) (by omega) (by omega) (by rw [p1]; omega) (by omega))
  have wr1 : IntKind.u32.wrap (am.length : Int) = (am.length : Int) := IntWalk.u32_in _ (by omega)
  go_wp2_with fail
  refine HN1.out.mono ?_
  rintro e w2 ⟨rfl, hB2⟩
  have HBW2 : Hid (Below w.heap.size w w2) := HBW1.out.trans (hB2.mono HBW1.out.size)
  have HX2 := Lib.hid (cell_keep hB2 z1 HX1.out)
  have z2 : w.heap.size < w2.heap.size := size_keep hB2 z1
  clear hB2 HN1 wr1 x1 HX1 HB1
  have HL1 : Hid ((aMagic ++ (encText an ++ leB 1 (am.length : Int))) ++ am.flatMap encMem = encArc ⟨an, am⟩) := by simp only [Hid, encArc, List.append_assoc]
  have hl1 : (aMagic ++ (encText an ++ leB 1 (am.length : Int))).length ≤ 1000 := Nat.le_trans (app_le hm4 (app_le (enc_le (k := 32) hnl) (leB_le 1 _))) (by omega)
  have HZ0 : Hid (bsOf (aMagic ++ (encText an ++ leB 1 (am.length : Int))) = bsOf ((aMagic ++ (encText an ++ leB 1 (am.length : Int))) ++ (am.take 0).flatMap encMem)) := by simp [Hid]
  go_wp2
  clear s1 s2
  generalize aMagic ++ (encText an ++ leB 1 (am.length : Int)) = l1 at *
  clear hmg hm4
  go_loopw [5, 6] (fun v5 v6 wr => ∃ i : Nat, i ≤ am.length ∧ v6 = .int .i64 i ∧ v5 = .string (bsOf (l1 ++ (am.take i).flatMap encMem)) ∧ Below w2.heap.size w2 wr) (fun _ v6 _ => am.length - (intOf v6).toNat)
  case atStart => exact ⟨0, Nat.zero_le _, rfl, congrArg Value.string HZ0.out, Below.refl _ _⟩
  case round =>
    clear HZ0
    obtain ⟨i, hi, rfl, rfl, hbel⟩ := hrel
    have HB := Lib.hid hbel; clear hbel
    have x1 := cell_keep HB.out z2 HX2.out
    have zr : w.heap.size < wr.heap.size := size_keep HB.out z2
    have HBW : Hid (Below w.heap.size w wr) := HBW2.out.trans (HB.out.mono HBW2.out.size)
    by_cases hlt : i < am.length
    · obtain rfl := HP.out (by omega)
      obtain ⟨_, _, _, _, he, -, -, hp', hc'⟩ := ObjsAt.keep HBW.out HR.out
      cases he
      cases hp' (by omega)
      obtain ⟨vs, g0, g1, g2, hin⟩ := hc' i hlt
      have hmem := List.getElem_mem hlt
      have HPT := Lib.hid (refPut_ok am[i] vs wr hin (objSm_of (HEA.out _ hmem) (objNum_of hin) (HSM.out _ hmem)))
      have hle := HLE.out _ hmem
      have hl0 : (l1 ++ (am.take i).flatMap encMem).length ≤ 200000000 := by
        have h1 := encMems_le (l := am.take i) (c := 4000000) fun o ho => HLE.out o (List.mem_of_mem_take ho)
        rw [List.length_take] at h1
        have h2 : min i am.length * (4 + 4000000) ≤ 32 * (4 + 4000000) := Nat.mul_le_mul_right _ (by omega)
        rw [List.length_append]; omega
      have HT : Hid (l1 ++ (am.take (i + 1)).flatMap encMem = (l1 ++ (am.take i).flatMap encMem) ++ (leB 4 ((encObj am[i]).length : Int) ++ encObj am[i])) := by
        rw [Hid, List.take_succ_eq_append_getElem hlt, List.flatMap_append, List.append_assoc]; simp [encMem]
      obtain ⟨pS, capS, rfl⟩ := hin.form
      generalize am[i] = y at g1 g2 hle HPT HT
      obtain ⟨yn, ys⟩ := y
      simp only [] at g1 g2 hle HPT HT
      generalize hl0e : l1 ++ (am.take i).flatMap encMem = l0 at HT hl0 ⊢
      clear hin hmem hp' hc' hl0e
      generalize encObj ⟨yn, ys⟩ = en at hle HPT HT
      have hsz : (bsOf en).size = en.length := bsOf_size en
      have HN4 : Hid (∀ W, Calls Tryz.prog 40 #[.int .u32 (en.length : Int), .int .i64 4] W fun e w' => e = .returned (.string (bsOf (leB 4 (en.length : Int)))) ∧ Below W.heap.size W w') := fun W => rnum35 4 (en.length : Int) W (by omega) (by omega) (by omega) (by rw [p4]; omega) (by omega)
      have wr1 : IntKind.u32.wrap (en.length : Int) = (en.length : Int) := IntWalk.u32_in _ (by omega)
      have s1 : ¬ 9223372036854775807 < (bsOf l0).size + (bsOf (leB 4 (en.length : Int))).size := small_cat2 (n := 200000000) (k := 4) hl0 (leB_le 4 _) (by omega)
      have s2 : ¬ 9223372036854775807 < (bsOf (l0 ++ leB 4 (en.length : Int))).size + (bsOf en).size := small_cat2 (n := 200000004) (k := 4000000) (app_le hl0 (leB_le 4 _)) hle (by omega)
      go_wp2_with fail
      refine HPT.out.mono ?_
      rintro e w3 ⟨rfl, hB3⟩
      go_wp2_with fail
      refine (HN4.out _).mono ?_
      rintro e w4 ⟨rfl, hB4⟩
      have HB4 : Hid (Below w2.heap.size w2 w4) := HB.out.trans ((hB3.trans (hB4.mono hB3.size)).mono HB.out.size)
      clear hB3 hB4 x1
      go_wp2
      go_roundw
      case rel => exact ⟨i + 1, by omega, by go_num, by rw [HT.out], HB4.out⟩
      case measure => simp [intOf]; omega
    · obtain rfl : i = am.length := by omega
      have HE := Lib.hid HL1.out
      rw [List.take_length, HL1.out]
      go_wp2
      go_ret
      exact ⟨rfl, HBW.out⟩
end Go.Proofs.YtboegjdkedjhcaaGreatDoor
namespace Go.Proofs.YtboegjdkedjhcaaGreatDoor
open Go.RowKit Go.Maps Go.WideMaps
theorem info_arc : (Tryz.prog.info? 24).map (fun i => (i.zero, i.size, i.bytes)) = some (some (.agg #[.string ⟨#[]⟩, .slice none 0 0]), 2, 40) := by kernel_rfl
/-- an archive in a row of its own -/
def ArcEl (w : World) (g : Nat) (x : GArc) (vs : Value) : Prop := g < w.heap.size ∧ w.cell? ⟨g, 0, none⟩ = some (.string x.name) ∧ w.cell? ⟨g, 1, none⟩ = some vs ∧ ArcIn w x vs
set_option maxRecDepth 100000 in
set_option maxHeartbeats 4000000 in
theorem copies1_any (x : GArc) (v : Value) (w : World) (h : ArcsAt w v [x]) (hbd : ObjsBd x.members) :
    Calls Tryz.prog 9 #[v] w fun e w' => ∃ g cap vs, e = .returned (.slice (some ⟨g, 0, none⟩) 1 cap) ∧ ArcEl w' g x vs ∧ Below w.heap.size w w' := by
  obtain ⟨p, cap, b, o, rfl, hcap, hmax, hp, hc⟩ := h
  obtain rfl := hp (by simp)
  obtain ⟨vs, g0, g1, g2, hin⟩ := hc 0 (by simp)
  simp only [Nat.zero_mul, Nat.add_zero, List.getElem_cons_zero] at g1 g2 hin
  have HIN := Lib.hid hin
  have HBD := Lib.hid hbd
  obtain ⟨xn, xm⟩ := x
  obtain ⟨⟨pm, cm, bm, om, rfl, -⟩, hnm⟩ := hin
  simp only [List.length_cons, List.length_nil, Nat.zero_add] at *
  clear hp hc hcap hmax hbd
  obtain ⟨iA, s0, s1, s2, s3⟩ := info_parts info_arc
  have HI := Lib.hid (And.intro s0 (And.intro s1 (And.intro s2 s3)))
  clear s0 s1 s2 s3
  go_enter Tryz.func9, Tryz.ntmps9
  go_wp2
  go_loopw [3, 4] (fun v3 v4 wr => (v4 = .int .i64 0 ∧ v3 = .slice none 0 0 ∧ Below w.heap.size w wr) ∨ ∃ g cap vs, v4 = .int .i64 1 ∧ v3 = .slice (some ⟨g, 0, none⟩) 1 cap ∧ ArcEl wr g ⟨xn, xm⟩ vs ∧ Below w.heap.size w wr) (fun _ v4 _ => 1 - (intOf v4).toNat)
  case atStart => exact .inl ⟨rfl, rfl, Below.refl _ _⟩
  case round =>
    rcases hrel with ⟨rfl, rfl, hbel⟩ | ⟨g, cap2, vs2, rfl, rfl, hel, hbel⟩
    · have HB := Lib.hid hbel
      have e1 := cell_keep hbel g0 g1
      have e2 := cell_keep hbel g0 g2
      have h0 := size_keep hbel g0
      have HCP : Hid (∀ W, Below w.heap.size w W → Calls Tryz.prog 29 #[.slice pm xm.length cm] W (CopyAllPost W xm)) := fun W hW => copyAll_any _ xm W (HIN.out.1.keep hW) HBD.out
      clear hbel g1 g2
      go_wp2
      obtain ⟨S, hSd⟩ : ∃ S : World → Prop, ∀ w', S w' ↔ (w'.cell? ⟨b, o, none⟩ = some (.string xn) ∧ w'.cell? ⟨b, o + 1, none⟩ = some (.slice pm xm.length cm)) := ⟨_, fun _ => Iff.rfl⟩
      have HSD := Lib.hid hSd; clear hSd
      have hS0 : S wr.drew := (HSD.out _).2 ⟨e1, e2⟩
      have hS1 := fun x : HW S => (HSD.out _).1 x.h
      have c0 := fun x => (hS1 x).1
      have c1 := fun x => (hS1 x).2
      haveI : Nonempty (HW S) := ⟨⟨_, hS0⟩⟩
      refine wp_region_marks S [.r, .r, .r, .r, .r, .r, .r, .r, .r, .r, .r, .u, .u, .u, .u, .p] rfl (by kernel_rfl) hS0 ?_
      clear hS0 hS1
      repeat (refine wpReads_step (fun K hK => ?_); go_simp; refine hK _ ?_; clear hK K)
      refine wpReads_nil ?_
      clear c0 c1
      refine wpTurns_step fun K hK => ?_
      refine step_call rfl 29 #[.tmp 21] #[22] rfl Tryz.func29 (by kernel_rfl) (by kernel_rfl) #[.slice pm xm.length cm] (by simp [Act.eval]) (HCP.out _ HB.out.drew) ?_
      rintro e wn ⟨vo, us, rfl, hum, hsep, hBn⟩
      have HON := Lib.hid (hsep.objs (HIN.out.1.keep HB.out.drew) hum)
      have HBN : Hid (Below w.heap.size w wn) := HB.out.drew.trans (hBn.mono HB.out.size)
      obtain ⟨po, co, _, _, rfl, -⟩ := HON.out
      have hSn : S wn := (HSD.out _).2 ⟨cell_keep hBn h0 e1, cell_keep hBn h0 e2⟩
      have hSa : S (wn.alloc (.cells #[.string xn, .slice po xm.length co] 24)) := (HSD.out _).2 ⟨cell_keep (alloc_old wn _) (size_keep hBn h0) (cell_keep hBn h0 e1), cell_keep (alloc_old wn _) (size_keep hBn h0) (cell_keep hBn h0 e2)⟩
      have hBn2 := hBn
      have hbn0 := size_keep hBn2 h0
      clear hsep hum hBn HCP
      refine ⟨_, rfl, hK _ _ hSn ?_⟩
      clear hK K
      simp only [Act.put, List.setIfInBounds_toArray, List.set_cons_zero, List.set_cons_succ]
      refine wpTurns_step fun K hK => ?_
      go_simp
      refine hK _ _ hSn ?_
      clear hK K
      refine wpTurns_step fun K hK => ?_
      go_simp
      refine hK _ _ hSa ?_
      clear hK K
      refine wpTurns_step fun K hK => ?_
      refine step_append_own_at rfl (.tmp 11) (.tmp 24) 26 rfl wn.heap.size 24 iA _ 2 40 Tryz.underlying26 HI.out.1 HI.out.2.1 HI.out.2.2.1 HI.out.2.2.2 rfl (by decide) (.slice none 0 0) 0 [] (by simp [Act.eval]) (World.ownsRow_nil _ _ _ _) ⟨wn.heap.size, 0, none⟩ 1 1 [.string xn, .slice po xm.length co] (by simp [Act.eval]) rfl (ob_news (by simp [go_sem]) (by simp [go_sem])) ob_one (by unfold maxLen; omega) (by omega) (by simp) ?_
      intro v5 w5 hown hgrow _
      have hb5 : Below wn.heap.size wn w5 := (alloc_old wn (.cells #[.string xn, .slice po xm.length co] 24)).grown hgrow (by simp) (fun k hk => by cases hk)
      have HEL : Hid (∃ g cap, v5 = .slice (some ⟨g, 0, none⟩) 1 cap ∧ ArcEl w5 g ⟨xn, xm⟩ (.slice po xm.length co)) := by
        obtain ⟨g, cap, rfl, -, hg⟩ := World.ownsRow.form hown (by omega)
        have q0 := World.ownsRow.cells hown (g := g) rfl 0 _ rfl
        have q1 := World.ownsRow.cells hown (g := g) rfl 1 _ rfl
        rw [add_at] at q0 q1
        exact ⟨g, cap, rfl, hg, q0, q1, ⟨HON.out.keep hb5, hnm⟩⟩
      have HB5 : Hid (Below w.heap.size w w5) := HBN.out.trans (hb5.mono HBN.out.size)
      obtain ⟨g, cap5, rfl, hel⟩ := HEL.out
      have hS5 : S w5 := (HSD.out _).2 ⟨cell_keep hb5 hbn0 (cell_keep hBn2 h0 e1), cell_keep hb5 hbn0 (cell_keep hBn2 h0 e2)⟩
      clear hown hgrow hb5 HEL
      have HEL := Lib.hid hel; clear hel
      refine hK _ _ hS5 ?_
      clear hK K
      simp only [Act.put, List.setIfInBounds_toArray, List.set_cons_zero, List.set_cons_succ]
      refine wpTurns_nil ?_
      simp only [pickP]
      go_wp2
      refine NoPanic.normal ?_
      go_wp2
      go_roundw
      case rel => exact .inr ⟨g, cap5, _, by go_num, rfl, HEL.out, HB5.out⟩
      case measure => simp [intOf]
    · go_wp2
      go_ret
      exact ⟨g, cap2, vs2, rfl, hel, hbel⟩
end Go.Proofs.YtboegjdkedjhcaaGreatDoor
