/- The walk of obj.symbol's may. The walks of obj.object's may and obj.Check. The walks of obj.Sym, asm.name and dis.name. Lines of code as data; the walk of asm.may. -/
import Derived.Test.YtoonkfhphbojcaaGreatDoorBv21
import Derived.Test.YtoonkfhphbojcaaGreatDoorBv10
import Derived.Test.YtoonkfhphbojcaaGreatDoorBv22
namespace Go.Proofs.YtoonkfhphbojcaaGreatDoor
open Go.RowKit
set_option maxHeartbeats 1000000 in
theorem symMay_any (s : GSym) (vr vn : Value) (w : World) (h : SymIn w s vr vn) :
    Calls Tryz.prog 112 #[.agg #[.string s.name, .int .u8 s.bind, .int .u8 s.kind, .int .u32 s.size, .string s.bytes, vr, vn]] w fun e w' => e = .returned (.bool (symOkP s)) ∧ Below w.heap.size w w' := by
  have H := Lib.hid h
  obtain ⟨hr, hn, hb, hk, hs, hnm, hbs⟩ := h
  obtain ⟨p, cap, b, o, rfl, hcap, hmax, -, -⟩ := hn
  clear hr
  have HB : Hid (Below w.heap.size w (w.alloc (.cells #[.string s.name, .int .u8 s.bind, .int .u8 s.kind, .int .u32 s.size, .string s.bytes, vr, .slice p s.notes.length cap] 169))) := alloc_old w _
  go_enter Tryz.func112, Tryz.ntmps112
  go_wp2_with (first | (go_at_call 149; refine (objName_any _ _ (by omega)).mono ?_; rintro e w1 ⟨rfl, hB⟩; obtain ⟨hc, hf⟩ := bcell hB; have hz : w.heap.size < w1.heap.size := (by have := hB.size; (try simp at this); omega); replace HB : Hid (Below w.heap.size w w1) := HB.out.trans (hB.mono HB.out.size); clear hB) | (go_at_call 150; refine (sized_any s _ _ _ hbs hk hs).mono ?_; rintro e w1 ⟨rfl, hB⟩; obtain ⟨hc, hf⟩ := bcell hB; have hz : w.heap.size < w1.heap.size := (by have := hB.size; (try simp at this); omega); replace HB : Hid (Below w.heap.size w w1) := HB.out.trans (hB.mono HB.out.size); clear hB) | (go_at_call 151; refine (places_any s _ _ _ (H.out.keep HB.out)).mono ?_; rintro e w1 ⟨rfl, hB⟩; obtain ⟨hc, hf⟩ := bcell hB; have hz : w.heap.size < w1.heap.size := (by have := hB.size; (try simp at this); omega); replace HB : Hid (Below w.heap.size w w1) := HB.out.trans (hB.mono HB.out.size); clear hB) | (go_at_call 152; refine (containsNote_any _ s.notes _ (H.out.keep HB.out).2.1).mono ?_; rintro e w1 ⟨rfl, hB⟩; obtain ⟨hc, hf⟩ := bcell hB; have hz : w.heap.size < w1.heap.size := (by have := hB.size; (try simp at this); omega); replace HB : Hid (Below w.heap.size w w1) := HB.out.trans (hB.mono HB.out.size); clear hB))
  all_goals
    go_ret
    exact ⟨ret_bool (by go_light; simp_all [symOkP]; try omega), HB.out⟩
end Go.Proofs.YtoonkfhphbojcaaGreatDoor
namespace Go.Proofs.YtoonkfhphbojcaaGreatDoor
open Go.RowKit Go.Maps Go.WideMaps
theorem keyedS : Keyed Tryz.prog 9 := string_keyed Tryz.underlying9
theorem zeroInt (w : World) : (zeroValue 3).run Tryz.prog w = .ok (.int .i64 0) w := by kernel_rfl
set_option maxHeartbeats 1000000 in
theorem objMay_any (x : GObj) (vs : Value) (w : World) (h : ObjIn w x vs) :
    Calls Tryz.prog 110 #[.agg #[.string x.name, vs]] w fun e w' => e = .returned (.bool (mayP x)) ∧ Below w.heap.size w w' := by
  obtain ⟨hr, hnm⟩ := h
  obtain ⟨p, cap, b, o, rfl, hcap, hmax, hp, hc⟩ := hr
  have HC := Lib.hid hc; clear hc
  have HP := Lib.hid hp; clear hp
  have hmm := @run_makeMap Tryz.prog
  go_enter Tryz.func110, Tryz.ntmps110
  go_wp2
  clear hmm
  go_loopw [11] (fun i wr => ∃ k : Nat, k ≤ x.syms.length ∧ i = .int .i64 k ∧ symsGo (x.syms.take k) (x.syms.drop k) = symsGo [] x.syms ∧ MapFn Tryz.prog 9 wr (w.heap.size + 1) k (seenFn (x.syms.take k)) ∧ Below (w.heap.size + 1) (w.alloc (.cells #[.string x.name, .slice p x.syms.length cap] 167)) wr) (fun i _ => x.syms.length - (intOf i).toNat)
  case atStart =>
    refine ⟨0, Nat.zero_le _, rfl, rfl, ?_, (Below.refl _ _).alloc (by simp) _⟩
    have := MapFn.made Tryz.prog 9 (w.alloc (.cells #[.string x.name, .slice p x.syms.length cap] 167))
    rw [seenFn_nil] at this
    simpa using this
  case round =>
    obtain ⟨k, hk, rfl, hgo, hmap, hbel⟩ := hrel
    have HGO := Lib.hid hgo; clear hgo
    have c0 : wr.cell? ⟨w.heap.size, 0, none⟩ = some (.string x.name) := by rw [hbel.cell (by simp)]; simp [go_sem]
    have c1 : wr.cell? ⟨w.heap.size, 1, none⟩ = some (.slice p x.syms.length cap) := by rw [hbel.cell (by simp)]; simp [go_sem]
    have hsz : w.heap.size + 1 < wr.heap.size := hmap.lt
    have hsz1 : w.heap.size < wr.heap.size := by omega
    have HBW : Hid (Below w.heap.size w wr) := (alloc_old w _).trans (hbel.mono (by omega))
    have HB := Lib.hid hbel; clear hbel
    by_cases hlt : k < x.syms.length
    · obtain rfl := HP.out (by omega)
      obtain ⟨vr, vn, g0, g1, g2, g3, g4, g5, g6, g7, hsin⟩ := symR_keeps _ _ _ _ _ HBW.out (HC.out k hlt)
      obtain ⟨p1, q1, p2, q2, rfl, rfl⟩ := hsin.shape
      have hns : x.syms[k].name.size ≤ maxLen := by have := hsin.2.2.2.2.2.1; unfold maxLen; omega
      generalize hx : x.syms[k] = y at *
      obtain ⟨yn, yb, yk, ys, yy, yr, yt⟩ := y
      simp only [] at *
      have HX := Lib.hid hx; clear hx
      have SIN := Lib.hid (hsin.keep (alloc_old wr (.cells #[.string yn, .int .u8 yb, .int .u8 yk, .int .u32 ys, .string yy, .slice p1 yr.length q1, .slice p2 yt.length q2] 52))); clear hsin
      have HM := Lib.hid (hmap.alloc (.cells #[.string yn, .int .u8 yb, .int .u8 yk, .int .u32 ys, .string yy, .slice p1 yr.length q1, .slice p2 yt.length q2] 52)); clear hmap
      have hns' : yn.size ≤ 9223372036854775807 := hns
      by_cases hseen : hasName (x.syms.take k) yn.data.toList = true
      · have HV := Lib.hid (seenFn_yes hseen)
        have HS := Lib.hid hseen; clear hseen
        go_wp2_with (at_lookup; refine wpList_look _ rfl _ _ 202 rfl 9 3 keyedS Tryz.underlying202 Tryz.underlying9 (zeroInt _) rfl HM.out _ rfl hns' HV.out ?_)
        go_ret
        exact ⟨ret_bool (mayP_no hlt HX.out HGO.out (.inl HS.out)), HBW.out.alloc (by omega) _⟩
      · have hseen' : hasName (x.syms.take k) yn.data.toList = false := by simpa using hseen
        have HV := Lib.hid (seenFn_no hseen')
        have HS := Lib.hid hseen'; clear hseen' hseen
        have HB1 : Hid (Below (w.heap.size + 1) wr (wr.alloc (.cells #[.string yn, .int .u8 yb, .int .u8 yk, .int .u32 ys, .string yy, .slice p1 yr.length q1, .slice p2 yt.length q2] 52))) := (Below.refl _ _).alloc (by omega) _
        go_wp2_with (first | (at_lookup; refine wpList_look _ rfl _ _ 202 rfl 9 3 keyedS Tryz.underlying202 Tryz.underlying9 (zeroInt _) rfl HM.out _ rfl hns' HV.out ?_) | (go_at_call 112; refine (symMay_any ⟨yn, yb, yk, ys, yy, yr, yt⟩ _ _ _ SIN.out).mono ?_; rintro e w1 ⟨rfl, hB⟩; obtain ⟨hc, hf⟩ := bcell hB; have hz : wr.heap.size < w1.heap.size := (by have := hB.size; (try simp at this); omega); replace HM : Hid (MapFn Tryz.prog 9 w1 (w.heap.size + 1) k (seenFn (x.syms.take k))) := HM.out.below hB (by simp; omega); replace HB1 : Hid (Below (w.heap.size + 1) wr w1) := HB1.out.trans (hB.mono (by simp; omega)); clear hB) | (at_mapUpdate; refine wpList_put _ rfl _ _ _ 202 rfl 9 3 keyedS Tryz.underlying202 Tryz.underlying9 rfl HM.out (by unfold maxLen; omega) yn (.int .i64 1) rfl rfl hns' ?_; intro w2 hM2 hg2; have HM2 := Lib.hid hM2; have HG2 := Lib.hid hg2; clear hM2 hg2))
        · have hbad : (!symOkP ⟨yn, yb, yk, ys, yy, yr, yt⟩) = true := by assumption
          go_ret
          exact ⟨ret_bool (mayP_no hlt HX.out HGO.out (.inr (by simpa using hbad))), HBW.out.trans (HB1.out.mono (by omega))⟩
        · have hok : (!symOkP ⟨yn, yb, yk, ys, yy, yr, yt⟩) = false := by assumption
          have HM3 : Hid (MapFn Tryz.prog 9 w2 (w.heap.size + 1) (k + 1) (seenFn (x.syms.take (k + 1)))) := (seenFn_snoc hlt HX.out) ▸ HM2.out
          go_roundw
          case rel => exact ⟨k + 1, by omega, by go_num, symsGo_yes hlt HX.out HGO.out HS.out (by simpa using hok), HM3.out, HB.out.trans (HB1.out.grown HG2.out (by omega) (fun j e => by simp at e; omega))⟩
          case measure => simp [intOf]; omega
    · go_wp2_with (go_at_call 149; refine (objName_any _ _ hnm).mono ?_; rintro e w1 ⟨rfl, hB⟩; obtain ⟨hc, hf⟩ := bcell hB)
      all_goals
        go_ret
        exact ⟨ret_bool (by rw [mayP_end hlt HGO.out]; go_light; simp_all; try omega), HBW.out.trans (hB.mono HBW.out.size)⟩
set_option maxHeartbeats 400000 in
theorem objCheck_any (x : GObj) (vs : Value) (w : World) (h : ObjIn w x vs) :
    Calls Tryz.prog 62 #[.agg #[.string x.name, vs]] w fun e w' => e = .returned (.int .i64 (errB (mayP x))) ∧ Below w.heap.size w w' := by
  have HCON := Lib.hid (objMay_any x vs _ (h.keep (alloc_old w (.cells #[.string x.name, vs] 43)))); clear h
  go_enter Tryz.func62, Tryz.ntmps62
  go_wp2_with (first | (go_at_call 110; refine HCON.out.mono ?_; rintro e w1 ⟨rfl, hB⟩) | (go_at_call 109; refine (told_any _ _).mono ?_; rintro e w1 ⟨rfl, rfl⟩))
  go_ret
  exact ⟨rfl, (alloc_old w _).trans (hB.mono (by simp))⟩
end Go.Proofs.YtoonkfhphbojcaaGreatDoor
namespace Go.Proofs.YtoonkfhphbojcaaGreatDoor
open Go.RowKit Go.Maps
theorem objSym_any (s : GSym) (vr vn : Value) (w : World) (h : SymIn w s vr vn) :
    Calls Tryz.prog 65 #[.agg #[.string s.name, .int .u8 s.bind, .int .u8 s.kind, .int .u32 s.size, .string s.bytes, vr, vn]] w fun e w' => e = .returned (.int .i64 (errB (symOkP s))) ∧ Below w.heap.size w w' := by
  obtain ⟨p1, c1, p2, c2, rfl, rfl⟩ := h.shape
  have HCON := Lib.hid (symMay_any s _ _ _ (h.keep (alloc_old w (.cells #[.string s.name, .int .u8 s.bind, .int .u8 s.kind, .int .u32 s.size, .string s.bytes, .slice p1 s.rels.length c1, .slice p2 s.notes.length c2] 52)))); clear h
  go_enter Tryz.func65, Tryz.ntmps65
  go_wp2_with (first | (go_at_call 112; refine HCON.out.mono ?_; rintro e w1 ⟨rfl, hB⟩) | (go_at_call 109; refine (told_any _ _).mono ?_; rintro e w1 ⟨rfl, rfl⟩))
  go_ret
  exact ⟨rfl, (alloc_old w _).trans (hB.mono (by simp))⟩
theorem bs_nil33 (l : BL) : (bsOf l).toList.isEmpty = decide (l = []) := by
  rw [ByteArray.toList_eq, bsOf_list]
  cases l <;> rfl
/-- nothing, or a name -/
def nameOk (s : BL) : Bool := decide (s = []) || isName (bsOf s)
theorem row_none {α : Type} (k : Nat) (R : World → Nat → Nat → α → Prop) (w : World) : RowAt k R w (.slice none 0 0) [] := ⟨none, 0, 0, 0, rfl, Nat.le_refl _, by simp, fun h => by simp at h, fun i h => by simp at h⟩
theorem asmName33 (s : BL) (w : World) (hs : s.length ≤ 100000000) : Calls Tryz.prog 175 #[.string (bsOf s)] w fun e w' => e = .returned (.bool (nameOk s)) ∧ Below w.heap.size w w' := by
  have HS := Lib.hid (objSym_any ⟨bsOf s, 0, 2, 1, ⟨#[]⟩, [], []⟩ (.slice none 0 0) (.slice none 0 0) w ⟨row_none _ _ _, row_none _ _ _, by simp, by simp, by simp, by show (bsOf s).size ≤ _; rw [bsOf_size]; omega, Nat.zero_le _⟩)
  have HE : Hid (symOkP ⟨bsOf s, 0, 2, 1, ⟨#[]⟩, [], []⟩ = isName (bsOf s)) := Lib.hid (by
    simp [symOkP, sizedOk, sizedB, placesOk, relsGo, show len32 ⟨#[]⟩ = 0 from rfl])
  simp only [] at HS
  rw [HE.out] at HS
  clear HE
  have hne := bs_nil33 s
  have HN : Hid (nameOk s = (decide (s = []) || isName (bsOf s))) := Lib.hid rfl
  generalize decide (s = []) = bb at *
  generalize isName (bsOf s) = b at *
  have hs2 : (bsOf s).size = s.length := bsOf_size s
  go_enter Tryz.func175, Tryz.ntmps175
  cases bb with
  | true =>
    go_wp2
    go_ret
    exact ⟨by rw [HN.out]; rfl, Below.refl _ _⟩
  | false =>
    go_wp2_with fail
    refine HS.out.mono ?_
    rintro e w2 ⟨rfl, hB⟩
    cases b with
    | true =>
      rw [show errB true = 0 from rfl]
      go_wp2
      go_ret
      exact ⟨by rw [HN.out]; rfl, hB⟩
    | false =>
      rw [show errB false = 2 from rfl]
      go_wp2
      go_ret
      exact ⟨by rw [HN.out]; rfl, hB⟩
theorem disName33 (s : BL) (w : World) (hs : s.length ≤ 100000000) : Calls Tryz.prog 51 #[.string (bsOf s)] w fun e w' => e = .returned (.bool (nameOk s)) ∧ Below w.heap.size w w' := by
  have HS := Lib.hid (objCheck_any ⟨bsOf s, []⟩ (.slice none 0 0) w ⟨row_none _ _ _, by show (bsOf s).size ≤ _; rw [bsOf_size]; omega⟩)
  have HE : Hid (mayP ⟨bsOf s, []⟩ = isName (bsOf s)) := Lib.hid (by simp [mayP, symsGo])
  simp only [] at HS
  rw [HE.out] at HS
  clear HE
  have hne := bs_nil33 s
  have HN : Hid (nameOk s = (decide (s = []) || isName (bsOf s))) := Lib.hid rfl
  generalize decide (s = []) = bb at *
  generalize isName (bsOf s) = b at *
  have hs2 : (bsOf s).size = s.length := bsOf_size s
  go_enter Tryz.func51, Tryz.ntmps51
  cases bb with
  | true =>
    go_wp2
    go_ret
    exact ⟨by rw [HN.out]; rfl, Below.refl _ _⟩
  | false =>
    go_wp2_with fail
    refine HS.out.mono ?_
    rintro e w2 ⟨rfl, hB⟩
    cases b with
    | true =>
      rw [show errB true = 0 from rfl]
      go_wp2
      go_ret
      exact ⟨by rw [HN.out]; rfl, hB⟩
    | false =>
      rw [show errB false = 2 from rfl]
      go_wp2
      go_ret
      exact ⟨by rw [HN.out]; rfl, hB⟩
end Go.Proofs.YtoonkfhphbojcaaGreatDoor
namespace Go.Proofs.YtoonkfhphbojcaaGreatDoor
open Go.RowKit Go.Maps
/-- a line: a label, an instruction, where it goes to, or a name -/
structure GLine where
  label : BL
  x : GIns
  dest : BL
  name : BL
def lineA (l : GLine) : Array Value := #[.string (bsOf l.label), .int .u8 l.x.op, .int .u8 l.x.d, .int .u8 l.x.a, .int .u8 l.x.b, .int .u32 l.x.imm, .string (bsOf l.dest), .string (bsOf l.name)]
def lineV (l : GLine) : Value := .agg (lineA l)
structure LineB (l : GLine) : Prop where
  x : InsB l.x
  label : l.label.length ≤ 1000000
  dest : l.dest.length ≤ 1000000
  name : l.name.length ≤ 1000000
/-- an instruction without its number -/
def noImm (x : GIns) : GIns := ⟨x.op, x.d, x.a, x.b, 0⟩
/-- whether a line may be, its label too -/
def lnMay (l : GLine) : Bool := !(!decide (l.dest = []) && !decide (l.name = [])) && nameOk l.label && nameOk l.dest && nameOk l.name && (if decide (l.dest = []) && decide (l.name = []) then insOk l.x else decide (useOf l.x.op ≠ 0) && bitOf (useOf l.x.op) 8 && insOk (noImm l.x))
theorem nameOk_len {s : BL} (h : nameOk s = true) : s.length ≤ 32 := by
  unfold nameOk at h
  simp only [Bool.or_eq_true, decide_eq_true_eq] at h
  rcases h with rfl | h
  · simp
  · unfold isName at h
    simp only [Bool.and_eq_true, decide_eq_true_eq] at h
    have := h.2
    rwa [bsOf_size] at this
def LnAt (b : Nat) (l : GLine) (w : World) : Prop := w.heap[b]? = some (.cells (lineA l) 59 (0, 0))
theorem LnAt.lt {b : Nat} {l : GLine} {w : World} (h : LnAt b l w) : b < w.heap.size := (Array.getElem?_eq_some_iff.1 h).1
theorem LnAt.keep {b : Nat} {l : GLine} {w w' : World} (h : LnAt b l w) (hb : Below w.heap.size w w') : LnAt b l w' := (hb.block b h.lt).trans h
theorem LnAt.cell {b : Nat} {l : GLine} {w : World} (h : LnAt b l w) (j : Nat) : w.cell? ⟨b, j, none⟩ = (lineA l)[j]? := Lib.cell_of_heap h j
end Go.Proofs.YtoonkfhphbojcaaGreatDoor
