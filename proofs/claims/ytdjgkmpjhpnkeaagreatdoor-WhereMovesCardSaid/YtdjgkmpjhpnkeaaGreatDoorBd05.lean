/- The walk of obj.symbol's may. A map with string keys as a function from texts to values, over the kit's word ownsMap. No program in sight. The walks of obj.object's may and obj.Check. The walks of resolve.table's winner and of the search over objects. The walk of resolve.begin. Is there a symbol at a place, and what a symbol refers to, in plain Lean. No program in sight. The walk of aediculeref12.Has. -/
import Derived.Test.YtdjgkmpjhpnkeaaGreatDoorBd04
import Derived.WalkKit
import Derived.WalkSpells
import Derived.Maps.OwnSet
import Derived.Maps.Views
import Derived.StringKeys
import Derived.Test.YtdjgkmpjhpnkeaaGreatDoorBd02
import Derived.Deep.RegionHeld3
import Derived.Deep.DeepCutAuto
import Derived.Deep.QuietTactic
import Derived.BigQuiet
import Derived.StillTailTactics
namespace Go.Proofs.YtdjgkmpjhpnkeaaGreatDoor
open Go.RowKit
set_option maxHeartbeats 1000000 in
theorem symMay_any (s : GSym) (vr vn : Value) (w : World) (h : SymIn w s vr vn) :
    Calls Tryz.prog 247 #[.agg #[.string s.name, .int .u8 s.bind, .int .u8 s.kind, .int .u32 s.size, .string s.bytes, vr, vn]] w fun e w' => e = .returned (.bool (symOkP s)) ∧ Below w.heap.size w w' := by
  have H := Lib.hid h
  obtain ⟨hr, hn, hb, hk, hs, hnm, hbs⟩ := h
  obtain ⟨p, cap, b, o, rfl, hcap, hmax, -, -⟩ := hn
  clear hr
  have HB : Hid (Below w.heap.size w (w.alloc (.cells #[.string s.name, .int .u8 s.bind, .int .u8 s.kind, .int .u32 s.size, .string s.bytes, vr, .slice p s.notes.length cap] 342))) := alloc_old w _
  go_enter Tryz.func247, Tryz.ntmps247
  go_wp2_with (first | (go_at_call 250; refine (objName_any _ _ (by omega)).mono ?_; rintro e w1 ⟨rfl, hB⟩; obtain ⟨hc, hf⟩ := bcell hB; have hz : w.heap.size < w1.heap.size := (by have := hB.size; (try simp at this); omega); replace HB : Hid (Below w.heap.size w w1) := HB.out.trans (hB.mono HB.out.size); clear hB) | (go_at_call 288; refine (sized_any s _ _ _ hbs hk hs).mono ?_; rintro e w1 ⟨rfl, hB⟩; obtain ⟨hc, hf⟩ := bcell hB; have hz : w.heap.size < w1.heap.size := (by have := hB.size; (try simp at this); omega); replace HB : Hid (Below w.heap.size w w1) := HB.out.trans (hB.mono HB.out.size); clear hB) | (go_at_call 289; refine (places_any s _ _ _ (H.out.keep HB.out)).mono ?_; rintro e w1 ⟨rfl, hB⟩; obtain ⟨hc, hf⟩ := bcell hB; have hz : w.heap.size < w1.heap.size := (by have := hB.size; (try simp at this); omega); replace HB : Hid (Below w.heap.size w w1) := HB.out.trans (hB.mono HB.out.size); clear hB) | (go_at_call 290; refine (containsNote_any _ s.notes _ (H.out.keep HB.out).2.1).mono ?_; rintro e w1 ⟨rfl, hB⟩; obtain ⟨hc, hf⟩ := bcell hB; have hz : w.heap.size < w1.heap.size := (by have := hB.size; (try simp at this); omega); replace HB : Hid (Below w.heap.size w w1) := HB.out.trans (hB.mono HB.out.size); clear hB))
  all_goals
    go_ret
    exact ⟨ret_bool (by go_light; simp_all [symOkP]; try omega), HB.out⟩
end Go.Proofs.YtdjgkmpjhpnkeaaGreatDoor
namespace Go.Proofs.YtdjgkmpjhpnkeaaGreatDoor
open Go.RowKit Go.Maps Go.WideMaps
def mapR (v : Value) : Option (DataW Value × List MemPlace) := some (.held v, [])
/-- block b is a map of at most n entries: a text's value is f's -/
def MapFn (P : Program) (k : TypeId) (w : World) (b n : Nat) (f : List UInt8 → Option Value) : Prop :=
  ∃ D : DataW Value, w.ownsMap P k mapR b n D ∧ ∀ l, (∀ v, f l = some v → ∀ z, D.atKey (.string l) z = .held v) ∧ (f l = none → ∀ z, D.atKey (.string l) z = z)
section
variable {P : Program} {k : TypeId} {w : World} {b n : Nat} {f : List UInt8 → Option Value}
theorem MapFn.made (P : Program) (k : TypeId) (w : World) : MapFn P k (w.alloc (.map #[] 0)) w.heap.size 0 (fun _ => none) :=
  ⟨_, World.ownsMap_made w P k mapR, fun _ => ⟨fun _ h => (by cases h), fun _ _ => rfl⟩⟩
theorem MapFn.lt (h : MapFn P k w b n f) : b < w.heap.size := by obtain ⟨D, hD, _⟩ := h; exact hD.lt
theorem MapFn.kept {w' : World} (h : MapFn P k w b n f) (hb : w'.heap[b]? = w.heap[b]?) : MapFn P k w' b n f := by
  obtain ⟨D, ⟨es, clock, h1, h2⟩, hf⟩ := h
  exact ⟨D, ⟨es, clock, hb.trans h1, h2⟩, hf⟩
theorem MapFn.below {w' : World} {B : Nat} (h : MapFn P k w b n f) (hb : Below B w w') (hB : b < B) : MapFn P k w' b n f := h.kept (hb.block b hB)
theorem MapFn.alloc (h : MapFn P k w b n f) (o : Obj) : MapFn P k (w.alloc o) b n f := h.kept (Below.heap_alloc w o b h.lt)
theorem MapFn.drew (h : MapFn P k w b n f) : MapFn P k w.drew b n f := h.kept rfl
theorem MapFn.mono (h : MapFn P k w b n f) {n' : Nat} (hn : n ≤ n') : MapFn P k w b n' f := by
  obtain ⟨D, hD, hf⟩ := h; exact ⟨D, hD.mono hn, hf⟩
theorem MapFn.setCell (h : MapFn P k w b n f) {a : Addr} (ha : b ≠ a.block) (u : Value) : MapFn P k (w.setCell a u) b n f := h.kept (Below.heap_setCell w a u b ha)
theorem MapFn.grown {w' : World} {r : Nat} (h : MapFn P k w b n f) (hg : w.grownBy w' (some r)) (hne : b ≠ r) : MapFn P k w' b n f := h.kept (hg.block b h.lt (by simpa using hne))
/-- 'm[key]' -/
theorem MapFn.look {t e : TypeId} (h : MapFn P k w b n f) (K : Keyed P k) (ht : P.underlying t = some (.map k e)) (hk : P.underlying k = some .string) {z : Value} (hz : (zeroValue e).run P w = .ok z w) {s : ByteArray} (hs : s.size ≤ maxLen) :
    (Instr.lookup t (.map (some b)) (.string s) false).run P w = .ok ((f s.data.toList).getD z) w := by
  obtain ⟨D, hD, hf⟩ := h
  obtain ⟨v, ps, hrun, hR⟩ := hD.lookup K ht hz (zd := .held z) (zp := []) rfl (keyOf_string_mk hk hs)
  rw [hrun]
  obtain ⟨h1, h2⟩ := hf s.data.toList
  cases hfs : f s.data.toList with
  | none =>
    rw [h2 hfs] at hR
    simp [mapR] at hR
    rw [hR.1]; rfl
  | some u =>
    rw [h1 u hfs] at hR
    simp [mapR] at hR
    rw [hR.1]; rfl
/-- 'v, ok := m[key]' -/
theorem MapFn.look_ok {t e : TypeId} (h : MapFn P k w b n f) (K : Keyed P k) (ht : P.underlying t = some (.map k e)) (hk : P.underlying k = some .string) {z : Value} (hz : (zeroValue e).run P w = .ok z w) {s : ByteArray} (hs : s.size ≤ maxLen) :
    (Instr.lookup t (.map (some b)) (.string s) true).run P w = .ok (.tuple #[(f s.data.toList).getD z, .bool (f s.data.toList).isSome]) w := by
  obtain ⟨D, hD, hf⟩ := h
  obtain ⟨v, ps, hrun, hR⟩ := hD.look_ok K ht hz (zd := .held z) (zp := []) rfl (keyOf_string_mk hk hs)
  rw [hrun]
  obtain ⟨h1, h2⟩ := hf s.data.toList
  cases hfs : f s.data.toList with
  | none =>
    rw [Maps.has_false_of_atKey (h2 hfs)]
    rw [h2 hfs] at hR
    simp [mapR] at hR
    rw [hR.1]; rfl
  | some u =>
    rw [Maps.has_true_of_atKey (h1 u hfs)]
    rw [h1 u hfs] at hR
    simp [mapR] at hR
    rw [hR.1]; rfl
/-- 'm[key] = v' -/
theorem MapFn.put {t e : TypeId} (h : MapFn P k w b n f) (K : Keyed P k) (ht : P.underlying t = some (.map k e)) (hk : P.underlying k = some .string) (hn : n < maxLen) {s : ByteArray} (hs : s.size ≤ maxLen) (v : Value) :
    ∃ w', (Instr.mapUpdate t (.map (some b)) (.string s) v).run P w = .ok () w' ∧ MapFn P k w' b (n + 1) (fun l => if l = s.data.toList then some v else f l) ∧ w.grownBy w' (some b) := by
  obtain ⟨D, hD, hf⟩ := h
  obtain ⟨w', hrun, hD', hg⟩ := hD.update K ht hn (keyOf_string_mk hk hs) (val := v) (d := .held v) (ps := []) rfl
  refine ⟨w', hrun, ⟨_, hD', fun l => ?_⟩, hg⟩
  obtain ⟨h1, h2⟩ := hf l
  by_cases hl : l = s.data.toList
  · subst hl
    refine ⟨fun u hu z => ?_, fun hu => by simp at hu⟩
    simp at hu
    subst hu
    exact Maps.atKey_put_same hD.isMap (by simp [WideAt.IsKeyLit]) _ _
  · have hne : (Lit.string l) ≠ .string s.data.toList := fun e => hl (by cases e; rfl)
    refine ⟨fun u hu z => ?_, fun hu z => ?_⟩
    · rw [Maps.atKey_put_other hne]; simp [hl] at hu; exact h1 u hu z
    · rw [Maps.atKey_put_other hne]; simp [hl] at hu; exact h2 hu z
end
theorem cell_grown {w w' : World} {b o r : Nat} {v : Value} (hg : w.grownBy w' (some r)) (hlt : b < w.heap.size) (hne : b ≠ r) (h : w.cell? ⟨b, o, none⟩ = some v) : w'.cell? ⟨b, o, none⟩ = some v := by
  rw [World.cell?_of_block (w := w) (a := ⟨b, o, none⟩) (hg.block b hlt (by simpa using hne))]; exact h
/-- the look-up, at the operation -/
theorem wpList_look {P : Program} (w : World) {ops : Array Oper} {rest : List Oper} {o : Oper} {a : Act} {Q : Exit → Act → World → Prop} {b n : Nat} {f : List UInt8 → Option Value}
    (hg : o.guard = none) (m x : Operand) (t : TypeId) (hop : o.op = Op.lookup t m x false)
    (k e : TypeId) (K : Keyed P k) (ht : P.underlying t = some (.map k e)) (hk : P.underlying k = some .string) {z : Value} (hz : (zeroValue e).run P w = .ok z w)
    (hm : a.eval m = .map (some b)) (hown : MapFn P k w b n f) (s : ByteArray) (hx : a.eval x = .string s) (hs : s.size ≤ maxLen) {v : Value} (hv : (f s.data.toList).getD z = v)
    (hK : wpList P ops Q rest (a.put o.dst v) w) :
    wpList P ops Q (o :: rest) a w := by
  refine wpList_plain hg fun K' hK' => ?_
  have hrun := hown.look K ht hk hz hs
  rw [hv] at hrun
  unfold Oper.wp
  simp [execOp, hop, hm, hx, hrun, Result.andThen]
  exact hK' _ _ hK
theorem wpList_look_ok {P : Program} (w : World) {ops : Array Oper} {rest : List Oper} {o : Oper} {a : Act} {Q : Exit → Act → World → Prop} {b n : Nat} {f : List UInt8 → Option Value}
    (hg : o.guard = none) (m x : Operand) (t : TypeId) (hop : o.op = Op.lookup t m x true)
    (k e : TypeId) (K : Keyed P k) (ht : P.underlying t = some (.map k e)) (hk : P.underlying k = some .string) {z : Value} (hz : (zeroValue e).run P w = .ok z w)
    (hm : a.eval m = .map (some b)) (hown : MapFn P k w b n f) (s : ByteArray) (hx : a.eval x = .string s) (hs : s.size ≤ maxLen) {v : Value} (hv : (f s.data.toList).getD z = v) {is : Bool} (hi : (f s.data.toList).isSome = is)
    (hK : wpList P ops Q rest (a.put o.dst (.tuple #[v, .bool is])) w) :
    wpList P ops Q (o :: rest) a w := by
  refine wpList_plain hg fun K' hK' => ?_
  have hrun := hown.look_ok K ht hk hz hs
  rw [hv, hi] at hrun
  unfold Oper.wp
  simp [execOp, hop, hm, hx, hrun, Result.andThen]
  exact hK' _ _ hK
/-- the store, at the operation -/
theorem wpList_put {P : Program} (w : World) {ops : Array Oper} {rest : List Oper} {o : Oper} {a : Act} {Q : Exit → Act → World → Prop} {b n : Nat} {f : List UInt8 → Option Value}
    (hg : o.guard = none) (m x v : Operand) (t : TypeId) (hop : o.op = Op.mapUpdate t m x v)
    (k e : TypeId) (K : Keyed P k) (ht : P.underlying t = some (.map k e)) (hk : P.underlying k = some .string)
    (hm : a.eval m = .map (some b)) (hown : MapFn P k w b n f) (hn : n < maxLen) (s : ByteArray) (val : Value) (hx : a.eval x = .string s) (hv : a.eval v = val) (hs : s.size ≤ maxLen)
    (hK : ∀ w', MapFn P k w' b (n + 1) (fun l => if l = s.data.toList then some val else f l) → w.grownBy w' (some b) → wpList P ops Q rest (a.put o.dst undef) w') :
    wpList P ops Q (o :: rest) a w := by
  refine wpList_plain hg fun K' hK' => ?_
  obtain ⟨w', hrun, r1, r2⟩ := hown.put K ht hk hn hs val
  unfold Oper.wp
  simp [execOp, hop, hm, hx, hv, hrun, Result.andThen]
  exact hK' _ _ (hK w' r1 r2)
end Go.Proofs.YtdjgkmpjhpnkeaaGreatDoor
namespace Go.Proofs.YtdjgkmpjhpnkeaaGreatDoor
open Go.RowKit Go.Maps Go.WideMaps
theorem keyedS : Keyed Tryz.prog 9 := string_keyed Tryz.underlying9
theorem zeroInt (w : World) : (zeroValue 3).run Tryz.prog w = .ok (.int .i64 0) w := by kernel_rfl
set_option maxHeartbeats 1000000 in
theorem objMay_any (x : GObj) (vs : Value) (w : World) (h : ObjIn w x vs) :
    Calls Tryz.prog 187 #[.agg #[.string x.name, vs]] w fun e w' => e = .returned (.bool (mayP x)) ∧ Below w.heap.size w w' := by
  obtain ⟨hr, hnm⟩ := h
  obtain ⟨p, cap, b, o, rfl, hcap, hmax, hp, hc⟩ := hr
  have HC := Lib.hid hc; clear hc
  have HP := Lib.hid hp; clear hp
  have hmm := @run_makeMap Tryz.prog
  go_enter Tryz.func187, Tryz.ntmps187
  go_wp2
  clear hmm
  go_loopw [11] (fun i wr => ∃ k : Nat, k ≤ x.syms.length ∧ i = .int .i64 k ∧ symsGo (x.syms.take k) (x.syms.drop k) = symsGo [] x.syms ∧ MapFn Tryz.prog 9 wr (w.heap.size + 1) k (seenFn (x.syms.take k)) ∧ Below (w.heap.size + 1) (w.alloc (.cells #[.string x.name, .slice p x.syms.length cap] 287)) wr) (fun i _ => x.syms.length - (intOf i).toNat)
  case atStart =>
    refine ⟨0, Nat.zero_le _, rfl, rfl, ?_, (Below.refl _ _).alloc (by simp) _⟩
    have := MapFn.made Tryz.prog 9 (w.alloc (.cells #[.string x.name, .slice p x.syms.length cap] 287))
    rw [seenFn_nil] at this
    simpa using this
  case round =>
    obtain ⟨k, hk, rfl, hgo, hmap, hbel⟩ := hrel
    have HGO := Lib.hid hgo; clear hgo
    have c0 : wr.cell? ⟨w.heap.size, 0, none⟩ = some (.string x.name) := by rw [hbel.cell (by simp)]; simp [go_sem]
    have c1 : wr.cell? ⟨w.heap.size, 1, none⟩ = some (.slice p x.syms.length cap) := by rw [hbel.cell (by simp)]; simp [go_sem]
    have hsz : w.heap.size + 1 < wr.heap.size := hmap.lt
    have hsz1 : w.heap.size < wr.heap.size := by omega
    have HBW : Hid (Below w.heap.size w wr) := (alloc_old w _).trans (hbel.mono (by omega))
    have HB := Lib.hid hbel; clear hbel
    by_cases hlt : k < x.syms.length
    · obtain rfl := HP.out (by omega)
      obtain ⟨vr, vn, g0, g1, g2, g3, g4, g5, g6, g7, hsin⟩ := symR_keeps _ _ _ _ _ HBW.out (HC.out k hlt)
      obtain ⟨p1, q1, p2, q2, rfl, rfl⟩ := hsin.shape
      have hns : x.syms[k].name.size ≤ maxLen := by have := hsin.2.2.2.2.2.1; unfold maxLen; omega
      generalize hx : x.syms[k] = y at *
      obtain ⟨yn, yb, yk, ys, yy, yr, yt⟩ := y
      simp only [] at *
      have HX := Lib.hid hx; clear hx
      have SIN := Lib.hid (hsin.keep (alloc_old wr (.cells #[.string yn, .int .u8 yb, .int .u8 yk, .int .u32 ys, .string yy, .slice p1 yr.length q1, .slice p2 yt.length q2] 72))); clear hsin
      have HM := Lib.hid (hmap.alloc (.cells #[.string yn, .int .u8 yb, .int .u8 yk, .int .u32 ys, .string yy, .slice p1 yr.length q1, .slice p2 yt.length q2] 72)); clear hmap
      have hns' : yn.size ≤ 9223372036854775807 := hns
      by_cases hseen : hasName (x.syms.take k) yn.data.toList = true
      · have HV := Lib.hid (seenFn_yes hseen)
        have HS := Lib.hid hseen; clear hseen
        go_wp2_with (at_lookup; refine wpList_look _ rfl _ _ 175 rfl 9 3 keyedS Tryz.underlying175 Tryz.underlying9 (zeroInt _) rfl HM.out _ rfl hns' HV.out ?_)
        go_ret
        exact ⟨ret_bool (mayP_no hlt HX.out HGO.out (.inl HS.out)), HBW.out.alloc (by omega) _⟩
      · have hseen' : hasName (x.syms.take k) yn.data.toList = false := by simpa using hseen
        have HV := Lib.hid (seenFn_no hseen')
        have HS := Lib.hid hseen'; clear hseen' hseen
        have HB1 : Hid (Below (w.heap.size + 1) wr (wr.alloc (.cells #[.string yn, .int .u8 yb, .int .u8 yk, .int .u32 ys, .string yy, .slice p1 yr.length q1, .slice p2 yt.length q2] 72))) := (Below.refl _ _).alloc (by omega) _
        go_wp2_with (first | (at_lookup; refine wpList_look _ rfl _ _ 175 rfl 9 3 keyedS Tryz.underlying175 Tryz.underlying9 (zeroInt _) rfl HM.out _ rfl hns' HV.out ?_) | (go_at_call 247; refine (symMay_any ⟨yn, yb, yk, ys, yy, yr, yt⟩ _ _ _ SIN.out).mono ?_; rintro e w1 ⟨rfl, hB⟩; obtain ⟨hc, hf⟩ := bcell hB; have hz : wr.heap.size < w1.heap.size := (by have := hB.size; (try simp at this); omega); replace HM : Hid (MapFn Tryz.prog 9 w1 (w.heap.size + 1) k (seenFn (x.syms.take k))) := HM.out.below hB (by simp; omega); replace HB1 : Hid (Below (w.heap.size + 1) wr w1) := HB1.out.trans (hB.mono (by simp; omega)); clear hB) | (at_mapUpdate; refine wpList_put _ rfl _ _ _ 175 rfl 9 3 keyedS Tryz.underlying175 Tryz.underlying9 rfl HM.out (by unfold maxLen; omega) yn (.int .i64 1) rfl rfl hns' ?_; intro w2 hM2 hg2; have HM2 := Lib.hid hM2; have HG2 := Lib.hid hg2; clear hM2 hg2))
        · have hbad : (!symOkP ⟨yn, yb, yk, ys, yy, yr, yt⟩) = true := by assumption
          go_ret
          exact ⟨ret_bool (mayP_no hlt HX.out HGO.out (.inr (by simpa using hbad))), HBW.out.trans (HB1.out.mono (by omega))⟩
        · have hok : (!symOkP ⟨yn, yb, yk, ys, yy, yr, yt⟩) = false := by assumption
          have HM3 : Hid (MapFn Tryz.prog 9 w2 (w.heap.size + 1) (k + 1) (seenFn (x.syms.take (k + 1)))) := (seenFn_snoc hlt HX.out) ▸ HM2.out
          go_roundw
          case rel => exact ⟨k + 1, by omega, by go_num, symsGo_yes hlt HX.out HGO.out HS.out (by simpa using hok), HM3.out, HB.out.trans (HB1.out.grown HG2.out (by omega) (fun j e => by simp at e; omega))⟩
          case measure => simp [intOf]; omega
    · go_wp2_with (go_at_call 250; refine (objName_any _ _ hnm).mono ?_; rintro e w1 ⟨rfl, hB⟩; obtain ⟨hc, hf⟩ := bcell hB)
      all_goals
        go_ret
        exact ⟨ret_bool (by rw [mayP_end hlt HGO.out]; go_light; simp_all; try omega), HBW.out.trans (hB.mono HBW.out.size)⟩
set_option maxHeartbeats 400000 in
theorem objCheck_any (x : GObj) (vs : Value) (w : World) (h : ObjIn w x vs) :
    Calls Tryz.prog 99 #[.agg #[.string x.name, vs]] w fun e w' => e = .returned (.int .i64 (errB (mayP x))) ∧ Below w.heap.size w w' := by
  have HCON := Lib.hid (objMay_any x vs _ (h.keep (alloc_old w (.cells #[.string x.name, vs] 47)))); clear h
  go_enter Tryz.func99, Tryz.ntmps99
  go_wp2_with (first | (go_at_call 187; refine HCON.out.mono ?_; rintro e w1 ⟨rfl, hB⟩) | (go_at_call 186; refine (told_any _ _).mono ?_; rintro e w1 ⟨rfl, rfl⟩))
  go_ret
  exact ⟨rfl, (alloc_old w _).trans (hB.mono (by simp))⟩
end Go.Proofs.YtdjgkmpjhpnkeaaGreatDoor
namespace Go.Proofs.YtdjgkmpjhpnkeaaGreatDoor
open Go.RowKit Go.Maps Go.WideMaps
theorem zeroPlace (w : World) : (zeroValue 63).run Tryz.prog w = .ok (.agg #[.int .i64 0, .int .i64 0]) w := by kernel_rfl
theorem ret_place {a b a' b' : Int} {c c' : Bool} (h1 : a = a') (h2 : b = b') (h3 : c = c') : Ending.returned (.tuple #[.agg #[.int .i64 a, .int .i64 b], .bool c]) = .returned (.tuple #[.agg #[.int .i64 a', .int .i64 b'], .bool c']) := by rw [h1, h2, h3]
set_option maxHeartbeats 400000 in
theorem winner_any (tb n : Nat) (f : List UInt8 → Option Value) (s : ByteArray) (w : World) (a b : Int) (is : Bool) (hm : MapFn Tryz.prog 9 w tb n f) (hs : s.size ≤ 9223372036854775807)
    (hv : (f s.data.toList).getD (.agg #[.int .i64 0, .int .i64 0]) = .agg #[.int .i64 a, .int .i64 b]) (hi : (f s.data.toList).isSome = is) :
    Calls Tryz.prog 216 #[.map (some tb), .string s] w fun e w' => e = .returned (.tuple #[.agg #[.int .i64 a, .int .i64 b], .bool is]) ∧ Below w.heap.size w w' := by
  have HV := Lib.hid hv; clear hv
  have HI := Lib.hid hi; clear hi
  have HM := Lib.hid (hm.alloc (.cells #[.int .i64 0, .int .i64 0] 63)); clear hm
  go_enter Tryz.func216, Tryz.ntmps216
  go_wp2_with (at_lookup; refine wpList_look_ok _ rfl _ _ 312 rfl 9 63 keyedS Tryz.underlying312 Tryz.underlying9 (zeroPlace _) rfl HM.out s rfl hs HV.out HI.out ?_)
  refine bodyPost_ret (v := .tuple #[.agg #[.int .i64 a, .int .i64 b], .bool is]) (by simp [results, Tryz.results216, go_sem]) rfl ⟨rfl, ?_⟩
  go_grown
set_option maxHeartbeats 400000 in
theorem begin1_any (x : GObj) (vs : Value) (w : World) (h : ObjIn w x vs) :
    Calls Tryz.prog 223 #[.agg #[.string x.name, vs]] w fun e w' => e = .returned (.bool (!mayP x)) ∧ Below w.heap.size w w' := by
  have HCON := Lib.hid (objCheck_any x vs _ (h.keep (alloc_old w (.cells #[.string x.name, vs] 47)))); clear h
  go_enter Tryz.func223, Tryz.ntmps223
  go_wp2_with (go_at_call 99; refine HCON.out.mono ?_; rintro e w1 ⟨rfl, hB⟩)
  go_ret
  exact ⟨ret_bool (by cases mayP x <;> rfl), (alloc_old w _).trans (hB.mono (by simp))⟩
set_option maxHeartbeats 400000 in
theorem indexObj_any (v : Value) (l : List GObj) (w : World) (h : ObjsAt w v l) :
    Calls Tryz.prog 204 #[v, .func (.func 223) #[] #[]] w fun e w' => (∃ n : Int, e = .returned (.int .i64 n) ∧ decide (0 ≤ n) = !l.all mayP) ∧ Below w.heap.size w w' := by
  obtain ⟨p, cap, b, o, rfl, hcap, hmax, hp, hc⟩ := h
  have HC := Lib.hid hc; clear hc
  have HP := Lib.hid hp; clear hp
  go_enter Tryz.func204, Tryz.ntmps204
  go_wp2
  go_loopw [8] (fun i wr => ∃ k : Nat, k ≤ l.length ∧ i = .int .i64 k ∧ (l.take k).all mayP = true ∧ Below w.heap.size w wr) (fun i _ => l.length - (intOf i).toNat)
  case atStart => exact ⟨0, Nat.zero_le _, rfl, rfl, Below.refl _ _⟩
  case round =>
    obtain ⟨k, hk, rfl, hall, hbel⟩ := hrel
    have HA := Lib.hid hall; clear hall
    have HB := Lib.hid hbel; clear hbel
    by_cases hlt : k < l.length
    · obtain rfl := HP.out (by omega)
      obtain ⟨vs, g0, g1, g2, hin⟩ := objR_keeps _ _ _ _ _ HB.out (HC.out k hlt)
      have HCON := Lib.hid (begin1_any l[k] vs wr hin); clear hin
      generalize hx : l[k] = x at *
      obtain ⟨xn, xs⟩ := x
      simp only [] at *
      have HX := Lib.hid hx; clear hx
      go_wp2_with (go_at_call 223; refine HCON.out.mono ?_; rintro e w' ⟨rfl, hB⟩)
      · have hbad : (!mayP ⟨xn, xs⟩) = true := by assumption
        go_ret
        exact ⟨⟨k, rfl, by rw [all_bad hlt HX.out (by simpa using hbad)]; simp⟩, HB.out.trans (hB.mono HB.out.size)⟩
      · have hok : (!mayP ⟨xn, xs⟩) = false := by assumption
        go_roundw
        case rel => exact ⟨k + 1, by omega, by go_num, take_all_snoc hlt HX.out HA.out (by simpa using hok), HB.out.trans (hB.mono HB.out.size)⟩
        case measure => simp [intOf]; omega
    · go_wp2
      go_ret
      exact ⟨⟨-1, rfl, by rw [all_end hlt HA.out]; rfl⟩, HB.out⟩
set_option maxHeartbeats 400000 in
theorem containsObj_any (v : Value) (l : List GObj) (w : World) (h : ObjsAt w v l) :
    Calls Tryz.prog 115 #[v, .func (.func 223) #[] #[]] w fun e w' => e = .returned (.bool (!l.all mayP)) ∧ Below w.heap.size w w' := by
  have HCON := Lib.hid (indexObj_any v l w h); clear h
  go_enter Tryz.func115, Tryz.ntmps115
  go_wp2_with (go_at_call 204; refine HCON.out.mono ?_; rintro e w' ⟨⟨n, rfl, hn⟩, hB⟩; have HN := Lib.hid hn; clear hn)
  go_ret
  exact ⟨ret_bool HN.out, hB⟩
end Go.Proofs.YtdjgkmpjhpnkeaaGreatDoor
namespace Go.Proofs.YtdjgkmpjhpnkeaaGreatDoor
open Go.RowKit Go.Maps Go.WideMaps
/-- the resolver's box and its two tables, behind the symbols pre -/
def Tabs (B : Nat) (v : Value) (w : World) (pre : List Spot) : Prop :=
  w.cell? ⟨B + 1, 0, none⟩ = some (.map (some B)) ∧ w.cell? ⟨B + 1, 1, none⟩ = some v ∧ MapFn Tryz.prog 9 w B pre.length (tabFn pre) ∧ MapFn Tryz.prog 9 w (B + 1 + 1) pre.length (strongFn pre)
theorem Tabs.keep {B : Nat} {v : Value} {w w' : World} {pre : List Spot} (hb : Below w.heap.size w w') (h : Tabs B v w pre) : Tabs B v w' pre :=
  ⟨cell_keep hb (by have := h.2.2.2.lt; omega) h.1, cell_keep hb (by have := h.2.2.2.lt; omega) h.2.1, h.2.2.1.below hb h.2.2.1.lt, h.2.2.2.below hb h.2.2.2.lt⟩
/-- what begin makes of objects that may be linked -/
def Resolver (w : World) (rb : Nat) (v : Value) (l : List GObj) : Prop :=
  ∃ tb n, w.cell? ⟨rb, 0, none⟩ = some (.map (some tb)) ∧ w.cell? ⟨rb, 1, none⟩ = some v ∧ MapFn Tryz.prog 9 w tb n (tabFn (flat l)) ∧ rb < w.heap.size
set_option maxHeartbeats 400000 in
theorem begin_bad (v : Value) (l : List GObj) (w : World) (h : ObjsAt w v l) (hm : mayAll l = false) :
    Calls Tryz.prog 143 #[v] w fun e w' => e = .returned (.tuple #[.pointer none, .string emptyB, .int .i64 2]) ∧ Below w.heap.size w w' := by
  have HCON := Lib.hid (containsObj_any v l w h)
  obtain ⟨p, cap, b, o, rfl, hcap, hmax, -, -⟩ := h
  by_cases hl : l.length ≤ 16
  · have ha : (!l.all mayP) = true := by simp [mayAll, hl] at hm; simpa using hm
    rw [ha] at HCON
    clear ha hm
    go_enter Tryz.func143, Tryz.ntmps143
    go_wp2_with (go_at_call 115; refine HCON.out.mono ?_; rintro e w1 ⟨rfl, hB⟩)
    go_ret3
    exact ⟨rfl, hB⟩
  · clear hm
    go_enter Tryz.func143, Tryz.ntmps143
    go_wp2
    go_ret3
    exact ⟨rfl, Below.refl _ _⟩
set_option maxRecDepth 100000 in
set_option maxHeartbeats 2000000 in
theorem begin_ok (v : Value) (l : List GObj) (w : World) (h : ObjsAt w v l) (hm : mayAll l = true) :
    Calls Tryz.prog 143 #[v] w fun e w' => ((∃ n, dupGo [] (flat l) = some n ∧ e = .returned (.tuple #[.pointer none, .string n, .int .i64 120])) ∨ (dupGo [] (flat l) = none ∧ ∃ rb, e = .returned (.tuple #[.pointer (some ⟨rb, 0, none⟩), .string emptyB, .int .i64 0]) ∧ Resolver w' rb v l)) ∧ Below w.heap.size w w' := by
  have HCON := Lib.hid (containsObj_any v l w h)
  have HFL := Lib.hid (flat_length_le hm)
  obtain ⟨p, cap, b, o, rfl, hcap, hmax, hp, hc⟩ := h
  have HC := Lib.hid hc; clear hc
  have HP := Lib.hid hp; clear hp
  simp only [mayAll, Bool.and_eq_true, decide_eq_true_eq] at hm
  obtain ⟨hl16, hall⟩ := hm
  have hb16 : decide ((16 : Int) < (l.length : Int)) = false := by simp; omega
  rw [hall] at HCON
  clear hall
  have hmm := @run_makeMap Tryz.prog
  go_enter Tryz.func143, Tryz.ntmps143
  go_wp2_with (go_at_call 115; refine HCON.out.mono ?_; rintro e w1 ⟨rfl, hB0⟩)
  clear hmm
  have hsz01 : w.heap.size ≤ w1.heap.size := hB0.size
  go_loopw [27] (fun v27 wr => ∃ (i : Nat) (pre : List Spot), i ≤ l.length ∧ v27 = .int .i64 i ∧ pre ++ objsFrom i (l.drop i) = flat l ∧ dupGo pre (objsFrom i (l.drop i)) = dupGo [] (flat l) ∧ Tabs w1.heap.size (.slice p l.length cap) wr pre ∧ Below w.heap.size w wr) (fun v27 _ => l.length - (intOf v27).toNat)
  case atStart =>
    refine ⟨0, [], Nat.zero_le _, rfl, rfl, rfl, ⟨by simp [go_sem], by simp [go_sem], ?_, ?_⟩, ?_⟩
    · have := MapFn.made Tryz.prog 9 w1
      rw [tabFn_nil] at this
      exact (this.alloc _).alloc _
    · have := MapFn.made Tryz.prog 9 ((w1.alloc (.map #[] 0)).alloc (.cells #[.map (some w1.heap.size), .slice p l.length cap] 314))
      rw [strongFn_nil] at this
      simpa using this
    · have := hB0.size
      go_grown
  case round =>
    obtain ⟨i, pre, hi, rfl, hcat, hdup, htabs, hbel⟩ := hrel
    have HB := Lib.hid hbel; clear hbel
    have HT := Lib.hid htabs; clear htabs
    have HCAT := Lib.hid hcat; clear hcat
    have HDUP := Lib.hid hdup; clear hdup
    by_cases hlt : i < l.length
    · obtain rfl := HP.out (by omega)
      obtain ⟨vs, g0, g1, g2, hin⟩ := HC.out i hlt
      replace g1 := cell_keep HB.out g0 g1
      replace g2 := cell_keep HB.out g0 g2
      replace g0 := size_keep HB.out g0
      have hcat := HCAT.out
      have hdup := HDUP.out
      rw [objsFrom_drop hlt] at hcat hdup
      generalize hx : l[i] = x at g1 g2 hin hcat hdup
      obtain ⟨xn, xs⟩ := x
      simp only [] at g1 g2 hin hcat hdup
      obtain ⟨⟨pS, capS, bS, oS, rfl, hcapS, hmaxS, hpS, hcS⟩, hnmx⟩ := hin
      clear HCAT HDUP hx
      have HCAT := Lib.hid hcat; clear hcat
      have HDUP := Lib.hid hdup; clear hdup
      have HCS := Lib.hid hcS; clear hcS
      have HPS := Lib.hid hpS; clear hpS
      go_wp2
      obtain ⟨wo, rfl⟩ : ∃ wo : World, wo = wr := ⟨_, rfl⟩
      go_loopw [35] (fun v35 wr => ∃ (k : Nat) (pre : List Spot), k ≤ xs.length ∧ v35 = .int .i64 k ∧ pre ++ (symsFrom i k (xs.drop k) ++ objsFrom (i + 1) (l.drop (i + 1))) = flat l ∧ dupGo pre (symsFrom i k (xs.drop k) ++ objsFrom (i + 1) (l.drop (i + 1))) = dupGo [] (flat l) ∧ Tabs w1.heap.size (.slice (some ⟨b, o, none⟩) l.length cap) wr pre ∧ Below w.heap.size w wr) (fun v35 _ => xs.length - (intOf v35).toNat)
      case atStart => exact ⟨0, pre, Nat.zero_le _, rfl, HCAT.out, HDUP.out, HT.out.keep (alloc_old _ _), HB.out.alloc HB.out.size _⟩
      case round =>
        clear HCAT HDUP HT g1 g2 g0 HB
        obtain ⟨k, pre, hk, rfl, hcat, hdup, htabs, hbel⟩ := hrel
        have HCAT := Lib.hid hcat; clear hcat
        have HDUP := Lib.hid hdup; clear hdup
        have HB := Lib.hid hbel; clear hbel
        have HT := Lib.hid htabs
        obtain ⟨t0, t1, hM, hN⟩ := htabs
        have z2 : w1.heap.size + 1 + 1 < wr.heap.size := hN.lt
        have z1 : w1.heap.size + 1 < wr.heap.size := by omega
        have z0 : w1.heap.size < wr.heap.size := by omega
        by_cases hks : k < xs.length
        · obtain rfl := HPS.out (by omega)
          obtain ⟨vr, vn, g0, g1, g2, g3, g4, g5, g6, g7, hsin⟩ := symR_keeps _ _ _ _ _ HB.out (HCS.out k hks)
          obtain ⟨p1, q1, p2, q2, rfl, rfl⟩ := hsin.shape
          have hns : xs[k].name.size ≤ 9223372036854775807 := by have := hsin.2.2.2.2.2.1; omega
          generalize hy : xs[k] = y at g1 g2 g3 g4 g5 g6 g7 hsin hns
          obtain ⟨yn, yb, yk, ys, yy, yr, yt⟩ := y
          simp only [] at g1 g2 g3 g4 g5 g6 g7 hsin hns
          have HY := Lib.hid hy; clear hy
          have HM := Lib.hid (hM.alloc (.cells #[.string yn, .int .u8 yb, .int .u8 yk, .int .u32 ys, .string yy, .slice p1 yr.length q1, .slice p2 yt.length q2] 72)); clear hM
          have HN := Lib.hid (hN.alloc (.cells #[.string yn, .int .u8 yb, .int .u8 yk, .int .u32 ys, .string yy, .slice p1 yr.length q1, .slice p2 yt.length q2] 72)); clear hN
          obtain ⟨pa, pb, hv⟩ := tabFn_val pre yn.data.toList
          have HV := Lib.hid hv; clear hv
          have HI := Lib.hid (tabFn_isSome pre yn.data.toList)
          go_wp2
          go_cut [12] (fun v12 wx => v12 = .bool (winnerIn pre yn.data.toList).isSome ∧ Below (wr.heap.size + 1) (wr.alloc (.cells #[.string yn, .int .u8 yb, .int .u8 yk, .int .u32 ys, .string yy, .slice p1 yr.length q1, .slice p2 yt.length q2] 72)) wx)
          case first =>
            have hne0 : ¬ wr.heap.size = w1.heap.size := by omega
            go_region_held3 (fun w' => w'.cell? ⟨w1.heap.size + 1, 0, none⟩ = some (.map (some w1.heap.size)) ∧ w'.cell? ⟨wr.heap.size, 0, none⟩ = some (.string yn)) (go_keep) (first | (go_at_call 216; refine (winner_any w1.heap.size pre.length (tabFn pre) yn _ pa pb _ ?_ hns HV.out HI.out).mono ?_; (first | exact HM.out.drew | exact (HM.out.alloc _).drew); rintro e w' ⟨rfl, hB⟩; have k1 : w'.cell? ⟨w1.heap.size + 1, 0, none⟩ = some (.map (some w1.heap.size)) := cell_keep hB (by simp; omega) (by simp [go_sem, *]); have k2 : w'.cell? ⟨wr.heap.size, 0, none⟩ = some (.string yn) := cell_keep hB (by simp <;> omega) (by simp [go_sem, *]); obtain ⟨hc, hf⟩ := bcell hB))
            all_goals clear HV HI
            all_goals go_wp2_with fail
            all_goals go_meet
            · exact ⟨rfl, ((Below.refl _ _).drew.trans (hB.mono (by simp))).alloc (by have := hB.size; simp at this; omega) _⟩
            · exact ⟨rfl, ((((Below.refl _ _).alloc (by simp) _).drew.trans (hB.mono (by simp))).setCell (by simp) _).setCell (by simp) _⟩
          case rest =>
            obtain ⟨rfl, hbx⟩ := hcut
            have k0 : wc.cell? ⟨wr.heap.size, 0, none⟩ = some (.string yn) := by rw [hbx.cell (by simp)]; simp [go_sem]
            have k1 : wc.cell? ⟨wr.heap.size, 1, none⟩ = some (.int .u8 yb) := by rw [hbx.cell (by simp)]; simp [go_sem]
            have t0c : wc.cell? ⟨w1.heap.size + 1, 0, none⟩ = some (.map (some w1.heap.size)) := by rw [hbx.cell (by simp; omega)]; simp [go_sem, *]
            have t1c : wc.cell? ⟨w1.heap.size + 1, 1, none⟩ = some (.slice (some ⟨b, o, none⟩) l.length cap) := by rw [hbx.cell (by simp; omega)]; simp [go_sem, *]
            have zc : wr.heap.size < wc.heap.size := by have := hbx.size; simp at this; omega
            have HMc := Lib.hid (HM.out.below hbx (by omega)); clear HM
            have HNc := Lib.hid (HN.out.below hbx (by omega)); clear HN
            have HBW : Hid (Below w.heap.size w wc) := HB.out.trans ((alloc_old wr _).mono HB.out.size |>.trans (hbx.mono (by have := HB.out.size; omega)))
            have hplen : pre.length < 1024 := by
              have h1 := HFL.out
              rw [← HCAT.out, List.length_append, List.length_append, symsFrom_length, List.length_drop] at h1
              omega
            have HBX := Lib.hid hbx; clear hbx
            clear t0 t1 g1 g2 g3 g4 g5 g6 g7 hsin HT HB HV HI
            by_cases hb1 : yb = 1
            · subst hb1
              by_cases hst : (firstBy pre yn.data.toList 1).isSome = true
              · have hrun := HNc.out.look (t := 175) (e := 3) keyedS Tryz.underlying175 Tryz.underlying9 (zeroInt _) hns
                rw [strongFn_val_yes hst] at hrun
                have HDUP2 : Hid (dupGo [] (flat l) = some yn) := by
                  rw [← HDUP.out, symsFrom_drop hks, HY.out, List.cons_append, dupGo, if_pos ⟨rfl, hst⟩]; rfl
                have HST := Lib.hid hst; clear hst
                go_wp2
                go_quiet (fail)
                go_wp2
                go_ret3
                exact ⟨.inl ⟨yn, HDUP2.out, rfl⟩, below_drewN HBW.out _⟩
              · have hst' : (firstBy pre yn.data.toList 1).isSome = false := by simpa using hst
                have hrun := HNc.out.look (t := 175) (e := 3) keyedS Tryz.underlying175 Tryz.underlying9 (zeroInt _) hns
                rw [strongFn_val_no hst'] at hrun
                have HDUP2 := Lib.hid (dup_step hks HY.out HDUP.out (by simp [hst']))
                have HST := Lib.hid hst'; clear hst hst'
                go_wp2
                go_still_tail 9, (by kernel_rfl)
                refine wpList_put _ rfl _ _ _ 312 rfl 9 63 keyedS Tryz.underlying312 Tryz.underlying9 rfl HMc.out.drew (by unfold maxLen; omega) yn (placeV (i, k)) rfl rfl hns ?_
                intro w2 hM2 hg2
                rw [tab_strong (x := ⟨i, k, ⟨yn, 1, yk, ys, yy, yr, yt⟩⟩) rfl HST.out] at hM2
                have hz2 : wc.heap.size ≤ w2.heap.size := hg2.size
                have k0' : w2.cell? ⟨wr.heap.size, 0, none⟩ = some (.string yn) := cell_grown hg2 zc (by omega) k0
                have k1' : w2.cell? ⟨wr.heap.size, 1, none⟩ = some (.int .u8 1) := cell_grown hg2 zc (by omega) k1
                have t0' : w2.cell? ⟨w1.heap.size + 1, 0, none⟩ = some (.map (some w1.heap.size)) := cell_grown hg2 (Nat.lt_trans z1 zc) (by omega) t0c
                have t1' : w2.cell? ⟨w1.heap.size + 1, 1, none⟩ = some (.slice (some ⟨b, o, none⟩) l.length cap) := cell_grown hg2 (Nat.lt_trans z1 zc) (by omega) t1c
                have HN2 := Lib.hid (HNc.out.drew.grown hg2 (by omega))
                have HM2 := Lib.hid hM2; clear hM2
                have HG2 := Lib.hid hg2; clear hg2
                have zc2 : wr.heap.size < w2.heap.size := by omega
                have HV := Lib.hid (strongFn_val_no HST.out)
                clear hrun HMc HNc k0 k1 t0c t1c
                go_wp2_with (first | (at_lookup; refine wpList_look _ rfl _ _ 175 rfl 9 3 keyedS Tryz.underlying175 Tryz.underlying9 (zeroInt _) rfl HN2.out yn rfl hns HV.out ?_) | (at_mapUpdate; refine wpList_put _ rfl _ _ _ 175 rfl 9 3 keyedS Tryz.underlying175 Tryz.underlying9 rfl HN2.out (by unfold maxLen; omega) yn (.int .i64 1) rfl rfl hns ?_; intro w3 hM3 hg3; have HM3 := Lib.hid hM3; have HG3 := Lib.hid hg3; clear hM3 hg3))
                go_roundw
                case rel => exact ⟨k + 1, _, by omega, by go_num, cat_step hks HY.out HCAT.out, HDUP2.out, ⟨cell_grown HG3.out (by omega) (by omega) t0', cell_grown HG3.out (by omega) (by omega) t1', (HM2.out.grown HG3.out (by omega)).mono (by simp), ((strong_yes (x := ⟨i, k, ⟨yn, 1, yk, ys, yy, yr, yt⟩⟩) rfl) ▸ HM3.out).mono (by simp)⟩, (HBW.out.drew.grown HG2.out (by simp; omega) (fun q e => by simp at e; omega)).grown HG3.out (by omega) (fun q e => by simp at e; omega)⟩
                case measure => simp [intOf]; omega
            · have b1 : (yb == 1) = false := by simpa using hb1
              have HDUP2 := Lib.hid (dup_step hks HY.out HDUP.out (by simp [hb1]))
              have HB1 := Lib.hid hb1; clear hb1
              by_cases hb2 : yb = 2 ∧ (winnerIn pre yn.data.toList).isSome = false
              · obtain ⟨rfl, hw⟩ := hb2
                have HW := Lib.hid hw
                go_wp2
                go_still_tail 9, (by kernel_rfl)
                refine wpList_put _ rfl _ _ _ 312 rfl 9 63 keyedS Tryz.underlying312 Tryz.underlying9 rfl HMc.out.drew (by unfold maxLen; omega) yn (placeV (i, k)) rfl rfl hns ?_
                intro w2 hM2 hg2
                rw [tab_weak (x := ⟨i, k, ⟨yn, 2, yk, ys, yy, yr, yt⟩⟩) rfl HW.out] at hM2
                have hz2 : wc.heap.size ≤ w2.heap.size := hg2.size
                have k1' : w2.cell? ⟨wr.heap.size, 1, none⟩ = some (.int .u8 2) := cell_grown hg2 zc (by omega) k1
                have t0' : w2.cell? ⟨w1.heap.size + 1, 0, none⟩ = some (.map (some w1.heap.size)) := cell_grown hg2 (Nat.lt_trans z1 zc) (by omega) t0c
                have t1' : w2.cell? ⟨w1.heap.size + 1, 1, none⟩ = some (.slice (some ⟨b, o, none⟩) l.length cap) := cell_grown hg2 (Nat.lt_trans z1 zc) (by omega) t1c
                have HN2 := Lib.hid (HNc.out.drew.grown hg2 (by omega))
                have HM2 := Lib.hid hM2; clear hM2
                have HG2 := Lib.hid hg2; clear hg2
                have zc2 : wr.heap.size < w2.heap.size := by omega
                clear HMc HNc k0 k1 t0c t1c
                go_wp2
                go_roundw
                case rel => exact ⟨k + 1, _, by omega, by go_num, cat_step hks HY.out HCAT.out, HDUP2.out, ⟨t0', t1', HM2.out.mono (by simp), ((strong_same (l := pre) (x := ⟨i, k, ⟨yn, 2, yk, ys, yy, yr, yt⟩⟩) HB1.out) ▸ HN2.out).mono (by simp)⟩, HBW.out.drew.grown HG2.out (by simp; omega) (fun q e => by simp at e; omega)⟩
                case measure => simp [intOf]; omega
              · have hor : ¬ yb = 2 ∨ (winnerIn pre yn.data.toList).isSome = true := by
                  by_cases h2 : yb = 2
                  · right
                    cases h3 : (winnerIn pre yn.data.toList).isSome with
                    | true => rfl
                    | false => exact absurd ⟨h2, h3⟩ hb2
                  · exact .inl h2
                have HOR := Lib.hid hor
                clear hb2
                have fin : Hid (Tabs w1.heap.size (.slice (some ⟨b, o, none⟩) l.length cap) wc (pre ++ [⟨i, k, ⟨yn, yb, yk, ys, yy, yr, yt⟩⟩])) :=
                  ⟨t0c, t1c, ((tab_same (l := pre) (x := ⟨i, k, ⟨yn, yb, yk, ys, yy, yr, yt⟩⟩) HB1.out HOR.out) ▸ HMc.out).mono (by simp), ((strong_same (l := pre) (x := ⟨i, k, ⟨yn, yb, yk, ys, yy, yr, yt⟩⟩) HB1.out) ▸ HNc.out).mono (by simp)⟩
                clear HMc HNc t0c t1c
                rcases hor with h2 | h2
                · have b2 : (yb == 2) = false := by simpa using h2
                  clear h2
                  go_wp2
                  go_roundw
                  case rel => exact ⟨k + 1, _, by omega, by go_num, cat_step hks HY.out HCAT.out, HDUP2.out, fin.out, HBW.out⟩
                  case measure => simp [intOf]; omega
                · go_wp2
                  all_goals
                    go_roundw
                    case rel => exact ⟨k + 1, _, by omega, by go_num, cat_step hks HY.out HCAT.out, HDUP2.out, fin.out, HBW.out⟩
                    case measure => simp [intOf]; omega
        · go_wp2
          have hcat := HCAT.out
          have hdup := HDUP.out
          rw [List.drop_of_length_le (by omega), symsFrom, List.nil_append] at hcat hdup
          have HCAT2 := Lib.hid hcat; clear hcat
          have HDUP2 := Lib.hid hdup; clear hdup
          go_roundw
          case rel => exact ⟨i + 1, pre, by omega, by go_num, HCAT2.out, HDUP2.out, HT.out, HB.out⟩
          case measure => simp [intOf]; omega
    · have hcat := HCAT.out
      have hdup := HDUP.out
      rw [List.drop_of_length_le (by omega), objsFrom] at hcat hdup
      rw [List.append_nil] at hcat
      subst hcat
      have HD : Hid (dupGo [] (flat l) = none) := hdup.symm
      clear hdup HCAT HDUP
      go_wp2
      go_ret3
      obtain ⟨t0, t1, hM, hN⟩ := HT.out
      exact ⟨.inr ⟨HD.out, _, rfl, _, _, t0, t1, hM, by have := hN.lt; omega⟩, HB.out⟩
end Go.Proofs.YtdjgkmpjhpnkeaaGreatDoor
namespace Go.Proofs.YtdjgkmpjhpnkeaaGreatDoor
/-- is there a symbol at a place? -/
def hasR (l : List GObj) (a b : Int) : Bool := decide (0 ≤ a) && decide (0 ≤ b) && (match l[a.toNat]? with | some o => decide (b.toNat < o.syms.length) | none => false)
theorem hasR_no0 {l : List GObj} {a b : Int} (h : a < 0 ∨ (l.length : Int) ≤ a ∨ b < 0) : hasR l a b = false := by
  unfold hasR
  rcases h with h | h | h
  · simp [show ¬ 0 ≤ a by omega]
  · rw [List.getElem?_eq_none (by omega)]; simp
  · simp [show ¬ 0 ≤ b by omega]
theorem hasR_at {l : List GObj} {a b : Nat} (h : a < l.length) : hasR l a b = decide (b < l[a].syms.length) := by
  unfold hasR
  simp [List.getElem?_eq_getElem h]
def refsV (c : ByteArray × Int) (l : List GObj) (a b : Int) : List (Nat × Nat) × ByteArray × Int := if c.2 ≠ 0 then ([], c.1, c.2) else if hasR l a b then refsGo l a [] (relsAt l a.toNat b.toNat) else ([], emptyB, 2)
theorem hasR_yes {l : List GObj} {a b : Int} (h : hasR l a b = true) : ∃ (an bn : Nat) (ha : an < l.length), a = an ∧ b = bn ∧ bn < l[an].syms.length := by
  by_cases h1 : a < 0 ∨ (l.length : Int) ≤ a ∨ b < 0
  · rw [hasR_no0 h1] at h; simp at h
  · obtain ⟨an, rfl⟩ := Int.eq_ofNat_of_zero_le (show 0 ≤ a by omega)
    obtain ⟨bn, rfl⟩ := Int.eq_ofNat_of_zero_le (show 0 ≤ b by omega)
    have ha : an < l.length := by omega
    rw [hasR_at ha] at h
    exact ⟨an, bn, ha, rfl, rfl, by simpa using h⟩
end Go.Proofs.YtdjgkmpjhpnkeaaGreatDoor
namespace Go.Proofs.YtdjgkmpjhpnkeaaGreatDoor
open Go.RowKit Go.Maps Go.WideMaps
set_option maxRecDepth 100000 in
set_option maxHeartbeats 1000000 in
theorem has_any (v : Value) (l : List GObj) (a b : Int) (w : World) (h : ObjsAt w v l) :
    Calls Tryz.prog 27 #[v, .agg #[.int .i64 a, .int .i64 b]] w fun e w' => e = .returned (.bool (hasR l a b)) ∧ Below w.heap.size w w' := by
  obtain ⟨p, cap, bb, o, rfl, hcap, hmax, hp, hc⟩ := h
  by_cases h1 : 0 ≤ a
  · by_cases h2 : a < (l.length : Int)
    · by_cases h3 : 0 ≤ b
      · obtain ⟨an, rfl⟩ := Int.eq_ofNat_of_zero_le h1
        obtain ⟨bn, rfl⟩ := Int.eq_ofNat_of_zero_le h3
        have hal : an < l.length := by omega
        obtain rfl := hp (by omega)
        obtain ⟨vs, g0, g1, g2, ⟨pS, capS, bS, oS, rfl, -⟩, -⟩ := hc an hal
        rw [hasR_at hal]
        clear hc hp g1
        generalize l[an].syms.length = nS at g2 ⊢
        have d1 : decide ((0 : Int) ≤ (an : Int)) = true := by simp
        have d2 : decide ((an : Int) < (l.length : Int)) = true := by simpa using hal
        have d3 : decide ((0 : Int) ≤ (bn : Int)) = true := by simp
        by_cases h4 : bn < nS
        · have d4 : decide ((bn : Int) < (nS : Int)) = true := by simpa using h4
          go_enter Tryz.func27, Tryz.ntmps27
          go_wp2
          go_quiet (fail)
          go_wp2
          go_ret
          exact ⟨ret_bool (by simp [h4]), below_drewN (alloc_old w _) _⟩
        · have d4 : decide ((bn : Int) < (nS : Int)) = false := by simp; omega
          go_enter Tryz.func27, Tryz.ntmps27
          go_wp2
          go_quiet (fail)
          go_wp2
          go_ret
          exact ⟨ret_bool (by simp [h4]), below_drewN (alloc_old w _) _⟩
      · rw [hasR_no0 (.inr (.inr (by omega)))]
        have d1 : decide (0 ≤ a) = true := by simpa using h1
        have d2 : decide (a < (l.length : Int)) = true := by simpa using h2
        have d3 : decide (0 ≤ b) = false := by simpa using h3
        go_enter Tryz.func27, Tryz.ntmps27
        go_wp2
        go_quiet (fail)
        go_wp2
        go_ret
        exact ⟨rfl, below_drewN (alloc_old w _) _⟩
    · rw [hasR_no0 (.inr (.inl (by omega)))]
      have d1 : decide (0 ≤ a) = true := by simpa using h1
      have d2 : decide (a < (l.length : Int)) = false := by simpa using h2
      go_enter Tryz.func27, Tryz.ntmps27
      go_wp2
      go_quiet (fail)
      go_wp2
      go_ret
      exact ⟨rfl, below_drewN (alloc_old w _) _⟩
  · rw [hasR_no0 (.inl (by omega))]
    have d1 : decide (0 ≤ a) = false := by simpa using h1
    go_enter Tryz.func27, Tryz.ntmps27
    go_wp2
    go_quiet (fail)
    go_wp2
    go_ret
    exact ⟨rfl, below_drewN (alloc_old w _) _⟩
end Go.Proofs.YtdjgkmpjhpnkeaaGreatDoor
