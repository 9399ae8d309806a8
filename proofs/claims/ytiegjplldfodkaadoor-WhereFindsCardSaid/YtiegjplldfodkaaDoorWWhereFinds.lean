/- The walk of aediculelaw34.WhereFinds. -/
import Derived.Test.YtiegjplldfodkaaDoorWAlive34
import Derived.Test.YtiegjplldfodkaaDoorWLarge34
import Derived.Test.YtiegjplldfodkaaDoorWRefTabName
import Derived.Test.YtiegjplldfodkaaDoorWRefTabNamed
import Derived.Test.YtiegjplldfodkaaDoorWRefTabMoves
namespace Go.Proofs.YtiegjplldfodkaaDoor
open Go.RowKit Go.Maps
theorem mvs_same {v u : Value} {t : List GMv} {w : World} (h1 : RowAt 4 MvR w v t) (h2 : RowAt 4 MvR w u t) : Calls Tryd.prog 19 #[v, u] w (IsB true w) :=
  (mvSame_two v u t t w h1 h2).mono fun _ _ ⟨b, he, hb, hB⟩ => ⟨by rw [he, hb.2 rfl], hB⟩
set_option maxRecDepth 100000 in
set_option maxHeartbeats 4000000 in
theorem whereFinds_any (v u : Value) (t r : List GTs) (a : Int) (n : ByteArray) (w : World) (h : TabAt w v t) (h' : TabAt w u r) (ha : 0 ≤ a ∧ a ≤ 4294967295) :
    Calls Tryd.prog 4 #[v, u, .int .u32 a, .string n] w fun e w' => e = .returned (.bool true) ∧ Below w.heap.size w w' := by
  obtain ⟨p, cap, _, _, rfl, -, -, -⟩ := id h
  obtain ⟨p2, cap2, _, _, rfl, -, -, -⟩ := id h'
  have HT := Lib.hid h; have HU := Lib.hid h'
  have HL := Lib.hid (large34_any _ t w h)
  have HA := Lib.hid ha
  clear h h' ha
  unfold LargePost at HL
  go_enter Tryd.func4, Tryd.ntmps4
  go_wp2_with fail
  refine HL.out.mono ?_
  rintro e w1 ⟨b, rfl, hb, hB⟩
  replace HT := Lib.hid (TabAt.keep' hB HT.out)
  replace HU := Lib.hid (TabAt.keep' hB HU.out)
  have HW := Lib.hid hB; clear hB HL
  cases b with
  | true =>
    clear hb
    go_wp2_with fail
    refine (alive34_any _).mono ?_
    rintro e w2 ⟨rfl, hB⟩
    go_wp2
    go_ret
    exact ⟨rfl, HW.out.trans (hB.mono HW.out.size)⟩
  | false =>
  have hlt := hb rfl; clear hb
  have HL := Lib.hid (large34_any _ r w1 HU.out)
  unfold LargePost at HL
  go_wp2_with fail
  refine HL.out.mono ?_
  rintro e w2 ⟨b, rfl, hb, hB⟩
  replace HT := Lib.hid (TabAt.keep' hB HT.out)
  replace HU := Lib.hid (TabAt.keep' hB HU.out)
  replace HW := Lib.hid (HW.out.trans (hB.mono HW.out.size)); clear hB HL
  cases b with
  | true =>
    clear hb
    go_wp2_with fail
    refine (alive34_any _).mono ?_
    rintro e w3 ⟨rfl, hB⟩
    go_wp2
    go_ret
    exact ⟨rfl, HW.out.trans (hB.mono HW.out.size)⟩
  | false =>
  have hlu := hb rfl; clear hb
  have hwr : IntKind.i64.wrap ((t.length : Int) + (r.length : Int)) = (t.length : Int) + r.length := IntWalk.i64_in _ (by omega)
  by_cases hz : 300 < t.length + r.length
  · have d : decide ((300 : Int) < (t.length : Int) + (r.length : Int)) = true := by simp; omega
    clear hz hlt hlu
    go_wp2_with fail
    refine (alive34_any _).mono ?_
    rintro e w3 ⟨rfl, hB⟩
    go_wp2
    go_ret
    exact ⟨rfl, HW.out.trans (hB.mono HW.out.size)⟩
  have d : decide ((300 : Int) < (t.length : Int) + (r.length : Int)) = false := by simp; omega
  clear hz hlt hlu
  by_cases hz : 1024 < n.size
  · have d2 : decide ((1024 : Int) < (n.size : Int)) = true := by simp; omega
    have d2' : decide (1024 < n.size) = true := by simp; omega
    clear hz
    go_wp2_with fail
    refine (alive34_any _).mono ?_
    rintro e w3 ⟨rfl, hB⟩
    go_wp2
    go_ret
    exact ⟨rfl, HW.out.trans (hB.mono HW.out.size)⟩
  have d2 : decide ((1024 : Int) < (n.size : Int)) = false := by simp; omega
  have d2' : decide (1024 < n.size) = false := by simp; omega
  clear hz
  have HF := Lib.hid (whFind_any _ t a w2 HT.out HA.out)
  go_wp2_with fail
  refine HF.out.mono ?_
  rintro e w3 ⟨rfl, hB⟩
  replace HT := Lib.hid (TabAt.keep' hB HT.out)
  replace HU := Lib.hid (TabAt.keep' hB HU.out)
  replace HW := Lib.hid (HW.out.trans (hB.mono HW.out.size)); clear hB HF d d2 d2' hwr
  have HF := Lib.hid (refFind_any _ t a w3 HT.out HA.out)
  generalize findT t a = f at HF ⊢
  obtain ⟨fi, fo, fb⟩ := f
  simp only [] at HF ⊢
  unfold FindPost at HF
  go_wp2_with fail
  refine HF.out.mono ?_
  rintro e w4 ⟨rfl, hB⟩
  replace HT := Lib.hid (TabAt.keep' hB HT.out)
  replace HU := Lib.hid (TabAt.keep' hB HU.out)
  replace HW := Lib.hid (HW.out.trans (hB.mono HW.out.size)); clear hB HF
  have HN := Lib.hid (whNameOf_any _ t a w4 HT.out HA.out)
  have hfb : (fb == fb) = true := by simp
  go_wp2_with fail
  refine HN.out.mono ?_
  rintro e w5 ⟨rfl, hB⟩
  replace HT := Lib.hid (TabAt.keep' hB HT.out)
  replace HU := Lib.hid (TabAt.keep' hB HU.out)
  replace HW := Lib.hid (HW.out.trans (hB.mono HW.out.size)); clear hB HN
  have HN := Lib.hid (refNameOf_any _ t a w5 HT.out HA.out)
  generalize nameOf t a = nm at HN ⊢
  go_wp2_with fail
  refine HN.out.mono ?_
  rintro e w6 ⟨rfl, hB⟩
  replace HT := Lib.hid (TabAt.keep' hB HT.out)
  replace HU := Lib.hid (TabAt.keep' hB HU.out)
  replace HW := Lib.hid (HW.out.trans (hB.mono HW.out.size)); clear hB HN HA
  have HN := Lib.hid (whNamed_any _ t n w6 HT.out)
  go_wp2_with fail
  refine HN.out.mono ?_
  rintro e w7 ⟨vn, rfl, htn, hB⟩
  replace HT := Lib.hid (TabAt.keep' hB HT.out)
  replace HU := Lib.hid (TabAt.keep' hB HU.out)
  have HNT := Lib.hid htn
  replace HW := Lib.hid (HW.out.trans (hB.mono HW.out.size)); clear hB HN htn
  have HN := Lib.hid (refNamed_any _ t n w7 HT.out)
  go_wp2_with fail
  refine HN.out.mono ?_
  rintro e w8 ⟨vn2, rfl, htn, hB⟩
  replace HT := Lib.hid (TabAt.keep' hB HT.out)
  replace HU := Lib.hid (TabAt.keep' hB HU.out)
  replace HW := Lib.hid (HW.out.trans (hB.mono HW.out.size))
  have HS := Lib.hid (tabs_same (TabAt.keep' hB HNT.out) htn); clear hB HN htn HNT
  go_wp2_with fail
  refine HS.out.mono ?_
  rintro e w9 ⟨rfl, hB⟩
  replace HT := Lib.hid (TabAt.keep' hB HT.out)
  replace HU := Lib.hid (TabAt.keep' hB HU.out)
  replace HW := Lib.hid (HW.out.trans (hB.mono HW.out.size)); clear hB HS
  have HN := Lib.hid (whMoves_any _ _ t r w9 HT.out HU.out)
  go_wp2_with fail
  refine HN.out.mono ?_
  rintro e w10 ⟨vm, rfl, htm, hB⟩
  replace HT := Lib.hid (TabAt.keep' hB HT.out)
  replace HU := Lib.hid (TabAt.keep' hB HU.out)
  have HMT := Lib.hid htm
  replace HW := Lib.hid (HW.out.trans (hB.mono HW.out.size)); clear hB HN htm
  have HN := Lib.hid (refMoves_any _ _ t r w10 HT.out HU.out)
  go_wp2_with fail
  refine HN.out.mono ?_
  rintro e w11 ⟨vm2, rfl, htm, hB⟩
  replace HW := Lib.hid (HW.out.trans (hB.mono HW.out.size))
  have HS := Lib.hid (mvs_same (RowAt.keep mvR_keeps hB HMT.out) htm); clear hB HN htm HMT HT HU
  go_wp2_with fail
  refine HS.out.mono ?_
  rintro e w12 ⟨rfl, hB⟩
  replace HW := Lib.hid (HW.out.trans (hB.mono HW.out.size)); clear hB HS
  go_wp2_with fail
  refine (alive34_any _).mono ?_
  rintro e w13 ⟨rfl, hB⟩
  go_wp2
  go_ret
  exact ⟨rfl, HW.out.trans (hB.mono HW.out.size)⟩
end Go.Proofs.YtiegjplldfodkaaDoor
