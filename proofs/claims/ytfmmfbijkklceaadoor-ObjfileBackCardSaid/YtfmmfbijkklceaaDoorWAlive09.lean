/- The walk of aediculelaw09.alive. -/
import Derived.Test.YtfmmfbijkklceaaDoorWAll
import Derived.Test.YtfmmfbijkklceaaDoorWObjPut
namespace Go.Proofs.YtfmmfbijkklceaaDoor
open Go.RowKit Go.Maps
def obj09 : GObj := ⟨⟨#[111]⟩, []⟩
def bytes09 : ByteArray := ⟨#[65, 79, 66, 49, 1, 0, 111, 0, 0]⟩
theorem put09 : putV obj09 = (bytes09, 0) := by kernel_rfl
theorem get09 : getS bytes09 = some obj09 := getB_enc (o := obj09) ⟨by decide, by decide, fun s hs => by cases hs⟩ (by kernel_rfl)
theorem get09' : getB bytes09.data.toList = some obj09 := get09
theorem bad09 : getS ⟨#[120]⟩ = none := by
  unfold getS getB
  rw [if_neg]
  exact fun h => by have := h.2.1; revert this; decide
theorem all09 {w w' : World} {e : Ending} (h : AllPost [bytes09, ⟨#[120]⟩] w e w') : e = .returned (.tuple #[.slice none 0 0, .int .i64 1, .int .i64 7]) ∧ Below w.heap.size w w' := by
  obtain ⟨h1, h2⟩ := h
  refine ⟨?_, h2⟩
  rcases h1 with ⟨os, v, us, h3, -⟩ | ⟨k, os, hk, h3, h4, h5⟩
  · have : (os.map some)[1]? = some none := by rw [← h3]; simp [bad09]
    simp at this
  · match k, hk with
    | 0, _ => exact absurd h4 (by show ¬ getS bytes09 = none; rw [get09]; simp)
    | 1, _ => exact h5
set_option maxRecDepth 100000 in
set_option maxHeartbeats 2000000 in
theorem alive09_any (w : World) : Calls Tryd.prog 7 #[] w fun e w' => e = .returned (.bool true) ∧ Below w.heap.size w w' := by
  have HPU := Lib.hid (objPut_any obj09 (.slice none 0 0) w ⟨rowAt_nil, by decide⟩ (fun _ s hs => by cases hs))
  rw [put09] at HPU
  go_enter Tryd.func7, Tryd.ntmps7
  go_wp2_with fail
  refine HPU.out.mono ?_
  rintro e w1 ⟨rfl, hB⟩
  have HW := Lib.hid hB; clear hB HPU
  go_wp2_with fail
  refine (get_any bytes09 w1 (by decide)).mono ?_
  unfold GetPost
  rw [get09']
  rintro e w2 ⟨⟨vs, rfl, hfr⟩, hB⟩
  obtain ⟨ps, cs, rfl⟩ := hfr.shape
  clear hfr
  replace HW := Lib.hid (HW.out.trans (hB.mono HW.out.size)); clear hB
  simp only [obj09]
  go_upto_region 3 with fail
  have hz2 : w2.heap.size < (w2.alloc (.cells #[.string ⟨#[111]⟩, .slice ps 0 cs] 24)).heap.size := by simp
  have HN2 : Hid ((w2.alloc (.cells #[.string ⟨#[111]⟩, .slice ps 0 cs] 24)).heap[w2.heap.size]? = some (.cells #[.string ⟨#[111]⟩, .slice ps 0 cs] 24 (0, 0))) := heap_alloc_new w2 _
  replace HW := Lib.hid (HW.out.alloc HW.out.size (.cells #[.string ⟨#[111]⟩, .slice ps 0 cs] 24))
  simp only [List.length_nil]
  generalize w2.alloc (.cells #[.string ⟨#[111]⟩, .slice ps 0 cs] 24) = w3 at HN2 HW hz2 ⊢
  generalize w2.heap.size = ob at HN2 hz2 ⊢
  have hrow : RowAt 1 StrR (w3.alloc (.cells #[.string bytes09, .string ⟨#[120]⟩] 9)) (.slice (some ⟨w3.heap.size, 0, none⟩) 2 2) [bytes09, ⟨#[120]⟩] :=
    rowAt_two ⟨by simp, by simp [go_sem], by decide⟩ ⟨by simp, by simp [go_sem], by decide⟩ (Nat.le_refl _)
  have HA := Lib.hid (all_any _ _ _ hrow (by decide))
  clear hrow
  go_wp2_with fail
  refine HA.out.mono ?_
  intro e w4 hp
  obtain ⟨rfl, hB⟩ := all09 hp
  have HN4 : Hid (w4.heap[ob]? = some (.cells #[.string ⟨#[111]⟩, .slice ps 0 cs] 24 (0, 0))) := (hB.block ob (by simp; omega)).trans ((Below.heap_alloc _ _ _ hz2).trans HN2.out)
  have HW4 : Hid (Below w.heap.size w w4) := (HW.out.alloc HW.out.size _).trans (hB.mono (by have := HW.out.size; simp; omega))
  clear hp hB HA HW HN2
  have a0 : w4.cell? ⟨ob, 0, none⟩ = some (.string ⟨#[111]⟩) := Lib.cell_of_heap HN4.out 0
  have bl : bytes09.toList = [65, 79, 66, 49, 1, 0, 111, 0, 0] := by rw [ByteArray.toList_eq]; rfl
  go_wp2
  go_ret
  exact ⟨rfl, HW4.out⟩
end Go.Proofs.YtfmmfbijkklceaaDoor
