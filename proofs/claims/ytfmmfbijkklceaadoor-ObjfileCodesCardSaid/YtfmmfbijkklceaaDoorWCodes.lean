/- The walk of aediculelaw09.ObjfileCodes. -/
import Derived.Test.YtfmmfbijkklceaaDoorWAlive09
import Derived.Test.YtfmmfbijkklceaaDoorWRefGet
import Derived.Test.YtfmmfbijkklceaaDoorWRefPut
import Derived.Test.YtfmmfbijkklceaaDoorWRefSameAny
import Derived.Test.YtfmmfbijkklceaaDoorWLarge
import Derived.Test.YtfmmfbijkklceaaDoorPackFit
import Derived.Test.YtfmmfbijkklceaaDoorLawObj
namespace Go.Proofs.YtfmmfbijkklceaaDoor
open Go.RowKit Go.Maps
theorem objSep_fresh {B E : Nat} {w : World} {o : GObj} {vs : Value} (h : ObjSep w ⟨o, vs, B, E⟩) : Fresh B w o vs := by
  obtain ⟨ts, h1, h2, h3, -⟩ := h
  exact ⟨ts, h1, h2, fun t ht => (h3 t ht).1⟩
theorem same_one {x : GObj} {vs vs2 : Value} {w : World} (h1 : ObjIn w x vs) (h2 : ObjIn w x vs2) : Calls Tryd.prog 10 #[.agg #[.string x.name, vs], .agg #[.string x.name, vs2]] w fun e w' => e = .returned (.bool true) ∧ Below w.heap.size w w' :=
  (same_two x x vs vs2 w h1 h2).mono fun _ _ ⟨b, he, hb, hB⟩ => ⟨by rw [he, hb.2 rfl], hB⟩
theorem ref_put_any (o : GObj) (vs : Value) (w : World) (h : ObjIn w o vs) (hm : mayP o = true) (hs : ∀ s ∈ o.syms, s.bytes.size < 4294967296) :
    Calls Tryd.prog 12 #[.agg #[.string o.name, vs]] w fun e w' => e = .returned (.string (bsOf (encObj o))) ∧ Below w.heap.size w w' := refPut_ok o vs w h (objSm_of hm (objNum_of h) hs)
/-- an object and its copy, each in a box -/
structure TwoSt (w0 w : World) (ob qb : Nat) (o : GObj) (v v2 : Value) : Prop where
  a : w.heap[ob]? = some (.cells #[.string o.name, v] 24 (0, 0))
  b : w.heap[qb]? = some (.cells #[.string o.name, v2] 24 (0, 0))
  oi : ObjIn w o v
  pi : ObjIn w o v2
  k : Below w0.heap.size w0 w
theorem TwoSt.keep {w0 w w' : World} {ob qb : Nat} {o : GObj} {v v2 : Value} (h : TwoSt w0 w ob qb o v v2) (k : Below w.heap.size w w') : TwoSt w0 w' ob qb o v v2 :=
  ⟨(k.block ob (Array.getElem?_eq_some_iff.1 h.a).1).trans h.a, (k.block qb (Array.getElem?_eq_some_iff.1 h.b).1).trans h.b, ObjIn.keep k h.oi, ObjIn.keep k h.pi, h.k.trans (k.mono h.k.size)⟩
set_option maxRecDepth 100000 in
set_option maxHeartbeats 2000000 in
theorem codes_any (o : GObj) (vs : Value) (s : ByteArray) (w : World) (h : ObjIn w o vs) (hbd : ObjBd o) (hs : s.size ≤ 140737488355328) :
    Calls Tryd.prog 3 #[.agg #[.string o.name, vs], .string s] w fun e w' => e = .returned (.bool true) ∧ Below w.heap.size w w' := by
  have HO : Hid (ObjIn w o vs) := h
  have HSZ : Hid (ObjsSz [o]) := objsSz_of (obj_row h)
  obtain ⟨⟨p, cap, b0, o0, rfl, -⟩, -⟩ := h
  have hk : Below w.heap.size w (w.alloc (.cells #[.string o.name, .slice p o.syms.length cap] 24)) := alloc_old _ _
  have HL := Lib.hid (large_any _ [o] _ (obj_row2 HO.out))
  have HBX : Hid (∀ w1, Below (w.alloc (.cells #[.string o.name, .slice p o.syms.length cap] 24)).heap.size (w.alloc (.cells #[.string o.name, .slice p o.syms.length cap] 24)) w1 → w1.cell? ⟨w.heap.size, 0, none⟩ = some (.string o.name) ∧ w1.cell? ⟨w.heap.size, 1, none⟩ = some (.slice p o.syms.length cap) ∧ w.heap.size < w1.heap.size ∧ Below w.heap.size w w1) := fun w1 hb =>
    ⟨by rw [hb.cell (by simp)]; simp [go_sem], by rw [hb.cell (by simp)]; simp [go_sem], by have := hb.size; simp at this; omega, hk.trans (hb.mono (by simp))⟩
  have HBX2 : Hid (∀ w1, Below (w.alloc (.cells #[.string o.name, .slice p o.syms.length cap] 24)).heap.size (w.alloc (.cells #[.string o.name, .slice p o.syms.length cap] 24)) w1 → w1.heap[w.heap.size]? = some (.cells #[.string o.name, .slice p o.syms.length cap] 24 (0, 0))) := fun w1 hb => (hb.block _ (by simp)).trans (heap_alloc_new w _)
  have HBD := Lib.hid hbd; clear hbd hk
  by_cases hg : largeB [o] = true
  · rw [hg] at HL
    clear hg
    go_enter Tryd.func3, Tryd.ntmps3
    go_wp2_with fail
    refine HL.out.mono ?_
    rintro e w1 ⟨rfl, hB1⟩
    obtain ⟨-, -, -, hB⟩ := HBX.out w1 ((alloc_old _ _).trans (hB1.mono (by simp)))
    have HB1 := Lib.hid hB; clear hB hB1
    go_wp2_with (go_at_call 7; refine (alive09_any _).mono ?_; rintro e w2 ⟨rfl, hB2⟩)
    go_ret
    exact ⟨rfl, HB1.out.trans (hB2.mono HB1.out.size)⟩
  have hg' : largeB [o] = false := by simpa using hg
  rw [hg'] at HL
  have HG := Lib.hid hg'
  clear hg hg'
  by_cases hz : 32768 < s.size
  · have d : decide ((32768 : Int) < (s.size : Int)) = true := by simp; omega
    have d' : decide (32768 < s.size) = true := by simp; omega
    clear hz
    go_enter Tryd.func3, Tryd.ntmps3
    go_wp2_with fail
    refine HL.out.mono ?_
    rintro e w1 ⟨rfl, hB1⟩
    obtain ⟨-, -, -, hB⟩ := HBX.out w1 ((alloc_old _ _).trans (hB1.mono (by simp)))
    have HB1 := Lib.hid hB; clear hB hB1
    go_wp2_with (go_at_call 7; refine (alive09_any _).mono ?_; rintro e w2 ⟨rfl, hB2⟩)
    go_ret
    exact ⟨rfl, HB1.out.trans (hB2.mono HB1.out.size)⟩
  have d : decide ((32768 : Int) < (s.size : Int)) = false := by simp; omega
  have d' : decide (32768 < s.size) = false := by simp; omega
  clear hz
  go_enter Tryd.func3, Tryd.ntmps3
  go_wp2_with fail
  refine HL.out.mono ?_
  rintro e w1 ⟨rfl, hB1⟩
  obtain ⟨a0, a1, z1, hB⟩ := HBX.out w1 ((alloc_old _ _).trans (hB1.mono (by simp)))
  have HB1 := Lib.hid hB
  replace HO := Lib.hid (ObjIn.keep hB HO.out)
  have HBO := Lib.hid (HBX2.out w1 ((alloc_old _ _).trans (hB1.mono (by simp))))
  clear hB hB1 HL HBX HBX2
  have HCP := Lib.hid (copy_any o _ w1 HO.out HBD.out)
  obtain ⟨on, os⟩ := o
  simp only [] at a0 a1 HCP HBO
  go_wp2_with fail
  refine HCP.out.mono ?_
  intro e w2 hpost
  obtain ⟨v2, rfl, hsep, ⟨p2, c2, rfl⟩, hB⟩ := hpost.sep
  have HW2 : Hid (ObjIn w2 ⟨on, os⟩ (.slice p2 os.length c2)) := ObjSep.objIn HO.out hsep
  have HT : Hid (TwoSt w (w2.alloc (.cells #[.string on, .slice p2 os.length c2] 24)) w.heap.size w2.heap.size ⟨on, os⟩ (.slice p os.length cap) (.slice p2 os.length c2)) := by
    have hx : w2.heap[w.heap.size]? = some (.cells #[.string on, .slice p os.length cap] 24 (0, 0)) := (hB.block _ z1).trans HBO.out
    have hal := alloc_old w2 (.cells #[.string on, .slice p2 os.length c2] 24)
    exact ⟨(hal.block _ (Array.getElem?_eq_some_iff.1 hx).1).trans hx, heap_alloc_new w2 _, ObjIn.keep hal (ObjIn.keep hB HO.out), ObjIn.keep hal HW2.out, (HB1.out.trans (hB.mono HB1.out.size)).trans (hal.mono (by have := hB.size; omega))⟩
  clear hpost hsep hB HCP HW2 HO HB1 HBO a0 a1 z1 HBD
  go_upto_region 4 with fail
  generalize w2.alloc (.cells #[.string on, .slice p2 os.length c2] 24) = w3 at HT ⊢
  generalize w2.heap.size = qb at HT ⊢
  generalize hob : w.heap.size = ob at HT ⊢
  clear w1
  have a0 : w3.cell? ⟨ob, 0, none⟩ = some (.string on) := Lib.cell_of_heap HT.out.a 0
  have a1 : w3.cell? ⟨ob, 1, none⟩ = some (.slice p os.length cap) := Lib.cell_of_heap HT.out.a 1
  have b0 : w3.cell? ⟨qb, 0, none⟩ = some (.string on) := Lib.cell_of_heap HT.out.b 0
  have b1 : w3.cell? ⟨qb, 1, none⟩ = some (.slice p2 os.length c2) := Lib.cell_of_heap HT.out.b 1
  have HFEW : Hid (mayP ⟨on, os⟩ = true → ∀ s ∈ os, s.bytes.size < 4294967296) := fun hm => few_one HG.out HSZ.out (.inl hm)
  have HPU := Lib.hid (objPut_any ⟨on, os⟩ (.slice p2 os.length c2) w3 HT.out.pi HFEW.out)
  simp only [] at HPU
  have HMO := Lib.hid (may_one HG.out HSZ.out)
  clear HG HSZ
  rcases hmc : mayP ⟨on, os⟩ with _ | _
  all_goals
    have HMC := Lib.hid hmc
    simp only [putV, hmc, if_true, if_false, Bool.false_eq_true] at HPU
    clear hmc
    go_wp2_with fail
    refine HPU.out.mono ?_
    rintro e w4 ⟨rfl, hB⟩
    replace HT := Lib.hid (HT.out.keep hB); clear hB HPU a0 a1 b0 b1
    have a0 : w4.cell? ⟨ob, 0, none⟩ = some (.string on) := Lib.cell_of_heap HT.out.a 0
    have a1 : w4.cell? ⟨ob, 1, none⟩ = some (.slice p os.length cap) := Lib.cell_of_heap HT.out.a 1
    have b0 : w4.cell? ⟨qb, 0, none⟩ = some (.string on) := Lib.cell_of_heap HT.out.b 0
    have b1 : w4.cell? ⟨qb, 1, none⟩ = some (.slice p2 os.length c2) := Lib.cell_of_heap HT.out.b 1
    have HSM := Lib.hid (same_one (x := ⟨on, os⟩) (w := w4) HT.out.pi HT.out.oi)
    simp only [] at HSM
    go_wp2_with fail
    refine HSM.out.mono ?_
    rintro e w5 ⟨rfl, hB⟩
    replace HT := Lib.hid (HT.out.keep hB); clear hB HSM a0 a1 b0 b1
    have a0 : w5.cell? ⟨ob, 0, none⟩ = some (.string on) := Lib.cell_of_heap HT.out.a 0
    have a1 : w5.cell? ⟨ob, 1, none⟩ = some (.slice p os.length cap) := Lib.cell_of_heap HT.out.a 1
    have HMY := Lib.hid (refMay_any ⟨on, os⟩ (.slice p os.length cap) w5 HT.out.oi)
    rw [HMO.out, HMC.out] at HMY
    simp only [] at HMY
    go_wp2_with fail
    refine HMY.out.mono ?_
    rintro e w6 ⟨rfl, hB⟩
    replace HT := Lib.hid (HT.out.keep hB); clear hB HMY a0 a1
    have a0 : w6.cell? ⟨ob, 0, none⟩ = some (.string on) := Lib.cell_of_heap HT.out.a 0
    have a1 : w6.cell? ⟨ob, 1, none⟩ = some (.slice p os.length cap) := Lib.cell_of_heap HT.out.a 1
  have HMY := Lib.hid (refMay_any ⟨on, os⟩ (.slice p os.length cap) w6 HT.out.oi)
  rw [HMO.out, HMC.out] at HMY
  simp only [] at HMY
  go_wp2_with fail
  refine HMY.out.mono ?_
  rintro e w7 ⟨rfl, hB⟩
  replace HT := Lib.hid (HT.out.keep hB); clear hB HMY a0 a1
  go_upto_region 9 with fail
  rotate_left
  have HRP := Lib.hid (ref_put_any ⟨on, os⟩ (.slice p os.length cap) w6 HT.out.oi HMC.out (HFEW.out HMC.out))
  simp only [] at HRP
  generalize bsOf (encObj ⟨on, os⟩) = pb at HRP ⊢
  go_wp2_with fail
  refine HRP.out.mono ?_
  rintro e w7 ⟨rfl, hB⟩
  replace HT := Lib.hid (HT.out.keep hB); clear hB HRP a0 a1
  have a0 : w7.cell? ⟨ob, 0, none⟩ = some (.string on) := Lib.cell_of_heap HT.out.a 0
  have a1 : w7.cell? ⟨ob, 1, none⟩ = some (.slice p os.length cap) := Lib.cell_of_heap HT.out.a 1
  have HMY := Lib.hid (refMay_any ⟨on, os⟩ (.slice p os.length cap) w7 HT.out.oi)
  rw [HMO.out, HMC.out] at HMY
  simp only [] at HMY
  go_wp2_with fail
  refine HMY.out.mono ?_
  clear w6
  rintro e w6 ⟨rfl, hB⟩
  replace HT := Lib.hid (HT.out.keep hB); clear hB HMY a0 a1
  clear w7
  obtain ⟨w7, rfl⟩ : ∃ w7 : World, w7 = w6 := ⟨_, rfl⟩
  go_upto_region 9 with fail
  all_goals
    clear HFEW HMO HMC
    replace HT := Lib.hid HT.out.k
    have HG1 := Lib.hid ((get_any s w7 hs).mono fun _ _ h => GetPost.got h)
    generalize hgv : getV s = gv at HG1
    have HGV := Lib.hid hgv; clear hgv
    obtain ⟨⟨xn, xs⟩, c⟩ := gv
    simp only [] at HG1
    go_wp2_with fail
    refine HG1.out.mono ?_
    rintro e w8 ⟨v8, rfl, ⟨p8, c8, rfl⟩, hO8, hB⟩
    replace HT := Lib.hid (HT.out.trans (hB.mono HT.out.size)); clear hB HG1
    have HO8 := Lib.hid hO8; clear hO8
    go_upto_region 10 with fail
    have HN8 : Hid ((w8.alloc (.cells #[.string xn, .slice p8 xs.length c8] 24)).heap[w8.heap.size]? = some (.cells #[.string xn, .slice p8 xs.length c8] 24 (0, 0))) := heap_alloc_new w8 _
    replace HO8 := Lib.hid (ObjIn.keep (alloc_old w8 (.cells #[.string xn, .slice p8 xs.length c8] 24)) HO8.out)
    replace HT := Lib.hid (HT.out.alloc HT.out.size (.cells #[.string xn, .slice p8 xs.length c8] 24))
    generalize w8.alloc (.cells #[.string xn, .slice p8 xs.length c8] 24) = w9 at HN8 HO8 HT ⊢
    generalize w8.heap.size = xb at HN8 ⊢
    have HG2 := Lib.hid ((refGet_any s w9 hs).mono fun _ _ h => GetPost.got h)
    rw [HGV.out] at HG2
    simp only [] at HG2
    go_wp2_with fail
    refine HG2.out.mono ?_
    rintro e wA ⟨vA, rfl, ⟨pA, cA, rfl⟩, hOA, hB⟩
    replace HT := Lib.hid (HT.out.trans (hB.mono HT.out.size))
    replace HN8 := Lib.hid ((hB.block xb (Array.getElem?_eq_some_iff.1 HN8.out).1).trans HN8.out)
    replace HO8 := Lib.hid (ObjIn.keep hB HO8.out)
    clear hB HG2
    have HOA := Lib.hid hOA; clear hOA
    go_upto_region 11 with fail
    have HNA : Hid ((wA.alloc (.cells #[.string xn, .slice pA xs.length cA] 24)).heap[wA.heap.size]? = some (.cells #[.string xn, .slice pA xs.length cA] 24 (0, 0))) := heap_alloc_new wA _
    have hal := alloc_old wA (.cells #[.string xn, .slice pA xs.length cA] 24)
    replace HOA := Lib.hid (ObjIn.keep hal HOA.out)
    replace HO8 := Lib.hid (ObjIn.keep hal HO8.out)
    replace HN8 := Lib.hid ((hal.block xb (Array.getElem?_eq_some_iff.1 HN8.out).1).trans HN8.out)
    replace HT := Lib.hid (HT.out.trans (hal.mono HT.out.size))
    clear hal
    generalize wA.alloc (.cells #[.string xn, .slice pA xs.length cA] 24) = wB at HNA HOA HN8 HO8 HT ⊢
    generalize wA.heap.size = yb at HNA ⊢
    have a0 : wB.cell? ⟨xb, 0, none⟩ = some (.string xn) := Lib.cell_of_heap HN8.out 0
    have a1 : wB.cell? ⟨xb, 1, none⟩ = some (.slice p8 xs.length c8) := Lib.cell_of_heap HN8.out 1
    have b0 : wB.cell? ⟨yb, 0, none⟩ = some (.string xn) := Lib.cell_of_heap HNA.out 0
    have b1 : wB.cell? ⟨yb, 1, none⟩ = some (.slice pA xs.length cA) := Lib.cell_of_heap HNA.out 1
    have HSM := Lib.hid (same_one (x := ⟨xn, xs⟩) (w := wB) HO8.out HOA.out)
    simp only [] at HSM
    go_wp2_with fail
    refine HSM.out.mono ?_
    rintro e wC ⟨rfl, hB⟩
    replace HT := Lib.hid (HT.out.trans (hB.mono HT.out.size)); clear hB HSM a0 a1 b0 b1
    go_wp2_with (go_at_call 7; refine (alive09_any _).mono ?_; rintro e wD ⟨rfl, hB⟩)
    go_ret
    exact ⟨rfl, HT.out.trans (hB.mono HT.out.size)⟩
end Go.Proofs.YtfmmfbijkklceaaDoor
