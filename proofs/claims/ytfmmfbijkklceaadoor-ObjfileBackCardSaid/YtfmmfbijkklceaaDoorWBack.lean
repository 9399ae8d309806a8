/- The walk of aediculelaw09.ObjfileBack. -/
import Derived.Test.YtfmmfbijkklceaaDoorWAlive09
import Derived.Test.YtfmmfbijkklceaaDoorWRefSameAny
import Derived.Test.YtfmmfbijkklceaaDoorWLarge
import Derived.Test.YtfmmfbijkklceaaDoorLawObj
namespace Go.Proofs.YtfmmfbijkklceaaDoor
open Go.RowKit Go.Maps
/-- two objects, each in a box -/
structure BackSt (w0 w : World) (ob qb : Nat) (o p : GObj) (v u : Value) : Prop where
  a : w.heap[ob]? = some (.cells #[.string o.name, v] 24 (0, 0))
  b : w.heap[qb]? = some (.cells #[.string p.name, u] 24 (0, 0))
  oi : ObjIn w o v
  pi : ObjIn w p u
  k : Below w0.heap.size w0 w
theorem BackSt.keep {w0 w w' : World} {ob qb : Nat} {o p : GObj} {v u : Value} (h : BackSt w0 w ob qb o p v u) (k : Below w.heap.size w w') : BackSt w0 w' ob qb o p v u :=
  ⟨(k.block ob (Array.getElem?_eq_some_iff.1 h.a).1).trans h.a, (k.block qb (Array.getElem?_eq_some_iff.1 h.b).1).trans h.b, ObjIn.keep k h.oi, ObjIn.keep k h.pi, h.k.trans (k.mono h.k.size)⟩
theorem large_one {w : World} {o : GObj} {v : Value} (h : ObjIn w o v) (n : Nat) (hn : n = w.heap.size) :
    Calls Tryd.prog 6 #[.slice (some ⟨n, 0, none⟩) 1 1] (w.alloc (.cells #[.string o.name, v] 24)) fun e w' => e = .returned (.bool (largeB [o])) ∧ Below w.heap.size w w' := by
  subst hn
  exact (large_any _ [o] _ (obj_row h)).mono fun e w' ⟨he, hb⟩ => ⟨he, (alloc_old w _).trans (hb.mono (by simp))⟩
set_option maxRecDepth 100000 in
set_option maxHeartbeats 2000000 in
theorem back_guard (o p : GObj) (v u : Value) (s : ByteArray) (w : World) (h : ObjIn w o v) (hp : ObjIn w p u) (hg : largeB [o] = true ∨ largeB [p] = true ∨ 32768 < s.size) :
    Calls Tryd.prog 5 #[.agg #[.string o.name, v], .agg #[.string p.name, u], .string s] w fun e w' => e = .returned (.bool true) ∧ Below w.heap.size w w' := by
  have hST : BackSt w ((w.alloc (.cells #[.string o.name, v] 24)).alloc (.cells #[.string p.name, u] 24)) w.heap.size (w.heap.size + 1) o p v u := by
    have h1 := alloc_old w (.cells #[.string o.name, v] 24)
    have h2 := alloc_old (w.alloc (.cells #[.string o.name, v] 24)) (.cells #[.string p.name, u] 24)
    exact ⟨(h2.block _ (by simp)).trans (heap_alloc_new w _), by simpa using heap_alloc_new (w.alloc (.cells #[.string o.name, v] 24)) (.cells #[.string p.name, u] 24), ObjIn.keep h2 (ObjIn.keep h1 h), ObjIn.keep h2 (ObjIn.keep h1 hp), h1.trans (h2.mono (by simp))⟩
  obtain ⟨p1, c1, rfl⟩ : ∃ p1 c1, v = .slice p1 o.syms.length c1 := by obtain ⟨⟨p1, c1, _, _, rfl, -⟩, -⟩ := h; exact ⟨_, _, rfl⟩
  obtain ⟨p2, c2, rfl⟩ : ∃ p2 c2, u = .slice p2 p.syms.length c2 := by obtain ⟨⟨p1, c1, _, _, rfl, -⟩, -⟩ := hp; exact ⟨_, _, rfl⟩
  have HST := Lib.hid hST; clear hST h hp
  have HL1 := Lib.hid (large_one HST.out.oi (w.heap.size + 1 + 1) (by simp))
  obtain ⟨on, os⟩ := o
  obtain ⟨pn, ps⟩ := p
  simp only [] at HST HL1 ⊢
  by_cases g1 : largeB [⟨on, os⟩] = true
  · rw [g1] at HL1
    clear g1 hg
    go_enter Tryd.func5, Tryd.ntmps5
    go_wp2_with fail
    refine HL1.out.mono ?_
    rintro e w1 ⟨rfl, hB⟩
    have HW := Lib.hid (HST.out.keep hB).k
    clear hB HL1 HST
    go_wp2_with (go_at_call 7; refine (alive09_any _).mono ?_; rintro e w2 ⟨rfl, hB2⟩)
    go_ret
    exact ⟨rfl, HW.out.trans (hB2.mono HW.out.size)⟩
  have g1' : largeB [⟨on, os⟩] = false := by simpa using g1
  rw [g1'] at HL1
  have hg2 := hg.resolve_left g1
  clear hg g1 g1'
  by_cases g2 : largeB [⟨pn, ps⟩] = true
  · have HG2 := Lib.hid g2
    clear g2 hg2
    go_enter Tryd.func5, Tryd.ntmps5
    go_wp2_with fail
    refine HL1.out.mono ?_
    rintro e w1 ⟨rfl, hB⟩
    have HS1 := Lib.hid (HST.out.keep hB)
    clear hB HL1 HST
    have b0 : w1.cell? ⟨w.heap.size + 1, 0, none⟩ = some (.string pn) := Lib.cell_of_heap HS1.out.b 0
    have b1 : w1.cell? ⟨w.heap.size + 1, 1, none⟩ = some (.slice p2 ps.length c2) := Lib.cell_of_heap HS1.out.b 1
    have HL2 := Lib.hid (large_one HS1.out.pi w1.heap.size rfl)
    rw [HG2.out] at HL2
    simp only [] at HL2
    go_wp2_with fail
    refine HL2.out.mono ?_
    rintro e w2 ⟨rfl, hB⟩
    have HW := Lib.hid (HS1.out.keep hB).k
    clear hB HL2 HS1 b0 b1
    go_wp2_with (go_at_call 7; refine (alive09_any _).mono ?_; rintro e w2 ⟨rfl, hB2⟩)
    go_ret
    exact ⟨rfl, HW.out.trans (hB2.mono HW.out.size)⟩
  have g2' : largeB [⟨pn, ps⟩] = false := by simpa using g2
  have hz := hg2.resolve_left g2
  have HG2 := Lib.hid g2'
  have d : decide ((32768 : Int) < (s.size : Int)) = true := by simp; omega
  have d' : decide (32768 < s.size) = true := by simp; omega
  clear g2 hg2 g2' hz
  go_enter Tryd.func5, Tryd.ntmps5
  go_wp2_with fail
  refine HL1.out.mono ?_
  rintro e w1 ⟨rfl, hB⟩
  have HS1 := Lib.hid (HST.out.keep hB)
  clear hB HL1 HST
  have b0 : w1.cell? ⟨w.heap.size + 1, 0, none⟩ = some (.string pn) := Lib.cell_of_heap HS1.out.b 0
  have b1 : w1.cell? ⟨w.heap.size + 1, 1, none⟩ = some (.slice p2 ps.length c2) := Lib.cell_of_heap HS1.out.b 1
  have HL2 := Lib.hid (large_one HS1.out.pi w1.heap.size rfl)
  rw [HG2.out] at HL2
  simp only [] at HL2
  go_wp2_with fail
  refine HL2.out.mono ?_
  rintro e w2 ⟨rfl, hB⟩
  have HW := Lib.hid (HS1.out.keep hB).k
  clear hB HL2 HS1 b0 b1
  go_wp2_with (go_at_call 7; refine (alive09_any _).mono ?_; rintro e w2 ⟨rfl, hB2⟩)
  go_ret
  exact ⟨rfl, HW.out.trans (hB2.mono HW.out.size)⟩
theorem getV_put {o : GObj} {w : World} {v : Value} (h : ObjIn w o v) (hm : mayP o = true) (hs : ∀ s ∈ o.syms, s.bytes.size < 4294967296) : getV (bsOf (encObj o)) = (o, 0) := by
  have hf := objFit_of (objSm_of hm (objNum_of h) hs)
  unfold getV
  rw [bsOf_list, getB_enc hf hm]
theorem enc_inj {o p : GObj} {w : World} {v u : Value} (h : ObjIn w o v) (hm : mayP o = true) (hs : ∀ s ∈ o.syms, s.bytes.size < 4294967296) (h' : ObjIn w p u) (hm' : mayP p = true) (hs' : ∀ s ∈ p.syms, s.bytes.size < 4294967296) (hne : ¬ o = p) : ¬ bsOf (encObj o) = bsOf (encObj p) := by
  intro e
  have e2 : encObj o = encObj p := by have := congrArg (fun b : ByteArray => b.data.toList) e; simpa [bsOf_list] using this
  exact hne (encObj_inj (objFit_of (objSm_of hm (objNum_of h) hs)) (objFit_of (objSm_of hm' (objNum_of h') hs')) e2)
theorem enc_size {o : GObj} {w : World} {v : Value} (h : ObjIn w o v) (hm : mayP o = true) (hs : ∀ s ∈ o.syms, s.bytes.size < 4294967296) : (bsOf (encObj o)).size ≤ 140737488355328 := by
  obtain ⟨k1, k2, k3⟩ := objSm_of hm (objNum_of h) hs
  have h1 := flat_le (f := encSym) (c := 60000) (l := o.syms) fun x hx => encSym_len (k3 x hx)
  rw [bsOf_size]
  simp only [encObj, List.length_append, leB_length, encText_len, magicB, List.length_cons, List.length_nil]
  omega
set_option maxRecDepth 100000 in
set_option maxHeartbeats 4000000 in
theorem back_main (o p : GObj) (v u : Value) (s : ByteArray) (w : World) (h : ObjIn w o v) (hbo : ObjBd o) (hp : ObjIn w p u) (hbp : ObjBd p) (hs : s.size ≤ 140737488355328) (g1 : largeB [o] = false) (g2 : largeB [p] = false) (g3 : ¬ 32768 < s.size) :
    Calls Tryd.prog 5 #[.agg #[.string o.name, v], .agg #[.string p.name, u], .string s] w fun e w' => e = .returned (.bool true) ∧ Below w.heap.size w w' := by
  have hST : BackSt w ((w.alloc (.cells #[.string o.name, v] 24)).alloc (.cells #[.string p.name, u] 24)) w.heap.size (w.heap.size + 1) o p v u := by
    have h1 := alloc_old w (.cells #[.string o.name, v] 24)
    have h2 := alloc_old (w.alloc (.cells #[.string o.name, v] 24)) (.cells #[.string p.name, u] 24)
    exact ⟨(h2.block _ (by simp)).trans (heap_alloc_new w _), by simpa using heap_alloc_new (w.alloc (.cells #[.string o.name, v] 24)) (.cells #[.string p.name, u] 24), ObjIn.keep h2 (ObjIn.keep h1 h), ObjIn.keep h2 (ObjIn.keep h1 hp), h1.trans (h2.mono (by simp))⟩
  obtain ⟨p1, c1, rfl⟩ : ∃ p1 c1, v = .slice p1 o.syms.length c1 := by obtain ⟨⟨p1, c1, _, _, rfl, -⟩, -⟩ := h; exact ⟨_, _, rfl⟩
  obtain ⟨p2, c2, rfl⟩ : ∃ p2 c2, u = .slice p2 p.syms.length c2 := by obtain ⟨⟨p1, c1, _, _, rfl, -⟩, -⟩ := hp; exact ⟨_, _, rfl⟩
  have HFO : Hid (mayP o = true → ∀ s ∈ o.syms, s.bytes.size < 4294967296) := fun hm => few_one g1 (objsSz_of (obj_row h)) (.inl hm)
  have HFP : Hid (mayP p = true → ∀ s ∈ p.syms, s.bytes.size < 4294967296) := fun hm => few_one g2 (objsSz_of (obj_row hp)) (.inl hm)
  have HST := Lib.hid hST; clear hST h hp
  have HBO := Lib.hid hbo; have HBP := Lib.hid hbp
  have HL1 := Lib.hid (large_one HST.out.oi (w.heap.size + 1 + 1) (by simp))
  rw [g1] at HL1
  have HG2 := Lib.hid g2
  have d : decide ((32768 : Int) < (s.size : Int)) = false := by simp; omega
  have d' : decide (32768 < s.size) = false := by simp; omega
  obtain ⟨on, os⟩ := o
  obtain ⟨pn, ps⟩ := p
  simp only [] at HST HL1 HG2 HFO HFP ⊢
  clear g1 g2 g3 hbo hbp
  go_enter Tryd.func5, Tryd.ntmps5
  go_wp2_with fail
  refine HL1.out.mono ?_
  rintro e w1 ⟨rfl, hB⟩
  have HS := Lib.hid (HST.out.keep hB)
  clear hB HL1 HST
  generalize w.heap.size + 1 = qb at HS ⊢
  generalize hob : w.heap.size = ob at HS ⊢
  have a0 : w1.cell? ⟨ob, 0, none⟩ = some (.string on) := Lib.cell_of_heap HS.out.a 0
  have a1 : w1.cell? ⟨ob, 1, none⟩ = some (.slice p1 os.length c1) := Lib.cell_of_heap HS.out.a 1
  have b0 : w1.cell? ⟨qb, 0, none⟩ = some (.string pn) := Lib.cell_of_heap HS.out.b 0
  have b1 : w1.cell? ⟨qb, 1, none⟩ = some (.slice p2 ps.length c2) := Lib.cell_of_heap HS.out.b 1
  have HL2 := Lib.hid (large_one HS.out.pi w1.heap.size rfl)
  rw [HG2.out] at HL2
  simp only [] at HL2
  go_wp2_with fail
  refine HL2.out.mono ?_
  rintro e w2 ⟨rfl, hB⟩
  replace HS := Lib.hid (HS.out.keep hB)
  clear hB HL2 HG2 a0 a1 b0 b1
  have a0 : w2.cell? ⟨ob, 0, none⟩ = some (.string on) := Lib.cell_of_heap HS.out.a 0
  have a1 : w2.cell? ⟨ob, 1, none⟩ = some (.slice p1 os.length c1) := Lib.cell_of_heap HS.out.a 1
  have b0 : w2.cell? ⟨qb, 0, none⟩ = some (.string pn) := Lib.cell_of_heap HS.out.b 0
  have b1 : w2.cell? ⟨qb, 1, none⟩ = some (.slice p2 ps.length c2) := Lib.cell_of_heap HS.out.b 1
  have HCP := Lib.hid (copy_any ⟨on, os⟩ _ w2 HS.out.oi HBO.out)
  simp only [] at HCP
  go_wp2_with fail
  refine HCP.out.mono ?_
  intro e w3 hpost
  obtain ⟨v3, rfl, hsep, ⟨p3, c3, rfl⟩, hB⟩ := hpost.sep
  have HC3 : Hid (ObjIn w3 ⟨on, os⟩ (.slice p3 os.length c3)) := ObjSep.objIn HS.out.oi hsep
  replace HS := Lib.hid (HS.out.keep hB)
  clear hpost hsep hB HCP HBO a0 a1 b0 b1
  simp only []
  have HPU := Lib.hid (objPut_any ⟨on, os⟩ (.slice p3 os.length c3) w3 HC3.out HFO.out)
  simp only [] at HPU
  generalize hpo : putV ⟨on, os⟩ = po at HPU
  have HPO := Lib.hid hpo; clear hpo
  obtain ⟨sa, ea⟩ := po
  simp only [] at HPU
  go_wp2_with fail
  refine HPU.out.mono ?_
  rintro e w4 ⟨rfl, hB⟩
  replace HS := Lib.hid (HS.out.keep hB)
  clear hB HPU HC3
  have a0 : w4.cell? ⟨ob, 0, none⟩ = some (.string on) := Lib.cell_of_heap HS.out.a 0
  have a1 : w4.cell? ⟨ob, 1, none⟩ = some (.slice p1 os.length c1) := Lib.cell_of_heap HS.out.a 1
  have b0 : w4.cell? ⟨qb, 0, none⟩ = some (.string pn) := Lib.cell_of_heap HS.out.b 0
  have b1 : w4.cell? ⟨qb, 1, none⟩ = some (.slice p2 ps.length c2) := Lib.cell_of_heap HS.out.b 1
  have HCP := Lib.hid (copy_any ⟨pn, ps⟩ _ w4 HS.out.pi HBP.out)
  simp only [] at HCP
  go_wp2_with fail
  refine HCP.out.mono ?_
  intro e w5 hpost
  obtain ⟨v5, rfl, hsep, ⟨p5, c5, rfl⟩, hB⟩ := hpost.sep
  have HC5 : Hid (ObjIn w5 ⟨pn, ps⟩ (.slice p5 ps.length c5)) := ObjSep.objIn HS.out.pi hsep
  replace HS := Lib.hid (HS.out.keep hB)
  clear hpost hsep hB HCP HBP a0 a1 b0 b1
  simp only []
  have HPU := Lib.hid (objPut_any ⟨pn, ps⟩ (.slice p5 ps.length c5) w5 HC5.out HFP.out)
  simp only [] at HPU
  generalize hpp : putV ⟨pn, ps⟩ = pp at HPU
  have HPP := Lib.hid hpp; clear hpp
  obtain ⟨sb, eb⟩ := pp
  simp only [] at HPU
  go_wp2_with fail
  refine HPU.out.mono ?_
  rintro e w6 ⟨rfl, hB⟩
  replace HS := Lib.hid (HS.out.keep hB)
  clear hB HPU HC5 d d'
  rcases hmo : mayP ⟨on, os⟩ with _ | _
  · have hv : (sa, ea) = ((⟨#[]⟩ : ByteArray), (2 : Int)) := by rw [← HPO.out]; simp [putV, hmo]
    obtain ⟨rfl, rfl⟩ := Prod.mk.inj hv
    clear hv hmo HPO HPP HFO HFP
    go_upto_region 11 with fail
    have HW := Lib.hid HS.out.k
    clear HS
    have HG := Lib.hid (get_any s w6 hs)
    unfold GetPost at HG
    cases hgs : getB s.data.toList with
    | none =>
      rw [hgs] at HG
      clear hgs
      simp only [] at HG
      go_wp2_with fail
      refine HG.out.mono ?_
      rintro e wA ⟨rfl, hB⟩
      replace HW := Lib.hid (HW.out.trans (hB.mono HW.out.size))
      clear hB HG
      go_upto_region 12 with fail
      have HN : Hid ((wA.alloc (.cells #[.string ⟨#[]⟩, .slice none 0 0] 24)).heap[wA.heap.size]? = some (.cells #[.string ⟨#[]⟩, .slice none 0 0] 24 (0, 0))) := heap_alloc_new wA _
      replace HW := Lib.hid (HW.out.alloc HW.out.size (.cells #[.string ⟨#[]⟩, .slice none 0 0] 24))
      generalize wA.alloc (.cells #[.string ⟨#[]⟩, .slice none 0 0] 24) = wB at HN HW ⊢
      generalize wA.heap.size = xb at HN ⊢
      have x0 : wB.cell? ⟨xb, 0, none⟩ = some (.string ⟨#[]⟩) := Lib.cell_of_heap HN.out 0
      have x1 : wB.cell? ⟨xb, 1, none⟩ = some (.slice none 0 0) := Lib.cell_of_heap HN.out 1
      go_wp2_with (go_at_call 7; refine (alive09_any _).mono ?_; rintro e wC ⟨rfl, hB⟩)
      go_ret
      exact ⟨rfl, HW.out.trans (hB.mono HW.out.size)⟩
    | some x =>
      rw [hgs] at HG
      have HX := Lib.hid (getB_some hgs)
      clear hgs
      simp only [] at HG
      go_wp2_with fail
      refine HG.out.mono ?_
      rintro e wA ⟨⟨vx, rfl, hfr⟩, hB⟩
      replace HW := Lib.hid (HW.out.trans (hB.mono HW.out.size))
      obtain ⟨px, cx, rfl⟩ := hfr.shape
      have HO := Lib.hid (hfr.objIn HX.out.2.1)
      clear hB HG hfr
      have HPV : Hid (putV x = (s, 0)) := by rw [Hid, putV, if_pos HX.out.2.2, HX.out.1]; rfl
      have HFW : Hid (mayP x = true → ∀ s ∈ x.syms, s.bytes.size < 4294967296) := fun _ s hs => by have := (HX.out.2.1.2.2 s hs).2.2.2.2.1; omega
      clear HX
      obtain ⟨xn, xs⟩ := x
      simp only [] at HO HFW ⊢
      go_upto_region 12 with fail
      have HN : Hid ((wA.alloc (.cells #[.string xn, .slice px xs.length cx] 24)).heap[wA.heap.size]? = some (.cells #[.string xn, .slice px xs.length cx] 24 (0, 0))) := heap_alloc_new wA _
      replace HO := Lib.hid (ObjIn.keep (alloc_old wA (.cells #[.string xn, .slice px xs.length cx] 24)) HO.out)
      replace HW := Lib.hid (HW.out.alloc HW.out.size (.cells #[.string xn, .slice px xs.length cx] 24))
      generalize wA.alloc (.cells #[.string xn, .slice px xs.length cx] 24) = wB at HN HW HO ⊢
      generalize wA.heap.size = xb at HN ⊢
      have x0 : wB.cell? ⟨xb, 0, none⟩ = some (.string xn) := Lib.cell_of_heap HN.out 0
      have x1 : wB.cell? ⟨xb, 1, none⟩ = some (.slice px xs.length cx) := Lib.cell_of_heap HN.out 1
      have HPU := Lib.hid (objPut_any ⟨xn, xs⟩ (.slice px xs.length cx) wB HO.out HFW.out)
      rw [HPV.out] at HPU
      simp only [] at HPU
      go_wp2_with fail
      refine HPU.out.mono ?_
      rintro e wC ⟨rfl, hB⟩
      replace HW := Lib.hid (HW.out.trans (hB.mono HW.out.size))
      clear hB HPU x0 x1 HO HN
      go_wp2_with (go_at_call 7; refine (alive09_any _).mono ?_; rintro e wD ⟨rfl, hB⟩)
      go_ret
      exact ⟨rfl, HW.out.trans (hB.mono HW.out.size)⟩
  · have hv : (sa, ea) = (bsOf (encObj ⟨on, os⟩), (0 : Int)) := by rw [← HPO.out]; simp [putV, hmo]
    obtain ⟨rfl, rfl⟩ := Prod.mk.inj hv
    have HGV := Lib.hid (getV_put HS.out.oi hmo (HFO.out hmo))
    have HGA := Lib.hid ((get_any _ w6 (enc_size HS.out.oi hmo (HFO.out hmo))).mono fun _ _ h => GetPost.got h)
    rw [HGV.out] at HGA
    simp only [] at HGA
    have HMO := Lib.hid hmo
    have HEI : Hid (mayP ⟨pn, ps⟩ = true → ¬ (⟨on, os⟩ : GObj) = ⟨pn, ps⟩ → ¬ bsOf (encObj ⟨on, os⟩) = bsOf (encObj ⟨pn, ps⟩)) := fun hm' hne => enc_inj HS.out.oi hmo (HFO.out hmo) HS.out.pi hm' (HFP.out hm') hne
    clear hv hmo HPO HGV HFO HFP HMO
    have HSA : Hid (∀ x : GObj, x = ⟨on, os⟩ → bsOf (encObj x) = bsOf (encObj ⟨on, os⟩)) := fun x h => by rw [h]
    generalize bsOf (encObj ⟨on, os⟩) = sa at HGA HEI HSA ⊢
    go_wp2_with fail
    refine HGA.out.mono ?_
    rintro e w7 ⟨v7, rfl, ⟨p7, c7, rfl⟩, hO7, hB⟩
    replace HS := Lib.hid (HS.out.keep hB)
    have HO7 := Lib.hid hO7
    clear hB hO7 HGA
    simp only [] at HO7 ⊢
    go_upto_region 7 with fail
    have HN7 : Hid ((w7.alloc (.cells #[.string on, .slice p7 os.length c7] 24)).heap[w7.heap.size]? = some (.cells #[.string on, .slice p7 os.length c7] 24 (0, 0))) := heap_alloc_new w7 _
    have hal := alloc_old w7 (.cells #[.string on, .slice p7 os.length c7] 24)
    replace HO7 := Lib.hid (ObjIn.keep hal HO7.out)
    replace HS := Lib.hid (HS.out.keep hal)
    clear hal
    generalize w7.alloc (.cells #[.string on, .slice p7 os.length c7] 24) = w8 at HN7 HO7 HS ⊢
    generalize w7.heap.size = xb at HN7 ⊢
    have a0 : w8.cell? ⟨ob, 0, none⟩ = some (.string on) := Lib.cell_of_heap HS.out.a 0
    have a1 : w8.cell? ⟨ob, 1, none⟩ = some (.slice p1 os.length c1) := Lib.cell_of_heap HS.out.a 1
    have b0 : w8.cell? ⟨qb, 0, none⟩ = some (.string pn) := Lib.cell_of_heap HS.out.b 0
    have b1 : w8.cell? ⟨qb, 1, none⟩ = some (.slice p2 ps.length c2) := Lib.cell_of_heap HS.out.b 1
    have x0 : w8.cell? ⟨xb, 0, none⟩ = some (.string on) := Lib.cell_of_heap HN7.out 0
    have x1 : w8.cell? ⟨xb, 1, none⟩ = some (.slice p7 os.length c7) := Lib.cell_of_heap HN7.out 1
    have HSM := Lib.hid (same_two _ _ _ _ w8 HO7.out HS.out.oi)
    unfold SamePost at HSM
    simp only [] at HSM
    go_wp2_with fail
    refine HSM.out.mono ?_
    rintro e w9 ⟨bb, rfl, hbb, hB⟩
    have hbt : bb = true := by simpa using hbb
    subst hbt
    replace HS := Lib.hid (HS.out.keep hB)
    clear hbb hB HSM a0 a1 b0 b1 x0 x1 HO7 HN7
    rcases hmp : mayP ⟨pn, ps⟩ with _ | _
    · have hv : (sb, eb) = ((⟨#[]⟩ : ByteArray), (2 : Int)) := by rw [← HPP.out]; simp [putV, hmp]
      obtain ⟨rfl, rfl⟩ := Prod.mk.inj hv
      clear hv hmp HPP HEI HSA
      go_upto_region 11 with fail
      have HW := Lib.hid HS.out.k
      clear HS
      have HG := Lib.hid (get_any s w9 hs)
      unfold GetPost at HG
      cases hgs : getB s.data.toList with
      | none =>
        rw [hgs] at HG
        clear hgs
        simp only [] at HG
        go_wp2_with fail
        refine HG.out.mono ?_
        rintro e wA ⟨rfl, hB⟩
        replace HW := Lib.hid (HW.out.trans (hB.mono HW.out.size))
        clear hB HG
        go_upto_region 12 with fail
        have HN : Hid ((wA.alloc (.cells #[.string ⟨#[]⟩, .slice none 0 0] 24)).heap[wA.heap.size]? = some (.cells #[.string ⟨#[]⟩, .slice none 0 0] 24 (0, 0))) := heap_alloc_new wA _
        replace HW := Lib.hid (HW.out.alloc HW.out.size (.cells #[.string ⟨#[]⟩, .slice none 0 0] 24))
        generalize wA.alloc (.cells #[.string ⟨#[]⟩, .slice none 0 0] 24) = wB at HN HW ⊢
        generalize wA.heap.size = xb at HN ⊢
        have x0 : wB.cell? ⟨xb, 0, none⟩ = some (.string ⟨#[]⟩) := Lib.cell_of_heap HN.out 0
        have x1 : wB.cell? ⟨xb, 1, none⟩ = some (.slice none 0 0) := Lib.cell_of_heap HN.out 1
        go_wp2_with (go_at_call 7; refine (alive09_any _).mono ?_; rintro e wC ⟨rfl, hB⟩)
        go_ret
        exact ⟨rfl, HW.out.trans (hB.mono HW.out.size)⟩
      | some x =>
        rw [hgs] at HG
        have HX := Lib.hid (getB_some hgs)
        clear hgs
        simp only [] at HG
        go_wp2_with fail
        refine HG.out.mono ?_
        rintro e wA ⟨⟨vx, rfl, hfr⟩, hB⟩
        replace HW := Lib.hid (HW.out.trans (hB.mono HW.out.size))
        obtain ⟨px, cx, rfl⟩ := hfr.shape
        have HO := Lib.hid (hfr.objIn HX.out.2.1)
        clear hB HG hfr
        have HPV : Hid (putV x = (s, 0)) := by rw [Hid, putV, if_pos HX.out.2.2, HX.out.1]; rfl
        have HFW : Hid (mayP x = true → ∀ s ∈ x.syms, s.bytes.size < 4294967296) := fun _ s hs => by have := (HX.out.2.1.2.2 s hs).2.2.2.2.1; omega
        clear HX
        obtain ⟨xn, xs⟩ := x
        simp only [] at HO HFW ⊢
        go_upto_region 12 with fail
        have HN : Hid ((wA.alloc (.cells #[.string xn, .slice px xs.length cx] 24)).heap[wA.heap.size]? = some (.cells #[.string xn, .slice px xs.length cx] 24 (0, 0))) := heap_alloc_new wA _
        replace HO := Lib.hid (ObjIn.keep (alloc_old wA (.cells #[.string xn, .slice px xs.length cx] 24)) HO.out)
        replace HW := Lib.hid (HW.out.alloc HW.out.size (.cells #[.string xn, .slice px xs.length cx] 24))
        generalize wA.alloc (.cells #[.string xn, .slice px xs.length cx] 24) = wB at HN HW HO ⊢
        generalize wA.heap.size = xb at HN ⊢
        have x0 : wB.cell? ⟨xb, 0, none⟩ = some (.string xn) := Lib.cell_of_heap HN.out 0
        have x1 : wB.cell? ⟨xb, 1, none⟩ = some (.slice px xs.length cx) := Lib.cell_of_heap HN.out 1
        have HPU := Lib.hid (objPut_any ⟨xn, xs⟩ (.slice px xs.length cx) wB HO.out HFW.out)
        rw [HPV.out] at HPU
        simp only [] at HPU
        go_wp2_with fail
        refine HPU.out.mono ?_
        rintro e wC ⟨rfl, hB⟩
        replace HW := Lib.hid (HW.out.trans (hB.mono HW.out.size))
        clear hB HPU x0 x1 HO HN
        go_wp2_with (go_at_call 7; refine (alive09_any _).mono ?_; rintro e wD ⟨rfl, hB⟩)
        go_ret
        exact ⟨rfl, HW.out.trans (hB.mono HW.out.size)⟩
    · have hv : (sb, eb) = (bsOf (encObj ⟨pn, ps⟩), (0 : Int)) := by rw [← HPP.out]; simp [putV, hmp]
      obtain ⟨rfl, rfl⟩ := Prod.mk.inj hv
      have HNE := Lib.hid (HEI.out hmp)
      have HEQ := Lib.hid (HSA.out ⟨pn, ps⟩)
      clear hv hmp HPP HEI HSA
      generalize bsOf (encObj ⟨pn, ps⟩) = sb at HNE HEQ ⊢
      have a0 : w9.cell? ⟨ob, 0, none⟩ = some (.string on) := Lib.cell_of_heap HS.out.a 0
      have a1 : w9.cell? ⟨ob, 1, none⟩ = some (.slice p1 os.length c1) := Lib.cell_of_heap HS.out.a 1
      have b0 : w9.cell? ⟨qb, 0, none⟩ = some (.string pn) := Lib.cell_of_heap HS.out.b 0
      have b1 : w9.cell? ⟨qb, 1, none⟩ = some (.slice p2 ps.length c2) := Lib.cell_of_heap HS.out.b 1
      have HSM := Lib.hid (same_two _ _ _ _ w9 HS.out.oi HS.out.pi)
      unfold SamePost at HSM
      simp only [] at HSM
      by_cases heq : (⟨on, os⟩ : GObj) = ⟨pn, ps⟩
      · obtain rfl := HEQ.out heq.symm
        have HQ := Lib.hid heq
        clear heq HEQ HNE
        go_wp2_with fail
        refine HSM.out.mono ?_
        rintro e wE ⟨bb, rfl, hbb, hB⟩
        have hbt : bb = true := hbb.2 HQ.out
        subst hbt
        replace HS := Lib.hid (HS.out.keep hB)
        clear hbb hB HSM a0 a1 b0 b1
        go_upto_region 11 with fail
        have HW := Lib.hid HS.out.k
        clear HS
        have HG := Lib.hid (get_any s wE hs)
        unfold GetPost at HG
        cases hgs : getB s.data.toList with
        | none =>
          rw [hgs] at HG
          clear hgs
          simp only [] at HG
          go_wp2_with fail
          refine HG.out.mono ?_
          rintro e wA ⟨rfl, hB⟩
          replace HW := Lib.hid (HW.out.trans (hB.mono HW.out.size))
          clear hB HG
          go_upto_region 12 with fail
          have HN : Hid ((wA.alloc (.cells #[.string ⟨#[]⟩, .slice none 0 0] 24)).heap[wA.heap.size]? = some (.cells #[.string ⟨#[]⟩, .slice none 0 0] 24 (0, 0))) := heap_alloc_new wA _
          replace HW := Lib.hid (HW.out.alloc HW.out.size (.cells #[.string ⟨#[]⟩, .slice none 0 0] 24))
          generalize wA.alloc (.cells #[.string ⟨#[]⟩, .slice none 0 0] 24) = wB at HN HW ⊢
          generalize wA.heap.size = xb at HN ⊢
          have x0 : wB.cell? ⟨xb, 0, none⟩ = some (.string ⟨#[]⟩) := Lib.cell_of_heap HN.out 0
          have x1 : wB.cell? ⟨xb, 1, none⟩ = some (.slice none 0 0) := Lib.cell_of_heap HN.out 1
          go_wp2_with (go_at_call 7; refine (alive09_any _).mono ?_; rintro e wC ⟨rfl, hB⟩)
          go_ret
          exact ⟨rfl, HW.out.trans (hB.mono HW.out.size)⟩
        | some x =>
          rw [hgs] at HG
          have HX := Lib.hid (getB_some hgs)
          clear hgs
          simp only [] at HG
          go_wp2_with fail
          refine HG.out.mono ?_
          rintro e wA ⟨⟨vx, rfl, hfr⟩, hB⟩
          replace HW := Lib.hid (HW.out.trans (hB.mono HW.out.size))
          obtain ⟨px, cx, rfl⟩ := hfr.shape
          have HO := Lib.hid (hfr.objIn HX.out.2.1)
          clear hB HG hfr
          have HPV : Hid (putV x = (s, 0)) := by rw [Hid, putV, if_pos HX.out.2.2, HX.out.1]; rfl
          have HFW : Hid (mayP x = true → ∀ s ∈ x.syms, s.bytes.size < 4294967296) := fun _ s hs => by have := (HX.out.2.1.2.2 s hs).2.2.2.2.1; omega
          clear HX
          obtain ⟨xn, xs⟩ := x
          simp only [] at HO HFW ⊢
          go_upto_region 12 with fail
          have HN : Hid ((wA.alloc (.cells #[.string xn, .slice px xs.length cx] 24)).heap[wA.heap.size]? = some (.cells #[.string xn, .slice px xs.length cx] 24 (0, 0))) := heap_alloc_new wA _
          replace HO := Lib.hid (ObjIn.keep (alloc_old wA (.cells #[.string xn, .slice px xs.length cx] 24)) HO.out)
          replace HW := Lib.hid (HW.out.alloc HW.out.size (.cells #[.string xn, .slice px xs.length cx] 24))
          generalize wA.alloc (.cells #[.string xn, .slice px xs.length cx] 24) = wB at HN HW HO ⊢
          generalize wA.heap.size = xb at HN ⊢
          have x0 : wB.cell? ⟨xb, 0, none⟩ = some (.string xn) := Lib.cell_of_heap HN.out 0
          have x1 : wB.cell? ⟨xb, 1, none⟩ = some (.slice px xs.length cx) := Lib.cell_of_heap HN.out 1
          have HPU := Lib.hid (objPut_any ⟨xn, xs⟩ (.slice px xs.length cx) wB HO.out HFW.out)
          rw [HPV.out] at HPU
          simp only [] at HPU
          go_wp2_with fail
          refine HPU.out.mono ?_
          rintro e wC ⟨rfl, hB⟩
          replace HW := Lib.hid (HW.out.trans (hB.mono HW.out.size))
          clear hB HPU x0 x1 HO HN
          go_wp2_with (go_at_call 7; refine (alive09_any _).mono ?_; rintro e wD ⟨rfl, hB⟩)
          go_ret
          exact ⟨rfl, HW.out.trans (hB.mono HW.out.size)⟩
      · have hne := HNE.out heq
        have hnl := toList_ne hne
        have hbe : (sa.toList == sb.toList) = false := by simpa using hnl
        have HQ := Lib.hid heq
        clear heq HEQ HNE
        go_wp2_with fail
        refine HSM.out.mono ?_
        rintro e wE ⟨bb, rfl, hbb, hB⟩
        have hbt : bb = false := by cases bb with | false => rfl | true => exact absurd (hbb.1 rfl) HQ.out
        subst hbt
        replace HS := Lib.hid (HS.out.keep hB)
        clear hbb hB HSM a0 a1 b0 b1 hne
        go_upto_region 11 with fail
        clear hnl hbe
        have HW := Lib.hid HS.out.k
        clear HS
        have HG := Lib.hid (get_any s wE hs)
        unfold GetPost at HG
        cases hgs : getB s.data.toList with
        | none =>
          rw [hgs] at HG
          clear hgs
          simp only [] at HG
          go_wp2_with fail
          refine HG.out.mono ?_
          rintro e wA ⟨rfl, hB⟩
          replace HW := Lib.hid (HW.out.trans (hB.mono HW.out.size))
          clear hB HG
          go_upto_region 12 with fail
          have HN : Hid ((wA.alloc (.cells #[.string ⟨#[]⟩, .slice none 0 0] 24)).heap[wA.heap.size]? = some (.cells #[.string ⟨#[]⟩, .slice none 0 0] 24 (0, 0))) := heap_alloc_new wA _
          replace HW := Lib.hid (HW.out.alloc HW.out.size (.cells #[.string ⟨#[]⟩, .slice none 0 0] 24))
          generalize wA.alloc (.cells #[.string ⟨#[]⟩, .slice none 0 0] 24) = wB at HN HW ⊢
          generalize wA.heap.size = xb at HN ⊢
          have x0 : wB.cell? ⟨xb, 0, none⟩ = some (.string ⟨#[]⟩) := Lib.cell_of_heap HN.out 0
          have x1 : wB.cell? ⟨xb, 1, none⟩ = some (.slice none 0 0) := Lib.cell_of_heap HN.out 1
          go_wp2_with (go_at_call 7; refine (alive09_any _).mono ?_; rintro e wC ⟨rfl, hB⟩)
          go_ret
          exact ⟨rfl, HW.out.trans (hB.mono HW.out.size)⟩
        | some x =>
          rw [hgs] at HG
          have HX := Lib.hid (getB_some hgs)
          clear hgs
          simp only [] at HG
          go_wp2_with fail
          refine HG.out.mono ?_
          rintro e wA ⟨⟨vx, rfl, hfr⟩, hB⟩
          replace HW := Lib.hid (HW.out.trans (hB.mono HW.out.size))
          obtain ⟨px, cx, rfl⟩ := hfr.shape
          have HO := Lib.hid (hfr.objIn HX.out.2.1)
          clear hB HG hfr
          have HPV : Hid (putV x = (s, 0)) := by rw [Hid, putV, if_pos HX.out.2.2, HX.out.1]; rfl
          have HFW : Hid (mayP x = true → ∀ s ∈ x.syms, s.bytes.size < 4294967296) := fun _ s hs => by have := (HX.out.2.1.2.2 s hs).2.2.2.2.1; omega
          clear HX
          obtain ⟨xn, xs⟩ := x
          simp only [] at HO HFW ⊢
          go_upto_region 12 with fail
          have HN : Hid ((wA.alloc (.cells #[.string xn, .slice px xs.length cx] 24)).heap[wA.heap.size]? = some (.cells #[.string xn, .slice px xs.length cx] 24 (0, 0))) := heap_alloc_new wA _
          replace HO := Lib.hid (ObjIn.keep (alloc_old wA (.cells #[.string xn, .slice px xs.length cx] 24)) HO.out)
          replace HW := Lib.hid (HW.out.alloc HW.out.size (.cells #[.string xn, .slice px xs.length cx] 24))
          generalize wA.alloc (.cells #[.string xn, .slice px xs.length cx] 24) = wB at HN HW HO ⊢
          generalize wA.heap.size = xb at HN ⊢
          have x0 : wB.cell? ⟨xb, 0, none⟩ = some (.string xn) := Lib.cell_of_heap HN.out 0
          have x1 : wB.cell? ⟨xb, 1, none⟩ = some (.slice px xs.length cx) := Lib.cell_of_heap HN.out 1
          have HPU := Lib.hid (objPut_any ⟨xn, xs⟩ (.slice px xs.length cx) wB HO.out HFW.out)
          rw [HPV.out] at HPU
          simp only [] at HPU
          go_wp2_with fail
          refine HPU.out.mono ?_
          rintro e wC ⟨rfl, hB⟩
          replace HW := Lib.hid (HW.out.trans (hB.mono HW.out.size))
          clear hB HPU x0 x1 HO HN
          go_wp2_with (go_at_call 7; refine (alive09_any _).mono ?_; rintro e wD ⟨rfl, hB⟩)
          go_ret
          exact ⟨rfl, HW.out.trans (hB.mono HW.out.size)⟩
theorem back_any (o p : GObj) (v u : Value) (s : ByteArray) (w : World) (h : ObjIn w o v) (hbo : ObjBd o) (hp : ObjIn w p u) (hbp : ObjBd p) (hs : s.size ≤ 140737488355328) :
    Calls Tryd.prog 5 #[.agg #[.string o.name, v], .agg #[.string p.name, u], .string s] w fun e w' => e = .returned (.bool true) ∧ Below w.heap.size w w' := by
  by_cases hg : largeB [o] = true ∨ largeB [p] = true ∨ 32768 < s.size
  · exact back_guard o p v u s w h hp hg
  · have h1 : largeB [o] = false := by cases hl : largeB [o] with | false => rfl | true => exact absurd (.inl hl) hg
    have h2 : largeB [p] = false := by cases hl : largeB [p] with | false => rfl | true => exact absurd (.inr (.inl hl)) hg
    exact back_main o p v u s w h hbo hp hbp hs h1 h2 fun h3 => hg (.inr (.inr h3))
end Go.Proofs.YtfmmfbijkklceaaDoor
