/- The walks of aediculeref12's Find and Has. -/
import Derived.Test.YtiogoinaklgglaaDoorWRefCheck
import Derived.Test.YtiogoinaklgglaaDoorWResFind
namespace Go.Proofs.YtiogoinaklgglaaDoor
open Go.RowKit Go.Maps Go.WideMaps
theorem findRef_any (v : Value) (l : List GObj) (i : Int) (nm : ByteArray) (w : World) (h : ObjsAt w v l) (h2 : i < l.length) :
    Calls Tryd.prog 25 #[v, .int .i64 i, .string nm] w fun e w' => e = .returned (placeRet (findR l i nm.data.toList)) ∧ Below w.heap.size w w' := by
  by_cases hi0 : i < 0
  · have hf : findR l i nm.data.toList = winnerIn (flat l) nm.data.toList := by unfold findR; rw [if_neg (by omega)]
    rw [hf]
    exact findRefNeg v l i nm w h hi0
  · obtain ⟨j, rfl⟩ := Int.eq_ofNat_of_zero_le (show 0 ≤ i by omega)
    exact findRefPos v l j nm w h (by omega)
set_option maxHeartbeats 1000000 in
theorem refFind_any (v : Value) (l : List GObj) (i : Int) (nm : ByteArray) (w : World) (h : ObjsAt w v l) :
    Calls Tryd.prog 12 #[v, .int .i64 i, .string nm] w fun e w' => e = .returned (findV (findAllR l i nm.data.toList)) ∧ Below w.heap.size w w' := by
  have HO := Lib.hid h
  have HBG := Lib.hid (refCheck_any v l (w.alloc (.cells #[.int .i64 0, .int .i64 0] 26)) (ObjsAt.keep (alloc_old w _) h))
  have hsh : ∃ (p : Option Addr) (cap : Nat), v = .slice p l.length cap := by obtain ⟨p, cap, b, o, rfl, _⟩ := h; exact ⟨p, cap, rfl⟩
  obtain ⟨p, cap, rfl⟩ := hsh
  clear h
  have HFA : Hid (findAllR l i nm.data.toList = if (beginRR l).2 ≠ 0 then ((0, 0), (beginRR l).2) else if i < -1 ∨ (l.length : Int) ≤ i then ((0, 0), 2) else match findR l i nm.data.toList with | some p => (p, 0) | none => ((0, 0), 121)) := rfl
  generalize (beginRR l).2 = c at HBG HFA
  generalize (beginRR l).1 = bn at HBG
  go_enter Tryd.func12, Tryd.ntmps12
  go_wp2_with fail
  refine HBG.out.mono ?_
  rintro e w1 ⟨rfl, hB⟩
  obtain ⟨hc1, hf1⟩ := bcell hB
  have hz : w.heap.size < w1.heap.size := by have := hB.size; (try simp at this); omega
  have HBW := Lib.hid ((alloc_old w (.cells #[.int .i64 0, .int .i64 0] 26)).trans (hB.mono (by simp)))
  have q0 : w1.cell? ⟨w.heap.size, 0, none⟩ = some (.int .i64 0) := by rw [hB.cell (by simp)]; simp [go_sem]
  have q1 : w1.cell? ⟨w.heap.size, 1, none⟩ = some (.int .i64 0) := by rw [hB.cell (by simp)]; simp [go_sem]
  by_cases hc0 : c = 0
  · subst hc0
    by_cases hr : i < -1 ∨ (l.length : Int) ≤ i
    · have HF : Hid (findAllR l i nm.data.toList = ((0, 0), 2)) := by rw [HFA.out, if_neg (by simp), if_pos hr]; rfl
      go_wp2_with fail
      all_goals
        rw [HF.out]
        refine bodyPost_ret (v := .tuple #[.agg #[.int .i64 0, .int .i64 0], .int .i64 2]) (by simp [results, Tryd.results12, go_sem, q0, q1]) rfl ⟨rfl, ?_⟩
        exact (HBW.out.setCell (by simp) _).setCell (by simp) _
    · have hr1 : ¬ i < -1 := fun h => hr (.inl h)
      have hr2 : ¬ (l.length : Int) ≤ i := fun h => hr (.inr h)
      have HF : Hid (findAllR l i nm.data.toList = match findR l i nm.data.toList with | some p => (p, 0) | none => ((0, 0), 121)) := by rw [HFA.out, if_neg (by simp), if_neg hr]; rfl
      have HCON := Lib.hid (findRef_any _ l i nm w1 (ObjsAt.keep HBW.out HO.out) (by omega))
      generalize findR l i nm.data.toList = fr at HF HCON
      cases fr with
      | none =>
        simp only [placeRet] at HCON
        go_wp2_with (go_at_call 25; refine HCON.out.mono ?_; rintro e w2 ⟨rfl, hB2⟩; obtain ⟨hc2, hf2⟩ := bcell hB2; have hz2 : w.heap.size < w2.heap.size := (by have := hB2.size; omega))
        have q0' : w2.cell? ⟨w.heap.size, 0, none⟩ = some (.int .i64 0) := cell_keep hB2 hz q0
        have q1' : w2.cell? ⟨w.heap.size, 1, none⟩ = some (.int .i64 0) := cell_keep hB2 hz q1
        rw [HF.out]
        refine bodyPost_ret (v := .tuple #[.agg #[.int .i64 0, .int .i64 0], .int .i64 121]) (by simp [results, Tryd.results12, go_sem, q0', q1', hz2]) rfl ⟨rfl, ?_⟩
        have hfin : Below w.heap.size w w2 := HBW.out.trans (hB2.mono HBW.out.size)
        exact ((hfin.setCell (by simp) _).setCell (by simp) _).alloc (by simp; omega) _
      | some pq =>
        obtain ⟨pi, pk⟩ := pq
        simp only [placeRet] at HCON
        go_wp2_with (go_at_call 25; refine HCON.out.mono ?_; rintro e w2 ⟨rfl, hB2⟩; obtain ⟨hc2, hf2⟩ := bcell hB2; have hz2 : w.heap.size < w2.heap.size := (by have := hB2.size; omega))
        have q0' : w2.cell? ⟨w.heap.size, 0, none⟩ = some (.int .i64 0) := cell_keep hB2 hz q0
        have q1' : w2.cell? ⟨w.heap.size, 1, none⟩ = some (.int .i64 0) := cell_keep hB2 hz q1
        rw [HF.out]
        refine bodyPost_ret (v := .tuple #[.agg #[.int .i64 (pi : Nat), .int .i64 (pk : Nat)], .int .i64 0]) (by simp [results, Tryd.results12, go_sem, q0', q1', hz2]) rfl ⟨rfl, ?_⟩
        have hfin : Below w.heap.size w w2 := HBW.out.trans (hB2.mono HBW.out.size)
        exact ((hfin.setCell (by simp) _).setCell (by simp) _).alloc (by simp; omega) _
  · have hcb : (c != 0) = true := by simpa using hc0
    have HF : Hid (findAllR l i nm.data.toList = ((0, 0), c)) := by rw [HFA.out, if_pos hc0]; rfl
    clear hc0
    go_wp2_with fail
    rw [HF.out]
    refine bodyPost_ret (v := .tuple #[.agg #[.int .i64 0, .int .i64 0], .int .i64 c]) (by simp [results, Tryd.results12, go_sem, q0, q1]) rfl ⟨rfl, ?_⟩
    exact (HBW.out.setCell (by simp) _).setCell (by simp) _
/-- is there a symbol at a place? -/
def hasR (l : List GObj) (a b : Int) : Bool := decide (0 ≤ a) && decide (0 ≤ b) && (match l[a.toNat]? with | some o => decide (b.toNat < o.syms.length) | none => false)
theorem hasR_no0 {l : List GObj} {a b : Int} (h : a < 0 ∨ (l.length : Int) ≤ a ∨ b < 0) : hasR l a b = false := by
  unfold hasR
  rcases h with h | h | h
  · simp [show ¬ 0 ≤ a by omega]
  · rw [List.getElem?_eq_none (by omega)]; simp
  · simp [show ¬ 0 ≤ b by omega]
theorem hasR_at {l : List GObj} {a b : Nat} (h : a < l.length) : hasR l a b = decide (b < l[a].syms.length) := by
  unfold hasR
  simp [List.getElem?_eq_getElem h]
set_option maxRecDepth 100000 in
set_option maxHeartbeats 1000000 in
theorem has_any (v : Value) (l : List GObj) (a b : Int) (w : World) (h : ObjsAt w v l) :
    Calls Tryd.prog 26 #[v, .agg #[.int .i64 a, .int .i64 b]] w fun e w' => e = .returned (.bool (hasR l a b)) ∧ Below w.heap.size w w' := by
  obtain ⟨p, cap, bb, o, rfl, hcap, hmax, hp, hc⟩ := h
  by_cases h1 : 0 ≤ a
  · by_cases h2 : a < (l.length : Int)
    · by_cases h3 : 0 ≤ b
      · obtain ⟨an, rfl⟩ := Int.eq_ofNat_of_zero_le h1
        obtain ⟨bn, rfl⟩ := Int.eq_ofNat_of_zero_le h3
        have hal : an < l.length := by omega
        obtain rfl := hp (by omega)
        obtain ⟨vs, g0, g1, g2, ⟨pS, capS, bS, oS, rfl, -⟩, -⟩ := hc an hal
        rw [hasR_at hal]
        clear hc hp g1
        generalize l[an].syms.length = nS at g2 ⊢
        have d1 : decide ((0 : Int) ≤ (an : Int)) = true := by simp
        have d2 : decide ((an : Int) < (l.length : Int)) = true := by simpa using hal
        have d3 : decide ((0 : Int) ≤ (bn : Int)) = true := by simp
        by_cases h4 : bn < nS
        · have d4 : decide ((bn : Int) < (nS : Int)) = true := by simpa using h4
          go_enter Tryd.func26, Tryd.ntmps26
          go_wp2
          go_quiet (fail)
          go_wp2
          go_ret
          exact ⟨ret_bool (by simp [h4]), below_drewN (alloc_old w _) _⟩
        · have d4 : decide ((bn : Int) < (nS : Int)) = false := by simp; omega
          go_enter Tryd.func26, Tryd.ntmps26
          go_wp2
          go_quiet (fail)
          go_wp2
          go_ret
          exact ⟨ret_bool (by simp [h4]), below_drewN (alloc_old w _) _⟩
      · rw [hasR_no0 (.inr (.inr (by omega)))]
        have d1 : decide (0 ≤ a) = true := by simpa using h1
        have d2 : decide (a < (l.length : Int)) = true := by simpa using h2
        have d3 : decide (0 ≤ b) = false := by simpa using h3
        go_enter Tryd.func26, Tryd.ntmps26
        go_wp2
        go_quiet (fail)
        go_wp2
        go_ret
        exact ⟨rfl, below_drewN (alloc_old w _) _⟩
    · rw [hasR_no0 (.inr (.inl (by omega)))]
      have d1 : decide (0 ≤ a) = true := by simpa using h1
      have d2 : decide (a < (l.length : Int)) = false := by simpa using h2
      go_enter Tryd.func26, Tryd.ntmps26
      go_wp2
      go_quiet (fail)
      go_wp2
      go_ret
      exact ⟨rfl, below_drewN (alloc_old w _) _⟩
  · rw [hasR_no0 (.inl (by omega))]
    have d1 : decide (0 ≤ a) = false := by simpa using h1
    go_enter Tryd.func26, Tryd.ntmps26
    go_wp2
    go_quiet (fail)
    go_wp2
    go_ret
    exact ⟨rfl, below_drewN (alloc_old w _) _⟩
end Go.Proofs.YtiogoinaklgglaaDoor
