/- The walks of aediculeref14's up, kinds and May. -/
import Derived.Test.YteekdjlpfgkgjaaDoorWLayMay
import Derived.Test.YteekdjlpfgkgjaaDoorWRefHas
import Derived.Test.YteekdjlpfgkgjaaDoorWRefMay
import Derived.Test.YteekdjlpfgkgjaaDoorLayRows
namespace Go.Proofs.YteekdjlpfgkgjaaDoor
open Go.RowKit Go.Maps Go.WideMaps
set_option maxHeartbeats 400000 in
theorem rup_any (n k : Int) (w : World) (h0 : 0 ≤ n) (h1 : n ≤ 200000) (hk : k = 256 ∨ k = 8) : Calls Tryd.prog 28 #[.int .u32 n, .int .u32 k] w fun e w' => e = .returned (.int .u32 (upTo n k)) ∧ w = w' := by
  rcases hk with rfl | rfl
  · have d1 : (n + 256 - 1).tdiv 256 = (n + 255) / 256 := by rw [Int.tdiv_eq_ediv_of_nonneg (by omega)]; omega
    go_enter Tryd.func28, Tryd.ntmps28
    go_wp2
    go_ret
    exact ⟨ret_int (by unfold upTo; first | rfl | omega), rfl⟩
  · have d1 : (n + 8 - 1).tdiv 8 = (n + 7) / 8 := by rw [Int.tdiv_eq_ediv_of_nonneg (by omega)]; omega
    go_enter Tryd.func28, Tryd.ntmps28
    go_wp2
    go_ret
    exact ⟨ret_int (by unfold upTo; first | rfl | omega), rfl⟩
set_option maxHeartbeats 400000 in
theorem kinds_any (w : World) : Calls Tryd.prog 27 #[] w fun e w' => e = .returned (.slice (some ⟨w.heap.size, 0, none⟩) 3 3) ∧ w' = w.alloc (.cells #[.int .u8 1, .int .u8 3, .int .u8 2] 5) := by
  go_enter Tryd.func27, Tryd.ntmps27
  go_wp2
  go_ret
  exact ⟨rfl, rfl⟩
theorem hasR_symAt (l : List GObj) (p : GP) : hasR l p.1 p.2 = (symAt l p).isSome := by
  cases hs : symAt l p with
  | none =>
    rcases symAt_none hs with h | h | h | ⟨a, b, ha, rfl, hb⟩
    · exact hasR_no0 (.inl h)
    · exact hasR_no0 (.inr (.inl h))
    · exact hasR_no0 (.inr (.inr h))
    · rw [hasR_at ha]; simpa using hb
  | some s =>
    obtain ⟨a, b, ha, hb, rfl, -⟩ := symAt_some hs
    rw [hasR_at ha]; simpa using hb
set_option maxRecDepth 100000 in
set_option maxHeartbeats 4000000 in
theorem ref14May_any (v v2 : Value) (l : List GObj) (ps : List GP) (w : World) (h : ObjsAt w v l) (h2 : RowAt 2 PlcR w v2 ps) :
    Calls Tryd.prog 26 #[v, v2] w fun e w' => e = .returned (.bool (mayGo l none ps && mayAllR l)) ∧ Below w.heap.size w w' := by
  have HO := Lib.hid h
  obtain ⟨p, cap, b, o, rfl, hcap, hmax, -, -⟩ := h
  obtain ⟨p2, cap2, b2, o2, rfl, hcap2, hmax2, hp2, hc2⟩ := h2
  have HP := Lib.hid hp2; clear hp2
  have HC := Lib.hid hc2; clear hc2
  go_enter Tryd.func26, Tryd.ntmps26
  go_wp2
  go_loopw [5] (fun v5 wr => ∃ k : Nat, k ≤ ps.length ∧ v5 = .int .i64 k ∧ mayGo l (prevP ps k) (ps.drop k) = mayGo l none ps ∧ Below w.heap.size w wr) (fun v5 _ => ps.length - (intOf v5).toNat)
  case atStart => exact ⟨0, Nat.zero_le _, rfl, rfl, Below.refl _ _⟩
  case round =>
    obtain ⟨k, hk, rfl, hgo, hbel⟩ := hrel
    have HGO := Lib.hid hgo; clear hgo
    have HB := Lib.hid hbel; clear hbel
    by_cases hlt : k < ps.length
    · obtain rfl := HP.out (by omega)
      obtain ⟨g0, g1, g2⟩ := plcR_keeps _ _ _ _ _ HB.out (HC.out k hlt)
      generalize hx : ps[k] = x at g1 g2
      have HX := Lib.hid hx; clear hx
      have HPR : Hid (∀ (hk1 : 0 < k), ∃ q : GP, prevP ps k = some q ∧ wr.cell? ⟨b2, o2 + (k - 1) * 2, none⟩ = some (.int .i64 q.1) ∧ wr.cell? ⟨b2, o2 + (k - 1) * 2 + 1, none⟩ = some (.int .i64 q.2)) := fun hk1 => by
        obtain ⟨-, e1, e2⟩ := plcR_keeps _ _ _ _ _ HB.out (HC.out (k - 1) (by omega))
        exact ⟨_, by simp [prevP, show ¬ k = 0 by omega, List.getElem?_eq_getElem (show k - 1 < ps.length by omega)], e1, e2⟩
      have HCON := Lib.hid (has_any _ l x.1 x.2 wr (ObjsAt.keep HB.out HO.out))
      rw [hasR_symAt l x] at HCON
      obtain ⟨x1, x2⟩ := x
      simp only [] at g1 g2 HCON
      cases hs : symAt l (x1, x2) with
      | none =>
        rw [hs] at HCON
        have HF := Lib.hid (mayGo_no hlt HX.out HGO.out (.inl (by rw [hs]; rfl)))
        clear hs
        go_wp2_with (go_at_call 17; refine HCON.out.mono ?_; rintro e w2 ⟨rfl, hB2⟩)
        go_ret
        exact ⟨ret_bool (by rw [← HF.out]; rfl), HB.out.trans (hB2.mono HB.out.size)⟩
      | some s =>
        rw [hs] at HCON
        have HS : Hid ((symAt l (x1, x2)).isSome = true) := by rw [Hid, hs]; rfl
        clear hs
        go_wp2_with fail
        refine HCON.out.mono ?_
        rintro e w2 ⟨rfl, hB2⟩
        replace g1 := cell_keep hB2 g0 g1
        replace g2 := cell_keep hB2 g0 g2
        have HB2 := Lib.hid (HB.out.trans (hB2.mono HB.out.size))
        by_cases hk0 : k = 0
        · subst hk0
          have HST := Lib.hid (mayGo_yes hlt HX.out HGO.out HS.out (fun q hq => by simp [prevP] at hq))
          clear hB2
          go_wp2
          go_quiet (fail)
          rename_i nq
          go_wp2
          go_roundw
          case rel => exact ⟨0 + 1, by omega, by go_num, HST.out, below_drewN HB2.out nq⟩
          case measure => simp [intOf]; omega
        · obtain ⟨q, hq, e1, e2⟩ := HPR.out (by omega)
          replace e1 := cell_keep hB2 g0 e1
          replace e2 := cell_keep hB2 g0 e2
          obtain ⟨q1, q2⟩ := q
          have HQ := Lib.hid hq; clear hq hB2
          obtain ⟨k', rfl⟩ : ∃ k', k = k' + 1 := ⟨k - 1, by omega⟩
          simp only [Nat.add_sub_cancel] at e1 e2
          have dk : decide ((0 : Int) < ((k' + 1 : Nat) : Int)) = true := by simp
          have hs1 : ((k' : Int) + 1) - 1 = (k' : Int) := by omega
          have b1 : (k' : Int) < (ps.length : Int) := by omega
          have hbad : ∀ (hb : x1 < q1 ∨ (x1 = q1 ∧ x2 ≤ q2)), Hid (false = mayGo l none ps) := fun hb => mayGo_no hlt HX.out HGO.out (.inr ⟨_, HQ.out, by
            rcases hb with hb | ⟨hb, hb2⟩
            · simp [ordP, hb]
            · simp [ordP, hb, hb2]⟩)
          have hgood : ∀ (hb : ¬ x1 < q1) (hb2 : ¬ (x1 = q1 ∧ x2 ≤ q2)), Hid (mayGo l (prevP ps (k' + 1 + 1)) (ps.drop (k' + 1 + 1)) = mayGo l none ps) := fun hb hb2 => mayGo_yes hlt HX.out HGO.out HS.out (fun q hq => by
            rw [HQ.out] at hq; cases hq
            simp only [ordP, hb, decide_false, Bool.false_or, Bool.not_eq_true', Bool.and_eq_false_iff, decide_eq_false_iff_not]
            by_cases c2 : x1 = q1
            · exact .inr (fun h => hb2 ⟨c2, h⟩)
            · exact .inl c2)
          by_cases c1 : x1 < q1
          · have d1 : decide (x1 < q1) = true := by simpa using c1
            have HF := hbad (.inl c1)
            clear hbad hgood
            go_wp2
            go_quiet (fail)
            rename_i nq
            go_wp2
            go_ret
            exact ⟨ret_bool (by rw [← HF.out]; rfl), below_drewN HB2.out nq⟩
          · have d1 : decide (x1 < q1) = false := by simpa using c1
            by_cases c2 : x1 = q1
            · have d2 : decide (x1 = q1) = true := by simpa using c2
              by_cases c3 : x2 ≤ q2
              · have d3 : decide (x2 ≤ q2) = true := by simpa using c3
                have HF := hbad (.inr ⟨c2, c3⟩)
                clear hbad hgood
                subst c2
                go_wp2
                go_quiet (fail)
                rename_i nq
                go_wp2
                go_ret
                exact ⟨ret_bool (by rw [← HF.out]; rfl), below_drewN HB2.out nq⟩
              · have d3 : decide (x2 ≤ q2) = false := by simpa using c3
                have HST := hgood c1 (fun h => c3 h.2)
                clear hbad hgood
                subst c2
                go_wp2
                go_quiet (fail)
                rename_i nq
                go_wp2
                go_roundw
                case rel => exact ⟨k' + 1 + 1, by omega, by go_num, HST.out, below_drewN HB2.out nq⟩
                case measure => simp [intOf]; omega
            · have d2 : decide (x1 = q1) = false := by simpa using c2
              have d2' : (x1 == q1) = false := by simpa using c2
              have HST := hgood c1 (fun h => c2 h.1)
              clear hbad hgood
              go_wp2
              go_quiet (fail)
              rename_i nq
              go_wp2
              go_roundw
              case rel => exact ⟨k' + 1 + 1, by omega, by go_num, HST.out, below_drewN HB2.out nq⟩
              case measure => simp [intOf]; omega
    · have hgo := HGO.out
      rw [List.drop_of_length_le (by omega), mayGo] at hgo
      have HF := Lib.hid hgo
      have HCON := Lib.hid (ref12May_any _ l wr (ObjsAt.keep HB.out HO.out))
      clear hgo HGO
      go_wp2_with (go_at_call 34; refine HCON.out.mono ?_; rintro e w2 ⟨rfl, hB2⟩)
      go_ret
      exact ⟨ret_bool (by rw [← HF.out]; rfl), HB.out.trans (hB2.mono HB.out.size)⟩
end Go.Proofs.YteekdjlpfgkgjaaDoor
