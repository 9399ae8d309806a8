/- The walk of lay.may. -/
import Derived.Test.YteekdjlpfgkgjaaDoorWLaySym
import Derived.Test.YteekdjlpfgkgjaaDoorLayData
import Derived.Test.YteekdjlpfgkgjaaDoorWBeginAny
namespace Go.Proofs.YteekdjlpfgkgjaaDoor
open Go.RowKit Go.Maps Go.WideMaps
def prevP (ps : List GP) (k : Nat) : Option GP := if k = 0 then none else ps[k - 1]?
theorem mayGo_yes {l : List GObj} {ps : List GP} {k : Nat} {p : GP} {b : Bool} (hk : k < ps.length) (hp : ps[k] = p) (h : mayGo l (prevP ps k) (ps.drop k) = b) (h1 : (symAt l p).isSome = true) (h2 : ∀ q, prevP ps k = some q → ordP q p = true) : mayGo l (prevP ps (k + 1)) (ps.drop (k + 1)) = b := by
  rw [List.drop_eq_getElem_cons hk, hp, mayGo, h1] at h
  have h3 : ordO (prevP ps k) p = true := by
    cases hq : prevP ps k with
    | none => rfl
    | some q => exact h2 q hq
  rw [h3] at h
  simpa [prevP, List.getElem?_eq_getElem hk, hp] using h
theorem mayGo_no {l : List GObj} {ps : List GP} {k : Nat} {p : GP} {b : Bool} (hk : k < ps.length) (hp : ps[k] = p) (h : mayGo l (prevP ps k) (ps.drop k) = b) (h1 : (symAt l p).isSome = false ∨ ∃ q, prevP ps k = some q ∧ ordP q p = false) : false = b := by
  rw [List.drop_eq_getElem_cons hk, hp, mayGo] at h
  rcases h1 with h1 | ⟨q, h1, h2⟩
  · simpa [h1] using h
  · simpa [h1, h2, ordO] using h
set_option maxRecDepth 100000 in
set_option maxHeartbeats 4000000 in
theorem layMay_any (v v2 : Value) (l : List GObj) (ps : List GP) (w : World) (h : ObjsAt w v l) (h2 : RowAt 2 PlcR w v2 ps) :
    Calls Tryd.prog 22 #[v, v2] w fun e w' => e = .returned (.bool (layMay l ps)) ∧ Below w.heap.size w w' := by
  have HO := Lib.hid h
  have HCK := Lib.hid (resCheck_any v l w h)
  obtain ⟨p, cap, b, o, rfl, hcap, hmax, -, -⟩ := h
  obtain ⟨p2, cap2, b2, o2, rfl, hcap2, hmax2, hp2, hc2⟩ := h2
  have HP := Lib.hid hp2; clear hp2
  have HC := Lib.hid hc2; clear hc2
  by_cases hm : mayAll l = true
  case neg =>
    have hm' : mayAll l = false := by simpa using hm
    have hb : beginR l = (emptyB, 2) := by simp [beginR, hm']
    rw [hb] at HCK
    have HF : Hid (layMay l ps = false) := by simp [Hid, layMay, hm']
    clear hm hm' hb
    go_enter Tryd.func22, Tryd.ntmps22
    go_wp2_with (go_at_call 32; refine HCK.out.mono ?_; rintro e w1 ⟨rfl, hB1⟩)
    go_ret
    exact ⟨ret_bool HF.out.symm, hB1⟩
  have hbn : ((beginR l).2 == 2) = false := by
    unfold beginR
    rw [if_pos hm]
    split <;> simp
  have HLM : Hid (layMay l ps = mayGo l none ps) := by simp [Hid, layMay, hm]
  generalize beginR l = br at HCK hbn
  obtain ⟨bn, bc⟩ := br
  simp only [] at HCK hbn
  clear hm
  go_enter Tryd.func22, Tryd.ntmps22
  go_wp2_with (go_at_call 32; refine HCK.out.mono ?_; rintro e w1 ⟨rfl, hB1⟩)
  have HB1 := Lib.hid hB1; clear hB1 HCK
  go_loopw [20] (fun v20 wr => ∃ k : Nat, k ≤ ps.length ∧ v20 = .int .i64 k ∧ mayGo l (prevP ps k) (ps.drop k) = layMay l ps ∧ Below w.heap.size w wr) (fun v20 _ => ps.length - (intOf v20).toNat)
  case atStart => exact ⟨0, Nat.zero_le _, rfl, HLM.out.symm, HB1.out⟩
  case round =>
    obtain ⟨k, hk, rfl, hgo, hbel⟩ := hrel
    have HGO := Lib.hid hgo; clear hgo
    have HB := Lib.hid hbel; clear hbel
    by_cases hlt : k < ps.length
    · obtain rfl := HP.out (by omega)
      obtain ⟨g0, g1, g2⟩ := plcR_keeps _ _ _ _ _ HB.out (HC.out k hlt)
      generalize hx : ps[k] = x at g1 g2
      have HX := Lib.hid hx; clear hx
      have HPR : Hid (∀ (hk1 : 0 < k), ∃ q : GP, prevP ps k = some q ∧ wr.cell? ⟨b2, o2 + (k - 1) * 2, none⟩ = some (.int .i64 q.1) ∧ wr.cell? ⟨b2, o2 + (k - 1) * 2 + 1, none⟩ = some (.int .i64 q.2)) := fun hk1 => by
        obtain ⟨-, e1, e2⟩ := plcR_keeps _ _ _ _ _ HB.out (HC.out (k - 1) (by omega))
        exact ⟨_, by simp [prevP, show ¬ k = 0 by omega, List.getElem?_eq_getElem (show k - 1 < ps.length by omega)], e1, e2⟩
      have HCON := Lib.hid (laySym_any _ l x (wr.alloc (.cells #[.int .i64 x.1, .int .i64 x.2] 26)) (ObjsAt.keep (HB.out.alloc HB.out.size _) HO.out))
      obtain ⟨x1, x2⟩ := x
      simp only [] at g1 g2 HCON
      go_wp2_with fail
      refine HCON.out.mono ?_
      clear HCON
      rintro e w2 ⟨hsp, hB2⟩
      have HB12 : Hid (Below wr.heap.size wr w2) := (alloc_old wr _).trans (hB2.mono (by simp))
      have HB2 : Hid (Below w.heap.size w w2) := (HB.out.alloc HB.out.size _).trans (hB2.mono (by have := HB.out.size; simp; omega))
      have k0 : w2.cell? ⟨wr.heap.size, 0, none⟩ = some (.int .i64 x1) := by rw [hB2.cell (by simp)]; simp [go_sem]
      have k1 : w2.cell? ⟨wr.heap.size, 1, none⟩ = some (.int .i64 x2) := by rw [hB2.cell (by simp)]; simp [go_sem]
      have z2 : wr.heap.size < w2.heap.size := by have := hB2.size; simp at this; omega
      cases hs : symAt l (x1, x2) with
      | none =>
        rw [hs] at hsp
        simp only [] at hsp
        subst hsp
        have HF := Lib.hid (mayGo_no hlt HX.out HGO.out (.inl (by rw [hs]; rfl)))
        clear hB2 hs
        go_wp2
        go_ret
        exact ⟨ret_bool HF.out, HB2.out.alloc HB2.out.size _⟩
      | some s =>
        rw [hs] at hsp
        obtain ⟨vr, vn, rfl, hin⟩ := hsp
        obtain ⟨p1, q1, p3, q3, rfl, rfl⟩ := hin.shape
        have HS1 : Hid ((symAt l (x1, x2)).isSome = true) := by rw [hs]; rfl
        clear hB2 hs hin
        obtain ⟨yn, yb, yk, ys, yy, yr, yt⟩ := s
        simp only [symV]
        go_wp2
        generalize hw3 : w2.alloc (.cells #[.string yn, .int .u8 yb, .int .u8 yk, .int .u32 ys, .string yy, .slice p1 yr.length q1, .slice p3 yt.length q3] 54) = w3
        have HB3 : Hid (Below w2.heap.size w2 w3) := by subst hw3; exact alloc_old _ _
        clear hw3
        replace k0 := cell_keep HB3.out z2 k0
        replace k1 := cell_keep HB3.out z2 k1
        have HBW : Hid (Below w.heap.size w w3) := HB2.out.trans (HB3.out.mono HB2.out.size)
        by_cases hk0 : k = 0
        · subst hk0
          have HST := Lib.hid (mayGo_yes hlt HX.out HGO.out HS1.out (fun q hq => (by simp [prevP] at hq)))
          go_quiet (fail)
          go_wp2
          go_roundw
          case rel => exact ⟨1, by omega, by go_num, HST.out, below_drewN HBW.out _⟩
          case measure => simp [intOf]; omega
        · obtain ⟨q, hq, e1, e2⟩ := HPR.out (by omega)
          have HQ := Lib.hid hq; clear hq
          have HB13 : Hid (Below wr.heap.size wr w3) := HB12.out.trans (HB3.out.mono HB12.out.size)
          replace e1 := cell_keep HB13.out g0 e1
          replace e2 := cell_keep HB13.out g0 e2
          clear HPR HB12 HB13 HB3
          obtain ⟨qa, qb⟩ := q
          simp only [] at e1 e2
          have dk : decide ((0 : Int) < (k : Int)) = true := by simp; omega
          have dk' : decide (0 < k) = true := by simp; omega
          have j1 : IntKind.i64.wrap ((k : Int) - 1) = (k : Int) - 1 := IntWalk.i64_in _ (by omega)
          have j2 : (0 : Int) ≤ (k : Int) - 1 := by omega
          have j3 : ((k : Int) - 1).toNat = k - 1 := by omega
          have j4 : (k : Int) - 1 < (ps.length : Int) := by omega
          by_cases c1 : x1 < qa
          · have d1 : decide (x1 < qa) = true := by simpa using c1
            have HF := Lib.hid (mayGo_no hlt HX.out HGO.out (.inr ⟨_, HQ.out, by simp [ordP, c1]⟩))
            go_quiet (fail)
            clear j1 j2 j3
            go_wp2
            go_ret
            exact ⟨ret_bool HF.out, below_drewN HBW.out _⟩
          · have d1 : decide (x1 < qa) = false := by simpa using c1
            by_cases c2 : x1 = qa
            · subst c2
              by_cases c3 : x2 ≤ qb
              · have d3 : decide (x2 ≤ qb) = true := by simpa using c3
                have HF := Lib.hid (mayGo_no hlt HX.out HGO.out (.inr ⟨_, HQ.out, by simp [ordP, c3]⟩))
                go_quiet (fail)
                clear j1 j2 j3
                go_wp2
                go_ret
                exact ⟨ret_bool HF.out, below_drewN HBW.out _⟩
              · have d3 : decide (x2 ≤ qb) = false := by simpa using c3
                have HST := Lib.hid (mayGo_yes hlt HX.out HGO.out HS1.out (fun q hq => (by rw [HQ.out] at hq; cases hq; simp [ordP]; omega)))
                go_quiet (fail)
                clear j1 j2 j3
                go_wp2
                go_roundw
                case rel => exact ⟨k + 1, by omega, by go_num, HST.out, below_drewN HBW.out _⟩
                case measure => simp [intOf]; omega
            · have d2 : (x1 == qa) = false := by simpa using c2
              have HST := Lib.hid (mayGo_yes hlt HX.out HGO.out HS1.out (fun q hq => (by rw [HQ.out] at hq; cases hq; simp [ordP, c2]; omega)))
              go_quiet (fail)
              clear j1 j2 j3
              go_wp2
              go_roundw
              case rel => exact ⟨k + 1, by omega, by go_num, HST.out, below_drewN HBW.out _⟩
              case measure => simp [intOf]; omega
    · have HF := HGO.out
      rw [List.drop_of_length_le (by omega), mayGo] at HF
      have HF2 := Lib.hid HF; clear HF
      go_wp2
      go_ret
      exact ⟨ret_bool HF2.out, HB.out⟩
end Go.Proofs.YteekdjlpfgkgjaaDoor
