/- The walk of ref36's put. The walk of ref36.Calls. -/
import Derived.Test.YtghopakbefageaaGreatBt23
import Derived.Test.YtghopakbefageaaGreatBt19
import Derived.Test.YtghopakbefageaaGreatBt33
import Derived.BigQuiet
import Derived.Test.YtghopakbefageaaGreatBt37
namespace Go.Proofs.YtghopakbefageaaGreat
open Go.RowKit
def numCells36 (l : List Int) : List Value := l.map (.int .u32)
theorem numCells36_one {l : List Int} : ∀ u ∈ numCells36 l, u.oneCell' = true := by
  intro u hu
  obtain ⟨x, -, rfl⟩ := List.mem_map.1 hu
  rfl
theorem nums_news36 {w : World} {b o : Nat} {l : List Int} (h : ∀ i (h : i < l.length), NumR w b (o + i * 1) l[i]) : ∀ j u, (numCells36 l)[j]? = some u → w.cell? ((⟨b, o, none⟩ : Addr).add j) = some u := by
  intro j u hu
  unfold numCells36 at hu
  rw [List.getElem?_map] at hu
  obtain ⟨x, hx, rfl⟩ := Option.map_eq_some_iff.1 hu
  obtain ⟨hj, rfl⟩ := List.getElem?_eq_some_iff.1 hx
  have := (h j hj).2.1
  rw [Nat.mul_one] at this
  rw [add_at]; exact this
theorem nums_row36 {w : World} {v : Value} {base : Nat} {e : TypeId} {l : List Int} (hm : l.length ≤ 140737488355328) (hn : ∀ x ∈ l, 0 ≤ x ∧ x ≤ 4294967295) (h : w.ownsRow base e 1 v l.length (numCells36 l)) : RowAt 1 NumR w v l := by
  have h2 : w.ownsRow base e 1 v l.length (l.flatMap fun x => [Value.int .u32 x]) := by
    have e1 : (l.flatMap fun x => [Value.int .u32 x]) = numCells36 l := by unfold numCells36; clear h hn hm; induction l with | nil => rfl | cons a r ih => rw [List.flatMap_cons, ih]; rfl
    rw [e1]; exact h
  exact owned_row (k := 1) (f := fun x => [Value.int .u32 x]) (fun _ => rfl) h2 hm fun g o' i hi hg hcell => ⟨hg, by simpa using hcell 0 _ (by omega) rfl, hn _ (List.getElem_mem hi)⟩
theorem nums_bd36 {w : World} {v : Value} {l : List Int} (h : RowAt 1 NumR w v l) : ∀ x ∈ l, 0 ≤ x ∧ x ≤ 4294967295 := fun x hx => by
  obtain ⟨i, hi, rfl⟩ := List.getElem_of_mem hx
  obtain ⟨_, _, _, _, _, _, _, _, hc⟩ := h
  exact (hc i hi).2.2
set_option maxRecDepth 100000 in
set_option maxHeartbeats 2000000 in
theorem rput36 (v : Value) (l : List Int) (p : Int) (w : World) (h : RowAt 1 NumR w v l) (hp : 0 ≤ p ∧ p ≤ 4294967295) (hl : l.length ≤ 1000000) :
    Calls Tryz.prog 30 #[v, .int .u32 p] w fun e w' => ∃ v', e = .returned v' ∧ RowAt 1 NumR w' v' (portI l p) ∧ Below w.heap.size w w' := by
  have HRW := Lib.hid h
  have HNUM : Hid (∀ x ∈ portI l p, 0 ≤ x ∧ x ≤ 4294967295) := fun x hx => by
    rcases (portI_mem l p x).1 hx with h1 | rfl
    · exact nums_bd36 h x h1
    · exact hp
  have HNP := Lib.hid hp; clear hp
  obtain ⟨pv, cap, b, o, rfl, hcap, hmax, hpp, hc⟩ := h
  have HP := Lib.hid hpp; clear hpp
  have HC := Lib.hid hc; clear hc
  have HE := Lib.hid (portI_at l p)
  have hpl := portI_len l p
  obtain ⟨i0, hi, hz0, hz1, hz2⟩ := info_parts info_num
  have HI := Lib.hid (And.intro hi (And.intro hz0 (And.intro hz1 hz2)))
  clear hi hz0 hz1 hz2
  go_enter Tryz.func30, Tryz.ntmps30
  go_wp2
  go_loop [5] (fun v5 => ∃ k : Nat, k ≤ l.length ∧ v5 = .int .i64 k ∧ ∀ j (h : j < l.length), j < k → l[j] < p) (fun v5 => l.length - (intOf v5).toNat)
  case atStart => exact ⟨0, Nat.zero_le _, by go_num, fun j _ h => by omega⟩
  case round =>
    obtain ⟨k, hk, rfl, hlow⟩ := hrel
    have HLOW := Lib.hid hlow; clear hlow
    by_cases hnx : ∃ h : k < l.length, l[k] < p
    · obtain ⟨hlt, hx⟩ := hnx
      obtain rfl := HP.out (by omega)
      obtain ⟨c0, c1, -⟩ := HC.out k hlt
      rw [Nat.mul_one] at c1
      have HL2 : Hid (∀ j (h : j < l.length), j < k + 1 → l[j] < p) := fun j hj hjk => by
        rcases Nat.lt_succ_iff_lt_or_eq.1 hjk with h1 | h1
        · exact HLOW.out j hj h1
        · subst h1; exact hx
      generalize l[k] = x at *
      go_wp2
      go_round
      case rel => exact ⟨k + 1, by omega, by go_num, HL2.out⟩
      case measure => simp [intOf]; omega
    have HEK := Lib.hid (HE.out k hk HLOW.out (fun h1 => Int.not_lt.1 fun h2 => hnx ⟨h1, h2⟩))
    by_cases hsm : ∃ h : k < l.length, l[k] = p
    · obtain ⟨hlt, he⟩ := hsm
      rw [List.getElem?_eq_getElem hlt, if_pos (by rw [he])] at HEK
      obtain rfl := HP.out (by omega)
      obtain ⟨c0, c1, -⟩ := HC.out k hlt
      rw [Nat.mul_one] at c1
      have hx : ¬ l[k] < p := by omega
      have d1 : (l[k] == p) = true := by simpa using he
      clear hnx
      generalize l[k] = x at *
      subst he
      go_wp2
      go_ret
      rw [HEK.out]
      exact ⟨_, rfl, HRW.out, Below.refl _ _⟩
    have HEK2 : Hid (portI l p = l.take k ++ p :: l.drop k) := by
      rw [Hid, HEK.out, if_neg]
      intro h1
      exact hsm (List.getElem?_eq_some_iff.1 h1)
    have hsz : ∀ w, (sizeOf 22).run Tryz.prog w = .ok 1 w := fun w => by simp [Tryz.sizeOf22]
    have hpre := slice_pre (P := Tryz.prog) 38 22 pv l.length cap k 1 Tryz.underlying38 hsz (by omega)
    obtain ⟨q, hsuf, hq⟩ := slice_suf (P := Tryz.prog) 38 22 pv l.length cap k 1 Tryz.underlying38 hsz hk hcap
    have HQ : Hid (0 < l.length - k → q = some ⟨b, o + k, none⟩) := fun h0 => by
      have := hq b o (by omega) (HP.out (by omega))
      rw [Nat.mul_one] at this; exact this
    have HQ0 : Hid (0 < k → pv = some ⟨b, o, none⟩) := fun h0 => HP.out (by omega)
    have HC1 : Hid (∀ i (h : i < (l.take k).length), NumR w b (o + i * 1) (l.take k)[i]) := fun i h => by
      rw [List.getElem_take]; exact HC.out i (by simp at h; omega)
    have HC2 : Hid (∀ i (h : i < (l.drop k).length), NumR w b (o + k + i * 1) (l.drop k)[i]) := fun i h => by
      rw [List.getElem_drop, show o + k + i * 1 = o + (k + i) * 1 by omega]; exact HC.out (k + i) (by simp at h; omega)
    have hw : (k < l.length ∧ ∃ x, w.cell? ⟨b, o + k, none⟩ = some (.int .u32 x) ∧ pv = some ⟨b, o, none⟩ ∧ ¬ x < p ∧ (x == p) = false) ∨ ¬ k < l.length := by
      by_cases hlt : k < l.length
      · obtain ⟨c0, c1, -⟩ := HC.out k hlt
        rw [Nat.mul_one] at c1
        exact .inl ⟨hlt, l[k], c1, HP.out (by omega), fun h1 => hnx ⟨hlt, h1⟩, by simpa using fun h1 => hsm ⟨hlt, h1⟩⟩
      · exact .inr hlt
    clear hnx hsm hsz hq HEK HE HLOW
    rcases hw with ⟨hlt, x, c1, rfl, hx, d1⟩ | hlt
    all_goals
      go_upto_region 6 with fail
      go_wp2_with (at_builtin; refine wpList_copy rfl _ _ 38 rfl 22 i0 _ 1 4 Tryz.underlying38 HI.out.1 HI.out.2.1 HI.out.2.2.1 HI.out.2.2.2 rfl (by decide) rfl _ k cap b o (numCells36 (l.take k)) rfl (fun h0 => by first | rfl | exact HQ0.out h0) (by simp [numCells36]; omega) (fun _ => nums_news36 HC1.out) numCells36_one (by omega) (by omega) ?_)
      intro v6 w1 ho1 hg1
      obtain ⟨p6, c6, rfl⟩ := own_shape ho1
      have HO1 := Lib.hid ho1
      have HB1 : Hid (Below w.heap.size w w1) := (Below.refl _ _).grown hg1 (by simp) (fun k hk => by cases hk)
      clear ho1 hg1
      go_wp2_with (at_builtin; refine wpList_append_own _ rfl _ _ 38 rfl w.heap.size 22 i0 (.int .u32 0) 1 4 Tryz.underlying38 HI.out.1 HI.out.2.1 HI.out.2.2.1 HI.out.2.2.2 rfl (by decide) _ k (numCells36 (l.take k)) rfl (HO1.out.alloc _) ⟨w1.heap.size, 0, none⟩ 1 1 [.int .u32 p] rfl rfl (one_news (by simp [go_sem])) (by intro u hu; simp at hu; subst hu; rfl) (by unfold maxLen; omega) (by omega) (by have := HB1.out.size; simp; omega) ?_)
      intro v7 w2 ho2 hg2 _
      obtain ⟨p7, c7, rfl⟩ := own_shape ho2
      have HO2 := Lib.hid ho2
      have HB2 : Hid (Below w.heap.size w w2) := (HB1.out.alloc HB1.out.size _).grown hg2 (by have := HB1.out.size; simp; omega) (fun q e => (World.ownsRow.lt HO1.out q e).1)
      clear ho2 hg2
      go_wp2_with (at_builtin; refine wpList_append_src rfl _ _ 38 rfl w.heap.size 22 i0 (.int .u32 0) 1 4 Tryz.underlying38 HI.out.1 HI.out.2.1 HI.out.2.2.1 HI.out.2.2.2 rfl (by decide) (.slice p7 (k + 1) c7) (k + 1) (numCells36 (l.take k) ++ [.int .u32 p]) rfl HO2.out q (l.length - k) (cap - k) b (o + k) (numCells36 (l.drop k)) rfl (fun h0 => by first | exact HQ.out h0 | exact HQ.out) (by simp [numCells36]) (fun _ => nums_news36 (fun i h => numR_keeps _ _ _ _ _ HB2.out (HC2.out i h))) numCells36_one (by unfold maxLen; omega) (by omega) HB2.out.size ?_)
      intro v8 w3 ho3 hg3
      have HB3 : Hid (Below w.heap.size w w3) := HB2.out.grown hg3 HB2.out.size (fun q e => (World.ownsRow.lt HO2.out q e).1)
      have HR3 : Hid (RowAt 1 NumR w3 v8 (portI l p)) := by
        refine nums_row36 (e := 22) (base := w.heap.size) (by omega) HNUM.out ?_
        rw [HEK2.out]
        have e1 : (l.take k ++ p :: l.drop k).length = k + 1 + (l.length - k) := by simp; omega
        have e2 : numCells36 (l.take k ++ p :: l.drop k) = numCells36 (l.take k) ++ .int .u32 p :: numCells36 (l.drop k) := by simp [numCells36]
        rw [e1, e2]; exact ho3
      obtain ⟨p8, c8, _, _, rfl, -⟩ := id HR3.out
      clear ho3 hg3
      go_wp2
      go_ret
      exact ⟨_, rfl, HR3.out, HB3.out⟩
end Go.Proofs.YtghopakbefageaaGreat
namespace Go.Proofs.YtghopakbefageaaGreat
open Go.RowKit Go.Maps
theorem once_sort_len (l : List Int) : (onceI (sortI l)).length ≤ l.length := by
  have h1 := once_len (sortI l)
  rw [sortI_length] at h1
  exact h1
set_option maxHeartbeats 4000000 in
set_option maxRecDepth 100000 in
theorem rcalls36 (x : GImg) (ve vp vs : Value) (w : World) (h : ImgAt w x ve vp vs) :
    Calls Tryz.prog 12 #[imgV x ve vp vs] w (NumsPost (callsL x) w) := by
  have HLN : Hid (∀ W, Below w.heap.size w W → Calls Tryz.prog 25 #[imgV x ve vp vs] W (LinesPost x W)) := fun W hW => rlines36 x ve vp vs W (h.keep hW)
  unfold imgV at *
  obtain ⟨⟨⟨p1, c1, _, _, rfl, -⟩, ⟨p2, c2, _, _, rfl, -⟩, -⟩, ⟨p3, c3, b3, o3, rfl, -, -, -, -⟩, -, -⟩ := h
  have HB1 : Hid (Below w.heap.size w (w.alloc (.cells #[.int .u32 x.man.pages, .slice p1 x.man.exts.length c1, .slice p2 x.man.ports.length c2, .bool x.man.cons, .int .u32 x.entry, .slice p3 x.segs.length c3] 29))) := alloc_old w _
  go_enter Tryz.func12, Tryz.ntmps12
  go_wp2_with fail
  refine (HLN.out _ HB1.out).mono ?_
  rintro e w2 ⟨vl, rfl, hrl, hB2⟩
  have HB2 : Hid (Below w.heap.size w w2) := HB1.out.trans (hB2.mono HB1.out.size)
  obtain ⟨pl, cl, bl, ol, rfl, hlc, hlm, hlp, hlr⟩ := hrl
  have HLP := Lib.hid hlp; clear hlp
  have HLR := Lib.hid hlr; clear hlr
  have hLL := linesX_len x
  have HBD := Lib.hid (sysL_bd (x := x))
  have HDEF : Hid (callsL x = onceI (sortI (sysL (linesX x)))) := Lib.hid rfl
  clear HB1 hB2 HLN
  go_wp2_with fail
  go_loopw [3, 5] (fun v3 v5 wr => ∃ k : Nat, v5 = .int .i64 k ∧ k ≤ (linesX x).length ∧ RowAt 1 NumR wr v3 (onceI (sortI (sysL ((linesX x).take k)))) ∧ Below w2.heap.size w2 wr) (fun _ v5 _ => (linesX x).length - (intOf v5).toNat)
  case atStart => exact ⟨0, by go_num, Nat.zero_le _, by rw [List.eq_nil_of_length_eq_zero (Nat.le_zero.1 (Nat.le_trans (once_sort_len (sysL ((linesX x).take 0))) (by simp [sysL])))]; exact rowAt_nil, Below.refl _ _⟩
  case round =>
    obtain ⟨k, rfl, hk, hrow, hB⟩ := hrel
    have HROW := Lib.hid hrow
    have HB := Lib.hid hB; clear hB
    obtain ⟨pv, cv, _, _, rfl, -⟩ := hrow
    by_cases hlt : k < (linesX x).length
    · obtain rfl := HLP.out (by omega)
      obtain ⟨hbll, y0, y1, y2, y3, y4, y5, y6, hyb⟩ := lnR_keeps _ _ _ _ _ HB.out (HLR.out k hlt)
      have HTK := Lib.hid (sysL_take hlt)
      have HYB := Lib.hid hyb; clear hyb
      have hln : (onceI (sortI (sysL ((linesX x).take k)))).length ≤ 131072 := Nat.le_trans (once_sort_len _) (Nat.le_trans (sysL_len _) (by rw [List.length_take]; omega))
      generalize (linesX x)[k] = y at *
      obtain ⟨ya, ⟨io, id, ia, ib, im⟩, yi⟩ := y
      simp only [] at y0 y1 y2 y3 y4 y5 y6 HTK
      have HPT := Lib.hid (ports_snoc (sysL ((linesX x).take k)) im)
      generalize hG : sysL ((linesX x).take (k + 1)) = G at *
      have HG := Lib.hid hG; clear hG
      generalize hF : sysL ((linesX x).take k) = F at *
      have HF := Lib.hid hF; clear hF
      have HPU := Lib.hid (rput36 _ _ im wr HROW.out HYB.out.1.2.2.2.2 (by omega))
      have k1 : (0 : Int) ≤ (k : Int) := by omega
      have k2 : (k : Int) < ((linesX x).length : Int) := by omega
      have hcs : (yi = false ∧ True) ∨ (yi = true ∧ (io == 50) = false ∧ Hid (¬ io = 50)) ∨ (yi = true ∧ io = 50) := by
        cases yi with
        | false => exact .inl ⟨rfl, trivial⟩
        | true =>
          by_cases h5 : io = 50
          · exact .inr (.inr ⟨rfl, h5⟩)
          · exact .inr (.inl ⟨rfl, by simpa using h5, h5⟩)
      rcases hcs with ⟨rfl, -⟩ | ⟨rfl, h5, H5⟩ | ⟨rfl, rfl⟩
      · have HT2 : Hid (G = F) := Lib.hid (by rw [HTK.out]; simp)
        clear HTK
        go_wp2
        go_roundw
        case rel => exact ⟨k + 1, by go_num, by omega, by rw [HG.out, HT2.out]; exact HROW.out, HB.out⟩
        case measure => simp [intOf]; omega
      · have HT2 : Hid (G = F) := Lib.hid (by rw [HTK.out]; simp [H5.out])
        clear HTK
        go_wp2
        go_roundw
        case rel => exact ⟨k + 1, by go_num, by omega, by rw [HG.out, HT2.out]; exact HROW.out, HB.out⟩
        case measure => simp [intOf]; omega
      · have HT2 : Hid (onceI (sortI G) = portI (onceI (sortI F)) im) := Lib.hid (by rw [HTK.out, ← HPT.out]; simp)
        clear HTK
        go_wp2_with fail
        refine HPU.out.mono ?_
        rintro e w4 ⟨v4, rfl, hr4, hB4⟩
        have HR4 := Lib.hid hr4
        have HB4 : Hid (Below w2.heap.size w2 w4) := HB.out.trans (hB4.mono HB.out.size)
        obtain ⟨p4, c4, _, _, rfl, -⟩ := hr4
        clear hB4 HPU y0 y1 y2 y3 y4 y5 y6
        go_wp2
        go_roundw
        case rel => exact ⟨k + 1, by go_num, by omega, by rw [HG.out, HT2.out]; exact HR4.out, HB4.out⟩
        case measure => simp [intOf]; omega
    · obtain rfl : k = (linesX x).length := by omega
      rw [List.take_length] at HROW
      rw [List.take_length]
      rw [← HDEF.out] at HROW
      rw [← HDEF.out]
      have HFN : Hid (NumsPost (callsL x) w (.returned (.slice pv (callsL x).length cv)) wr) := Lib.hid ⟨_, rfl, HROW.out, HB2.out.trans (HB.out.mono HB2.out.size)⟩
      go_wp2
      go_ret
      exact HFN.out
end Go.Proofs.YtghopakbefageaaGreat
