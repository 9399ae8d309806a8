/- The walk of where.Get. -/
import Derived.Test.YtiegjplldfodkaaDoorTabSt
import Derived.Test.YtiegjplldfodkaaDoorWRdg34
import Derived.Test.YtiegjplldfodkaaDoorWTabMay
import Derived.Test.YtiegjplldfodkaaDoorStep
import Derived.Deep.RegionHeld3
namespace Go.Proofs.YtiegjplldfodkaaDoor
open Go.RowKit
theorem info_ts : (Tryd.prog.info? 43).map (fun i => (i.zero, i.size, i.bytes)) = some (some (.agg #[.string ⟨#[]⟩, .string ⟨#[]⟩, .int .u32 0, .int .u32 0, .int .u8 0]), 5, 48) := by kernel_rfl
/-- how far the table is read -/
def GT (T : List GTs × RS) (k : Nat) (st : RS) (zs : List GTs) : Prop := T.1 = zs ++ (rMany rTs k st).1 ∧ (rMany rTs k st).2 = T.2 ∧ zs.length + k ≤ 70000 ∧ ∀ x ∈ zs, TsBd x
theorem rMany_zero {α : Type} (f : RS → α × RS) (st : RS) : rMany f 0 st = ([], st) := by cases st <;> rfl
theorem rMany_none {α : Type} (f : RS → α × RS) (k : Nat) : rMany f k none = ([], none) := by cases k <;> rfl
theorem rTs_bd (st : RS) : TsBd (rTs st).1 := by
  have a1 := rText_bd st
  have a2 := rText_bd (rText st).2
  have a3 := rNum_bd 4 (rText (rText st).2).2
  have a4 := rNum_bd 2 (rNum 4 (rText (rText st).2).2).2
  have a5 := rNum_bd 1 (rNum 2 (rNum 4 (rText (rText st).2).2).2).2
  rw [p4] at a3; rw [p2] at a4; rw [p1] at a5
  simp only [TsBd, rTs]
  omega
theorem GT.step {T : List GTs × RS} {k : Nat} {r : BL} {zs : List GTs} (h : GT T (k + 1) (some r) zs) : GT T k (rTs (some r)).2 (zs ++ [(rTs (some r)).1]) := by
  obtain ⟨h2, h3, h4, h5⟩ := h
  rw [rMany] at h2 h3
  refine ⟨by simp [h2], h3, by simp; omega, fun x hx => ?_⟩
  rcases List.mem_append.1 hx with hx | hx
  · exact h5 x hx
  · obtain rfl : x = _ := (by simpa using hx); exact rTs_bd _
theorem GT.done {T : List GTs × RS} {k : Nat} {st : RS} {zs : List GTs} (h : GT T k st zs) (hk : k = 0 ∨ st = none) : zs = T.1 ∧ st = T.2 := by
  obtain ⟨h2, h3, -⟩ := h
  rcases hk with rfl | rfl
  · rw [rMany_zero] at h2 h3; rw [List.append_nil] at h2; exact ⟨h2.symm, h3⟩
  · rw [rMany_none] at h2 h3; rw [List.append_nil] at h2; exact ⟨h2.symm, h3⟩
/-- what Get answers -/
def getTV (s : ByteArray) : List GTs × Int := match getT s.data.toList with | some t => (t, 0) | none => ([], 7)
def GotT (r : List GTs × Int) (w : World) (e : Ending) (w' : World) : Prop := ∃ v, e = .returned (.tuple #[v, .int .i64 r.2]) ∧ TabAt w' v r.1 ∧ Below w.heap.size w w'
theorem rdTake4 (rb : Nat) (s : ByteArray) (st : RS) (w : World) (h : RdS w rb s st) : Calls Tryd.prog 33 #[.pointer (some ⟨rb, 0, none⟩), .int .i64 4] w (TkPost rb 4 s st w) := rdTake_any rb 4 s st w h
theorem new_five (w : World) (a b : ByteArray) (c d e : Int) :
    ∀ j u, (tsCells ⟨a, b, c, d, e⟩)[j]? = some u → (w.alloc (.cells #[.string a, .string b, .int .u32 c, .int .u32 d, .int .u8 e] 43)).cell? ((⟨w.heap.size, 0, none⟩ : Addr).add j) = some u := by
  intro j u hu
  rw [add_at, Nat.zero_add]
  match j, hu with
  | 0, hu => cases hu; simp [go_sem]
  | 1, hu => cases hu; simp [go_sem]
  | 2, hu => cases hu; simp [go_sem]
  | 3, hu => cases hu; simp [go_sem]
  | 4, hu => cases hu; simp [go_sem]
theorem five_one (x : GTs) : ∀ u ∈ tsCells x, u.oneCell' = true := by
  intro u hu
  simp only [tsCells, List.mem_cons, List.not_mem_nil, or_false] at hu
  rcases hu with rfl | rfl | rfl | rfl | rfl <;> rfl
set_option maxRecDepth 100000 in
set_option maxHeartbeats 4000000 in
theorem whGet_any (s : ByteArray) (w : World) (hz : s.size ≤ 140737488355328) :
    Calls Tryd.prog 11 #[.string s] w (GotT (getTV s) w) := by
  go_enter Tryd.func11, Tryd.ntmps11
  go_wp2_with fail
  refine (new_any s w hz).mono ?_
  rintro e w1 ⟨rfl, k1, k2⟩
  have K1 : Hid (RdS w1 w.heap.size s (some s.data.toList)) := ⟨0, 0, k1, by rw [stOf_ok]; rfl⟩
  have hz1 : w.heap.size < w1.heap.size := k1.lt
  have HB1 : Hid (Below w.heap.size w w1) := k2
  clear k1 k2
  generalize hrb : w.heap.size = rb at K1 hz1
  have hrw : w.heap.size ≤ rb := by omega
  have HRB := Lib.hid hrb; clear hrb
  go_upto_region 2 with fail
  have HS : Hid (TabSt (fun w st => RdS w rb s st) (fun g => g = w1.heap.size) 64 rb (some s.data.toList) (.slice none 0 0) [] w1 (w1.alloc (.cells #[.pointer (some ⟨rb, 0, none⟩)] 64))) := by
    have hb := alloc_old w1 (.cells #[.pointer (some ⟨rb, 0, none⟩)] 64)
    refine ⟨rdrT_obj rb s, fun g hg => ?_, World.ownsRow_nil _ _ _ _, K1.out.congr (hb.block rb hz1), KB.of_below hb, hz1, by decide⟩
    subst hg
    exact ⟨heap_alloc_new w1 _, Nat.le_refl _⟩
  generalize w1.alloc (.cells #[.pointer (some ⟨rb, 0, none⟩)] 64) = w2 at HS ⊢
  generalize w1.heap.size = qb at HS ⊢
  have c := HS.out.c (qb := qb) rfl
  go_wp2_with fail
  refine (rdTake4 rb s _ w2 HS.out.rd).mono ?_
  rintro e w3 ⟨c3, rfl, -, k1, k2⟩
  replace HS := Lib.hid (HS.out.read k1 k2)
  clear k1 k2 c
  have c := HS.out.c (qb := qb) rfl
  have HRT : Hid (rTab s.data.toList = ((rTake 4 (some s.data.toList)).1, (rMany rTs (rNum 2 (rTake 4 (some s.data.toList)).2).1.toNat (rNum 2 (rTake 4 (some s.data.toList)).2).2).1, (rMany rTs (rNum 2 (rTake 4 (some s.data.toList)).2).1.toNat (rNum 2 (rTake 4 (some s.data.toList)).2).2).2)) := rfl
  generalize rTake 4 (some s.data.toList) = tk at HS HRT ⊢
  obtain ⟨mg, st1⟩ := tk
  simp only [] at HS HRT ⊢
  have HBD := Lib.hid (rNum_bd 2 st1)
  rw [p2] at HBD
  have HC := Lib.hid (readNum2 rb s st1 w3 HS.out.rd)
  unfold RNPost at HC
  generalize rNum 2 st1 = nn at HC HBD HRT
  obtain ⟨n1, st2⟩ := nn
  simp only [] at HC HBD HRT
  obtain ⟨k, rfl⟩ := Int.eq_ofNat_of_zero_le HBD.out.1
  have hk : (k : Int) < 65536 := HBD.out.2
  rw [Int.toNat_natCast] at HRT
  go_wp2_with fail
  refine HC.out.mono ?_
  rintro e w4 ⟨rfl, k1, k2⟩
  replace HS := Lib.hid (HS.out.read k1 k2); clear k1 k2 HC HBD c
  have HG0 : Hid (GT (rMany rTs k st2) k st2 []) := ⟨rfl, rfl, by simp; omega, fun x hx => by cases hx⟩
  generalize rMany rTs k st2 = T at HG0 HRT
  obtain ⟨iS, s0, s1, s2, s3⟩ := info_parts info_ts
  have HI := Lib.hid (And.intro s0 (And.intro s1 (And.intro s2 s3)))
  clear s0 s1 s2 s3
  go_wp2
  go_loopw [7, 8] (fun v7 v8 wr => ∃ (j : Nat) (st' : RS) (zs : List GTs), v8 = .int .u32 j ∧ GT T j st' zs ∧ TabSt (fun w st => RdS w rb s st) (fun g => g = qb) 64 rb st' v7 zs w1 wr) (fun _ v8 _ => (intOf v8).toNat)
  case atStart => exact ⟨k, st2, [], rfl, HG0.out, HS.out⟩
  case round =>
    clear HG0 HS
    obtain ⟨j, st', zs, rfl, hg, hs⟩ := hrel
    have HG := Lib.hid hg; have HS := Lib.hid hs
    have hj := hg.2.2.1
    clear hg hs
    obtain ⟨a, f, hb, he⟩ := HS.out.rd
    have HF := Lib.hid (fault_any rb s a f wr hb)
    have HE := Lib.hid he; clear hb he
    have c := HS.out.c (qb := qb) rfl
    obtain ⟨pv, cv, rfl⟩ := own_shape HS.out.o
    by_cases hround : j ≠ 0 ∧ f = 0
    · obtain ⟨hj0, rfl⟩ := hround
      have d : decide ((0 : Int) < (j : Int)) = true := by simp; omega
      have d' : decide (0 < j) = true := by simp; omega
      have HE2 : Hid (st' = some (s.data.toList.drop a)) := HE.out.trans stOf_ok
      generalize s.data.toList.drop a = r at HE2
      obtain ⟨i, rfl⟩ : ∃ i, j = i + 1 := ⟨j - 1, by omega⟩
      have hg := HG.out
      rw [HE2.out] at hg
      have HGS := Lib.hid hg.step
      rw [HE2.out] at HS
      clear hg HE
      go_wp2_with fail
      refine HF.out.mono ?_
      rintro e w5 ⟨rfl, rfl⟩
      clear HF c
      replace HS := Lib.hid (HS.out.keep (Below.refl _ _).drew)
      have c := HS.out.c (qb := qb) rfl
      have hwr : IntKind.u8.wrap (rNum 1 (rNum 2 (rNum 4 (rText (rText (some r)).2).2).2).2).1 = (rNum 1 (rNum 2 (rNum 4 (rText (rText (some r)).2).2).2).2).1 := by have := rNum_bd 1 (rNum 2 (rNum 4 (rText (rText (some r)).2).2).2).2; rw [p1] at this; rw [IntKind.wrap_u8]; omega
      have hb5 := rNum_bd 1 (rNum 2 (rNum 4 (rText (rText (some r)).2).2).2).2
      rw [p1] at hb5
      have hb50 := hb5.1
      have hb51 : (rNum 1 (rNum 2 (rNum 4 (rText (rText (some r)).2).2).2).2).1 ≤ 255 := by omega
      clear hb5
      go_wp2_with fail
      go_region_held3 (fun w' => w'.cell? ⟨qb, 0, none⟩ = some (.pointer (some ⟨rb, 0, none⟩))) (first | go_keep | assumption) (first
        | (go_at_call 36; (with_reducible refine (readWord_any rb s _ _ HS.out.rd).mono ?_); rintro e wn ⟨rfl, k1, k2⟩; replace HS := Lib.hid (HS.out.read k1 k2); have cn := HS.out.c (qb := qb) rfl; clear k1 k2)
        | (go_at_call 34; (with_reducible first | refine (readNum4 rb s _ _ HS.out.rd).mono ?_ | refine (readNum2 rb s _ _ HS.out.rd).mono ?_ | refine (readNum1 rb s _ _ HS.out.rd).mono ?_); rintro e wn ⟨rfl, k1, k2⟩; replace HS := Lib.hid (HS.out.read k1 k2); have cn := HS.out.c (qb := qb) rfl; clear k1 k2)
        | (refine step_append_own_at rfl (.tmp 30) (.tmp 43) 22 rfl w1.heap.size 43 iS _ 5 48 Tryd.underlying22 HI.out.1 HI.out.2.1 HI.out.2.2.1 HI.out.2.2.2 rfl (by decide) (.slice pv zs.length cv) zs.length (zs.flatMap tsCells) (by simp [Act.eval]) (HS.out.o.alloc _) ⟨wn.heap.size, 0, none⟩ 1 1 (tsCells (rTs (some r)).1) (by simp [Act.eval]) rfl (new_five wn _ _ _ _ _) (five_one _) (by unfold maxLen; omega) (by omega) (by have := HS.out.kb.size; simp; omega) ?_; intro v' w9 hown hgrow hv; obtain ⟨pw, cw, rfl⟩ := own_shape hown; have HS9 := Lib.hid (HS.out.add hown hgrow); have cn9 := HS9.out.c (qb := qb) rfl; clear hown hgrow hv))
      all_goals
        clear HS c hwr hb50 hb51
        go_wp2
        go_roundw
        case rel => exact ⟨i, _, _, by first | rfl | go_num, HGS.out, HS9.out⟩
        case measure => simp [intOf]
    · have HD := Lib.hid (HG.out.done (by
        by_cases hj0 : j = 0
        · exact .inl hj0
        · exact .inr (HE.out.trans (stOf_spoilt fun e => hround ⟨hj0, e⟩))))
      have hdone : (decide ((0 : Int) < (j : Int)) = false ∧ decide (0 < j) = false) ∨ (decide ((0 : Int) < (j : Int)) = true ∧ decide (0 < j) = true ∧ (f == 0) = false) := by
        by_cases hj0 : j = 0
        · exact .inl ⟨by simp; omega, by simp; omega⟩
        · exact .inr ⟨by simp; omega, by simp; omega, by simp; exact fun e => hround ⟨hj0, e⟩⟩
      have HBDY := Lib.hid HG.out.2.2.2
      clear hround
      obtain ⟨ys, st5⟩ := T
      simp only [] at HD HRT
      obtain ⟨rfl, rfl⟩ := HD.out
      clear HD HG HE
      have hj2 : zs.length ≤ 70000 := by omega
      clear hj
      have HEN := Lib.hid (rdEnd_any rb s st' _ HS.out.rd)
      rcases hdone with ⟨d, d'⟩ | ⟨d, d', bf⟩
      · go_wp2_with fail
        refine HEN.out.mono ?_
        rintro e w7 ⟨c7, rfl, hc7, k1⟩
        have HK := Lib.hid k1
        have HC7 := Lib.hid hc7; clear hc7 k1
        clear c d d' HEN HF
        have HS7 : Hid (KR rb w1 w7 ∧ w7.ownsRow w1.heap.size 43 5 (.slice pv zs.length cv) zs.length (zs.flatMap tsCells)) := ⟨HS.out.kb.trans HK.out, own_congr HS.out.o fun g hg => HK.out.block g (HS.out.o.lt g hg).2 (by have := (HS.out.o.lt g hg).1; omega)⟩
        clear HS HK
        have HW7 : Hid (Below w.heap.size w w7) := HB1.out.trans (HS7.out.1.below HB1.out.size (fun g hg => by have := HRB.out; omega))
        have HO := Lib.hid HS7.out.2
        clear HS7
        by_cases hst : st' = some []
        · have hc0 : c7 = 0 := HC7.out.2 hst
          subst hc0
          by_cases hmg : mg = magicT
          · have bl : (bsOf mg).toList = [65, 83, 84, 49] := by rw [hmg, ByteArray.toList_eq]; rfl
            have HTA : Hid (TabAt w7 (.slice pv zs.length cv) zs) := ts_back HBDY.out (by omega) HO.out
            have HCK := Lib.hid (whCheck_any _ zs w7 HTA.out)
            by_cases hmay : tabOk zs = true
            · rw [hmay] at HCK
              simp only [errB, if_true] at HCK
              have HN : Hid (getTV s = (zs, 0)) := by rw [Hid, getTV, getT, if_pos (by rw [HRT.out]; exact ⟨hst, hmg, hmay⟩), HRT.out]
              clear hmg hst hmay
              go_wp2_with fail
              refine HCK.out.mono ?_
              rintro e w8 ⟨rfl, hB8⟩
              replace HTA := Lib.hid (HTA.out.keep' hB8)
              replace HW7 := Lib.hid (HW7.out.trans (hB8.mono HW7.out.size))
              clear hB8 HCK
              go_wp2
              go_ret2
              rw [HN.out]
              exact ⟨_, rfl, HTA.out, HW7.out⟩
            · have hmay' : tabOk zs = false := by simpa using hmay
              rw [hmay'] at HCK
              simp only [errB, Bool.false_eq_true, if_false] at HCK
              have HN : Hid (getTV s = ([], 7)) := by rw [Hid, getTV, getT, if_neg (by rw [HRT.out]; exact fun h => hmay h.2.2)]
              clear hmg hst hmay hmay'
              go_wp2_with fail
              refine HCK.out.mono ?_
              rintro e w8 ⟨rfl, hB8⟩
              replace HW7 := Lib.hid (HW7.out.trans (hB8.mono HW7.out.size))
              clear hB8 HCK
              go_wp2
              go_ret2
              rw [HN.out]
              exact ⟨_, rfl, rowAt_nil, HW7.out⟩
          · have bl : ¬ (bsOf mg).toList = [65, 83, 84, 49] := by rw [ByteArray.toList_eq]; exact hmg
            have HN : Hid (getTV s = ([], 7)) := by rw [Hid, getTV, getT, if_neg (by rw [HRT.out]; exact fun h => hmg h.2.1)]
            clear hmg hst
            go_wp2
            go_ret2
            rw [HN.out]
            exact ⟨_, rfl, rowAt_nil, HW7.out⟩
        · have bc : (c7 != 0) = true := by simp; exact fun e => hst (HC7.out.1 e)
          have HN : Hid (getTV s = ([], 7)) := by rw [Hid, getTV, getT, if_neg (by rw [HRT.out]; exact fun h => hst h.1)]
          clear hst
          go_wp2
          go_ret2
          rw [HN.out]
          exact ⟨_, rfl, rowAt_nil, HW7.out⟩
      · go_wp2_with fail
        refine HF.out.mono ?_
        rintro e w5 ⟨rfl, rfl⟩
        go_wp2_with fail
        refine HEN.out.mono ?_
        rintro e w7 ⟨c7, rfl, hc7, k1⟩
        have HK := Lib.hid k1
        have HC7 := Lib.hid hc7; clear hc7 k1
        clear c d d' HEN HF bf
        have HS7 : Hid (KR rb w1 w7 ∧ w7.ownsRow w1.heap.size 43 5 (.slice pv zs.length cv) zs.length (zs.flatMap tsCells)) := ⟨HS.out.kb.trans HK.out, own_congr HS.out.o fun g hg => HK.out.block g (HS.out.o.lt g hg).2 (by have := (HS.out.o.lt g hg).1; omega)⟩
        clear HS HK
        have HW7 : Hid (Below w.heap.size w w7) := HB1.out.trans (HS7.out.1.below HB1.out.size (fun g hg => by have := HRB.out; omega))
        have HO := Lib.hid HS7.out.2
        clear HS7
        by_cases hst : st' = some []
        · have hc0 : c7 = 0 := HC7.out.2 hst
          subst hc0
          by_cases hmg : mg = magicT
          · have bl : (bsOf mg).toList = [65, 83, 84, 49] := by rw [hmg, ByteArray.toList_eq]; rfl
            have HTA : Hid (TabAt w7 (.slice pv zs.length cv) zs) := ts_back HBDY.out (by omega) HO.out
            have HCK := Lib.hid (whCheck_any _ zs w7 HTA.out)
            by_cases hmay : tabOk zs = true
            · rw [hmay] at HCK
              simp only [errB, if_true] at HCK
              have HN : Hid (getTV s = (zs, 0)) := by rw [Hid, getTV, getT, if_pos (by rw [HRT.out]; exact ⟨hst, hmg, hmay⟩), HRT.out]
              clear hmg hst hmay
              go_wp2_with fail
              refine HCK.out.mono ?_
              rintro e w8 ⟨rfl, hB8⟩
              replace HTA := Lib.hid (HTA.out.keep' hB8)
              replace HW7 := Lib.hid (HW7.out.trans (hB8.mono HW7.out.size))
              clear hB8 HCK
              go_wp2
              go_ret2
              rw [HN.out]
              exact ⟨_, rfl, HTA.out, HW7.out⟩
            · have hmay' : tabOk zs = false := by simpa using hmay
              rw [hmay'] at HCK
              simp only [errB, Bool.false_eq_true, if_false] at HCK
              have HN : Hid (getTV s = ([], 7)) := by rw [Hid, getTV, getT, if_neg (by rw [HRT.out]; exact fun h => hmay h.2.2)]
              clear hmg hst hmay hmay'
              go_wp2_with fail
              refine HCK.out.mono ?_
              rintro e w8 ⟨rfl, hB8⟩
              replace HW7 := Lib.hid (HW7.out.trans (hB8.mono HW7.out.size))
              clear hB8 HCK
              go_wp2
              go_ret2
              rw [HN.out]
              exact ⟨_, rfl, rowAt_nil, HW7.out⟩
          · have bl : ¬ (bsOf mg).toList = [65, 83, 84, 49] := by rw [ByteArray.toList_eq]; exact hmg
            have HN : Hid (getTV s = ([], 7)) := by rw [Hid, getTV, getT, if_neg (by rw [HRT.out]; exact fun h => hmg h.2.1)]
            clear hmg hst
            go_wp2
            go_ret2
            rw [HN.out]
            exact ⟨_, rfl, rowAt_nil, HW7.out⟩
        · have bc : (c7 != 0) = true := by simp; exact fun e => hst (HC7.out.1 e)
          have HN : Hid (getTV s = ([], 7)) := by rw [Hid, getTV, getT, if_neg (by rw [HRT.out]; exact fun h => hst h.1)]
          clear hst
          go_wp2
          go_ret2
          rw [HN.out]
          exact ⟨_, rfl, rowAt_nil, HW7.out⟩
end Go.Proofs.YtiegjplldfodkaaDoor
