/- The walk of aediculeref34.Get. -/
import Derived.Test.YtiegjplldfodkaaDoorWTabGet
import Derived.Test.YtiegjplldfodkaaDoorWRefTabMay
namespace Go.Proofs.YtiegjplldfodkaaDoor
open Go.RowKit
theorem rrTake4 (rb : Nat) (st : RS) (w : World) (h : RrS w rb st) : Calls Tryd.prog 38 #[.pointer (some ⟨rb, 0, none⟩), .int .i64 4] w (RkPost rb 4 st w) := rrTake_any rb 4 st w h
theorem rrNum1 (rb : Nat) (st : RS) (w : World) (h : RrS w rb st) : Calls Tryd.prog 39 #[.pointer (some ⟨rb, 0, none⟩), .int .i64 1] w (RmPost rb 1 st w) := rrNum_any rb 1 st w h (by omega) (by omega)
theorem rrNum2 (rb : Nat) (st : RS) (w : World) (h : RrS w rb st) : Calls Tryd.prog 39 #[.pointer (some ⟨rb, 0, none⟩), .int .i64 2] w (RmPost rb 2 st w) := rrNum_any rb 2 st w h (by omega) (by omega)
theorem rrNum4 (rb : Nat) (st : RS) (w : World) (h : RrS w rb st) : Calls Tryd.prog 39 #[.pointer (some ⟨rb, 0, none⟩), .int .i64 4] w (RmPost rb 4 st w) := rrNum_any rb 4 st w h (by omega) (by omega)
theorem TabSt.set {RD : World → RS → Prop} {Q : Nat → Prop} {T : TypeId} {rb : Nat} {st : RS} {v : Value} {ts : List GTs} {w0 w : World} (h : TabSt RD Q T rb st v ts w0 w) (xb : Nat) (h0 : w0.heap.size ≤ xb) (hv : ∀ g, v.ownBlock = some g → g ≠ xb) (hq : ∀ g, Q g → g ≠ xb) (j : Nat) (u : Value) : TabSt RD Q T rb st v ts w0 (w.setCell ⟨xb, j, none⟩ u) := by
  have h1 := h.rlt
  have hset : ∀ g, g ≠ xb → (w.setCell ⟨xb, j, none⟩ u).heap[g]? = w.heap[g]? := fun g hg => Below.heap_setCell _ _ _ _ (by simpa using hg)
  exact ⟨h.r, fun g hg => by rw [hset g (hq g hg)]; exact h.q g hg, own_congr h.o fun g hg => hset g (hv g hg), h.r.congr h.rd (hset rb (by omega)), KB.setCell h.kb (.inr h0) _, h1, h.ne⟩
set_option maxRecDepth 100000 in
set_option maxHeartbeats 4000000 in
theorem refTabGet_any (s : ByteArray) (w : World) (hz : s.size ≤ 140737488355328) :
    Calls Tryd.prog 12 #[.string s] w (GotT (getTV s) w) := by
  go_enter Tryd.func12, Tryd.ntmps12
  go_upto_region 2 with fail
  have K1 : Hid (RrS (w.alloc (.cells #[.string s, .int .i64 0] 70)) w.heap.size (some s.data.toList)) := ⟨s, 0, ⟨heap_alloc_new w _, hz⟩, rrOf_ok.symm⟩
  have HB1 : Hid (Below w.heap.size w (w.alloc (.cells #[.string s, .int .i64 0] 70))) := alloc_old _ _
  generalize w.alloc (.cells #[.string s, .int .i64 0] 70) = w1 at K1 HB1 ⊢
  have hz1 : w.heap.size < w1.heap.size := K1.out.lt
  generalize hrb : w.heap.size = rb at K1 hz1
  have hrw : w.heap.size ≤ rb := by omega
  have HRB := Lib.hid hrb; clear hrb
  have HS : Hid (TabSt (fun w st => RrS w rb st) (fun _ => False) 0 rb (some s.data.toList) (.slice none 0 0) [] w1 w1) :=
    ⟨rdrT_ref rb, fun g hg => hg.elim, World.ownsRow_nil _ _ _ _, K1.out, KB.refl _ _, hz1, by decide⟩
  clear K1
  go_wp2_with fail
  refine (rrTake4 rb _ w1 HS.out.rd).mono ?_
  rintro e w3 ⟨c3, rfl, -, k1, k2⟩
  replace HS := Lib.hid (HS.out.read k1 k2)
  clear k1 k2
  have HRT : Hid (rTab s.data.toList = ((rTake 4 (some s.data.toList)).1, (rMany rTs (rNum 2 (rTake 4 (some s.data.toList)).2).1.toNat (rNum 2 (rTake 4 (some s.data.toList)).2).2).1, (rMany rTs (rNum 2 (rTake 4 (some s.data.toList)).2).1.toNat (rNum 2 (rTake 4 (some s.data.toList)).2).2).2)) := rfl
  generalize rTake 4 (some s.data.toList) = tk at HS HRT ⊢
  obtain ⟨mg, st1⟩ := tk
  simp only [] at HS HRT ⊢
  have HBD := Lib.hid (rNum_bd 2 st1)
  rw [p2] at HBD
  have HC := Lib.hid (rrNum2 rb st1 w3 HS.out.rd)
  unfold RmPost at HC
  generalize rNum 2 st1 = nn at HC HBD HRT
  obtain ⟨n1, st2⟩ := nn
  simp only [] at HC HBD HRT
  obtain ⟨k, rfl⟩ := Int.eq_ofNat_of_zero_le HBD.out.1
  have hk : (k : Int) < 65536 := HBD.out.2
  rw [Int.toNat_natCast] at HRT
  go_wp2_with fail
  refine HC.out.mono ?_
  rintro e w4 ⟨c4, rfl, -, k1, k2⟩
  replace HS := Lib.hid (HS.out.read k1 k2); clear k1 k2 HC HBD
  have HG0 : Hid (GT (rMany rTs k st2) k st2 []) := ⟨rfl, rfl, by simp; omega, fun x hx => by cases hx⟩
  generalize rMany rTs k st2 = T at HG0 HRT
  obtain ⟨iS, s0, s1, s2, s3⟩ := info_parts info_ts
  have HI := Lib.hid (And.intro s0 (And.intro s1 (And.intro s2 s3)))
  clear s0 s1 s2 s3
  go_wp2
  go_loopw [9, 10] (fun v9 v10 wr => ∃ (i j : Nat) (st' : RS) (zs : List GTs), v10 = .int .u32 i ∧ i + j = k ∧ GT T j st' zs ∧ TabSt (fun w st => RrS w rb st) (fun _ => False) 0 rb st' v9 zs w1 wr) (fun _ v10 _ => k - (intOf v10).toNat)
  case atStart => exact ⟨0, k, st2, [], rfl, by omega, HG0.out, HS.out⟩
  case round =>
    clear HG0 HS
    obtain ⟨i, j, st', zs, rfl, hij, hg, hs⟩ := hrel
    have HG := Lib.hid hg; have HS := Lib.hid hs
    have hj := hg.2.2.1
    clear hg hs
    obtain ⟨sS, fF, hb, he⟩ := HS.out.rd
    have c1 := hb.c1
    have HE := Lib.hid he; clear hb he
    obtain ⟨pv, cv, rfl⟩ := own_shape HS.out.o
    by_cases hround : j ≠ 0 ∧ fF = 0
    · obtain ⟨hj0, rfl⟩ := hround
      have HE2 : Hid (st' = some sS.data.toList) := HE.out.trans rrOf_ok
      generalize sS.data.toList = r at HE2
      obtain ⟨j', rfl⟩ : ∃ j', j = j' + 1 := ⟨j - 1, by omega⟩
      have hg := HG.out
      rw [HE2.out] at hg
      have HGS := Lib.hid hg.step
      rw [HE2.out] at HS
      clear hg HE HG HE2
      have d1 : decide ((i : Int) < (k : Int)) = true := by simp; omega
      have d1' : decide (i < k) = true := by simp; omega
      go_upto_region 9 with fail
      have hxw : w1.heap.size ≤ wr.heap.size := HS.out.kb.size
      have HV : Hid (∀ g, (Value.slice pv zs.length cv).ownBlock = some g → g ≠ wr.heap.size) := fun g hg => by have := (HS.out.o.lt g hg).2; omega
      have HX : Hid ((wr.alloc (.cells #[.string ⟨#[]⟩, .string ⟨#[]⟩, .int .u32 0, .int .u32 0, .int .u8 0] 43)).heap[wr.heap.size]? = some (.cells #[.string ⟨#[]⟩, .string ⟨#[]⟩, .int .u32 0, .int .u32 0, .int .u8 0] 43 (0, 0))) := heap_alloc_new wr _
      replace HS := Lib.hid (HS.out.keep (alloc_old wr (.cells #[.string ⟨#[]⟩, .string ⟨#[]⟩, .int .u32 0, .int .u32 0, .int .u8 0] 43)))
      have c1' : (wr.alloc (.cells #[.string ⟨#[]⟩, .string ⟨#[]⟩, .int .u32 0, .int .u32 0, .int .u8 0] 43)).heap.size = wr.heap.size + 1 := by simp
      clear c1'
      generalize wr.alloc (.cells #[.string ⟨#[]⟩, .string ⟨#[]⟩, .int .u32 0, .int .u32 0, .int .u8 0] 43) = wb at HS HX ⊢
      generalize wr.heap.size = xb at hxw HV HX ⊢
      have hwr : IntKind.u8.wrap (rNum 1 (rNum 2 (rNum 4 (rText (rText (some r)).2).2).2).2).1 = (rNum 1 (rNum 2 (rNum 4 (rText (rText (some r)).2).2).2).2).1 := by have := rNum_bd 1 (rNum 2 (rNum 4 (rText (rText (some r)).2).2).2).2; rw [p1] at this; rw [IntKind.wrap_u8]; omega
      have hb5 := rNum_bd 1 (rNum 2 (rNum 4 (rText (rText (some r)).2).2).2).2
      rw [p1] at hb5
      have hb50 := hb5.1
      have hb51 : (rNum 1 (rNum 2 (rNum 4 (rText (rText (some r)).2).2).2).2).1 ≤ 255 := by omega
      clear hb5
      go_wp2_with fail
      refine (rrText_any rb _ _ HS.out.rd).mono ?_
      rintro e wn ⟨ce, rfl, k1, k2⟩
      replace HX := Lib.hid ((k2.block xb (Array.getElem?_eq_some_iff.1 HX.out).1 (by have := HS.out.rlt; omega)).trans HX.out)
      replace HS := Lib.hid (HS.out.read k1 k2); clear k1 k2 c1
      have bb : wn.cell? ⟨xb, 0, none⟩ = some (.string ⟨#[]⟩) := Lib.cell_of_heap HX.out 0
      have ff : wn.frozen? ⟨xb, 0, none⟩ = false := Lib.frozen_of_heap HX.out 0
      go_upto_region 10 with fail
      replace HX : Hid ((wn.setCell ⟨xb, 0, none⟩ (.string (rText (some r)).1)).heap[xb]? = some (.cells #[.string (rText (some r)).1, .string ⟨#[]⟩, .int .u32 0, .int .u32 0, .int .u8 0] 43 (0, 0))) := by
        rw [Hid]; simp [World.setCell, Array.getElem?_modify, HX.out]
      replace HS := Lib.hid (HS.out.set xb hxw HV.out (fun g hg => hg.elim) 0 (.string (rText (some r)).1))
      clear bb ff
      generalize wn.setCell ⟨xb, 0, none⟩ (.string (rText (some r)).1) = wb0 at HS HX ⊢
      go_wp2_with fail
      refine (rrText_any rb _ _ HS.out.rd).mono ?_
      rintro e wn ⟨ce, rfl, k1, k2⟩
      replace HX := Lib.hid ((k2.block xb (Array.getElem?_eq_some_iff.1 HX.out).1 (by have := HS.out.rlt; omega)).trans HX.out)
      replace HS := Lib.hid (HS.out.read k1 k2); clear k1 k2
      have bb : wn.cell? ⟨xb, 1, none⟩ = some (.string ⟨#[]⟩) := Lib.cell_of_heap HX.out 1
      have ff : wn.frozen? ⟨xb, 1, none⟩ = false := Lib.frozen_of_heap HX.out 1
      go_upto_region 11 with fail
      replace HX : Hid ((wn.setCell ⟨xb, 1, none⟩ (.string (rText (rText (some r)).2).1)).heap[xb]? = some (.cells #[.string (rText (some r)).1, .string (rText (rText (some r)).2).1, .int .u32 0, .int .u32 0, .int .u8 0] 43 (0, 0))) := by
        rw [Hid]; simp [World.setCell, Array.getElem?_modify, HX.out]
      replace HS := Lib.hid (HS.out.set xb hxw HV.out (fun g hg => hg.elim) 1 (.string (rText (rText (some r)).2).1))
      clear bb ff
      generalize wn.setCell ⟨xb, 1, none⟩ (.string (rText (rText (some r)).2).1) = wb1 at HS HX ⊢
      go_wp2_with fail
      refine (rrNum4 rb _ _ HS.out.rd).mono ?_
      rintro e wn ⟨ce, rfl, -, k1, k2⟩
      replace HX := Lib.hid ((k2.block xb (Array.getElem?_eq_some_iff.1 HX.out).1 (by have := HS.out.rlt; omega)).trans HX.out)
      replace HS := Lib.hid (HS.out.read k1 k2); clear k1 k2
      have bb : wn.cell? ⟨xb, 2, none⟩ = some (.int .u32 0) := Lib.cell_of_heap HX.out 2
      have ff : wn.frozen? ⟨xb, 2, none⟩ = false := Lib.frozen_of_heap HX.out 2
      go_upto_region 12 with fail
      replace HX : Hid ((wn.setCell ⟨xb, 2, none⟩ (.int .u32 (rNum 4 (rText (rText (some r)).2).2).1)).heap[xb]? = some (.cells #[.string (rText (some r)).1, .string (rText (rText (some r)).2).1, .int .u32 (rNum 4 (rText (rText (some r)).2).2).1, .int .u32 0, .int .u8 0] 43 (0, 0))) := by
        rw [Hid]; simp [World.setCell, Array.getElem?_modify, HX.out]
      replace HS := Lib.hid (HS.out.set xb hxw HV.out (fun g hg => hg.elim) 2 (.int .u32 (rNum 4 (rText (rText (some r)).2).2).1))
      clear bb ff
      generalize wn.setCell ⟨xb, 2, none⟩ (.int .u32 (rNum 4 (rText (rText (some r)).2).2).1) = wb2 at HS HX ⊢
      go_wp2_with fail
      refine (rrNum2 rb _ _ HS.out.rd).mono ?_
      rintro e wn ⟨ce, rfl, -, k1, k2⟩
      replace HX := Lib.hid ((k2.block xb (Array.getElem?_eq_some_iff.1 HX.out).1 (by have := HS.out.rlt; omega)).trans HX.out)
      replace HS := Lib.hid (HS.out.read k1 k2); clear k1 k2
      have bb : wn.cell? ⟨xb, 3, none⟩ = some (.int .u32 0) := Lib.cell_of_heap HX.out 3
      have ff : wn.frozen? ⟨xb, 3, none⟩ = false := Lib.frozen_of_heap HX.out 3
      go_upto_region 13 with fail
      replace HX : Hid ((wn.setCell ⟨xb, 3, none⟩ (.int .u32 (rNum 2 (rNum 4 (rText (rText (some r)).2).2).2).1)).heap[xb]? = some (.cells #[.string (rText (some r)).1, .string (rText (rText (some r)).2).1, .int .u32 (rNum 4 (rText (rText (some r)).2).2).1, .int .u32 (rNum 2 (rNum 4 (rText (rText (some r)).2).2).2).1, .int .u8 0] 43 (0, 0))) := by
        rw [Hid]; simp [World.setCell, Array.getElem?_modify, HX.out]
      replace HS := Lib.hid (HS.out.set xb hxw HV.out (fun g hg => hg.elim) 3 (.int .u32 (rNum 2 (rNum 4 (rText (rText (some r)).2).2).2).1))
      clear bb ff
      generalize wn.setCell ⟨xb, 3, none⟩ (.int .u32 (rNum 2 (rNum 4 (rText (rText (some r)).2).2).2).1) = wb3 at HS HX ⊢
      go_wp2_with fail
      refine (rrNum1 rb _ _ HS.out.rd).mono ?_
      rintro e wn ⟨ce, rfl, -, k1, k2⟩
      replace HX := Lib.hid ((k2.block xb (Array.getElem?_eq_some_iff.1 HX.out).1 (by have := HS.out.rlt; omega)).trans HX.out)
      replace HS := Lib.hid (HS.out.read k1 k2); clear k1 k2
      have bb : wn.cell? ⟨xb, 4, none⟩ = some (.int .u8 0) := Lib.cell_of_heap HX.out 4
      have ff : wn.frozen? ⟨xb, 4, none⟩ = false := Lib.frozen_of_heap HX.out 4
      go_upto_region 15 with fail
      replace HX : Hid ((wn.setCell ⟨xb, 4, none⟩ (.int .u8 (rNum 1 (rNum 2 (rNum 4 (rText (rText (some r)).2).2).2).2).1)).heap[xb]? = some (.cells #[.string (rText (some r)).1, .string (rText (rText (some r)).2).1, .int .u32 (rNum 4 (rText (rText (some r)).2).2).1, .int .u32 (rNum 2 (rNum 4 (rText (rText (some r)).2).2).2).1, .int .u8 (rNum 1 (rNum 2 (rNum 4 (rText (rText (some r)).2).2).2).2).1] 43 (0, 0))) := by
        rw [Hid]; simp [World.setCell, Array.getElem?_modify, HX.out]
      replace HS := Lib.hid (HS.out.set xb hxw HV.out (fun g hg => hg.elim) 4 (.int .u8 (rNum 1 (rNum 2 (rNum 4 (rText (rText (some r)).2).2).2).2).1))
      clear bb ff
      generalize wn.setCell ⟨xb, 4, none⟩ (.int .u8 (rNum 1 (rNum 2 (rNum 4 (rText (rText (some r)).2).2).2).2).1) = wb4 at HS HX ⊢
      have x0 : wb4.cell? ⟨xb, 0, none⟩ = some (.string (rText (some r)).1) := Lib.cell_of_heap HX.out 0
      have x1 : wb4.cell? ⟨xb, 1, none⟩ = some (.string (rText (rText (some r)).2).1) := Lib.cell_of_heap HX.out 1
      have x2 : wb4.cell? ⟨xb, 2, none⟩ = some (.int .u32 (rNum 4 (rText (rText (some r)).2).2).1) := Lib.cell_of_heap HX.out 2
      have x3 : wb4.cell? ⟨xb, 3, none⟩ = some (.int .u32 (rNum 2 (rNum 4 (rText (rText (some r)).2).2).2).1) := Lib.cell_of_heap HX.out 3
      have x4 : wb4.cell? ⟨xb, 4, none⟩ = some (.int .u8 (rNum 1 (rNum 2 (rNum 4 (rText (rText (some r)).2).2).2).2).1) := Lib.cell_of_heap HX.out 4
      clear hwr hb50 hb51
      have hz9 := HS.out.kb.size
      go_wp2_with (at_builtin; refine wpList_append_own_at _ rfl _ _ 22 rfl w1.heap.size 43 iS _ 5 48 Tryd.underlying22 HI.out.1 HI.out.2.1 HI.out.2.2.1 HI.out.2.2.2 rfl (by decide) _ zs.length (zs.flatMap tsCells) rfl (HS.out.o.alloc _) ⟨wb4.heap.size, 0, none⟩ 1 1 (tsCells (rTs (some r)).1) rfl rfl (new_five wb4 _ _ _ _ _) (five_one _) (by unfold maxLen; omega) (by omega) (by simp; omega) ?_)
      intro v' w9 hown hgrow _ hv
      obtain ⟨pw, cw, rfl⟩ := own_shape hown
      have HS9 := Lib.hid (HS.out.add hown hgrow)
      clear hown hgrow hv HS HX x0 x1 x2 x3 x4
      go_wp2
      go_roundw
      case rel => exact ⟨i + 1, j', _, _, by go_num, by omega, HGS.out, HS9.out⟩
      case measure => simp [intOf]; omega
    · have HD := Lib.hid (HG.out.done (by
        by_cases hj0 : j = 0
        · exact .inl hj0
        · exact .inr (HE.out.trans (rrOf_bad fun e => hround ⟨hj0, e⟩))))
      have hdone : (decide ((i : Int) < (k : Int)) = false ∧ decide (i < k) = false) ∨ (decide ((i : Int) < (k : Int)) = true ∧ decide (i < k) = true ∧ (fF == 0) = false) := by
        by_cases hj0 : j = 0
        · exact .inl ⟨by simp; omega, by simp; omega⟩
        · exact .inr ⟨by simp; omega, by simp; omega, by simp; exact fun e => hround ⟨hj0, e⟩⟩
      have HBDY := Lib.hid HG.out.2.2.2
      clear hround
      obtain ⟨ys, st5⟩ := T
      simp only [] at HD HRT
      obtain ⟨rfl, rfl⟩ := HD.out
      clear HD HG HE
      have hj2 : zs.length ≤ 70000 := by omega
      clear hj
      have HEN := Lib.hid (rrEnd_any rb st' _ HS.out.rd)
      rcases hdone with ⟨d, d'⟩ | ⟨d, d', bf⟩
      all_goals
        go_wp2_with fail
        refine HEN.out.mono ?_
        rintro e w7 ⟨c7, rfl, hc7, k1⟩
        have HK := Lib.hid k1
        have HC7 := Lib.hid hc7; clear hc7 k1
        clear c1 d d' HEN
        have HS7 : Hid (KR rb w1 w7 ∧ w7.ownsRow w1.heap.size 43 5 (.slice pv zs.length cv) zs.length (zs.flatMap tsCells)) := ⟨HS.out.kb.trans HK.out, own_congr HS.out.o fun g hg => HK.out.block g (HS.out.o.lt g hg).2 (by have := (HS.out.o.lt g hg).1; omega)⟩
        clear HS HK
        have HW7 : Hid (Below w.heap.size w w7) := HB1.out.trans (HS7.out.1.below HB1.out.size (fun g hg => by have := HRB.out; omega))
        have HO := Lib.hid HS7.out.2
        clear HS7
        by_cases hst : st' = some []
        · have hc0 : c7 = 0 := HC7.out.2 hst
          subst hc0
          by_cases hmg : mg = magicT
          · have bl : (bsOf mg).toList = [65, 83, 84, 49] := by rw [hmg, ByteArray.toList_eq]; rfl
            have HTA : Hid (TabAt w7 (.slice pv zs.length cv) zs) := ts_back HBDY.out (by omega) HO.out
            have HCK := Lib.hid (refTabMay_any _ zs w7 HTA.out)
            by_cases hmay : tabOk zs = true
            · rw [hmay] at HCK
              have HN : Hid (getTV s = (zs, 0)) := by rw [Hid, getTV, getT, if_pos (by rw [HRT.out]; exact ⟨hst, hmg, hmay⟩), HRT.out]
              clear hmg hst hmay
              go_wp2_with fail
              refine HCK.out.mono ?_
              rintro e w8 ⟨rfl, hB8⟩
              replace HTA := Lib.hid (HTA.out.keep' hB8)
              replace HW7 := Lib.hid (HW7.out.trans (hB8.mono HW7.out.size))
              clear hB8 HCK
              go_wp2
              go_ret2
              rw [HN.out]
              exact ⟨_, rfl, HTA.out, HW7.out⟩
            · have hmay' : tabOk zs = false := by simpa using hmay
              rw [hmay'] at HCK
              have HN : Hid (getTV s = ([], 7)) := by rw [Hid, getTV, getT, if_neg (by rw [HRT.out]; exact fun h => hmay h.2.2)]
              clear hmg hst hmay hmay'
              go_wp2_with fail
              refine HCK.out.mono ?_
              rintro e w8 ⟨rfl, hB8⟩
              replace HW7 := Lib.hid (HW7.out.trans (hB8.mono HW7.out.size))
              clear hB8 HCK
              go_wp2
              go_ret2
              rw [HN.out]
              exact ⟨_, rfl, rowAt_nil, HW7.out⟩
          · have bl : ¬ (bsOf mg).toList = [65, 83, 84, 49] := by rw [ByteArray.toList_eq]; exact hmg
            have HN : Hid (getTV s = ([], 7)) := by rw [Hid, getTV, getT, if_neg (by rw [HRT.out]; exact fun h => hmg h.2.1)]
            clear hmg hst
            go_wp2
            go_ret2
            rw [HN.out]
            exact ⟨_, rfl, rowAt_nil, HW7.out⟩
        · have bc : (c7 != 0) = true := by simp; exact fun e => hst (HC7.out.1 e)
          have HN : Hid (getTV s = ([], 7)) := by rw [Hid, getTV, getT, if_neg (by rw [HRT.out]; exact fun h => hst h.1)]
          clear hst
          go_wp2
          go_ret2
          rw [HN.out]
          exact ⟨_, rfl, rowAt_nil, HW7.out⟩
end Go.Proofs.YtiegjplldfodkaaDoor
