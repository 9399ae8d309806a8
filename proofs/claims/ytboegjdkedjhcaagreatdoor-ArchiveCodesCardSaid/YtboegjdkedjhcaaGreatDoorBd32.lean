/- The walk of aediculeref09.Get. -/
import Derived.Test.YtboegjdkedjhcaaGreatDoorBd07
import Derived.Test.YtboegjdkedjhcaaGreatDoorBd31
import Derived.Test.YtboegjdkedjhcaaGreatDoorBd09
namespace Go.Proofs.YtboegjdkedjhcaaGreatDoor
open Go.RowKit Go.Maps
theorem rdr_ref (rb : Nat) : Rdr rb (fun w st => RrS w rb st) := ⟨fun h k => h.congr k, fun h => h.lt⟩
theorem rrTake4 (rb : Nat) (st : RS) (w : World) (h : RrS w rb st) : Calls Tryz.prog 49 #[.pointer (some ⟨rb, 0, none⟩), .int .i64 4] w (RkPost rb 4 st w) := rrTake_any rb 4 st w h
set_option maxRecDepth 100000 in
set_option maxHeartbeats 4000000 in
theorem refGet_any (s : ByteArray) (w : World) (hz : s.size ≤ 140737488355328) :
    Calls Tryz.prog 52 #[.string s] w (GetPost s w) := by
  go_enter Tryz.func52, Tryz.ntmps52
  go_upto_region 1 with fail
  generalize hw0 : w.alloc (.cells #[.string ⟨#[]⟩, .slice none 0 0] 50) = w0
  have HB0 : Hid (Below w.heap.size w w0) := by subst hw0; exact alloc_old _ _
  have hz0 : w.heap.size < w0.heap.size := by subst hw0; simp
  have HR0 : Hid (w0.heap[w.heap.size]? = some (.cells #[.string ⟨#[]⟩, .slice none 0 0] 50 (0, 0))) := by subst hw0; exact heap_alloc_new w _
  clear hw0
  go_upto_region 2 with fail
  generalize hw1 : w0.alloc (.cells #[.string s, .int .i64 0] 108) = w1
  have K1 : Hid (RrS w1 w0.heap.size (some s.data.toList)) := by subst hw1; exact ⟨s, 0, ⟨heap_alloc_new w0 _, hz⟩, rrOf_ok.symm⟩
  have k2 : Below w0.heap.size w0 w1 := by subst hw1; exact alloc_old _ _
  have hz1 : w0.heap.size < w1.heap.size := K1.out.lt
  have HB1 : Hid (Below w.heap.size w w1) := HB0.out.trans (k2.mono (by omega))
  replace HR0 := Lib.hid ((k2.block w.heap.size hz0).trans HR0.out)
  clear hw1 k2 HB0
  generalize hrb : w0.heap.size = rb at K1 hz1
  have hrw : w.heap.size < rb := by omega
  clear hrb hz0
  go_wp2_with fail
  refine (rrTake4 rb _ w1 K1.out).mono ?_
  rintro e w3 ⟨c3, rfl, -, k1, k2⟩
  have K3 := Lib.hid k1
  have HK3 : Hid (KR rb w1 w3) := k2
  clear k1 k2 K1
  go_upto_region 3 with fail
  go_wp2_with fail
  refine (word09_any rb _ w3 K3.out).mono ?_
  rintro e w4 ⟨rfl, k1, k2⟩
  have K4 := Lib.hid k1
  have HK4 : Hid (KR rb w1 w4) := HK3.out.trans k2
  clear k1 k2 K3 HK3
  go_upto_region 4 with fail
  generalize hst4 : rText (rTake 4 (some s.data.toList)).2 = tt at K4 ⊢
  have HT := Lib.hid hst4; clear hst4
  obtain ⟨nm, st4⟩ := tt
  simp only [] at K4 ⊢
  have HS : Hid (ObjSt (fun w st => RrS w rb st) (fun _ => False) w4.heap.size rb st4 nm [] w1 (w4.alloc (.cells #[.string nm, .slice none 0 0] 50))) := by
    have hb := alloc_old w4 (.cells #[.string nm, .slice none 0 0] 50)
    exact ⟨rdr_ref rb, fun g hg => hg.elim, ⟨.slice none 0 0, [], ⟨heap_alloc_new w4 _, World.ownsRow_nil _ _ _ _, fun t ht => by cases ht⟩, rfl⟩, K4.out.congr (hb.block rb K4.out.lt), HK4.out.trans (KB.of_below hb), hz1, HK4.out.size⟩
  have HOB4 : Hid (w1.heap.size ≤ w4.heap.size) := HK4.out.size
  generalize w4.alloc (.cells #[.string nm, .slice none 0 0] 50) = w5 at HS ⊢
  generalize w4.heap.size = ob at HS HOB4 ⊢
  clear K4 HK4 w3 w4
  have HBD := Lib.hid (rNum_bd 2 st4)
  rw [p2] at HBD
  have HC := Lib.hid (one2 rb st4 _ HS.out.rd)
  unfold OnPost at HC
  have HRO : Hid (rObj s.data.toList = ((rTake 4 (some s.data.toList)).1, ⟨nm, (rMany rSym (rNum 2 st4).1.toNat (rNum 2 st4).2).1⟩, (rMany rSym (rNum 2 st4).1.toNat (rNum 2 st4).2).2)) := by
    rw [Hid, rObj, HT.out]
  generalize (rTake 4 (some s.data.toList)).1 = mg at HRO ⊢
  generalize rNum 2 st4 = nn at HC HBD HRO
  obtain ⟨n1, st5⟩ := nn
  simp only [] at HC HBD HRO
  obtain ⟨k, rfl⟩ := Int.eq_ofNat_of_zero_le HBD.out.1
  have hk : (k : Int) < 65536 := HBD.out.2
  rw [Int.toNat_natCast] at HRO
  go_wp2_with fail
  refine HC.out.mono ?_
  rintro e w6 ⟨rfl, k1, k2⟩
  replace HS := Lib.hid (HS.out.read k1 k2); clear k1 k2 HC HBD HT
  have HG0 : Hid (GO [] (rMany rSym k st5) k st5 []) := ⟨rfl, rfl, by simp; omega⟩
  generalize rMany rSym k st5 = T at HG0 HRO
  go_wp2
  go_loopw [9] (fun v9 wr => ∃ (i j : Nat) (st' : RS) (zs : List GSym), v9 = .int .u32 i ∧ i + j = k ∧ GO [] T j st' zs ∧ ObjSt (fun w st => RrS w rb st) (fun _ => False) ob rb st' nm zs w1 wr) (fun v9 _ => k - (intOf v9).toNat)
  case atStart => exact ⟨0, k, st5, [], rfl, by omega, HG0.out, HS.out⟩
  case round =>
    clear HG0 HS
    obtain ⟨i, j, st', zs, rfl, hij, hg, hs⟩ := hrel
    have HG := Lib.hid hg; have HS := Lib.hid hs
    have hj := hg.2.2
    clear hg hs
    obtain ⟨sS, fF, hb, he⟩ := HS.out.rd
    have c1 := hb.c1
    have HE := Lib.hid he; clear hb he
    by_cases hround : j ≠ 0 ∧ fF = 0
    · obtain ⟨hj0, rfl⟩ := hround
      have HE2 : Hid (st' = some sS.data.toList) := HE.out.trans rrOf_ok
      generalize sS.data.toList = r at HE2
      obtain ⟨j', rfl⟩ : ∃ j', j = j' + 1 := ⟨j - 1, by omega⟩
      have hg := HG.out
      rw [HE2.out] at hg
      have HGS := Lib.hid hg.step
      rw [HE2.out] at HS
      clear hg HE HG HE2
      have d1 : decide ((i : Int) < (k : Int)) = true := by simp; omega
      have d1' : decide (i < k) = true := by simp; omega
      go_wp2_with fail
      replace HS := Lib.hid (HS.out.keep (Below.refl _ _).drew)
      obtain ⟨v, ts, ho, hts⟩ := HS.out.o
      obtain ⟨pv, cv, rfl⟩ := own_shape ho.2.1
      have HO := Lib.hid ho; clear ho
      have HTS := Lib.hid hts; clear hts
      have htl : ts.length ≤ 70000 := by have := congrArg List.length HTS.out; simp at this; omega
      have c5 : wr.drew.cell? ⟨ob, 1, none⟩ = some (.slice pv ts.length cv) := Lib.cell_of_heap HO.out.1 1
      have f5 : wr.drew.frozen? ⟨ob, 1, none⟩ = false := Lib.frozen_of_heap HO.out.1 1
      have HRB := Lib.hid HS.out.rlt
      have HOB := Lib.hid HS.out.ole
      have HK := Lib.hid HS.out.kb.size
      have HC := Lib.hid (refSymRd_any rb (some r) wr.drew HS.out.rd)
      generalize hrr : rSym (some r) = rr at HC HGS
      have HR := Lib.hid hrr; clear hrr
      obtain ⟨⟨yn, yb, yk, ys', yy, yr, yt⟩, st''⟩ := rr
      unfold RSPost at HC
      simp only [] at HC HGS
      obtain ⟨iS, s0, s1, s2, s3⟩ := info_parts info_sym
      have HI := Lib.hid (And.intro s0 (And.intro s1 (And.intro s2 s3)))
      clear s0 s1 s2 s3
      go_region_law (first
        | ((refine step_call rfl 97 #[.tmp 37] #[106] rfl Tryz.func97 (by kernel_rfl) (by kernel_rfl) #[.pointer (some ⟨rb, 0, none⟩)] (by simp [Act.eval, Act.put]) HC.out ?_); rintro e wn ⟨vr, vn, rfl, k1, k2, k3, k4⟩; refine ⟨_, rfl, ?_⟩; obtain ⟨pr, cr, rfl⟩ := own_shape k1; obtain ⟨pn, cn, rfl⟩ := own_shape k2; have HP := Lib.hid (And.intro k1 (And.intro k2 (And.intro k3 k4))); have d0 : wn.heap[ob]? = some (.cells #[.string nm, .slice pv ts.length cv] 50 (0, 0)) := (k4.block ob (Array.getElem?_eq_some_iff.1 HO.out.1).1 (by have := HRB.out; have := HOB.out; omega)).trans HO.out.1; have d4 : (wn.alloc (.cells #[.string yn, .int .u8 yb, .int .u8 yk, .int .u32 ys', .string yy, .slice pr yr.length cr, .slice pn yt.length cn] 55)).cell? ⟨ob, 1, none⟩ = some (.slice pv ts.length cv) := Lib.cell_of_heap ((Below.heap_alloc _ _ _ (Array.getElem?_eq_some_iff.1 d0).1).trans d0) 1; have d1 : wn.cell? ⟨ob, 1, none⟩ = some (.slice pv ts.length cv) := Lib.cell_of_heap d0 1; have HOWN : Hid ((wn.alloc (.cells #[.string yn, .int .u8 yb, .int .u8 yk, .int .u32 ys', .string yy, .slice pr yr.length cr, .slice pn yt.length cn] 55)).ownsRow w1.heap.size 55 7 (.slice pv ts.length cv) ts.length (ts.flatMap symCells)) := (own_congr HO.out.2.1 fun g hg => k4.block g (HO.out.2.1.lt g hg).2 (by have := (HO.out.2.1.lt g hg).1; have := HRB.out; omega)).alloc _; have HNEWS : Hid (∀ j u, (symCells (⟨yn, yb, yk, ys', yy, yr, yt⟩, .slice pr yr.length cr, .slice pn yt.length cn))[j]? = some u → (wn.alloc (.cells #[.string yn, .int .u8 yb, .int .u8 yk, .int .u32 ys', .string yy, .slice pr yr.length cr, .slice pn yt.length cn] 55)).cell? ((⟨wn.heap.size, 0, none⟩ : Addr).add j) = some u) := new_seven wn _ _ _ _ _ _ _ _ _; have hz : w1.heap.size ≤ wn.heap.size := Nat.le_trans HK.out k4.size; clear k1 k2 k3 k4)
        | (refine step_append_own_at rfl (.tmp 36) (.tmp 39) 48 rfl w1.heap.size 55 iS _ 7 88 Tryz.underlying48 HI.out.1 HI.out.2.1 HI.out.2.2.1 HI.out.2.2.2 rfl (by decide) (.slice pv ts.length cv) ts.length (ts.flatMap symCells) (by simp [Act.eval]) HOWN.out ⟨wn.heap.size, 0, none⟩ 1 1 (symCells (⟨yn, yb, yk, ys', yy, yr, yt⟩, .slice pr yr.length cr, .slice pn yt.length cn)) (by simp [Act.eval]) rfl HNEWS.out (seven_one rfl rfl) (by unfold maxLen; omega) (by omega) (by simp; omega) ?_); intro v' w9 hown hgrow hv; obtain ⟨pw, cw, rfl⟩ := own_shape hown; have HG := Lib.hid (And.intro hown (And.intro hgrow hv)); have hb5 : w9.heap[ob]? = some (.cells #[.string nm, .slice pv ts.length cv] 50 (0, 0)) := (grow_box hgrow HOWN.out d0 (by decide)); have e1 : w9.cell? ⟨ob, 1, none⟩ = some (.slice pv ts.length cv) := Lib.cell_of_heap hb5 1; have e2 : w9.frozen? ⟨ob, 1, none⟩ = false := Lib.frozen_of_heap hb5 1; clear hown hgrow hv hb5)
      all_goals
        have HS9 := Lib.hid (HS.out.add HO.out HTS.out HP.out.2.2.1 HP.out.2.2.2 HP.out.1 HP.out.2.1 (alloc_old _ _) HG.out.1 HG.out.2.1 HG.out.2.2)
        clear HG HP HS HO HOWN HNEWS HI HC
        go_wp2
        go_roundw
        case rel => exact ⟨i + 1, j', _, _, by go_num, by omega, HGS.out, HS9.out⟩
        case measure => simp [intOf]; omega
    · have HD := Lib.hid (HG.out.done (by
        by_cases hj0 : j = 0
        · exact .inl hj0
        · exact .inr (HE.out.trans (rrOf_bad fun e => hround ⟨hj0, e⟩))))
      have hdone : (decide ((i : Int) < (k : Int)) = false ∧ decide (i < k) = false) ∨ (decide ((i : Int) < (k : Int)) = true ∧ decide (i < k) = true ∧ (fF == 0) = false) := by
        by_cases hj0 : j = 0
        · exact .inl ⟨by simp; omega, by simp; omega⟩
        · exact .inr ⟨by simp; omega, by simp; omega, by simp; exact fun e => hround ⟨hj0, e⟩⟩
      clear hround
      obtain ⟨ys, st6⟩ := T
      simp only [List.nil_append] at HD HRO
      obtain ⟨h1, h2⟩ := HD.out
      rw [h1, h2] at HS
      clear h1 h2 HD HG HE hj hij
      have HEN := Lib.hid (rrEnd_any rb st6 _ HS.out.rd)
      rcases hdone with ⟨d, d'⟩ | ⟨d, d', bf⟩
      all_goals
        go_wp2_with fail
        refine HEN.out.mono ?_
        rintro e w7 ⟨c7, rfl, hc7, k1⟩
        obtain ⟨v, ts, ho, hts⟩ := HS.out.o
        have HO : Hid (ObjRow w1.heap.size ob nm v ts w7) := ho.congr HOB4.out fun g hg hb => k1.block g hg (by omega)
        have HK7 : Hid (KR rb w1 w7) := HS.out.kb.trans k1
        have HTS := Lib.hid hts
        clear ho hts k1 HS c1 d d' HEN
        obtain ⟨pv, cv, rfl⟩ := own_shape HO.out.2.1
        have HR7 : Hid (w7.heap[w.heap.size]? = some (.cells #[.string ⟨#[]⟩, .slice none 0 0] 50 (0, 0))) := (HK7.out.block _ (by omega) (by omega)).trans HR0.out
        have HB7 : Hid (Below w.heap.size w w7) := HB1.out.trans (HK7.out.below HB1.out.size (fun g hg => by omega))
        have HC7 := Lib.hid hc7; clear hc7
        have q0 : w7.cell? ⟨w.heap.size, 0, none⟩ = some (.string ⟨#[]⟩) := Lib.cell_of_heap HR7.out 0
        have q1 : w7.cell? ⟨w.heap.size, 1, none⟩ = some (.slice none 0 0) := Lib.cell_of_heap HR7.out 1
        have e0 : w7.frozen? ⟨w.heap.size, 0, none⟩ = false := Lib.frozen_of_heap HR7.out 0
        have e1 : w7.frozen? ⟨w.heap.size, 1, none⟩ = false := Lib.frozen_of_heap HR7.out 1
        have a0 : w7.cell? ⟨ob, 0, none⟩ = some (.string nm) := Lib.cell_of_heap HO.out.1 0
        have a1 : w7.cell? ⟨ob, 1, none⟩ = some (.slice pv ts.length cv) := Lib.cell_of_heap HO.out.1 1
        by_cases hst : st6 = some []
        · have hc0 : c7 = 0 := HC7.out.2 hst
          subst hc0
          by_cases hmg : mg = magicB
          · have bl : (bsOf mg).toList = [65, 79, 66, 49] := by rw [hmg, ByteArray.toList_eq]; rfl
            have hro := HRO.out
            rw [hst] at hro
            have hfit := rObj_fit hro
            have HFR : Hid (Fresh w1.heap.size w7 ⟨nm, ys⟩ (.slice pv ts.length cv)) := ⟨ts, HTS.out, HO.out.2.1, HO.out.2.2⟩
            have HCK := Lib.hid (refMay_any ⟨nm, ys⟩ (.slice pv ts.length cv) w7 (HFR.out.objIn hfit))
            rw [← mayP_eq (fun s hs => by have := (hfit.2.2 s hs).2.2.2.2.1; omega)] at HCK
            simp only [] at HCK
            clear hro hfit
            by_cases hmay : mayP ⟨nm, ys⟩ = true
            · rw [hmay] at HCK
              have HN : Hid (getB s.data.toList = some ⟨nm, ys⟩) := by rw [Hid, getB, if_pos]; rw [HRO.out]; rw [HRO.out]; exact ⟨hst, hmg, hmay⟩
              clear hmg hst hmay
              go_wp2_with fail
              refine HCK.out.mono ?_
              rintro e w8 ⟨rfl, hB8⟩
              have HR8 : Hid (w8.heap[w.heap.size]? = some (.cells #[.string ⟨#[]⟩, .slice none 0 0] 50 (0, 0))) := (hB8.block _ (Array.getElem?_eq_some_iff.1 HR7.out).1).trans HR7.out
              have HB8 : Hid (Below w.heap.size w w8) := HB7.out.trans (hB8.mono HB7.out.size)
              replace HFR := Lib.hid (HFR.out.keep hB8)
              have HO8 : Hid (w8.heap[ob]? = some (.cells #[.string nm, .slice pv ts.length cv] 50 (0, 0))) := (hB8.block ob (Array.getElem?_eq_some_iff.1 HO.out.1).1).trans HO.out.1
              clear hB8 HCK q0 q1 e0 e1 a0 a1
              have q0 : w8.cell? ⟨w.heap.size, 0, none⟩ = some (.string ⟨#[]⟩) := Lib.cell_of_heap HR8.out 0
              have q1 : w8.cell? ⟨w.heap.size, 1, none⟩ = some (.slice none 0 0) := Lib.cell_of_heap HR8.out 1
              have e0 : w8.frozen? ⟨w.heap.size, 0, none⟩ = false := Lib.frozen_of_heap HR8.out 0
              have e1 : w8.frozen? ⟨w.heap.size, 1, none⟩ = false := Lib.frozen_of_heap HR8.out 1
              have a0 : w8.cell? ⟨ob, 0, none⟩ = some (.string nm) := Lib.cell_of_heap HO8.out 0
              have a1 : w8.cell? ⟨ob, 1, none⟩ = some (.slice pv ts.length cv) := Lib.cell_of_heap HO8.out 1
              go_wp2
              refine bodyPost_ret (v := .tuple #[.agg #[.string nm, .slice pv ts.length cv], .int .i64 0]) (by simp [results, Tryz.results52, go_sem, *]) rfl ?_
              unfold GetPost
              rw [HN.out]
              have hle : w.heap.size ≤ w1.heap.size := HB1.out.size
              refine ⟨⟨_, rfl, fresh_away (HFR.out) (by omega) (fun g hg => ?_)⟩, (HB8.out.setCell (Nat.le_refl _) _).setCell (Nat.le_refl _) _⟩
              have hset : ∀ (W : World) (j : Nat) (u : Value), (W.setCell ⟨w.heap.size, j, none⟩ u).heap[g]? = W.heap[g]? := fun W j u => Below.heap_setCell _ _ _ _ (by simp; omega)
              simp only [hset]
            · have hmay' : mayP ⟨nm, ys⟩ = false := by simpa using hmay
              rw [hmay'] at HCK
              have HN : Hid (getB s.data.toList = none) := by rw [Hid, getB, if_neg]; rw [HRO.out]; exact fun h => hmay h.2.2
              clear hmg hst hmay hmay'
              go_wp2_with fail
              refine HCK.out.mono ?_
              rintro e w8 ⟨rfl, hB8⟩
              have HR8 : Hid (w8.heap[w.heap.size]? = some (.cells #[.string ⟨#[]⟩, .slice none 0 0] 50 (0, 0))) := (hB8.block _ (Array.getElem?_eq_some_iff.1 HR7.out).1).trans HR7.out
              have HB8 : Hid (Below w.heap.size w w8) := HB7.out.trans (hB8.mono HB7.out.size)
              clear hB8 HCK q0 q1 e0 e1 a0 a1
              have q0 : w8.cell? ⟨w.heap.size, 0, none⟩ = some (.string ⟨#[]⟩) := Lib.cell_of_heap HR8.out 0
              have q1 : w8.cell? ⟨w.heap.size, 1, none⟩ = some (.slice none 0 0) := Lib.cell_of_heap HR8.out 1
              have e0 : w8.frozen? ⟨w.heap.size, 0, none⟩ = false := Lib.frozen_of_heap HR8.out 0
              have e1 : w8.frozen? ⟨w.heap.size, 1, none⟩ = false := Lib.frozen_of_heap HR8.out 1
              go_wp2
              refine bodyPost_ret (v := .tuple #[.agg #[.string ⟨#[]⟩, .slice none 0 0], .int .i64 7]) (by simp [results, Tryz.results52, go_sem, *]) rfl ?_
              unfold GetPost
              rw [HN.out]
              exact ⟨rfl, (HB8.out.setCell (Nat.le_refl _) _).setCell (Nat.le_refl _) _⟩
          · have bl : ¬ (bsOf mg).toList = [65, 79, 66, 49] := by rw [ByteArray.toList_eq]; exact hmg
            have HN : Hid (getB s.data.toList = none) := by rw [Hid, getB, if_neg]; rw [HRO.out]; exact fun h => hmg h.2.1
            clear hmg hst
            go_wp2
            refine bodyPost_ret (v := .tuple #[.agg #[.string ⟨#[]⟩, .slice none 0 0], .int .i64 7]) (by simp [results, Tryz.results52, go_sem, *]) rfl ?_
            unfold GetPost
            rw [HN.out]
            exact ⟨rfl, (HB7.out.setCell (Nat.le_refl _) _).setCell (Nat.le_refl _) _⟩
        · have bc : (c7 != 0) = true := by simp; exact fun e => hst (HC7.out.1 e)
          have HN : Hid (getB s.data.toList = none) := by rw [Hid, getB, if_neg]; rw [HRO.out]; exact fun h => hst h.1
          clear hst
          go_wp2
          refine bodyPost_ret (v := .tuple #[.agg #[.string ⟨#[]⟩, .slice none 0 0], .int .i64 7]) (by simp [results, Tryz.results52, go_sem, *]) rfl ?_
          unfold GetPost
          rw [HN.out]
          exact ⟨rfl, (HB7.out.setCell (Nat.le_refl _) _).setCell (Nat.le_refl _) _⟩
end Go.Proofs.YtboegjdkedjhcaaGreatDoor
