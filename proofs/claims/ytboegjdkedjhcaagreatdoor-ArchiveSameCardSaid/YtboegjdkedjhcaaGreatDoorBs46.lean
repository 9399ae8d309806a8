/- The walk of aediculelaw35.ArchiveSame. -/
import Derived.Test.YtboegjdkedjhcaaGreatDoorBs44
import Derived.Test.YtboegjdkedjhcaaGreatDoorBs45
import Derived.Test.YtboegjdkedjhcaaGreatDoorBs28
import Derived.Test.YtboegjdkedjhcaaGreatDoorBs35
import Derived.Test.YtboegjdkedjhcaaGreatDoorBs04
import Derived.Test.YtboegjdkedjhcaaGreatDoorBs26
namespace Go.Proofs.YtboegjdkedjhcaaGreatDoor
open Go.RowKit Go.Maps
theorem memsAll_ok {l : List GArc} (h : ∀ a ∈ l, arcOk a = true) : memsOf l = memsAll l := by
 induction l with
 | nil => rfl
 | cons a r ih =>
   have h1 := h a (List.mem_cons_self ..); have h2 := ih fun x hx => h x (List.mem_cons_of_mem _ hx)
   unfold memsOf memsAll at *; rw [List.flatMap_cons, List.flatMap_cons, h2, memsA, if_pos h1]
theorem memsAll_take (l : List GArc) (k : Nat) : (memsAll (l.take k)).length ≤ (memsAll l).length := by
 have h : memsAll l = memsAll (l.take k) ++ memsAll (l.drop k) := by unfold memsAll; rw [← List.flatMap_append, List.take_append_drop]
 rw [h, List.length_append]; omega
theorem same_link {nm : ByteArray} {lb : List GObj} {l : List GArc} (hok : ∀ a ∈ l, arcOk a = true) (h8 : l.length ≤ 8) (h01 : Bind01 (lb ++ memsAll l)) (hby : ∀ o ∈ lb ++ memsAll l, mayP o = true → ∀ s ∈ o.syms, s.bytes.size < 4294967296) (hn : ObjNotes (lb ++ memsAll l))
 {rB : GLink × ByteArray × Int} (hB : Sp18 (lb ++ memsAll l) nm rB) (h0 : rB.2.2 = 0) :
 pullOkB lb l = true ∧ ImgFit rB.1 ∧ ∀ r, Link35 nm lb l r → SameImg rB r ∧ ImgFit r.1 := by
 obtain ⟨p, K, hy, hrB⟩ := spZ hB h0; have hm := (beginR_zero hy.1).1; have hm2 := hm; simp only [mayAll, Bool.and_eq_true, decide_eq_true_eq, List.all_eq_true] at hm2; rw [List.length_append] at hm2; have hpo : pullOkB lb l = true := pullOkB_iff.2 ⟨by omega, h8, List.all_eq_true.2 fun o ho => hm2.2 o (List.mem_append_left _ ho), List.all_eq_true.2 hok⟩
 have hby2 : ∀ o ∈ lb ++ memsAll l, ∀ s ∈ o.syms, s.bytes.size < 4294967296 := fun o ho => hby o ho (hm2.2 o ho)
 refine ⟨hpo, ?_, fun r hr => ?_⟩
 ·rw [hrB] at h0 ⊢; exact linked_fit (fun _ => hby2) hn h0
 ·rcases hr with ⟨h1, -⟩ | ⟨-, I, hpull, hr⟩
  ·rw [hpo] at h1; cases h1
  ·rw [memsAll_ok hok] at hpull hr; have he := emb_sel lb (memsAll l) I; rcases hr with ⟨h1, -⟩ | ⟨-, hA⟩
   ·have h2 := he.len; have h3 : (lb ++ memsAll l).length = lb.length + (memsAll l).length := List.length_append; omega
   ·have hs := same35 hpull h01 hB h0 hA; refine ⟨hs, ?_⟩; have hr0 : r.2.2 = 0 := by rw [← hs.1]; exact h0
    obtain ⟨p', K', hyA, hrA⟩ := spZ hA hr0; rw [hrA] at hr0 ⊢; exact linked_fit (fun _ o ho => hby2 o (he.sub o ho)) (fun o ho => hn o (he.sub o ho)) hr0
theorem bind01_of {w : World} {v : Value} {l : List GObj} (h : ObjsAt w v l) (hm : mayAll l = true) (hno : ∀ o ∈ l, ∀ s ∈ o.syms, s.bind ≠ 2) : Bind01 l := fun o ho s hs => by
 simp only [mayAll, Bool.and_eq_true, List.all_eq_true] at hm; have h1 := hm.2 o ho; simp only [mayP, Bool.and_eq_true] at h1; have h2 := symsGo_each _ _ h1.1.1 s hs; simp only [symOkP, Bool.and_eq_true, decide_eq_true_eq] at h2; have h3 : s.bind ≤ 2 := h2.1.1.1.1.1.1.2; obtain ⟨p, cap, b, o0, rfl, -, -, -, hc⟩ := h; obtain ⟨i, hi, rfl⟩ := List.getElem_of_mem ho; obtain ⟨vs, -, -, -, hin⟩ := hc i hi; have h4 := (objNum_of hin s hs).1; have h5 := hno _ ho s hs; omega
def LBox (w : World) (b : Nat) (x : GLink) (ve vp vs va : Value) : Prop :=
 w.heap[b]? = some (.cells #[.int .u32 x.man.pages, ve, vp, .bool x.man.cons, .int .u32 x.entry, vs, va] 68 (0, 0)) ∧ LinkAt w x ve vp vs va
theorem LBox.keep {w w' : World} {b : Nat} {x : GLink} {ve vp vs va : Value} (h : LBox w b x ve vp vs va) (hb : Below w.heap.size w w') : LBox w' b x ve vp vs va :=
 ⟨(hb.block b (Array.getElem?_eq_some_iff.1 h.1).1).trans h.1, h.2.keep hb⟩
set_option maxRecDepth 100000 in
set_option maxHeartbeats 4000000 in
theorem arcSame_any (hsort : SortOk) (nm : ByteArray) (vb : Value) (lb : List GObj) (v : Value) (l : List GArc) (w : World) (hb : ObjsAt w vb lb) (h : ArcsAt w v l) (hn : nm.size ≤ 140737488355328) :
 Calls Tryz.prog 6 #[.string nm, vb, v] w fun e w' => e = .returned (.bool true) ∧ Below w.heap.size w w' := by
 have HAL : Hid (∀ W, Calls Tryz.prog 8 #[] W fun e w' => e = .returned (.bool true) ∧ Below W.heap.size W w') := fun W => alive35_any hsort W
 have HSORT := Lib.hid hsort; have HO := Lib.hid hb; have HA := Lib.hid h; have HLA := Lib.hid (large35_any vb v lb l w hb h); obtain ⟨pb, cb, hvb⟩ : ∃ (p : Option Addr) (c : Nat), vb = .slice p lb.length c := by obtain ⟨p1, c1, _, _, rfl, -⟩ := hb; exact ⟨_, _, rfl⟩
 obtain ⟨pv, cv, hvv⟩ : ∃ (p : Option Addr) (c : Nat), v = .slice p l.length c := by obtain ⟨p1, c1, _, _, rfl, -⟩ := h; exact ⟨_, _, rfl⟩
 subst hvb hvv; have hlm : l.length ≤ 140737488355328 := by obtain ⟨_, _, _, _, e, _, h2, -⟩ := h; exact h2
 obtain ⟨iO, s0, s1, s2, s3⟩ := info_parts info_obj; have HI := Lib.hid (And.intro s0 (And.intro s1 (And.intro s2 s3))); clear hb h hsort s0 s1 s2 s3; go_enter Tryz.func6, Tryz.ntmps6; go_wp2_with fail; refine HLA.out.mono ?_; rintro e w1 ⟨⟨b, rfl, hsh⟩, hB⟩; have HB := Lib.hid hB; clear hB HLA
 by_cases hg : b = true ∨ 1024 < nm.size
 ·have hg1 : b = true ∨ (b = false ∧ (1024 : Int) < (nm.size : Int)) := by
   cases b with
   | true => exact .inl rfl
   | false => exact .inr ⟨rfl, by rcases hg with h | h; cases h; omega⟩
  clear hg hsh; rcases hg1 with rfl | ⟨rfl, hg⟩
  all_goals
   go_wp2_with fail; refine (HAL.out _).mono ?_; rintro e w3 ⟨rfl, hB⟩; have HB3 := Lib.hid (HB.out.trans (hB.mono HB.out.size)); clear hB; go_wp2; go_ret; exact ⟨rfl, HB3.out⟩
 ·have hbf : b = false := by cases b with | true => exact absurd (.inl rfl) hg | false => rfl
  subst hbf; have hg1 : ¬ (1024 : Int) < (nm.size : Int) := fun h => hg (.inr (by omega))
  obtain ⟨hsho, hcnt⟩ := hsh rfl; rw [List.length_append] at hcnt; have HSH := Lib.hid hsho; clear hg hsh hsho
  -- the copy of base
  obtain ⟨pu, cu, bu, ou, us, heu, hus, -, hpu, hmu, hcu⟩ := objs_pairs HO.out; cases heu; have hul : Hid (us.length = lb.length) := by rw [Hid, ← hus, List.length_map]
  have HCU : Hid (0 < lb.length → ∀ j u, (us.flatMap obCells)[j]? = some u → w1.cell? ((⟨bu, ou, none⟩ : Addr).add j) = some u) := fun h0 j u hj => by
   have h1 := hcu j u hj; rw [add_at] at h1 ⊢
   have h2 : bu < w.heap.size := by
    by_cases h3 : bu < w.heap.size
    ·exact h3
    ·rw [World.cell?, Array.getElem?_eq_none (by simpa using h3)] at h1; cases h1
   exact cell_keep HB.out h2 h1
  have HMU := Lib.hid hmu; have HPU := Lib.hid hpu; have HUS := Lib.hid hus; have hzr : w.heap.size ≤ w1.heap.size := HB.out.size; have HOW0 := Lib.hid (OwnObsB.nil w1.heap.size w w1); clear hcu hmu hpu hus; go_wp2_with (at_builtin; refine wpList_append_src rfl _ _ 22 rfl w1.heap.size 50 iO _ 2 40 Tryz.underlying22 HI.out.1 HI.out.2.1 HI.out.2.2.1 HI.out.2.2.2 rfl (by decide) (.slice none 0 0) 0 [] rfl HOW0.out.row pb lb.length cb bu ou (us.flatMap obCells) rfl HPU.out (by rw [flat_len obCells_len, hul.out]) HCU.out (obs_one HMU.out) (by unfold maxLen; omega) (by omega) (Nat.le_refl _) ?_)
  intro v' w2 hown hgrow; obtain ⟨pw, cw, rfl⟩ := own_shape hown; have HO2 : Hid (OwnObsB w1.heap.size w w2 (.slice pw lb.length cw) us) := ⟨by rw [hul.out]; exact hown, HMU.out⟩
  have HBF : Hid (Below w1.heap.size w1 w2) := (Below.refl _ w1).grown hgrow (Nat.le_refl _) (fun q e => (HOW0.out.row.lt q e).1)
  clear hown hgrow HCU HPU HOW0; have hus20 : us.length = lb.length := hul.out; go_wp2
  go_loopw [7, 8] (fun v7 v8 wr => ∃ (k : Nat) (ts : List (GObj × Value)), v8 = .int .i64 k ∧ k ≤ l.length ∧ ts.map (·.1) = lb ++ memsAll (l.take k) ∧ (∀ a ∈ l.take k, arcOk a = true) ∧ OwnObsB w1.heap.size w wr v7 ts ∧ Below w1.heap.size w1 wr) (fun _ v8 _ => l.length - (intOf v8).toNat)
  case atStart => exact ⟨0, us, by go_num, Nat.zero_le _, by rw [HUS.out]; simp [memsAll], fun a ha => by simp at ha, HO2.out, HBF.out⟩
  case round =>
   obtain ⟨k, ts, rfl, hk, hts, hoks, hown, hbel⟩ := hrel; have HTS := Lib.hid hts; have HOKS := Lib.hid hoks; have HOW := Lib.hid hown; have HBL := Lib.hid hbel; have HBW : Hid (Below w.heap.size w wr) := HB.out.trans (hbel.mono hzr); obtain ⟨pq, cq, rfl⟩ := own_shape hown.row; have htl : ts.length = lb.length + (memsAll (l.take k)).length := by rw [← List.length_append, ← hts, List.length_map]
   have hmk := memsAll_take l k; have HTL := Lib.hid htl; have htl60 : ts.length ≤ 60 := by omega
   clear hts hoks hown hbel htl hmk
   by_cases hlt : k < l.length
   ·have h0 := HA.out; obtain ⟨_, _, b0, o0, he0, -, -, hp0, hc0⟩ := h0; cases he0; obtain rfl := hp0 (by omega)
    obtain ⟨vs, g0, g1, g2, hin0⟩ := hc0 k hlt; replace g1 := cell_keep HBW.out g0 g1; replace g2 := cell_keep HBW.out g0 g2; replace g0 := size_keep HBW.out g0; have hms := memsAll_snoc hlt rfl; have hmt := memsAll_take l (k + 1); rw [hms, List.length_append] at hmt
    have hokn : arcOk l[k] = true → ∀ a ∈ l.take (k + 1), arcOk a = true := fun h1 a ha => by
     rw [List.take_succ_eq_append_getElem hlt] at ha; rcases List.mem_append.1 ha with h2 | h2
     ·exact HOKS.out a h2
     ·rw [List.mem_singleton.1 h2]; exact h1
    generalize l[k] = y at g1 g2 hin0 hms hokn hmt; obtain ⟨yn, ym⟩ := y; have HIN0 := Lib.hid hin0; obtain ⟨⟨p1, q1, bb1, oo1, rfl, -⟩, -⟩ := hin0; simp only [] at g1 g2 hms HIN0 hmt; have HMS := Lib.hid hms; have HOKN := Lib.hid hokn; have hym : ts.length + ym.length ≤ 60 := by have := HTL.out; omega
    clear hms hc0 hp0 hokn hmt; have HCK := Lib.hid (arcCheck_any ⟨yn, ym⟩ _ wr (HIN0.out.keep HBW.out)); obtain ⟨ok, hok⟩ : ∃ ok, arcOk ⟨yn, ym⟩ = ok := ⟨_, rfl⟩; rw [hok] at HCK; have HOK := Lib.hid hok; clear hok; simp only [] at HCK; cases ok with
    | false =>
      simp only [errB, Bool.false_eq_true, if_false] at HCK; go_wp2_with fail; refine HCK.out.mono ?_; rintro e w3 ⟨rfl, hB⟩; replace HBW := Lib.hid (HBW.out.trans (hB.mono HBW.out.size)); clear hB HCK; go_wp2_with fail; refine (HAL.out _).mono ?_; rintro e w4 ⟨rfl, hB⟩; replace HBW := Lib.hid (HBW.out.trans (hB.mono HBW.out.size)); clear hB; go_wp2; go_ret; exact ⟨rfl, HBW.out⟩
    | true =>
      simp only [errB, if_true] at HCK; obtain ⟨pu, cu, bu, ou, us2, heu, hus2, -, hpu, hmu, hcu⟩ := objs_pairs HIN0.out.1; cases heu; simp only [] at hus2 hpu; have hul2 : Hid (us2.length = ym.length) := by rw [Hid, ← hus2, List.length_map]
      have HCU : Hid (∀ W, Below w.heap.size w W → 0 < ym.length → ∀ j u, (us2.flatMap obCells)[j]? = some u → W.cell? ((⟨bu, ou, none⟩ : Addr).add j) = some u) := fun W hW h0 j u hj => by
       have h1 := hcu j u hj; rw [add_at] at h1 ⊢
       have h2 : bu < w.heap.size := by
        by_cases h3 : bu < w.heap.size
        ·exact h3
        ·rw [World.cell?, Array.getElem?_eq_none (by simpa using h3)] at h1; cases h1
       exact cell_keep hW h2 h1
      have HMU2 := Lib.hid hmu; have HPU2 := Lib.hid hpu; have HUS2 := Lib.hid hus2; clear hcu hmu hpu hus2; go_wp2_with fail; refine HCK.out.mono ?_; rintro e w3 ⟨rfl, hB⟩; replace g2 := cell_keep hB g0 g2; replace HBW := Lib.hid (HBW.out.trans (hB.mono HBW.out.size)); replace HBL := Lib.hid (HBL.out.trans (hB.mono HBL.out.size)); replace HOW := Lib.hid (HOW.out.keep hB); have hz3 : w1.heap.size ≤ w3.heap.size := HBL.out.size; have HC3 := Lib.hid (HCU.out w3 HBW.out); clear hB HCK HCU g1; go_wp2_with (at_builtin; refine wpList_append_src rfl _ _ 22 rfl w1.heap.size 50 iO _ 2 40 Tryz.underlying22 HI.out.1 HI.out.2.1 HI.out.2.2.1 HI.out.2.2.2 rfl (by decide) (.slice pq ts.length cq) ts.length (ts.flatMap obCells) rfl HOW.out.row p1 ym.length q1 bu ou (us2.flatMap obCells) rfl HPU2.out (by rw [flat_len obCells_len, hul2.out]) HC3.out (obs_one HMU2.out) (by unfold maxLen; omega) (by omega) hz3 ?_)
      intro v' w4 hown3 hgrow3; obtain ⟨pw3, cw3, rfl⟩ := own_shape hown3; have HO3 : Hid (OwnObsB w1.heap.size w w4 (.slice pw3 (ts.length + ym.length) cw3) (ts ++ us2)) := HOW.out.more HMU2.out (by rw [hul2.out]; exact hown3)
      have HB4 : Hid (Below w1.heap.size w1 w4) := HBL.out.grown hgrow3 hz3 (fun q e => (HOW.out.row.lt q e).1)
      clear hown3 hgrow3; go_wp2; go_roundw
      case rel => exact ⟨k + 1, ts ++ us2, by go_num, by omega, by rw [List.map_append, HTS.out, HUS2.out, HMS.out, List.append_assoc], HOKN.out HOK.out, HO3.out, HB4.out⟩
      case measure => simp [intOf]; omega
   ·obtain rfl : k = l.length := by omega
    rw [List.take_length] at HTS HOKS; have hob := HOW.out.objs HBW.out (by omega)
    rw [HTS.out] at hob; have hlen : (lb ++ memsAll l).length = ts.length := by rw [← HTS.out, List.length_map]
    obtain ⟨all, hall⟩ : ∃ all, lb ++ memsAll l = all := ⟨_, rfl⟩; rw [hall] at hob hlen HTS; rw [← hlen] at htl60 hob ⊢; have HALL := Lib.hid hall; have HG := Lib.hid hob; clear hall hob HOW HBL hlen HTL HTS; obtain ⟨wo, hwo⟩ : ∃ wo : World, wo = wr := ⟨_, rfl⟩; subst hwo; go_wp2
    go_loopw [9] (fun v9 wr => ∃ i : Nat, i ≤ all.length ∧ v9 = .int .i64 i ∧ (∀ o ∈ all.take i, ∀ s ∈ o.syms, s.bind ≠ 2) ∧ Below wo.heap.size wo wr) (fun v9 _ => all.length - (intOf v9).toNat)
    case atStart => exact ⟨0, Nat.zero_le _, rfl, fun o ho => by simp at ho, Below.refl _ _⟩
    case round =>
     obtain ⟨i, hi, rfl, hno, hbw⟩ := hrel; have HNO := Lib.hid hno; have HBO := Lib.hid hbw; clear hno hbw
     by_cases hlt2 : i < all.length
     ·have HNX : Hid ((∀ s ∈ all[i].syms, s.bind ≠ 2) → ∀ o ∈ all.take (i + 1), ∀ s ∈ o.syms, s.bind ≠ 2) := fun h o ho => by
       rw [List.take_succ_eq_append_getElem hlt2] at ho; rcases List.mem_append.1 ho with h2 | h2
       ·exact HNO.out o h2
       ·rw [List.mem_singleton.1 h2]; exact h
      obtain ⟨y, hy⟩ : ∃ y, all[i] = y := ⟨_, rfl⟩; rw [hy] at HNX; have HY := Lib.hid hy; clear hy; obtain ⟨yn, ys⟩ := y; simp only [] at HNX; obtain ⟨wq, hwq⟩ : ∃ wq : World, wq = wr := ⟨_, rfl⟩; subst hwq; go_wp2
      go_loopw [10] (fun v10 wr => ∃ j : Nat, j ≤ ys.length ∧ v10 = .int .i64 j ∧ (∀ s ∈ ys.take j, s.bind ≠ 2) ∧ Below wo.heap.size wo wr) (fun v10 _ => ys.length - (intOf v10).toNat)
      case atStart => exact ⟨0, Nat.zero_le _, rfl, fun s hs => by simp at hs, HBO.out⟩
      case round =>
       clear HBO; obtain ⟨j, hj, rfl, hnj, hbw⟩ := hrel; have HNJ := Lib.hid hnj; have HBO := Lib.hid hbw; clear hnj hbw; have HGW := HG.out.keep HBO.out; obtain ⟨pg, cg, bg, og, he, -, -, hpg, hcg⟩ := HGW; cases he; obtain rfl := hpg (by omega)
       obtain ⟨vs, f0, f1, f2, hin⟩ := hcg i hlt2; rw [HY.out] at f1 hin; clear hpg hcg f1; obtain ⟨⟨ps, cs, bs, os, rfl, -, hsm, hps, hcs⟩, -⟩ := hin; simp only [] at f2 hsm hps hcs
       by_cases hlj : j < ys.length
       ·obtain rfl := hps (by omega)
        obtain ⟨vr, vn, t0, t1, t2, t3, t4, t5, t6, t7, hsin⟩ := hcs j hlj
        have hnx : ys[j].bind ≠ 2 → ∀ s ∈ ys.take (j + 1), s.bind ≠ 2 := fun h s hs => by
         rw [List.take_succ_eq_append_getElem hlj] at hs; rcases List.mem_append.1 hs with h2 | h2
         ·exact HNJ.out s h2
         ·rw [List.mem_singleton.1 h2]; exact h
        have HNX2 := Lib.hid hnx; clear hnx hcs t1 t3 t4 t5 t6 t7 hsin; generalize ys[j].bind = zb at t2 HNX2
        by_cases hb : zb = 2
        ·have hb1 : (zb == 2) = true := by simpa using hb
         clear HNX2; go_wp2_with fail; refine (HAL.out _).mono ?_; rintro e w4 ⟨rfl, hB⟩; replace HBW := Lib.hid (HBW.out.trans ((HBO.out.mono HBW.out.size).trans (hB.mono (Nat.le_trans HBW.out.size HBO.out.size)))); clear hB; go_wp2; go_ret; exact ⟨rfl, HBW.out⟩
        ·have hb1 : (zb == 2) = false := by simpa using hb
         have HN2 := Lib.hid (HNX2.out hb); clear hb HNX2; go_wp2; go_roundw
         case rel => exact ⟨j + 1, by omega, by go_num, HN2.out, HBO.out⟩
         case measure => simp [intOf]; omega
       ·rw [List.take_of_length_le (by omega)] at HNJ
        have HN2 := Lib.hid (HNX.out HNJ.out); clear hps hcs; go_wp2; go_roundw
        case rel => exact ⟨i + 1, by omega, by go_num, HN2.out, HBO.out⟩
        case measure => simp [intOf]; omega
     ·rw [List.take_of_length_le (by omega)] at HNO
      replace HBW := Lib.hid (HBW.out.trans (HBO.out.mono HBW.out.size)); replace HG := Lib.hid (HG.out.keep HBO.out); clear HBO; have HL13 := Lib.hid (large13_any _ all wr HG.out); go_wp2_with fail; refine HL13.out.mono ?_; rintro e w3 ⟨rfl, hB⟩; replace HBW := Lib.hid (HBW.out.trans (hB.mono HBW.out.size)); replace HG := Lib.hid (HG.out.keep hB); clear hB HL13; generalize large13B all = lg
      by_cases hg : lg = true ∨ 8 < l.length
      ·have hg1 : lg = true ∨ (lg = false ∧ (8 : Int) < (l.length : Int)) := by
        cases lg with
        | true => exact .inl rfl
        | false => exact .inr ⟨rfl, by rcases hg with h | h; cases h; omega⟩
       clear hg; rcases hg1 with rfl | ⟨rfl, hg⟩
       all_goals
        go_wp2_with fail; refine (HAL.out _).mono ?_; rintro e w4 ⟨rfl, hB⟩; replace HBW := Lib.hid (HBW.out.trans (hB.mono HBW.out.size)); clear hB; go_wp2; go_ret; exact ⟨rfl, HBW.out⟩
      ·have hlf : lg = false := by cases lg with | true => exact absurd (.inl rfl) hg | false => rfl
       subst hlf; have h8 : l.length ≤ 8 := by omega
       have h8' : ¬ (8 : Int) < (l.length : Int) := by omega
       clear hg
       have HBY : Hid (∀ o ∈ all, mayP o = true → ∀ s ∈ o.syms, s.bytes.size < 4294967296) := fun o ho hm => short_small (HSH.out o (by
        rw [← HALL.out] at ho; rcases List.mem_append.1 ho with h1 | h1
        ·exact List.mem_append_right _ h1
        ·exact List.mem_append_left _ h1)) hm
       have HSP := Lib.hid (special18_any HSORT.out _ all nm w3 HG.out (by omega) (fun _ => s16_all _) (fun hm o ho => HBY.out o ho (by
        simp only [mayAll, Bool.and_eq_true, List.all_eq_true] at hm; exact hm.2 o ho)))
       have HNT := Lib.hid (objNotes_of HG.out); go_wp2_with fail; refine HSP.out.mono ?_; rintro e w4 ⟨rx, hspx, ve, vp, vs, va, rfl, hla, hB⟩; obtain ⟨x1, x2, x3, x4, x5, x6, x7, x8, rfl, rfl, rfl, rfl⟩ := hla.shape; obtain ⟨⟨⟨xp, xe, xq, xc⟩, xen, xs, xa⟩, xn, xcd⟩ := rx; simp only [] at hla hB; replace HBW := Lib.hid (HBW.out.trans (hB.mono HBW.out.size)); replace HG := Lib.hid (HG.out.keep hB); have HSX := Lib.hid hspx; have hB2 := alloc_old w4 (.cells #[.int .u32 xp, .slice x1 xe.length x2, .slice x3 xq.length x4, .bool xc, .int .u32 xen, .slice x5 xs.length x6, .slice x7 xa.length x8] 68); have HXB : Hid (LBox (w4.alloc (.cells #[.int .u32 xp, .slice x1 xe.length x2, .slice x3 xq.length x4, .bool xc, .int .u32 xen, .slice x5 xs.length x6, .slice x7 xa.length x8] 68)) w4.heap.size ⟨⟨xp, xe, xq, xc⟩, xen, xs, xa⟩ (.slice x1 xe.length x2) (.slice x3 xq.length x4) (.slice x5 xs.length x6) (.slice x7 xa.length x8)) := ⟨heap_alloc_new w4 _, hla.keep hB2⟩; replace HBW := Lib.hid (HBW.out.trans (hB2.mono HBW.out.size)); replace HG := Lib.hid (HG.out.keep hB2); clear hB hB2 hla hspx HSP; unfold linkV; go_upto_region 21 with fail
       generalize (w4.alloc (.cells #[.int .u32 xp, .slice x1 xe.length x2, .slice x3 xq.length x4, .bool xc, .int .u32 xen, .slice x5 xs.length x6, .slice x7 xa.length x8] 68)) = w5 at HBW HG HXB ⊢; generalize w4.heap.size = xb at HXB ⊢
       by_cases hc0 : xcd = 0
       ·subst hc0; obtain ⟨_, _, hy, -⟩ := spZ HSX.out rfl; have h01 := bind01_of HG.out (beginR_zero hy.1).1 HNO.out; have hby := HBY.out; have hsx := HSX.out; have hnt := HNT.out; rw [← HALL.out] at h01 hby hsx hnt; obtain ⟨hpo, hfx, hr⟩ := same_link HOKS.out h8 h01 hby hnt hsx rfl; have HFX := Lib.hid hfx; have HR := Lib.hid hr; have HLK := Lib.hid (link35_any HSORT.out nm _ lb _ l w5 (HO.out.keep HBW.out) (HA.out.keep HBW.out) (small_ok hpo) hn (fun _ _ => s16_all _) (by rw [memsAll_ok HOKS.out]; exact hby))
        clear hy h01 hby hsx hnt hpo hfx hr; go_wp2_with fail; refine HLK.out.mono ?_; rintro e w6 ⟨ry, hly, ve, vp, vs, va, rfl, hla, hB⟩; obtain ⟨hsame, hfy⟩ := HR.out ry hly; obtain ⟨y1, y2, y3, y4, y5, y6, y7, y8, rfl, rfl, rfl, rfl⟩ := hla.shape; obtain ⟨⟨ym, yen, ys, ya⟩, yn, ycd⟩ := ry; obtain ⟨k1, k2, k3, k4, k5⟩ := hsame; simp only [Prod.mk.injEq] at k1 k2 k3 k4 k5; obtain ⟨rfl, rfl⟩ := k1; subst k2 k3 k4; simp only [] at hla hB hfy; replace HBW := Lib.hid (HBW.out.trans (hB.mono HBW.out.size)); replace HXB := Lib.hid (HXB.out.keep hB); have hB2 := alloc_old w6 (.cells #[.int .u32 xp, .slice y1 xe.length y2, .slice y3 xq.length y4, .bool xc, .int .u32 xen, .slice y5 xs.length y6, .slice y7 ya.length y8] 68); have HYB : Hid (LBox (w6.alloc (.cells #[.int .u32 xp, .slice y1 xe.length y2, .slice y3 xq.length y4, .bool xc, .int .u32 xen, .slice y5 xs.length y6, .slice y7 ya.length y8] 68)) w6.heap.size ⟨⟨xp, xe, xq, xc⟩, xen, xs, ya⟩ (.slice y1 xe.length y2) (.slice y3 xq.length y4) (.slice y5 xs.length y6) (.slice y7 ya.length y8)) := ⟨heap_alloc_new w6 _, hla.keep hB2⟩; replace HBW := Lib.hid (HBW.out.trans (hB2.mono HBW.out.size)); replace HXB := Lib.hid (HXB.out.keep hB2); have HFY := Lib.hid hfy; have HK5 := Lib.hid k5; clear hB hB2 hla hly HLK hfy k5 HR HSX HG HBY HNT HNO HSH; unfold linkV; go_upto_region 24 with fail
        generalize (w6.alloc (.cells #[.int .u32 xp, .slice y1 xe.length y2, .slice y3 xq.length y4, .bool xc, .int .u32 xen, .slice y5 xs.length y6, .slice y7 ya.length y8] 68)) = w7 at HBW HXB HYB ⊢; generalize w6.heap.size = yb at HYB ⊢; have a0 := Lib.cell_of_heap HXB.out.1 0; have a1 := Lib.cell_of_heap HXB.out.1 1; have a2 := Lib.cell_of_heap HXB.out.1 2; have a3 := Lib.cell_of_heap HXB.out.1 3; have a4 := Lib.cell_of_heap HXB.out.1 4; have a5 := Lib.cell_of_heap HXB.out.1 5; simp only [List.getElem?_toArray, List.getElem?_cons_zero, List.getElem?_cons_succ] at a0 a1 a2 a3 a4 a5; have HPX := Lib.hid (imgPut_any _ _ _ _ _ w7 HXB.out.2 HFX.out); go_wp2_with fail; refine HPX.out.mono ?_; rintro e w8 ⟨rfl, hB⟩; replace HBW := Lib.hid (HBW.out.trans (hB.mono HBW.out.size)); replace HXB := Lib.hid (HXB.out.keep hB); replace HYB := Lib.hid (HYB.out.keep hB); clear hB HPX a0 a1 a2 a3 a4 a5; have a0 := Lib.cell_of_heap HYB.out.1 0; have a1 := Lib.cell_of_heap HYB.out.1 1; have a2 := Lib.cell_of_heap HYB.out.1 2; have a3 := Lib.cell_of_heap HYB.out.1 3; have a4 := Lib.cell_of_heap HYB.out.1 4; have a5 := Lib.cell_of_heap HYB.out.1 5; simp only [List.getElem?_toArray, List.getElem?_cons_zero, List.getElem?_cons_succ] at a0 a1 a2 a3 a4 a5; have hpy := imgPut_any _ _ _ _ _ w8 HYB.out.2 HFY.out; rw [show encImg ⟨⟨xp, xe, xq, xc⟩, xen, xs, ya⟩ = encImg ⟨⟨xp, xe, xq, xc⟩, xen, xs, xa⟩ from rfl] at hpy
        have HPY := Lib.hid hpy; clear hpy; generalize bsOf (encImg ⟨⟨xp, xe, xq, xc⟩, xen, xs, xa⟩) = E at HPY ⊢; go_wp2_with fail; refine HPY.out.mono ?_; rintro e w9 ⟨rfl, hB⟩; replace HBW := Lib.hid (HBW.out.trans (hB.mono HBW.out.size)); replace HXB := Lib.hid (HXB.out.keep hB); replace HYB := Lib.hid (HYB.out.keep hB); clear hB HPY a0 a1 a2 a3 a4 a5; have a6 : w9.cell? ⟨xb, 6, none⟩ = some (.slice x7 xa.length x8) := Lib.cell_of_heap HXB.out.1 6; have b6 : w9.cell? ⟨yb, 6, none⟩ = some (.slice y7 xa.length y8) := by rw [HK5.out]; exact Lib.cell_of_heap HYB.out.1 6
        go_wp2_with fail; refine (HAL.out _).mono ?_; rintro e w10 ⟨rfl, hB⟩; replace HBW := Lib.hid (HBW.out.trans (hB.mono HBW.out.size)); clear hB; go_wp2; go_ret; exact ⟨rfl, HBW.out⟩
       ·have hcb : (xcd != 0) = true := by simpa using hc0
        clear hc0 HSX HXB; go_wp2_with fail; refine (HAL.out _).mono ?_; rintro e w6 ⟨rfl, hB⟩; replace HBW := Lib.hid (HBW.out.trans (hB.mono HBW.out.size)); clear hB; go_wp2; go_ret; exact ⟨rfl, HBW.out⟩
end Go.Proofs.YtboegjdkedjhcaaGreatDoor
