/- The walk of ReachLess. -/
import Derived.Test.YtnhmbflinbfeoaaDoorWAlive13
import Derived.Test.YtnhmbflinbfeoaaDoorWLarge13
import Derived.Test.YtnhmbflinbfeoaaDoorLess
import Derived.Test.YtnhmbflinbfeoaaDoorPlainLess
import Derived.Test.YtnhmbflinbfeoaaDoorBelowReg
namespace Go.Proofs.YtnhmbflinbfeoaaDoor
open Go.RowKit Go.Maps
theorem in_no {pv : Value} {ks : List PP} {a b : Nat} {W : World} (hk : RowAt 2 PlaceR W pv ks) (c : Bool) (hm : decide ((a, b) ∈ ks) = c) :
    Calls Tryd.prog 10 #[pv, .agg #[.int .i64 a, .int .i64 b]] W fun e w' => e = .returned (.bool c) ∧ Below W.heap.size W w' := by
  subst hm
  exact in_any pv ks (a, b) W hk
theorem info_sym13 : (Tryd.prog.info? 46).map (fun i => (i.zero, i.size, i.bytes)) = some (some (.agg #[.string ⟨#[]⟩, .int .u8 0, .int .u8 0, .int .u32 0, .string ⟨#[]⟩, .slice none 0 0, .slice none 0 0]), 7, 88) := by kernel_rfl
theorem info_obj13 : (Tryd.prog.info? 41).map (fun i => (i.zero, i.size, i.bytes)) = some (some (.agg #[.string ⟨#[]⟩, .slice none 0 0]), 2, 40) := by kernel_rfl
/-- where a place is among some, as far as they were looked at -/
def AtOk (K : List PP) (z : PP) (j : Nat) (t : Int) : Prop := (t = -1 ∧ ∀ i (h : i < K.length), i < j → K[i] ≠ z) ∨ ∃ i, ∃ h : i < K.length, i < j ∧ t = (i : Int) ∧ K[i] = z
theorem AtOk.yes {K : List PP} {z : PP} {j : Nat} (hj : j < K.length) (h : K[j] = z) : AtOk K z (j + 1) (j : Int) := .inr ⟨j, hj, by omega, rfl, h⟩
theorem AtOk.no {K : List PP} {z : PP} {j : Nat} {t : Int} (h : AtOk K z j t) (hj : j < K.length) (hne : K[j] ≠ z) : AtOk K z (j + 1) t := by
  rcases h with ⟨h1, h2⟩ | ⟨i, hi, h1, h2, h3⟩
  · refine .inl ⟨h1, fun i hi hij => ?_⟩
    by_cases hij' : i < j
    · exact h2 i hi hij'
    · obtain rfl : i = j := by omega
      exact hne
  · exact .inr ⟨i, hi, by omega, h2, h3⟩
theorem AtOk.done {K : List PP} {z : PP} {j : Nat} {t : Int} (h : AtOk K z j t) (hj : K.length ≤ j) (hz : z ∈ K) : ∃ i, ∃ h : i < K.length, t = (i : Int) ∧ K[i] = z := by
  rcases h with ⟨h1, h2⟩ | ⟨i, hi, -, h2, h3⟩
  · obtain ⟨i, hi, e⟩ := List.mem_iff_getElem.1 hz
    exact absurd e (h2 i hi (by omega))
  · exact ⟨i, hi, h2, h3⟩
theorem AtOk.bd {K : List PP} {z : PP} {j : Nat} {t : Int} (h : AtOk K z j t) (hj : j ≤ 1024) : -1 ≤ t ∧ t ≤ 1024 := by
  rcases h with ⟨h1, -⟩ | ⟨i, hi, h1, h2, -⟩
  · omega
  · omega
set_option maxRecDepth 100000 in
set_option maxHeartbeats 4000000 in
theorem less_any (hsort : SortOk) (hrev : RevOk) (v : Value) (l : List GObj) (nm : ByteArray) (w : World) (h : ObjsAt w v l) (hn : nm.size ≤ 140737488355328) :
    Calls Tryd.prog 4 #[v, .string nm] w fun e w' => e = .returned (.bool true) ∧ Below w.heap.size w w' := by
  have HSORT := Lib.hid hsort; clear hsort
  have HREV := Lib.hid hrev; clear hrev
  have HO := Lib.hid h
  have HLG := Lib.hid (large13_any v l w h)
  have hsh : ∃ (p : Option Addr) (cap : Nat), v = .slice p l.length cap := by obtain ⟨p, cap, b, o, rfl, _⟩ := h; exact ⟨p, cap, rfl⟩
  obtain ⟨p, cap, rfl⟩ := hsh
  clear h
  by_cases hl : large13B l = true
  · rw [hl] at HLG
    clear hl
    go_enter Tryd.func4, Tryd.ntmps4
    go_wp2_with (first | (go_at_call 5; refine HLG.out.mono ?_; rintro e w1 ⟨rfl, hB1⟩) | (go_at_call 6; refine (alive13_any HSORT.out HREV.out _).mono ?_; rintro e w2 ⟨rfl, hB2⟩))
    go_ret
    exact ⟨rfl, hB1.trans (hB2.mono hB1.size)⟩
  have hl' : large13B l = false := by simpa using hl
  rw [hl'] at HLG
  clear hl hl'
  by_cases hnl : nm.size ≤ 1024
  · have hdn : decide ((1024 : Int) < (nm.size : Int)) = false := by simp; omega
    go_enter Tryd.func4, Tryd.ntmps4
    go_wp2_with fail
    refine HLG.out.mono ?_
    rintro e w1 ⟨rfl, hB1⟩
    have HK := Lib.hid (kept_any HSORT.out (.slice p l.length cap) l nm w1 (ObjsAt.keep hB1 HO.out) (by omega))
    have HB1 := Lib.hid hB1; clear hB1 HLG
    go_wp2_with fail
    refine HK.out.mono ?_
    rintro e w2 ⟨hcase, hB2⟩
    have HB2 : Hid (Below w.heap.size w w2) := HB1.out.trans (hB2.mono HB1.out.size)
    clear hB2 HB1 HK
    rcases hcase with ⟨q, K, vo, hyes, hrow, rfl⟩ | ⟨n, c, hc, rfl, -⟩
    · have HY := Lib.hid hyes; clear hyes
      have HR2 := Lib.hid hrow
      have HO2 := Lib.hid (ObjsAt.keep HB2.out HO.out)
      obtain ⟨pk, ck, bk, ok, rfl, -⟩ := hrow
      have HFL := Lib.hid (flat_length_le (beginR_zero HY.out.1).1)
      have hl16 : l.length ≤ 16 := by
        have hm := (beginR_zero HY.out.1).1
        simp only [mayAll, Bool.and_eq_true, decide_eq_true_eq] at hm
        exact hm.1
      obtain ⟨pO, capO, bO, oO, heq, hcapO, hmaxO, hpO, hcO⟩ := HO2.out
      obtain ⟨rfl, rfl⟩ : pO = p ∧ capO = cap := by cases heq; exact ⟨rfl, rfl⟩
      have HPO := Lib.hid hpO
      have HCO := Lib.hid hcO
      clear heq hpO hcO
      obtain ⟨iP, s0, s1, s2, s3⟩ := info_parts info_place
      have HIP := Lib.hid (And.intro s0 (And.intro s1 (And.intro s2 s3)))
      clear s0 s1 s2 s3
      obtain ⟨iS, s0, s1, s2, s3⟩ := info_parts info_sym13
      have HIS := Lib.hid (And.intro s0 (And.intro s1 (And.intro s2 s3)))
      clear s0 s1 s2 s3
      obtain ⟨iO, s0, s1, s2, s3⟩ := info_parts info_obj13
      have HIO := Lib.hid (And.intro s0 (And.intro s1 (And.intro s2 s3)))
      clear s0 s1 s2 s3
      go_wp2_with fail
      go_loopw [8, 9, 10] (fun v8 v9 v10 wr => ∃ (i : Nat) (pre : List Spot) (us : List OM), i ≤ l.length ∧ v10 = .int .i64 i ∧ pre ++ objsFrom i (l.drop i) = flat l ∧ us.length = i ∧ OutM w2 K (subO K 0 (l.take i)) pre v8 v9 us wr) (fun _ _ v10 _ => l.length - (intOf v10).toNat)
      case atStart => exact ⟨0, [], [], Nat.zero_le _, rfl, rfl, rfl, World.ownsRow_nil _ _ _ _, rfl, fun u hu => (by cases hu), PRow.nil _ _, Below.refl _ _⟩
      case round =>
        obtain ⟨i, pre, us, hi, rfl, hcat, hus, hout⟩ := hrel
        have HCAT := Lib.hid hcat; clear hcat
        have HUS := Lib.hid hus; clear hus
        have HOUT := Lib.hid hout; clear hout
        by_cases hlt : i < l.length
        · obtain rfl := HPO.out (by omega)
          obtain ⟨vs0, g0, g1, g2, hin⟩ := HCO.out i hlt
          have G0 := Lib.hid g0; have G2 := Lib.hid g2
          replace g1 := cell_keep HOUT.out.b g0 g1
          replace g2 := cell_keep HOUT.out.b g0 g2
          have g0r := size_keep HOUT.out.b g0
          have hcat := HCAT.out
          rw [objsFrom_drop hlt] at hcat
          have hxs : l[i].syms.length ≤ 1024 := by
            have hm := (beginR_zero HY.out.1).1
            simp only [mayAll, Bool.and_eq_true, List.all_eq_true] at hm
            have h3 := hm.2 _ (List.getElem_mem hlt)
            simp only [mayP, Bool.and_eq_true, decide_eq_true_eq] at h3
            omega
          have hsn := subO_snoc (K := K) l 0 i hlt
          rw [Nat.zero_add] at hsn
          generalize hx : l[i] = x at *
          obtain ⟨xn, xs⟩ := x
          simp only [] at g1 g2 hin hcat hsn hxs
          obtain ⟨⟨pS, capS, bS, oS, rfl, hcapS, hmaxS, hpS, hcS⟩, hnmx⟩ := hin
          clear HCAT hx
          have HCAT := Lib.hid hcat; clear hcat
          have HSN := Lib.hid hsn; clear hsn
          have HCS := Lib.hid hcS; clear hcS
          have HPS := Lib.hid hpS; clear hpS
          go_wp2_with fail
          have HST := Lib.hid (HOUT.out.start xn)
          have hzo : w2.heap.size ≤ wr.heap.size := HOUT.out.b.size
          clear g1 g2 g0 g0r hnmx
          obtain ⟨wo, rfl⟩ : ∃ wo : World, wo = wr := ⟨_, rfl⟩
          go_loopw [9, 12] (fun v9 v12 wi => ∃ (k : Nat) (pre' : List Spot) (vs : Value) (ts : List SymT), k ≤ xs.length ∧ v12 = .int .i64 k ∧ pre' ++ (symsFrom i k (xs.drop k) ++ objsFrom (i + 1) (l.drop (i + 1))) = flat l ∧ ts.map (·.1) = subS K i 0 (xs.take k) ∧ InM w2 K (subO K 0 (l.take i)) pre' xn u8 v9 us wo.heap.size vs ts wi) (fun _ v12 _ => xs.length - (intOf v12).toNat)
          case atStart => exact ⟨0, pre, _, [], Nat.zero_le _, rfl, HCAT.out, rfl, HST.out⟩
          case round =>
            obtain ⟨k, pre', vs, ts, hk, rfl, hcat, hts, hinm⟩ := hrel
            clear HCAT HST
            have HCAT := Lib.hid hcat; clear hcat
            have HTS := Lib.hid hts; clear hts
            have HIN := Lib.hid hinm; clear hinm
            have g2 := cell_keep HIN.out.out.b G0.out G2.out
            have g0 := size_keep HIN.out.out.b G0.out
            by_cases hks : k < xs.length
            · have d1 : decide ((k : Int) < (xs.length : Int)) = true := by simpa using hks
              have HINC := Lib.hid (in_no (HR2.out.keep placeR_keeps HIN.out.out.b) (decide ((i, k) ∈ K)) (a := i) (b := k) rfl)
              cases hin : decide ((i, k) ∈ K) with
              | false =>
                rw [hin] at HINC
                have HSK := Lib.hid (HIN.out.skip (x := ⟨i, k, xs[k]⟩) (by unfold keptS; exact hin))
                have HTS2 : Hid (ts.map (·.1) = subS K i 0 (xs.take (k + 1))) := by
                  have h1 := subS_snoc (K := K) (i := i) xs 0 k hks
                  rw [Nat.zero_add, if_neg (of_decide_eq_false hin), List.append_nil] at h1
                  rw [h1]; exact HTS
                have HC2 := Lib.hid (cat_step hks rfl HCAT.out)
                clear hin
                go_wp2_with fail
                refine HINC.out.mono ?_
                rintro e w3 ⟨rfl, hB⟩
                have HB3 := Lib.hid hB; clear hB HINC
                go_wp2
                go_roundw
                case rel => exact ⟨k + 1, _, vs, ts, by omega, by go_num, HC2.out, HTS2.out, HSK.out.keep HB3.out⟩
                case measure => simp [intOf]; omega
              | true =>
                rw [hin] at HINC
                go_wp2_with fail
                refine HINC.out.mono ?_
                rintro e w3 ⟨rfl, hB⟩
                have HI3 := Lib.hid (HIN.out.keep hB)
                clear hB HINC g2 g0 HIN
                obtain ⟨pvs, cvs, rfl⟩ := own_shape HI3.out.cur
                have hlen : ts.length = newK K i k := by
                  have h1 := subS_take (K := K) (i := i) xs 0 k (by omega)
                  have h2 := congrArg List.length HTS.out
                  rw [List.length_map] at h2
                  rw [h2, h1]; simp [newK]
                have htl : ts.length ≤ k := by
                  have h2 := congrArg List.length HTS.out
                  rw [List.length_map] at h2
                  have := subS_len (K := K) (i := i) (xs.take k) 0
                  rw [List.length_take] at this
                  omega
                have hwl : (whereOf K pre').length ≤ 1024 := by
                  have h1 := congrArg List.length HCAT.out
                  rw [List.length_append] at h1
                  have h2 := HFL.out
                  have h3 : (whereOf K pre').length ≤ pre'.length := by unfold whereOf; rw [List.length_map]; exact List.length_filter_le _ _
                  omega
                have HLEN := Lib.hid hlen; clear hlen
                have hkk : keptS K ⟨i, k, xs[k]⟩ = true := by unfold keptS; exact hin
                have HKK := Lib.hid hkk; clear hkk
                have HTS2 : Hid (∀ (vr vn : Value), (ts ++ [((xs[k], vr, vn) : SymT)]).map (fun t : SymT => t.1) = subS K i 0 (xs.take (k + 1))) := Lib.hid fun vr vn => by
                  have h1 := subS_snoc (K := K) (i := i) xs 0 k hks
                  rw [Nat.zero_add, if_pos (of_decide_eq_true hin)] at h1
                  rw [h1, List.map_append, HTS.out]; rfl
                have HC2 := Lib.hid (cat_step hks rfl HCAT.out)
                clear hin
                have c1 : w3.cell? ⟨wo.heap.size, 1, none⟩ = some (.slice pvs ts.length cvs) := Lib.cell_of_heap HI3.out.box 1
                have hbz := HI3.out.out.b.size
                have hob := HI3.out.lt
                have HI4 := Lib.hid (HI3.out.keep (alloc_old w3 (.cells #[.int .i64 i, .int .i64 ts.length] 30)))
                have HOWN := Lib.hid HI4.out.out.wh
                go_wp2_with (at_builtin; refine wpList_append_own _ rfl _ _ 25 rfl w2.heap.size 30 iP (.agg #[.int .i64 0, .int .i64 0]) 2 16 Tryd.underlying25 HIP.out.1 HIP.out.2.1 HIP.out.2.2.1 HIP.out.2.2.2 rfl (by decide) _ (whereOf K pre').length (placeCells (whereOf K pre')) rfl HOWN.out _ 1 1 [.int .i64 i, .int .i64 ts.length] rfl rfl (two_news (by simp [go_sem]) (by simp [go_sem])) two_one (by unfold maxLen; omega) (by omega) (by simp; omega) ?_)
                intro v9' w5 hown5 hgrow5 _
                have HI5 : Hid (InM w2 K (subO K 0 (l.take i)) (pre' ++ [⟨i, k, xs[k]⟩]) xn u8 v9' us wo.heap.size (.slice pvs ts.length cvs) ts w5) := by
                  refine HI4.out.place HKK.out hgrow5 ?_
                  have e : (newP K (i, k)).2 = ts.length := HLEN.out.symm
                  rw [show (newP K ((⟨i, k, xs[k]⟩ : Spot).obj, (⟨i, k, xs[k]⟩ : Spot).sym)).2 = ts.length from e]
                  exact hown5
                clear hown5 hgrow5 c1 HI3 HI4 HOWN
                have c1 : w5.cell? ⟨wo.heap.size, 1, none⟩ = some (.slice pvs ts.length cvs) := Lib.cell_of_heap HI5.out.box 1
                have f1 : w5.frozen? ⟨wo.heap.size, 1, none⟩ = false := Lib.frozen_of_heap HI5.out.box 1
                have g2 := cell_keep HI5.out.out.b G0.out G2.out
                obtain rfl := HPS.out (by omega)
                have hsr := HCS.out k hks
                obtain ⟨vr, vn, q0, q1, q2, q3, q4, q5, q6, q7, qin⟩ := hsr
                have s1 := cell_keep HI5.out.out.b q0 q1
                have s2 := cell_keep HI5.out.out.b q0 q2
                have s3 := cell_keep HI5.out.out.b q0 q3
                have s4 := cell_keep HI5.out.out.b q0 q4
                have s5 := cell_keep HI5.out.out.b q0 q5
                have s6 := cell_keep HI5.out.out.b q0 q6
                have s7 := cell_keep HI5.out.out.b q0 q7
                obtain ⟨pr1, cr1, pn1, cn1, rfl, rfl⟩ := qin.shape
                have HSTEP := Lib.hid (fun (vs' : Value) (w' : World) (hg : (w5.alloc (.cells #[.string xs[k].name, .int .u8 xs[k].bind, .int .u8 xs[k].kind, .int .u32 xs[k].size, .string xs[k].bytes, .slice pr1 xs[k].rels.length cr1, .slice pn1 xs[k].notes.length cn1] 46)).drew.grownBy w' (Value.slice pvs ts.length cvs).ownBlock) (hown : w'.ownsRow w2.heap.size 46 7 vs' (ts.length + 1) (ts.flatMap symCells ++ symCells (xs[k], .slice pr1 xs[k].rels.length cr1, .slice pn1 xs[k].notes.length cn1))) (hv : vs'.ownBlock = (Value.slice pvs ts.length cvs).ownBlock ∨ vs'.ownBlock = some (w5.alloc (.cells #[.string xs[k].name, .int .u8 xs[k].bind, .int .u8 xs[k].kind, .int .u32 xs[k].size, .string xs[k].bytes, .slice pr1 xs[k].rels.length cr1, .slice pn1 xs[k].notes.length cn1] 46)).drew.heap.size) => (HI5.out.keep (alloc_old w5 (.cells #[.string xs[k].name, .int .u8 xs[k].bind, .int .u8 xs[k].kind, .int .u32 xs[k].size, .string xs[k].bytes, .slice pr1 xs[k].rels.length cr1, .slice pn1 xs[k].notes.length cn1] 46)).drew).sym qin hg hown hv)
                have HTS3 := Lib.hid (HTS2.out (.slice pr1 xs[k].rels.length cr1) (.slice pn1 xs[k].notes.length cn1))
                clear q0 q1 q2 q3 q4 q5 q6 q7 qin HTS2
                have hb5 := HI5.out.box
                have hob5 := HI5.out.lt
                have hcur := HI5.out.cur
                have hbz5 := HI5.out.out.b.size
                have HB5 := Lib.hid hb5; clear hb5
                have HCUR := Lib.hid hcur; clear hcur
                clear HI5 HTS
                generalize xs[k] = y at *
                obtain ⟨yn, yb, yk, ys, yy, yr, yt⟩ := y
                simp only [] at s1 s2 s3 s4 s5 s6 s7 HSTEP HTS3
                have HOWN : Hid ((w5.alloc (.cells #[.string yn, .int .u8 yb, .int .u8 yk, .int .u32 ys, .string yy, .slice pr1 yr.length cr1, .slice pn1 yt.length cn1] 46)).drew.ownsRow w2.heap.size 46 7 (.slice pvs ts.length cvs) ts.length (ts.flatMap symCells)) := Lib.hid (HCUR.out.alloc _).drew
                have HNEWS : Hid (∀ j u, (symCells (⟨yn, yb, yk, ys, yy, yr, yt⟩, .slice pr1 yr.length cr1, .slice pn1 yt.length cn1))[j]? = some u → (w5.alloc (.cells #[.string yn, .int .u8 yb, .int .u8 yk, .int .u32 ys, .string yy, .slice pr1 yr.length cr1, .slice pn1 yt.length cn1] 46)).drew.cell? ((⟨w5.heap.size, 0, none⟩ : Addr).add j) = some u) := Lib.hid (by
                  intro j u hj
                  match j, hj with
                  | 0, hj => cases hj; simp [go_sem, Addr.add]
                  | 1, hj => cases hj; simp [go_sem, Addr.add]
                  | 2, hj => cases hj; simp [go_sem, Addr.add]
                  | 3, hj => cases hj; simp [go_sem, Addr.add]
                  | 4, hj => cases hj; simp [go_sem, Addr.add]
                  | 5, hj => cases hj; simp [go_sem, Addr.add]
                  | 6, hj => cases hj; simp [go_sem, Addr.add])
                have HONE : Hid (∀ u ∈ symCells (⟨yn, yb, yk, ys, yy, yr, yt⟩, .slice pr1 yr.length cr1, .slice pn1 yt.length cn1), u.oneCell' = true) := Lib.hid (by
                  intro u hu
                  simp [symCells] at hu
                  rcases hu with rfl | rfl | rfl | rfl | rfl | rfl | rfl <;> rfl)
                have i1 : (i : Int) < (l.length : Int) := by omega
                have i2 : (k : Int) < (xs.length : Int) := by omega
                have i3 : (0 : Int) ≤ (i : Int) := by omega
                have i4 : (0 : Int) ≤ (k : Int) := by omega
                go_wp2
                go_region_law ((refine step_append_own_at rfl (.tmp 80) (.tmp 89) 39 rfl w2.heap.size 46 iS _ 7 88 Tryd.underlying39 HIS.out.1 HIS.out.2.1 HIS.out.2.2.1 HIS.out.2.2.2 rfl (by decide) (.slice pvs ts.length cvs) ts.length (ts.flatMap symCells) (by simp [Act.eval]) HOWN.out ⟨w5.heap.size, 0, none⟩ 1 1 (symCells (⟨yn, yb, yk, ys, yy, yr, yt⟩, .slice pr1 yr.length cr1, .slice pn1 yt.length cn1)) (by simp [Act.eval]) rfl HNEWS.out HONE.out (by unfold maxLen; omega) (by omega) (by simp; omega) ?_; intro vz w7 hown hgrow hv; obtain ⟨pz, cz, rfl⟩ := own_shape hown; have HG := Lib.hid (And.intro hgrow (And.intro hown hv)); have hb7 : w7.heap[wo.heap.size]? = some (.cells #[.string xn, .slice pvs ts.length cvs] 41 (0, 0)) := (hgrow.block _ (by simp; omega) (fun e => own_ne_box HOWN.out ((Below.heap_alloc w5 _ _ hob5).trans HB5.out) (by decide) e.symm)).trans ((Below.heap_alloc w5 _ _ hob5).trans HB5.out); have e1 : w7.cell? ⟨wo.heap.size, 1, none⟩ = some (.slice pvs ts.length cvs) := Lib.cell_of_heap hb7 1; have e2 : w7.frozen? ⟨wo.heap.size, 1, none⟩ = false := Lib.frozen_of_heap hb7 1; clear hown hgrow hv hb7))
                all_goals
                  go_wp2
                  go_roundw
                  case rel => exact ⟨k + 1, _, _, _, by omega, by go_num, HC2.out, HTS3.out, HSTEP.out _ _ HG.out.1 HG.out.2.1 HG.out.2.2⟩
                  case measure => simp [intOf]; omega
            · have d1 : decide ((k : Int) < (xs.length : Int)) = false := by simp; omega
              have hts := HTS.out
              rw [List.take_of_length_le (by omega)] at hts
              have hcat := HCAT.out
              rw [List.drop_of_length_le (by omega), symsFrom, List.nil_append] at hcat
              have HCL := Lib.hid (fun (v8' : Value) (w' : World) => (HIN.out.keep (alloc_old wr (.cells #[.string xn, vs] 41))).close (v8' := v8') (w' := w') (o := ⟨xn, subS K i 0 xs⟩) (by rw [hts]))
              have HCAT2 := Lib.hid hcat; clear hcat
              have HROW := Lib.hid (HIN.out.out.row.alloc (.cells #[.string xn, vs] 41))
              have c0 : wr.cell? ⟨wo.heap.size, 0, none⟩ = some (.string xn) := Lib.cell_of_heap HIN.out.box 0
              have c1 : wr.cell? ⟨wo.heap.size, 1, none⟩ = some vs := Lib.cell_of_heap HIN.out.box 1
              have hbz := HIN.out.out.b.size
              have hus : us.length ≤ i := Nat.le_of_eq HUS.out
              clear hts
              obtain ⟨pvs, cvs, rfl⟩ := own_shape HIN.out.cur
              clear HIN
              go_wp2_with (at_builtin; refine wpList_append_own _ rfl _ _ 22 rfl w2.heap.size 41 iO (.agg #[.string ⟨#[]⟩, .slice none 0 0]) 2 40 Tryd.underlying22 HIO.out.1 HIO.out.2.1 HIO.out.2.2.1 HIO.out.2.2.2 rfl (by decide) _ us.length (us.flatMap objMC) rfl HROW.out _ 1 1 [.string xn, .slice pvs ts.length cvs] rfl rfl (two_news (by simp [go_sem]) (by simp [go_sem])) (by intro u hu; simp at hu; rcases hu with rfl | rfl <;> rfl) (by unfold maxLen; omega) (by omega) (by simp; omega) ?_)
              intro v8' w7 hown7 hgrow7 _
              have HO7 := Lib.hid (HCL.out v8' w7 hgrow7 hown7)
              clear hown7 hgrow7 HCL HROW c0 c1
              rw [← HSN.out] at HO7
              go_wp2
              go_roundw
              case rel => exact ⟨i + 1, _, _, by omega, by go_num, HCAT2.out, by simp [HUS.out], HO7.out⟩
              case measure => simp [intOf]; omega
        · have hcat := HCAT.out
          rw [List.drop_of_length_le (by omega), objsFrom, List.append_nil] at hcat
          have hout := HOUT.out
          rw [hcat, List.take_of_length_le (by omega)] at hout
          have hub := hout.os
          have HNB : Hid (∀ o ∈ l, o.name.size ≤ 140737488355328) := Lib.hid fun o ho => by
            obtain ⟨n, hn', rfl⟩ := List.mem_iff_getElem.1 ho
            obtain ⟨_, _, _, _, hin⟩ := HCO.out n hn'
            exact hin.2
          have HSB : Hid (∀ o ∈ l, o.syms.length ≤ 1024) := Lib.hid fun o ho => by
            have hm := (beginR_zero HY.out.1).1
            simp only [mayAll, Bool.and_eq_true, List.all_eq_true] at hm
            have h3 := hm.2 _ ho
            simp only [mayP, Bool.and_eq_true, decide_eq_true_eq] at h3
            omega
          have HM := Lib.hid (hout.objs (by have := HUS.out; omega) (fun u hu => by
            have hm : u.2 ∈ subO K 0 l := by rw [← hub]; exact List.mem_map.2 ⟨u, hu, rfl⟩
            obtain ⟨o', h1, h2, h3⟩ := subO_mem l 0 u.2 hm
            have h4 := HNB.out o' h1
            have h5 := HSB.out o' h1
            rw [h2]
            exact ⟨by omega, h4⟩))
          have hwr := hout.wh
          rw [kept_where HY.out] at hwr
          have hKl : K.length ≤ 1024 := by
            have h1 := congrArg List.length (kept_where HY.out)
            rw [List.length_map] at h1
            have h3 : (whereOf K (flat l)).length ≤ (flat l).length := by unfold whereOf; rw [List.length_map]; exact List.length_filter_le _ _
            have := HFL.out
            omega
          obtain ⟨pW, cW, hsw⟩ := own_shape hwr
          rw [List.length_map] at hsw
          subst hsw
          have HWR := Lib.hid (PRow.row hwr (by rw [List.length_map]; omega))
          have HBL := Lib.hid hout.b
          clear hout hcat HOUT HCAT hub HUS hwr HNB HSB
          have HBV : Hid (Below w.heap.size w wr) := HB2.out.trans (HBL.out.mono HB2.out.size)
          have HKM := Lib.hid (fun e w' => less_kept (w := wr) (w' := w') (e := e) HY.out)
          have HKC := Lib.hid (kept_any HSORT.out u8 (subO K 0 l) nm wr HM.out (by omega))
          go_wp2_with fail
          refine HKC.out.mono ?_
          intro e w3 hpost
          obtain ⟨⟨va, hra, rfl⟩, hB3⟩ := HKM.out _ _ hpost
          clear hpost HKM HKC
          have HRA := Lib.hid hra
          obtain ⟨pa, ca, ba, oa, rfl, -⟩ := hra
          rw [List.length_map] at HRA
          have HM3 := Lib.hid (ObjsAt.keep hB3 HM.out)
          have HW3 := Lib.hid (HWR.out.keep placeR_keeps hB3)
          have HB3 : Hid (Below w2.heap.size w2 w3) := HBL.out.trans (hB3.mono HBL.out.size)
          clear hB3 HM HWR HBL HBV
          have HSM := Lib.hid (same_any _ _ _ _ HRA.out HW3.out)
          go_wp2_with fail
          refine HSM.out.mono ?_
          rintro e w4 ⟨rfl, hB⟩
          have HM4 := Lib.hid (ObjsAt.keep hB HM3.out)
          have HW4 := Lib.hid (HW3.out.keep placeR_keeps hB)
          have HB4 : Hid (Below w2.heap.size w2 w4) := HB3.out.trans (hB.mono HB3.out.size)
          have HR4 := Lib.hid (HR2.out.keep placeR_keeps HB4.out)
          clear hB HM3 HW3 HB3 HRA HSM
          go_wp2_with fail
          obtain ⟨pk', ck', bk', ok', heq, hck, hmk, hpk, hrk⟩ := HR4.out
          obtain ⟨rfl, rfl⟩ : pk' = pk ∧ ck' = ck := by cases heq; exact ⟨rfl, rfl⟩
          have HPK := Lib.hid hpk
          have HRK := Lib.hid hrk
          clear heq hpk hrk
          obtain ⟨pw', cw', bw', ow', heq, hcw, hmw, hpw, hrw⟩ := HW4.out
          have hpq := (Value.slice.inj heq).1
          have hcq := (Value.slice.inj heq).2.2
          subst hpq; subst hcq
          rw [List.length_map] at hpw hcw
          have HPW := Lib.hid hpw
          have HRW : Hid (∀ i (h : i < K.length), PlaceR w4 bw' (ow' + i * 2) (newP K K[i])) := Lib.hid fun i h => by
            have := hrw i (by rw [List.length_map]; exact h)
            rw [List.getElem_map] at this
            exact this
          clear heq hpw hrw
          obtain ⟨wo, rfl⟩ : ∃ wo : World, wo = wr := ⟨_, rfl⟩
          go_loopw [16] (fun v16 wx => ∃ n : Nat, n ≤ K.length ∧ v16 = .int .i64 n ∧ Below w4.heap.size w4 wx) (fun v16 _ => K.length - (intOf v16).toNat)
          case atStart => exact ⟨0, Nat.zero_le _, rfl, Below.refl _ _⟩
          case round =>
            obtain ⟨n, hnl', rfl, hbel⟩ := hrel
            have HBE := Lib.hid hbel; clear hbel
            have HBT : Hid (Below w2.heap.size w2 wr) := HB4.out.trans (HBE.out.mono HB4.out.size)
            by_cases hnk : n < K.length
            · obtain rfl := HPK.out (by omega)
              obtain rfl := HPW.out (by omega)
              obtain ⟨-, y0, y1⟩ := placeR_keeps _ _ _ _ _ HBE.out (HRK.out n hnk)
              obtain ⟨hwz, z0, z1⟩ := placeR_keeps _ _ _ _ _ HBE.out (HRW.out n hnk)
              have hyK : K[n] ∈ K := List.getElem_mem hnk
              generalize K[n] = y at *
              obtain ⟨hl1, hl2⟩ := less_refs HY.out hyK
              have hl3 := HY.out.2.2.2 y hyK
              have HRF := Lib.hid (refs_any (.slice pO l.length capO) l y.1 y.2 wr (ObjsAt.keep HBT.out HO2.out))
              have HRM := Lib.hid (fun (W : World) (hW : Below wr.heap.size wr W) => refs_any u8 (subO K 0 l) (newP K y).1 (newP K y).2 W (ObjsAt.keep (HBE.out.trans (hW.mono HBE.out.size)) HM4.out))
              rw [hl1] at HRM
              have HRK2 : Hid (∀ r ∈ (refsV (beginR l) l y.1 y.2).1, r ∈ K) := Lib.hid fun r hr => by
                have := (refs_know HY.out.1 (kept_valid HY.out y hyK) hl3 r).1 hr
                exact (HY.out.2.2.1.2 r).2 (.step ((HY.out.2.2.1.2 y).1 hyK) this)
              have HC1 : Hid ((refsV (beginR l) l y.1 y.2).2.2 = 0) := Lib.hid hl3
              have HC2 : Hid ((refsV (beginR (subO K 0 l)) (subO K 0 l) (newP K y).1 (newP K y).2).2.2 = 0) := Lib.hid hl2
              generalize (refsV (beginR l) l y.1 y.2).1 = rs at *
              generalize (refsV (beginR l) l y.1 y.2).2.1 = rn at *
              generalize (refsV (beginR (subO K 0 l)) (subO K 0 l) (newP K y).1 (newP K y).2).2.1 = sn at *
              rw [HC1.out] at HRF
              rw [HC2.out] at HRM
              clear hl1 hl2 hl3 HC1 HC2 hyK
              obtain ⟨y1', y2'⟩ := y
              obtain ⟨z1', z2', hz12⟩ : ∃ a b, newP K (y1', y2') = (a, b) := ⟨_, _, rfl⟩
              rw [hz12] at z0 z1 HRM
              clear hz12
              simp only [] at y0 y1 z0 z1 HRF HRM
              have d1 : (0 : Int) ≤ (n : Int) := by omega
              go_wp2_with fail
              refine HRF.out.mono ?_
              rintro e wa ⟨vr, rfl, hrr, hB⟩
              replace z0 := cell_keep hB hwz z0
              replace z1 := cell_keep hB hwz z1
              have HRR := Lib.hid hrr
              obtain ⟨pr, cr, br, or, rfl, -⟩ := hrr
              have HRM2 := Lib.hid (HRM.out wa hB)
              have HBA : Hid (Below w4.heap.size w4 wa) := HBE.out.trans (hB.mono HBE.out.size)
              clear hB HRF HRM y0 y1
              go_wp2_with fail
              refine HRM2.out.mono ?_
              rintro e wb ⟨vs, rfl, hrs, hB⟩
              have HRS := Lib.hid hrs
              obtain ⟨ps, cs, bs, os, rfl, -⟩ := hrs
              rw [List.length_map] at HRS
              have HRR2 := Lib.hid (HRR.out.keep placeR_keeps hB)
              have HBB : Hid (Below w4.heap.size w4 wb) := HBA.out.trans (hB.mono HBA.out.size)
              clear hB HRR HBA z0 z1 HRM2 hwz HBT HBE
              go_wp2_with fail
              obtain ⟨pr', cr', br', or', heq, hcr, hmr, hpr, hrr⟩ := HRR2.out
              obtain ⟨rfl, rfl⟩ : pr' = pr ∧ cr' = cr := by cases heq; exact ⟨rfl, rfl⟩
              have HPR := Lib.hid hpr
              have HRQ := Lib.hid hrr
              clear heq hpr hrr
              obtain ⟨ps', cs', bs', os', heq, hcs, hms, hps, hrs⟩ := HRS.out
              have hpq := (Value.slice.inj heq).1
              have hcq := (Value.slice.inj heq).2.2
              subst hpq; subst hcq
              rw [List.length_map] at hps hcs
              have HPS := Lib.hid hps
              have HSQ : Hid (∀ i (h : i < rs.length), PlaceR wb bs' (os' + i * 2) (newP K rs[i])) := Lib.hid fun i h => by
                have := hrs i (by rw [List.length_map]; exact h)
                rw [List.getElem_map] at this
                exact this
              clear heq hps hrs hms
              obtain ⟨wo2, rfl⟩ : ∃ wo : World, wo = wr := ⟨_, rfl⟩
              go_loopw [23] (fun v23 wx => ∃ k : Nat, k ≤ rs.length ∧ v23 = .int .i64 k ∧ Below wb.heap.size wb wx) (fun v23 _ => rs.length - (intOf v23).toNat)
              case atStart => exact ⟨0, Nat.zero_le _, rfl, Below.refl _ _⟩
              case round =>
                obtain ⟨k, hkl, rfl, hbel⟩ := hrel
                have HBX := Lib.hid hbel; clear hbel
                by_cases hkr : k < rs.length
                · obtain rfl := HPR.out (by omega)
                  obtain rfl := HPS.out (by omega)
                  have hq := HRQ.out k hkr
                  have hs := HSQ.out k hkr
                  have hzK := HRK2.out rs[k] (List.getElem_mem hkr)
                  generalize rs[k] = z at *
                  have HQ := Lib.hid hq; have HS := Lib.hid hs; have HZK := Lib.hid hzK
                  clear hq hs hzK
                  have d3 : (0 : Int) ≤ (k : Int) := by omega
                  go_wp2_with fail
                  obtain ⟨wo3, rfl⟩ : ∃ wo : World, wo = wr := ⟨_, rfl⟩
                  go_loopw [24, 25] (fun v24 v25 wy => ∃ (j : Nat) (t : Int), j ≤ K.length ∧ v25 = .int .i64 j ∧ v24 = .int .i64 t ∧ AtOk K z j t ∧ Below wb.heap.size wb wy) (fun _ v25 _ => K.length - (intOf v25).toNat)
                  case atStart => exact ⟨0, -1, Nat.zero_le _, rfl, rfl, .inl ⟨rfl, fun i _ h0 => by omega⟩, HBX.out⟩
                  case round =>
                    obtain ⟨j, t, hjl, rfl, rfl, hat, hbel⟩ := hrel
                    have HBY := Lib.hid hbel; clear hbel
                    have HBZ : Hid (Below w4.heap.size w4 wr) := HBB.out.trans (HBY.out.mono HBB.out.size)
                    obtain ⟨ht1, ht2⟩ := hat.bd (by omega)
                    have HAT := Lib.hid hat; clear hat
                    by_cases hjk : j < K.length
                    · obtain ⟨-, u0, u1⟩ := placeR_keeps _ _ _ _ _ HBZ.out (HRK.out j hjk)
                      obtain ⟨-, t0, t1⟩ := placeR_keeps _ _ _ _ _ HBY.out HQ.out
                      have HYES := Lib.hid (fun (e : K[j] = z) => AtOk.yes hjk e)
                      have HNO := Lib.hid (fun (e : K[j] ≠ z) => HAT.out.no hjk e)
                      generalize K[j] = u at *
                      obtain ⟨u1', u2'⟩ := u
                      obtain ⟨z1', z2'⟩ := z
                      simp only [] at u0 u1 t0 t1
                      have d4 : (0 : Int) ≤ (j : Int) := by omega
                      by_cases he : u1' = z1' ∧ u2' = z2'
                      · obtain ⟨rfl, rfl⟩ := he
                        have HY2 := Lib.hid (HYES.out rfl)
                        go_wp2_with fail
                        go_quiet (fail)
                        go_wp2
                        go_roundw
                        case rel => exact ⟨j + 1, _, by omega, by go_num, rfl, HY2.out, below_drewN HBY.out _⟩
                        case measure => simp [intOf]; omega
                      · have HN2 := Lib.hid (HNO.out (fun e => he (by cases e; exact ⟨rfl, rfl⟩)))
                        have hcase : (u1' = z1' ∧ ¬ u2' = z2') ∨ ¬ u1' = z1' := by omega
                        clear he
                        rcases hcase with ⟨rfl, h2⟩ | h2
                        all_goals
                          go_wp2_with fail
                          go_quiet (fail)
                          go_wp2
                          go_roundw
                          case rel => exact ⟨j + 1, t, by omega, by go_num, rfl, HN2.out, below_drewN HBY.out _⟩
                          case measure => simp [intOf]; omega
                    · obtain ⟨i0, hi0, hti, hKz⟩ := HAT.out.done (by omega) HZK.out
                      subst hti
                      obtain ⟨-, u0, u1⟩ := placeR_keeps _ _ _ _ _ HBZ.out (HRW.out i0 hi0)
                      rw [hKz] at u0 u1
                      obtain ⟨-, t0, t1⟩ := placeR_keeps _ _ _ _ _ HBY.out HS.out
                      clear hKz HAT
                      generalize newP K z = y at *
                      obtain ⟨y1', y2'⟩ := y
                      simp only [] at u0 u1 t0 t1
                      have d5 : decide ((i0 : Int) < 0) = false := by simp
                      have d6 : (0 : Int) ≤ (i0 : Int) := by omega
                      go_wp2_with fail
                      go_quiet (fail)
                      go_wp2
                      go_roundw
                      case rel => exact ⟨k + 1, by omega, by go_num, below_drewN HBY.out _⟩
                      case measure => simp [intOf]; omega
                · go_wp2_with fail
                  go_roundw
                  case rel => exact ⟨n + 1, by omega, by go_num, HBB.out.trans (HBX.out.mono HBB.out.size)⟩
                  case measure => simp [intOf]; omega
            · go_wp2_with (go_at_call 6; refine (alive13_any HSORT.out HREV.out _).mono ?_; rintro e w6 ⟨rfl, hB6⟩)
              go_ret
              exact ⟨rfl, HB2.out.trans ((HBT.out.trans (hB6.mono HBT.out.size)).mono HB2.out.size)⟩
    · have hcb : (c != 0) = true := by simpa using hc
      clear hc
      go_wp2_with (go_at_call 6; refine (alive13_any HSORT.out HREV.out _).mono ?_; rintro e w3 ⟨rfl, hB3⟩)
      go_ret
      exact ⟨rfl, HB2.out.trans (hB3.mono HB2.out.size)⟩
  · have hdn : decide ((1024 : Int) < (nm.size : Int)) = true := by simp; omega
    go_enter Tryd.func4, Tryd.ntmps4
    go_wp2_with (first | (go_at_call 5; refine HLG.out.mono ?_; rintro e w1 ⟨rfl, hB1⟩) | (go_at_call 6; refine (alive13_any HSORT.out HREV.out _).mono ?_; rintro e w2 ⟨rfl, hB2⟩))
    go_ret
    exact ⟨rfl, hB1.trans (hB2.mono hB1.size)⟩
end Go.Proofs.YtnhmbflinbfeoaaDoor
