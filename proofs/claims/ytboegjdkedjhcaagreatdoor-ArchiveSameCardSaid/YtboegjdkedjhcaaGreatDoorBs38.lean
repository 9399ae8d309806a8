/- The walk of aediculelaw35.Large: what is not large has short bytes. -/
import Derived.Test.YtboegjdkedjhcaaGreatDoorBs28
import Derived.Test.YtboegjdkedjhcaaGreatDoorBs04
import Derived.Test.YtboegjdkedjhcaaGreatDoorBs36
namespace Go.Proofs.YtboegjdkedjhcaaGreatDoor
open Go.RowKit Go.Maps Go.WideMaps
def memsAll (l : List GArc) : List GObj := l.flatMap fun a => a.members
theorem memsAll_snoc {l : List GArc} {k : Nat} {x : GArc} (h : k < l.length) (hx : l[k] = x) : memsAll (l.take (k + 1)) = memsAll (l.take k) ++ x.members := by
 rw [List.take_succ_eq_append_getElem h, hx, memsAll, List.flatMap_append]; simp [memsAll]
def ShortO (m : Nat) (o : GObj) : Prop := ∀ (j : Nat) (h : j < o.syms.length), j < 70 → o.syms[j].bytes.size / 256 ≤ m
theorem ShortO.mono {m m' : Nat} {o : GObj} (h : ShortO m o) (hm : m ≤ m') : ShortO m' o := fun j hj h7 => Nat.le_trans (h j hj h7) hm
theorem wrap_id {a : Int} (h0 : 0 ≤ a) (h1 : a ≤ 4611686018427387904) : IntKind.i64.wrap a = a := IntWalk.i64_in _ (by omega)
def Large35 (L : List GObj) (B : Nat) (w : World) (e : Ending) (w' : World) : Prop := (∃ b, e = .returned (.bool b) ∧ (b = false → (∀ o ∈ L, ShortO 400 o) ∧ L.length ≤ 60)) ∧ Below B w w'
theorem Large35.yes {L : List GObj} {B : Nat} {w w' : World} (h : Below B w w') : Large35 L B w (.returned (.bool true)) w' := ⟨⟨_, rfl, fun h => by cases h⟩, h⟩
set_option maxRecDepth 100000 in
set_option maxHeartbeats 8000000 in
theorem large35_any (vb v : Value) (lb : List GObj) (l : List GArc) (w : World) (hb : ObjsAt w vb lb) (h : ArcsAt w v l) :
 Calls Tryz.prog 7 #[vb, v] w (Large35 (memsAll l ++ lb) w.heap.size w) := by
 have HLG := Lib.hid (large_any vb lb w hb); have HOB := Lib.hid hb; have HAR := Lib.hid h; obtain ⟨p, cap, b, o, rfl, hcap, hmax, hp, -⟩ := hb; obtain ⟨p2, cap2, b2, o2, rfl, hcap2, hmax2, hp2, -⟩ := h; have HP := Lib.hid hp; have HP2 := Lib.hid hp2; clear hp hp2; generalize hlb : largeB lb = lgb at HLG; have HLB := Lib.hid hlb; clear hlb; cases lgb with
 | true =>
   go_enter Tryz.func7, Tryz.ntmps7; go_wp2_with (go_at_call 26; refine HLG.out.mono ?_; rintro e w1 ⟨rfl, hB1⟩; have HB1 := Lib.hid hB1; clear hB1); go_ret; exact Large35.yes HB1.out
 | false =>
 by_cases h12 : 12 < l.length
 ·have d1 : decide ((12 : Int) < (l.length : Int)) = true := by simp; omega
  have d1' : decide (12 < l.length) = true := by simp; omega
  go_enter Tryz.func7, Tryz.ntmps7; go_wp2_with (go_at_call 26; refine HLG.out.mono ?_; rintro e w1 ⟨rfl, hB1⟩; have HB1 := Lib.hid hB1; clear hB1); go_ret; exact Large35.yes HB1.out
 have d1 : decide ((12 : Int) < (l.length : Int)) = false := by simp; omega
 have d1' : decide (12 < l.length) = false := by simp; omega
 have hl12 : l.length ≤ 12 := by omega
 have hlb20 : lb.length ≤ 20 := by
  have := HLB.out; simp only [largeB, Bool.or_eq_false_iff, decide_eq_false_iff_not] at this; omega
 clear h12; obtain ⟨iO, s0, s1, s2, s3⟩ := info_parts info_obj; have HI := Lib.hid (And.intro s0 (And.intro s1 (And.intro s2 s3))); clear s0 s1 s2 s3; go_enter Tryz.func7, Tryz.ntmps7; go_wp2_with (go_at_call 26; refine HLG.out.mono ?_; rintro e w1 ⟨rfl, hB1⟩; have HB1 := Lib.hid hB1; clear hB1); clear HLG d1 d1'
 go_loopw [5, 6, 7] (fun v5 v6 v7 wr => ∃ (k n : Nat) (ts : List (GObj × Value)), v7 = .int .i64 k ∧ v5 = .int .i64 n ∧ k ≤ l.length ∧ n ≤ 40 ∧ n = ts.length ∧ ts.map (·.1) = memsAll (l.take k) ∧ OwnObsB w1.heap.size w wr v6 ts ∧ Below w1.heap.size w1 wr) (fun _ _ v7 _ => l.length - (intOf v7).toNat)
 case atStart => exact ⟨0, 0, [], by go_num, by go_num, Nat.zero_le _, by omega, rfl, rfl, OwnObsB.nil _ _ _, Below.refl _ _⟩
 case round =>
  obtain ⟨k, n, ts, rfl, rfl, hk, hn, hnl, hts, hown, hbel⟩ := hrel; have HTS := Lib.hid hts; have HNL := Lib.hid hnl; have HOW := Lib.hid hown; have HB := Lib.hid hbel; have HBW : Hid (Below w.heap.size w wr) := HB1.out.trans (hbel.mono HB1.out.size); obtain ⟨pv, cv, rfl⟩ := own_shape hown.row; have htl : ts.length ≤ 40 := by omega
  clear hts hown hbel hnl
  by_cases hlt : k < l.length
  ·obtain rfl := HP2.out (by omega)
   obtain ⟨_, _, b0, o0, he0, -, -, hp0, hc0⟩ := HAR.out; cases he0; cases hp0 (by omega)
   obtain ⟨vs, g0, g1, g2, hin0⟩ := hc0 k hlt; replace g1 := cell_keep HBW.out g0 g1; replace g2 := cell_keep HBW.out g0 g2; replace g0 := size_keep HBW.out g0; have hms := memsAll_snoc hlt rfl; generalize l[k] = y at g1 g2 hin0 hms; obtain ⟨yn, ym⟩ := y; have HIN0 := Lib.hid hin0; obtain ⟨⟨p1, q1, bb1, oo1, rfl, -, hym, -⟩, hyn⟩ := hin0; simp only [] at g1 g2 hyn hms HIN0 hym; have HMS := Lib.hid hms; clear hms hc0 hp0; have hw : IntKind.i64.wrap ((n : Int) + (ym.length : Int)) = ((n + ym.length : Nat) : Int) := (wrap_id (by omega) (by omega)).trans (by omega)
   by_cases h40 : 40 < n + ym.length
   ·have e1 : decide ((40 : Int) < ((n + ym.length : Nat) : Int)) = true := by simp; omega
    have e1' : decide (40 < n + ym.length) = true := by simpa using h40
    have e1'' : decide ((40 : Int) < (n : Int) + (ym.length : Int)) = true := by simp; omega
    go_wp2; go_ret; exact Large35.yes HBW.out
   have e1 : decide ((40 : Int) < ((n + ym.length : Nat) : Int)) = false := by simp; omega
   have e1' : decide (40 < n + ym.length) = false := by simpa using h40
   have e1'' : decide ((40 : Int) < (n : Int) + (ym.length : Int)) = false := by simp; omega
   by_cases h1k : 1024 < yn.size
   ·have e2 : decide ((1024 : Int) < (yn.size : Int)) = true := by simp; omega
    have e2' : decide (1024 < yn.size) = true := by simpa using h1k
    go_wp2; go_ret; exact Large35.yes HBW.out
   have e2 : decide ((1024 : Int) < (yn.size : Int)) = false := by simp; omega
   have e2' : decide (1024 < yn.size) = false := by simpa using h1k
   have hn40 : n + ym.length ≤ 40 := by omega
   clear h40 h1k; obtain ⟨pu, cu, bu, ou, us, heu, hus, -, hpu, hmu, hcu⟩ := objs_pairs HIN0.out.1; cases heu; simp only [] at hus hpu; have hul : Hid (us.length = ym.length) := by rw [Hid, ← hus, List.length_map]
   have HCU : Hid (0 < ym.length → ∀ j u, (us.flatMap obCells)[j]? = some u → wr.cell? ((⟨bu, ou, none⟩ : Addr).add j) = some u) := fun h0 j u hj => by
    have h1 := hcu j u hj; rw [add_at] at h1 ⊢
    have h2 : bu < w.heap.size := by
     by_cases h3 : bu < w.heap.size
     ·exact h3
     ·rw [World.cell?, Array.getElem?_eq_none (by simpa using h3)] at h1; cases h1
    exact cell_keep HBW.out h2 h1
   have HMU := Lib.hid hmu; have HPU := Lib.hid hpu; have HUS := Lib.hid hus; have hzr : w1.heap.size ≤ wr.heap.size := HB.out.size; clear hcu hmu hpu hus; go_wp2_with (at_builtin; refine wpList_append_src rfl _ _ 22 rfl w1.heap.size 50 iO _ 2 40 Tryz.underlying22 HI.out.1 HI.out.2.1 HI.out.2.2.1 HI.out.2.2.2 rfl (by decide) (.slice pv ts.length cv) ts.length (ts.flatMap obCells) rfl HOW.out.row p1 ym.length q1 bu ou (us.flatMap obCells) rfl HPU.out (by rw [flat_len obCells_len, hul.out]) HCU.out (obs_one HMU.out) (by unfold maxLen; omega) (by omega) hzr ?_)
   intro v' w' hown3 hgrow3; obtain ⟨pw3, cw3, rfl⟩ := own_shape hown3; have HO3 : Hid (OwnObsB w1.heap.size w w' (.slice pw3 (ts.length + ym.length) cw3) (ts ++ us)) := HOW.out.more HMU.out (by rw [hul.out]; exact hown3)
   have HBF : Hid (Below w1.heap.size w1 w') := HB.out.grown hgrow3 hzr (fun q e => (HOW.out.row.lt q e).1)
   clear hown3 hgrow3; go_wp2; go_roundw
   case rel => exact ⟨k + 1, n + ym.length, ts ++ us, by go_num, by go_num, by omega, hn40, by rw [List.length_append, hul.out, HNL.out], by rw [List.map_append, HTS.out, HUS.out]; exact HMS.out.symm, HO3.out, HBF.out⟩
   case measure => simp [intOf]; omega
  ·obtain rfl : k = l.length := by omega
   rw [List.take_length] at HTS; obtain ⟨pu, cu, bu, ou, us, heu, hus, -, hpu, hmu, hcu⟩ := objs_pairs HOB.out; cases heu; have hul : Hid (us.length = lb.length) := by rw [Hid, ← hus, List.length_map]
   have HCU : Hid (0 < lb.length → ∀ j u, (us.flatMap obCells)[j]? = some u → wr.cell? ((⟨bu, ou, none⟩ : Addr).add j) = some u) := fun h0 j u hj => by
    have h1 := hcu j u hj; rw [add_at] at h1 ⊢
    have h2 : bu < w.heap.size := by
     by_cases h3 : bu < w.heap.size
     ·exact h3
     ·rw [World.cell?, Array.getElem?_eq_none (by simpa using h3)] at h1; cases h1
    exact cell_keep HBW.out h2 h1
   have HMU := Lib.hid hmu; have HPU := Lib.hid hpu; have HUS := Lib.hid hus; have hzr : w1.heap.size ≤ wr.heap.size := HB.out.size; clear hcu hmu hpu hus; go_wp2_with (at_builtin; refine wpList_append_src rfl _ _ 22 rfl w1.heap.size 50 iO _ 2 40 Tryz.underlying22 HI.out.1 HI.out.2.1 HI.out.2.2.1 HI.out.2.2.2 rfl (by decide) (.slice pv ts.length cv) ts.length (ts.flatMap obCells) rfl HOW.out.row p lb.length cap bu ou (us.flatMap obCells) rfl HPU.out (by rw [flat_len obCells_len, hul.out]) HCU.out (obs_one HMU.out) (by unfold maxLen; omega) (by omega) hzr ?_)
   intro v' w3 hown3 hgrow3; have HBF : Hid (Below w.heap.size w w3) := HBW.out.grown hgrow3 HBW.out.size (fun q e => Nat.le_trans HB1.out.size (HOW.out.row.lt q e).1)
   have HO3 : Hid (OwnObsB w1.heap.size w w3 v' (ts ++ us)) := HOW.out.more HMU.out (by rw [hul.out]; exact hown3)
   have hob : ObjsAt w3 v' (memsAll l ++ lb) := by
    have := HO3.out.objs HBF.out (by rw [List.length_append, hul.out]; omega)
    rw [List.map_append, HTS.out, HUS.out] at this; exact this
   have hLl : (memsAll l ++ lb).length ≤ 60 := by rw [List.length_append, ← HTS.out, List.length_map]; omega
   clear hown3 hgrow3 HO3; obtain ⟨L, hLL⟩ : ∃ L, L = memsAll l ++ lb := ⟨_, rfl⟩; rw [← hLL] at hob hLl; have HLL := Lib.hid hLL; clear hLL; have HOL := Lib.hid hob; obtain ⟨pL, cL, bL, oL, rfl, hcL, hmL, hpL, hcL2⟩ := hob; have HPL := Lib.hid hpL; have HCL := Lib.hid hcL2; clear hpL hcL2 HTS HOW HB HNL; go_wp2
   go_loopw [8, 9] (fun v8 v9 wr => ∃ i K : Nat, v9 = .int .i64 i ∧ v8 = .int .i64 K ∧ i ≤ L.length ∧ K ≤ i * 20000000000000000 ∧ (∀ o ∈ L.take i, ShortO K o) ∧ Below w3.heap.size w3 wr) (fun _ v9 _ => L.length - (intOf v9).toNat)
   case atStart => exact ⟨0, 0, by go_num, by go_num, Nat.zero_le _, by omega, fun o ho => by simp at ho, Below.refl _ _⟩
   case round =>
    obtain ⟨i, K, rfl, rfl, hi, hK, hsh, hbel⟩ := hrel; have HSH := Lib.hid hsh; have HB := Lib.hid hbel; clear hsh hbel
    by_cases hlt : i < L.length
    ·have hHC := HPL.out (by omega)
     cases hHC; obtain ⟨vs, f0, f1, f2, hin⟩ := HCL.out i hlt; have HX : Hid (L.take (i + 1) = L.take i ++ [L[i]]) := List.take_succ_eq_append_getElem hlt; generalize L[i] = x at f1 f2 hin HX; obtain ⟨xn, xs⟩ := x; obtain ⟨⟨p1, q1, bb1, oo1, rfl, -, hxm, hps, hcs⟩, hxn⟩ := hin; simp only [] at f1 f2 hxn hxm hps hcs; have F0 := Lib.hid f0; have F2 := Lib.hid f2; clear f1 f2 f0 hxn; have g2 := cell_keep HB.out F0.out F2.out; have HPS := Lib.hid hps; have HCS := Lib.hid hcs; clear hps hcs; have hw1 : IntKind.i64.wrap ((K : Int) + (xs.length : Int)) = ((K + xs.length : Nat) : Int) := (wrap_id (by omega) (by omega)).trans (by omega)
     go_wp2
     go_loopw [8, 10] (fun v8 v10 wt => ∃ j M : Nat, v10 = .int .i64 j ∧ v8 = .int .i64 M ∧ j ≤ xs.length ∧ j ≤ 70 ∧ K ≤ M ∧ M ≤ K + xs.length + j * 150000000000000 ∧ (∀ (jj : Nat) (h : jj < xs.length), jj < j → xs[jj].bytes.size / 256 ≤ M) ∧ Below w3.heap.size w3 wt) (fun _ v10 _ => xs.length - (intOf v10).toNat)
     case atStart => exact ⟨0, K + xs.length, by go_num, by go_num, Nat.zero_le _, by omega, by omega, by omega, fun jj h h2 => by omega, HB.out⟩
     case round =>
      obtain ⟨j, M, rfl, rfl, hj, hj70, hKM, hM, hsj, hbel⟩ := hrel; have HSJ := Lib.hid hsj; have HBT := Lib.hid hbel; clear hsj hbel; clear g2; have g2 := cell_keep HBT.out F0.out F2.out
      by_cases hlj : j < xs.length ∧ j < 70
      ·obtain ⟨hj1, hj2⟩ := hlj; have hQ := HPS.out (by omega)
       cases hQ; obtain ⟨vr, vn, t0, -, -, -, -, t4, t5, -, ⟨⟨_, c1, _, _, rfl, -, hrm, -, -⟩, -, -, -, -, -, hbm⟩⟩ := HCS.out j hj1; replace t4 := cell_keep HBT.out t0 t4; replace t5 := cell_keep HBT.out t0 t5; have HY : Hid (xs[j].bytes.size = (xs[j]).bytes.size) := rfl
       have HYS : Hid (∀ (jj : Nat) (h : jj < xs.length), jj < j + 1 → xs[jj].bytes.size / 256 ≤ M + xs[j].rels.length + xs[j].bytes.size / 256) := fun jj h h2 => by
        by_cases h3 : jj < j
        ·have := HSJ.out jj h h3; omega
        ·obtain rfl : jj = j := by omega
         omega
       clear HY; generalize xs[j].rels.length = rn at t5 hrm HYS; generalize xs[j].bytes = yb at t4 hbm HYS; have hw2 : IntKind.i64.wrap ((M : Int) + (rn : Int)) = ((M + rn : Nat) : Int) := (wrap_id (by omega) (by omega)).trans (by omega)
       have hw3 : IntKind.i64.wrap (((M + rn : Nat) : Int) + (yb.size : Int) / 256) = ((M + rn + yb.size / 256 : Nat) : Int) := (wrap_id (by omega) (by omega)).trans (by omega)
       have hw4 : IntKind.i64.wrap ((M : Int) + (rn : Int) + (yb.size : Int) / 256) = ((M + rn + yb.size / 256 : Nat) : Int) := (wrap_id (by omega) (by omega)).trans (by omega)
       go_wp2_with fail
       go_quiet (fail)
       go_wp2; go_roundw
       case rel => exact ⟨j + 1, M + rn + yb.size / 256, by go_num, by go_num, by omega, by omega, by omega, by omega, HYS.out, below_drewN HBT.out _⟩
       case measure => simp [intOf]; omega
      ·have HSX : Hid (∀ o ∈ L.take (i + 1), ShortO M o) := by
        intro o ho; rw [HX.out] at ho; rcases List.mem_append.mp ho with ho | ho
        ·exact (HSH.out o ho).mono hKM
        ·obtain rfl := List.mem_singleton.mp ho; intro jj h h7; exact HSJ.out jj h (by simp only [] at h; omega)
       by_cases h1 : j < xs.length
       ·have h2 : ¬ j < 70 := fun h => hlj ⟨h1, h⟩
        clear hlj; go_wp2; go_roundw
        case rel => exact ⟨i + 1, M, by go_num, by go_num, by omega, by omega, HSX.out, HBT.out⟩
        case measure => simp [intOf]; omega
       ·clear hlj; go_wp2; go_roundw
        case rel => exact ⟨i + 1, M, by go_num, by go_num, by omega, by omega, HSX.out, HBT.out⟩
        case measure => simp [intOf]; omega
    ·obtain rfl : i = L.length := by omega
     rw [List.take_length] at HSH; have HBX : Hid (Below w.heap.size w wr) := HBF.out.trans (HB.out.mono HBF.out.size)
     by_cases h400 : 400 < K
     ·have e1 : decide ((400 : Int) < (K : Int)) = true := by simp; omega
      have e1' : decide (400 < K) = true := by simpa using h400
      go_wp2; go_ret; exact Large35.yes HBX.out
     ·have e1 : decide ((400 : Int) < (K : Int)) = false := by simp; omega
      have e1' : decide (400 < K) = false := by simpa using h400
      have HE : Hid (Large35 (memsAll l ++ lb) w.heap.size w (.returned (.bool false)) wr) := ⟨⟨_, rfl, fun _ => ⟨fun o ho => (HSH.out o (HLL.out ▸ ho)).mono (by omega), by rw [← HLL.out]; omega⟩⟩, HBX.out⟩
      go_wp2; go_ret; exact HE.out
end Go.Proofs.YtboegjdkedjhcaaGreatDoor
