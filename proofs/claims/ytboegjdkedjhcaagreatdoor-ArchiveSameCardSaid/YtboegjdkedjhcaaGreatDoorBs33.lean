/- The walk of the archive's scope.wanting. -/
import Derived.Test.YtboegjdkedjhcaaGreatDoorBs28
import Derived.Test.YtboegjdkedjhcaaGreatDoorBs14
import Derived.Test.YtboegjdkedjhcaaGreatDoorBs04
namespace Go.Proofs.YtboegjdkedjhcaaGreatDoor
open Go.RowKit Go.Maps
def cntS (ss : List GSym) (n : List UInt8) : Nat := ss.countP fun s => s.name.data.toList == n
def ownF (ss : List GSym) (n : List UInt8) : Option Value := if cntS ss n = 0 then none else some (.int .i64 (cntS ss n))
def wantR (F : List UInt8 → Bool) (ys : List GSym) (r : GRel) : Bool := !F r.name.data.toList && cntS ys r.name.data.toList == 0
def wantsL (F : List UInt8 → Bool) (ys : List GSym) (rs : List GRel) : List (List UInt8) := (rs.filter (wantR F ys)).map fun r => r.name.data.toList
def wantsS (F : List UInt8 → Bool) (ys ss : List GSym) : List (List UInt8) := ss.flatMap fun s => wantsL F ys s.rels
def wantsO (F : List UInt8 → Bool) (l : List GObj) : List (List UInt8) := l.flatMap fun o => wantsS F o.syms o.syms
def wantsE (F : List UInt8 → Bool) (n : List UInt8) : List (List UInt8) := if F n then [] else [n]
def wantsRaw (F : List UInt8 → Bool) (n : List UInt8) (l : List GObj) : List (List UInt8) := wantsE F n ++ wantsO F l
def relsN (l : List GObj) : Nat := (l.flatMap fun o => o.syms.flatMap fun s => s.rels).length
theorem ownF_get (ss : List GSym) (n : List UInt8) : (ownF ss n).getD (.int .i64 0) = .int .i64 (cntS ss n) := by
 unfold ownF; split
 ·rename_i h; rw [h]; rfl
 ·rfl
theorem ownF_nil : (fun _ => none) = ownF [] := by funext n; simp [ownF, cntS]
theorem ownF_snoc {l : List GSym} {k : Nat} {x : GSym} (h : k < l.length) (hx : l[k] = x) : (fun n => if n = x.name.data.toList then some (Value.int .i64 ((cntS (l.take k) x.name.data.toList + 1 : Nat) : Int)) else ownF (l.take k) n) = ownF (l.take (k + 1)) := by
 funext n
 unfold ownF
 have e : ∀ m, cntS (l.take (k + 1)) m = cntS (l.take k) m + if x.name.data.toList == m then 1 else 0 := fun m => by
  rw [List.take_succ_eq_append_getElem h, hx]; simp [cntS, List.countP_append, List.countP_cons]
 rw [e n]
 by_cases hn : n = x.name.data.toList
 ·subst hn; simp
 ·have h2 : (x.name.data.toList == n) = false := by simp; exact fun e => hn e.symm
  simp [hn, h2]
theorem cntS_le (ss : List GSym) (n : List UInt8) : cntS ss n ≤ ss.length := List.countP_le_length
theorem wantsL_snoc {F : List UInt8 → Bool} {ys : List GSym} {l : List GRel} {k : Nat} {x : GRel} (h : k < l.length) (hx : l[k] = x) : wantsL F ys (l.take (k + 1)) = wantsL F ys (l.take k) ++ if wantR F ys x then [x.name.data.toList] else [] := by
 rw [List.take_succ_eq_append_getElem h, hx, wantsL, List.filter_append, List.map_append]
 by_cases hw : wantR F ys x = true <;> simp [wantsL, hw]
theorem wantsS_snoc {F : List UInt8 → Bool} {ys l : List GSym} {k : Nat} {x : GSym} (h : k < l.length) (hx : l[k] = x) : wantsS F ys (l.take (k + 1)) = wantsS F ys (l.take k) ++ wantsL F ys x.rels := by
 rw [List.take_succ_eq_append_getElem h, hx, wantsS, List.flatMap_append]; simp [wantsS]
theorem wantsO_snoc {F : List UInt8 → Bool} {l : List GObj} {k : Nat} {x : GObj} (h : k < l.length) (hx : l[k] = x) : wantsO F (l.take (k + 1)) = wantsO F (l.take k) ++ wantsS F x.syms x.syms := by
 rw [List.take_succ_eq_append_getElem h, hx, wantsO, List.flatMap_append]; simp [wantsO]
theorem wantsL_len (F : List UInt8 → Bool) (ys : List GSym) (rs : List GRel) : (wantsL F ys rs).length ≤ rs.length := by
 unfold wantsL; rw [List.length_map]; exact List.length_filter_le _ _
theorem wantsS_len (F : List UInt8 → Bool) (ys : List GSym) : ∀ ss : List GSym, (wantsS F ys ss).length ≤ (ss.flatMap fun s => s.rels).length
 | [] => by simp [wantsS]
 | s :: r => by
   have ih := wantsS_len F ys r; have h1 := wantsL_len F ys s.rels; simp only [wantsS, List.flatMap_cons, List.length_append] at ih ⊢; omega
theorem wantsO_len (F : List UInt8 → Bool) : ∀ l : List GObj, (wantsO F l).length ≤ relsN l
 | [] => by simp [wantsO]
 | o :: r => by
   have ih := wantsO_len F r; have h1 := wantsS_len F o.syms o.syms; simp only [wantsO, relsN, List.flatMap_cons, List.length_append] at ih h1 ⊢; omega
theorem wants_pre {F : List UInt8 → Bool} {l : List GObj} {i j r : Nat} (hi : i < l.length) (hj : j < l[i].syms.length) (hr : r ≤ l[i].syms[j].rels.length) :
 (wantsO F (l.take i) ++ wantsS F l[i].syms (l[i].syms.take j) ++ wantsL F l[i].syms (l[i].syms[j].rels.take r)).length ≤ relsN l := by
 have a1 := wantsO_len F (l.take i); have a2 := wantsS_len F l[i].syms (l[i].syms.take j); have a3 := wantsL_len F l[i].syms (l[i].syms[j].rels.take r)
 have e : relsN l = relsN (l.take i) + ((l[i].syms.flatMap fun s => s.rels).length + relsN (l.drop (i + 1))) := by
  unfold relsN
  conv => lhs; rw [← List.take_append_drop i l, List.drop_eq_getElem_cons hi]
  rw [List.flatMap_append, List.flatMap_cons, List.length_append, List.length_append]
 have e2 : (l[i].syms.flatMap fun s => s.rels).length = ((l[i].syms.take j).flatMap fun s => s.rels).length + (l[i].syms[j].rels.length + ((l[i].syms.drop (j + 1)).flatMap fun s => s.rels).length) := by
  conv => lhs; rw [← List.take_append_drop j l[i].syms, List.drop_eq_getElem_cons hj]
  rw [List.flatMap_append, List.flatMap_cons, List.length_append, List.length_append]
 rw [List.length_take] at a3; rw [List.length_append, List.length_append]; omega
theorem own_ne_map {P : Program} {kt : TypeId} {w : World} {B : Nat} {e : TypeId} {k n b m : Nat} {v : Value} {xs : List Value} {f : List UInt8 → Option Value} (h : w.ownsRow B e k v n xs) (hm : MapFn P kt w b m f) : v.ownBlock ≠ some b := fun hg => by
 obtain ⟨D, ⟨es, clock, h1, h2⟩, hf⟩ := hm; obtain ⟨cur, h2⟩ := own_type h hg; rw [h1] at h2; cases h2
theorem enc_str (s : ByteArray) : encStr s.data.toList = .string s := by simp
theorem zeroB (w : World) : (zeroValue 4).run Tryz.prog w = .ok (.bool false) w := Tryz.zeroValue4 w
theorem boolF_get (F : List UInt8 → Bool) (n : List UInt8) : (boolF F n).getD (.bool false) = .bool (F n) := by
 unfold boolF; cases F n <;> rfl
theorem bw_look {w : World} {b n : Nat} {f : List UInt8 → Option Value} {t e : TypeId} {z u : Value} {s : ByteArray} (h : MapFn Tryz.prog 9 w b n f) (ht : Tryz.prog.underlying t = some (.map 9 e)) (hz : ∀ w, (zeroValue e).run Tryz.prog w = .ok z w) (hs : s.size ≤ maxLen) (hu : (f s.data.toList).getD z = u) :
 ∀ x : BW w, (Instr.lookup t (.map (some b)) (.string s) false).run Tryz.prog x.u = .ok u x.u := fun x => by
 have := (h.below x.b h.lt).look keyedS ht Tryz.underlying9 (hz _) hs; rw [hu] at this; exact this
def WantPost (w : World) (l : List (List UInt8)) (e : Ending) (w' : World) : Prop := ∃ vo, e = .returned vo ∧ ERow encStr 9 w.heap.size w' vo l ∧ Below w.heap.size w w'
theorem info_str : (Tryz.prog.info? 9).map (fun i => (i.zero, i.size, i.bytes)) = some (some (.string ⟨#[]⟩), 1, 16) := by kernel_rfl
theorem str_one {a : ByteArray} : ∀ u ∈ [Value.string a], u.oneCell' = true := by
 intro u hu; simp at hu; subst hu; rfl
theorem str_news {w : World} {g : Nat} {a : Value} (h0 : w.cell? ⟨g, 0, none⟩ = some a) : ∀ j u, [a][j]? = some u → w.cell? ((⟨g, 0, none⟩ : Addr).add j) = some u := by
 intro j u hu
 match j, hu with
 | 0, hu => simp at hu; subst hu; simpa [Addr.add] using h0
theorem erow_snoc {w : World} {B n : Nat} {v : Value} {ws : List (List UInt8)} {s : ByteArray} (hn : n = ws.length) (h : w.ownsRow B 9 1 v (n + 1) (cellsE encStr ws ++ [.string s])) : ERow encStr 9 B w v (ws ++ [s.data.toList]) := by
 subst hn; have e : cellsE encStr (ws ++ [s.data.toList]) = cellsE encStr ws ++ [.string s] := by simp [cellsE, enc_str]
 unfold ERow; rw [e, List.length_append]; exact h
theorem erow_below {w w' : World} {B : Nat} {v : Value} {ws : List (List UInt8)} (h : ERow encStr 9 B w v ws) (hb : Below w.heap.size w w') : ERow encStr 9 B w' v ws := own_congr h fun g hg => hb.block g (World.ownsRow.lt h g hg).2
set_option maxRecDepth 100000 in
set_option maxHeartbeats 4000000 in
theorem wanting_l (sb mb : Nat) (v : Value) (l : List GObj) (N : Nat) (F : List UInt8 → Bool) (nm : ByteArray) (w : World) (h0 : w.cell? ⟨sb, 0, none⟩ = some v) (h1 : w.cell? ⟨sb, 1, none⟩ = some (.map (some mb))) (hsb : sb < w.heap.size)
 (hm : MapFn Tryz.prog 9 w mb N (boolF F)) (ho : ObjsAt w v l) (hn : nm.size ≤ 140737488355328) (hsm : relsN l ≤ 500000000) (hsy : ∀ o ∈ l, o.syms.length ≤ 10000) :
 Calls Tryz.prog 59 #[.pointer (some ⟨sb, 0, none⟩), .string nm] w (WantPost w (onceT (sortT (wantsRaw F nm.data.toList l)))) := by
 have HM := Lib.hid hm; have HMl := Lib.hid hm.lt; obtain ⟨p, cap, b, o, rfl, hcap, hmax, hp, hc⟩ := ho; have HP := Lib.hid hp; have HC := Lib.hid hc; have HSM := Lib.hid hsm; have HSY := Lib.hid hsy; clear hp hc hm hsm hsy; have hns : nm.size ≤ 9223372036854775807 := by omega
 obtain ⟨iS, s0, s1, s2, s3⟩ := info_parts info_str; have HI := Lib.hid (And.intro s0 (And.intro s1 (And.intro s2 s3))); clear s0 s1 s2 s3; have HV := Lib.hid (boolF_get F nm.data.toList); have HWE : Hid (wantsE F nm.data.toList = if F nm.data.toList then [] else [nm.data.toList]) := rfl
 obtain ⟨fb, hfb⟩ : ∃ b, F nm.data.toList = b := ⟨_, rfl⟩; rw [hfb] at HV HWE; clear hfb; have hEl : (wantsE F nm.data.toList).length ≤ 1 := by rw [HWE.out]; split <;> simp
 have HEL := Lib.hid hEl; clear hEl; have hmm := @run_makeMap Tryz.prog; go_enter Tryz.func59, Tryz.ntmps59; cases fb
 case' true =>
  go_wp2_with (at_lookup; refine wpList_look _ rfl _ _ 129 rfl 9 4 keyedS Tryz.underlying129 Tryz.underlying9 (zeroB _) rfl HM.out _ rfl hns HV.out ?_); have HE0 : Hid (ERow encStr 9 w.heap.size w (.slice none 0 0) (wantsE F nm.data.toList)) := by rw [Hid, HWE.out]; exact World.ownsRow_nil _ _ _ _
  have HB0 : Hid (Below w.heap.size w w) := Below.refl _ _; have k0 := h0
 case' false =>
  go_wp2_with (first | (at_lookup; refine wpList_look _ rfl _ _ 129 rfl 9 4 keyedS Tryz.underlying129 Tryz.underlying9 (zeroB _) rfl HM.out _ rfl hns HV.out ?_) | (at_builtin; refine wpList_append_own _ rfl _ _ 44 rfl w.heap.size 9 iS _ 1 16 Tryz.underlying44 HI.out.1 HI.out.2.1 HI.out.2.2.1 HI.out.2.2.2 rfl (by decide) (.slice none 0 0) 0 [] rfl (World.ownsRow_nil _ _ _ _) _ 1 1 [.string nm] rfl rfl (str_news (by simp [go_sem])) str_one (by unfold maxLen; omega) (by omega) (by simp) ?_))
  intro v' w' hown hgrow _; obtain ⟨pq, cq, rfl⟩ := own_shape hown
  have HE0 : Hid (ERow encStr 9 w.heap.size w' (.slice pq 1 cq) (wantsE F nm.data.toList)) := by
   rw [Hid, HWE.out]; have := erow_snoc (ws := []) (s := nm) (n := 0) rfl hown; simpa using this
  have HB0 : Hid (Below w.heap.size w w') := ((alloc_old w (.cells #[.string nm] 9))).grown hgrow (by simp) (fun k hk => by cases hk)
  have k0 := cell_keep HB0.out hsb h0; clear hown hgrow
 all_goals
  clear HWE HV; go_wp2; clear k0
  go_loopw [4, 30] (fun v4 v30 wr => ∃ i : Nat, i ≤ l.length ∧ v30 = .int .i64 i ∧ ERow encStr 9 w.heap.size wr v4 (wantsE F nm.data.toList ++ wantsO F (l.take i)) ∧ Below w.heap.size w wr) (fun _ v30 _ => l.length - (intOf v30).toNat)
  case atStart => exact ⟨0, Nat.zero_le _, rfl, by simpa [wantsO] using HE0.out, HB0.out⟩
  case round =>
   clear HE0 HB0; obtain ⟨i, hi, rfl, hrow, hbel⟩ := hrel; have HROW := Lib.hid hrow; have HB := Lib.hid hbel; clear hrow hbel
   by_cases hlt : i < l.length
   ·obtain rfl := HP.out (by omega)
    obtain ⟨vs, g0, g1, g2, hin⟩ := HC.out i hlt; replace g1 := cell_keep HB.out g0 g1; replace g2 := cell_keep HB.out g0 g2; replace g0 := size_keep HB.out g0; have hpre : ∀ (j : Nat) (hj : j < l[i].syms.length) (r : Nat), r ≤ l[i].syms[j].rels.length → (wantsO F (l.take i) ++ wantsS F l[i].syms (l[i].syms.take j) ++ wantsL F l[i].syms (l[i].syms[j].rels.take r)).length ≤ relsN l := fun j hj r hr => wants_pre hlt hj hr
    have hso := wantsO_snoc (F := F) hlt rfl; have hyl := HSY.out _ (List.getElem_mem hlt); generalize hx : l[i] = x at g1 g2 hin hso hpre hyl; obtain ⟨yn, ys⟩ := x; simp only [] at g1 g2 hin hso hpre hyl; have HPRE := Lib.hid hpre; have HSO := Lib.hid hso; obtain ⟨⟨pS, capS, bS, oS, rfl, hcapS, hmaxS, hpS, hcS⟩, hnmx⟩ := hin; have HCS := Lib.hid hcS; have HPS := Lib.hid hpS; clear hx hpre hso hcS hpS hnmx; go_wp2; obtain ⟨wo, rfl⟩ : ∃ wo : World, wo = wr := ⟨_, rfl⟩
    go_loopw [38] (fun v38 wr => ∃ k : Nat, k ≤ ys.length ∧ v38 = .int .i64 k ∧ MapFn Tryz.prog 9 wr (wo.heap.size + 1) k (ownF (ys.take k)) ∧ Below (wo.heap.size + 1) (wo.alloc (.cells #[.string yn, .slice pS ys.length capS] 50)) wr) (fun v38 _ => ys.length - (intOf v38).toNat)
    case atStart =>
     refine ⟨0, Nat.zero_le _, rfl, ?_, (Below.refl _ _).alloc (by simp) _⟩
     have := MapFn.made Tryz.prog 9 (wo.alloc (.cells #[.string yn, .slice pS ys.length capS] 50)); rw [ownF_nil] at this; simpa using this
    case round =>
     obtain ⟨k, hk, rfl, hmap, hbk⟩ := hrel; have HMK := Lib.hid hmap; have HBK := Lib.hid hbk; have HBKW : Hid (Below w.heap.size w wr) := HB.out.trans (((alloc_old wo (.cells #[.string yn, .slice pS ys.length capS] 50)).trans (hbk.mono (Nat.le_succ _))).mono HB.out.size); have hz1 : wo.heap.size + 1 < wr.heap.size := hmap.lt; clear hmap
     by_cases hks : k < ys.length
     ·clear hbk; obtain rfl := HPS.out (by omega)
      obtain ⟨vr, vn, g0, g1, g2, g3, g4, g5, g6, g7, hsin⟩ := symR_keeps _ _ _ _ _ HBKW.out (HCS.out k hks); obtain ⟨p1, q1, p2, q2, rfl, rfl⟩ := hsin.shape; have hns1 : ys[k].name.size ≤ 9223372036854775807 := by have := hsin.2.2.2.2.2.1; omega
      have hos := ownF_snoc hks rfl; have hcl := cntS_le (ys.take k) ys[k].name.data.toList; rw [List.length_take] at hcl; have hog := ownF_get (ys.take k) ys[k].name.data.toList; generalize hy : ys[k] = y at g1 g2 g3 g4 g5 g6 g7 hsin hns1 hos hcl hog; obtain ⟨xn, xb, xk, xz, xy, xr, xt⟩ := y; simp only [] at g1 g2 g3 g4 g5 g6 g7 hsin hns1 hos hcl hog; generalize hcn : cntS (ys.take k) xn.data.toList = c at hos hcl hog; have HOS := Lib.hid hos; have HOG := Lib.hid hog; clear hy hsin hcn hos hog; have hwr : IntKind.i64.wrap ((c : Int) + 1) = ((c + 1 : Nat) : Int) := (IntWalk.i64_in _ (by omega)).trans (by omega)
      replace HMK := Lib.hid (HMK.out.alloc (.cells #[.string xn, .int .u8 xb, .int .u8 xk, .int .u32 xz, .string xy, .slice p1 xr.length q1, .slice p2 xt.length q2] 55)); have HBK2 := Lib.hid (HBK.out.alloc (by omega) (.cells #[.string xn, .int .u8 xb, .int .u8 xk, .int .u32 xz, .string xy, .slice p1 xr.length q1, .slice p2 xt.length q2] 55))
      have e0 : (wr.alloc (.cells #[.string xn, .int .u8 xb, .int .u8 xk, .int .u32 xz, .string xy, .slice p1 xr.length q1, .slice p2 xt.length q2] 55)).cell? ⟨wr.heap.size, 0, none⟩ = some (.string xn) := by simp [go_sem]
      go_wp2_with (first | (at_lookup; refine wpList_look _ rfl _ _ 78 rfl 9 3 keyedS Tryz.underlying78 Tryz.underlying9 (zeroInt _) rfl HMK.out _ rfl hns1 HOG.out ?_) | (at_mapUpdate; refine wpList_put _ rfl _ _ _ 78 rfl 9 3 keyedS Tryz.underlying78 Tryz.underlying9 rfl HMK.out (by unfold maxLen; omega) xn (.int .i64 ((c + 1 : Nat) : Int)) rfl rfl hns1 ?_; intro w2 hM2 hg2; have HM2 := Lib.hid hM2; have HG2 := Lib.hid hg2; clear hM2 hg2))
      have HM3 : Hid (MapFn Tryz.prog 9 w2 (wo.heap.size + 1) (k + 1) (ownF (ys.take (k + 1)))) := HOS.out ▸ HM2.out; go_roundw
      case rel => exact ⟨k + 1, by omega, by go_num, HM3.out, HBK2.out.grown HG2.out (by simp; omega) (fun j e => by simp at e; omega)⟩
      case measure => simp [intOf]; omega
     ·obtain rfl : k = ys.length := by omega
      rw [List.take_length] at HMK; have d1 : wr.cell? ⟨wo.heap.size, 1, none⟩ = some (.slice pS ys.length capS) := by rw [hbk.cell (by simp)]; simp [go_sem]
      have HOR := Lib.hid (erow_below HROW.out ((alloc_old wo (.cells #[.string yn, .slice pS ys.length capS] 50)).trans (hbk.mono (Nat.le_succ _)))); clear hbk hks HBK; go_wp2; clear d1; obtain ⟨wl, rfl⟩ : ∃ wl : World, wl = wr := ⟨_, rfl⟩
      go_loopw [4, 51] (fun v4 v51 wr => ∃ j : Nat, j ≤ ys.length ∧ v51 = .int .i64 j ∧ ERow encStr 9 w.heap.size wr v4 (wantsE F nm.data.toList ++ (wantsO F (l.take i) ++ wantsS F ys (ys.take j))) ∧ MapFn Tryz.prog 9 wr (wo.heap.size + 1) ys.length (ownF ys) ∧ Below w.heap.size w wr) (fun _ v51 _ => ys.length - (intOf v51).toNat)
      case atStart => exact ⟨0, Nat.zero_le _, rfl, by simpa [wantsS] using HOR.out, HMK.out, HBKW.out⟩
      case round =>
       clear HOR HMK HBKW; obtain ⟨j, hj, rfl, hrow, hmap, hbel⟩ := hrel; have HROW2 := Lib.hid hrow; have HMP := Lib.hid hmap; have HBJ := Lib.hid hbel; clear hrow hmap hbel
       by_cases hlj : j < ys.length
       ·obtain rfl := HPS.out (by omega)
        obtain ⟨vr, vn, g0, g1, g2, g3, g4, g5, g6, g7, hsin⟩ := HCS.out j hlj; replace g1 := cell_keep HBJ.out g0 g1; replace g2 := cell_keep HBJ.out g0 g2; replace g3 := cell_keep HBJ.out g0 g3; replace g4 := cell_keep HBJ.out g0 g4; replace g5 := cell_keep HBJ.out g0 g5; replace g6 := cell_keep HBJ.out g0 g6; replace g7 := cell_keep HBJ.out g0 g7; replace g0 := size_keep HBJ.out g0; obtain ⟨p1, q1, p2, q2, rfl, rfl⟩ := hsin.shape; have hpr := HPRE.out j hlj; have hss := wantsS_snoc (F := F) (ys := ys) hlj rfl; generalize hy : ys[j] = y at g1 g2 g3 g4 g5 g6 g7 hsin hpr hss; obtain ⟨xn, xb, xk, xz, xy, xr, xt⟩ := y; simp only [] at g1 g2 g3 g4 g5 g6 g7 hsin hpr hss; have HPR := Lib.hid hpr; have HSS := Lib.hid hss; obtain ⟨⟨_, _, bR, oR, heR, hcapR, hmaxR, hpR, hcR⟩, -⟩ := hsin; cases heR; have HPQ := Lib.hid hpR; have HCR := Lib.hid hcR; clear hy hpr hss hpR hcR; have HMP2 := Lib.hid (HMP.out.alloc (.cells #[.string xn, .int .u8 xb, .int .u8 xk, .int .u32 xz, .string xy, .slice p1 xr.length q1, .slice p2 xt.length q2] 55)); have HBJ2 : Hid (Below w.heap.size w (wr.alloc (.cells #[.string xn, .int .u8 xb, .int .u8 xk, .int .u32 xz, .string xy, .slice p1 xr.length q1, .slice p2 xt.length q2] 55))) := HBJ.out.alloc HBJ.out.size _
        have HRO2 : Hid (ERow encStr 9 w.heap.size (wr.alloc (.cells #[.string xn, .int .u8 xb, .int .u8 xk, .int .u32 xz, .string xy, .slice p1 xr.length q1, .slice p2 xt.length q2] 55)) _ (wantsE F nm.data.toList ++ (wantsO F (l.take i) ++ wantsS F ys (ys.take j)))) := erow_below HROW2.out (alloc_old wr _); go_wp2; obtain ⟨wk, rfl⟩ : ∃ wk : World, wk = wr := ⟨_, rfl⟩
        go_loopw [4, 58] (fun v4 v58 wr => ∃ r : Nat, r ≤ xr.length ∧ v58 = .int .i64 r ∧ ERow encStr 9 w.heap.size wr v4 (wantsE F nm.data.toList ++ (wantsO F (l.take i) ++ wantsS F ys (ys.take j) ++ wantsL F ys (xr.take r))) ∧ MapFn Tryz.prog 9 wr (wo.heap.size + 1) ys.length (ownF ys) ∧ Below w.heap.size w wr) (fun _ v58 _ => xr.length - (intOf v58).toNat)
        case atStart => exact ⟨0, Nat.zero_le _, rfl, by simpa [wantsL] using HRO2.out, HMP2.out, HBJ2.out⟩
        case round =>
         clear HRO2 HMP2 HBJ2; obtain ⟨r, hr, rfl, hrow, hmap, hbel⟩ := hrel; have HROW3 := Lib.hid hrow; have HMR := Lib.hid hmap; have HBR := Lib.hid hbel
         have HWS0 : Hid ((wantsE F nm.data.toList ++ (wantsO F (l.take i) ++ wantsS F ys (ys.take j) ++ wantsL F ys (xr.take r))).length ≤ 500000001) := by
          have h1 := HPR.out r hr; have h2 := HSM.out; have h3 := HEL.out; rw [Hid, List.length_append]; omega
         have hmrl := hmap.lt; clear hmap hbel
         by_cases hlr : r < xr.length
         ·have hsl := wantsL_snoc (F := F) (ys := ys) hlr rfl; obtain ⟨ws, hws⟩ : ∃ ws, wantsE F nm.data.toList ++ (wantsO F (l.take i) ++ wantsS F ys (ys.take j) ++ wantsL F ys (xr.take r)) = ws := ⟨_, rfl⟩; rw [hws] at hrow HROW3 HWS0; have hwl := HWS0.out; obtain ⟨pz, cz, rfl⟩ := own_shape hrow; obtain rfl := HPQ.out (by omega)
          obtain ⟨r0, r1, r2, r3, r4, rb1, rb2, rb3, rb4⟩ := HCR.out r hlr; replace r1 := cell_keep HBR.out r0 r1; replace r2 := cell_keep HBR.out r0 r2; replace r3 := cell_keep HBR.out r0 r3; replace r4 := cell_keep HBR.out r0 r4; replace r0 := size_keep HBR.out r0; generalize hx : xr[r] = x at r1 r2 r3 r4 rb1 rb2 rb3 rb4 hsl; obtain ⟨ro, rk, rn, ra⟩ := x; simp only [] at r1 r2 r3 r4 rb1 rb2 rb3 rb4 hsl
          have HNX : Hid (wantsE F nm.data.toList ++ (wantsO F (l.take i) ++ wantsS F ys (ys.take j) ++ wantsL F ys (xr.take (r + 1))) = ws ++ if wantR F ys ⟨ro, rk, rn, ra⟩ then [rn.data.toList] else []) := by
           rw [Hid, hsl, ← hws]; simp only [List.append_assoc]
          have HBR2 : Hid (Below w.heap.size w (wr.alloc (.cells #[.int .u32 ro, .int .u8 rk, .string rn, .int .u32 ra] 133))) := HBR.out.alloc HBR.out.size _; have HMN := Lib.hid (HM.out.below HBR2.out HMl.out); have HMO := Lib.hid (HMR.out.alloc (.cells #[.int .u32 ro, .int .u8 rk, .string rn, .int .u32 ra] 133)); have HRW := Lib.hid (erow_below HROW3.out (alloc_old wr (.cells #[.int .u32 ro, .int .u8 rk, .string rn, .int .u32 ra] 133))); have hnsr : rn.size ≤ 9223372036854775807 := by omega
          have k1 := cell_keep HBR2.out hsb h1; have hsb2 := size_keep HBR2.out hsb; have e2 : (wr.alloc (.cells #[.int .u32 ro, .int .u8 rk, .string rn, .int .u32 ra] 133)).cell? ⟨wr.heap.size, 2, none⟩ = some (.string rn) := by simp [go_sem]
          have hz2 : wr.heap.size < (wr.alloc (.cells #[.int .u32 ro, .int .u8 rk, .string rn, .int .u32 ra] 133)).heap.size := by simp
          have hV1 := boolF_get F rn.data.toList; have hV2 := ownF_get ys rn.data.toList; have hwr : wantR F ys ⟨ro, rk, rn, ra⟩ = (!F rn.data.toList && cntS ys rn.data.toList == 0) := rfl; generalize F rn.data.toList = fb2 at hV1 hwr; generalize cntS ys rn.data.toList = c at hV2 hwr; rw [hwr] at HNX; clear hx hsl hws hwr hrow; have l1 := bw_look HMN.out Tryz.underlying129 zeroB hnsr hV1; have l2 := bw_look HMO.out Tryz.underlying78 zeroInt hnsr hV2; have c1 := bw_cell hsb2 k1; have c2 := bw_cell hz2 e2; clear hV1 hV2 k1; go_wp2; generalize (wr.alloc (.cells #[.int .u32 ro, .int .u8 rk, .string rn, .int .u32 ra] 133)) = wB at *; cases hfb2 : fb2 with
          | true =>
            rw [hfb2] at HNX l1; clear hfb2; simp only [Bool.not_true, Bool.false_and, Bool.false_eq_true, if_false, List.append_nil] at HNX; refine wp_region_below rfl (by kernel_rfl) ?_
            repeat (first | go_big_quiet_skip | quiet_step (fail))
            refine wpQuiet_nil ?_; rintro w4 hx4; have hB4 : Below wB.heap.size wB w4 := bw_of hx4; clear hx4 c1 c2 l1 l2; have HR4 := Lib.hid (erow_below HRW.out hB4); have HM4 := Lib.hid (HMO.out.below hB4 HMO.out.lt); have HB4 := Lib.hid (HBR2.out.trans (hB4.mono HBR2.out.size)); clear hB4; go_wp2; go_roundw
            case rel => exact ⟨r + 1, by omega, by go_num, by rw [HNX.out]; exact HR4.out, HM4.out, HB4.out⟩
            case measure => simp [intOf]; omega
          | false =>
            rw [hfb2] at HNX l1; clear hfb2
            by_cases hc0 : c = 0
            ·subst hc0; simp only [Bool.not_false, Bool.true_and, beq_self_eq_true, if_true] at HNX; refine wp_region_below rfl (by kernel_rfl) ?_
             repeat (first | go_big_quiet_skip | quiet_step (fail))
             refine wpQuiet_nil ?_; rintro w4 hx4; have hB4 : Below wB.heap.size wB w4 := bw_of hx4; clear hx4 c1 c2 l1 l2; have HR4 := Lib.hid (erow_below HRW.out hB4); have HM4 := Lib.hid (HMO.out.below hB4 HMO.out.lt); have HB4 := Lib.hid (HBR2.out.trans (hB4.mono HBR2.out.size)); replace e2 := cell_keep hB4 hz2 e2; have hw4 : w.heap.size ≤ w4.heap.size := HB4.out.size; clear hB4; have HR5 : Hid (w4.ownsRow w.heap.size 9 1 (.slice pz ws.length cz) ws.length (cellsE encStr ws)) := HR4.out; go_wp2_with (at_builtin; refine wpList_append_own _ rfl _ _ 44 rfl w.heap.size 9 iS _ 1 16 Tryz.underlying44 HI.out.1 HI.out.2.1 HI.out.2.2.1 HI.out.2.2.2 rfl (by decide) (.slice pz ws.length cz) ws.length (cellsE encStr ws) rfl (HR5.out.alloc _) _ 1 1 [.string rn] rfl rfl (str_news (by simp [go_sem])) str_one (by unfold maxLen; omega) (by omega) (by simp; omega) ?_)
             intro v5 w5 hown hgrow _; have HR6 := Lib.hid (erow_snoc rfl hown); have HM6 := Lib.hid ((HM4.out.alloc (.cells #[.string rn] 9)).kept (hgrow.block _ (by have := HM4.out.lt; simp; omega) (fun e => own_ne_map (HR5.out) HM4.out e.symm)))
             have HB6 := Lib.hid ((HB4.out.alloc hw4 (.cells #[.string rn] 9)).grown hgrow (by simp; omega) (fun k hk => (World.ownsRow.lt HR5.out k hk).1))
             obtain ⟨p5, c5, rfl⟩ := own_shape hown; clear hown hgrow; go_wp2; go_roundw
             case rel => exact ⟨r + 1, by omega, by go_num, by rw [HNX.out]; exact HR6.out, HM6.out, HB6.out⟩
             case measure => simp [intOf]; omega
            ·have hcb : ((c : Int) == 0) = false := by simpa using hc0
             have hcn : (c == 0) = false := by simpa using hc0
             have hcd : decide ((c : Int) = 0) = false := by simpa using hc0
             rw [hcn] at HNX; simp only [Bool.and_false, Bool.false_eq_true, if_false, List.append_nil] at HNX; clear hc0 hcn; refine wp_region_below rfl (by kernel_rfl) ?_
             repeat (first | go_big_quiet_skip | quiet_step (fail))
             refine wpQuiet_nil ?_; rintro w4 hx4; have hB4 : Below wB.heap.size wB w4 := bw_of hx4; clear hx4 c1 c2 l1 l2; have HR4 := Lib.hid (erow_below HRW.out hB4); have HM4 := Lib.hid (HMO.out.below hB4 HMO.out.lt); have HB4 := Lib.hid (HBR2.out.trans (hB4.mono HBR2.out.size)); clear hB4; go_wp2; go_roundw
             case rel => exact ⟨r + 1, by omega, by go_num, by rw [HNX.out]; exact HR4.out, HM4.out, HB4.out⟩
             case measure => simp [intOf]; omega
         ·obtain rfl : r = xr.length := by omega
          rw [List.take_length, List.append_assoc, ← HSS.out] at HROW3; go_wp2; go_roundw
          case rel => exact ⟨j + 1, by omega, by go_num, HROW3.out, HMR.out, HBR.out⟩
          case measure => simp [intOf]; omega
       ·obtain rfl : j = ys.length := by omega
        rw [List.take_length, ← HSO.out] at HROW2; go_wp2; go_roundw
        case rel => exact ⟨i + 1, by omega, by go_num, HROW2.out, HBJ.out⟩
        case measure => simp [intOf]; omega
   ·obtain rfl : i = l.length := by omega
    rw [List.take_length] at HROW
    have hle : (wantsE F nm.data.toList ++ wantsO F l).length ≤ 1000000000 := by
     have h1 := wantsO_len F l; have h2 := HSM.out; have h3 := HEL.out; rw [List.length_append]; omega
    have HS1 := Lib.hid (sortStr_row _ _ _ wr HROW.out hle); have HROW5 := Lib.hid HROW.out; clear HROW; go_wp2_with fail; refine HS1.out.mono ?_; rintro e w5 ⟨rfl, hs5, hk5⟩; have hle2 : (sortT (wantsE F nm.data.toList ++ wantsO F l)).length ≤ 1000000000 := by rw [sortT_length]; exact hle
    have HS2 := Lib.hid (compactStr_row _ _ _ w5 hs5 hle2); have HB5 : Hid (Below w.heap.size w w5) := HB.out.trans (hk5.below HB.out.size (fun g hg e => by have := (World.ownsRow.lt HROW5.out g e).1; omega))
    have HROW6 := Lib.hid hs5; clear hs5 hk5; go_wp2_with fail; refine HS2.out.mono ?_; rintro e w6 ⟨v6, rfl, hr6, -, hk6⟩; have HB6 : Hid (Below w.heap.size w w6) := HB5.out.trans (hk6.below HB5.out.size (fun g hg e => by have := (World.ownsRow.lt HROW6.out g e).1; omega))
    have HR6 := Lib.hid hr6; clear hr6 hk6; go_wp2_with fail; go_ret; exact ⟨_, rfl, HR6.out, HB6.out⟩
end Go.Proofs.YtboegjdkedjhcaaGreatDoor
