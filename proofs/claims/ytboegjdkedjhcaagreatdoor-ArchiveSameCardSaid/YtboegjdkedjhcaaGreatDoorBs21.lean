/- The walk of link's sym. The walk of link's fill. Fields of a symbol as a value. The walk of aediculeref08.Width. -/
import Derived.Test.YtboegjdkedjhcaaGreatDoorBs10
import Derived.Test.YtboegjdkedjhcaaGreatDoorBs01
import Derived.Test.YtboegjdkedjhcaaGreatDoorBs12
import Derived.Test.YtboegjdkedjhcaaGreatDoorBs18
import Derived.Test.YtboegjdkedjhcaaGreatDoorBs15
import Derived.Test.YtboegjdkedjhcaaGreatDoorBs11
import Derived.Test.YtboegjdkedjhcaaGreatDoorBs04
import Derived.Deep.RegionHeld3
import Derived.Deep.DeepCutAuto
import Derived.Test.YtboegjdkedjhcaaGreatDoorRows
import Derived.WalkLawsBesides
namespace Go.Proofs.YtboegjdkedjhcaaGreatDoor
set_option maxRecDepth 100000
section
open Go.RowKit Go.Maps Go.WideMaps
def SymLPost (w : World) (s : GSym) (e : Ending) (w' : World) : Prop := (∃ vr vn, e = .returned (symV s vr vn) ∧ SymIn w' s vr vn) ∧ Below w.heap.size w w'
set_option maxHeartbeats 1000000 in
theorem linkSym_at (xb : Nat) (v : Value) (l : List GObj) (a b : Nat) (w : World) (h : ObjsAt w v l) (hx : xb < w.heap.size) (hx7 : w.cell? ⟨xb, 7, none⟩ = some v) (ha : a < l.length) (hb : b < l[a].syms.length) :
 Calls Tryz.prog 117 #[.pointer (some ⟨xb, 0, none⟩), .agg #[.int .i64 a, .int .i64 b]] w (SymLPost w l[a].syms[b]) := by
 obtain ⟨p, cap, bb, o, rfl, hcap, hmax, hp, hc⟩ := h; obtain rfl := hp (by omega)
 obtain ⟨vs, g0, g1, g2, ⟨pS, capS, bS, oS, rfl, hcapS, hmaxS, hpS, hcS⟩, -⟩ := hc a ha; obtain rfl := hpS (by omega)
 obtain ⟨vr, vn, s0, s1, s2, s3, s4, s5, s6, s7, hin⟩ := hcS b hb; obtain ⟨p1, q1, p2, q2, rfl, rfl⟩ := hin.shape; have hnb : b < l[a].syms.length := hb; generalize hy : l[a].syms[b] = y at s1 s2 s3 s4 s5 s6 s7 hin ⊢; clear hc hp hcS hpS g1 hy; generalize l[a].syms.length = nS at g2 hnb hcapS hmaxS hb; obtain ⟨yn, yb, yk, ys, yy, yr, yt⟩ := y; simp only [] at s1 s2 s3 s4 s5 s6 s7 hin ⊢; have HIN := Lib.hid hin; clear hin; go_enter Tryz.func117, Tryz.ntmps117; go_wp2; generalize hw1 : ((w.alloc (.cells #[.int .i64 a, .int .i64 b] 185)).alloc (.cells #[.string ⟨#[]⟩, .int .u8 0, .int .u8 0, .int .u32 0, .string ⟨#[]⟩, .slice none 0 0, .slice none 0 0] 55)) = w1; have HB1 : Hid (Below w.heap.size w w1) := by subst hw1; exact (alloc_old w _).alloc (by simp) _
 have z1 : w.heap.size + 1 < w1.heap.size := by subst hw1; simp
 have r0 : w1.cell? ⟨w.heap.size, 0, none⟩ = some (.int .i64 a) := by subst hw1; simp [go_sem]
 have r1 : w1.cell? ⟨w.heap.size, 1, none⟩ = some (.int .i64 b) := by subst hw1; simp [go_sem]
 have t0 : w1.cell? ⟨w.heap.size + 1, 0, none⟩ = some (.string ⟨#[]⟩) := by subst hw1; simp [go_sem]
 have t1 : w1.cell? ⟨w.heap.size + 1, 1, none⟩ = some (.int .u8 0) := by subst hw1; simp [go_sem]
 have t2 : w1.cell? ⟨w.heap.size + 1, 2, none⟩ = some (.int .u8 0) := by subst hw1; simp [go_sem]
 have t3 : w1.cell? ⟨w.heap.size + 1, 3, none⟩ = some (.int .u32 0) := by subst hw1; simp [go_sem]
 have t4 : w1.cell? ⟨w.heap.size + 1, 4, none⟩ = some (.string ⟨#[]⟩) := by subst hw1; simp [go_sem]
 have t5 : w1.cell? ⟨w.heap.size + 1, 5, none⟩ = some (.slice none 0 0) := by subst hw1; simp [go_sem]
 have t6 : w1.cell? ⟨w.heap.size + 1, 6, none⟩ = some (.slice none 0 0) := by subst hw1; simp [go_sem]
 have u : ∀ j, w1.frozen? ⟨w.heap.size + 1, j, none⟩ = false := by intro j; subst hw1; simp [go_sem]
 have u0 := u 0; have u1 := u 1; have u2 := u 2; have u3 := u 3; have u4 := u 4; have u5 := u 5; have u6 := u 6; clear u hw1; replace hx7 := cell_keep HB1.out hx hx7; replace g2 := cell_keep HB1.out g0 g2; replace s1 := cell_keep HB1.out s0 s1; replace s2 := cell_keep HB1.out s0 s2; replace s3 := cell_keep HB1.out s0 s3; replace s4 := cell_keep HB1.out s0 s4; replace s5 := cell_keep HB1.out s0 s5; replace s6 := cell_keep HB1.out s0 s6; replace s7 := cell_keep HB1.out s0 s7
 go_still_tail 13, (by kernel_rfl)
 change wpList _ _ _ _ _ w1.drew; go_wp2; refine bodyPost_ret (v := symV ⟨yn, yb, yk, ys, yy, yr, yt⟩ (.slice p1 yr.length q1) (.slice p2 yt.length q2)) (by simp [results, Tryz.results117, go_sem, symV, *]) rfl ?_
 have hfin : Below w.heap.size w (((((((w1.setCell ⟨w.heap.size + 1, 0, none⟩ (.string yn)).setCell ⟨w.heap.size + 1, 1, none⟩ (.int .u8 yb)).setCell ⟨w.heap.size + 1, 2, none⟩ (.int .u8 yk)).setCell ⟨w.heap.size + 1, 3, none⟩ (.int .u32 ys)).setCell ⟨w.heap.size + 1, 4, none⟩ (.string yy)).setCell ⟨w.heap.size + 1, 5, none⟩ (.slice p1 yr.length q1)).setCell ⟨w.heap.size + 1, 6, none⟩ (.slice p2 yt.length q2)) :=
  ((((((HB1.out.setCell (by simp) _).setCell (by simp) _).setCell (by simp) _).setCell (by simp) _).setCell (by simp) _).setCell (by simp) _).setCell (by simp) _
 exact ⟨⟨_, _, rfl, SymIn.keep hfin.drew HIN.out⟩, hfin.drew⟩
theorem linkSym_any (xb : Nat) (v : Value) (l : List GObj) (p : GP) (s : GSym) (w : World) (h : ObjsAt w v l) (hx : xb < w.heap.size) (hx7 : w.cell? ⟨xb, 7, none⟩ = some v) (hs : symAt l p = some s) :
 Calls Tryz.prog 117 #[.pointer (some ⟨xb, 0, none⟩), .agg #[.int .i64 p.1, .int .i64 p.2]] w (SymLPost w s) := by
 obtain ⟨a, b, ha, hb, rfl, rfl⟩ := symAt_some hs; exact linkSym_at xb v l a b w h hx hx7 ha hb
end
section
open Go.RowKit Go.Maps Go.WideMaps
def addrsOf (wh : List GAddr) (qs : List (Nat × Nat)) : List Int := qs.map fun q => (layFind wh (toG q)).1
theorem addrsOf_snoc {wh : List GAddr} {qs : List (Nat × Nat)} {k : Nat} {q : Nat × Nat} (h : k < qs.length) (hq : qs[k] = q) : addrsOf wh (qs.take (k + 1)) = addrsOf wh (qs.take k) ++ [(layFind wh (toG q)).1] := by
 rw [List.take_succ_eq_append_getElem h, hq]; simp [addrsOf]
theorem addrsOf_len (wh : List GAddr) (qs : List (Nat × Nat)) : (addrsOf wh qs).length = qs.length := by simp [addrsOf]
def filledR (l : List GObj) (wh : List GAddr) (p : GP) (s : GSym) : ByteArray × Int := fillR s (addrsOf wh (refsV (beginR l) l p.1 p.2).1)
theorem layFind_num {w : World} {v : Value} {wh : List GAddr} (h : RowAt 3 AddrR w v wh) (q : GP) : 0 ≤ (layFind wh q).1 ∧ (layFind wh q).1 ≤ 4294967295 := by
 unfold layFind; cases hf : wh.find? (fun a => decide (a.obj = q.1) && decide (a.sym = q.2)) with
 | none => simp
 | some a =>
   obtain ⟨i, hi, rfl⟩ := List.getElem_of_mem (List.mem_of_find?_eq_some hf); obtain ⟨p, cap, b, o, -, -, -, -, hc⟩ := h; exact (hc i hi).2.2.2.2
theorem info_u32 : (Tryz.prog.info? 51).map (fun i => (i.zero, i.size, i.bytes)) = some (some (.int .u32 0), 1, 4) := by kernel_rfl
theorem one_u32 {n : Int} : ∀ u ∈ [Value.int .u32 n], u.oneCell' = true := by
 intro u hu; simp at hu; subst hu; rfl
theorem one_new {w : World} {g : Nat} {a : Value} (h0 : w.cell? ⟨g, 0, none⟩ = some a) : ∀ j u, [a][j]? = some u → w.cell? ((⟨g, 0, none⟩ : Addr).add j) = some u := by
 intro j u hu
 match j, hu with
 | 0, hu => simp at hu; subst hu; simpa [Addr.add] using h0
theorem cellsU_flat {K : IntKind} : ∀ l : List Int, cellsU K l = l.flatMap fun x => [.int K x]
 | [] => rfl
 | x :: r => by rw [List.flatMap_cons, ← cellsU_flat r]; rfl
theorem urow_num {base : Nat} {w : World} {v : Value} {l : List Int} (h : URow .u32 51 base w v l) (hl : l.length ≤ 140737488355328) (hn : ∀ x ∈ l, 0 ≤ x ∧ x ≤ 4294967295) : RowAt 1 NumR w v l := by
 have h' : w.ownsRow base 51 1 v l.length (l.flatMap fun x => [.int .u32 x]) := by rw [← cellsU_flat]; exact h
 exact owned_row (k := 1) (f := fun x => [Value.int .u32 x]) (fun _ => rfl) h' hl fun g o' i hi hg hcell => ⟨hg, by simpa using hcell 0 (.int .u32 l[i]) (by omega) rfl, hn _ (List.getElem_mem hi)⟩
set_option maxHeartbeats 4000000 in
theorem linkFill_any (xb : Nat) (v av : Value) (l : List GObj) (wh : List GAddr) (p : GP) (s : GSym) (w : World) (h : ObjsAt w v l) (ha : RowAt 3 AddrR w av wh) (hx : xb < w.heap.size) (hx6 : w.cell? ⟨xb, 6, none⟩ = some av) (hx7 : w.cell? ⟨xb, 7, none⟩ = some v)
 (hs : symAt l p = some s) (hb : s.bytes.size < 4294967296) (hrl : (refsV (beginR l) l p.1 p.2).1.length ≤ 100000) :
 Calls Tryz.prog 157 #[.pointer (some ⟨xb, 0, none⟩), .agg #[.int .i64 p.1, .int .i64 p.2]] w fun e w' =>
  e = .returned (.tuple #[.string (filledR l wh p s).1, .int .i64 (filledR l wh p s).2]) ∧ Below w.heap.size w w' := by
 have HSY : Hid (∀ W, Below w.heap.size w W → Calls Tryz.prog 117 #[.pointer (some ⟨xb, 0, none⟩), .agg #[.int .i64 p.1, .int .i64 p.2]] W (SymLPost W s)) := fun W hB =>
  linkSym_any xb v l p s W (h.keep hB) (size_keep hB hx) (cell_keep hB hx hx7) hs
 have HRF : Hid (∀ W, Below w.heap.size w W → Calls Tryz.prog 147 #[v, .agg #[.int .i64 p.1, .int .i64 p.2]] W (RefsPost W (refsV (beginR l) l p.1 p.2).1 (refsV (beginR l) l p.1 p.2).2.1 (refsV (beginR l) l p.1 p.2).2.2)) := fun W hB =>
  refs_any v l p.1 p.2 W (h.keep hB)
 have HFI : Hid (filledR l wh p s = fillR s (addrsOf wh (refsV (beginR l) l p.1 p.2).1)) := rfl; have HH := Lib.hid h; have HAD := Lib.hid ha; have HS := Lib.hid hs; clear hs; generalize refsV (beginR l) l p.1 p.2 = rv at HRF HFI hrl; obtain ⟨rl, rn, rc⟩ := rv; simp only [] at HRF HFI hrl; obtain ⟨p1, p2⟩ := p; simp only [] at HSY HRF; obtain ⟨pv, cv, hv⟩ : ∃ (pv : Option Addr) (cv : Nat), v = .slice pv l.length cv := by obtain ⟨p, cap, b, o, rfl, _⟩ := h; exact ⟨p, cap, rfl⟩
 obtain ⟨pa, ca, hav⟩ : ∃ (pa : Option Addr) (ca : Nat), av = .slice pa wh.length ca := by obtain ⟨p, cap, b, o, rfl, _⟩ := ha; exact ⟨p, cap, rfl⟩
 subst hv hav; clear h ha; have n0 : (w.alloc (.cells #[.int .i64 p1, .int .i64 p2] 185)).cell? ⟨w.heap.size, 0, none⟩ = some (.int .i64 p1) := by simp [go_sem]
 have n1 : (w.alloc (.cells #[.int .i64 p1, .int .i64 p2] 185)).cell? ⟨w.heap.size, 1, none⟩ = some (.int .i64 p2) := by simp [go_sem]
 generalize hW : (w.alloc (.cells #[.int .i64 p1, .int .i64 p2] 185)) = w1 at n0 n1; have z1 : w1.heap.size = w.heap.size + 1 := by subst hW; simp
 have HB1 : Hid (Below w.heap.size w w1) := by subst hW; exact alloc_old w _
 have k6 := cell_keep HB1.out hx hx6; have k7 := cell_keep HB1.out hx hx7; have hx1 : xb < w1.heap.size := by omega
 have hne : ¬ w.heap.size = xb := by omega
 clear hx6 hx7; go_enter Tryz.func157, Tryz.ntmps157; go_wp2; try rw [hW]
 clear hW
 go_cut [6] (fun v6 wx => RowAt 2 PlaceR wx v6 rl ∧ Below w1.heap.size w1 wx)
 case first =>
  clear HSY HFI HH HAD HS
  go_region_with ((go_at_call 147; refine (HRF.out _ (by first | exact HB1.out.drew | go_grown)).mono ?_; rintro e w' ⟨vo, rfl, hrow, hB⟩))
  all_goals (go_wp2_with fail)
  all_goals go_meet
  all_goals exact ⟨hrow, (Below.refl _ _).drew.trans hB⟩
 case rest =>
  obtain ⟨hrow, hBc⟩ := hcut; have HRO := Lib.hid hrow; have HBC : Hid (Below w.heap.size w wc) := HB1.out.trans (hBc.mono (by omega))
  replace n0 := cell_keep hBc (by omega) n0
  replace n1 := cell_keep hBc (by omega) n1
  replace k6 := cell_keep hBc hx1 k6; replace k7 := cell_keep hBc hx1 k7; have hzc : w.heap.size < wc.heap.size := by have := hBc.size; omega
  have hxc : xb < wc.heap.size := by omega
  obtain ⟨pr, cr, br, orr, rfl, -, -, hpr, hrr⟩ := hrow; have HPR := Lib.hid hpr; clear hpr; have HRR := Lib.hid hrr; clear hrr; clear hBc hx1; go_wp2; obtain ⟨iU, s0, s1, s2, s3⟩ := info_parts info_u32; have HI := Lib.hid (And.intro s0 (And.intro s1 (And.intro s2 s3))); clear s0 s1 s2 s3
  go_loopw [9, 26] (fun v9 v26 wr => ∃ k : Nat, v26 = .int .i64 k ∧ k ≤ rl.length ∧ wr.ownsRow wc.heap.size 51 1 v9 k (cellsU .u32 (addrsOf wh (rl.take k))) ∧ Below w.heap.size w wr ∧ Below wc.heap.size wc wr) (fun v9 v26 _ => rl.length - (intOf v26).toNat)
  case atStart => exact ⟨0, by go_num, Nat.zero_le _, World.ownsRow_nil _ _ _ _, HBC.out, Below.refl _ _⟩
  case round =>
   obtain ⟨k, rfl, hk, hu, hB, hBr⟩ := hrel; have HU := Lib.hid hu; have HB := Lib.hid hB; clear hB; have HBR := Lib.hid hBr; clear hBr; obtain ⟨pu, cu, rfl⟩ := own_shape hu; clear hu; have m0 := cell_keep HBR.out hzc n0; have m1 := cell_keep HBR.out hzc n1; have m6 := cell_keep HBR.out hxc k6; have hzr : w.heap.size < wr.heap.size := size_keep HBR.out hzc; have hxr : xb < wr.heap.size := size_keep HBR.out hxc; have hcr := HBR.out.size
   by_cases hlt : k < rl.length
   ·obtain rfl := HPR.out (by omega)
    obtain ⟨g0, g1, g2⟩ := placeR_keeps _ _ _ _ _ HBR.out (HRR.out k hlt); generalize hqq : rl[k] = q at g1 g2; have HQ := Lib.hid hqq; clear hqq; obtain ⟨qa, qb⟩ := q; simp only [] at g1 g2; have b0 : (wr.alloc (.cells #[.int .i64 qa, .int .i64 qb] 185)).cell? ⟨wr.heap.size, 0, none⟩ = some (.int .i64 qa) := by simp [go_sem]
    have b1 : (wr.alloc (.cells #[.int .i64 qa, .int .i64 qb] 185)).cell? ⟨wr.heap.size, 1, none⟩ = some (.int .i64 qb) := by simp [go_sem]
    have b6 := cell_keep (alloc_old wr (.cells #[.int .i64 qa, .int .i64 qb] 185)) hxr m6; have HU2 : Hid ((wr.alloc (.cells #[.int .i64 qa, .int .i64 qb] 185)).ownsRow wc.heap.size 51 1 (.slice pu k cu) k (cellsU .u32 (addrsOf wh (rl.take k)))) := HU.out.alloc _; have z2 : (wr.alloc (.cells #[.int .i64 qa, .int .i64 qb] 185)).heap.size = wr.heap.size + 1 := by simp
    have HBA : Hid (Below wr.heap.size wr (wr.alloc (.cells #[.int .i64 qa, .int .i64 qb] 185))) := alloc_old wr _; generalize hW2 : (wr.alloc (.cells #[.int .i64 qa, .int .i64 qb] 185)) = w2 at b0 b1 b6 HU2 z2 HBA; have c0 := bw_cell (by omega) b0
    have c1 := bw_cell (by omega) b1
    have c6 := bw_cell (by omega) b6
    have HLF : Hid (∀ x : BW w2, Calls Tryz.prog 120 #[.slice pa wh.length ca, .agg #[.int .i64 qa, .int .i64 qb]] x.u fun e w' => e = .returned (.tuple #[.int .u32 (layFind wh (qa, qb)).1, .bool (layFind wh (qa, qb)).2]) ∧ ∃ y : BW w2, w' = y.u) :=
     fun x => calls_below (layFind_any _ wh (qa, qb) x.u ((HAD.out.keep addrR_keeps (HB.out.trans (HBA.out.mono HB.out.size))).keep addrR_keeps x.b))
    have HSN : Hid (addrsOf wh (rl.take (k + 1)) = addrsOf wh (rl.take k) ++ [(layFind wh (qa, qb)).1]) := addrsOf_snoc hlt HQ.out; generalize layFind wh (qa, qb) = lf at HLF HSN; obtain ⟨la, lb⟩ := lf; simp only [] at HLF HSN; go_wp2; try rw [hW2]
    clear hW2; refine wp_region_below (by kernel_rfl) (by kernel_rfl) ?_
    repeat (first | go_big_quiet_skip | quiet_step ((go_at_call 120; exact HLF.out _)))
    refine wpQuiet_nil ?_; rintro w4 hx4; have hB4 : Below w2.heap.size w2 w4 := bw_of hx4; clear hx4; have HU4 := Lib.hid (own_congr HU2.out fun q hq => hB4.block q (HU2.out.lt q hq).2)
    have HB4 : Hid (Below wr.heap.size wr w4) := HBA.out.trans (hB4.mono (by omega))
    have hz4 : wr.heap.size < w4.heap.size := by have := hB4.size; omega
    clear c0 c1 c6 b0 b1 b6 hB4; go_wp2_with (at_builtin; refine wpList_append_own _ rfl _ _ 218 rfl wc.heap.size 51 iU _ 1 4 Tryz.underlying218 HI.out.1 HI.out.2.1 HI.out.2.2.1 HI.out.2.2.2 rfl (by decide) _ k (cellsU .u32 (addrsOf wh (rl.take k))) rfl ?c0 _ 1 1 [.int .u32 la] rfl rfl ?c1 one_u32 ?c3 ?c4 ?c5 ?_)
    case c0 => exact HU4.out.alloc _
    case c1 => exact one_new (by simp [go_sem])
    case c3 => unfold maxLen; omega
    case c4 => omega
    case c5 => simp; omega
    intro v' w' hown3 hgrow3 _
    have HO3 : Hid (w'.ownsRow wc.heap.size 51 1 v' (k + 1) (cellsU .u32 (addrsOf wh (rl.take (k + 1))))) := by
     have e : cellsU .u32 (addrsOf wh (rl.take (k + 1))) = cellsU .u32 (addrsOf wh (rl.take k)) ++ [.int .u32 la] := by rw [HSN.out]; simp [cellsU]
     rw [Hid, e]; exact hown3
    have hlast : Below wc.heap.size wr w' := (((HB4.out.mono hcr).alloc (by omega) _).grown hgrow3 (by simp; omega) (fun q e => (HU4.out.lt q e).1))
    have HL := Lib.hid hlast; clear hown3 hgrow3 hlast; have hwc := HBC.out.size; go_wp2; go_roundw
    case rel => exact ⟨k + 1, by go_num, by omega, HO3.out, HB.out.trans (HL.out.mono (by omega)), HBR.out.trans HL.out⟩
    case measure => simp [intOf]; omega
   ·obtain rfl : k = rl.length := by omega
    have hke : rl.take rl.length = rl := List.take_length; rw [hke] at HU; have hls : (addrsOf wh rl).length = rl.length := addrsOf_len _ _
    have hrow : RowAt 1 NumR wr (.slice pu rl.length cu) (addrsOf wh rl) := urow_num (base := wc.heap.size) (by unfold URow; rw [hls]; exact HU.out) (by rw [addrsOf_len]; omega) (fun x hx => by
     simp only [addrsOf, List.mem_map] at hx; obtain ⟨q, -, rfl⟩ := hx; exact layFind_num HAD.out _)
    have HNU := Lib.hid hrow; have HSC := Lib.hid (HSY.out wr HB.out); unfold SymLPost at HSC; go_wp2_with fail; refine HSC.out.mono ?_; rintro e w2 ⟨⟨vr, vn, rfl, hin⟩, hB2⟩; have HFC := Lib.hid (fill_any s vr vn _ (addrsOf wh rl) w2 hin hb (HNU.out.keep numR_keeps hB2)); unfold symV; obtain ⟨q1, c1, q2, c2, rfl, rfl⟩ := hin.shape; go_wp2_with fail; refine HFC.out.mono ?_; rintro e w3 ⟨rfl, hB3⟩; go_wp2; go_ret2; rw [HFI.out]; exact ⟨rfl, HB.out.trans ((hB2.trans (hB3.mono hB2.size)).mono HB.out.size)⟩
end
section
open Go.RowKit
theorem field_name (n y : ByteArray) (a b c : Int) (vr vn : Value) (w : World) : (Instr.field 55 (.agg #[.string n, .int .u8 a, .int .u8 b, .int .u32 c, .string y, vr, vn]) 0).run Tryz.prog w = .ok (.string n) w := by
 simp [Instr.field, asAgg, run_underlying Tryz.underlying55, part, go_sem]
theorem field_kind (n y : ByteArray) (a b c : Int) (vr vn : Value) (w : World) : (Instr.field 55 (.agg #[.string n, .int .u8 a, .int .u8 b, .int .u32 c, .string y, vr, vn]) 2).run Tryz.prog w = .ok (.int .u8 b) w := by
 simp [Instr.field, asAgg, run_underlying Tryz.underlying55, part, go_sem]
theorem field_notes (n y : ByteArray) (a b c : Int) (vr vn : Value) (w : World) : (Instr.field 55 (.agg #[.string n, .int .u8 a, .int .u8 b, .int .u32 c, .string y, vr, vn]) 6).run Tryz.prog w = .ok vn w := by
 simp [Instr.field, asAgg, run_underlying Tryz.underlying55, part, go_sem]
end
section
open Go.RowKit
end
end Go.Proofs.YtboegjdkedjhcaaGreatDoor
