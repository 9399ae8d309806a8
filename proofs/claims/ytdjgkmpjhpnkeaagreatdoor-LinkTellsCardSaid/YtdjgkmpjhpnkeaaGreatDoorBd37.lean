/- The walk of aediculeref08.Copy. Copied objects: each has blocks of its own. The walk of aediculeref08.CopyAll. The walks of aediculeref08.SameSym and Same where both are one. -/
import Derived.Test.YtdjgkmpjhpnkeaaGreatDoorBd05
import Derived.Test.YtdjgkmpjhpnkeaaGreatDoorBd09
import Derived.Maps.AppendAt
import Derived.Lib.Hide
import Derived.Test.YtdjgkmpjhpnkeaaGreatDoorBd04
import Derived.StillTailTactics
namespace Go.Proofs.YtdjgkmpjhpnkeaaGreatDoor
open Go.RowKit Go.Maps Go.WideMaps
/-- a copied symbol: its two rows are its own, and lie apart from the row r -/
def SymOwn (base : Nat) (w : World) (r : Value) (t : SymT) : Prop :=
  w.ownsRow base 211 4 t.2.1 t.1.rels.length (t.1.rels.flatMap relCells) ∧ w.ownsRow base 219 3 t.2.2 t.1.notes.length (t.1.notes.flatMap noteCells) ∧
  (t.2.1.ownBlock = none ∨ t.2.1.ownBlock ≠ r.ownBlock) ∧ (t.2.2.ownBlock = none ∨ t.2.2.ownBlock ≠ r.ownBlock)
theorem SymOwn.keep {base : Nat} {w w' : World} {r : Value} {t : SymT} (hb : Below w.heap.size w w') (h : SymOwn base w r t) : SymOwn base w' r t := ⟨ownsRow_below hb h.1, ownsRow_below hb h.2.1, h.2.2⟩
theorem SymOwn.grown {base : Nat} {w w' : World} {r r' : Value} {t : SymT} (h : SymOwn base w r t) (hg : w.grownBy w' r.ownBlock) (hr : r'.ownBlock = r.ownBlock ∨ r'.ownBlock = some w.heap.size) : SymOwn base w' r' t := by
  obtain ⟨h1, h2, h3, h4⟩ := h
  refine ⟨h1.kept hg h3, h2.kept hg h4, ?_, ?_⟩
  · rcases hr with hr | hr
    · rw [hr]; exact h3
    · by_cases h5 : t.2.1.ownBlock = none
      · exact .inl h5
      · obtain ⟨k, hk⟩ := Option.ne_none_iff_exists'.1 h5
        have := (h1.lt k hk).2
        refine .inr ?_
        rw [hr, hk]; intro h; cases h; omega
  · rcases hr with hr | hr
    · rw [hr]; exact h4
    · by_cases h5 : t.2.2.ownBlock = none
      · exact .inl h5
      · obtain ⟨k, hk⟩ := Option.ne_none_iff_exists'.1 h5
        have := (h2.lt k hk).2
        refine .inr ?_
        rw [hr, hk]; intro h; cases h; omega
theorem info_rel : (Tryz.prog.info? 211).map (fun i => (i.zero, i.size, i.bytes)) = some (some (.agg #[.int .u32 0, .int .u8 0, .string ⟨#[]⟩, .int .u32 0]), 4, 32) := by kernel_rfl
theorem info_note : (Tryz.prog.info? 219).map (fun i => (i.zero, i.size, i.bytes)) = some (some (.agg #[.int .u8 0, .int .u32 0, .int .u32 0]), 3, 12) := by kernel_rfl
theorem info_sym : (Tryz.prog.info? 72).map (fun i => (i.zero, i.size, i.bytes)) = some (some (.agg #[.string ⟨#[]⟩, .int .u8 0, .int .u8 0, .int .u32 0, .string ⟨#[]⟩, .slice none 0 0, .slice none 0 0]), 7, 88) := by kernel_rfl
theorem info_obj : (Tryz.prog.info? 47).map (fun i => (i.zero, i.size, i.bytes)) = some (some (.agg #[.string ⟨#[]⟩, .slice none 0 0]), 2, 40) := by kernel_rfl
theorem seven_news {w : World} {g : Nat} {t : SymT} (h : ∀ j u, j < 7 → (symCells t)[j]? = some u → w.cell? ⟨g, j, none⟩ = some u) : ∀ j u, (symCells t)[j]? = some u → w.cell? ((⟨g, 0, none⟩ : Addr).add j) = some u := by
  intro j u hu
  have hj : j < 7 := (List.getElem?_eq_some_iff.1 hu).1
  rw [add_at, Nat.zero_add]
  exact h j u hj hu
theorem seven_one {t : SymT} {p1 p2 : Option Addr} {n1 c1 n2 c2 : Nat} (h1 : t.2.1 = .slice p1 n1 c1) (h2 : t.2.2 = .slice p2 n2 c2) : ∀ u ∈ symCells t, u.oneCell' = true := by
  intro u hu
  simp only [symCells, List.mem_cons, List.not_mem_nil, or_false, h1, h2] at hu
  rcases hu with rfl | rfl | rfl | rfl | rfl | rfl | rfl <;> rfl
def CopyPost (w : World) (x : GObj) (e : Ending) (w' : World) : Prop := ∃ (vs : Value) (ts : List SymT), e = .returned (.agg #[.string x.name, vs]) ∧ ts.map (·.1) = x.syms ∧ w'.ownsRow w.heap.size 72 7 vs ts.length (ts.flatMap symCells) ∧ (∀ t ∈ ts, SymOwn w.heap.size w' vs t) ∧ Below w.heap.size w w'
set_option maxRecDepth 100000 in
set_option maxHeartbeats 2000000 in
theorem copy_any (x : GObj) (vs : Value) (w : World) (h : ObjIn w x vs) (hbd : ObjBd x) :
    Calls Tryz.prog 50 #[.agg #[.string x.name, vs]] w (CopyPost w x) := by
  obtain ⟨xn, xs⟩ := x
  obtain ⟨⟨p, cap, b, o, rfl, hcap, hmax, hp, hc⟩, hnm⟩ := h
  obtain ⟨hb1, hb2⟩ := hbd
  simp only [] at *
  have HP := Lib.hid hp; clear hp
  have HC := Lib.hid hc; clear hc
  have HBD := Lib.hid hb2; clear hb2
  obtain ⟨iR, r0, r1, r2, r3⟩ := info_parts info_rel
  obtain ⟨iN, n0, n1, n2, n3⟩ := info_parts info_note
  obtain ⟨iS, s0, s1, s2, s3⟩ := info_parts info_sym
  have HR := Lib.hid (And.intro r0 (And.intro r1 (And.intro r2 r3)))
  have HN := Lib.hid (And.intro n0 (And.intro n1 (And.intro n2 n3)))
  have HS := Lib.hid (And.intro s0 (And.intro s1 (And.intro s2 s3)))
  clear r0 r1 r2 r3 n0 n1 n2 n3 s0 s1 s2 s3
  go_enter Tryz.func50, Tryz.ntmps50
  go_wp2
  generalize hW0 : (w.alloc (.cells #[.string xn, .slice p xs.length cap] 47)).alloc (.cells #[.string ⟨#[]⟩, .slice none 0 0] 47) = w0
  have HB0 : Hid (Below w.heap.size w w0) := by subst hW0; exact (alloc_old w _).alloc (by simp) _
  have hs0 : w.heap.size + 1 < w0.heap.size := by subst hW0; simp
  have HA0 : Hid (w0.cell? ⟨w.heap.size, 0, none⟩ = some (.string xn)) := by subst hW0; simp [Hid, go_sem]
  have HA1 : Hid (w0.cell? ⟨w.heap.size, 1, none⟩ = some (.slice p xs.length cap)) := by subst hW0; simp [Hid, go_sem]
  have HA2 : Hid (w0.cell? ⟨w.heap.size + 1, 0, none⟩ = some (.string ⟨#[]⟩)) := by subst hW0; simp [Hid, go_sem]
  have HA3 : Hid (w0.cell? ⟨w.heap.size + 1, 1, none⟩ = some (.slice none 0 0)) := by subst hW0; simp [Hid, go_sem]
  have HF1 : Hid (w0.frozen? ⟨w.heap.size, 1, none⟩ = false) := by subst hW0; simp [Hid, go_sem]
  have HF2 : Hid (w0.frozen? ⟨w.heap.size + 1, 0, none⟩ = false) := by subst hW0; simp [Hid, go_sem]
  have HF3 : Hid (w0.frozen? ⟨w.heap.size + 1, 1, none⟩ = false) := by subst hW0; simp [Hid, go_sem]
  clear hW0
  go_loopw [3, 4] (fun v3 v4 wr => ∃ (i : Nat) (ts : List SymT), i ≤ xs.length ∧ v4 = .int .i64 i ∧ ts.length = i ∧ ts.map (·.1) = xs.take i ∧ wr.ownsRow w0.heap.size 72 7 v3 i (ts.flatMap symCells) ∧ (∀ t ∈ ts, SymOwn w0.heap.size wr v3 t) ∧ Below w0.heap.size w0 wr) (fun _ v4 _ => xs.length - (intOf v4).toNat)
  case atStart => exact ⟨0, [], Nat.zero_le _, rfl, rfl, rfl, World.ownsRow_nil _ _ _ _, fun t ht => (by cases ht), Below.refl _ _⟩
  case round =>
    obtain ⟨i, ts, hi, rfl, htl, htm, hown, hsy, hbel⟩ := hrel
    have HTM := Lib.hid htm; clear htm
    have HOWN := Lib.hid hown; clear hown
    have HSY := Lib.hid hsy; clear hsy
    have HB := Lib.hid hbel; clear hbel
    have HBW : Hid (Below w.heap.size w wr) := HB0.out.trans (HB.out.mono HB0.out.size)
    have a0 := cell_keep HB.out (by omega) HA0.out
    have a1 := cell_keep HB.out (by omega) HA1.out
    have z1 : w.heap.size + 1 < wr.heap.size := size_keep HB.out hs0
    have z0 : w.heap.size < wr.heap.size := by omega
    by_cases hlt : i < xs.length
    · obtain rfl := HP.out (by omega)
      obtain ⟨vr, vn, g0, g1, g2, g3, g4, g5, g6, g7, hin⟩ := symR_keeps _ _ _ _ _ HBW.out (HC.out i hlt)
      obtain ⟨p1, q1, p2, q2, rfl, rfl⟩ := hin.shape
      generalize hy : xs[i] = y at g1 g2 g3 g4 g5 g6 g7 hin
      obtain ⟨yn, yb, yk, ys, yy, yr, yt⟩ := y
      simp only [] at g1 g2 g3 g4 g5 g6 g7 hin
      have HY := Lib.hid hy; clear hy
      have HIN := Lib.hid hin; clear hin
      obtain ⟨⟨_, _, bR, oR, eR, _, mR, pR, cR⟩, ⟨_, _, bN, oN, eN, _, mN, pN, cN⟩, hrest⟩ := HIN.out
      cases eR
      cases eN
      have hbb := HBD.out _ (List.getElem_mem hlt)
      rw [HY.out] at hbb
      obtain ⟨bb1, bb2⟩ := hbb
      simp only [] at bb1 bb2 mR mN pR pN cR cN
      have PR := Lib.hid pR; clear pR
      have PN := Lib.hid pN; clear pN
      have CR := Lib.hid cR; clear cR
      have CN := Lib.hid cN; clear cN
      have HRS := Lib.hid hrest; clear hrest
      go_wp2_with (at_builtin; refine wpList_copy rfl _ _ 69 rfl 211 iR _ 4 32 Tryz.underlying69 HR.out.1 HR.out.2.1 HR.out.2.2.1 HR.out.2.2.2 rfl (by decide) rfl p1 yr.length q1 bR oR (yr.flatMap relCells) rfl PR.out (flat_len relCells_len yr) ?c2 relCells_one mR (by omega) ?_)
      case c2 =>
        intro _ j u hu
        have h1 := rel_news (fun k hk => relR_keeps _ _ _ _ _ (alloc_old wr (.cells #[.string yn, .int .u8 yb, .int .u8 yk, .int .u32 ys, .string yy, .slice p1 yr.length q1, .slice p2 yt.length q2] 72)) (CR.out k hk)) j u hu
        rwa [add_at] at h1
      intro vR wR hoR hgR
      obtain ⟨pr, cr, rfl⟩ := own_shape hoR
      have HOR := Lib.hid hoR; clear hoR
      have HBR : Hid (Below (wr.heap.size + 1) (wr.alloc (.cells #[.string yn, .int .u8 yb, .int .u8 yk, .int .u32 ys, .string yy, .slice p1 yr.length q1, .slice p2 yt.length q2] 72)) wR) := (Below.refl _ _).grown hgR (by simp) (fun k hk => by cases hk)
      clear hgR
      have k0 : wR.cell? ⟨wr.heap.size, 0, none⟩ = some (.string yn) := by rw [HBR.out.cell (by simp)]; simp [go_sem]
      have k1 : wR.cell? ⟨wr.heap.size, 1, none⟩ = some (.int .u8 yb) := by rw [HBR.out.cell (by simp)]; simp [go_sem]
      have k2 : wR.cell? ⟨wr.heap.size, 2, none⟩ = some (.int .u8 yk) := by rw [HBR.out.cell (by simp)]; simp [go_sem]
      have k3 : wR.cell? ⟨wr.heap.size, 3, none⟩ = some (.int .u32 ys) := by rw [HBR.out.cell (by simp)]; simp [go_sem]
      have k4 : wR.cell? ⟨wr.heap.size, 4, none⟩ = some (.string yy) := by rw [HBR.out.cell (by simp)]; simp [go_sem]
      have k5 : wR.cell? ⟨wr.heap.size, 5, none⟩ = some (.slice p1 yr.length q1) := by rw [HBR.out.cell (by simp)]; simp [go_sem]
      have k6 : wR.cell? ⟨wr.heap.size, 6, none⟩ = some (.slice p2 yt.length q2) := by rw [HBR.out.cell (by simp)]; simp [go_sem]
      have zR : wr.heap.size < wR.heap.size := by have := HBR.out.size; (try simp at this); omega
      have HBRW : Hid (Below wr.heap.size wr wR) := (alloc_old wr _).trans (HBR.out.mono (by omega))
      obtain ⟨hcR, hfR⟩ := bcell HBR.out
      clear g0 g1 g2 g3 g4 g5 g6 g7 a0 a1
      go_wp2_with (at_builtin; refine wpList_copy rfl _ _ 70 rfl 219 iN _ 3 12 Tryz.underlying70 HN.out.1 HN.out.2.1 HN.out.2.2.1 HN.out.2.2.2 rfl (by decide) rfl p2 yt.length q2 bN oN (yt.flatMap noteCells) rfl PN.out (flat_len noteCells_len yt) ?c2 noteCells_one mN (by omega) ?_)
      case c2 =>
        intro _ j u hu
        have h1 := note_news (fun k hk => noteR_keeps _ _ _ _ _ (show Below wr.heap.size wr (wR.setCell ⟨wr.heap.size, 5, none⟩ (.slice pr yr.length cr)) from HBRW.out.setCell (by simp) _) (CN.out k hk)) j u hu
        exact h1
      intro vN wN hoN hgN
      obtain ⟨pn, cn, rfl⟩ := own_shape hoN
      have HON := Lib.hid hoN; clear hoN
      have HBN : Hid (Below wR.heap.size (wR.setCell ⟨wr.heap.size, 5, none⟩ (.slice pr yr.length cr)) wN) := (Below.refl _ _).grown hgN (by simp) (fun k hk => by cases hk)
      clear hgN hcR hfR
      obtain ⟨hcN, hfN⟩ := bcell HBN.out
      obtain ⟨hcR, hfR⟩ := bcell HBR.out
      have zN : wr.heap.size < wN.heap.size := by have := HBN.out.size; (try simp at this); omega
      have m0 : wN.cell? ⟨wr.heap.size, 0, none⟩ = some (.string yn) := by rw [HBN.out.cell zR]; simp [go_sem, *]
      have m1 : wN.cell? ⟨wr.heap.size, 1, none⟩ = some (.int .u8 yb) := by rw [HBN.out.cell zR]; simp [go_sem, *]
      have m2 : wN.cell? ⟨wr.heap.size, 2, none⟩ = some (.int .u8 yk) := by rw [HBN.out.cell zR]; simp [go_sem, *]
      have m3 : wN.cell? ⟨wr.heap.size, 3, none⟩ = some (.int .u32 ys) := by rw [HBN.out.cell zR]; simp [go_sem, *]
      have m4 : wN.cell? ⟨wr.heap.size, 4, none⟩ = some (.string yy) := by rw [HBN.out.cell zR]; simp [go_sem, *]
      have m5 : wN.cell? ⟨wr.heap.size, 5, none⟩ = some (.slice pr yr.length cr) := by rw [HBN.out.cell zR]; simp [go_sem, *]
      have m6 : wN.cell? ⟨wr.heap.size, 6, none⟩ = some (.slice p2 yt.length q2) := by rw [HBN.out.cell zR]; simp [go_sem, *]
      clear k0 k1 k2 k3 k4 k5 k6
      have HBNW : Hid (Below wr.heap.size wr wN) := (HBRW.out.setCell (by simp) _).trans (HBN.out.mono (by omega))
      go_wp2_with (at_builtin; refine wpList_append_own_at _ rfl _ _ 45 rfl w0.heap.size 72 iS _ 7 88 Tryz.underlying45 HS.out.1 HS.out.2.1 HS.out.2.2.1 HS.out.2.2.2 rfl (by decide) _ i (ts.flatMap symCells) rfl ?c0 _ 1 1 (symCells (⟨yn, yb, yk, ys, yy, yr, yt⟩, .slice pr yr.length cr, .slice pn yt.length cn)) rfl rfl ?c1 (seven_one rfl rfl) ?c3 ?c4 ?c5 ?_)
      case c0 => exact ownsRow_below ((HBNW.out.setCell (by simp) _).alloc (by have := HBNW.out.size; simp; omega) _) HOWN.out
      case c1 =>
        refine seven_news fun j u hj hu => ?_
        match j, hu with
        | 0, hu => cases hu; simp [go_sem]
        | 1, hu => cases hu; simp [go_sem]
        | 2, hu => cases hu; simp [go_sem]
        | 3, hu => cases hu; simp [go_sem]
        | 4, hu => cases hu; simp [go_sem]
        | 5, hu => cases hu; simp [go_sem]
        | 6, hu => cases hu; simp [go_sem]
      case c3 => unfold maxLen; omega
      case c4 => omega
      case c5 => have := HB.out.size; have := HBNW.out.size; simp; omega
      intro v' w' hown3 hgrow3 _ hblk
      have q1 := HB.out.size
      have q2 := HBNW.out.size
      have hor := ownsRow_below (alloc_old _ (.cells #[.string yn, .int .u8 yb, .int .u8 yk, .int .u32 ys, .string yy, .slice pr yr.length cr, .slice pn yt.length cn] 72)) (owns_setCell (ownsRow_below (show Below (wR.setCell ⟨wr.heap.size, 5, none⟩ (.slice pr yr.length cr)).heap.size _ wN by simpa using HBN.out) (owns_setCell HOR.out (a := ⟨wr.heap.size, 5, none⟩) (by simp) (.slice pr yr.length cr))) (a := ⟨wr.heap.size, 6, none⟩) (by simp) (.slice pn yt.length cn))
      have hon := ownsRow_below (alloc_old _ (.cells #[.string yn, .int .u8 yb, .int .u8 yk, .int .u32 ys, .string yy, .slice pr yr.length cr, .slice pn yt.length cn] 72)) (owns_setCell HON.out (a := ⟨wr.heap.size, 6, none⟩) (by simpa using zR) (.slice pn yt.length cn))
      have HNEW : Hid (SymOwn w0.heap.size _ _ (⟨yn, yb, yk, ys, yy, yr, yt⟩, .slice pr yr.length cr, .slice pn yt.length cn)) := ⟨owns_mono hor (by omega), owns_mono hon (by omega), own_away hor HOWN.out (by omega), own_away hon HOWN.out (by omega)⟩
      clear hor hon
      have HBK := Lib.hid ((show Below wr.heap.size wr (wN.setCell ⟨wr.heap.size, 6, none⟩ (.slice pn yt.length cn)) from HBNW.out.setCell (by simp) _).alloc (by simpa using q2) (.cells #[.string yn, .int .u8 yb, .int .u8 yk, .int .u32 ys, .string yy, .slice pr yr.length cr, .slice pn yt.length cn] 72))
      have HALL : Hid (∀ t ∈ ts ++ [(⟨yn, yb, yk, ys, yy, yr, yt⟩, .slice pr yr.length cr, .slice pn yt.length cn)], SymOwn w0.heap.size w' v' t) := fun t ht => by
        rcases List.mem_append.1 ht with ht | ht
        · exact (SymOwn.keep HBK.out (HSY.out t ht)).grown hgrow3 (by simpa using hblk)
        · obtain rfl : t = _ := by simpa using ht
          exact HNEW.out.grown hgrow3 (by simpa using hblk)
      have HB4 : Hid (Below w0.heap.size w0 w') := (HB.out.trans (HBK.out.mono q1)).grown hgrow3 (by simp; omega) (fun q e => (World.ownsRow.lt HOWN.out q e).1)
      have HO4 := Lib.hid hown3; clear hown3 hgrow3 hblk
      go_wp2
      go_roundw
      case rel => exact ⟨i + 1, _, by omega, by go_num, by simp [htl], by rw [List.map_append, HTM.out, List.take_succ_eq_append_getElem hlt, HY.out]; rfl, by simpa using HO4.out, HALL.out, HB4.out⟩
      case measure => simp [intOf]; omega
    · have a2 := cell_keep HB.out (by omega) HA2.out
      have a3 := cell_keep HB.out (by omega) HA3.out
      have f1 : wr.frozen? ⟨w.heap.size, 1, none⟩ = false := by rw [HB.out.frozen (by simp; omega)]; exact HF1.out
      have f2 : wr.frozen? ⟨w.heap.size + 1, 0, none⟩ = false := by rw [HB.out.frozen (by simp; omega)]; exact HF2.out
      have f3 : wr.frozen? ⟨w.heap.size + 1, 1, none⟩ = false := by rw [HB.out.frozen (by simp; omega)]; exact HF3.out
      obtain ⟨pv, cv, rfl⟩ := own_shape HOWN.out
      go_wp2
      have hie : i = xs.length := by omega
      have hset : ∀ (W : World) (k : Nat) (v : Value) (n : Nat) (e : TypeId) (cs : List Value), W.ownsRow w0.heap.size e k v n cs → (((W.setCell ⟨w.heap.size, 1, none⟩ (.slice pv i cv)).setCell ⟨w.heap.size + 1, 0, none⟩ (.string xn)).setCell ⟨w.heap.size + 1, 1, none⟩ (.slice pv i cv)).ownsRow w.heap.size e k v n cs := fun W k v n e cs ho =>
        owns_mono (owns_setCell (owns_setCell (owns_setCell ho (by simp; omega) _) (by simp; omega) _) (by simp; omega) _) (by omega)
      refine bodyPost_ret (v := .agg #[.string xn, .slice pv i cv]) (by simp [results, Tryz.results50, go_sem, *]) rfl ⟨_, ts, rfl, by rw [HTM.out, hie]; simp, by rw [htl]; exact hset _ _ _ _ _ _ HOWN.out, fun t ht => ?_, ?_⟩
      · obtain ⟨h1, h2, h3, h4⟩ := HSY.out t ht
        exact ⟨hset _ _ _ _ _ _ h1, hset _ _ _ _ _ _ h2, h3, h4⟩
      · exact ((HBW.out.setCell (by simp) _).setCell (by simp) _).setCell (by simp) _
end Go.Proofs.YtdjgkmpjhpnkeaaGreatDoor
namespace Go.Proofs.YtdjgkmpjhpnkeaaGreatDoor
open Go.RowKit Go.Maps Go.WideMaps
theorem owns_congr {w w' : World} {base : Nat} {e : TypeId} {k : Nat} {v : Value} {n : Nat} {xs : List Value} (h : w.ownsRow base e k v n xs) (hg : ∀ g, v.ownBlock = some g → w'.heap[g]? = w.heap[g]?) : w'.ownsRow base e k v n xs := by
  refine ⟨h.1, ?_⟩
  rcases h.2 with hn | ⟨g, cap, cur, rfl, hb, h1, rest⟩
  · exact .inl hn
  · exact .inr ⟨g, cap, cur, rfl, hb, by rw [hg g rfl]; exact h1, rest⟩
/-- a copied object, its row of symbols, and the range of its blocks -/
structure CT where
  o : GObj
  vs : Value
  lo : Nat
  hi : Nat
def InR (lo hi : Nat) (v : Value) : Prop := ∀ g, v.ownBlock = some g → lo ≤ g ∧ g < hi
def ObjSep (w : World) (c : CT) : Prop := ∃ ts : List SymT, ts.map (·.1) = c.o.syms ∧ w.ownsRow c.lo 72 7 c.vs ts.length (ts.flatMap symCells) ∧ (∀ t ∈ ts, SymOwn c.lo w c.vs t ∧ InR c.lo c.hi t.2.1 ∧ InR c.lo c.hi t.2.2) ∧ InR c.lo c.hi c.vs
theorem ObjSep.congr {w w' : World} {c : CT} (h : ObjSep w c) (hk : ∀ g, c.lo ≤ g → g < c.hi → w'.heap[g]? = w.heap[g]?) : ObjSep w' c := by
  obtain ⟨ts, h1, h2, h3, h4⟩ := h
  refine ⟨ts, h1, owns_congr h2 fun g hg => hk g (h4 g hg).1 (h4 g hg).2, fun t ht => ?_, h4⟩
  obtain ⟨⟨s1, s2, s3, s4⟩, i1, i2⟩ := h3 t ht
  exact ⟨⟨owns_congr s1 fun g hg => hk g (i1 g hg).1 (i1 g hg).2, owns_congr s2 fun g hg => hk g (i2 g hg).1 (i2 g hg).2, s3, s4⟩, i1, i2⟩
theorem CopyPost.sep {w w' : World} {x : GObj} {e : Ending} (h : CopyPost w x e w') : ∃ vs, e = .returned (.agg #[.string x.name, vs]) ∧ ObjSep w' ⟨x, vs, w.heap.size, w'.heap.size⟩ ∧ (∃ p c, vs = .slice p x.syms.length c) ∧ Below w.heap.size w w' := by
  obtain ⟨vs, ts, he, h1, h2, h3, h4⟩ := h
  refine ⟨vs, he, ⟨ts, h1, h2, fun t ht => ?_, h2.lt⟩, ?_, h4⟩
  · have := h3 t ht
    exact ⟨this, this.1.lt, this.2.1.lt⟩
  · have := own_shape h2
    rw [← h1, List.length_map]; exact this
theorem ObjSep.objIn {w0 w : World} {c : CT} {v0 : Value} (h0 : ObjIn w0 c.o v0) (h : ObjSep w c) : ObjIn w c.o c.vs := by
  obtain ⟨ts, h1, h2, h3, h4⟩ := h
  obtain ⟨⟨p, cap, b, o, -, -, hm, -, hc⟩, hn⟩ := h0
  refine ⟨?_, hn⟩
  have hl : ts.length = c.o.syms.length := by rw [← h1, List.length_map]
  rw [← h1]
  refine sym_back h2 (by omega) fun t ht => ?_
  obtain ⟨i, hi, rfl⟩ := List.mem_iff_getElem.1 ht
  have hi' : i < c.o.syms.length := by omega
  obtain ⟨vr, vn, -, -, -, -, -, -, -, -, hin⟩ := hc i hi'
  have he : ts[i].1 = c.o.syms[i] := by
    have : (ts.map (·.1))[i]? = c.o.syms[i]? := by rw [h1]
    rw [List.getElem?_map, List.getElem?_eq_getElem hi, List.getElem?_eq_getElem hi'] at this
    exact Option.some.inj this
  obtain ⟨⟨s1, s2, s3, s4⟩, -, -⟩ := h3 _ ht
  rw [← he] at hin
  exact ⟨rel_back hin.1 s1, note_back hin.2.1 s2, hin.2.2⟩
def objCells (c : CT) : List Value := [.string c.o.name, c.vs]
theorem objCells_len (c : CT) : (objCells c).length = 2 := rfl
/-- what CopyAll leaves: a row of its own, each object with blocks of its own, apart from the row and from each other -/
def AllSep (B : Nat) (w : World) (v : Value) (us : List CT) : Prop :=
  w.ownsRow B 47 2 v us.length (us.flatMap objCells) ∧ (∀ u ∈ us, ObjSep w u ∧ B ≤ u.lo ∧ u.lo ≤ u.hi ∧ u.hi ≤ w.heap.size ∧ ∀ g, v.ownBlock = some g → g < u.lo ∨ u.hi ≤ g) ∧ us.Pairwise (fun a b => a.hi ≤ b.lo)
theorem AllSep.objs {B : Nat} {w0 w : World} {v0 v : Value} {l : List GObj} {us : List CT} (h0 : ObjsAt w0 v0 l) (hl : us.map (·.o) = l) (h : AllSep B w v us) : ObjsAt w v l := by
  obtain ⟨h1, h2, -⟩ := h
  obtain ⟨p, cap, b, o, -, -, hm, -, hc⟩ := h0
  have hlen : us.length = l.length := by rw [← hl, List.length_map]
  have h5 : RowAt 2 (fun w b o (u : CT) => ObjR w b o u.o) w v us := owned_row objCells_len h1 (by omega) fun g o' i hi hg hcell => by
    have hi' : i < l.length := by omega
    obtain ⟨vs, -, -, -, hin⟩ := hc i hi'
    have he : us[i].o = l[i] := by
      have : (us.map (·.o))[i]? = l[i]? := by rw [hl]
      rw [List.getElem?_map, List.getElem?_eq_getElem hi, List.getElem?_eq_getElem hi'] at this
      exact Option.some.inj this
    rw [← he] at hin
    exact ⟨us[i].vs, hg, hcell 0 _ (by omega) rfl, hcell 1 _ (by omega) rfl, ObjSep.objIn hin (h2 _ (List.getElem_mem hi)).1⟩
  obtain ⟨p, cap, b, o, rfl, q2, q3, q4, q5⟩ := h5
  subst hl
  exact ⟨p, cap, b, o, by simp, by simpa using q2, by simpa using q3, by simpa using q4, fun i hi => by simpa using q5 i (by simpa using hi)⟩
/-- one object more -/
theorem AllSep.snoc {B : Nat} {w0 w1 w2 : World} {v v' : Value} {us : List CT} {x : GObj} {vs : Value} (h : AllSep B w0 v us) (hb : Below w0.heap.size w0 w1) (hx : ObjSep w1 ⟨x, vs, w0.heap.size, w1.heap.size⟩) (hB : B ≤ w0.heap.size) {ob : Obj}
    (hown : w2.ownsRow B 47 2 v' (us.length + 1) (us.flatMap objCells ++ [.string x.name, vs])) (hg : (w1.alloc ob).grownBy w2 v.ownBlock) (hv : v'.ownBlock = v.ownBlock ∨ v'.ownBlock = some (w1.alloc ob).heap.size) :
    AllSep B w2 v' (us ++ [⟨x, vs, w0.heap.size, w1.heap.size⟩]) := by
  obtain ⟨h1, h2, h3⟩ := h
  have hs1 := hb.size
  have hs2 : w1.heap.size + 1 ≤ w2.heap.size := by have := hg.size; simpa using this
  have hlt := h1.lt
  have hkeep : ∀ g, g < w1.heap.size → v.ownBlock ≠ some g → w2.heap[g]? = w1.heap[g]? := fun g hgl hne => by
    rw [hg.block g (by simp; omega) (fun e => hne e.symm), Below.heap_alloc _ _ _ hgl]
  refine ⟨?_, ?_, ?_⟩
  · simpa [objCells] using hown
  · intro u hu
    rcases List.mem_append.1 hu with hu | hu
    · obtain ⟨q1, q2, q3, q4, q5⟩ := h2 u hu
      refine ⟨(q1.congr (w' := w1) fun g hg1 hg2 => hb.block g (by omega)).congr fun g hg1 hg2 => hkeep g (by omega) fun e => ?_, q2, q3, by omega, fun g hg' => ?_⟩
      · have := q5 g e; omega
      · rcases hv with hv | hv
        · exact q5 g (hv ▸ hg')
        · rw [hv] at hg'; cases hg'; simp; omega
    · obtain rfl : u = _ := by simpa using hu
      refine ⟨hx.congr fun g hg1 hg2 => hkeep g hg2 fun e => ?_, hB, hs1, by simp; omega, fun g hg' => ?_⟩
      · have := hlt g e; simp at hg1; omega
      · rcases hv with hv | hv
        · rw [hv] at hg'; have := hlt g hg'; simp; omega
        · rw [hv] at hg'; cases hg'; simp
  · rw [List.pairwise_append]
    refine ⟨h3, List.pairwise_singleton _ _, fun a ha b hb' => ?_⟩
    obtain rfl : b = _ := by simpa using hb'
    exact (h2 a ha).2.2.2.1
end Go.Proofs.YtdjgkmpjhpnkeaaGreatDoor
namespace Go.Proofs.YtdjgkmpjhpnkeaaGreatDoor
open Go.RowKit Go.Maps Go.WideMaps
def CopyAllPost (w : World) (l : List GObj) (e : Ending) (w' : World) : Prop := ∃ (v : Value) (us : List CT), e = .returned v ∧ us.map (·.o) = l ∧ AllSep w.heap.size w' v us ∧ Below w.heap.size w w'
theorem two_cells {w : World} {g : Nat} {a b : Value} (h0 : w.cell? ⟨g, 0, none⟩ = some a) (h1 : w.cell? ⟨g, 1, none⟩ = some b) : ∀ j u, [a, b][j]? = some u → w.cell? ((⟨g, 0, none⟩ : Addr).add j) = some u := by
  intro j u hu
  rw [add_at, Nat.zero_add]
  match j, hu with
  | 0, hu => cases hu; exact h0
  | 1, hu => cases hu; exact h1
theorem two_single {s : ByteArray} {p : Option Addr} {n c : Nat} : ∀ u ∈ [Value.string s, .slice p n c], u.oneCell' = true := by
  intro u hu
  simp only [List.mem_cons, List.not_mem_nil, or_false] at hu
  rcases hu with rfl | rfl <;> rfl
set_option maxRecDepth 100000 in
set_option maxHeartbeats 2000000 in
theorem copyAll_any (v : Value) (l : List GObj) (w : World) (h : ObjsAt w v l) (hbd : ObjsBd l) :
    Calls Tryz.prog 12 #[v] w (CopyAllPost w l) := by
  obtain ⟨p, cap, b, o, rfl, hcap, hmax, hp, hc⟩ := h
  obtain ⟨hb1, hb2⟩ := hbd
  have HP := Lib.hid hp; clear hp
  have HC := Lib.hid hc; clear hc
  have HBD := Lib.hid hb2; clear hb2
  obtain ⟨iS, s0, s1, s2, s3⟩ := info_parts info_obj
  have HS := Lib.hid (And.intro s0 (And.intro s1 (And.intro s2 s3)))
  clear s0 s1 s2 s3
  go_enter Tryz.func12, Tryz.ntmps12
  go_wp2
  go_loopw [3, 4] (fun v3 v4 wr => ∃ (i : Nat) (us : List CT), i ≤ l.length ∧ v4 = .int .i64 i ∧ us.length = i ∧ us.map (·.o) = l.take i ∧ AllSep w.heap.size wr v3 us ∧ Below w.heap.size w wr) (fun _ v4 _ => l.length - (intOf v4).toNat)
  case atStart => exact ⟨0, [], Nat.zero_le _, rfl, rfl, rfl, ⟨World.ownsRow_nil _ _ _ _, fun u hu => (by cases hu), List.Pairwise.nil⟩, Below.refl _ _⟩
  case round =>
    obtain ⟨i, us, hi, rfl, hul, hum, hsep, hbel⟩ := hrel
    have HUL := Lib.hid hul; clear hul
    have HUM := Lib.hid hum; clear hum
    have HSEP := Lib.hid hsep; clear hsep
    have HB := Lib.hid hbel; clear hbel
    by_cases hlt : i < l.length
    · obtain rfl := HP.out (by omega)
      obtain ⟨vs, g0, g1, g2, hin⟩ := objR_keeps _ _ _ _ _ HB.out (HC.out i hlt)
      have hob := HBD.out _ (List.getElem_mem hlt)
      generalize hx : l[i] = x at g1 g2 hin hob
      have HX := Lib.hid hx; clear hx
      have HCON := Lib.hid (copy_any x vs wr hin hob)
      obtain ⟨⟨pS, capS, bS, oS, rfl, -⟩, -⟩ := hin
      obtain ⟨xn, xs⟩ := x
      simp only [] at g1 g2 HCON
      go_wp2_with fail
      refine HCON.out.mono ?_
      intro e w1 hpost
      obtain ⟨vs1, rfl, hos, ⟨ps, cs, rfl⟩, hbw⟩ := hpost.sep
      clear hpost
      simp only [] at hos ⊢
      have HOS := Lib.hid hos; clear hos
      have HBW := Lib.hid hbw; clear hbw
      have hsz := HBW.out.size
      have hsz0 := HB.out.size
      go_wp2_with (at_builtin; refine wpList_append_own_at _ rfl _ _ 23 rfl w.heap.size 47 iS _ 2 40 Tryz.underlying23 HS.out.1 HS.out.2.1 HS.out.2.2.1 HS.out.2.2.2 rfl (by decide) _ us.length (us.flatMap objCells) rfl ?c0 _ 1 1 [.string xn, .slice ps xs.length cs] rfl rfl ?c1 two_single ?c3 ?c4 ?c5 ?_)
      case c0 => exact ownsRow_below (HBW.out.alloc hsz _) HSEP.out.1
      case c1 => exact two_cells (by simp [go_sem]) (by simp [go_sem])
      case c3 => have := HUL.out; unfold maxLen; omega
      case c4 => have := HUL.out; omega
      case c5 => simp; omega
      intro v' w' hown3 hgrow3 _ hblk
      have HSEP2 := Lib.hid (AllSep.snoc HSEP.out HBW.out HOS.out hsz0 hown3 hgrow3 (by simpa using hblk))
      have HB4 : Hid (Below w.heap.size w w') := ((HB.out.trans (HBW.out.mono hsz0)).alloc (by omega) _).grown hgrow3 (by simp; omega) (fun q e => (World.ownsRow.lt HSEP.out.1 q e).1)
      clear hown3 hgrow3 hblk
      go_wp2
      go_roundw
      case rel => exact ⟨i + 1, _, by omega, by go_num, by simp [HUL.out], by rw [List.map_append, HUM.out, List.take_succ_eq_append_getElem hlt, HX.out]; rfl, HSEP2.out, HB4.out⟩
      case measure => simp [intOf]; omega
    · have hie : i = l.length := by omega
      have hum := HUM.out
      rw [hie, List.take_length] at hum
      have HUM2 := Lib.hid hum; clear hum hie
      go_wp2
      go_ret
      exact ⟨_, us, rfl, HUM2.out, HSEP.out, HB.out⟩
end Go.Proofs.YtdjgkmpjhpnkeaaGreatDoor
namespace Go.Proofs.YtdjgkmpjhpnkeaaGreatDoor
open Go.RowKit Go.Maps Go.WideMaps
set_option maxRecDepth 100000 in
set_option maxHeartbeats 2000000 in
theorem sameSym_any (s : GSym) (vr vn vr2 vn2 : Value) (w : World) (h1 : SymIn w s vr vn) (h2 : SymIn w s vr2 vn2) :
    Calls Tryz.prog 70 #[.agg #[.string s.name, .int .u8 s.bind, .int .u8 s.kind, .int .u32 s.size, .string s.bytes, vr, vn], .agg #[.string s.name, .int .u8 s.bind, .int .u8 s.kind, .int .u32 s.size, .string s.bytes, vr2, vn2]] w fun e w' => e = .returned (.bool true) ∧ Below w.heap.size w w' := by
  obtain ⟨yn, yb, yk, ys, yy, yr, yt⟩ := s
  obtain ⟨⟨p1, c1, b1, o1, rfl, hc1, hm1, hp1, hr1⟩, ⟨p2, c2, b2, o2, rfl, hc2, hm2, hp2, hr2⟩, -⟩ := h1
  obtain ⟨⟨p3, c3, b3, o3, rfl, hc3, -, hp3, hr3⟩, ⟨p4, c4, b4, o4, rfl, hc4, -, hp4, hr4⟩, -⟩ := h2
  simp only [] at *
  have HP1 := Lib.hid hp1; clear hp1
  have HP2 := Lib.hid hp2; clear hp2
  have HP3 := Lib.hid hp3; clear hp3
  have HP4 := Lib.hid hp4; clear hp4
  have HR1 := Lib.hid hr1; clear hr1
  have HR2 := Lib.hid hr2; clear hr2
  have HR3 := Lib.hid hr3; clear hr3
  have HR4 := Lib.hid hr4; clear hr4
  go_enter Tryz.func70, Tryz.ntmps70
  go_wp2
  generalize hW0 : (w.alloc (.cells #[.string yn, .int .u8 yb, .int .u8 yk, .int .u32 ys, .string yy, .slice p1 yr.length c1, .slice p2 yt.length c2] 72)).alloc (.cells #[.string yn, .int .u8 yb, .int .u8 yk, .int .u32 ys, .string yy, .slice p3 yr.length c3, .slice p4 yt.length c4] 72) = w0
  have HB0 : Hid (Below w.heap.size w w0) := by subst hW0; exact (alloc_old w _).alloc (by simp) _
  have hs0 : w.heap.size + 1 < w0.heap.size := by subst hW0; simp
  have HA5 : Hid (w0.cell? ⟨w.heap.size, 5, none⟩ = some (.slice p1 yr.length c1)) := by subst hW0; simp [Hid, go_sem]
  have HA6 : Hid (w0.cell? ⟨w.heap.size, 6, none⟩ = some (.slice p2 yt.length c2)) := by subst hW0; simp [Hid, go_sem]
  have HA7 : Hid (w0.cell? ⟨w.heap.size + 1, 5, none⟩ = some (.slice p3 yr.length c3)) := by subst hW0; simp [Hid, go_sem]
  have HA8 : Hid (w0.cell? ⟨w.heap.size + 1, 6, none⟩ = some (.slice p4 yt.length c4)) := by subst hW0; simp [Hid, go_sem]
  clear hW0
  go_loopw [5] (fun v5 wr => ∃ i : Nat, i ≤ yr.length ∧ v5 = .int .i64 i ∧ Below w0.heap.size w0 wr) (fun v5 _ => yr.length - (intOf v5).toNat)
  case atStart => exact ⟨0, Nat.zero_le _, rfl, Below.refl _ _⟩
  case round =>
    obtain ⟨i, hi, rfl, hbel⟩ := hrel
    have HB := Lib.hid hbel; clear hbel
    have HBW : Hid (Below w.heap.size w wr) := HB0.out.trans (HB.out.mono HB0.out.size)
    have a5 := cell_keep HB.out (by omega) HA5.out
    have a7 := cell_keep HB.out (by omega) HA7.out
    have z1 : w.heap.size + 1 < wr.heap.size := size_keep HB.out hs0
    have z0 : w.heap.size < wr.heap.size := by omega
    by_cases hlt : i < yr.length
    · obtain rfl := HP1.out (by omega)
      obtain rfl := HP3.out (by omega)
      obtain ⟨g0, g1, g2, g3, g4, -⟩ := relR_keeps _ _ _ _ _ HBW.out (HR1.out i hlt)
      obtain ⟨k0, k1, k2, k3, k4, -⟩ := relR_keeps _ _ _ _ _ HBW.out (HR3.out i hlt)
      generalize yr[i] = x at g1 g2 g3 g4 k1 k2 k3 k4
      obtain ⟨x1, x2, x3, x4⟩ := x
      simp only [] at g1 g2 g3 g4 k1 k2 k3 k4
      go_wp2
      go_quiet (fail)
      go_wp2
      go_roundw
      case rel => exact ⟨i + 1, by omega, by go_num, below_drewN HB.out _⟩
      case measure => simp [intOf]; omega
    · go_wp2
      clear a5 a7
      obtain ⟨wo, rfl⟩ : ∃ wo : World, wo = wr := ⟨_, rfl⟩
      go_loopw [6] (fun v6 wr => ∃ i : Nat, i ≤ yt.length ∧ v6 = .int .i64 i ∧ Below w0.heap.size w0 wr) (fun v6 _ => yt.length - (intOf v6).toNat)
      case atStart => exact ⟨0, Nat.zero_le _, rfl, HB.out⟩
      case round =>
        clear HB HBW z0 z1
        obtain ⟨k, hk, rfl, hbel⟩ := hrel
        have HB := Lib.hid hbel; clear hbel
        have HBW : Hid (Below w.heap.size w wr) := HB0.out.trans (HB.out.mono HB0.out.size)
        have a6 := cell_keep HB.out (by omega) HA6.out
        have a8 := cell_keep HB.out (by omega) HA8.out
        have z1 : w.heap.size + 1 < wr.heap.size := size_keep HB.out hs0
        have z0 : w.heap.size < wr.heap.size := by omega
        by_cases hlk : k < yt.length
        · obtain rfl := HP2.out (by omega)
          obtain rfl := HP4.out (by omega)
          obtain ⟨g0, g1, g2, g3, -⟩ := noteR_keeps _ _ _ _ _ HBW.out (HR2.out k hlk)
          obtain ⟨k0, k1, k2, k3, -⟩ := noteR_keeps _ _ _ _ _ HBW.out (HR4.out k hlk)
          generalize yt[k] = x at g1 g2 g3 k1 k2 k3
          obtain ⟨x1, x2, x3⟩ := x
          simp only [] at g1 g2 g3 k1 k2 k3
          go_wp2
          go_quiet (fail)
          go_wp2
          go_roundw
          case rel => exact ⟨k + 1, by omega, by go_num, below_drewN HB.out _⟩
          case measure => simp [intOf]; omega
        · go_wp2
          go_ret
          exact ⟨rfl, HBW.out⟩
set_option maxRecDepth 100000 in
set_option maxHeartbeats 2000000 in
theorem sameObj_any (x : GObj) (vs vs2 : Value) (w : World) (h1 : ObjIn w x vs) (h2 : ObjIn w x vs2) :
    Calls Tryz.prog 19 #[.agg #[.string x.name, vs], .agg #[.string x.name, vs2]] w fun e w' => e = .returned (.bool true) ∧ Below w.heap.size w w' := by
  obtain ⟨xn, xs⟩ := x
  obtain ⟨⟨p1, c1, b1, o1, rfl, hc1, hm1, hp1, hr1⟩, -⟩ := h1
  obtain ⟨⟨p3, c3, b3, o3, rfl, hc3, -, hp3, hr3⟩, -⟩ := h2
  simp only [] at *
  have HP1 := Lib.hid hp1; clear hp1
  have HP3 := Lib.hid hp3; clear hp3
  have HR1 := Lib.hid hr1; clear hr1
  have HR3 := Lib.hid hr3; clear hr3
  go_enter Tryz.func19, Tryz.ntmps19
  go_wp2
  generalize hW0 : (w.alloc (.cells #[.string xn, .slice p1 xs.length c1] 47)).alloc (.cells #[.string xn, .slice p3 xs.length c3] 47) = w0
  have HB0 : Hid (Below w.heap.size w w0) := by subst hW0; exact (alloc_old w _).alloc (by simp) _
  have hs0 : w.heap.size + 1 < w0.heap.size := by subst hW0; simp
  have HA5 : Hid (w0.cell? ⟨w.heap.size, 1, none⟩ = some (.slice p1 xs.length c1)) := by subst hW0; simp [Hid, go_sem]
  have HA7 : Hid (w0.cell? ⟨w.heap.size + 1, 1, none⟩ = some (.slice p3 xs.length c3)) := by subst hW0; simp [Hid, go_sem]
  clear hW0
  go_loopw [5] (fun v5 wr => ∃ i : Nat, i ≤ xs.length ∧ v5 = .int .i64 i ∧ Below w0.heap.size w0 wr) (fun v5 _ => xs.length - (intOf v5).toNat)
  case atStart => exact ⟨0, Nat.zero_le _, rfl, Below.refl _ _⟩
  case round =>
    obtain ⟨i, hi, rfl, hbel⟩ := hrel
    have HB := Lib.hid hbel; clear hbel
    have HBW : Hid (Below w.heap.size w wr) := HB0.out.trans (HB.out.mono HB0.out.size)
    have a5 := cell_keep HB.out (by omega) HA5.out
    have a7 := cell_keep HB.out (by omega) HA7.out
    have z1 : w.heap.size + 1 < wr.heap.size := size_keep HB.out hs0
    have z0 : w.heap.size < wr.heap.size := by omega
    by_cases hlt : i < xs.length
    · obtain rfl := HP1.out (by omega)
      obtain rfl := HP3.out (by omega)
      obtain ⟨vr, vn, g0, g1, g2, g3, g4, g5, g6, g7, gin⟩ := symR_keeps _ _ _ _ _ HBW.out (HR1.out i hlt)
      obtain ⟨ur, un, k0, k1, k2, k3, k4, k5, k6, k7, kin⟩ := symR_keeps _ _ _ _ _ HBW.out (HR3.out i hlt)
      obtain ⟨q1, n1, q2, n2, rfl, rfl⟩ := gin.shape
      obtain ⟨q3, n3, q4, n4, rfl, rfl⟩ := kin.shape
      generalize xs[i] = x at g1 g2 g3 g4 g5 g6 g7 k1 k2 k3 k4 k5 k6 k7 gin kin
      have HCS := Lib.hid (sameSym_any x _ _ _ _ wr.drew (SymIn.keep (Below.refl _ _).drew gin) (SymIn.keep (Below.refl _ _).drew kin))
      clear gin kin
      obtain ⟨x1, x2, x3, x4, x5, x6, x7⟩ := x
      simp only [] at g1 g2 g3 g4 g5 g6 g7 k1 k2 k3 k4 k5 k6 k7 HCS
      go_wp2
      go_still_tail 10, (by kernel_rfl)
      change wpList _ _ _ _ _ wr.drew
      go_wp2_with (go_at_call 70; refine HCS.out.mono ?_; rintro e w2 ⟨rfl, hB2⟩)
      exact ⟨⟨i + 1, by omega, by go_num, HB.out.drew.trans (hB2.mono HB.out.size)⟩, by simp [intOf]; omega⟩
    · go_wp2
      go_ret
      exact ⟨rfl, HBW.out⟩
end Go.Proofs.YtdjgkmpjhpnkeaaGreatDoor
