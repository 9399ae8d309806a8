/- The walk of aediculeref08.Copy. -/
import Derived.Test.YtfmmfbijkklceaaDoorRowCells
import Derived.Test.YtfmmfbijkklceaaDoorOpen
import Derived.Test.YtfmmfbijkklceaaDoorRow0
import Derived.Maps.AppendAt
import Derived.Lib.Hide
namespace Go.Proofs.YtfmmfbijkklceaaDoor
open Go.RowKit Go.Maps Go.WideMaps
/-- a copied symbol: its two rows are its own, and lie apart from the row r -/
def SymOwn (base : Nat) (w : World) (r : Value) (t : SymT) : Prop :=
  w.ownsRow base 49 4 t.2.1 t.1.rels.length (t.1.rels.flatMap relCells) ∧ w.ownsRow base 64 3 t.2.2 t.1.notes.length (t.1.notes.flatMap noteCells) ∧
  (t.2.1.ownBlock = none ∨ t.2.1.ownBlock ≠ r.ownBlock) ∧ (t.2.2.ownBlock = none ∨ t.2.2.ownBlock ≠ r.ownBlock)
theorem SymOwn.keep {base : Nat} {w w' : World} {r : Value} {t : SymT} (hb : Below w.heap.size w w') (h : SymOwn base w r t) : SymOwn base w' r t := ⟨ownsRow_below hb h.1, ownsRow_below hb h.2.1, h.2.2⟩
theorem SymOwn.grown {base : Nat} {w w' : World} {r r' : Value} {t : SymT} (h : SymOwn base w r t) (hg : w.grownBy w' r.ownBlock) (hr : r'.ownBlock = r.ownBlock ∨ r'.ownBlock = some w.heap.size) : SymOwn base w' r' t := by
  obtain ⟨h1, h2, h3, h4⟩ := h
  refine ⟨h1.kept hg h3, h2.kept hg h4, ?_, ?_⟩
  · rcases hr with hr | hr
    · rw [hr]; exact h3
    · by_cases h5 : t.2.1.ownBlock = none
      · exact .inl h5
      · obtain ⟨k, hk⟩ := Option.ne_none_iff_exists'.1 h5
        have := (h1.lt k hk).2
        refine .inr ?_
        rw [hr, hk]; intro h; cases h; omega
  · rcases hr with hr | hr
    · rw [hr]; exact h4
    · by_cases h5 : t.2.2.ownBlock = none
      · exact .inl h5
      · obtain ⟨k, hk⟩ := Option.ne_none_iff_exists'.1 h5
        have := (h2.lt k hk).2
        refine .inr ?_
        rw [hr, hk]; intro h; cases h; omega
theorem info_rel : (Tryd.prog.info? 49).map (fun i => (i.zero, i.size, i.bytes)) = some (some (.agg #[.int .u32 0, .int .u8 0, .string ⟨#[]⟩, .int .u32 0]), 4, 32) := by kernel_rfl
theorem info_note : (Tryd.prog.info? 64).map (fun i => (i.zero, i.size, i.bytes)) = some (some (.agg #[.int .u8 0, .int .u32 0, .int .u32 0]), 3, 12) := by kernel_rfl
theorem info_sym : (Tryd.prog.info? 47).map (fun i => (i.zero, i.size, i.bytes)) = some (some (.agg #[.string ⟨#[]⟩, .int .u8 0, .int .u8 0, .int .u32 0, .string ⟨#[]⟩, .slice none 0 0, .slice none 0 0]), 7, 88) := by kernel_rfl
theorem info_obj : (Tryd.prog.info? 24).map (fun i => (i.zero, i.size, i.bytes)) = some (some (.agg #[.string ⟨#[]⟩, .slice none 0 0]), 2, 40) := by kernel_rfl
theorem owns_setCell {w : World} {base : Nat} {e : TypeId} {k : Nat} {v : Value} {n : Nat} {xs : List Value} (h : w.ownsRow base e k v n xs) {a : Addr} (ha : a.block < base) (u : Value) : (w.setCell a u).ownsRow base e k v n xs := by
  refine ⟨h.1, ?_⟩
  rcases h.2 with hn | ⟨g, cap, cur, rfl, hb, hg, rest⟩
  · exact .inl hn
  · exact .inr ⟨g, cap, cur, rfl, hb, by rw [Below.heap_setCell w a u g (by omega)]; exact hg, rest⟩
theorem owns_mono {w : World} {base base' : Nat} {e : TypeId} {k : Nat} {v : Value} {n : Nat} {xs : List Value} (h : w.ownsRow base e k v n xs) (hb : base' ≤ base) : w.ownsRow base' e k v n xs := by
  refine ⟨h.1, ?_⟩
  rcases h.2 with hn | ⟨g, cap, cur, rfl, hg, rest⟩
  · exact .inl hn
  · exact .inr ⟨g, cap, cur, rfl, by omega, rest⟩
theorem own_away {w w' : World} {base base' : Nat} {e e' : TypeId} {k k' : Nat} {v v' : Value} {n n' : Nat} {xs xs' : List Value} (h : w.ownsRow base e k v n xs) (h' : w'.ownsRow base' e' k' v' n' xs') (hb : w'.heap.size ≤ base) : v.ownBlock = none ∨ v.ownBlock ≠ v'.ownBlock := by
  cases hv : v.ownBlock with
  | none => exact .inl rfl
  | some g =>
    refine .inr fun h1 => ?_
    have h2 := (h.lt g hv).1
    have h3 := (h'.lt g h1.symm).2
    omega
theorem own_shape {w : World} {base : Nat} {e : TypeId} {k : Nat} {v : Value} {n : Nat} {xs : List Value} (h : w.ownsRow base e k v n xs) : ∃ p c, v = .slice p n c := by
  rcases h.2 with ⟨rfl, rfl⟩ | ⟨g, cap, cur, rfl, -⟩
  · exact ⟨_, _, rfl⟩
  · exact ⟨_, _, rfl⟩
theorem seven_news {w : World} {g : Nat} {t : SymT} (h : ∀ j u, j < 7 → (symCells t)[j]? = some u → w.cell? ⟨g, j, none⟩ = some u) : ∀ j u, (symCells t)[j]? = some u → w.cell? ((⟨g, 0, none⟩ : Addr).add j) = some u := by
  intro j u hu
  have hj : j < 7 := (List.getElem?_eq_some_iff.1 hu).1
  rw [add_at, Nat.zero_add]
  exact h j u hj hu
theorem seven_one {t : SymT} {p1 p2 : Option Addr} {n1 c1 n2 c2 : Nat} (h1 : t.2.1 = .slice p1 n1 c1) (h2 : t.2.2 = .slice p2 n2 c2) : ∀ u ∈ symCells t, u.oneCell' = true := by
  intro u hu
  simp only [symCells, List.mem_cons, List.not_mem_nil, or_false, h1, h2] at hu
  rcases hu with rfl | rfl | rfl | rfl | rfl | rfl | rfl <;> rfl
def CopyPost (w : World) (x : GObj) (e : Ending) (w' : World) : Prop := ∃ (vs : Value) (ts : List SymT), e = .returned (.agg #[.string x.name, vs]) ∧ ts.map (·.1) = x.syms ∧ w'.ownsRow w.heap.size 47 7 vs ts.length (ts.flatMap symCells) ∧ (∀ t ∈ ts, SymOwn w.heap.size w' vs t) ∧ Below w.heap.size w w'
set_option maxRecDepth 100000 in
set_option maxHeartbeats 2000000 in
theorem copy_any (x : GObj) (vs : Value) (w : World) (h : ObjIn w x vs) (hbd : ObjBd x) :
    Calls Tryd.prog 8 #[.agg #[.string x.name, vs]] w (CopyPost w x) := by
  obtain ⟨xn, xs⟩ := x
  obtain ⟨⟨p, cap, b, o, rfl, hcap, hmax, hp, hc⟩, hnm⟩ := h
  obtain ⟨hb1, hb2⟩ := hbd
  simp only [] at *
  have HP := Lib.hid hp; clear hp
  have HC := Lib.hid hc; clear hc
  have HBD := Lib.hid hb2; clear hb2
  obtain ⟨iR, r0, r1, r2, r3⟩ := info_parts info_rel
  obtain ⟨iN, n0, n1, n2, n3⟩ := info_parts info_note
  obtain ⟨iS, s0, s1, s2, s3⟩ := info_parts info_sym
  have HR := Lib.hid (And.intro r0 (And.intro r1 (And.intro r2 r3)))
  have HN := Lib.hid (And.intro n0 (And.intro n1 (And.intro n2 n3)))
  have HS := Lib.hid (And.intro s0 (And.intro s1 (And.intro s2 s3)))
  clear r0 r1 r2 r3 n0 n1 n2 n3 s0 s1 s2 s3
  go_enter Tryd.func8, Tryd.ntmps8
  go_wp2
  generalize hW0 : (w.alloc (.cells #[.string xn, .slice p xs.length cap] 24)).alloc (.cells #[.string ⟨#[]⟩, .slice none 0 0] 24) = w0
  have HB0 : Hid (Below w.heap.size w w0) := by subst hW0; exact (alloc_old w _).alloc (by simp) _
  have hs0 : w.heap.size + 1 < w0.heap.size := by subst hW0; simp
  have HA0 : Hid (w0.cell? ⟨w.heap.size, 0, none⟩ = some (.string xn)) := by subst hW0; simp [Hid, go_sem]
  have HA1 : Hid (w0.cell? ⟨w.heap.size, 1, none⟩ = some (.slice p xs.length cap)) := by subst hW0; simp [Hid, go_sem]
  have HA2 : Hid (w0.cell? ⟨w.heap.size + 1, 0, none⟩ = some (.string ⟨#[]⟩)) := by subst hW0; simp [Hid, go_sem]
  have HA3 : Hid (w0.cell? ⟨w.heap.size + 1, 1, none⟩ = some (.slice none 0 0)) := by subst hW0; simp [Hid, go_sem]
  have HF1 : Hid (w0.frozen? ⟨w.heap.size, 1, none⟩ = false) := by subst hW0; simp [Hid, go_sem]
  have HF2 : Hid (w0.frozen? ⟨w.heap.size + 1, 0, none⟩ = false) := by subst hW0; simp [Hid, go_sem]
  have HF3 : Hid (w0.frozen? ⟨w.heap.size + 1, 1, none⟩ = false) := by subst hW0; simp [Hid, go_sem]
  clear hW0
  go_loopw [3, 4] (fun v3 v4 wr => ∃ (i : Nat) (ts : List SymT), i ≤ xs.length ∧ v4 = .int .i64 i ∧ ts.length = i ∧ ts.map (·.1) = xs.take i ∧ wr.ownsRow w0.heap.size 47 7 v3 i (ts.flatMap symCells) ∧ (∀ t ∈ ts, SymOwn w0.heap.size wr v3 t) ∧ Below w0.heap.size w0 wr) (fun _ v4 _ => xs.length - (intOf v4).toNat)
  case atStart => exact ⟨0, [], Nat.zero_le _, rfl, rfl, rfl, World.ownsRow_nil _ _ _ _, fun t ht => (by cases ht), Below.refl _ _⟩
  case round =>
    obtain ⟨i, ts, hi, rfl, htl, htm, hown, hsy, hbel⟩ := hrel
    have HTM := Lib.hid htm; clear htm
    have HOWN := Lib.hid hown; clear hown
    have HSY := Lib.hid hsy; clear hsy
    have HB := Lib.hid hbel; clear hbel
    have HBW : Hid (Below w.heap.size w wr) := HB0.out.trans (HB.out.mono HB0.out.size)
    have a0 := cell_keep HB.out (by omega) HA0.out
    have a1 := cell_keep HB.out (by omega) HA1.out
    have z1 : w.heap.size + 1 < wr.heap.size := size_keep HB.out hs0
    have z0 : w.heap.size < wr.heap.size := by omega
    by_cases hlt : i < xs.length
    · obtain rfl := HP.out (by omega)
      obtain ⟨vr, vn, g0, g1, g2, g3, g4, g5, g6, g7, hin⟩ := symR_keeps _ _ _ _ _ HBW.out (HC.out i hlt)
      obtain ⟨p1, q1, p2, q2, rfl, rfl⟩ := hin.shape
      generalize hy : xs[i] = y at g1 g2 g3 g4 g5 g6 g7 hin
      obtain ⟨yn, yb, yk, ys, yy, yr, yt⟩ := y
      simp only [] at g1 g2 g3 g4 g5 g6 g7 hin
      have HY := Lib.hid hy; clear hy
      have HIN := Lib.hid hin; clear hin
      obtain ⟨⟨_, _, bR, oR, eR, _, mR, pR, cR⟩, ⟨_, _, bN, oN, eN, _, mN, pN, cN⟩, hrest⟩ := HIN.out
      cases eR
      cases eN
      have hbb := HBD.out _ (List.getElem_mem hlt)
      rw [HY.out] at hbb
      obtain ⟨bb1, bb2⟩ := hbb
      simp only [] at bb1 bb2 mR mN pR pN cR cN
      have PR := Lib.hid pR; clear pR
      have PN := Lib.hid pN; clear pN
      have CR := Lib.hid cR; clear cR
      have CN := Lib.hid cN; clear cN
      have HRS := Lib.hid hrest; clear hrest
      go_wp2_with (at_builtin; refine wpList_copy rfl _ _ 44 rfl 49 iR _ 4 32 Tryd.underlying44 HR.out.1 HR.out.2.1 HR.out.2.2.1 HR.out.2.2.2 rfl (by decide) rfl p1 yr.length q1 bR oR (yr.flatMap relCells) rfl PR.out (flat_len relCells_len yr) ?c2 relCells_one mR (by omega) ?_)
      case c2 =>
        intro _ j u hu
        have h1 := rel_news (fun k hk => relR_keeps _ _ _ _ _ (alloc_old wr (.cells #[.string yn, .int .u8 yb, .int .u8 yk, .int .u32 ys, .string yy, .slice p1 yr.length q1, .slice p2 yt.length q2] 47)) (CR.out k hk)) j u hu
        rwa [add_at] at h1
      intro vR wR hoR hgR
      obtain ⟨pr, cr, rfl⟩ := own_shape hoR
      have HOR := Lib.hid hoR; clear hoR
      have HBR : Hid (Below (wr.heap.size + 1) (wr.alloc (.cells #[.string yn, .int .u8 yb, .int .u8 yk, .int .u32 ys, .string yy, .slice p1 yr.length q1, .slice p2 yt.length q2] 47)) wR) := (Below.refl _ _).grown hgR (by simp) (fun k hk => by cases hk)
      clear hgR
      have k0 : wR.cell? ⟨wr.heap.size, 0, none⟩ = some (.string yn) := by rw [HBR.out.cell (by simp)]; simp [go_sem]
      have k1 : wR.cell? ⟨wr.heap.size, 1, none⟩ = some (.int .u8 yb) := by rw [HBR.out.cell (by simp)]; simp [go_sem]
      have k2 : wR.cell? ⟨wr.heap.size, 2, none⟩ = some (.int .u8 yk) := by rw [HBR.out.cell (by simp)]; simp [go_sem]
      have k3 : wR.cell? ⟨wr.heap.size, 3, none⟩ = some (.int .u32 ys) := by rw [HBR.out.cell (by simp)]; simp [go_sem]
      have k4 : wR.cell? ⟨wr.heap.size, 4, none⟩ = some (.string yy) := by rw [HBR.out.cell (by simp)]; simp [go_sem]
      have k5 : wR.cell? ⟨wr.heap.size, 5, none⟩ = some (.slice p1 yr.length q1) := by rw [HBR.out.cell (by simp)]; simp [go_sem]
      have k6 : wR.cell? ⟨wr.heap.size, 6, none⟩ = some (.slice p2 yt.length q2) := by rw [HBR.out.cell (by simp)]; simp [go_sem]
      have zR : wr.heap.size < wR.heap.size := by have := HBR.out.size; (try simp at this); omega
      have HBRW : Hid (Below wr.heap.size wr wR) := (alloc_old wr _).trans (HBR.out.mono (by omega))
      obtain ⟨hcR, hfR⟩ := bcell HBR.out
      clear g0 g1 g2 g3 g4 g5 g6 g7 a0 a1
      go_wp2_with (at_builtin; refine wpList_copy rfl _ _ 45 rfl 64 iN _ 3 12 Tryd.underlying45 HN.out.1 HN.out.2.1 HN.out.2.2.1 HN.out.2.2.2 rfl (by decide) rfl p2 yt.length q2 bN oN (yt.flatMap noteCells) rfl PN.out (flat_len noteCells_len yt) ?c2 noteCells_one mN (by omega) ?_)
      case c2 =>
        intro _ j u hu
        have h1 := note_news (fun k hk => noteR_keeps _ _ _ _ _ (show Below wr.heap.size wr (wR.setCell ⟨wr.heap.size, 5, none⟩ (.slice pr yr.length cr)) from HBRW.out.setCell (by simp) _) (CN.out k hk)) j u hu
        exact h1
      intro vN wN hoN hgN
      obtain ⟨pn, cn, rfl⟩ := own_shape hoN
      have HON := Lib.hid hoN; clear hoN
      have HBN : Hid (Below wR.heap.size (wR.setCell ⟨wr.heap.size, 5, none⟩ (.slice pr yr.length cr)) wN) := (Below.refl _ _).grown hgN (by simp) (fun k hk => by cases hk)
      clear hgN hcR hfR
      obtain ⟨hcN, hfN⟩ := bcell HBN.out
      obtain ⟨hcR, hfR⟩ := bcell HBR.out
      have zN : wr.heap.size < wN.heap.size := by have := HBN.out.size; (try simp at this); omega
      have m0 : wN.cell? ⟨wr.heap.size, 0, none⟩ = some (.string yn) := by rw [HBN.out.cell zR]; simp [go_sem, *]
      have m1 : wN.cell? ⟨wr.heap.size, 1, none⟩ = some (.int .u8 yb) := by rw [HBN.out.cell zR]; simp [go_sem, *]
      have m2 : wN.cell? ⟨wr.heap.size, 2, none⟩ = some (.int .u8 yk) := by rw [HBN.out.cell zR]; simp [go_sem, *]
      have m3 : wN.cell? ⟨wr.heap.size, 3, none⟩ = some (.int .u32 ys) := by rw [HBN.out.cell zR]; simp [go_sem, *]
      have m4 : wN.cell? ⟨wr.heap.size, 4, none⟩ = some (.string yy) := by rw [HBN.out.cell zR]; simp [go_sem, *]
      have m5 : wN.cell? ⟨wr.heap.size, 5, none⟩ = some (.slice pr yr.length cr) := by rw [HBN.out.cell zR]; simp [go_sem, *]
      have m6 : wN.cell? ⟨wr.heap.size, 6, none⟩ = some (.slice p2 yt.length q2) := by rw [HBN.out.cell zR]; simp [go_sem, *]
      clear k0 k1 k2 k3 k4 k5 k6
      have HBNW : Hid (Below wr.heap.size wr wN) := (HBRW.out.setCell (by simp) _).trans (HBN.out.mono (by omega))
      go_wp2_with (at_builtin; refine wpList_append_own_at _ rfl _ _ 22 rfl w0.heap.size 47 iS _ 7 88 Tryd.underlying22 HS.out.1 HS.out.2.1 HS.out.2.2.1 HS.out.2.2.2 rfl (by decide) _ i (ts.flatMap symCells) rfl ?c0 _ 1 1 (symCells (⟨yn, yb, yk, ys, yy, yr, yt⟩, .slice pr yr.length cr, .slice pn yt.length cn)) rfl rfl ?c1 (seven_one rfl rfl) ?c3 ?c4 ?c5 ?_)
      case c0 => exact ownsRow_below ((HBNW.out.setCell (by simp) _).alloc (by have := HBNW.out.size; simp; omega) _) HOWN.out
      case c1 =>
        refine seven_news fun j u hj hu => ?_
        match j, hu with
        | 0, hu => cases hu; simp [go_sem]
        | 1, hu => cases hu; simp [go_sem]
        | 2, hu => cases hu; simp [go_sem]
        | 3, hu => cases hu; simp [go_sem]
        | 4, hu => cases hu; simp [go_sem]
        | 5, hu => cases hu; simp [go_sem]
        | 6, hu => cases hu; simp [go_sem]
      case c3 => unfold maxLen; omega
      case c4 => omega
      case c5 => have := HB.out.size; have := HBNW.out.size; simp; omega
      intro v' w' hown3 hgrow3 _ hblk
      have q1 := HB.out.size
      have q2 := HBNW.out.size
      have hor := ownsRow_below (alloc_old _ (.cells #[.string yn, .int .u8 yb, .int .u8 yk, .int .u32 ys, .string yy, .slice pr yr.length cr, .slice pn yt.length cn] 47)) (owns_setCell (ownsRow_below (show Below (wR.setCell ⟨wr.heap.size, 5, none⟩ (.slice pr yr.length cr)).heap.size _ wN by simpa using HBN.out) (owns_setCell HOR.out (a := ⟨wr.heap.size, 5, none⟩) (by simp) (.slice pr yr.length cr))) (a := ⟨wr.heap.size, 6, none⟩) (by simp) (.slice pn yt.length cn))
      have hon := ownsRow_below (alloc_old _ (.cells #[.string yn, .int .u8 yb, .int .u8 yk, .int .u32 ys, .string yy, .slice pr yr.length cr, .slice pn yt.length cn] 47)) (owns_setCell HON.out (a := ⟨wr.heap.size, 6, none⟩) (by simpa using zR) (.slice pn yt.length cn))
      have HNEW : Hid (SymOwn w0.heap.size _ _ (⟨yn, yb, yk, ys, yy, yr, yt⟩, .slice pr yr.length cr, .slice pn yt.length cn)) := ⟨owns_mono hor (by omega), owns_mono hon (by omega), own_away hor HOWN.out (by omega), own_away hon HOWN.out (by omega)⟩
      clear hor hon
      have HBK := Lib.hid ((show Below wr.heap.size wr (wN.setCell ⟨wr.heap.size, 6, none⟩ (.slice pn yt.length cn)) from HBNW.out.setCell (by simp) _).alloc (by simpa using q2) (.cells #[.string yn, .int .u8 yb, .int .u8 yk, .int .u32 ys, .string yy, .slice pr yr.length cr, .slice pn yt.length cn] 47))
      have HALL : Hid (∀ t ∈ ts ++ [(⟨yn, yb, yk, ys, yy, yr, yt⟩, .slice pr yr.length cr, .slice pn yt.length cn)], SymOwn w0.heap.size w' v' t) := fun t ht => by
        rcases List.mem_append.1 ht with ht | ht
        · exact (SymOwn.keep HBK.out (HSY.out t ht)).grown hgrow3 (by simpa using hblk)
        · obtain rfl : t = _ := by simpa using ht
          exact HNEW.out.grown hgrow3 (by simpa using hblk)
      have HB4 : Hid (Below w0.heap.size w0 w') := (HB.out.trans (HBK.out.mono q1)).grown hgrow3 (by simp; omega) (fun q e => (World.ownsRow.lt HOWN.out q e).1)
      have HO4 := Lib.hid hown3; clear hown3 hgrow3 hblk
      go_wp2
      go_roundw
      case rel => exact ⟨i + 1, _, by omega, by go_num, by simp [htl], by rw [List.map_append, HTM.out, List.take_succ_eq_append_getElem hlt, HY.out]; rfl, by simpa using HO4.out, HALL.out, HB4.out⟩
      case measure => simp [intOf]; omega
    · have a2 := cell_keep HB.out (by omega) HA2.out
      have a3 := cell_keep HB.out (by omega) HA3.out
      have f1 : wr.frozen? ⟨w.heap.size, 1, none⟩ = false := by rw [HB.out.frozen (by simp; omega)]; exact HF1.out
      have f2 : wr.frozen? ⟨w.heap.size + 1, 0, none⟩ = false := by rw [HB.out.frozen (by simp; omega)]; exact HF2.out
      have f3 : wr.frozen? ⟨w.heap.size + 1, 1, none⟩ = false := by rw [HB.out.frozen (by simp; omega)]; exact HF3.out
      obtain ⟨pv, cv, rfl⟩ := own_shape HOWN.out
      go_wp2
      have hie : i = xs.length := by omega
      have hset : ∀ (W : World) (k : Nat) (v : Value) (n : Nat) (e : TypeId) (cs : List Value), W.ownsRow w0.heap.size e k v n cs → (((W.setCell ⟨w.heap.size, 1, none⟩ (.slice pv i cv)).setCell ⟨w.heap.size + 1, 0, none⟩ (.string xn)).setCell ⟨w.heap.size + 1, 1, none⟩ (.slice pv i cv)).ownsRow w.heap.size e k v n cs := fun W k v n e cs ho =>
        owns_mono (owns_setCell (owns_setCell (owns_setCell ho (by simp; omega) _) (by simp; omega) _) (by simp; omega) _) (by omega)
      refine bodyPost_ret (v := .agg #[.string xn, .slice pv i cv]) (by simp [results, Tryd.results8, go_sem, *]) rfl ⟨_, ts, rfl, by rw [HTM.out, hie]; simp, by rw [htl]; exact hset _ _ _ _ _ _ HOWN.out, fun t ht => ?_, ?_⟩
      · obtain ⟨h1, h2, h3, h4⟩ := HSY.out t ht
        exact ⟨hset _ _ _ _ _ _ h1, hset _ _ _ _ _ _ h2, h3, h4⟩
      · exact ((HBW.out.setCell (by simp) _).setCell (by simp) _).setCell (by simp) _
end Go.Proofs.YtfmmfbijkklceaaDoor
