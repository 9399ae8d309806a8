/- The walk of resolve.Find. Rows of places that a call makes, and rows of places as they are read. The walk of resolve.Refs. A block that holds a row of bytes: its cells, and what a copy of a string into it makes of it. Filling a symbol's places (layer 15), in plain words. No program in sight. The walk of obj.Sym. The walks of word.text and word.Put. -/
import Derived.Test.YtdjgkmpjhpnkeaaGreatDoorBd07
import Derived.Test.YtdjgkmpjhpnkeaaGreatDoorBd06
import Derived.Test.YtdjgkmpjhpnkeaaGreatDoorRows
import Derived.Test.YtdjgkmpjhpnkeaaGreatDoorBd03
import Derived.Test.YtdjgkmpjhpnkeaaGreatDoorBd02
import Derived.Maps.AppendAt
import Derived.Test.YtdjgkmpjhpnkeaaGreatDoorBd05
import Derived.Test.YtdjgkmpjhpnkeaaGreatDoorBd04
import Derived.Lib.BufferWrite
import Derived.Lib.Hide
import Derived.WalkSmall
import Derived.Laws.IdiomStrings
import Derived.Outline
namespace Go.Proofs.YtdjgkmpjhpnkeaaGreatDoor
open Go.RowKit Go.Maps Go.WideMaps
def findV (r : (Nat × Nat) × Int) : Value := .tuple #[.agg #[.int .i64 r.1.1, .int .i64 r.1.2], .int .i64 r.2]
set_option maxHeartbeats 1000000 in
theorem resFind_any (v : Value) (l : List GObj) (i : Int) (nm : ByteArray) (w : World) (h : ObjsAt w v l) (hn : nm.size ≤ 9223372036854775807) :
    Calls Tryz.prog 55 #[v, .int .i64 i, .string nm] w fun e w' => e = .returned (findV (findAll l i nm.data.toList)) ∧ Below w.heap.size w w' := by
  have HO := Lib.hid h
  have HBG := Lib.hid (begin_any v l (w.alloc (.cells #[.int .i64 0, .int .i64 0] 63)) (ObjsAt.keep (alloc_old w _) h))
  have hsh : ∃ (p : Option Addr) (cap : Nat), v = .slice p l.length cap := by obtain ⟨p, cap, b, o, rfl, _⟩ := h; exact ⟨p, cap, rfl⟩
  obtain ⟨p, cap, rfl⟩ := hsh
  clear h
  have HFA := Lib.hid (show findAll l i nm.data.toList = _ from rfl)
  go_enter Tryz.func55, Tryz.ntmps55
  go_wp2_with fail
  refine HBG.out.mono ?_
  rintro e w1 ⟨hcase, hB⟩
  obtain ⟨hc1, hf1⟩ := bcell hB
  have hz : w.heap.size < w1.heap.size := by have := hB.size; (try simp at this); omega
  have HBW := Lib.hid ((alloc_old w (.cells #[.int .i64 0, .int .i64 0] 63)).trans (hB.mono (by simp)))
  have q0 : w1.cell? ⟨w.heap.size, 0, none⟩ = some (.int .i64 0) := by rw [hB.cell (by simp)]; simp [go_sem]
  have q1 : w1.cell? ⟨w.heap.size, 1, none⟩ = some (.int .i64 0) := by rw [hB.cell (by simp)]; simp [go_sem]
  rcases hcase with ⟨c, hb2, hc0, rfl⟩ | ⟨hb2, hb1, rb, rfl, hres⟩
  · have hcb : (c != 0) = true := by simpa using hc0
    have HF : Hid (findAll l i nm.data.toList = ((0, 0), c)) := by unfold findAll; rw [hb2, if_pos hc0]; rfl
    clear hb2
    generalize (beginR l).1 = bn
    go_wp2_with fail
    rw [HF.out]
    refine bodyPost_ret (v := .tuple #[.agg #[.int .i64 0, .int .i64 0], .int .i64 c]) (by simp [results, Tryz.results55, go_sem, q0, q1]) rfl ⟨rfl, ?_⟩
    exact (HBW.out.setCell (by simp) _).setCell (by simp) _
  · have HB2 := Lib.hid hb2; clear hb2 hb1
    have HR := Lib.hid hres; clear hres
    by_cases hr : i < -1 ∨ (l.length : Int) ≤ i
    · have HF : Hid (findAll l i nm.data.toList = ((0, 0), 2)) := by unfold findAll; rw [HB2.out, if_neg (by simp), if_pos hr]; rfl
      go_wp2_with fail
      all_goals
        rw [HF.out]
        refine bodyPost_ret (v := .tuple #[.agg #[.int .i64 0, .int .i64 0], .int .i64 2]) (by simp [results, Tryz.results55, go_sem, q0, q1]) rfl ⟨rfl, ?_⟩
        exact (HBW.out.setCell (by simp) _).setCell (by simp) _
    · have hr1 : ¬ i < -1 := fun h => hr (.inl h)
      have hr2 : ¬ (l.length : Int) ≤ i := fun h => hr (.inr h)
      have HF : Hid (findAll l i nm.data.toList = match findR l i nm.data.toList with | some p => (p, 0) | none => ((0, 0), 121)) := by unfold findAll; rw [HB2.out, if_neg (by simp), if_neg hr]; rfl
      have HCON : Hid (Calls Tryz.prog 144 #[.pointer (some ⟨rb, 0, none⟩), .int .i64 i, .string nm] w1 fun e w' => e = .returned (placeRet (findR l i nm.data.toList)) ∧ Below w1.heap.size w1 w') := by
        by_cases hi0 : i < 0
        · have hf : findR l i nm.data.toList = winnerIn (flat l) nm.data.toList := by unfold findR; rw [if_neg (by omega)]
          rw [hf]
          exact findNeg rb _ l i nm w1 HR.out hn hi0
        · obtain ⟨j, rfl⟩ := Int.eq_ofNat_of_zero_le (show 0 ≤ i by omega)
          exact findPos rb _ l j nm w1 HR.out (ObjsAt.keep HBW.out HO.out) hn (by omega)
      generalize findR l i nm.data.toList = fr at HF HCON
      cases fr with
      | none =>
        simp only [placeRet] at HCON
        go_wp2_with (go_at_call 144; refine HCON.out.mono ?_; rintro e w2 ⟨rfl, hB2⟩; obtain ⟨hc2, hf2⟩ := bcell hB2; have hz2 : w.heap.size < w2.heap.size := (by have := hB2.size; omega))
        have q0' : w2.cell? ⟨w.heap.size, 0, none⟩ = some (.int .i64 0) := cell_keep hB2 hz q0
        have q1' : w2.cell? ⟨w.heap.size, 1, none⟩ = some (.int .i64 0) := cell_keep hB2 hz q1
        rw [HF.out]
        refine bodyPost_ret (v := .tuple #[.agg #[.int .i64 0, .int .i64 0], .int .i64 121]) (by simp [results, Tryz.results55, go_sem, q0', q1', hz2]) rfl ⟨rfl, ?_⟩
        have hfin : Below w.heap.size w w2 := HBW.out.trans (hB2.mono HBW.out.size)
        exact ((hfin.setCell (by simp) _).setCell (by simp) _).alloc (by simp; omega) _
      | some pq =>
        obtain ⟨pi, pk⟩ := pq
        simp only [placeRet] at HCON
        go_wp2_with (go_at_call 144; refine HCON.out.mono ?_; rintro e w2 ⟨rfl, hB2⟩; obtain ⟨hc2, hf2⟩ := bcell hB2; have hz2 : w.heap.size < w2.heap.size := (by have := hB2.size; omega))
        have q0' : w2.cell? ⟨w.heap.size, 0, none⟩ = some (.int .i64 0) := cell_keep hB2 hz q0
        have q1' : w2.cell? ⟨w.heap.size, 1, none⟩ = some (.int .i64 0) := cell_keep hB2 hz q1
        rw [HF.out]
        refine bodyPost_ret (v := .tuple #[.agg #[.int .i64 (pi : Nat), .int .i64 (pk : Nat)], .int .i64 0]) (by simp [results, Tryz.results55, go_sem, q0', q1', hz2]) rfl ⟨rfl, ?_⟩
        have hfin : Below w.heap.size w w2 := HBW.out.trans (hB2.mono HBW.out.size)
        exact ((hfin.setCell (by simp) _).setCell (by simp) _).alloc (by simp; omega) _
end Go.Proofs.YtdjgkmpjhpnkeaaGreatDoor
namespace Go.Proofs.YtdjgkmpjhpnkeaaGreatDoor
open Go.RowKit Go.Maps Go.WideMaps
def placeCells (ps : List (Nat × Nat)) : List Value := ps.flatMap fun p => [.int .i64 p.1, .int .i64 p.2]
def PRow (base : Nat) (w : World) (v : Value) (ps : List (Nat × Nat)) : Prop := w.ownsRow base 63 2 v ps.length (placeCells ps)
theorem PRow.keep {base : Nat} {w w' : World} {v : Value} {ps : List (Nat × Nat)} (hb : Below w.heap.size w w') (h : PRow base w v ps) : PRow base w' v ps := ownsRow_below hb h
theorem PRow.nil (base : Nat) (w : World) : PRow base w (.slice none 0 0) [] := World.ownsRow_nil w _ _ _
theorem placeCells_snoc (ps : List (Nat × Nat)) (a b : Nat) : placeCells (ps ++ [(a, b)]) = placeCells ps ++ [.int .i64 a, .int .i64 b] := by simp [placeCells]
theorem PRow.snoc {base : Nat} {w : World} {v : Value} {ps : List (Nat × Nat)} {a b : Nat} (h : w.ownsRow base 63 2 v (ps.length + 1) (placeCells ps ++ [.int .i64 a, .int .i64 b])) : PRow base w v (ps ++ [(a, b)]) := by
  unfold PRow
  rw [placeCells_snoc, List.length_append]
  exact h
def PlaceR (w : World) (b o : Nat) (p : Nat × Nat) : Prop := b < w.heap.size ∧ w.cell? ⟨b, o, none⟩ = some (.int .i64 p.1) ∧ w.cell? ⟨b, o + 1, none⟩ = some (.int .i64 p.2)
theorem placeR_keeps : Keeps PlaceR := fun _ _ _ _ _ hb ⟨h0, h1, h2⟩ => ⟨size_keep hb h0, cell_keep hb h0 h1, cell_keep hb h0 h2⟩
theorem add_zero_eq (g j : Nat) : (⟨g, 0, none⟩ : Addr).add j = ⟨g, j, none⟩ := by
  unfold Addr.add
  by_cases h : j = 0 <;> simp [h]
theorem placeCells_get : ∀ (ps : List (Nat × Nat)) (i : Nat) (h : i < ps.length), (placeCells ps)[i * 2]? = some (.int .i64 (ps[i].1 : Nat)) ∧ (placeCells ps)[i * 2 + 1]? = some (.int .i64 (ps[i].2 : Nat))
  | p :: r, 0, _ => by simp [placeCells]
  | p :: r, i + 1, h => by
    have := placeCells_get r i (by simpa using h)
    have e : placeCells (p :: r) = .int .i64 p.1 :: .int .i64 p.2 :: placeCells r := by simp [placeCells]
    rw [e, show (i + 1) * 2 = i * 2 + 1 + 1 by omega, show i * 2 + 1 + 1 + 1 = (i * 2 + 1) + 1 + 1 by omega]
    simp only [List.getElem?_cons_succ, List.getElem_cons_succ]
    exact this
  | [], i, h => by simp at h
theorem placeRow_at {base : Nat} {w : World} {g cap : Nat} {ps : List (Nat × Nat)} (h : PRow base w (.slice (some ⟨g, 0, none⟩) ps.length cap) ps) (i : Nat) (hi : i < ps.length) : PlaceR w g (i * 2) ps[i] := by
  have hcl := fun j u => h.cells (g := g) rfl j u
  simp only [add_zero_eq] at hcl
  obtain ⟨e1, e2⟩ := placeCells_get ps i hi
  exact ⟨(h.lt g rfl).2, hcl _ _ e1, hcl _ _ e2⟩
theorem PRow.row {base : Nat} {w : World} {v : Value} {ps : List (Nat × Nat)} (h : PRow base w v ps) (hl : ps.length ≤ 140737488355328) : RowAt 2 PlaceR w v ps := by
  by_cases h0 : ps.length = 0
  · obtain rfl : ps = [] := List.eq_nil_of_length_eq_zero h0
    rcases h.2 with ⟨rfl, -⟩ | ⟨g, cap, cur, rfl, -, -, hc, -⟩
    · exact rowAt_nil
    · exact ⟨_, cap, 0, 0, rfl, hc, by simp, fun h => by simp at h, fun i h => by simp at h⟩
  · obtain ⟨g, cap, rfl, -, hg⟩ := World.ownsRow.form h (by omega)
    have hcap : ps.length ≤ cap := by
      rcases h.2 with ⟨h', -⟩ | ⟨g', cap', cur, h', -, -, h2, -⟩
      · cases h'
      · cases h'; exact h2
    have hcl := fun j u => h.cells (g := g) rfl j u
    simp only [add_zero_eq] at hcl
    refine ⟨_, cap, g, 0, rfl, hcap, hl, fun _ => rfl, fun i hi => ?_⟩
    obtain ⟨e1, e2⟩ := placeCells_get ps i hi
    exact ⟨hg, by simpa using hcl _ _ e1, by rw [Nat.zero_add]; exact hcl _ _ e2⟩
theorem info_place : (Tryz.prog.info? 63).map (fun i => (i.zero, i.size, i.bytes)) = some (some (.agg #[.int .i64 0, .int .i64 0]), 2, 16) := by kernel_rfl
theorem two_news {w : World} {g : Nat} {a b : Value} (h0 : w.cell? ⟨g, 0, none⟩ = some a) (h1 : w.cell? ⟨g, 1, none⟩ = some b) : ∀ j u, [a, b][j]? = some u → w.cell? ((⟨g, 0, none⟩ : Addr).add j) = some u := by
  intro j u hu
  match j, hu with
  | 0, hu => simp at hu; subst hu; simpa [Addr.add] using h0
  | 1, hu => simp at hu; subst hu; simpa [Addr.add] using h1
  | n + 2, hu => simp at hu
theorem two_one {a b : Nat} : ∀ u ∈ [Value.int .i64 (a : Int), Value.int .i64 (b : Int)], u.oneCell' = true := by
  intro u hu
  simp at hu
  rcases hu with rfl | rfl <;> rfl
def WinPost (w : World) (ps : List (Nat × Nat)) (c : Int) (e : Ending) (w' : World) : Prop := ∃ vo, e = .returned (.tuple #[vo, .int .i64 c]) ∧ RowAt 2 PlaceR w' vo ps ∧ Below w.heap.size w w'
def RefsPost (w : World) (ps : List (Nat × Nat)) (n : ByteArray) (c : Int) (e : Ending) (w' : World) : Prop := ∃ vo, e = .returned (.tuple #[vo, .string n, .int .i64 c]) ∧ RowAt 2 PlaceR w' vo ps ∧ Below w.heap.size w w'
/-- which symbols are local, or win -/
def selB (fl : List Spot) (x : Spot) : Bool := decide (x.it.bind = 0) || decide (winnerIn fl x.it.name.data.toList = some (x.obj, x.sym))
def selPlaces (fl pre : List Spot) : List (Nat × Nat) := (pre.filter (selB fl)).map fun x => (x.obj, x.sym)
theorem selPlaces_yes {fl pre : List Spot} {x : Spot} (h : selB fl x = true) : selPlaces fl (pre ++ [x]) = selPlaces fl pre ++ [(x.obj, x.sym)] := by simp [selPlaces, h]
theorem selPlaces_no {fl pre : List Spot} {x : Spot} (h : selB fl x = false) : selPlaces fl (pre ++ [x]) = selPlaces fl pre := by simp [selPlaces, h]
theorem selPlaces_le (fl pre : List Spot) : (selPlaces fl pre).length ≤ pre.length := by
  unfold selPlaces
  rw [List.length_map]
  exact List.length_filter_le _ _
end Go.Proofs.YtdjgkmpjhpnkeaaGreatDoor
namespace Go.Proofs.YtdjgkmpjhpnkeaaGreatDoor
open Go.RowKit Go.Maps Go.WideMaps
set_option maxRecDepth 100000 in
set_option maxHeartbeats 1000000 in
theorem refs_bad (v : Value) (l : List GObj) (a b : Int) (w : World) (h : ObjsAt w v l) (hc : (beginR l).2 ≠ 0) :
    Calls Tryz.prog 149 #[v, .agg #[.int .i64 a, .int .i64 b]] w (RefsPost w [] (beginR l).1 (beginR l).2) := by
  have HK := Lib.hid (begin_any v l (w.alloc (.cells #[.int .i64 a, .int .i64 b] 63)) (ObjsAt.keep (alloc_old w _) h)); clear h
  have hcb : ((beginR l).2 != 0) = true := by simpa using hc
  have HC := Lib.hid hc; clear hc
  go_enter Tryz.func149, Tryz.ntmps149
  go_wp2_with fail
  refine HK.out.mono ?_
  rintro e w1 ⟨hcase, hB⟩
  rcases hcase with ⟨c, hb2, hc0, rfl⟩ | ⟨hb2, hb1, rb, rfl, hres⟩
  · subst hb2
    go_wp2_with fail
    go_ret3
    exact ⟨_, rfl, rowAt_nil, (alloc_old w _).trans (hB.mono (by simp))⟩
  · exact absurd hb2 HC.out
set_option maxRecDepth 100000 in
set_option maxHeartbeats 2000000 in
theorem refs_out (v : Value) (l : List GObj) (a b : Int) (w : World) (h : ObjsAt w v l) (hc : (beginR l).2 = 0) (hh : hasR l a b = false) :
    Calls Tryz.prog 149 #[v, .agg #[.int .i64 a, .int .i64 b]] w (RefsPost w [] emptyB 2) := by
  have HK := Lib.hid (begin_any v l (w.alloc (.cells #[.int .i64 a, .int .i64 b] 63)) (ObjsAt.keep (alloc_old w _) h))
  have HC := Lib.hid hc; clear hc
  have HH := Lib.hid hh; clear hh
  obtain ⟨p, cap, bb, o, rfl, hcap, hmax, hp, hcc⟩ := h
  have HP := Lib.hid hp; clear hp
  have HCC := Lib.hid hcc; clear hcc
  go_enter Tryz.func149, Tryz.ntmps149
  go_wp2_with fail
  refine HK.out.mono ?_
  rintro e w1 ⟨hcase, hB⟩
  rcases hcase with ⟨c, hb2, hc0, rfl⟩ | ⟨hb2, hb1, rb, rfl, hres⟩
  · exact absurd (hb2.symm.trans HC.out) hc0
  clear hb2 hb1 hres HK
  have p0 : w1.cell? ⟨w.heap.size, 0, none⟩ = some (.int .i64 a) := cell_keep hB (by simp) (by simp [go_sem])
  have p1 : w1.cell? ⟨w.heap.size, 1, none⟩ = some (.int .i64 b) := cell_keep hB (by simp) (by simp [go_sem])
  have hz1 : w.heap.size < w1.heap.size := by have := hB.size; (try simp at this); omega
  have HB : Hid (Below w.heap.size w w1) := (alloc_old w _).trans (hB.mono (by simp))
  clear hB
  by_cases h1 : a < 0
  · have d1 : decide (a < 0) = true := by simpa using h1
    go_wp2_with fail
    go_quiet (fail)
    go_wp2
    go_ret3
    exact ⟨_, rfl, rowAt_nil, below_drewN HB.out _⟩
  have d1 : decide (a < 0) = false := by simpa using h1
  by_cases h2 : (l.length : Int) ≤ a
  · have d2 : decide ((l.length : Int) ≤ a) = true := by simpa using h2
    go_wp2_with fail
    go_quiet (fail)
    go_wp2
    go_ret3
    exact ⟨_, rfl, rowAt_nil, below_drewN HB.out _⟩
  have d2 : decide ((l.length : Int) ≤ a) = false := by simpa using h2
  by_cases h3 : b < 0
  · have d3 : decide (b < 0) = true := by simpa using h3
    go_wp2_with fail
    go_quiet (fail)
    go_wp2
    go_ret3
    exact ⟨_, rfl, rowAt_nil, below_drewN HB.out _⟩
  have d3 : decide (b < 0) = false := by simpa using h3
  obtain ⟨an, rfl⟩ := Int.eq_ofNat_of_zero_le (show 0 ≤ a by omega)
  obtain ⟨bn, rfl⟩ := Int.eq_ofNat_of_zero_le (show 0 ≤ b by omega)
  have hal : an < l.length := by omega
  obtain rfl := HP.out (by omega)
  obtain ⟨vs, g0, -, g2, ⟨pS, capS, bS, oS, rfl, -⟩, -⟩ := HCC.out an hal
  have hnb : ¬ bn < l[an].syms.length := by have := HH.out; rw [hasR_at hal] at this; simpa using this
  generalize l[an].syms.length = nS at g2 hnb
  have d4 : decide ((nS : Int) ≤ (bn : Int)) = true := by simp; omega
  replace g2 := cell_keep HB.out g0 g2
  replace g0 := size_keep HB.out g0
  go_wp2_with fail
  go_quiet (fail)
  go_wp2
  go_ret3
  exact ⟨_, rfl, rowAt_nil, below_drewN HB.out _⟩
theorem Resolver.keep {w w' : World} {rb : Nat} {v : Value} {l : List GObj} (hb : Below w.heap.size w w') (h : Resolver w rb v l) : Resolver w' rb v l := by
  obtain ⟨tb, nt, r0, r1, hm, hrb⟩ := h
  exact ⟨tb, nt, cell_keep hb hrb r0, cell_keep hb hrb r1, hm.below hb hm.lt, size_keep hb hrb⟩
set_option maxRecDepth 100000 in
set_option maxHeartbeats 4000000 in
theorem refs_in (v : Value) (l : List GObj) (a b : Nat) (w : World) (h : ObjsAt w v l) (hc : (beginR l).2 = 0) (ha : a < l.length) (hb : b < l[a].syms.length) :
    Calls Tryz.prog 149 #[v, .agg #[.int .i64 a, .int .i64 b]] w (RefsPost w (refsGo l a [] l[a].syms[b].rels).1 (refsGo l a [] l[a].syms[b].rels).2.1 (refsGo l a [] l[a].syms[b].rels).2.2) := by
  have HK := Lib.hid (begin_any v l (w.alloc (.cells #[.int .i64 a, .int .i64 b] 63)) (ObjsAt.keep (alloc_old w _) h))
  have HO := Lib.hid h
  have hrl := relsP_le (beginR_zero hc).1 ha hb
  obtain ⟨p, cap, bb, o, rfl, hcap, hmax, hp, hcc⟩ := h
  have HC := Lib.hid hc; clear hc
  obtain rfl := hp (by omega)
  obtain ⟨vs, g0, -, g2, ⟨pS, capS, bS, oS, rfl, hcapS, hmaxS, hpS, hcS⟩, -⟩ := hcc a ha
  obtain rfl := hpS (by omega)
  obtain ⟨vr, vn, s0, -, -, -, -, -, s6, -, ⟨pR, capR, bR, oR, rfl, hcapR, hmaxR, hpR, hcR⟩, -⟩ := hcS b hb
  clear hcc hp hpS hcS
  generalize l[a].syms[b].rels = rs at *
  generalize l[a].syms.length = nS at *
  have G0 := Lib.hid g0
  have G2 := Lib.hid g2
  have S0 := Lib.hid s0
  have S6 := Lib.hid s6
  have HCR := Lib.hid hcR
  have HPR := Lib.hid hpR
  clear g0 g2 s0 s6 hcR hpR
  obtain ⟨i0, hin0, hz0, hz1, hz2⟩ := info_parts info_place
  have HI0 := Lib.hid hin0
  have HZ0 := Lib.hid hz0
  have HZ1 := Lib.hid hz1
  have HZ2 := Lib.hid hz2
  clear hin0 hz0 hz1 hz2
  go_enter Tryz.func149, Tryz.ntmps149
  go_wp2_with fail
  refine HK.out.mono ?_
  rintro e w1 ⟨hcase, hB⟩
  rcases hcase with ⟨c, hb2, hc0, rfl⟩ | ⟨hb2, hb1, rb, rfl, hres⟩
  · exact absurd (hb2.symm.trans HC.out) hc0
  clear hb2 hb1 HC
  have HRES := Lib.hid hres; clear hres
  have p0 : w1.cell? ⟨w.heap.size, 0, none⟩ = some (.int .i64 a) := cell_keep hB (by simp) (by simp [go_sem])
  have p1 : w1.cell? ⟨w.heap.size, 1, none⟩ = some (.int .i64 b) := cell_keep hB (by simp) (by simp [go_sem])
  have hz1 : w.heap.size < w1.heap.size := by have := hB.size; (try simp at this); omega
  have HB : Hid (Below w.heap.size w w1) := (alloc_old w _).trans (hB.mono (by simp))
  clear hB HK
  have g2 := cell_keep HB.out G0.out G2.out
  have g0 := size_keep HB.out G0.out
  have s6 := cell_keep HB.out S0.out S6.out
  have s0 := size_keep HB.out S0.out
  have d1 : decide ((a : Int) < 0) = false := by simp
  have d2 : decide ((l.length : Int) ≤ (a : Int)) = false := by simpa using ha
  have d3 : decide ((b : Int) < 0) = false := by simp
  have d4 : decide ((nS : Int) ≤ (b : Int)) = false := by simpa using hb
  have d5 : decide (l.length ≤ a) = false := by simpa using ha
  have d6 : decide (nS ≤ b) = false := by simpa using hb
  go_wp2_with fail
  go_quiet (fail)
  rename_i nq
  have HB2 : Hid (Below w.heap.size w (w1.drewN nq)) := below_drewN HB.out nq
  have HRES2 : Hid (Resolver (w1.drewN nq) rb (.slice (some ⟨bb, o, none⟩) l.length cap) l) := Resolver.keep (below_drewN (Below.refl _ _) nq) HRES.out
  replace p0 : (w1.drewN nq).cell? ⟨w.heap.size, 0, none⟩ = some (.int .i64 a) := p0
  replace p1 : (w1.drewN nq).cell? ⟨w.heap.size, 1, none⟩ = some (.int .i64 b) := p1
  replace hz1 : w.heap.size < (w1.drewN nq).heap.size := hz1
  clear g0 g2 s0 s6 HB HRES
  generalize w1.drewN nq = w2 at *
  have g2 := cell_keep HB2.out G0.out G2.out
  have g0 := size_keep HB2.out G0.out
  have s6 := cell_keep HB2.out S0.out S6.out
  have s0 := size_keep HB2.out S0.out
  go_wp2
  go_quiet (fail)
  go_wp2
  have HB3 : Hid (Below w.heap.size w (w2.drewN nq)) := below_drewN HB2.out nq
  have HRES : Hid (Resolver (w2.drewN nq) rb (.slice (some ⟨bb, o, none⟩) l.length cap) l) := Resolver.keep (below_drewN (Below.refl _ _) nq) HRES2.out
  replace p0 : (w2.drewN nq).cell? ⟨w.heap.size, 0, none⟩ = some (.int .i64 a) := p0
  have P0 := Lib.hid p0
  have hz3 : w.heap.size < (w2.drewN nq).heap.size := hz1
  clear p0 p1 g0 g2 s0 s6 hz1 HB2 HRES2 G0 G2 S0 S6 d1 d2 d3 d4 d5 d6
  generalize w2.drewN nq = w3 at *
  go_loopw [10, 64] (fun v10 v64 wr => ∃ (j : Nat) (acc : List (Nat × Nat)), j ≤ rs.length ∧ v64 = .int .i64 j ∧ acc.length = j ∧ refsGo l a acc (rs.drop j) = refsGo l a [] rs ∧ PRow w3.heap.size wr v10 acc ∧ Below w3.heap.size w3 wr) (fun _ v64 _ => rs.length - (intOf v64).toNat)
  case atStart => exact ⟨0, [], Nat.zero_le _, rfl, rfl, rfl, PRow.nil _ _, Below.refl _ _⟩
  case round =>
    obtain ⟨j, acc, hj, rfl, hal, hgo, hown, hbel⟩ := hrel
    have HGO := Lib.hid hgo; clear hgo
    have HOWN := Lib.hid hown; clear hown
    have HBW := Lib.hid hbel; clear hbel
    have HBV : Hid (Below w.heap.size w wr) := HB3.out.trans (HBW.out.mono HB3.out.size)
    by_cases hlt : j < rs.length
    · obtain rfl := HPR.out (by omega)
      obtain ⟨s0, s1, s2, s3, s4, -, -, -, hnm⟩ := relR_keeps _ _ _ _ _ HBV.out (HCR.out j hlt)
      generalize hx : rs[j] = x at s1 s2 s3 s4 hnm
      obtain ⟨xo, xk, xn, xa⟩ := x
      simp only [] at s1 s2 s3 s4 hnm
      have HX := Lib.hid hx; clear hx
      have t0 : wr.cell? ⟨w.heap.size, 0, none⟩ = some (.int .i64 a) := cell_keep HBW.out hz3 P0.out
      have hzr : w.heap.size < wr.heap.size := size_keep HBW.out hz3
      have hne0 : ¬ wr.heap.size = w.heap.size := by omega
      have HF := Lib.hid (findPos rb (.slice (some ⟨bb, o, none⟩) l.length cap) l a xn (wr.alloc (.cells #[.int .u32 xo, .int .u8 xk, .string xn, .int .u32 xa] 211)) (Resolver.keep (HBW.out.alloc HBW.out.size _) HRES.out) (ObjsAt.keep (HBV.out.alloc HBV.out.size _) HO.out) (by omega) ha)
      have HYS := Lib.hid (fun q => refsGo_yes (p := q) hlt HX.out HGO.out)
      have HNS := Lib.hid (refsGo_no hlt HX.out HGO.out)
      simp only [] at HYS HNS
      generalize findR l a xn.data.toList = fp at HF HYS HNS
      rw [placeRet_eq] at HF
      cases fp with
      | none =>
        have HNE := Lib.hid (HNS.out rfl)
        simp only [Option.getD_none, Option.isSome_none] at HF
        go_wp2_with (go_at_call 144; refine HF.out.mono ?_; rintro e w' ⟨rfl, hB⟩; have q0 : w'.cell? ⟨wr.heap.size, 2, none⟩ = some (.string xn) := cell_keep hB (by simp) (by simp [go_sem]); have hzw : wr.heap.size < w'.heap.size := (by have := hB.size; (try simp at this); omega); have HBX : Hid (Below wr.heap.size wr w') := (alloc_old wr _).trans (hB.mono (by simp)); clear hB)
        go_quiet (fail)
        go_wp2
        go_ret3
        rw [HNE.out]
        exact ⟨_, rfl, rowAt_nil, below_drewN ((HBV.out.trans (HBX.out.mono HBV.out.size)).alloc (Nat.le_trans HBV.out.size HBX.out.size) _) _⟩
      | some pq =>
        obtain ⟨pa, pb⟩ := pq
        have HYE := Lib.hid (HYS.out (pa, pb) rfl)
        simp only [Option.getD_some, Option.isSome_some] at HF
        go_wp2_with (first | (go_at_call 144; refine HF.out.mono ?_; rintro e w' ⟨rfl, hB⟩; have HBX : Hid (Below wr.heap.size wr w') := (alloc_old wr _).trans (hB.mono (by simp)); clear hB) | (at_builtin; refine wpList_append_own _ rfl _ _ 22 rfl w3.heap.size 63 i0 (.agg #[.int .i64 0, .int .i64 0]) 2 16 Tryz.underlying22 HI0.out HZ0.out HZ1.out HZ2.out rfl (by decide) _ acc.length (placeCells acc) rfl ?c0 _ 1 1 [.int .i64 pa, .int .i64 pb] rfl rfl ?c1 two_one ?c3 ?c4 ?c5 ?_))
        case c0 => exact PRow.keep ((HBX.out.alloc HBX.out.size _).alloc (by have := HBX.out.size; simp; omega) _) HOWN.out
        case c1 => exact two_news (by simp [go_sem]) (by simp [go_sem])
        case c3 => unfold maxLen; omega
        case c4 => omega
        case c5 => have := HBW.out.size; have := HBX.out.size; simp; omega
        intro v3 w4 hown3 hgrow3 _
        rw [← hal] at hown3
        have HOW3 := Lib.hid (PRow.snoc hown3); clear hown3
        have HBY := Lib.hid ((HBW.out.trans (HBX.out.mono HBW.out.size)).alloc (Nat.le_trans HBW.out.size HBX.out.size) (.cells #[.int .i64 pa, .int .i64 pb] 63))
        have HB4 : Hid (Below w3.heap.size w3 w4) := (HBY.out.alloc (by have := HBW.out.size; have := HBX.out.size; simp; omega) _).grown hgrow3 (by have := HBW.out.size; have := HBX.out.size; simp; omega) (fun q e => (World.ownsRow.lt HOWN.out q e).1)
        clear hgrow3
        go_wp2
        go_roundw
        case rel => exact ⟨j + 1, _, by omega, by go_num, by simp [hal], HYE.out, HOW3.out, HB4.out⟩
        case measure => simp [intOf]; omega
    · have hgo := refsGo_end hlt HGO.out
      have HRW := Lib.hid (PRow.row HOWN.out (by omega))
      have HGE := Lib.hid hgo; clear hgo
      go_wp2
      go_ret3
      rw [HGE.out]
      exact ⟨_, rfl, HRW.out, HBV.out⟩
theorem refs_any (v : Value) (l : List GObj) (a b : Int) (w : World) (h : ObjsAt w v l) :
    Calls Tryz.prog 149 #[v, .agg #[.int .i64 a, .int .i64 b]] w (RefsPost w (refsV (beginR l) l a b).1 (refsV (beginR l) l a b).2.1 (refsV (beginR l) l a b).2.2) := by
  unfold refsV
  by_cases hc : (beginR l).2 = 0
  · rw [if_neg (by simpa using hc)]
    cases hh : hasR l a b with
    | false => exact refs_out v l a b w h hc hh
    | true =>
      obtain ⟨an, bn, ha, rfl, rfl, hb⟩ := hasR_yes hh
      rw [if_pos rfl, Int.toNat_natCast, Int.toNat_natCast, relsAt_eq ha hb]
      exact refs_in v l an bn w h hc ha hb
  · rw [if_pos hc]
    exact refs_bad v l a b w h hc
end Go.Proofs.YtdjgkmpjhpnkeaaGreatDoor
namespace Go.Proofs.YtdjgkmpjhpnkeaaGreatDoor
open Go.RowKit
variable {P : Program}
/-- block g holds just these bytes -/
def ByteRow (w : World) (g : Nat) (l : BL) : Prop := ∃ T, w.heap[g]? = some (.cells (Lib.byteCells l).toArray T (0, 0))
/-- bytes laid over others -/
def putB (b s : BL) (o : Nat) : BL := b.take o ++ s ++ b.drop (o + s.length)
theorem putB_length {b s : BL} {o : Nat} (h : o + s.length ≤ b.length) : (putB b s o).length = b.length := by
  simp only [putB, List.length_append, List.length_take, List.length_drop]; omega
theorem byteCells_take (l : BL) (n : Nat) : (Lib.byteCells l).take n = Lib.byteCells (l.take n) := by simp [Lib.byteCells]
theorem byteCells_drop (l : BL) (n : Nat) : (Lib.byteCells l).drop n = Lib.byteCells (l.drop n) := by simp [Lib.byteCells]
theorem byteCells_append (a b : BL) : Lib.byteCells a ++ Lib.byteCells b = Lib.byteCells (a ++ b) := by simp [Lib.byteCells]
theorem ByteRow.lt {w : World} {g : Nat} {l : BL} (h : ByteRow w g l) : g < w.heap.size := by
  obtain ⟨T, h⟩ := h; exact (Array.getElem?_eq_some_iff.1 h).1
theorem ByteRow.cell {w : World} {g : Nat} {l : BL} (h : ByteRow w g l) (j : Nat) (hj : j < l.length) : w.cell? ⟨g, j, none⟩ = some (.int .u8 (l[j].toNat : Int)) := by
  obtain ⟨T, h⟩ := h
  rw [cell_of_row _ _ _ _ _ _ h]
  simp [Lib.byteCells, hj]
theorem ByteRow.frozen {w : World} {g : Nat} {l : BL} (h : ByteRow w g l) (j : Nat) : w.frozen? ⟨g, j, none⟩ = false := by
  obtain ⟨T, h⟩ := h; exact Lib.frozen_of_heap h _
theorem ByteRow.congr {w w' : World} {g : Nat} {l : BL} (h : ByteRow w g l) (he : w'.heap[g]? = w.heap[g]?) : ByteRow w' g l := by
  obtain ⟨T, h⟩ := h; exact ⟨T, he.trans h⟩
theorem ByteRow.keep {S : Nat → Prop} {w w' : World} {g : Nat} {l : BL} (h : ByteRow w g l) (hk : KB S w w') (hs : ¬ S g) : ByteRow w' g l := h.congr (hk.block g h.lt hs)
theorem ByteRow.below {w w' : World} {g : Nat} {l : BL} (h : ByteRow w g l) (hk : Below w.heap.size w w') : ByteRow w' g l := h.congr (hk.block g h.lt)
/-- 'copy(b[o:o+len(s)], s)' -/
theorem ByteRow.copy {w : World} {g : Nat} {l : BL} (h : ByteRow w g l) (dT sT ty elem : TypeId) (o dLen dCap : Nat) (s : ByteArray)
    (hu : P.underlying dT = some (.slice elem)) (hs : (P.info? elem).map (·.size) = some 1) (hle : s.size ≤ dLen) (hfit : o + s.size ≤ l.length) :
    ∃ w', (Builtin.copy_ #[dT, sT] ty #[.slice (some ⟨g, o, none⟩) dLen dCap, .string s]).run P w = .ok (goInt s.size) w' ∧ ByteRow w' g (putB l s.data.toList o) ∧ KB (fun k => k = g) w w' := by
  obtain ⟨T, h⟩ := h
  have hsz : s.size = s.data.toList.length := by simp
  refine ⟨_, Lib.run_copy_row_string w dT sT ty elem g o dLen dCap s _ T hu hs h hle (by simpa [Lib.byteCells] using hfit), ⟨T, ?_⟩, ⟨rfl, rfl, rfl, by simp, fun k _ hk => setRow_other _ _ _ _ hk⟩⟩
  rw [setRow_heap _ _ _ _ _ _ h]
  rw [List.toList_toArray, byteCells_take, byteCells_drop, byteCells_append, byteCells_append, hsz]
  rfl
theorem run_bytes_of_row {w : World} {g : Nat} {l : BL} (h : ByteRow w g l) (src dst e : TypeId) (o n cap : Nat) (hs : P.underlying src = some (.slice e)) (he : P.underlying e = some (.int .u8)) (hd : P.underlying dst = some .string) (hn : o + n ≤ l.length) :
    (convert src dst (.slice (some ⟨g, o, none⟩) n cap)).run P w = .ok (.string (bsOf ((l.drop o).take n))) w := by
  have hl : ((l.drop o).take n).length = n := by rw [List.length_take, List.length_drop]; omega
  have hk := run_convert_bytes_back (P := P) w src dst e ⟨g, o, none⟩ cap ((l.drop o).take n) hs he hd (fun j hj => by
    rw [add_at, h.cell (o + j) (by omega)]
    simp)
  rw [hl] at hk
  exact hk
end Go.Proofs.YtdjgkmpjhpnkeaaGreatDoor
namespace Go.Proofs.YtdjgkmpjhpnkeaaGreatDoor
def fillV (x : GRel) (a : Int) : Int := (a + x.add) % 4294967296
def fillL : BL → List GRel → List Int → Option BL
  | b, x :: r, a :: q => if x.kind = 2 ∧ 65536 ≤ fillV x a then none else fillL (putB b (leB (widthOf x.kind).toNat (fillV x a)) x.off.toNat) r q
  | b, _, _ => some b
/-- a symbol's bytes, with zeros up to its size -/
def bytes0 (s : GSym) : BL := s.bytes.data.toList ++ List.replicate (s.size.toNat - s.bytes.size) 0
def fillR (s : GSym) (addrs : List Int) : ByteArray × Int :=
  if symOkP s = true then if addrs.length = s.rels.length then match fillL (bytes0 s) s.rels addrs with | none => (emptyB, 150) | some b => (bsOf b, 0) else (emptyB, 2) else (emptyB, 2)
theorem fillR_bad {s : GSym} {addrs : List Int} (h : symOkP s = false) : fillR s addrs = (emptyB, 2) := by simp [fillR, h]
theorem fillR_len {s : GSym} {addrs : List Int} (h : ¬ addrs.length = s.rels.length) : fillR s addrs = (emptyB, 2) := by
  unfold fillR; split <;> rfl
theorem fillR_yes {s : GSym} {addrs : List Int} (h : symOkP s = true) (h2 : addrs.length = s.rels.length) : fillR s addrs = match fillL (bytes0 s) s.rels addrs with | none => (emptyB, 150) | some b => (bsOf b, 0) := by
  simp [fillR, h, h2]
theorem bytes0_length {s : GSym} (h : (s.bytes.size : Int) ≤ s.size) : (bytes0 s).length = s.size.toNat := by
  have : s.bytes.data.toList.length = s.bytes.size := len_list _
  rw [bytes0, List.length_append, List.length_replicate, this]; omega
/-- how the loop goes on at place k -/
theorem fillL_step {s : GSym} {addrs : List Int} {k : Nat} {b : BL} {x : GRel} {a : Int} (hk : k < s.rels.length) (ha : k < addrs.length) (hx : s.rels[k] = x) (hy : addrs[k] = a) :
    fillL b (s.rels.drop k) (addrs.drop k) = if x.kind = 2 ∧ 65536 ≤ fillV x a then none else fillL (putB b (leB (widthOf x.kind).toNat (fillV x a)) x.off.toNat) (s.rels.drop (k + 1)) (addrs.drop (k + 1)) := by
  rw [List.drop_eq_getElem_cons hk, List.drop_eq_getElem_cons ha, hx, hy, fillL]
theorem fillL_end {s : GSym} {addrs : List Int} {k : Nat} {b : BL} (hk : ¬ k < s.rels.length) : fillL b (s.rels.drop k) (addrs.drop k) = some b := by
  rw [List.drop_of_length_le (by omega)]
  cases addrs.drop k <;> rfl
/-- what may be: its places lie within its bytes -/
theorem relsGo_each {n : Int} : ∀ {e : Int} {l : List GRel}, relsGo n e l = true → ∀ x ∈ l, (x.kind = 1 ∨ x.kind = 2) ∧ x.off ≤ 8192 ∧ x.off + widthOf x.kind ≤ n
  | _, [], _, x, hx => by cases hx
  | e, y :: r, h, x, hx => by
    simp only [relsGo, Bool.and_eq_true, decide_eq_true_eq] at h
    obtain ⟨⟨⟨⟨⟨h1, h2⟩, h3⟩, h4⟩, h5⟩, h6⟩ := h
    rcases List.mem_cons.1 hx with rfl | hx
    · refine ⟨?_, h3, h5⟩
      unfold widthOf at h1
      split at h1
      · exact .inl ‹_›
      · split at h1
        · exact .inr ‹_›
        · simp at h1
    · exact relsGo_each h6 x hx
theorem symOk_fits {s : GSym} (h : symOkP s = true) (hb : s.bytes.size < 4294967296) : (s.bytes.size : Int) ≤ s.size ∧ s.size ≤ 8192 ∧ 1 ≤ s.size ∧ s.rels.length ≤ 1024 ∧ ∀ x ∈ s.rels, (x.kind = 1 ∨ x.kind = 2) ∧ x.off ≤ 8192 ∧ x.off + widthOf x.kind ≤ s.bytes.size := by
  simp only [symOkP, Bool.and_eq_true, decide_eq_true_eq, sizedOk, sizedB, placesOk] at h
  obtain ⟨⟨⟨⟨⟨⟨⟨h1, h2⟩, h3⟩, h4⟩, h5⟩, h6⟩, h7⟩, h8⟩ := h
  have e : len32 s.bytes = s.bytes.size := by unfold len32; omega
  rw [e] at h5 h6
  exact ⟨h5.1.2, h5.1.1.2, h5.1.1.1, h6.2, fun x hx => relsGo_each h6.1 x hx⟩
end Go.Proofs.YtdjgkmpjhpnkeaaGreatDoor
namespace Go.Proofs.YtdjgkmpjhpnkeaaGreatDoor
open Go.RowKit
set_option maxHeartbeats 400000 in
theorem objSym_any (s : GSym) (vr vn : Value) (w : World) (h : SymIn w s vr vn) :
    Calls Tryz.prog 177 #[.agg #[.string s.name, .int .u8 s.bind, .int .u8 s.kind, .int .u32 s.size, .string s.bytes, vr, vn]] w fun e w' => e = .returned (.int .i64 (errB (symOkP s))) ∧ Below w.heap.size w w' := by
  have HM := Lib.hid (symMay_any s vr vn _ (SymIn.keep (alloc_old w (.cells #[.string s.name, .int .u8 s.bind, .int .u8 s.kind, .int .u32 s.size, .string s.bytes, vr, vn] 72)) h))
  obtain ⟨p1, q1, p2, q2, rfl, rfl⟩ := h.shape
  clear h
  obtain ⟨sn, sb, sk, ss, sy, sr, st⟩ := s
  simp only [] at HM ⊢
  go_enter Tryz.func177, Tryz.ntmps177
  go_wp2_with fail
  refine HM.out.mono ?_
  rintro e w1 ⟨rfl, hB⟩
  have HB : Hid (Below w.heap.size w w1) := (alloc_old w _).trans (hB.mono (by simp))
  clear hB HM
  go_wp2_with (go_at_call 186; refine (told_any _ _).mono ?_; rintro e w1 ⟨rfl, rfl⟩)
  go_ret
  exact ⟨rfl, HB.out⟩
end Go.Proofs.YtdjgkmpjhpnkeaaGreatDoor
namespace Go.Proofs.YtdjgkmpjhpnkeaaGreatDoor
open Go.RowKit
theorem info_byte : (Tryz.prog.info? 5).map (fun i => (i.zero, i.size, i.bytes)) = some (some (.int .u8 0), 1, 1) := by kernel_rfl
set_option maxHeartbeats 400000 in
theorem wtext_any (b o : Nat) (l : BL) (cap : Nat) (w : World) (hc : ∀ j (hj : j < l.length), w.cell? ⟨b, o + j, none⟩ = some (.int .u8 (l[j].toNat : Int))) :
    Calls Tryz.prog 249 #[.slice (some ⟨b, o, none⟩) l.length cap] w fun e w' => e = .returned (.string (bsOf l)) ∧ w = w' := by
  have hk := run_convert_bytes_back (P := Tryz.prog) w 130 9 5 ⟨b, o, none⟩ cap l Tryz.underlying130 Tryz.underlying5 Tryz.underlying9 (fun j hj => by rw [add_at]; exact hc j hj)
  clear hc
  go_enter Tryz.func249, Tryz.ntmps249
  go_wp2
  go_ret
  exact ⟨rfl, rfl⟩
theorem leB_get {n : Nat} {v : Int} {j : Nat} (hn : n ≤ 4) (hj : j < (leB n v).length) : ((leB n v)[j].toNat : Int) = ([v % 256, v / 256 % 256, v / 65536 % 256, v / 16777216 % 256] : List Int).getD j 0 := by
  have hj' : j < n := by rw [leB_length] at hj; exact hj
  have b1 : (v / 256 % 256).toNat < 256 := by omega
  have b0 : (v % 256).toNat < 256 := by omega
  have b2 : (v / 256 / 256 % 256).toNat < 256 := by omega
  have b3 : (v / 256 / 256 / 256 % 256).toNat < 256 := by omega
  match n, hn, j, hj' with
  | 1, _, 0, _ => simp only [leB, List.getElem_cons_zero, u8_ofNat _ b0, List.getD_cons_zero]; omega
  | 2, _, 0, _ => simp only [leB, List.getElem_cons_zero, u8_ofNat _ b0, List.getD_cons_zero]; omega
  | 3, _, 0, _ => simp only [leB, List.getElem_cons_zero, u8_ofNat _ b0, List.getD_cons_zero]; omega
  | 4, _, 0, _ => simp only [leB, List.getElem_cons_zero, u8_ofNat _ b0, List.getD_cons_zero]; omega
  | 2, _, 1, _ => simp only [leB, List.getElem_cons_zero, List.getElem_cons_succ, u8_ofNat _ b1, List.getD_cons_zero, List.getD_cons_succ]; omega
  | 3, _, 1, _ => simp only [leB, List.getElem_cons_zero, List.getElem_cons_succ, u8_ofNat _ b1, List.getD_cons_zero, List.getD_cons_succ]; omega
  | 4, _, 1, _ => simp only [leB, List.getElem_cons_zero, List.getElem_cons_succ, u8_ofNat _ b1, List.getD_cons_zero, List.getD_cons_succ]; omega
  | 3, _, 2, _ => simp only [leB, List.getElem_cons_zero, List.getElem_cons_succ, u8_ofNat _ b2, List.getD_cons_zero, List.getD_cons_succ]; omega
  | 4, _, 2, _ => simp only [leB, List.getElem_cons_zero, List.getElem_cons_succ, u8_ofNat _ b2, List.getD_cons_zero, List.getD_cons_succ]; omega
  | 4, _, 3, _ => simp only [leB, List.getElem_cons_zero, List.getElem_cons_succ, u8_ofNat _ b3, List.getD_cons_zero, List.getD_cons_succ]; omega
theorem put_cells {w : World} {n : Nat} {v x0 x1 x2 x3 : Int} (hn : n ≤ 4) (h : ∀ j, j < n → ([x0, x1, x2, x3] : List Int).getD j 0 = ([v % 256, v / 256 % 256, v / 65536 % 256, v / 16777216 % 256] : List Int).getD j 0) (t : TypeId) :
    ∀ j (hj : j < (leB n v).length), (w.alloc (.cells #[.int .u8 x0, .int .u8 x1, .int .u8 x2, .int .u8 x3] t)).cell? ⟨w.heap.size, 0 + j, none⟩ = some (.int .u8 ((leB n v)[j].toNat : Int)) := by
  intro j hj
  rw [leB_get hn hj]
  rw [leB_length] at hj
  rw [← h j hj]
  have h4 : j = 0 ∨ j = 1 ∨ j = 2 ∨ j = 3 := by omega
  rcases h4 with rfl | rfl | rfl | rfl <;> simp [go_sem]
set_option maxHeartbeats 400000 in
set_option maxRecDepth 100000 in
theorem wput1 (v : Int) (w : World) (h0 : 0 ≤ v) (h1 : v < 256) : Calls Tryz.prog 181 #[.int .u32 v, .int .i64 1] w fun e w' => e = .returned (.tuple #[.string (bsOf (leB 1 v)), .int .i64 0]) ∧ Below w.heap.size w w' := by
  have hz : (v / 256 != 0) = false := by simp; omega
  go_enter Tryz.func181, Tryz.ntmps181
  go_wp2_with fail
  refine (wtext_any w.heap.size 0 (leB 1 v) 4 _ (put_cells (by omega) ?_ _)).mono ?_
  · intro j hj
    have h4 : j = 0 := by omega
    rcases h4 with rfl <;> (simp only [List.getD_cons_zero]; try omega)
  rintro e w' ⟨rfl, rfl⟩
  go_wp2
  go_ret2
  exact ⟨rfl, alloc_old w _⟩
set_option maxHeartbeats 400000 in
set_option maxRecDepth 100000 in
theorem wput2 (v : Int) (w : World) (h0 : 0 ≤ v) (h1 : v < 65536) : Calls Tryz.prog 181 #[.int .u32 v, .int .i64 2] w fun e w' => e = .returned (.tuple #[.string (bsOf (leB 2 v)), .int .i64 0]) ∧ Below w.heap.size w w' := by
  have hz : (v / 65536 != 0) = false := by simp; omega
  go_enter Tryz.func181, Tryz.ntmps181
  go_wp2_with fail
  refine (wtext_any w.heap.size 0 (leB 2 v) 4 _ (put_cells (by omega) ?_ _)).mono ?_
  · intro j hj
    have h4 : j = 0 ∨ j = 1 := by omega
    rcases h4 with rfl | rfl <;> (simp only [List.getD_cons_zero, List.getD_cons_succ]; try omega)
  rintro e w' ⟨rfl, rfl⟩
  go_wp2
  go_ret2
  exact ⟨rfl, alloc_old w _⟩
set_option maxHeartbeats 400000 in
set_option maxRecDepth 100000 in
theorem wput4 (v : Int) (w : World) (h0 : 0 ≤ v) (h1 : v < 4294967296) : Calls Tryz.prog 181 #[.int .u32 v, .int .i64 4] w fun e w' => e = .returned (.tuple #[.string (bsOf (leB 4 v)), .int .i64 0]) ∧ Below w.heap.size w w' := by
  go_enter Tryz.func181, Tryz.ntmps181
  go_wp2_with fail
  refine (wtext_any w.heap.size 0 (leB 4 v) 4 _ (put_cells (by omega) ?_ _)).mono ?_
  · intro j hj
    have h4 : j = 0 ∨ j = 1 ∨ j = 2 ∨ j = 3 := by omega
    rcases h4 with rfl | rfl | rfl | rfl <;> (simp only [List.getD_cons_zero, List.getD_cons_succ]; try omega)
  rintro e w' ⟨rfl, rfl⟩
  go_wp2
  go_ret2
  exact ⟨rfl, alloc_old w _⟩
theorem bsOf_app (a : BL) (s : ByteArray) : bsOf a ++ s = bsOf (a ++ s.data.toList) := by
  apply ByteArray.ext; simp [bsOf]
end Go.Proofs.YtdjgkmpjhpnkeaaGreatDoor
