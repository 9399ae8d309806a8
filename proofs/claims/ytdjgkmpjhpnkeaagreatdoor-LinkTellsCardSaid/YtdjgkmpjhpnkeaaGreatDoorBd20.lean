/- The walk of reach's put. The walk of reach's known. A search under way: plain steps of it. A way back through a search, in plain Lean. No program in sight. The chapter's example of what is needed, in plain Lean. No program in sight. -/
import Derived.Test.YtdjgkmpjhpnkeaaGreatDoorBd19
import Derived.Test.YtdjgkmpjhpnkeaaGreatDoorBd10
import Derived.Deep.RegionHeld3
import Derived.Deep.DeepCutAuto
import Derived.BigQuiet
import Derived.StillTailTactics
import Derived.Outline
import Derived.Lib.Builder
import Derived.Handy
import Derived.Test.YtdjgkmpjhpnkeaaGreatDoorBd07
import Derived.Test.YtdjgkmpjhpnkeaaGreatDoorBd04
import Derived.KernelRfl
namespace Go.Proofs.YtdjgkmpjhpnkeaaGreatDoor
open Go.RowKit Go.Maps
set_option maxRecDepth 100000 in
set_option maxHeartbeats 2000000 in
theorem put_any (base sb mb : Nat) (ov v : Value) (L : List PP) (F : PP → Option PP) (p q : PP) (w : World) (h : SrchSt base sb mb ov v L F w) (hp : placeOkK p) (hL : L.length ≤ 100000) :
    Calls Tryz.prog 218 #[.pointer (some ⟨sb, 0, none⟩), placeV p, placeV q] w (PutPost base sb mb ov v L F p q w) := by
  obtain ⟨pv, cv, rfl⟩ := own_shape h.row
  have HS := Lib.hid h
  have HSL := Lib.hid h.lt
  have HML := Lib.hid h.map.lt
  have c0 : w.cell? ⟨sb, 0, none⟩ = some (.slice pv L.length cv) := Lib.cell_of_heap h.box 0
  have c1 : w.cell? ⟨sb, 1, none⟩ = some (.map (some mb)) := Lib.cell_of_heap h.box 1
  have f0 : w.frozen? ⟨sb, 0, none⟩ = false := Lib.frozen_of_heap h.box 0
  have hlk : ∀ W : World, Below w.heap.size w W → (Instr.lookup 230 (.map (some mb)) (placeV p) true).run Tryz.prog W = .ok (.tuple #[((F p).map placeV).getD (placeV (0, 0)), .bool (F p).isSome]) W := fun W hW => by
    have := (h.map.below hW h.map.lt).look_ok (a := p) placeKeyed Tryz.underlying230 (zeroPl W) hp
    rw [Option.isSome_map] at this; exact this
  clear h
  obtain ⟨p1, p2⟩ := p
  obtain ⟨q1, q2⟩ := q
  unfold placeV
  simp only []
  have hzs : sb < w.heap.size := HSL.out
  have HBB : Hid (Below w.heap.size w ((w.alloc (.cells #[.int .i64 p1, .int .i64 p2] 63)).alloc (.cells #[.int .i64 q1, .int .i64 q2] 63))) := (alloc_old w _).alloc (by simp) _
  have k0 := HBB.out
  have b0 : ((w.alloc (.cells #[.int .i64 p1, .int .i64 p2] 63)).alloc (.cells #[.int .i64 q1, .int .i64 q2] 63)).cell? ⟨w.heap.size, 0, none⟩ = some (.int .i64 p1) := by simp [go_sem]
  have b1 : ((w.alloc (.cells #[.int .i64 p1, .int .i64 p2] 63)).alloc (.cells #[.int .i64 q1, .int .i64 q2] 63)).cell? ⟨w.heap.size, 1, none⟩ = some (.int .i64 p2) := by simp [go_sem]
  have b2 : ((w.alloc (.cells #[.int .i64 p1, .int .i64 p2] 63)).alloc (.cells #[.int .i64 q1, .int .i64 q2] 63)).cell? ⟨w.heap.size + 1, 0, none⟩ = some (.int .i64 q1) := by simp [go_sem]
  have b3 : ((w.alloc (.cells #[.int .i64 p1, .int .i64 p2] 63)).alloc (.cells #[.int .i64 q1, .int .i64 q2] 63)).cell? ⟨w.heap.size + 1, 1, none⟩ = some (.int .i64 q2) := by simp [go_sem]
  have hz2 : w.heap.size + 1 < ((w.alloc (.cells #[.int .i64 p1, .int .i64 p2] 63)).alloc (.cells #[.int .i64 q1, .int .i64 q2] 63)).heap.size := by simp
  replace c0 := cell_keep k0 hzs c0
  replace c1 := cell_keep k0 hzs c1
  replace f0 := (k0.frozen (p := ⟨sb, 0, none⟩) hzs).trans f0
  clear k0
  go_enter Tryz.func218, Tryz.ntmps218
  go_wp2
  generalize (w.alloc (.cells #[.int .i64 p1, .int .i64 p2] 63)).alloc (.cells #[.int .i64 q1, .int .i64 q2] 63) = w2 at *
  have hzs2 : sb < w2.heap.size := by omega
  have hz3 : w.heap.size < w2.heap.size := by omega
  cases hF : (F (p1, p2)).isSome with
  | true =>
    obtain ⟨y, hy⟩ := Option.isSome_iff_exists.1 hF
    obtain ⟨y1, y2⟩ := y
    rw [hy] at hlk
    simp only [Option.map_some, Option.getD_some, Option.isSome_some, placeV] at hlk
    have HLK := Lib.hid hlk; clear hlk
    have HFH := Lib.hid hF; clear hF
    have HY := Lib.hid hy; clear hy
    go_region_held3 (fun w' => w'.cell? ⟨sb, 1, none⟩ = some (.map (some mb)) ∧ w'.cell? ⟨w.heap.size, 0, none⟩ = some (.int .i64 p1) ∧ w'.cell? ⟨w.heap.size, 1, none⟩ = some (.int .i64 p2) ∧ (Instr.lookup 230 (.map (some mb)) (.agg #[.int .i64 p1, .int .i64 p2]) true).run Tryz.prog w' = .ok (.tuple #[.agg #[.int .i64 y1, .int .i64 y2], .bool true]) w') ((refine ⟨?_, ?_, ?_, HLK.out _ ?_⟩; go_keep; go_keep; go_keep; (have k0 := HBB.out; go_grown))) (fail)
    all_goals
      go_wp2
      go_end0
      exact ⟨rfl, _, by unfold newL newF; rw [if_pos HFH.out, if_pos HFH.out]; exact HS.out.keep (by have k0 := HBB.out; go_grown), KB.of_below (by have k0 := HBB.out; go_grown), .inl rfl⟩
  | false =>
    obtain hn : F (p1, p2) = none := by simpa using hF
    rw [hn] at hlk
    simp only [Option.map_none, Option.getD_none, Option.isSome_none, placeV] at hlk
    have HLK := Lib.hid hlk; clear hlk
    have HFH := Lib.hid hF; clear hF
    have HN := Lib.hid hn; clear hn
    go_cut [7] (fun v7 wx => v7 = .bool false ∧ Below w2.heap.size w2 wx)
    case first =>
      go_region_held3 (fun w' => w'.cell? ⟨sb, 1, none⟩ = some (.map (some mb)) ∧ w'.cell? ⟨w.heap.size, 0, none⟩ = some (.int .i64 p1) ∧ w'.cell? ⟨w.heap.size, 1, none⟩ = some (.int .i64 p2) ∧ (Instr.lookup 230 (.map (some mb)) (.agg #[.int .i64 p1, .int .i64 p2]) true).run Tryz.prog w' = .ok (.tuple #[.agg #[.int .i64 0, .int .i64 0], .bool false]) w') ((refine ⟨?_, ?_, ?_, HLK.out _ ?_⟩; go_keep; go_keep; go_keep; (have k0 := HBB.out; go_grown))) (fail)
      all_goals
        go_wp2
        go_meet
        exact ⟨rfl, by go_grown⟩
    case rest =>
      obtain ⟨rfl, hbx⟩ := hcut
      replace c0 := cell_keep hbx hzs2 c0
      replace c1 := cell_keep hbx hzs2 c1
      replace f0 := (hbx.frozen (p := ⟨sb, 0, none⟩) hzs2).trans f0
      replace b0 := cell_keep hbx hz3 b0
      replace b1 := cell_keep hbx hz3 b1
      replace b2 := cell_keep hbx hz2 b2
      replace b3 := cell_keep hbx hz2 b3
      have HBC : Hid (Below w.heap.size w wc) := HBB.out.trans (hbx.mono HBB.out.size)
      have hzc : w.heap.size + 1 < wc.heap.size := by have := hbx.size; omega
      clear hbx
      have hzs3 : sb < wc.heap.size := by omega
      have hz4 : w.heap.size < wc.heap.size := by omega
      have HMC := Lib.hid (HS.out.map.below HBC.out HML.out)
      have hnm : sb ≠ mb := HS.out.ne
      have HNM := Lib.hid hnm
      go_wp2
      go_still_tail 6, (by kernel_rfl)
      refine wpList_putK _ rfl _ _ _ 230 rfl 63 placeKeyed Tryz.underlying230 rfl HMC.out.drew (by unfold maxLen; omega) (p1, p2) (placeV (q1, q2)) rfl rfl hp ?_
      intro w4 hM4 hg4
      rw [updF_map] at hM4
      have hml := HML.out
      replace c0 := cell_grown hg4 hzs3 hnm c0
      replace f0 := (hg4.frozen_far (a := ⟨sb, 0, none⟩) hzs3 (by simpa using hnm)).trans f0
      replace b0 := cell_grown hg4 hz4 (by omega) b0
      replace b1 := cell_grown hg4 hz4 (by omega) b1
      have hsz4 : wc.heap.size ≤ w4.heap.size := hg4.size
      clear b2 b3 c1 hml
      have HM4 := Lib.hid hM4; clear hM4
      have HG4 := Lib.hid hg4; clear hg4
      have HNM2 := Lib.hid hnm; clear hnm
      have hzs5 : sb < w4.heap.size := by omega
      have hz5 : w.heap.size < w4.heap.size := by omega
      have HOWN : Hid ((w4.alloc (.cells #[.int .i64 p1, .int .i64 p2] 63)).drew.ownsRow base 63 2 (.slice pv L.length cv) L.length (placeCells L)) := ((HS.out.row4 HBC.out HG4.out).alloc _).drew
      have HNEWS : Hid (∀ j u, [Value.int .i64 (p1 : Nat), Value.int .i64 (p2 : Nat)][j]? = some u → (w4.alloc (.cells #[.int .i64 p1, .int .i64 p2] 63)).drew.cell? ((⟨w4.heap.size, 0, none⟩ : Addr).add j) = some u) := two_news (by simp [go_sem]) (by simp [go_sem])
      have HB5 := Lib.hid (HS.out.box4 HBC.out HG4.out)
      have hbz : base ≤ w4.heap.size := by have := HS.out.sbl; omega
      obtain ⟨iP, s0, s1, s2, s3⟩ := info_parts info_place
      have HI := Lib.hid (And.intro s0 (And.intro s1 (And.intro s2 s3)))
      clear s0 s1 s2 s3
      go_wp2
      go_region_law ((refine step_append_own_at rfl (.tmp 29) (.tmp 31) 22 rfl base 63 iP _ 2 16 Tryz.underlying22 HI.out.1 HI.out.2.1 HI.out.2.2.1 HI.out.2.2.2 rfl (by decide) (.slice pv L.length cv) L.length (placeCells L) (by simp [Act.eval]) HOWN.out ⟨w4.heap.size, 0, none⟩ 1 1 [.int .i64 p1, .int .i64 p2] (by simp [Act.eval]) rfl HNEWS.out two_one (by unfold maxLen; omega) (by omega) (by simp; omega) ?_; intro v' w5 hown hgrow hv; obtain ⟨pw, cw, rfl⟩ := own_shape hown; have HG := Lib.hid (And.intro hown (And.intro hgrow hv)); have hb5 : w5.heap[sb]? = some (.cells #[.slice pv L.length cv, .map (some mb), ov] 234 (0, 0)) := (hgrow.block sb (by simp; omega) (fun e => own_ne_box HOWN.out ((Below.heap_alloc w4 _ sb hzs5).trans HB5.out) (by decide) e.symm)).trans ((Below.heap_alloc w4 _ sb hzs5).trans HB5.out); have e1 : w5.cell? ⟨sb, 0, none⟩ = some (.slice pv L.length cv) := Lib.cell_of_heap hb5 0; have e2 : w5.frozen? ⟨sb, 0, none⟩ = false := Lib.frozen_of_heap hb5 0; clear hown hgrow hv hb5))
      all_goals
        go_wp2_with fail
        go_end0
        exact HS.out.add HFH.out HBC.out HM4.out HG4.out HG.out.1 HG.out.2.1 HG.out.2.2
end Go.Proofs.YtdjgkmpjhpnkeaaGreatDoor
namespace Go.Proofs.YtdjgkmpjhpnkeaaGreatDoor
open Go.RowKit Go.Maps Go.WideMaps
def KnownPost (l : List GObj) (p : PP) (w : World) (e : Ending) (w' : World) : Prop :=
  ∃ vo, e = .returned vo ∧ ∃ ks : List PP, RowAt 2 PlaceR w' vo ks ∧ (∀ q, q ∈ ks ↔ knowsP l p q) ∧ ks.length ≤ 1024 ∧ (∀ g, vo.ownBlock = some g → w.heap.size ≤ g) ∧ Below w.heap.size w w'
def fndR (fp : Option PP) : PP × Int := match fp with | some p => (p, 0) | none => ((0, 0), 121)
theorem findAll_at {l : List GObj} {a : Nat} {n : List UInt8} (hc : (beginR l).2 = 0) (ha : a < l.length) : findAll l a n = fndR (findR l a n) := by
  unfold fndR
  unfold findAll
  rw [hc, if_neg (by simp), if_neg (by omega)]
  cases findR l a n <;> rfl
theorem known_take {l : List GObj} {a : Nat} {rs : List GRel} {j : Nat} {acc : List PP} (hlt : j < rs.length) (h : ∀ q, q ∈ acc ↔ ∃ x ∈ rs.take j, findR l a x.name.data.toList = some q) :
    (∀ p, findR l a rs[j].name.data.toList = some p → ∀ q, q ∈ acc ++ [p] ↔ ∃ x ∈ rs.take (j + 1), findR l a x.name.data.toList = some q) ∧
    (findR l a rs[j].name.data.toList = none → ∀ q, q ∈ acc ↔ ∃ x ∈ rs.take (j + 1), findR l a x.name.data.toList = some q) := by
  have ht : rs.take (j + 1) = rs.take j ++ [rs[j]] := List.take_succ_eq_append_getElem hlt
  constructor
  · intro p hp q
    rw [ht, List.mem_append, h q]
    constructor
    · rintro (⟨x, h1, h2⟩ | h1)
      · exact ⟨x, List.mem_append.2 (.inl h1), h2⟩
      · exact ⟨rs[j], List.mem_append.2 (.inr (by simp)), by rw [hp, List.mem_singleton.1 h1]⟩
    · rintro ⟨x, h1, h2⟩
      rcases List.mem_append.1 h1 with h1 | h1
      · exact .inl ⟨x, h1, h2⟩
      · rw [List.mem_singleton.1 h1, hp] at h2
        exact .inr (List.mem_singleton.2 (Option.some.inj h2).symm)
  · intro hn q
    rw [ht, h q]
    constructor
    · rintro ⟨x, h1, h2⟩
      exact ⟨x, List.mem_append.2 (.inl h1), h2⟩
    · rintro ⟨x, h1, h2⟩
      rcases List.mem_append.1 h1 with h1 | h1
      · exact ⟨x, h1, h2⟩
      · rw [List.mem_singleton.1 h1, hn] at h2; cases h2
set_option maxRecDepth 100000 in
set_option maxHeartbeats 4000000 in
theorem known_any (hsort : SortOk) (sb : Nat) (v : Value) (l : List GObj) (a b : Nat) (w : World) (hsb : sb < w.heap.size) (hov : w.cell? ⟨sb, 2, none⟩ = some v) (h : ObjsAt w v l) (hc : (beginR l).2 = 0) (ha : a < l.length) (hb : b < l[a].syms.length) :
    Calls Tryz.prog 219 #[.pointer (some ⟨sb, 0, none⟩), placeV (a, b)] w (KnownPost l (a, b) w) := by
  have HO := Lib.hid h
  have HSORT := Lib.hid hsort; clear hsort
  have hrl := relsP_le (beginR_zero hc).1 ha hb
  have HC := Lib.hid hc; clear hc
  have hkn : ∀ q, knowsP l (a, b) q ↔ ∃ x ∈ l[a].syms[b].rels, findR l a x.name.data.toList = some q := fun q => by
    unfold knowsP; rw [relsAt_eq ha hb]
  have HKN := Lib.hid hkn; clear hkn
  obtain ⟨p, cap, bb, o, rfl, hcap, hmax, hp, hcc⟩ := h
  obtain rfl := hp (by omega)
  obtain ⟨vs, g0, -, g2, ⟨pS, capS, bS, oS, rfl, hcapS, hmaxS, hpS, hcS⟩, -⟩ := hcc a ha
  obtain rfl := hpS (by omega)
  obtain ⟨vr, vn, s0, -, -, -, -, -, s6, -, ⟨pR, capR, bR, oR, rfl, hcapR, hmaxR, hpR, hcR⟩, -⟩ := hcS b hb
  clear hcc hp hpS hcS
  generalize l[a].syms[b].rels = rs at *
  generalize l[a].syms.length = nS at *
  have HCR := Lib.hid hcR
  have HPR := Lib.hid hpR
  have HSB := Lib.hid hsb
  have HOV := Lib.hid hov
  clear hcR hpR
  obtain ⟨i0, hin0, hz0, hz1, hz2⟩ := info_parts info_place
  have HI := Lib.hid (And.intro hin0 (And.intro hz0 (And.intro hz1 hz2)))
  clear hin0 hz0 hz1 hz2
  have d5 : decide (l.length ≤ a) = false := by simpa using ha
  have d6 : decide (nS ≤ b) = false := by simpa using hb
  unfold placeV
  simp only []
  go_enter Tryz.func219, Tryz.ntmps219
  go_wp2_with fail
  go_quiet (fail)
  go_wp2
  have HB3 : Hid (Below w.heap.size w ((w.alloc (.cells #[.int .i64 a, .int .i64 b] 63)).drewN nq)) := below_drewN (alloc_old w _) nq
  have p0 : ((w.alloc (.cells #[.int .i64 a, .int .i64 b] 63)).drewN nq).cell? ⟨w.heap.size, 0, none⟩ = some (.int .i64 a) := by simp [go_sem]
  have hz3 : w.heap.size < ((w.alloc (.cells #[.int .i64 a, .int .i64 b] 63)).drewN nq).heap.size := by simp
  clear hsb hov g0 g2 s0 s6 d5 d6
  have P0 := Lib.hid p0; clear p0
  generalize (w.alloc (.cells #[.int .i64 a, .int .i64 b] 63)).drewN nq = w3 at *
  go_loopw [5, 25] (fun v5 v25 wr => ∃ (j : Nat) (acc : List PP), j ≤ rs.length ∧ v25 = .int .i64 j ∧ acc.length ≤ j ∧ (∀ q, q ∈ acc ↔ ∃ x ∈ rs.take j, findR l a x.name.data.toList = some q) ∧ PRow w3.heap.size wr v5 acc ∧ Below w3.heap.size w3 wr) (fun _ v25 _ => rs.length - (intOf v25).toNat)
  case atStart => exact ⟨0, [], Nat.zero_le _, rfl, Nat.le_refl _, fun q => by simp, PRow.nil _ _, Below.refl _ _⟩
  case round =>
    obtain ⟨j, acc, hj, rfl, hal, hacc, hown, hbel⟩ := hrel
    have HACC := Lib.hid hacc; clear hacc
    have HOWN := Lib.hid hown; clear hown
    have HBW := Lib.hid hbel; clear hbel
    have HBV : Hid (Below w.heap.size w wr) := HB3.out.trans (HBW.out.mono HB3.out.size)
    by_cases hlt : j < rs.length
    · obtain rfl := HPR.out (by omega)
      obtain ⟨s0, s1, s2, s3, s4, -, -, -, hnm⟩ := relR_keeps _ _ _ _ _ HBV.out (HCR.out j hlt)
      have HKT := Lib.hid (known_take hlt HACC.out)
      generalize hx : rs[j] = x at s1 s2 s3 s4 hnm HKT
      obtain ⟨xo, xk, xn, xa⟩ := x
      simp only [] at s1 s2 s3 s4 hnm HKT
      clear hx
      have t0 : wr.cell? ⟨w.heap.size, 0, none⟩ = some (.int .i64 a) := cell_keep HBW.out hz3 P0.out
      have t2 : wr.cell? ⟨sb, 2, none⟩ = some (.slice (some ⟨bb, o, none⟩) l.length cap) := cell_keep HBV.out HSB.out HOV.out
      have hzr : w.heap.size < wr.heap.size := size_keep HBW.out hz3
      have hzsb : sb < wr.heap.size := size_keep HBV.out HSB.out
      have hne0 : ¬ wr.heap.size = w.heap.size := by omega
      have hne1 : ¬ wr.heap.size = sb := by omega
      have hne2 : ¬ wr.heap.size + 1 = sb := by omega
      have hne3 : ¬ wr.heap.size + 1 = w.heap.size := by omega
      have HF : Hid (∀ W, Below wr.heap.size wr W → Calls Tryz.prog 55 #[.slice (some ⟨bb, o, none⟩) l.length cap, .int .i64 a, .string xn] W fun e w' => e = .returned (findV (fndR (findR l a xn.data.toList))) ∧ Below W.heap.size W w') := fun W hW => by
        have := resFind_any (.slice (some ⟨bb, o, none⟩) l.length cap) l a xn W (ObjsAt.keep (HBV.out.trans (hW.mono HBV.out.size)) HO.out) (by omega)
        rw [findAll_at HC.out ha] at this
        exact this
      generalize findR l a xn.data.toList = fp at HF HKT
      obtain ⟨pa, pb, c, hfp⟩ : ∃ (pa pb : Nat) (c : Int), fndR fp = ((pa, pb), c) := ⟨_, _, _, rfl⟩
      have HF2 : Hid (∀ W, Below wr.heap.size wr W → Calls Tryz.prog 55 #[.slice (some ⟨bb, o, none⟩) l.length cap, .int .i64 a, .string xn] W fun e w' => e = .returned (.tuple #[.agg #[.int .i64 pa, .int .i64 pb], .int .i64 c]) ∧ Below W.heap.size W w') := fun W hW => by
        have := HF.out W hW
        rw [hfp] at this
        exact this
      have HFP := Lib.hid hfp; clear hfp HF
      go_wp2_with fail
      go_cut [8, 9] (fun v8 v9 wx => ∃ g, v8 = .pointer (some ⟨g, 0, none⟩) ∧ v9 = .int .i64 c ∧ PlaceAt wx g pa pb ∧ Below wr.heap.size wr wx)
      case first =>
        go_region_held3 (fun w' => w'.cell? ⟨sb, 2, none⟩ = some (.slice (some ⟨bb, o, none⟩) l.length cap) ∧ w'.cell? ⟨w.heap.size, 0, none⟩ = some (.int .i64 a) ∧ w'.cell? ⟨wr.heap.size, 2, none⟩ = some (.string xn)) (go_keep) (first | (go_at_call 55; refine (HF2.out _ ?_).mono ?_; (go_grown); rintro e w' ⟨rfl, hB⟩; have k1 : w'.cell? ⟨sb, 2, none⟩ = some (.slice (some ⟨bb, o, none⟩) l.length cap) := cell_keep hB (by simp; omega) (by simp [go_sem, *]); have k2 : w'.cell? ⟨w.heap.size, 0, none⟩ = some (.int .i64 a) := cell_keep hB (by simp <;> omega) (by simp [go_sem, *]); have k3 : w'.cell? ⟨wr.heap.size, 2, none⟩ = some (.string xn) := cell_keep hB (by simp <;> omega) (by simp [go_sem, *]); obtain ⟨hc1, hf1⟩ := bcell hB))
        all_goals (go_wp2_with fail)
        all_goals go_meet
        · have hz := hB.size
          simp only [World.size_alloc, World.size_drew] at hz
          exact ⟨_, rfl, rfl, ⟨by simp, by simp [go_sem], by simp [go_sem]⟩, (((alloc_old wr _).drew.trans (hB.mono (by simp))).alloc (by omega) _)⟩
        · have hz := hB.size
          simp only [World.size_alloc, World.size_drew] at hz
          have q0 : w'.cell? ⟨wr.heap.size + 1, 0, none⟩ = some (.int .i64 0) := by rw [hB.cell (by simp)]; simp [go_sem]
          have q1 : w'.cell? ⟨wr.heap.size + 1, 1, none⟩ = some (.int .i64 0) := by rw [hB.cell (by simp)]; simp [go_sem]
          exact ⟨_, rfl, rfl, ⟨by simp; omega, by simp [go_sem, q0], by simp [go_sem, q1]⟩, ((((alloc_old wr _).alloc (by simp) _).drew.trans (hB.mono (by simp; omega))).setCell (by simp) _).setCell (by simp) _⟩
      case rest =>
        obtain ⟨g, rfl, rfl, hat, hbx⟩ := hcut
        obtain ⟨g1, g2, g3⟩ := hat
        have HBX := Lib.hid hbx; clear hbx
        clear s0 s1 s2 s3 s4 t0 t2
        by_cases hc0 : c = 0
        · subst hc0
          obtain ⟨pq, hpq⟩ : ∃ pq, fp = some pq := by
            cases fp with
            | none => have := HFP.out; simp [fndR] at this
            | some pq => exact ⟨pq, rfl⟩
          have HP : Hid (fp = some (pa, pb)) := by
            have := HFP.out; rw [hpq] at this ⊢; simp only [fndR, Prod.mk.injEq] at this; rw [this.1]; rfl
          clear hpq
          go_wp2_with (at_builtin; refine wpList_append_own _ rfl _ _ 22 rfl w3.heap.size 63 i0 (.agg #[.int .i64 0, .int .i64 0]) 2 16 Tryz.underlying22 HI.out.1 HI.out.2.1 HI.out.2.2.1 HI.out.2.2.2 rfl (by decide) _ acc.length (placeCells acc) rfl ?c0 _ 1 1 [.int .i64 pa, .int .i64 pb] rfl rfl ?c1 two_one ?c3 ?c4 ?c5 ?_)
          case c0 => exact PRow.keep (HBX.out.alloc HBX.out.size _) HOWN.out
          case c1 => exact two_news (by simp [go_sem]) (by simp [go_sem])
          case c3 => unfold maxLen; omega
          case c4 => omega
          case c5 => have := HBW.out.size; have := HBX.out.size; simp; omega
          intro v5 w4 hown3 hgrow3 _
          have HOW3 := Lib.hid (PRow.snoc hown3); clear hown3
          have HB4 : Hid (Below w3.heap.size w3 w4) := ((HBW.out.trans (HBX.out.mono HBW.out.size)).alloc (Nat.le_trans HBW.out.size HBX.out.size) _).grown hgrow3 (by have := HBW.out.size; have := HBX.out.size; simp; omega) (fun q e => (World.ownsRow.lt HOWN.out q e).1)
          clear hgrow3
          go_wp2
          go_roundw
          case rel => exact ⟨j + 1, _, by omega, by go_num, by simp; omega, HKT.out.1 _ HP.out, HOW3.out, HB4.out⟩
          case measure => simp [intOf]; omega
        · have hcb : (c == 0) = false := by simpa using hc0
          have HN : Hid (fp = none) := by
            cases fp with
            | none => exact Lib.hid rfl
            | some pq => have := HFP.out; simp only [fndR, Prod.mk.injEq] at this; exact absurd this.2.symm hc0
          clear hc0
          go_wp2
          go_roundw
          case rel => exact ⟨j + 1, acc, by omega, by go_num, by omega, HKT.out.2 HN.out, PRow.keep HBX.out HOWN.out, HBW.out.trans (HBX.out.mono HBW.out.size)⟩
          case measure => simp [intOf]; omega
    · have hall := HACC.out
      rw [List.take_of_length_le (by omega)] at hall
      have HALL := Lib.hid hall; clear hall
      go_wp2_with fail
      refine (HSORT.out _ _ acc wr HOWN.out (by omega)).mono ?_
      rintro e w' ⟨rfl, ps', hperm, -, hrow, hkb⟩
      have HPS := Lib.hid (And.intro hperm (And.intro hrow hkb)); clear hperm hrow hkb
      go_wp2
      go_ret
      obtain ⟨hperm, hrow, hkb⟩ := HPS.out
      have hlen := hperm.length_eq
      refine ⟨_, rfl, ps', hrow.row (by omega), fun q => ?_, by omega, fun g hg => ?_, ?_⟩
      · rw [hperm.mem_iff, HALL.out q, HKN.out q]
      · have := (HOWN.out.lt g hg).1; have := HB3.out.size; omega
      · exact HBV.out.trans (hkb.below HBV.out.size (fun k hk e => by have := (HOWN.out.lt k e).1; have := HB3.out.size; omega))
end Go.Proofs.YtdjgkmpjhpnkeaaGreatDoor
namespace Go.Proofs.YtdjgkmpjhpnkeaaGreatDoor
open Go.RowKit Go.Maps
theorem nodup_sub {α : Type} [DecidableEq α] : ∀ (l m : List α), l.Nodup → (∀ x ∈ l, x ∈ m) → l.length ≤ m.length
  | [], _, _, _ => Nat.zero_le _
  | a :: r, m, hn, h => by
    obtain ⟨h1, h2⟩ := List.nodup_cons.1 hn
    have ih := nodup_sub r (m.erase a) h2 fun x hx => (List.mem_erase_of_ne (fun e => h1 (by rw [← e]; exact hx))).2 (h x (List.mem_cons_of_mem _ hx))
    rw [List.length_erase_of_mem (h a List.mem_cons_self)] at ih
    have : 0 < m.length := List.length_pos_of_mem (h a List.mem_cons_self)
    simp only [List.length_cons]; omega
theorem valid_mem {l : List GObj} {x : PP} (h : validP l x) : x ∈ (flat l).map (fun y => (y.obj, y.sym)) := by
  obtain ⟨o, s, h1, h2⟩ := h
  exact List.mem_map.2 ⟨⟨x.1, x.2, s⟩, mem_flat h1 h2, rfl⟩
theorem valid_len {l : List GObj} {L : List PP} (hm : mayAll l = true) (hn : L.Nodup) (hv : ∀ x ∈ L, validP l x) : L.length ≤ 1024 := by
  have h1 := nodup_sub L ((flat l).map (fun y => (y.obj, y.sym))) hn fun x hx => valid_mem (hv x hx)
  have h2 := flat_length_le hm
  rw [List.length_map] at h1
  omega
theorem Goes.valid {l : List GObj} {p : PP} {L : List PP} {F : PP → Option PP} {n : Nat} (g : Goes l p L F n) (hp : validP l p) : ∀ x ∈ L, validP l x := fun x hx => by
  obtain ⟨i, hi, rfl⟩ := List.mem_iff_getElem.1 hx
  exact (g.reach i hi).valid hp
theorem Goes.len {l : List GObj} {p : PP} {L : List PP} {F : PP → Option PP} {n : Nat} (g : Goes l p L F n) (hp : validP l p) (hc : (beginR l).2 = 0) : L.length ≤ 1024 := valid_len (beginR_zero hc).1 g.nd (g.valid hp)
theorem Goes.next {l : List GObj} {p : PP} {L : List PP} {F : PP → Option PP} {n : Nat} (g : Goes l p L F n) (x : PP) (hx : L[n]? = some x) (h : ∀ q, knowsP l x q → q ∈ L) : Goes l p L F (n + 1) :=
  ⟨g.head, g.nd, g.dom, g.par, fun i hi hin q hq => by
    by_cases h1 : i < n
    · exact g.closed i hi h1 q hq
    · obtain rfl : i = n := by omega
      rw [List.getElem?_eq_getElem hi] at hx
      rw [Option.some.inj hx] at hq
      exact h q hq⟩
theorem newL_len (L : List PP) (F : PP → Option PP) (q : PP) : L.length ≤ (newL L F q).length ∧ (newL L F q).length ≤ L.length + 1 := by
  unfold newL
  split <;> simp
theorem newL_get {L : List PP} {F : PP → Option PP} {q x : PP} {n : Nat} (h : L[n]? = some x) : (newL L F q)[n]? = some x := by
  unfold newL
  split
  · exact h
  · rw [List.getElem?_append_left (List.getElem?_eq_some_iff.1 h).1]; exact h
theorem newL_mem {L : List PP} {F : PP → Option PP} {q x : PP} (h : x ∈ L) : x ∈ newL L F q := by
  unfold newL
  split
  · exact h
  · exact List.mem_append.2 (.inl h)
theorem Goes.new {l : List GObj} {p q x : PP} {L : List PP} {F : PP → Option PP} {n : Nat} (g : Goes l p L F n) (hx : L[n]? = some x) (hk : knowsP l x q) : Goes l p (newL L F q) (newF F q x) n ∧ q ∈ newL L F q := by
  have hlt := (List.getElem?_eq_some_iff.1 hx).1
  have hxe : L[n] = x := (List.getElem?_eq_some_iff.1 hx).2
  unfold newL newF
  cases hF : (F q).isSome with
  | true => exact ⟨g, (g.dom q).1 hF⟩
  | false =>
    have := g.put (i := n) (by omega) hlt (by rw [hxe]; exact hk) (q := q) (by simpa using hF)
    rw [hxe] at this
    exact ⟨this, by simp⟩
theorem Goes.full {l : List GObj} {p : PP} {L : List PP} {F : PP → Option PP} {n : Nat} (g : Goes l p L F n) (h : L.length ≤ n) : Goes l p L F L.length := ⟨g.head, g.nd, g.dom, g.par, fun i hi _ q hq => g.closed i hi (by omega) q hq⟩
/-- what a round of goes keeps: the symbols known of one, put one by one -/
structure Inn (w0 wk : World) (sb mb : Nat) (ov : Value) (l : List GObj) (p x : PP) (n : Nat) (ks : List PP) (bk k : Nat) (v : Value) (L : List PP) (F : PP → Option PP) (wi : World) : Prop where
  st : SrchSt w0.heap.size sb mb ov v L F wi
  g : Goes l p L F n
  x : L[n]? = some x
  m : ∀ i (h : i < ks.length), i < k → ks[i] ∈ L
  hb : 0 < ks.length → wi.heap[bk]? = wk.heap[bk]? ∧ v.ownBlock ≠ some bk ∧ bk < wi.heap.size ∧ sb ≠ bk ∧ mb ≠ bk
  b : Below w0.heap.size w0 wi
theorem Inn.step {w0 wk wi w5 w6 : World} {sb mb : Nat} {ov : Value} {l : List GObj} {p x : PP} {n : Nat} {ks : List PP} {bk k : Nat} {v : Value} {L : List PP} {F : PP → Option PP} {e : Ending} (h : Inn w0 wk sb mb ov l p x n ks bk k v L F wi) (hk : k < ks.length) (hkn : ∀ q ∈ ks, knowsP l x q)
    (hb : Below wi.heap.size wi w5) (hp : PutPost w0.heap.size sb mb ov v L F ks[k] x w5 e w6) : ∃ v' L' F', Inn w0 wk sb mb ov l p x n ks bk (k + 1) v' L' F' w6 := by
  obtain ⟨-, v', h1, h2, h3⟩ := hp
  obtain ⟨b1, b2, b3, b4, b5⟩ := h.hb (by omega)
  obtain ⟨g1, g2⟩ := h.g.new h.x (hkn _ (List.getElem_mem hk))
  have hz := hb.size
  refine ⟨v', _, _, h1, g1, newL_get h.x, fun i hi hik => ?_, fun _ => ⟨?_, ?_, ?_, b4, b5⟩, ?_⟩
  · by_cases hik' : i < k
    · exact newL_mem (h.m i hi hik')
    · obtain rfl : i = k := by omega
      exact g2
  · rw [h2.block bk (by omega) (by rintro (r | r | r); exact b4 r.symm; exact b5 r.symm; exact b2 r), hb.block bk b3]; exact b1
  · rcases h3 with h3 | ⟨g, h3, h4⟩
    · rw [h3]; exact b2
    · rw [h3]; intro r; cases r; omega
  · have := h2.size; omega
  · exact (h.b.trans (hb.mono h.b.size)).trans (h2.below (by have := h.b.size; omega) (fun k' hk' r => by
      rcases r with r | r | r
      · have := h.st.sbl; omega
      · have := h.st.mbl; omega
      · have := (h.st.row.lt k' r).1; omega))
end Go.Proofs.YtdjgkmpjhpnkeaaGreatDoor
namespace Go.Proofs.YtdjgkmpjhpnkeaaGreatDoor
inductive Up (l : List GObj) (L : List PP) (x : PP) : List PP → Nat → Prop
  | start {i : Nat} : L[i]? = some x → Up l L x [x] i
  | step {D : List PP} {i j : Nat} {y z : PP} : Up l L x D i → j < i → L[i]? = some y → L[j]? = some z → knowsP l z y → Up l L x (D ++ [z]) j
theorem Up.last {l : List GObj} {L : List PP} {x : PP} {D : List PP} {i : Nat} (h : Up l L x D i) : ∃ y, L[i]? = some y ∧ D.getLast? = some y := by
  cases h with
  | start h => exact ⟨x, h, rfl⟩
  | step _ _ _ h _ => exact ⟨_, h, by simp⟩
theorem Up.first {l : List GObj} {L : List PP} {x : PP} {D : List PP} {i : Nat} (h : Up l L x D i) : D[0]? = some x := by
  induction h with
  | start h => rfl
  | step h' _ _ _ _ ih =>
    rw [List.getElem?_append_left (List.getElem?_eq_some_iff.1 ih).1]; exact ih
theorem Up.mem {l : List GObj} {L : List PP} {x : PP} {D : List PP} {i : Nat} (h : Up l L x D i) : ∀ z ∈ D, ∃ k, i ≤ k ∧ L[k]? = some z := by
  induction h with
  | start h => intro z hz; obtain rfl := List.mem_singleton.1 hz; exact ⟨_, Nat.le_refl _, h⟩
  | step h' hj _ hz _ ih =>
    intro u hu
    rcases List.mem_append.1 hu with hu | hu
    · obtain ⟨k, h1, h2⟩ := ih u hu; exact ⟨k, by omega, h2⟩
    · obtain rfl := List.mem_singleton.1 hu; exact ⟨_, Nat.le_refl _, hz⟩
theorem nodup_idx {L : List PP} (hn : L.Nodup) {i j : Nat} {z : PP} (h1 : L[i]? = some z) (h2 : L[j]? = some z) : i = j := by
  obtain ⟨a, e1⟩ := List.getElem?_eq_some_iff.1 h1
  obtain ⟨b, e2⟩ := List.getElem?_eq_some_iff.1 h2
  by_cases h : i = j
  · exact h
  · rcases Nat.lt_or_gt_of_ne h with h | h
    · exact absurd (e1.trans e2.symm) (List.pairwise_iff_getElem.1 hn i j a b h)
    · exact absurd (e2.trans e1.symm) (List.pairwise_iff_getElem.1 hn j i b a h)
theorem Up.nodup {l : List GObj} {L : List PP} {x : PP} {D : List PP} {i : Nat} (hn : L.Nodup) (h : Up l L x D i) : D.Nodup := by
  induction h with
  | start h => exact List.nodup_cons.2 ⟨by simp, List.nodup_nil⟩
  | step h' hj _ hz _ ih =>
    rw [List.nodup_append]
    refine ⟨ih, List.nodup_cons.2 ⟨by simp, List.nodup_nil⟩, fun a ha b hb => ?_⟩
    obtain rfl := List.mem_singleton.1 hb
    rintro rfl
    obtain ⟨k, h1, h2⟩ := h'.mem a ha
    have := nodup_idx hn h2 hz
    omega
theorem Up.links {l : List GObj} {L : List PP} {x : PP} {D : List PP} {i : Nat} (h : Up l L x D i) : ∀ k (hk : k + 1 < D.length), knowsP l D[k + 1] D[k] := by
  induction h with
  | start h => intro k hk; simp at hk
  | @step D i j y z h' hj hy hz hkn ih =>
    intro k hk
    by_cases hk2 : k + 1 < D.length
    · rw [List.getElem_append_left hk2, List.getElem_append_left (by omega)]; exact ih k hk2
    · have hkl : k + 1 = D.length := by simp at hk; omega
      obtain ⟨y', h1, h2⟩ := h'.last
      rw [hy] at h1
      cases h1
      have e1 : (D ++ [z])[k + 1] = z := by simp [hkl]
      have e2 : (D ++ [z])[k] = y := by
        rw [List.getElem_append_left (by omega)]
        rw [List.getLast?_eq_getElem?, List.getElem?_eq_some_iff] at h2
        obtain ⟨h3, h4⟩ := h2
        rw [← h4]
        congr 1
        omega
      rw [e1, e2]; exact hkn
/-- a way from one symbol to another one -/
structure ChainOf (l : List GObj) (p x : PP) (C : List PP) : Prop where
  first : C[0]? = some p
  last : C.getLast? = some x
  links : ∀ k (hk : k + 1 < C.length), knowsP l C[k] C[k + 1]
  reach : ∀ y ∈ C, Reach l p y
  nd : C.Nodup
theorem Up.chain {l : List GObj} {L : List PP} {F : PP → Option PP} {p x : PP} {D : List PP} {i : Nat} (g : Goes l p L F L.length) (h : Up l L x D i) (hi : L[i]? = some p) : ChainOf l p x D.reverse := by
  obtain ⟨y, h1, h2⟩ := h.last
  rw [hi] at h1; cases h1
  refine ⟨?_, ?_, fun k hk => ?_, fun y hy => ?_, by unfold List.Nodup; rw [List.pairwise_reverse]; exact (h.nodup g.nd).imp fun h => Ne.symm h⟩
  · rw [← List.head?_eq_getElem?, List.head?_reverse]; exact h2
  · rw [List.getLast?_reverse, List.head?_eq_getElem?]; exact h.first
  · have hk' : k + 1 < D.length := by simpa using hk
    have := h.links (D.length - 1 - (k + 1)) (by omega)
    rw [List.getElem_reverse, List.getElem_reverse]
    have e : D.length - 1 - (k + 1) + 1 = D.length - 1 - k := by omega
    simp only [e] at this
    exact this
  · obtain ⟨k, -, h3⟩ := h.mem y (List.mem_reverse.1 hy)
    exact (g.done (Nat.le_refl _) y).1 (List.mem_of_getElem? h3)
theorem Up.len {l : List GObj} {L : List PP} {x : PP} {D : List PP} {i : Nat} (hn : L.Nodup) (h : Up l L x D i) : D.length ≤ L.length :=
  nodup_sub D L (h.nodup hn) fun z hz => by obtain ⟨k, -, h2⟩ := h.mem z hz; exact List.mem_of_getElem? h2
/-- one step back -/
theorem Goes.back {l : List GObj} {p y : PP} {L : List PP} {F : PP → Option PP} (g : Goes l p L F L.length) {i : Nat} (hy : L[i]? = some y) (hne : y ≠ p) : ∃ j z, j < i ∧ F y = some z ∧ L[j]? = some z ∧ knowsP l z y := by
  obtain ⟨hi, rfl⟩ := List.getElem?_eq_some_iff.1 hy
  rcases g.par i hi with ⟨h1, h2⟩ | ⟨j, hj, h1, h2⟩
  · subst h1
    have := g.head
    rw [List.getElem?_eq_getElem hi] at this
    exact absurd (Option.some.inj this) hne
  · exact ⟨j, L[j], hj, h1, List.getElem?_eq_getElem _, h2⟩
end Go.Proofs.YtdjgkmpjhpnkeaaGreatDoor
namespace Go.Proofs.YtdjgkmpjhpnkeaaGreatDoor
def g13 : ByteArray := ⟨#[103]⟩
def f13 : ByteArray := ⟨#[102]⟩
def m13 : ByteArray := ⟨#[109, 97, 105, 110]⟩
def x13 : ByteArray := ⟨#[120]⟩
def one13 (n t : ByteArray) : GSym := ⟨n, 1, 2, 8, ⟨#[0, 0, 0, 0]⟩, [⟨0, 1, t, 0⟩], []⟩
def none13 (n : ByteArray) : GSym := ⟨n, 1, 2, 4, ⟨#[]⟩, [], []⟩
def syms13 : List GSym := [one13 m13 f13, one13 f13 f13, none13 g13]
def objs13 : List GObj := [⟨⟨#[111]⟩, syms13⟩]
theorem b13 : (beginR objs13).2 = 0 := by decide +kernel
theorem fm13 : findR objs13 (-1) m13.data.toList = some (0, 0) := by decide +kernel
theorem fx13 : findR objs13 (-1) x13.data.toList = none := by decide +kernel
theorem ff13 : findR objs13 0 f13.data.toList = some (0, 1) := by decide +kernel
theorem k00 (q : PP) : knowsP objs13 (0, 0) q ↔ q = (0, 1) := by
  constructor
  · rintro ⟨x, hx, hf⟩
    have : x = ⟨0, 1, f13, 0⟩ := by
      have h : relsAt objs13 0 0 = [⟨0, 1, f13, 0⟩] := rfl
      rw [h] at hx; exact List.mem_singleton.1 hx
    subst this
    have h2 : findR objs13 0 f13.data.toList = some q := hf
    rw [ff13] at h2
    exact (Option.some.inj h2).symm
  · rintro rfl
    exact ⟨⟨0, 1, f13, 0⟩, by rw [show relsAt objs13 (0, 0).1 (0, 0).2 = [⟨0, 1, f13, 0⟩] from rfl]; exact List.mem_singleton.2 rfl, ff13⟩
theorem k01 (q : PP) : knowsP objs13 (0, 1) q ↔ q = (0, 1) := by
  constructor
  · rintro ⟨x, hx, hf⟩
    have : x = ⟨0, 1, f13, 0⟩ := by
      have h : relsAt objs13 0 1 = [⟨0, 1, f13, 0⟩] := rfl
      rw [h] at hx; exact List.mem_singleton.1 hx
    subst this
    have h2 : findR objs13 0 f13.data.toList = some q := hf
    rw [ff13] at h2
    exact (Option.some.inj h2).symm
  · rintro rfl
    exact ⟨⟨0, 1, f13, 0⟩, by rw [show relsAt objs13 (0, 1).1 (0, 1).2 = [⟨0, 1, f13, 0⟩] from rfl]; exact List.mem_singleton.2 rfl, ff13⟩
theorem reach13 (x : PP) : Reach objs13 (0, 0) x ↔ x = (0, 0) ∨ x = (0, 1) := by
  constructor
  · intro h
    induction h with
    | refl => exact .inl rfl
    | step _ k ih =>
      rcases ih with rfl | rfl
      · exact .inr ((k00 _).1 k)
      · exact .inr ((k01 _).1 k)
  · rintro (rfl | rfl)
    · exact .refl
    · exact .step .refl ((k00 _).2 rfl)
theorem kept13 : KeptOf objs13 (0, 0) [(0, 0), (0, 1)] := by
  refine ⟨List.pairwise_cons.2 ⟨fun a ha => ?_, List.pairwise_cons.2 ⟨fun a ha => (by cases ha), List.Pairwise.nil⟩⟩, fun x => ?_⟩
  · obtain rfl := List.mem_singleton.1 ha
    exact .inr ⟨rfl, by decide⟩
  · rw [reach13]; simp
theorem keptIs13 {K : List PP} (h : KeptOf objs13 (0, 0) K) : K = [(0, 0), (0, 1)] := h.eq kept13
theorem chain13 {C : List PP} (h : ChainOf objs13 (0, 0) (0, 1) C) : C.length = 2 := by
  have h1 := nodup_sub C [(0, 0), (0, 1)] h.nd fun y hy => by
    have := (reach13 y).1 (h.reach y hy)
    simpa using this
  have h2 := h.first
  have h3 := h.last
  match C, h1, h2, h3 with
  | [a], _, h2, h3 => simp at h2 h3; rw [h2] at h3; cases h3
  | [a, b], _, _, _ => rfl
theorem valid13 : validP objs13 (0, 0) := ⟨_, _, rfl, rfl⟩
end Go.Proofs.YtdjgkmpjhpnkeaaGreatDoor
