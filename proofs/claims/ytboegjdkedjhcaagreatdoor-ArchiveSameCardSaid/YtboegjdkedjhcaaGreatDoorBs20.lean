/- The walk of reach's known. -/
import Derived.Test.YtboegjdkedjhcaaGreatDoorBs13
import Derived.Test.YtboegjdkedjhcaaGreatDoorBs14
import Derived.Test.YtboegjdkedjhcaaGreatDoorBs07
import Derived.Test.YtboegjdkedjhcaaGreatDoorBs04
import Derived.Deep.RegionHeld3
import Derived.Deep.DeepCutAuto
import Derived.BigQuiet
import Derived.Outline
namespace Go.Proofs.YtboegjdkedjhcaaGreatDoor
open Go.RowKit Go.Maps Go.WideMaps
def KnownPost (l : List GObj) (p : PP) (w : World) (e : Ending) (w' : World) : Prop :=
 ∃ vo, e = .returned vo ∧ ∃ ks : List PP, RowAt 2 PlaceR w' vo ks ∧ (∀ q, q ∈ ks ↔ knowsP l p q) ∧ ks.length ≤ 1024 ∧ (∀ g, vo.ownBlock = some g → w.heap.size ≤ g) ∧ Below w.heap.size w w'
def fndR (fp : Option PP) : PP × Int := match fp with | some p => (p, 0) | none => ((0, 0), 121)
theorem findAll_at {l : List GObj} {a : Nat} {n : List UInt8} (hc : (beginR l).2 = 0) (ha : a < l.length) : findAll l a n = fndR (findR l a n) := by
 unfold fndR; unfold findAll; rw [hc, if_neg (by simp), if_neg (by omega)]
 cases findR l a n <;> rfl
theorem known_take {l : List GObj} {a : Nat} {rs : List GRel} {j : Nat} {acc : List PP} (hlt : j < rs.length) (h : ∀ q, q ∈ acc ↔ ∃ x ∈ rs.take j, findR l a x.name.data.toList = some q) :
 (∀ p, findR l a rs[j].name.data.toList = some p → ∀ q, q ∈ acc ++ [p] ↔ ∃ x ∈ rs.take (j + 1), findR l a x.name.data.toList = some q) ∧
 (findR l a rs[j].name.data.toList = none → ∀ q, q ∈ acc ↔ ∃ x ∈ rs.take (j + 1), findR l a x.name.data.toList = some q) := by
 have ht : rs.take (j + 1) = rs.take j ++ [rs[j]] := List.take_succ_eq_append_getElem hlt; constructor
 ·intro p hp q; rw [ht, List.mem_append, h q]; constructor
  ·rintro (⟨x, h1, h2⟩ | h1)
   ·exact ⟨x, List.mem_append.2 (.inl h1), h2⟩
   ·exact ⟨rs[j], List.mem_append.2 (.inr (by simp)), by rw [hp, List.mem_singleton.1 h1]⟩
  ·rintro ⟨x, h1, h2⟩; rcases List.mem_append.1 h1 with h1 | h1
   ·exact .inl ⟨x, h1, h2⟩
   ·rw [List.mem_singleton.1 h1, hp] at h2; exact .inr (List.mem_singleton.2 (Option.some.inj h2).symm)
 ·intro hn q; rw [ht, h q]; constructor
  ·rintro ⟨x, h1, h2⟩; exact ⟨x, List.mem_append.2 (.inl h1), h2⟩
  ·rintro ⟨x, h1, h2⟩; rcases List.mem_append.1 h1 with h1 | h1
   ·exact ⟨x, h1, h2⟩
   ·rw [List.mem_singleton.1 h1, hn] at h2; cases h2
set_option maxRecDepth 100000 in
set_option maxHeartbeats 4000000 in
theorem known_any (hsort : SortOk) (sb : Nat) (v : Value) (l : List GObj) (a b : Nat) (w : World) (hsb : sb < w.heap.size) (hov : w.cell? ⟨sb, 2, none⟩ = some v) (h : ObjsAt w v l) (hc : (beginR l).2 = 0) (ha : a < l.length) (hb : b < l[a].syms.length) :
 Calls Tryz.prog 145 #[.pointer (some ⟨sb, 0, none⟩), placeV (a, b)] w (KnownPost l (a, b) w) := by
 have HO := Lib.hid h; have HSORT := Lib.hid hsort; clear hsort; have hrl := relsP_le (beginR_zero hc).1 ha hb; have HC := Lib.hid hc; clear hc
 have hkn : ∀ q, knowsP l (a, b) q ↔ ∃ x ∈ l[a].syms[b].rels, findR l a x.name.data.toList = some q := fun q => by
  unfold knowsP; rw [relsAt_eq ha hb]
 have HKN := Lib.hid hkn; clear hkn; obtain ⟨p, cap, bb, o, rfl, hcap, hmax, hp, hcc⟩ := h; obtain rfl := hp (by omega)
 obtain ⟨vs, g0, -, g2, ⟨pS, capS, bS, oS, rfl, hcapS, hmaxS, hpS, hcS⟩, -⟩ := hcc a ha; obtain rfl := hpS (by omega)
 obtain ⟨vr, vn, s0, -, -, -, -, -, s6, -, ⟨pR, capR, bR, oR, rfl, hcapR, hmaxR, hpR, hcR⟩, -⟩ := hcS b hb; clear hcc hp hpS hcS; generalize l[a].syms[b].rels = rs at *; generalize l[a].syms.length = nS at *; have HCR := Lib.hid hcR; have HPR := Lib.hid hpR; have HSB := Lib.hid hsb; have HOV := Lib.hid hov; clear hcR hpR; obtain ⟨i0, hin0, hz0, hz1, hz2⟩ := info_parts info_place; have HI := Lib.hid (And.intro hin0 (And.intro hz0 (And.intro hz1 hz2))); clear hin0 hz0 hz1 hz2; have d5 : decide (l.length ≤ a) = false := by simpa using ha
 have d6 : decide (nS ≤ b) = false := by simpa using hb
 unfold placeV; simp only []; go_enter Tryz.func145, Tryz.ntmps145; go_wp2_with fail
 go_quiet (fail)
 go_wp2; have HB3 : Hid (Below w.heap.size w ((w.alloc (.cells #[.int .i64 a, .int .i64 b] 185)).drewN nq)) := below_drewN (alloc_old w _) nq; have p0 : ((w.alloc (.cells #[.int .i64 a, .int .i64 b] 185)).drewN nq).cell? ⟨w.heap.size, 0, none⟩ = some (.int .i64 a) := by simp [go_sem]
 have hz3 : w.heap.size < ((w.alloc (.cells #[.int .i64 a, .int .i64 b] 185)).drewN nq).heap.size := by simp
 clear hsb hov g0 g2 s0 s6 d5 d6; have P0 := Lib.hid p0; clear p0; generalize (w.alloc (.cells #[.int .i64 a, .int .i64 b] 185)).drewN nq = w3 at *
 go_loopw [5, 25] (fun v5 v25 wr => ∃ (j : Nat) (acc : List PP), j ≤ rs.length ∧ v25 = .int .i64 j ∧ acc.length ≤ j ∧ (∀ q, q ∈ acc ↔ ∃ x ∈ rs.take j, findR l a x.name.data.toList = some q) ∧ PRow w3.heap.size wr v5 acc ∧ Below w3.heap.size w3 wr) (fun _ v25 _ => rs.length - (intOf v25).toNat)
 case atStart => exact ⟨0, [], Nat.zero_le _, rfl, Nat.le_refl _, fun q => by simp, PRow.nil _ _, Below.refl _ _⟩
 case round =>
  obtain ⟨j, acc, hj, rfl, hal, hacc, hown, hbel⟩ := hrel; have HACC := Lib.hid hacc; clear hacc; have HOWN := Lib.hid hown; clear hown; have HBW := Lib.hid hbel; clear hbel; have HBV : Hid (Below w.heap.size w wr) := HB3.out.trans (HBW.out.mono HB3.out.size)
  by_cases hlt : j < rs.length
  ·obtain rfl := HPR.out (by omega)
   obtain ⟨s0, s1, s2, s3, s4, -, -, -, hnm⟩ := relR_keeps _ _ _ _ _ HBV.out (HCR.out j hlt); have HKT := Lib.hid (known_take hlt HACC.out); generalize hx : rs[j] = x at s1 s2 s3 s4 hnm HKT; obtain ⟨xo, xk, xn, xa⟩ := x; simp only [] at s1 s2 s3 s4 hnm HKT; clear hx; have t0 : wr.cell? ⟨w.heap.size, 0, none⟩ = some (.int .i64 a) := cell_keep HBW.out hz3 P0.out; have t2 : wr.cell? ⟨sb, 2, none⟩ = some (.slice (some ⟨bb, o, none⟩) l.length cap) := cell_keep HBV.out HSB.out HOV.out; have hzr : w.heap.size < wr.heap.size := size_keep HBW.out hz3; have hzsb : sb < wr.heap.size := size_keep HBV.out HSB.out; have hne0 : ¬ wr.heap.size = w.heap.size := by omega
   have hne1 : ¬ wr.heap.size = sb := by omega
   have hne2 : ¬ wr.heap.size + 1 = sb := by omega
   have hne3 : ¬ wr.heap.size + 1 = w.heap.size := by omega
   have HF : Hid (∀ W, Below wr.heap.size wr W → Calls Tryz.prog 114 #[.slice (some ⟨bb, o, none⟩) l.length cap, .int .i64 a, .string xn] W fun e w' => e = .returned (findV (fndR (findR l a xn.data.toList))) ∧ Below W.heap.size W w') := fun W hW => by
    have := resFind_any (.slice (some ⟨bb, o, none⟩) l.length cap) l a xn W (ObjsAt.keep (HBV.out.trans (hW.mono HBV.out.size)) HO.out) (by omega)
    rw [findAll_at HC.out ha] at this; exact this
   generalize findR l a xn.data.toList = fp at HF HKT; obtain ⟨pa, pb, c, hfp⟩ : ∃ (pa pb : Nat) (c : Int), fndR fp = ((pa, pb), c) := ⟨_, _, _, rfl⟩
   have HF2 : Hid (∀ W, Below wr.heap.size wr W → Calls Tryz.prog 114 #[.slice (some ⟨bb, o, none⟩) l.length cap, .int .i64 a, .string xn] W fun e w' => e = .returned (.tuple #[.agg #[.int .i64 pa, .int .i64 pb], .int .i64 c]) ∧ Below W.heap.size W w') := fun W hW => by
    have := HF.out W hW; rw [hfp] at this; exact this
   have HFP := Lib.hid hfp; clear hfp HF; go_wp2_with fail
   go_cut [8, 9] (fun v8 v9 wx => ∃ g, v8 = .pointer (some ⟨g, 0, none⟩) ∧ v9 = .int .i64 c ∧ PlaceAt wx g pa pb ∧ Below wr.heap.size wr wx)
   case first =>
    go_region_held3 (fun w' => w'.cell? ⟨sb, 2, none⟩ = some (.slice (some ⟨bb, o, none⟩) l.length cap) ∧ w'.cell? ⟨w.heap.size, 0, none⟩ = some (.int .i64 a) ∧ w'.cell? ⟨wr.heap.size, 2, none⟩ = some (.string xn)) (go_keep) (first | (go_at_call 114; refine (HF2.out _ ?_).mono ?_; (go_grown); rintro e w' ⟨rfl, hB⟩; have k1 : w'.cell? ⟨sb, 2, none⟩ = some (.slice (some ⟨bb, o, none⟩) l.length cap) := cell_keep hB (by simp; omega) (by simp [go_sem, *]); have k2 : w'.cell? ⟨w.heap.size, 0, none⟩ = some (.int .i64 a) := cell_keep hB (by simp <;> omega) (by simp [go_sem, *]); have k3 : w'.cell? ⟨wr.heap.size, 2, none⟩ = some (.string xn) := cell_keep hB (by simp <;> omega) (by simp [go_sem, *]); obtain ⟨hc1, hf1⟩ := bcell hB))
    all_goals (go_wp2_with fail)
    all_goals go_meet
    ·have hz := hB.size; simp only [World.size_alloc, World.size_drew] at hz; exact ⟨_, rfl, rfl, ⟨by simp, by simp [go_sem], by simp [go_sem]⟩, (((alloc_old wr _).drew.trans (hB.mono (by simp))).alloc (by omega) _)⟩
    ·have hz := hB.size; simp only [World.size_alloc, World.size_drew] at hz; have q0 : w'.cell? ⟨wr.heap.size + 1, 0, none⟩ = some (.int .i64 0) := by rw [hB.cell (by simp)]; simp [go_sem]
     have q1 : w'.cell? ⟨wr.heap.size + 1, 1, none⟩ = some (.int .i64 0) := by rw [hB.cell (by simp)]; simp [go_sem]
     exact ⟨_, rfl, rfl, ⟨by simp; omega, by simp [go_sem, q0], by simp [go_sem, q1]⟩, ((((alloc_old wr _).alloc (by simp) _).drew.trans (hB.mono (by simp; omega))).setCell (by simp) _).setCell (by simp) _⟩
   case rest =>
    obtain ⟨g, rfl, rfl, hat, hbx⟩ := hcut; obtain ⟨g1, g2, g3⟩ := hat; have HBX := Lib.hid hbx; clear hbx; clear s0 s1 s2 s3 s4 t0 t2
    by_cases hc0 : c = 0
    ·subst hc0
     obtain ⟨pq, hpq⟩ : ∃ pq, fp = some pq := by
      cases fp with
      | none => have := HFP.out; simp [fndR] at this
      | some pq => exact ⟨pq, rfl⟩
     have HP : Hid (fp = some (pa, pb)) := by
      have := HFP.out; rw [hpq] at this ⊢; simp only [fndR, Prod.mk.injEq] at this; rw [this.1]; rfl
     clear hpq; go_wp2_with (at_builtin; refine wpList_append_own _ rfl _ _ 134 rfl w3.heap.size 185 i0 (.agg #[.int .i64 0, .int .i64 0]) 2 16 Tryz.underlying134 HI.out.1 HI.out.2.1 HI.out.2.2.1 HI.out.2.2.2 rfl (by decide) _ acc.length (placeCells acc) rfl ?c0 _ 1 1 [.int .i64 pa, .int .i64 pb] rfl rfl ?c1 two_one ?c3 ?c4 ?c5 ?_)
     case c0 => exact PRow.keep (HBX.out.alloc HBX.out.size _) HOWN.out
     case c1 => exact two_news (by simp [go_sem]) (by simp [go_sem])
     case c3 => unfold maxLen; omega
     case c4 => omega
     case c5 => have := HBW.out.size; have := HBX.out.size; simp; omega
     intro v5 w4 hown3 hgrow3 _; have HOW3 := Lib.hid (PRow.snoc hown3); clear hown3; have HB4 : Hid (Below w3.heap.size w3 w4) := ((HBW.out.trans (HBX.out.mono HBW.out.size)).alloc (Nat.le_trans HBW.out.size HBX.out.size) _).grown hgrow3 (by have := HBW.out.size; have := HBX.out.size; simp; omega) (fun q e => (World.ownsRow.lt HOWN.out q e).1)
     clear hgrow3; go_wp2; go_roundw
     case rel => exact ⟨j + 1, _, by omega, by go_num, by simp; omega, HKT.out.1 _ HP.out, HOW3.out, HB4.out⟩
     case measure => simp [intOf]; omega
    ·have hcb : (c == 0) = false := by simpa using hc0
     have HN : Hid (fp = none) := by
      cases fp with
      | none => exact Lib.hid rfl
      | some pq => have := HFP.out; simp only [fndR, Prod.mk.injEq] at this; exact absurd this.2.symm hc0
     clear hc0; go_wp2; go_roundw
     case rel => exact ⟨j + 1, acc, by omega, by go_num, by omega, HKT.out.2 HN.out, PRow.keep HBX.out HOWN.out, HBW.out.trans (HBX.out.mono HBW.out.size)⟩
     case measure => simp [intOf]; omega
  ·have hall := HACC.out; rw [List.take_of_length_le (by omega)] at hall
   have HALL := Lib.hid hall; clear hall; go_wp2_with fail; refine (HSORT.out _ _ acc wr HOWN.out (by omega)).mono ?_
   rintro e w' ⟨rfl, ps', hperm, -, hrow, hkb⟩; have HPS := Lib.hid (And.intro hperm (And.intro hrow hkb)); clear hperm hrow hkb; go_wp2; go_ret; obtain ⟨hperm, hrow, hkb⟩ := HPS.out; have hlen := hperm.length_eq; refine ⟨_, rfl, ps', hrow.row (by omega), fun q => ?_, by omega, fun g hg => ?_, ?_⟩
   ·rw [hperm.mem_iff, HALL.out q, HKN.out q]
   ·have := (HOWN.out.lt g hg).1; have := HB3.out.size; omega
   ·exact HBV.out.trans (hkb.below HBV.out.size (fun k hk e => by have := (HOWN.out.lt k e).1; have := HB3.out.size; omega))
end Go.Proofs.YtboegjdkedjhcaaGreatDoor
