/- The walk of reach's put. -/
import Derived.Test.YtboegjdkedjhcaaGreatDoorBs14
import Derived.Test.YtboegjdkedjhcaaGreatDoorBs11
import Derived.Deep.RegionHeld3
import Derived.Deep.DeepCutAuto
import Derived.BigQuiet
import Derived.StillTailTactics
import Derived.Outline
import Derived.Lib.Builder
import Derived.Handy
namespace Go.Proofs.YtboegjdkedjhcaaGreatDoor
open Go.RowKit Go.Maps
set_option maxRecDepth 100000 in
set_option maxHeartbeats 2000000 in
theorem put_any (base sb mb : Nat) (ov v : Value) (L : List PP) (F : PP → Option PP) (p q : PP) (w : World) (h : SrchSt base sb mb ov v L F w) (hp : placeOkK p) (hL : L.length ≤ 100000) :
 Calls Tryz.prog 144 #[.pointer (some ⟨sb, 0, none⟩), placeV p, placeV q] w (PutPost base sb mb ov v L F p q w) := by
 obtain ⟨pv, cv, rfl⟩ := own_shape h.row; have HS := Lib.hid h; have HSL := Lib.hid h.lt; have HML := Lib.hid h.map.lt; have c0 : w.cell? ⟨sb, 0, none⟩ = some (.slice pv L.length cv) := Lib.cell_of_heap h.box 0; have c1 : w.cell? ⟨sb, 1, none⟩ = some (.map (some mb)) := Lib.cell_of_heap h.box 1; have f0 : w.frozen? ⟨sb, 0, none⟩ = false := Lib.frozen_of_heap h.box 0
 have hlk : ∀ W : World, Below w.heap.size w W → (Instr.lookup 192 (.map (some mb)) (placeV p) true).run Tryz.prog W = .ok (.tuple #[((F p).map placeV).getD (placeV (0, 0)), .bool (F p).isSome]) W := fun W hW => by
  have := (h.map.below hW h.map.lt).look_ok (a := p) placeKeyed Tryz.underlying192 (zeroPl W) hp; rw [Option.isSome_map] at this; exact this
 clear h; obtain ⟨p1, p2⟩ := p; obtain ⟨q1, q2⟩ := q; unfold placeV; simp only []; have hzs : sb < w.heap.size := HSL.out; have HBB : Hid (Below w.heap.size w ((w.alloc (.cells #[.int .i64 p1, .int .i64 p2] 185)).alloc (.cells #[.int .i64 q1, .int .i64 q2] 185))) := (alloc_old w _).alloc (by simp) _
 have k0 := HBB.out; have b0 : ((w.alloc (.cells #[.int .i64 p1, .int .i64 p2] 185)).alloc (.cells #[.int .i64 q1, .int .i64 q2] 185)).cell? ⟨w.heap.size, 0, none⟩ = some (.int .i64 p1) := by simp [go_sem]
 have b1 : ((w.alloc (.cells #[.int .i64 p1, .int .i64 p2] 185)).alloc (.cells #[.int .i64 q1, .int .i64 q2] 185)).cell? ⟨w.heap.size, 1, none⟩ = some (.int .i64 p2) := by simp [go_sem]
 have b2 : ((w.alloc (.cells #[.int .i64 p1, .int .i64 p2] 185)).alloc (.cells #[.int .i64 q1, .int .i64 q2] 185)).cell? ⟨w.heap.size + 1, 0, none⟩ = some (.int .i64 q1) := by simp [go_sem]
 have b3 : ((w.alloc (.cells #[.int .i64 p1, .int .i64 p2] 185)).alloc (.cells #[.int .i64 q1, .int .i64 q2] 185)).cell? ⟨w.heap.size + 1, 1, none⟩ = some (.int .i64 q2) := by simp [go_sem]
 have hz2 : w.heap.size + 1 < ((w.alloc (.cells #[.int .i64 p1, .int .i64 p2] 185)).alloc (.cells #[.int .i64 q1, .int .i64 q2] 185)).heap.size := by simp
 replace c0 := cell_keep k0 hzs c0; replace c1 := cell_keep k0 hzs c1; replace f0 := (k0.frozen (p := ⟨sb, 0, none⟩) hzs).trans f0; clear k0; go_enter Tryz.func144, Tryz.ntmps144; go_wp2; generalize (w.alloc (.cells #[.int .i64 p1, .int .i64 p2] 185)).alloc (.cells #[.int .i64 q1, .int .i64 q2] 185) = w2 at *; have hzs2 : sb < w2.heap.size := by omega
 have hz3 : w.heap.size < w2.heap.size := by omega
 cases hF : (F (p1, p2)).isSome with
 | true =>
   obtain ⟨y, hy⟩ := Option.isSome_iff_exists.1 hF; obtain ⟨y1, y2⟩ := y; rw [hy] at hlk; simp only [Option.map_some, Option.getD_some, Option.isSome_some, placeV] at hlk; have HLK := Lib.hid hlk; clear hlk; have HFH := Lib.hid hF; clear hF; have HY := Lib.hid hy; clear hy
   go_region_held3 (fun w' => w'.cell? ⟨sb, 1, none⟩ = some (.map (some mb)) ∧ w'.cell? ⟨w.heap.size, 0, none⟩ = some (.int .i64 p1) ∧ w'.cell? ⟨w.heap.size, 1, none⟩ = some (.int .i64 p2) ∧ (Instr.lookup 192 (.map (some mb)) (.agg #[.int .i64 p1, .int .i64 p2]) true).run Tryz.prog w' = .ok (.tuple #[.agg #[.int .i64 y1, .int .i64 y2], .bool true]) w') ((refine ⟨?_, ?_, ?_, HLK.out _ ?_⟩; go_keep; go_keep; go_keep; (have k0 := HBB.out; go_grown))) (fail)
   all_goals
    go_wp2; go_end0; exact ⟨rfl, _, by unfold newL newF; rw [if_pos HFH.out, if_pos HFH.out]; exact HS.out.keep (by have k0 := HBB.out; go_grown), KB.of_below (by have k0 := HBB.out; go_grown), .inl rfl⟩
 | false =>
   obtain hn : F (p1, p2) = none := by simpa using hF
   rw [hn] at hlk; simp only [Option.map_none, Option.getD_none, Option.isSome_none, placeV] at hlk; have HLK := Lib.hid hlk; clear hlk; have HFH := Lib.hid hF; clear hF; have HN := Lib.hid hn; clear hn
   go_cut [7] (fun v7 wx => v7 = .bool false ∧ Below w2.heap.size w2 wx)
   case first =>
    go_region_held3 (fun w' => w'.cell? ⟨sb, 1, none⟩ = some (.map (some mb)) ∧ w'.cell? ⟨w.heap.size, 0, none⟩ = some (.int .i64 p1) ∧ w'.cell? ⟨w.heap.size, 1, none⟩ = some (.int .i64 p2) ∧ (Instr.lookup 192 (.map (some mb)) (.agg #[.int .i64 p1, .int .i64 p2]) true).run Tryz.prog w' = .ok (.tuple #[.agg #[.int .i64 0, .int .i64 0], .bool false]) w') ((refine ⟨?_, ?_, ?_, HLK.out _ ?_⟩; go_keep; go_keep; go_keep; (have k0 := HBB.out; go_grown))) (fail)
    all_goals
     go_wp2
     go_meet
     exact ⟨rfl, by go_grown⟩
   case rest =>
    obtain ⟨rfl, hbx⟩ := hcut; replace c0 := cell_keep hbx hzs2 c0; replace c1 := cell_keep hbx hzs2 c1; replace f0 := (hbx.frozen (p := ⟨sb, 0, none⟩) hzs2).trans f0; replace b0 := cell_keep hbx hz3 b0; replace b1 := cell_keep hbx hz3 b1; replace b2 := cell_keep hbx hz2 b2; replace b3 := cell_keep hbx hz2 b3; have HBC : Hid (Below w.heap.size w wc) := HBB.out.trans (hbx.mono HBB.out.size); have hzc : w.heap.size + 1 < wc.heap.size := by have := hbx.size; omega
    clear hbx; have hzs3 : sb < wc.heap.size := by omega
    have hz4 : w.heap.size < wc.heap.size := by omega
    have HMC := Lib.hid (HS.out.map.below HBC.out HML.out); have hnm : sb ≠ mb := HS.out.ne; have HNM := Lib.hid hnm; go_wp2
    go_still_tail 6, (by kernel_rfl)
    refine wpList_putK _ rfl _ _ _ 192 rfl 185 placeKeyed Tryz.underlying192 rfl HMC.out.drew (by unfold maxLen; omega) (p1, p2) (placeV (q1, q2)) rfl rfl hp ?_
    intro w4 hM4 hg4; rw [updF_map] at hM4; have hml := HML.out; replace c0 := cell_grown hg4 hzs3 hnm c0; replace f0 := (hg4.frozen_far (a := ⟨sb, 0, none⟩) hzs3 (by simpa using hnm)).trans f0
    replace b0 := cell_grown hg4 hz4 (by omega) b0
    replace b1 := cell_grown hg4 hz4 (by omega) b1
    have hsz4 : wc.heap.size ≤ w4.heap.size := hg4.size; clear b2 b3 c1 hml; have HM4 := Lib.hid hM4; clear hM4; have HG4 := Lib.hid hg4; clear hg4; have HNM2 := Lib.hid hnm; clear hnm; have hzs5 : sb < w4.heap.size := by omega
    have hz5 : w.heap.size < w4.heap.size := by omega
    have HOWN : Hid ((w4.alloc (.cells #[.int .i64 p1, .int .i64 p2] 185)).drew.ownsRow base 185 2 (.slice pv L.length cv) L.length (placeCells L)) := ((HS.out.row4 HBC.out HG4.out).alloc _).drew; have HNEWS : Hid (∀ j u, [Value.int .i64 (p1 : Nat), Value.int .i64 (p2 : Nat)][j]? = some u → (w4.alloc (.cells #[.int .i64 p1, .int .i64 p2] 185)).drew.cell? ((⟨w4.heap.size, 0, none⟩ : Addr).add j) = some u) := two_news (by simp [go_sem]) (by simp [go_sem])
    have HB5 := Lib.hid (HS.out.box4 HBC.out HG4.out); have hbz : base ≤ w4.heap.size := by have := HS.out.sbl; omega
    obtain ⟨iP, s0, s1, s2, s3⟩ := info_parts info_place; have HI := Lib.hid (And.intro s0 (And.intro s1 (And.intro s2 s3))); clear s0 s1 s2 s3; go_wp2
    go_region_law ((refine step_append_own_at rfl (.tmp 29) (.tmp 31) 134 rfl base 185 iP _ 2 16 Tryz.underlying134 HI.out.1 HI.out.2.1 HI.out.2.2.1 HI.out.2.2.2 rfl (by decide) (.slice pv L.length cv) L.length (placeCells L) (by simp [Act.eval]) HOWN.out ⟨w4.heap.size, 0, none⟩ 1 1 [.int .i64 p1, .int .i64 p2] (by simp [Act.eval]) rfl HNEWS.out two_one (by unfold maxLen; omega) (by omega) (by simp; omega) ?_; intro v' w5 hown hgrow hv; obtain ⟨pw, cw, rfl⟩ := own_shape hown; have HG := Lib.hid (And.intro hown (And.intro hgrow hv)); have hb5 : w5.heap[sb]? = some (.cells #[.slice pv L.length cv, .map (some mb), ov] 196 (0, 0)) := (hgrow.block sb (by simp; omega) (fun e => own_ne_box HOWN.out ((Below.heap_alloc w4 _ sb hzs5).trans HB5.out) (by decide) e.symm)).trans ((Below.heap_alloc w4 _ sb hzs5).trans HB5.out); have e1 : w5.cell? ⟨sb, 0, none⟩ = some (.slice pv L.length cv) := Lib.cell_of_heap hb5 0; have e2 : w5.frozen? ⟨sb, 0, none⟩ = false := Lib.frozen_of_heap hb5 0; clear hown hgrow hv hb5))
    all_goals
     go_wp2_with fail; go_end0; exact HS.out.add HFH.out HBC.out HM4.out HG4.out HG.out.1 HG.out.2.1 HG.out.2.2
end Go.Proofs.YtboegjdkedjhcaaGreatDoor
