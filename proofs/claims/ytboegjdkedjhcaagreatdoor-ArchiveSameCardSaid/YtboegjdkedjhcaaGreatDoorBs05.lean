/- slices.Sort at a row of integers of any kind: SortUP (the worked proofs at int64, turned to a kind K). slices.Sort at a row of integers of any kind: SortUC (the worked proofs at int64, turned to a kind. -/
import Derived.Shelf.SlLaysM
import Derived.Shelf.SortM.Walk7aIn
import Derived.Sort.Walk7
import Derived.OwnWalkIn
import Derived.TacticsInMore
import Derived.RegionIn
import Derived.LoopNIn
import Derived.LoopIn
import Derived.Sort.CutIn
import Derived.Sort.QuietIn
import Derived.Sort.AtCallIn
import Derived.Shelf.RegionOpen
import Derived.Shelf.AbstractIn
import Derived.Test.YtboegjdkedjhcaaGreatDoorBs02
import Derived.Sort.WalkC
import Derived.Sort.BigQuietIn
import Derived.Sort.WalkB12
import Derived.Sort.WalkB2
import Derived.Sort.WalkB3
namespace Go.Proofs.YtboegjdkedjhcaaGreatDoor
section
open Go.Shelf Go.Sort Go.RowKit
variable {P : Program} {ρ : Ren} {K : IntKind}
open Go.RowKit Go.Sort

section
variable {α : Type} [Inhabited α]
end

set_option maxHeartbeats 32000000 in
set_option maxRecDepth 1000000 in
theorem AnyU.breakPatterns_int_goIn (Ly : LaysU K P ρ) (D : Nat) (blk off cap a L : Nat) (d : Array Int) (w : World) (hH : Holds (Value.int K) w blk off d) (hblk : blk < w.heap.size) (hb : a + L ≤ d.size) (hsz : d.size < 4611686018427387904) (h8 : 8 ≤ L) :
 CallsIn (Fence.list [ρ.f 5, ρ.f 7, ρ.f 8, ρ.f 10, ρ.f 11, ρ.f 12, ρ.f 13, ρ.f 14, ρ.f 15, ρ.f 16, ρ.f 17, ρ.f 18, ρ.f 20, ρ.f 30, ρ.f 31, ρ.f 32, ρ.f 33, ρ.f 34, ρ.f 35, ρ.f 40] (some D)) 3 P (ρ.f 12) #[.slice (some ⟨blk, off, none⟩) d.size cap, .int .i64 a, .int .i64 ((a + L : Nat) : Int)] w fun e w' =>
  e = .returned (.tuple #[]) ∧ ∃ n os, w' = grow (putRow (Value.int K) (Sort.ahead w n) blk off (breakPatterns d a (a + L))) os := by
 rw [breakPatterns_eq d a L h8]; obtain ⟨M, hM⟩ : ∃ M : Nat, M = 1 <<< bitsLen L := ⟨_, rfl⟩; have hM1 : 1 ≤ M := by rw [hM, Nat.one_shiftLeft]; exact Nat.two_pow_pos _
 have hM2 : M ≤ 2 * L := by rw [hM, Nat.one_shiftLeft]; exact two_pow_bitsLen_le (by omega)
 have hNP : ∀ w, CallsIn (Fence.list [ρ.f 5, ρ.f 7, ρ.f 8, ρ.f 10, ρ.f 11, ρ.f 12, ρ.f 13, ρ.f 14, ρ.f 15, ρ.f 16, ρ.f 17, ρ.f 18, ρ.f 20, ρ.f 30, ρ.f 31, ρ.f 32, ρ.f 33, ρ.f 34, ρ.f 35, ρ.f 40] (some D)) 2 P (ρ.f 31) #[.int .i64 (L : Int)] w fun e w' => e = .returned (.int .u64 (M : Int)) ∧ w' = w := by rw [hM]; exact fun w => AnySM.nextPowerOfTwoIn { Ly with } D L (by omega) w
 rw [← hM]; clear hM; have HH : Hid (Holds (Value.int K) w blk off d) := hH
 have HST : Hid (w.alloc (Obj.cells #[.int .u64 (L : Int)] (ρ.t 53)) = grow (putRow (Value.int K) (Sort.ahead w 0) blk off d) #[Obj.cells #[.int .u64 ((UInt64.ofNat L).toNat : Int)] (ρ.t 53)]) := by
  show _ = _; rw [show Sort.ahead w 0 = w from rfl, putRow_self _ _ _ _ _ hH, alloc_eq_grow, show (UInt64.ofNat L).toNat = L from by simp; omega]
 clear hH; have mixed := Ly.mixed; have t0 := Ly.t0; have a0 := Ly.a0; have z0 := Ly.z0; have v0 := Ly.v0; have t3 := Ly.t3; have a3 := Ly.a3; have z3 := Ly.z3; have v3 := Ly.v3; have t4 := Ly.t4; have a4 := Ly.a4; have z4 := Ly.z4; have v4 := Ly.v4; have t5 := Ly.t5; have a5 := Ly.a5; have z5 := Ly.z5; have v5 := Ly.v5; have t9 := Ly.t9; have a9 := Ly.a9; have z9 := Ly.z9; have v9 := Ly.v9; have t22 := Ly.t22; have a22 := Ly.a22; have z22 := Ly.z22; have v22 := Ly.v22; have t25 := Ly.t25; have a25 := Ly.a25; have z25 := Ly.z25; have v25 := Ly.v25; have t32 := Ly.t32; have a32 := Ly.a32; have z32 := Ly.z32; have v32 := Ly.v32; have t44 := Ly.t44; have a44 := Ly.a44; have z44 := Ly.z44; have v44 := Ly.v44; have t46 := Ly.t46; have a46 := Ly.a46; have z46 := Ly.z46; have v46 := Ly.v46; have t53 := Ly.t53; have a53 := Ly.a53; have z53 := Ly.z53; have v53 := Ly.v53; have t63 := Ly.t63; have a63 := Ly.a63; have z63 := Ly.z63; have v63 := Ly.v63; have e329 : ∀ args w, (callFunc (ρ.f 31) args).run P w = .ok (.enter (ρ.f 31) args) w := enters_of Ly.f31 (by kernel_rfl) rfl
 have e330 : ∀ args w, (callFunc (ρ.f 32) args).run P w = .ok (.enter (ρ.f 32) args) w := enters_of Ly.f32 (by kernel_rfl) rfl
 obtain ⟨_, _, FG⟩ := Ly.f12
 gi_enter FG, SlBodyM.n12_ntmps ρ
 gi_wp2_with (first | (gi_at_fn (ρ.f 31); rw [show ((a : Int) + (L : Int) - (a : Int)) = (L : Int) by omega]; refine ((hNP _).more (by omega)).mono ?_; rintro e w' ⟨rfl, rfl⟩))
 gi_loopw [9] (fun vi wr => ∃ (t n : Nat) (r : UInt64) (dk : Array Int), vi = .int .i64 ((a + L / 4 * 2 - 1 + t : Nat) : Int) ∧ t ≤ 3 ∧ dk.size = d.size ∧
  wr = grow (putRow (Value.int K) (Sort.ahead w n) blk off dk) #[Obj.cells #[.int .u64 (r.toNat : Int)] (ρ.t 53)] ∧
  bpRest a L M (a + L / 4 * 2 - 1) (3 - t) t (r, dk) = bpRest a L M (a + L / 4 * 2 - 1) 3 0 (UInt64.ofNat L, d)) (fun vi _ => a + L / 4 * 2 + 3 - (intOf vi).toNat)
 case atStart => exact ⟨0, 0, UInt64.ofNat L, d, by congr 1; omega, by omega, rfl, HST.out, rfl⟩
 case round =>
  obtain ⟨t, n, r, dk, rfl, ht, hsk, hw, hR⟩ := hrel; obtain ⟨R, hRr⟩ : ∃ R : Nat, R = r.toNat := ⟨_, rfl⟩; have lR : R < 18446744073709551616 := by rw [hRr]; exact r.toNat_lt
  obtain ⟨R', hR'⟩ : ∃ R' : Nat, R' = xorNextN R := ⟨_, rfl⟩; have lR' : R' < 18446744073709551616 := by rw [hR']; exact xorNextN_lt R lR
  obtain ⟨O, hO⟩ : ∃ O : Nat, O = R' &&& (M - 1) := ⟨_, rfl⟩; have lO : O ≤ M - 1 := by rw [hO]; exact Nat.and_le_right
  have eAnd : bits .and .u64 (R' : Int) ((M : Int) - 1) = (O : Int) := by
   rw [show ((M : Int) - 1) = ((M - 1 : Nat) : Int) by omega, bits_and_u64_nat _ _ lR' (by omega), hO]
  obtain ⟨G, hG⟩ : ∃ G : Nat → Int, ∀ x, G x = dk[x]! := ⟨fun x => dk[x]!, fun _ => rfl⟩
  have hz : (putRow (Value.int K) (Sort.ahead w n) blk off dk).heap.size = w.heap.size := by simp
  have hcw : ∀ x, x < d.size → wr.cell? ⟨blk, off + x, none⟩ = some (.int K (G x)) := fun x hx => by
   rw [hw, cell?_grow _ _ _ (by rw [hz]; exact hblk), hG]; exact cell?_putRow _ _ _ _ d dk (holds_ahead _ _ _ _ _ _ HH.out) hsk x (by omega)
  have hfw : ∀ x, x < d.size → wr.frozen? ⟨blk, off + x, none⟩ = false := fun x hx => by
   rw [hw, frozen?_grow _ _ _ (by rw [hz]; exact hblk), frozen?_putRow]; exact ((holds_ahead _ _ n _ _ _ HH.out) x hx).2
  have hcB : wr.cell? ⟨w.heap.size, 0, none⟩ = some (.int .u64 (R : Int)) := by rw [hw, hRr, ← hz]; exact grow_one_cell _ _ _
  have hfB : wr.frozen? ⟨w.heap.size, 0, none⟩ = false := by rw [hw, ← hz]; exact grow_one_frozen _ _ _
  have hNext : CallsIn (Fence.list [ρ.f 5, ρ.f 7, ρ.f 8, ρ.f 10, ρ.f 11, ρ.f 12, ρ.f 13, ρ.f 14, ρ.f 15, ρ.f 16, ρ.f 17, ρ.f 18, ρ.f 20, ρ.f 30, ρ.f 31, ρ.f 32, ρ.f 33, ρ.f 34, ρ.f 35, ρ.f 40] (some D)) 0 P (ρ.f 32) #[.pointer (some ⟨w.heap.size, 0, none⟩)] wr fun e w' => e = .returned (.int .u64 (R' : Int)) ∧ w' = (wr.setCell ⟨w.heap.size, 0, none⟩ (.int .u64 (R' : Int))).drewN 3 := by
   rw [hR']; exact AnySM.xorshift_NextIn { Ly with } D _ _ R lR wr hcB hfB
  have HW : Hid (wr = grow (putRow (Value.int K) (Sort.ahead w n) blk off dk) #[Obj.cells #[.int .u64 (r.toNat : Int)] (ρ.t 53)]) := hw; have HG : Hid (∀ x, G x = dk[x]!) := hG; have HR : Hid (bpRest a L M (a + L / 4 * 2 - 1) (3 - t) t (r, dk) = bpRest a L M (a + L / 4 * 2 - 1) 3 0 (UInt64.ofNat L, d)) := hR
  have HN : Hid (R' = (xorNext r).toNat ∧ O = (xorNext r).toNat &&& (M - 1)) := by
   have e : R' = (xorNext r).toNat := by rw [hR', hRr, xorNext_toNat]
   exact ⟨e, by rw [hO, e]⟩
  clear hw hG hR hRr hR' hO
  gi_wp2_with (first | (gi_at_fn (ρ.f 32); refine (hNext.more (by omega)).mono ?_; rintro e w' ⟨rfl, rfl⟩))
  all_goals first
   | (have hLO : L ≤ O := by omega
      by_cases hEq : a + L / 4 * 2 - 1 + t = a + (O - L)
      all_goals
       gi_region_o
       all_goals gi_wp2
       go_roundw
       case rel =>
        refine ⟨t + 1, n + 4, xorNext r, swp dk (a + L / 4 * 2 - 1 + t) (a + (O - L)), by first | rfl | (congr 1 <;> omega), by omega, by rw [size_swp]; exact hsk, ?_, ?_⟩
        ·(try rw [hEq])      -- (where the two places are one, the walk has written the one for the other)
         rw [HW.out, HN.out.1]; simp only [HG.out]; exact step_world (Value.int K) w n 4 blk off dk _ _ hblk (by omega) (by omega) _ _ _
        ·rw [← HR.out, bp_step a L M _ t r dk (O - L) (by omega) (by rw [← HN.out.2, if_pos (by omega)])]
       case measure => simp [intOf]; omega)
   | (have hLO : ¬ L ≤ O := by omega
      by_cases hEq : a + L / 4 * 2 - 1 + t = a + O
      all_goals
       gi_region_o
       all_goals gi_wp2
       go_roundw
       case rel =>
        refine ⟨t + 1, n + 4, xorNext r, swp dk (a + L / 4 * 2 - 1 + t) (a + O), by first | rfl | (congr 1 <;> omega), by omega, by rw [size_swp]; exact hsk, ?_, ?_⟩
        ·(try rw [hEq])      -- (where the two places are one, the walk has written the one for the other)
         rw [HW.out, HN.out.1]; simp only [HG.out]; exact step_world (Value.int K) w n 4 blk off dk _ _ hblk (by omega) (by omega) _ _ _
        ·rw [← HR.out, bp_step a L M _ t r dk O (by omega) (by rw [← HN.out.2, if_neg (by omega)])]
       case measure => simp [intOf]; omega)
   | (obtain rfl : t = 3 := by omega
      go_end0; exact ⟨rfl, n, _, by rw [← HR.out, HW.out]; rfl⟩)

set_option maxHeartbeats 32000000 in
set_option maxRecDepth 1000000 in
theorem AnyU.breakPatterns_intIn (Ly : LaysU K P ρ) (D : Nat) (blk off cap a b : Nat) (d : Array Int) (w : World) (hH : Holds (Value.int K) w blk off d) (hblk : blk < w.heap.size) (hab : a ≤ b) (hb : b ≤ d.size) (hsz : d.size < 4611686018427387904) :
 CallsIn (Fence.list [ρ.f 5, ρ.f 7, ρ.f 8, ρ.f 10, ρ.f 11, ρ.f 12, ρ.f 13, ρ.f 14, ρ.f 15, ρ.f 16, ρ.f 17, ρ.f 18, ρ.f 20, ρ.f 30, ρ.f 31, ρ.f 32, ρ.f 33, ρ.f 34, ρ.f 35, ρ.f 40] (some D)) 3 P (ρ.f 12) #[.slice (some ⟨blk, off, none⟩) d.size cap, .int .i64 a, .int .i64 b] w fun e w' =>
  e = .returned (.tuple #[]) ∧ ∃ n os, w' = grow (putRow (Value.int K) (Sort.ahead w n) blk off (breakPatterns d a b)) os := by
 obtain ⟨L, rfl⟩ : ∃ L, b = a + L := ⟨b - a, by omega⟩
 by_cases h8 : 8 ≤ L
 ·exact AnyU.breakPatterns_int_goIn { Ly with } D blk off cap a L d w hH hblk hb hsz h8
 ·have hv : breakPatterns d a (a + L) = d := by unfold breakPatterns; simp only [Nat.add_sub_cancel_left]; rw [if_neg h8]
  rw [hv]
  have HST : Hid (w = grow (putRow (Value.int K) (Sort.ahead w 0) blk off d) #[]) := by
   show _ = _; rw [grow_empty, show Sort.ahead w 0 = w from rfl, putRow_self _ _ _ _ _ hH]
  clear hH; have mixed := Ly.mixed; have t0 := Ly.t0; have a0 := Ly.a0; have z0 := Ly.z0; have v0 := Ly.v0; have t3 := Ly.t3; have a3 := Ly.a3; have z3 := Ly.z3; have v3 := Ly.v3; have t4 := Ly.t4; have a4 := Ly.a4; have z4 := Ly.z4; have v4 := Ly.v4; have t5 := Ly.t5; have a5 := Ly.a5; have z5 := Ly.z5; have v5 := Ly.v5; have t9 := Ly.t9; have a9 := Ly.a9; have z9 := Ly.z9; have v9 := Ly.v9; have t22 := Ly.t22; have a22 := Ly.a22; have z22 := Ly.z22; have v22 := Ly.v22; have t25 := Ly.t25; have a25 := Ly.a25; have z25 := Ly.z25; have v25 := Ly.v25; have t32 := Ly.t32; have a32 := Ly.a32; have z32 := Ly.z32; have v32 := Ly.v32; have t44 := Ly.t44; have a44 := Ly.a44; have z44 := Ly.z44; have v44 := Ly.v44; have t46 := Ly.t46; have a46 := Ly.a46; have z46 := Ly.z46; have v46 := Ly.v46; have t53 := Ly.t53; have a53 := Ly.a53; have z53 := Ly.z53; have v53 := Ly.v53; have t63 := Ly.t63; have a63 := Ly.a63; have z63 := Ly.z63; have v63 := Ly.v63; have e329 : ∀ args w, (callFunc (ρ.f 31) args).run P w = .ok (.enter (ρ.f 31) args) w := enters_of Ly.f31 (by kernel_rfl) rfl
  have e330 : ∀ args w, (callFunc (ρ.f 32) args).run P w = .ok (.enter (ρ.f 32) args) w := enters_of Ly.f32 (by kernel_rfl) rfl
  obtain ⟨_, _, FG⟩ := Ly.f12
  gi_enter FG, SlBodyM.n12_ntmps ρ
  gi_wp2
  go_end0; exact ⟨rfl, 0, #[], HST.out⟩
end
section
open Go.Shelf Go.Sort Go.RowKit
variable {P : Program} {ρ : Ren} {K : IntKind}
open Go.RowKit Go.Sort

section
variable {α : Type} [Inhabited α]
variable (lt : α → α → Bool)
end

set_option maxHeartbeats 6400000 in
set_option maxRecDepth 100000 in
theorem AnyU.partitionEqual_intIn (Ly : LaysU K P ρ) (D : Nat) (blk off cap a b pivot : Nat) (d : Array Int) (w : World) (hH : Holds (Value.int K) w blk off d) (hap : a ≤ pivot) (hpb : pivot < b) (hb : b ≤ d.size) (hsz : d.size < 4611686018427387904) :
 CallsIn (Fence.list [ρ.f 5, ρ.f 7, ρ.f 8, ρ.f 10, ρ.f 11, ρ.f 12, ρ.f 13, ρ.f 14, ρ.f 15, ρ.f 16, ρ.f 17, ρ.f 18, ρ.f 20, ρ.f 30, ρ.f 31, ρ.f 32, ρ.f 33, ρ.f 34, ρ.f 35, ρ.f 40] (some D)) 2 P (ρ.f 17) #[.slice (some ⟨blk, off, none⟩) d.size cap, .int .i64 a, .int .i64 b, .int .i64 pivot] w fun e w' =>
  e = .returned (.int .i64 (Sort.partitionEqual Sort.ltInt d a b pivot).1) ∧ ∃ n, w' = (putRow (Value.int K) w blk off (Sort.partitionEqual Sort.ltInt d a b pivot).2).drewN n := by
 have hla : a < d.size := by omega
 have hlp : pivot < d.size := by omega
 obtain ⟨G, hG⟩ : ∃ G : Nat → Int, ∀ j, G j = d[j]! := ⟨fun j => d[j]!, fun _ => rfl⟩
 have ca : w.cell? ⟨blk, off + a, none⟩ = some (.int K (G a)) := by rw [hG]; exact (hH a hla).1
 have fa := (hH a hla).2; have cp : w.cell? ⟨blk, off + pivot, none⟩ = some (.int K (G pivot)) := by rw [hG]; exact (hH pivot hlp).1
 have fp := (hH pivot hlp).2; obtain ⟨v', hy'⟩ := cell?_setCell_some (w := w) (p := ⟨blk, off + a, none⟩) (x := .int K (G pivot)) (q := ⟨blk, off + pivot, none⟩) cp; have AG : Hid (∀ j, G j = d[j]!) := hG; have AH : Hid (Holds (Value.int K) w blk off d) := hH; clear hG hH; have mixed := Ly.mixed; have t0 := Ly.t0; have a0 := Ly.a0; have z0 := Ly.z0; have v0 := Ly.v0; have t3 := Ly.t3; have a3 := Ly.a3; have z3 := Ly.z3; have v3 := Ly.v3; have t4 := Ly.t4; have a4 := Ly.a4; have z4 := Ly.z4; have v4 := Ly.v4; have t22 := Ly.t22; have a22 := Ly.a22; have z22 := Ly.z22; have v22 := Ly.v22; have t25 := Ly.t25; have a25 := Ly.a25; have z25 := Ly.z25; have v25 := Ly.v25; have e216 : ∀ args w, (callFunc (ρ.f 16) args).run P w = .ok (.enter (ρ.f 16) args) w := Ly.f16.enters rfl; obtain ⟨_, _, FG⟩ := Ly.f17
 gi_enter FG, SlBodyM.n17_ntmps ρ
 gi_wp2
 gi_region_o
 gi_wp2
 gi_loopw [9, 10] (fun vi vj wr => ∃ (i j n : Nat) (dk : Array Int), vi = .int .i64 i ∧ vj = .int .i64 j ∧ a < i ∧ i ≤ j + 1 ∧ j < b ∧ dk.size = d.size ∧ wr = (putRow (Value.int K) w blk off dk).drewN n ∧
  Sort.partEqLoop Sort.ltInt a i j dk = Sort.partEqLoop Sort.ltInt a (a + 1) (b - 1) (Sort.swp d a pivot))
  (fun vi vj _ => (intOf vj).toNat + 1 - (intOf vi).toNat)
 case atStart =>
  refine ⟨a + 1, b - 1, 1, Sort.swp d a pivot, by go_num, by go_num, by omega, by omega, by omega, size_swp _ _ _, ?_, rfl⟩
  have e := swap_worldC (Value.int K) w blk off d 0 a pivot hla hlp; rw [putRow_self _ w blk off d AH.out] at e; rw [AG.out a, AG.out pivot]; exact e
 case round =>
  obtain ⟨i, j, n, dk, rfl, rfl, hai, hij, hjb, hs, hw, heq⟩ := hrel; clear ca fa cp fp hy' v' AG
  rename World => W1
  have hHk : Holds (Value.int K) W1 blk off dk := by
   rw [hw]; exact holds_putRow (Value.int K) w blk off d dk AH.out hs
  obtain ⟨Gk, hG⟩ : ∃ Gk : Nat → Int, ∀ t, Gk t = dk[t]! := ⟨fun t => dk[t]!, fun _ => rfl⟩
  have hc : ∀ t, t < d.size → W1.cell? ⟨blk, off + t, none⟩ = some (.int K (Gk t)) := fun t ht => by rw [hG]; exact (hHk t (by omega)).1
  have hf : ∀ t, t < d.size → W1.frozen? ⟨blk, off + t, none⟩ = false := fun t ht => (hHk t (by omega)).2
  have AG : Hid (∀ t, Gk t = dk[t]!) := hG; have AW : Hid (W1 = (putRow (Value.int K) w blk off dk).drewN n) := hw; have AE : Hid (Sort.partEqLoop Sort.ltInt a i j dk = Sort.partEqLoop Sort.ltInt a (a + 1) (b - 1) (Sort.swp d a pivot)) := heq; clear hG hw heq hHk
  gi_wp2
  gi_loopw [9] (fun vi w1 => ∃ (i' n1 : Nat), vi = .int .i64 i' ∧ i ≤ i' ∧ i' ≤ j + 1 ∧ w1 = W1.drewN n1 ∧
   Hid (Sort.scanUp (fun x => !Sort.ltInt dk[a]! x) dk j i' = Sort.scanUp (fun x => !Sort.ltInt dk[a]! x) dk j i))
   (fun vi _ => j + 1 - (intOf vi).toNat)
  case atStart => exact ⟨i, 0, rfl, Nat.le_refl _, hij, rfl, rfl⟩
  case round =>
   obtain ⟨i', n1, rfl, hii, hij', hw1, hsc⟩ := hrel; have hcw : ∀ t, t < d.size → wr.cell? ⟨blk, off + t, none⟩ = some (.int K (Gk t)) := fun t ht => by rw [hw1]; exact hc t ht
   have HW1 : Hid (wr = W1.drewN n1) := hw1; clear hw1
   by_cases hle : i' ≤ j
   ·gi_wp2_with fail
    gi_big_quiet_th_o (first | (gi_at_fn (ρ.f 16); refine CallsIn.quiet_of_same (AnyU.cmp_Less_intIn { Ly with } D _ _ _)))
    gi_wp2
    ·-- it goes on: i++
     have ht : (!Sort.ltInt (Gk a) (Gk i')) = true := by assumption
     go_roundw
     case rel => exact ⟨i' + 1, n1 + nq, by go_num, by omega, by omega, by rw [HW1.out, World.drewN_drewN], (scanUp_go (fun x => !Sort.ltInt dk[a]! x) dk j i' hle (by rw [← AG.out a, ← AG.out i']; exact ht)).symm.trans hsc.out⟩
     case measure => simp [intOf]; omega
    ·-- it stops: the test has failed
     have ht : (!Sort.ltInt (Gk a) (Gk i')) = false := by assumption
     have hi2 : Hid (i' = Sort.scanUp (fun x => !Sort.ltInt dk[a]! x) dk j i) := (scanUp_end (fun x => !Sort.ltInt dk[a]! x) dk j i' (Or.inr (by rw [← AG.out a, ← AG.out i']; exact ht))).symm.trans hsc.out
     clear ht; have hw2 : wr.drewN nq = W1.drewN (n1 + nq) := by rw [HW1.out, World.drewN_drewN]
     clear hcw HW1 hsc
     gi_loopw [10] (fun vj w2 => ∃ (j' n2 : Nat), vj = .int .i64 j' ∧ j' ≤ j ∧ i' ≤ j' + 1 ∧ w2 = W1.drewN n2 ∧
      Hid (Sort.scanDown (fun x => Sort.ltInt dk[a]! x) dk i' j' = Sort.scanDown (fun x => Sort.ltInt dk[a]! x) dk i' j))
      (fun vj _ => (intOf vj).toNat)
     case atStart => exact ⟨j, n1 + nq, rfl, Nat.le_refl _, hij', hw2, rfl⟩
     case round =>
      clear hw2; obtain ⟨j', n2, rfl, hjj, hij2, hw2, hsd⟩ := hrel; have hcw : ∀ t, t < d.size → wr.cell? ⟨blk, off + t, none⟩ = some (.int K (Gk t)) := fun t ht => by rw [hw2]; exact hc t ht
      have HW2 : Hid (wr = W1.drewN n2) := hw2; clear hw2
      by_cases hle2 : i' ≤ j'
      ·gi_wp2_with fail
       gi_big_quiet_th_o (first | (gi_at_fn (ρ.f 16); refine CallsIn.quiet_of_same (AnyU.cmp_Less_intIn { Ly with } D _ _ _)))
       gi_wp2
       ·-- it goes on: j--
        have ht : Sort.ltInt (Gk a) (Gk j') = true := by assumption
        go_roundw
        case rel => exact ⟨j' - 1, n2 + nq, by go_num, by omega, by omega, by rw [HW2.out, World.drewN_drewN], (scanDown_go (fun x => Sort.ltInt dk[a]! x) dk i' j' hle2 (by omega) (by rw [← AG.out a, ← AG.out j']; exact ht)).symm.trans hsd.out⟩
        case measure => simp [intOf]; omega
       ·-- it stops: the test has failed
        have ht : Sort.ltInt (Gk a) (Gk j') = false := by assumption
        have hj2 : Hid (j' = Sort.scanDown (fun x => Sort.ltInt dk[a]! x) dk i' j) := (scanDown_end (fun x => Sort.ltInt dk[a]! x) dk i' j' (Or.inr (by rw [← AG.out a, ← AG.out j']; exact ht))).symm.trans hsd.out
        clear hcw hsd ht; have hw3 : wr.drewN nq = W1.drewN (n2 + nq) := by rw [HW2.out, World.drewN_drewN]
        generalize wr.drewN nq = W3 at hw3 ⊢; have hc3 : ∀ t, t < d.size → W3.cell? ⟨blk, off + t, none⟩ = some (.int K (Gk t)) := fun t ht => by rw [hw3]; exact hc t ht
        have hf3 : ∀ t, t < d.size → W3.frozen? ⟨blk, off + t, none⟩ = false := fun t ht => by rw [hw3]; exact hf t ht
        have HW3 : Hid (W3 = W1.drewN (n2 + nq)) := hw3; clear hw3; obtain ⟨v3, hy3⟩ := cell?_setCell_some (w := W3) (p := ⟨blk, off + i', none⟩) (x := .int K (Gk j')) (q := ⟨blk, off + j', none⟩) (hc3 j' (by omega))
        have hlt3 := scans_lt Sort.ltInt a i j dk (by omega) hi2.out hj2.out hle2
        gi_wp2
        gi_region_o
        all_goals gi_wp2
        all_goals go_roundw
        case rel =>
         refine ⟨i' + 1, j' - 1, n + (n2 + nq) + 1, Sort.swp dk i' j', by go_num, by go_num, by omega, by omega, by omega, by rw [size_swp]; exact hs, ?_, ?_⟩
         ·rw [HW3.out, AW.out, World.drewN_drewN, AG.out i', AG.out j']; exact swap_worldC (Value.int K) w blk off dk _ i' j' (by omega) (by omega)
         ·rw [← AE.out]; exact (partEq_go Sort.ltInt a i j dk hi2.out hj2.out (by omega)).symm
        case measure => simp [intOf]; omega
      ·gi_wp2_with fail
       gi_big_quiet_th_o (first | (gi_at_fn (ρ.f 16); refine CallsIn.quiet_of_same (AnyU.cmp_Less_intIn { Ly with } D _ _ _)))
       have hj2 : Hid (j' = Sort.scanDown (fun x => Sort.ltInt dk[a]! x) dk i' j) := (scanDown_end (fun x => Sort.ltInt dk[a]! x) dk i' j' (Or.inl hle2)).symm.trans hsd.out
       clear hcw hsd; have hw3 : wr.drewN nq = W1.drewN (n2 + nq) := by rw [HW2.out, World.drewN_drewN]
       generalize wr.drewN nq = W3 at hw3 ⊢; have hc3 : ∀ t, t < d.size → W3.cell? ⟨blk, off + t, none⟩ = some (.int K (Gk t)) := fun t ht => by rw [hw3]; exact hc t ht
       have hf3 : ∀ t, t < d.size → W3.frozen? ⟨blk, off + t, none⟩ = false := fun t ht => by rw [hw3]; exact hf t ht
       have HW3 : Hid (W3 = W1.drewN (n2 + nq)) := hw3; clear hw3
       gi_wp2
       go_ret; have e := partEq_break Sort.ltInt a i j dk hi2.out hj2.out (by omega)
       refine ⟨?_, n + (n2 + nq), ?_⟩
       ·unfold Sort.partitionEqual; rw [← AE.out, e]; rfl
       ·unfold Sort.partitionEqual; rw [← AE.out, e, HW3.out, AW.out, World.drewN_drewN]
   ·gi_wp2_with fail
    gi_big_quiet_th_o (first | (gi_at_fn (ρ.f 16); refine CallsIn.quiet_of_same (AnyU.cmp_Less_intIn { Ly with } D _ _ _)))
    gi_wp2
    have hi2 : Hid (i' = Sort.scanUp (fun x => !Sort.ltInt dk[a]! x) dk j i) := (scanUp_end (fun x => !Sort.ltInt dk[a]! x) dk j i' (Or.inl hle)).symm.trans hsc.out
    have hw2 : wr.drewN nq = W1.drewN (n1 + nq) := by rw [HW1.out, World.drewN_drewN]
    clear hcw HW1 hsc
    gi_loopw [10] (fun vj w2 => ∃ (j' n2 : Nat), vj = .int .i64 j' ∧ j' ≤ j ∧ i' ≤ j' + 1 ∧ w2 = W1.drewN n2 ∧
     Hid (Sort.scanDown (fun x => Sort.ltInt dk[a]! x) dk i' j' = Sort.scanDown (fun x => Sort.ltInt dk[a]! x) dk i' j))
     (fun vj _ => (intOf vj).toNat)
    case atStart => exact ⟨j, n1 + nq, rfl, Nat.le_refl _, hij', hw2, rfl⟩
    case round =>
     clear hw2; obtain ⟨j', n2, rfl, hjj, hij2, hw2, hsd⟩ := hrel; have hcw : ∀ t, t < d.size → wr.cell? ⟨blk, off + t, none⟩ = some (.int K (Gk t)) := fun t ht => by rw [hw2]; exact hc t ht
     have HW2 : Hid (wr = W1.drewN n2) := hw2; clear hw2
     by_cases hle2 : i' ≤ j'
     ·exfalso; omega      -- the upward scan has run past j, and j' ≤ j
     ·gi_wp2_with fail
      gi_big_quiet_th_o (first | (gi_at_fn (ρ.f 16); refine CallsIn.quiet_of_same (AnyU.cmp_Less_intIn { Ly with } D _ _ _)))
      have hj2 : Hid (j' = Sort.scanDown (fun x => Sort.ltInt dk[a]! x) dk i' j) := (scanDown_end (fun x => Sort.ltInt dk[a]! x) dk i' j' (Or.inl hle2)).symm.trans hsd.out
      clear hcw hsd; have hw3 : wr.drewN nq = W1.drewN (n2 + nq) := by rw [HW2.out, World.drewN_drewN]
      generalize wr.drewN nq = W3 at hw3 ⊢; have hc3 : ∀ t, t < d.size → W3.cell? ⟨blk, off + t, none⟩ = some (.int K (Gk t)) := fun t ht => by rw [hw3]; exact hc t ht
      have hf3 : ∀ t, t < d.size → W3.frozen? ⟨blk, off + t, none⟩ = false := fun t ht => by rw [hw3]; exact hf t ht
      have HW3 : Hid (W3 = W1.drewN (n2 + nq)) := hw3; clear hw3
      gi_wp2
      go_ret; have e := partEq_break Sort.ltInt a i j dk hi2.out hj2.out (by omega)
      refine ⟨?_, n + (n2 + nq), ?_⟩
      ·unfold Sort.partitionEqual; rw [← AE.out, e]; rfl
      ·unfold Sort.partitionEqual; rw [← AE.out, e, HW3.out, AW.out, World.drewN_drewN]

theorem AnyU.partitionEqualOrdered_intIn (Ly : LaysU K P ρ) (D : Nat) (blk off cap a b pivot : Nat) (d : Array Int) (w : World) (hH : Holds (Value.int K) w blk off d) (hap : a ≤ pivot) (hpb : pivot < b) (hb : b ≤ d.size) (hsz : d.size < 4611686018427387904) :
 CallsIn (Fence.list [ρ.f 5, ρ.f 7, ρ.f 8, ρ.f 10, ρ.f 11, ρ.f 12, ρ.f 13, ρ.f 14, ρ.f 15, ρ.f 16, ρ.f 17, ρ.f 18, ρ.f 20, ρ.f 30, ρ.f 31, ρ.f 32, ρ.f 33, ρ.f 34, ρ.f 35, ρ.f 40] (some D)) 2 P (ρ.f 17) #[.slice (some ⟨blk, off, none⟩) d.size cap, .int .i64 a, .int .i64 b, .int .i64 pivot] w fun e w' =>
  e = .returned (.int .i64 (Sort.partitionEqual Sort.ltInt d a b pivot).1) ∧ ∃ n, w' = putRow (Value.int K) (Sort.ahead w n) blk off (Sort.partitionEqual Sort.ltInt d a b pivot).2 :=
 (AnyU.partitionEqual_intIn { Ly with } D blk off cap a b pivot d w hH hap hpb hb hsz).mono fun _ _ ⟨he, n, hw⟩ => ⟨he, n, hw⟩
end
section
open Go.Shelf Go.Sort Go.RowKit
variable {P : Program} {ρ : Ren} {K : IntKind}
open Go.Sort Go.RowKit

set_option maxHeartbeats 1600000 in
set_option maxRecDepth 1000000 in
theorem AnyU.reverseRange_intIn (Ly : LaysU K P ρ) (D : Nat) (blk off cap : Nat) (d : Array Int) (a b : Nat) (w : World) (hH : Holds (Value.int K) w blk off d) (hab : a ≤ b) (hb : b ≤ d.size) (hsz : d.size < 4611686018427387904) :
 CallsIn (Fence.list [ρ.f 5, ρ.f 7, ρ.f 8, ρ.f 10, ρ.f 11, ρ.f 12, ρ.f 13, ρ.f 14, ρ.f 15, ρ.f 16, ρ.f 17, ρ.f 18, ρ.f 20, ρ.f 30, ρ.f 31, ρ.f 32, ρ.f 33, ρ.f 34, ρ.f 35, ρ.f 40] (some D)) 0 P (ρ.f 14) #[.slice (some ⟨blk, off, none⟩) d.size cap, .int .i64 a, .int .i64 b] w fun e w' => e = .returned (.tuple #[]) ∧ ∃ n, w' = putRow (Value.int K) (Sort.ahead w n) blk off (reverseRange d a b) := by
 have mixed := Ly.mixed; have t0 := Ly.t0; have a0 := Ly.a0; have z0 := Ly.z0; have v0 := Ly.v0; have t3 := Ly.t3; have a3 := Ly.a3; have z3 := Ly.z3; have v3 := Ly.v3; have t4 := Ly.t4; have a4 := Ly.a4; have z4 := Ly.z4; have v4 := Ly.v4; have t22 := Ly.t22; have a22 := Ly.a22; have z22 := Ly.z22; have v22 := Ly.v22; have t25 := Ly.t25; have a25 := Ly.a25; have z25 := Ly.z25; have v25 := Ly.v25; obtain ⟨_, _, FG⟩ := Ly.f14
 gi_enter FG, SlBodyM.n14_ntmps ρ
 gi_wp2
 gi_loopg [6, 7] (b - a) (fun k s6 s7 wr => ∃ (i jn : Nat) (jz : Int) (dk : Array Int) (n : Nat), s6 = .int .i64 i ∧ s7 = .int .i64 jz ∧ ((i : Int) < jz → jz = jn ∧ jn < d.size) ∧ (¬ (i : Int) < jz → ¬ i < jn) ∧ jn - i ≤ k ∧
  dk.size = d.size ∧ wr = putRow (Value.int K) (Sort.ahead w n) blk off dk ∧ reverseLoop i jn dk = reverseLoop a (b - 1) d)
 case atStart => exact ⟨a, b - 1, (b : Int) - 1, d, 0, rfl, rfl, fun h => ⟨by omega, by omega⟩, fun h => by omega, by omega, rfl, (putRow_self (Value.int K) w blk off d hH).symm, rfl⟩
 case round =>
  obtain ⟨i, jn, jz, dk, n, rfl, rfl, h1, h2, hk, hds, hwr, heq⟩ := hrel
  by_cases hlt : (i : Int) < jz
  ·obtain ⟨rfl, hjn⟩ := h1 hlt; have hij : i < jn := by omega
   have hHk : Holds (Value.int K) wr blk off dk := by rw [hwr]; exact holds_putRow (Value.int K) _ blk off d dk (holds_ahead (Value.int K) w n blk off d hH) hds
   obtain ⟨ci, fi⟩ := hHk i (by omega)
   obtain ⟨cj, fj⟩ := hHk jn (by omega)
   have A : Aside (wr = putRow (Value.int K) (Sort.ahead w n) blk off dk) := hwr; clear hwr hHk hH h1 h2
   gi_wp2_with fail
   gi_region_o
   gi_wp2
   gi_roundg (jn - 1 - (i + 1))
   case measure => omega
   case rel =>
    rw [reverseLoop, if_pos hij] at heq
    exact ⟨i + 1, jn - 1, (jn : Int) - 1, swp dk i jn, n + 1, by simp, rfl, fun h => ⟨by omega, by omega⟩, fun h => by omega, Nat.le_refl _, by rw [size_swp]; exact hds,
     swap_world (Value.int K) (by omega) (by omega) A.out (by simp [getElem!_pos, show jn < dk.size by omega]) rfl, heq⟩
  ·have hnot := h2 hlt
   gi_wp2
   go_end0; refine ⟨rfl, n, ?_⟩; rw [reverseLoop, if_neg hnot] at heq; rw [reverseRange, ← heq]
open Go.Sort Go.RowKit

set_option maxHeartbeats 3200000 in
set_option maxRecDepth 1000000 in
theorem AnyU.siftDown_intIn (Ly : LaysU K P ρ) (D : Nat) (blk off len cap : Nat) (d : Array Int) (hlen : d.size = len) (lo hi first : Nat) (w : World) (hH : Holds (Value.int K) w blk off d) (hlo : lo ≤ hi) (hb : first + hi ≤ d.size) (hsz : d.size < 4611686018427387904) :
 CallsIn (Fence.list [ρ.f 5, ρ.f 7, ρ.f 8, ρ.f 10, ρ.f 11, ρ.f 12, ρ.f 13, ρ.f 14, ρ.f 15, ρ.f 16, ρ.f 17, ρ.f 18, ρ.f 20, ρ.f 30, ρ.f 31, ρ.f 32, ρ.f 33, ρ.f 34, ρ.f 35, ρ.f 40] (some D)) 2 P (ρ.f 30) #[.slice (some ⟨blk, off, none⟩) len cap, .int .i64 lo, .int .i64 hi, .int .i64 first] w fun e w' => e = .returned (.tuple #[]) ∧ ∃ n, w' = putRow (Value.int K) (Sort.ahead w n) blk off (siftDown ltInt hi first lo d) := by
 subst hlen; have mixed := Ly.mixed; have t0 := Ly.t0; have a0 := Ly.a0; have z0 := Ly.z0; have v0 := Ly.v0; have t3 := Ly.t3; have a3 := Ly.a3; have z3 := Ly.z3; have v3 := Ly.v3; have t4 := Ly.t4; have a4 := Ly.a4; have z4 := Ly.z4; have v4 := Ly.v4; have t22 := Ly.t22; have a22 := Ly.a22; have z22 := Ly.z22; have v22 := Ly.v22; have t25 := Ly.t25; have a25 := Ly.a25; have z25 := Ly.z25; have v25 := Ly.v25; have e216 : ∀ args w, (callFunc (ρ.f 16) args).run P w = .ok (.enter (ρ.f 16) args) w := Ly.f16.enters rfl; obtain ⟨_, _, FG⟩ := Ly.f30
 gi_enter FG, SlBodyM.n30_ntmps ρ
 gi_wp2
 gi_loopg [8] (hi - lo) (fun k s8 wr => ∃ (root : Nat) (dk : Array Int) (n : Nat), s8 = .int .i64 root ∧ root ≤ hi ∧ hi - root ≤ k ∧ dk.size = d.size ∧ wr = putRow (Value.int K) (Sort.ahead w n) blk off dk ∧ siftDown ltInt hi first root dk = siftDown ltInt hi first lo d)
 case atStart => exact ⟨lo, d, 0, rfl, hlo, Nat.le_refl _, rfl, (putRow_self (Value.int K) w blk off d hH).symm, rfl⟩
 case round =>
  obtain ⟨root, dk, n, rfl, hr, hk, hds, hwr, heq⟩ := hrel; have hHk : Holds (Value.int K) wr blk off dk := by rw [hwr]; exact holds_putRow (Value.int K) _ blk off d dk (holds_ahead (Value.int K) w n blk off d hH) hds
  have hcw : ∀ t, t < d.size → wr.cell? ⟨blk, off + t, none⟩ = some (.int K dk[t]!) := fun t ht => (hHk t (by omega)).1
  have hfw : ∀ t, t < d.size → wr.frozen? ⟨blk, off + t, none⟩ = false := fun t ht => (hHk t (by omega)).2
  have A : Aside (wr = putRow (Value.int K) (Sort.ahead w n) blk off dk) := hwr; clear hwr hH hHk
  by_cases h0 : hi ≤ 2 * root + 1
  ·-- no child: the loop is left
   have h0z : (hi : Int) ≤ 2 * (root : Int) + 1 := by omega
   gi_wp2
   go_end0; refine ⟨rfl, n, ?_⟩; rw [A.out, ← heq, sd_end ltInt dk h0]
  ·-- (the tests, AS THE WALK SPELLS THEM: over Int: a guard that is not decided stops the quiet walk)
   have h0z : ¬ ((hi : Int) ≤ 2 * (root : Int) + 1) := by omega
   by_cases h1 : 2 * root + 2 < hi
   ·have h1z : 2 * (root : Int) + 1 + 1 < (hi : Int) := by omega
    gi_wp2_with fail
    gi_big_quiet_th_o (first | (gi_at_fn (ρ.f 16); refine CallsIn.quiet_of_same (AnyU.cmp_Less_intIn { Ly with } D _ _ _)))
    gi_wp2_with fail
    ·-- THE RIGHT CHILD IS THE GREATER
     have hL : ltInt dk[first + 2 * root + 1]! dk[first + 2 * root + 2]! = true := by assumption
     revert nq; intro nq1      -- (the next quiet region brings an 'nq' of its own)
     have hcw2 : ∀ t, t < d.size → (wr.drewN nq1).cell? ⟨blk, off + t, none⟩ = some (.int K dk[t]!) := hcw; have hfw2 : ∀ t, t < d.size → (wr.drewN nq1).frozen? ⟨blk, off + t, none⟩ = false := hfw; have A2 : Aside (wr.drewN nq1 = putRow (Value.int K) (Sort.ahead w (n + nq1)) blk off dk) := drewN_world (Value.int K) A.out nq1; clear hcw hfw A; generalize wr.drewN nq1 = wr2 at hcw2 hfw2 A2 ⊢
     gi_big_quiet_th_o (first | (gi_at_fn (ρ.f 16); refine CallsIn.quiet_of_same (AnyU.cmp_Less_intIn { Ly with } D _ _ _)))
     gi_wp2_with fail
     ·-- the hole is not less than the greater child: return
      have hS : ltInt dk[first + root]! dk[first + 2 * root + 2]! = false := by
       have : (!ltInt dk[first + root]! dk[first + 2 * root + 2]!) = true := by assumption
       simpa using this
      (try simp only [Exit.inBlock, Exit.then]); refine bodyPost_ret (results_none rfl _ _ _) rfl ?_      -- (an explicit 'return' of a function without results)
      refine ⟨rfl, n + nq1 + nq, ?_⟩; rw [drewN_world (Value.int K) A2.out nq, ← heq, sd_right_stop ltInt dk h1 hL hS]
     ·-- it is: they are swapped, and the hole goes down
      have hG : ltInt dk[first + root]! dk[first + 2 * root + 2]! = true := by
       have : (!ltInt dk[first + root]! dk[first + 2 * root + 2]!) = false := by assumption
       simpa using this
      have hcw3 : ∀ t, t < d.size → (wr2.drewN nq).cell? ⟨blk, off + t, none⟩ = some (.int K dk[t]!) := hcw2; have hfw3 : ∀ t, t < d.size → (wr2.drewN nq).frozen? ⟨blk, off + t, none⟩ = false := hfw2; have A3 : Aside (wr2.drewN nq = putRow (Value.int K) (Sort.ahead w (n + nq1 + nq)) blk off dk) := drewN_world (Value.int K) A2.out nq; clear hcw2 hfw2 A2; generalize wr2.drewN nq = wr3 at hcw3 hfw3 A3 ⊢
      gi_region_o
      gi_wp2
      gi_roundg (hi - (2 * root + 2))
      case measure => omega
      case rel =>
       refine ⟨2 * root + 2, swp dk (first + root) (first + (2 * root + 1 + 1)), n + nq1 + nq + 1, by simp <;> omega, by omega, Nat.le_refl _, by rw [size_swp]; exact hds, swap_world (Value.int K) (by omega) (by omega) A3.out rfl rfl, ?_⟩
       rw [← heq, sd_right_go ltInt dk h1 hL hG]
    ·-- THE LEFT CHILD IS NOT LESS THAN THE RIGHT
     have hL : ltInt dk[first + 2 * root + 1]! dk[first + 2 * root + 2]! = false := by assumption
     revert nq; intro nq1      -- (the next quiet region brings an 'nq' of its own)
     have hcw2 : ∀ t, t < d.size → (wr.drewN nq1).cell? ⟨blk, off + t, none⟩ = some (.int K dk[t]!) := hcw; have hfw2 : ∀ t, t < d.size → (wr.drewN nq1).frozen? ⟨blk, off + t, none⟩ = false := hfw; have A2 : Aside (wr.drewN nq1 = putRow (Value.int K) (Sort.ahead w (n + nq1)) blk off dk) := drewN_world (Value.int K) A.out nq1; clear hcw hfw A; generalize wr.drewN nq1 = wr2 at hcw2 hfw2 A2 ⊢
     gi_big_quiet_th_o (first | (gi_at_fn (ρ.f 16); refine CallsIn.quiet_of_same (AnyU.cmp_Less_intIn { Ly with } D _ _ _)))
     gi_wp2_with fail
     ·-- the hole is not less than the greater child: return
      have hS : ltInt dk[first + root]! dk[first + 2 * root + 1]! = false := by
       have : (!ltInt dk[first + root]! dk[first + 2 * root + 1]!) = true := by assumption
       simpa using this
      (try simp only [Exit.inBlock, Exit.then]); refine bodyPost_ret (results_none rfl _ _ _) rfl ?_      -- (an explicit 'return' of a function without results)
      refine ⟨rfl, n + nq1 + nq, ?_⟩; rw [drewN_world (Value.int K) A2.out nq, ← heq, sd_left_stop ltInt dk (by omega) (fun _ => hL) hS]
     ·-- it is: they are swapped, and the hole goes down
      have hG : ltInt dk[first + root]! dk[first + 2 * root + 1]! = true := by
       have : (!ltInt dk[first + root]! dk[first + 2 * root + 1]!) = false := by assumption
       simpa using this
      have hcw3 : ∀ t, t < d.size → (wr2.drewN nq).cell? ⟨blk, off + t, none⟩ = some (.int K dk[t]!) := hcw2; have hfw3 : ∀ t, t < d.size → (wr2.drewN nq).frozen? ⟨blk, off + t, none⟩ = false := hfw2; have A3 : Aside (wr2.drewN nq = putRow (Value.int K) (Sort.ahead w (n + nq1 + nq)) blk off dk) := drewN_world (Value.int K) A2.out nq; clear hcw2 hfw2 A2; generalize wr2.drewN nq = wr3 at hcw3 hfw3 A3 ⊢
      gi_region_o
      gi_wp2
      gi_roundg (hi - (2 * root + 1))
      case measure => omega
      case rel =>
       refine ⟨2 * root + 1, swp dk (first + root) (first + (2 * root + 1)), n + nq1 + nq + 1, by simp <;> omega, by omega, Nat.le_refl _, by rw [size_swp]; exact hds, swap_world (Value.int K) (by omega) (by omega) A3.out rfl rfl, ?_⟩
       rw [← heq, sd_left_go ltInt dk (by omega) (fun _ => hL) hG]
   ·-- THERE IS NO RIGHT CHILD
    have h1z : decide (2 * (root : Int) + 1 + 1 < (hi : Int)) = false := decide_eq_false (by omega)      -- (a guard that is FALSE: said so outright: from '¬ ..' the walk did not decide it)
    gi_wp2_with fail
    gi_big_quiet_th_o (first | (gi_at_fn (ρ.f 16); refine CallsIn.quiet_of_same (AnyU.cmp_Less_intIn { Ly with } D _ _ _)))
    gi_wp2_with fail
    revert nq; intro nq1      -- (the next quiet region brings an 'nq' of its own)
    have hcw2 : ∀ t, t < d.size → (wr.drewN nq1).cell? ⟨blk, off + t, none⟩ = some (.int K dk[t]!) := hcw; have hfw2 : ∀ t, t < d.size → (wr.drewN nq1).frozen? ⟨blk, off + t, none⟩ = false := hfw; have A2 : Aside (wr.drewN nq1 = putRow (Value.int K) (Sort.ahead w (n + nq1)) blk off dk) := drewN_world (Value.int K) A.out nq1; clear hcw hfw A; generalize wr.drewN nq1 = wr2 at hcw2 hfw2 A2 ⊢
    gi_big_quiet_th_o (first | (gi_at_fn (ρ.f 16); refine CallsIn.quiet_of_same (AnyU.cmp_Less_intIn { Ly with } D _ _ _)))
    gi_wp2_with fail
    ·-- the hole is not less than the greater child: return
     have hS : ltInt dk[first + root]! dk[first + 2 * root + 1]! = false := by
      have : (!ltInt dk[first + root]! dk[first + 2 * root + 1]!) = true := by assumption
      simpa using this
     (try simp only [Exit.inBlock, Exit.then]); refine bodyPost_ret (results_none rfl _ _ _) rfl ?_      -- (an explicit 'return' of a function without results)
     refine ⟨rfl, n + nq1 + nq, ?_⟩; rw [drewN_world (Value.int K) A2.out nq, ← heq, sd_left_stop ltInt dk (by omega) (fun h => absurd h h1) hS]
    ·-- it is: they are swapped, and the hole goes down
     have hG : ltInt dk[first + root]! dk[first + 2 * root + 1]! = true := by
      have : (!ltInt dk[first + root]! dk[first + 2 * root + 1]!) = false := by assumption
      simpa using this
     have hcw3 : ∀ t, t < d.size → (wr2.drewN nq).cell? ⟨blk, off + t, none⟩ = some (.int K dk[t]!) := hcw2; have hfw3 : ∀ t, t < d.size → (wr2.drewN nq).frozen? ⟨blk, off + t, none⟩ = false := hfw2; have A3 : Aside (wr2.drewN nq = putRow (Value.int K) (Sort.ahead w (n + nq1 + nq)) blk off dk) := drewN_world (Value.int K) A2.out nq; clear hcw2 hfw2 A2; generalize wr2.drewN nq = wr3 at hcw3 hfw3 A3 ⊢
     gi_region_o
     gi_wp2
     gi_roundg (hi - (2 * root + 1))
     case measure => omega
     case rel =>
      refine ⟨2 * root + 1, swp dk (first + root) (first + (2 * root + 1)), n + nq1 + nq + 1, by simp <;> omega, by omega, Nat.le_refl _, by rw [size_swp]; exact hds, swap_world (Value.int K) (by omega) (by omega) A3.out rfl rfl, ?_⟩
      rw [← heq, sd_left_go ltInt dk (by omega) (fun h => absurd h h1) hG]
open Go.Sort Go.RowKit

set_option maxHeartbeats 3200000 in
set_option maxRecDepth 1000000 in
theorem AnyU.heapSort_intIn (Ly : LaysU K P ρ) (D : Nat) (blk off len cap : Nat) (d : Array Int) (hlen : d.size = len) (a b : Nat) (w : World) (hH : Holds (Value.int K) w blk off d) (hab : a ≤ b) (hb : b ≤ d.size) (hsz : d.size < 4611686018427387904) :
 CallsIn (Fence.list [ρ.f 5, ρ.f 7, ρ.f 8, ρ.f 10, ρ.f 11, ρ.f 12, ρ.f 13, ρ.f 14, ρ.f 15, ρ.f 16, ρ.f 17, ρ.f 18, ρ.f 20, ρ.f 30, ρ.f 31, ρ.f 32, ρ.f 33, ρ.f 34, ρ.f 35, ρ.f 40] (some D)) 3 P (ρ.f 11) #[.slice (some ⟨blk, off, none⟩) len cap, .int .i64 a, .int .i64 b] w fun e w' => e = .returned (.tuple #[]) ∧ ∃ n, w' = putRow (Value.int K) (Sort.ahead w n) blk off (heapSort ltInt d a b) := by
 subst hlen; have ecast : ((b - a : Nat) : Int) = (b : Int) - (a : Int) := by omega
 have mixed := Ly.mixed; have t0 := Ly.t0; have a0 := Ly.a0; have z0 := Ly.z0; have v0 := Ly.v0; have t3 := Ly.t3; have a3 := Ly.a3; have z3 := Ly.z3; have v3 := Ly.v3; have t4 := Ly.t4; have a4 := Ly.a4; have z4 := Ly.z4; have v4 := Ly.v4; have t22 := Ly.t22; have a22 := Ly.a22; have z22 := Ly.z22; have v22 := Ly.v22; have t25 := Ly.t25; have a25 := Ly.a25; have z25 := Ly.z25; have v25 := Ly.v25; have e328 : ∀ args w, (callFunc (ρ.f 30) args).run P w = .ok (.enter (ρ.f 30) args) w := Ly.f30.enters rfl; obtain ⟨_, _, FG⟩ := Ly.f11
 gi_enter FG, SlBodyM.n11_ntmps ρ
 gi_wp2
 gi_loopg [9] ((b - a - 1) / 2 + 1) (fun k s9 wr => s9 = .int .i64 ((k : Int) - 1) ∧ k ≤ (b - a - 1) / 2 + 1 ∧ ∃ (dk : Array Int) (n : Nat), dk.size = d.size ∧ wr = putRow (Value.int K) (Sort.ahead w n) blk off dk ∧
  heapBuild ltInt (b - a) a k dk = heapBuild ltInt (b - a) a ((b - a - 1) / 2 + 1) d)
 case atStart => exact ⟨by rw [half_start hab], Nat.le_refl _, d, 0, rfl, (putRow_self (Value.int K) w blk off d hH).symm, rfl⟩
 case round =>
  obtain ⟨rfl, hkk, dk, n, hds, hwr, heq⟩ := hrel; have hHk : Holds (Value.int K) wr blk off dk := by rw [hwr]; exact holds_putRow (Value.int K) _ blk off d dk (holds_ahead (Value.int K) w n blk off d hH) hds
  have A : Aside (wr = putRow (Value.int K) (Sort.ahead w n) blk off dk) := hwr; clear hwr; cases gk with
  | zero =>
    have hB : dk = heapBuild ltInt (b - a) a ((b - a - 1) / 2 + 1) d := heq; clear heq hHk hkk
    gi_wp2
    gi_loopg [10] (b - a) (fun k s10 wr2 => s10 = .int .i64 ((k : Int) - 1) ∧ k ≤ b - a ∧ ∃ (dj : Array Int) (n2 : Nat), dj.size = d.size ∧ wr2 = putRow (Value.int K) (Sort.ahead w n2) blk off dj ∧ heapPop ltInt a k dj = heapPop ltInt a (b - a) dk)
    case atStart => exact ⟨by rw [ecast], Nat.le_refl _, dk, n, hds, A.out, rfl⟩
    case round =>
     obtain ⟨rfl, hkk, dj, n2, hdj, hwr2, heq2⟩ := hrel; cases gk with
     | zero =>
       gi_wp2
       go_end0; refine ⟨rfl, n2, ?_⟩; have e : dj = heapSort ltInt d a b := by rw [heapSort, ← hB, ← heq2]; rfl
       rw [← e]
     | succ k =>
       have hHj : Holds (Value.int K) wr blk off dj := by rw [hwr2]; exact holds_putRow (Value.int K) _ blk off d dj (holds_ahead (Value.int K) w n2 blk off d hH) hdj
       have hcw : ∀ t, t < d.size → wr.cell? ⟨blk, off + t, none⟩ = some (.int K dj[t]!) := fun t ht => (hHj t (by omega)).1
       have hfw : ∀ t, t < d.size → wr.frozen? ⟨blk, off + t, none⟩ = false := fun t ht => (hHj t (by omega)).2
       have A2 : Aside (wr = putRow (Value.int K) (Sort.ahead w n2) blk off dj) := hwr2; clear hwr2 hHj; rcases Nat.eq_zero_or_pos k with hk0 | hkp
       ·subst hk0
        gi_wp2_with fail
        gi_region_o
        gi_wp2_with fail
        rw [swap_world (Value.int K) (i := a) (j := a) (by omega) (by omega) A2.out rfl rfl]
        refine (AnyU.siftDown_intIn { Ly with } D blk off d.size cap (swp dj a (a)) (by rw [size_swp]; exact hdj) 0 0 a _ (holds_putRow (Value.int K) _ blk off d _ (holds_ahead (Value.int K) w (n2 + 1) blk off d hH) (by rw [size_swp]; exact hdj)) (Nat.zero_le _) (by rw [size_swp]; omega) (by rw [size_swp]; omega)).mono ?_
        rintro e w1 ⟨rfl, m, hw1⟩
        gi_wp2
        gi_roundg 0
        case measure => omega
        case rel =>
         refine ⟨by simp, by omega, siftDown ltInt 0 a 0 (swp dj a (a)), n2 + 1 + m, by rw [size_siftDown ltInt _ _ _ _ _ (Nat.le_refl _), size_swp]; exact hdj, ?_, heq2⟩
         first
          | rw [hw1, putRow_ahead_putRow (Value.int K) w (n2 + 1) m blk off _ _ (size_siftDown ltInt _ _ _ _ _ (Nat.le_refl _))]
          | rw [putRow_ahead_putRow (Value.int K) w (n2 + 1) m blk off _ _ (size_siftDown ltInt _ _ _ _ _ (Nat.le_refl _))]
       ·skip
        gi_wp2_with fail
        gi_region_o
        gi_wp2_with fail
        rw [swap_world (Value.int K) (i := a) (j := a + k) (by omega) (by omega) A2.out rfl rfl]
        refine (AnyU.siftDown_intIn { Ly with } D blk off d.size cap (swp dj a (a + k)) (by rw [size_swp]; exact hdj) 0 k a _ (holds_putRow (Value.int K) _ blk off d _ (holds_ahead (Value.int K) w (n2 + 1) blk off d hH) (by rw [size_swp]; exact hdj)) (Nat.zero_le _) (by rw [size_swp]; omega) (by rw [size_swp]; omega)).mono ?_
        rintro e w1 ⟨rfl, m, hw1⟩
        gi_wp2
        gi_roundg k
        case measure => omega
        case rel =>
         refine ⟨by simp, by omega, siftDown ltInt k a 0 (swp dj a (a + k)), n2 + 1 + m, by rw [size_siftDown ltInt _ _ _ _ _ (Nat.le_refl _), size_swp]; exact hdj, ?_, heq2⟩
         first
          | rw [hw1, putRow_ahead_putRow (Value.int K) w (n2 + 1) m blk off _ _ (size_siftDown ltInt _ _ _ _ _ (Nat.le_refl _))]
          | rw [putRow_ahead_putRow (Value.int K) w (n2 + 1) m blk off _ _ (size_siftDown ltInt _ _ _ _ _ (Nat.le_refl _))]
  | succ k =>
    have hcall := AnyU.siftDown_intIn { Ly with } D blk off d.size cap dk hds k (b - a) a wr hHk (by omega) (by omega) (by omega)
    rw [ecast] at hcall
    gi_wp2_with (gi_at_fn (ρ.f 30); refine hcall.mono ?_; rintro e w1 ⟨rfl, m, hw1⟩)
    gi_roundg k
    case measure => omega
    case rel =>
     refine ⟨by simp, by omega, siftDown ltInt (b - a) a k dk, n + m, by rw [size_siftDown ltInt _ _ _ _ _ (Nat.le_refl _)]; exact hds, ?_, heq⟩
     rw [A.out, putRow_ahead_putRow (Value.int K) w n m blk off dk _ (size_siftDown ltInt _ _ _ _ _ (Nat.le_refl _))]
end
end Go.Proofs.YtboegjdkedjhcaaGreatDoor
