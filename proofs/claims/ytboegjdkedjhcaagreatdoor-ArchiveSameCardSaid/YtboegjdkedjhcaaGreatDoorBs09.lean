/- The walks of resolver.find and resolve.Find, Check. -/
import Derived.Test.YtboegjdkedjhcaaGreatDoorBs06
namespace Go.Proofs.YtboegjdkedjhcaaGreatDoor
set_option maxRecDepth 100000
open Go.RowKit Go.Maps Go.WideMaps
set_option maxHeartbeats 400000 in
theorem find1_any (s : GSym) (vr vn : Value) (nb : Nat) (nm : ByteArray) (w : World) (hnb : nb < w.heap.size) (hc : w.cell? ⟨nb, 0, none⟩ = some (.string nm)) :
 Calls Tryz.prog 203 #[.agg #[.string s.name, .int .u8 s.bind, .int .u8 s.kind, .int .u32 s.size, .string s.bytes, vr, vn], .pointer (some ⟨nb, 0, none⟩)] w fun e w' => e = .returned (.bool (isLocal nm.data.toList s)) ∧ Below w.heap.size w w' := by
 obtain ⟨yn, yb, yk, ys, yy, yr, yt⟩ := s; simp only [] at *; go_enter Tryz.func203, Tryz.ntmps203; go_wp2
 ·have h : yn.toList = nm.toList := by assumption
  rw [ByteArray.toList_eq, ByteArray.toList_eq] at h; go_ret; exact ⟨ret_bool (by simp [isLocal, h, ibeq]), alloc_old w _⟩
 ·have h : ¬ yn.toList = nm.toList := by assumption
  rw [ByteArray.toList_eq, ByteArray.toList_eq] at h; go_ret; have h2 : (yn.data.toList == nm.data.toList) = false := by rw [beq_eq_false_iff_ne]; exact h
  exact ⟨ret_bool (by simp only [isLocal, h2, Bool.false_and]), alloc_old w _⟩
def idxV : Option Nat → Int | some k => k | none => -1
set_option maxHeartbeats 400000 in
theorem indexSym_any (v : Value) (l : List GSym) (nb : Nat) (nm : ByteArray) (w : World) (hnb : nb < w.heap.size) (hnm : w.cell? ⟨nb, 0, none⟩ = some (.string nm)) (h : RowAt 7 SymR w v l) :
 Calls Tryz.prog 202 #[v, .func (.func 203) #[] #[.pointer (some ⟨nb, 0, none⟩)]] w fun e w' => e = .returned (.int .i64 (idxV (l.findIdx? (isLocal nm.data.toList)))) ∧ Below w.heap.size w w' := by
 obtain ⟨p, cap, b, o, rfl, hcap, hmax, hp, hc⟩ := h; have HC := Lib.hid hc; clear hc; have HP := Lib.hid hp; clear hp; go_enter Tryz.func202, Tryz.ntmps202; go_wp2
 go_loopw [8] (fun i wr => ∃ k : Nat, k ≤ l.length ∧ i = .int .i64 k ∧ (l.take k).all (fun x => !isLocal nm.data.toList x) = true ∧ Below w.heap.size w wr) (fun i _ => l.length - (intOf i).toNat)
 case atStart => exact ⟨0, Nat.zero_le _, rfl, rfl, Below.refl _ _⟩
 case round =>
  obtain ⟨k, hk, rfl, hall, hbel⟩ := hrel; have HA := Lib.hid hall; clear hall; have HB := Lib.hid hbel; clear hbel
  by_cases hlt : k < l.length
  ·obtain rfl := HP.out (by omega)
   obtain ⟨vr, vn, g0, g1, g2, g3, g4, g5, g6, g7, hin⟩ := symR_keeps _ _ _ _ _ HB.out (HC.out k hlt); have HCON := Lib.hid (find1_any l[k] vr vn nb nm wr (size_keep HB.out hnb) (cell_keep HB.out hnb hnm)); clear hin; generalize hx : l[k] = x at *; obtain ⟨yn, yb, yk, ys, yy, yr, yt⟩ := x; simp only [] at *; have HX := Lib.hid hx; clear hx; go_wp2_with (go_at_call 203; refine HCON.out.mono ?_; rintro e w' ⟨rfl, hB⟩)
   ·have hyes : isLocal nm.data.toList ⟨yn, yb, yk, ys, yy, yr, yt⟩ = true := by assumption
    go_ret; exact ⟨ret_int (by rw [findIdx_some hlt HX.out hyes HA.out]; rfl), HB.out.trans (hB.mono HB.out.size)⟩
   ·have hno : isLocal nm.data.toList ⟨yn, yb, yk, ys, yy, yr, yt⟩ = false := by assumption
    go_roundw
    case rel => exact ⟨k + 1, by omega, by go_num, take_all_snoc hlt HX.out HA.out (by simpa using hno), HB.out.trans (hB.mono HB.out.size)⟩
    case measure => simp [intOf]; omega
  ·go_wp2; go_ret; exact ⟨ret_int (by rw [findIdx_none (all_end hlt HA.out)]; rfl), HB.out⟩
def placeRet (p : Option (Nat × Nat)) : Value := match p with | some q => .tuple #[.agg #[.int .i64 q.1, .int .i64 q.2], .bool true] | none => .tuple #[.agg #[.int .i64 0, .int .i64 0], .bool false]
theorem tabFn_get (l : List Spot) (n : List UInt8) : (tabFn l n).getD (.agg #[.int .i64 0, .int .i64 0]) = .agg #[.int .i64 (((winnerIn l n).getD (0, 0)).1 : Nat), .int .i64 (((winnerIn l n).getD (0, 0)).2 : Nat)] := by
 unfold tabFn; cases winnerIn l n <;> simp [placeV]
theorem placeRet_eq (p : Option (Nat × Nat)) : placeRet p = .tuple #[.agg #[.int .i64 ((p.getD (0, 0)).1 : Nat), .int .i64 ((p.getD (0, 0)).2 : Nat)], .bool p.isSome] := by cases p <;> rfl
set_option maxHeartbeats 1000000 in
theorem findNeg (rb : Nat) (v : Value) (l : List GObj) (i : Int) (nm : ByteArray) (w : World) (hr : Resolver w rb v l) (hn : nm.size ≤ 9223372036854775807) (hi : i < 0) :
 Calls Tryz.prog 149 #[.pointer (some ⟨rb, 0, none⟩), .int .i64 i, .string nm] w fun e w' => e = .returned (placeRet (winnerIn (flat l) nm.data.toList)) ∧ Below w.heap.size w w' := by
 obtain ⟨tb, n, r0, r1, hm, hrb⟩ := hr; have HG := Lib.hid (tabFn_get (flat l) nm.data.toList); have HI := Lib.hid (tabFn_isSome (flat l) nm.data.toList); have HM := Lib.hid ((hm.alloc (.cells #[.string nm] 9)).alloc (.cells #[.int .i64 0, .int .i64 0] 185)); clear hm; have hne : ¬ w.heap.size = rb := by omega
 have hne1 : ¬ w.heap.size + 1 = rb := by omega
 go_enter Tryz.func149, Tryz.ntmps149; go_wp2
 go_region_held3 (fun w' => w'.cell? ⟨rb, 0, none⟩ = some (.map (some tb)) ∧ w'.cell? ⟨w.heap.size, 0, none⟩ = some (.string nm)) (go_keep) (first | (go_at_call 201; refine (winner_any tb n (tabFn (flat l)) nm _ _ _ _ ?_ hn HG.out HI.out).mono ?_; (exact HM.out.drew); rintro e w' ⟨rfl, hB⟩; have k1 : w'.cell? ⟨rb, 0, none⟩ = some (.map (some tb)) := cell_keep hB (by simp; omega) (by simp [go_sem, *]); have k2 : w'.cell? ⟨w.heap.size, 0, none⟩ = some (.string nm) := cell_keep hB (by simp <;> omega) (by simp [go_sem, *]); obtain ⟨hc, hf⟩ := bcell hB))
 have q0 : w'.cell? ⟨w.heap.size + 1, 0, none⟩ = some (.int .i64 0) := by rw [hB.cell (by simp)]; simp [go_sem]
 have q1 : w'.cell? ⟨w.heap.size + 1, 1, none⟩ = some (.int .i64 0) := by rw [hB.cell (by simp)]; simp [go_sem]
 go_wp2_with fail; rw [placeRet_eq]; refine bodyPost_ret (v := .tuple #[.agg #[.int .i64 (((winnerIn (flat l) nm.data.toList).getD (0, 0)).1 : Nat), .int .i64 (((winnerIn (flat l) nm.data.toList).getD (0, 0)).2 : Nat)], .bool (winnerIn (flat l) nm.data.toList).isSome]) (by simp [results, Tryz.results149, go_sem, q0, q1]) rfl ⟨rfl, ?_⟩
 exact (((((alloc_old w _).alloc (by simp) _).drew.trans (hB.mono (by simp; omega))).setCell (by simp) _).setCell (by simp) _)
set_option maxHeartbeats 1000000 in
theorem findPos (rb : Nat) (v : Value) (l : List GObj) (i : Nat) (nm : ByteArray) (w : World) (hr : Resolver w rb v l) (ho : ObjsAt w v l) (hn : nm.size ≤ 9223372036854775807) (hi : i < l.length) :
 Calls Tryz.prog 149 #[.pointer (some ⟨rb, 0, none⟩), .int .i64 i, .string nm] w fun e w' => e = .returned (placeRet (findR l i nm.data.toList)) ∧ Below w.heap.size w w' := by
 obtain ⟨tb, n, r0, r1, hm, hrb⟩ := hr; have HG := Lib.hid (tabFn_get (flat l) nm.data.toList); have HI := Lib.hid (tabFn_isSome (flat l) nm.data.toList); obtain ⟨p, cap, b, o, rfl, hcap, hmax, hp, hc⟩ := ho; obtain rfl := hp (by omega)
 obtain ⟨vs, g0, g1, g2, hin⟩ := hc i hi; clear hc hp; have hb1 : Below w.heap.size w ((w.alloc (.cells #[.string nm] 9)).alloc (.cells #[.int .i64 0, .int .i64 0] 185)) := (alloc_old w _).alloc (by simp) _
 have HIX := Lib.hid (indexSym_any vs l[i].syms w.heap.size nm ((w.alloc (.cells #[.string nm] 9)).alloc (.cells #[.int .i64 0, .int .i64 0] 185)) (by simp; omega) (by simp [go_sem]) (hin.1.keep symR_keeps hb1))
 obtain ⟨⟨pS, capS, bS, oS, rfl, -⟩, -⟩ := hin; have hloc : localAt l i nm.data.toList = (l[i].syms.findIdx? (isLocal nm.data.toList)).map (fun k => (i, k)) := by simp [localAt, List.getElem?_eq_getElem hi]
 have HF : Hid (findR l i nm.data.toList = match (l[i].syms.findIdx? (isLocal nm.data.toList)).map (fun k => (i, k)) with | some p => some p | none => winnerIn (flat l) nm.data.toList) := by
  unfold findR; rw [if_pos (by omega), Int.toNat_natCast, hloc]; rfl
 clear hloc; generalize l[i].syms.findIdx? (isLocal nm.data.toList) = ix at HF HIX; generalize l[i].syms.length = nS at g2 HIX; generalize l[i].name = nO at g1; have hbx : Hid (Below w.heap.size w ((w.alloc (.cells #[.string nm] 9)).alloc (.cells #[.int .i64 0, .int .i64 0] 185))) := hb1; clear hb1; cases ix with
 | some k =>
   have HIX2 : Hid (Calls _ _ _ _ _) := HIX.out; simp only [idxV] at HIX2; have hk0 : decide ((0 : Int) ≤ (k : Int)) = true := by simp
   go_enter Tryz.func149, Tryz.ntmps149; go_wp2_with (go_at_call 202; refine HIX2.out.mono ?_; rintro e w1 ⟨rfl, hB⟩; obtain ⟨hc1, hf1⟩ := bcell hB; have hz1 : w.heap.size + 1 < w1.heap.size := (by have := hB.size; (try simp at this); omega))
   have q0 : w1.cell? ⟨w.heap.size + 1, 0, none⟩ = some (.int .i64 0) := by rw [hB.cell (by simp)]; simp [go_sem]
   have q1 : w1.cell? ⟨w.heap.size + 1, 1, none⟩ = some (.int .i64 0) := by rw [hB.cell (by simp)]; simp [go_sem]
   rw [HF.out]; refine bodyPost_ret (v := .tuple #[.agg #[.int .i64 (i : Nat), .int .i64 (k : Nat)], .bool true]) (by simp [results, Tryz.results149, go_sem, q0, q1]) rfl ⟨rfl, ?_⟩
   exact ((hbx.out.trans (hB.mono (by simp; omega))).setCell (by simp) _).setCell (by simp) _
 | none =>
   have HIX2 : Hid (Calls _ _ _ _ _) := HIX.out; simp only [idxV] at HIX2; have HM := Lib.hid ((hm.alloc (.cells #[.string nm] 9)).alloc (.cells #[.int .i64 0, .int .i64 0] 185)); clear hm; have hne : ¬ w.heap.size = rb := by omega
   have hne1 : ¬ w.heap.size + 1 = rb := by omega
   go_enter Tryz.func149, Tryz.ntmps149; go_wp2_with (go_at_call 202; refine HIX2.out.mono ?_; rintro e w1 ⟨rfl, hB⟩); have s0 : w1.cell? ⟨rb, 0, none⟩ = some (.map (some tb)) := by rw [hB.cell (by simp; omega)]; simp [go_sem, *]
   have s1 : w1.cell? ⟨w.heap.size, 0, none⟩ = some (.string nm) := by rw [hB.cell (by simp; omega)]; simp [go_sem]
   have s2 : w1.cell? ⟨w.heap.size + 1, 0, none⟩ = some (.int .i64 0) := by rw [hB.cell (by simp)]; simp [go_sem]
   have s3 : w1.cell? ⟨w.heap.size + 1, 1, none⟩ = some (.int .i64 0) := by rw [hB.cell (by simp)]; simp [go_sem]
   have f2 : w1.frozen? ⟨w.heap.size + 1, 0, none⟩ = false := by rw [hB.frozen (by simp)]; simp [go_sem]
   have f3 : w1.frozen? ⟨w.heap.size + 1, 1, none⟩ = false := by rw [hB.frozen (by simp)]; simp [go_sem]
   have hz1 : w.heap.size + 1 < w1.heap.size := by have := hB.size; (try simp at this); omega
   have hz0 : w.heap.size < w1.heap.size := by omega
   have hzr : rb < w1.heap.size := by omega
   have HM2 := Lib.hid (HM.out.below hB HM.out.lt); have HBB := Lib.hid (hbx.out.trans (hB.mono (by simp; omega)))
   clear hB HM
   go_region_held3 (fun w' => w'.cell? ⟨rb, 0, none⟩ = some (.map (some tb)) ∧ w'.cell? ⟨w.heap.size, 0, none⟩ = some (.string nm)) (go_keep) (first | (go_at_call 201; refine (winner_any tb n (tabFn (flat l)) nm _ _ _ _ ?_ hn HG.out HI.out).mono ?_; (exact HM2.out.drew); rintro e w' ⟨rfl, hB2⟩; have k1 : w'.cell? ⟨rb, 0, none⟩ = some (.map (some tb)) := cell_keep hB2 (by simpa using (by omega)) (by simp [go_sem, *]); have k2 : w'.cell? ⟨w.heap.size, 0, none⟩ = some (.string nm) := cell_keep hB2 (by simpa using (by omega)) (by simp [go_sem, *]); have k3 : w'.cell? ⟨w.heap.size + 1, 0, none⟩ = some (.int .i64 0) := cell_keep hB2 (by simpa using (by omega)) (by simpa [go_sem] using s2); have k4 : w'.cell? ⟨w.heap.size + 1, 1, none⟩ = some (.int .i64 0) := cell_keep hB2 (by simpa using (by omega)) (by simpa [go_sem] using s3); have k5 : w'.frozen? ⟨w.heap.size + 1, 0, none⟩ = false := (hB2.frozen (p := ⟨w.heap.size + 1, 0, none⟩) (by simpa using (by omega))).trans (by simpa [go_sem] using f2); have k6 : w'.frozen? ⟨w.heap.size + 1, 1, none⟩ = false := (hB2.frozen (p := ⟨w.heap.size + 1, 1, none⟩) (by simpa using (by omega))).trans (by simpa [go_sem] using f3)))
   have q0 : w'.cell? ⟨w.heap.size + 1, 0, none⟩ = some (.int .i64 0) := by rw [hB2.cell (by simp; omega), World.cell?_drew]; assumption
   have q1 : w'.cell? ⟨w.heap.size + 1, 1, none⟩ = some (.int .i64 0) := by rw [hB2.cell (by simp; omega), World.cell?_drew]; assumption
   go_wp2_with fail; rw [HF.out]; simp only [Option.map_none]; rw [placeRet_eq]; refine bodyPost_ret (v := .tuple #[.agg #[.int .i64 (((winnerIn (flat l) nm.data.toList).getD (0, 0)).1 : Nat), .int .i64 (((winnerIn (flat l) nm.data.toList).getD (0, 0)).2 : Nat)], .bool (winnerIn (flat l) nm.data.toList).isSome]) (by simp [results, Tryz.results149, go_sem, q0, q1]) rfl ⟨rfl, ?_⟩
   exact (((HBB.out.drew.trans (hB2.mono (by simp; omega))).setCell (by simp) _).setCell (by simp) _)
end Go.Proofs.YtboegjdkedjhcaaGreatDoor
