/- The walk of reloc.Fill. -/
import Derived.Test.YtboegjdkedjhcaaGreatDoorBs11
namespace Go.Proofs.YtboegjdkedjhcaaGreatDoor
open Go.RowKit
def NumR (w : World) (b o : Nat) (x : Int) : Prop := b < w.heap.size ∧ w.cell? ⟨b, o, none⟩ = some (.int .u32 x) ∧ 0 ≤ x ∧ x ≤ 4294967295
theorem numR_keeps : Keeps NumR := fun _ _ _ _ _ hb ⟨h0, h1, r⟩ => ⟨size_keep hb h0, cell_keep hb h0 h1, r⟩
set_option maxHeartbeats 2000000 in
set_option maxRecDepth 100000 in
theorem fill_any (s : GSym) (vr vn av : Value) (addrs : List Int) (w : World) (h : SymIn w s vr vn) (hb : s.bytes.size < 4294967296) (ha : RowAt 1 NumR w av addrs) :
 Calls Tryz.prog 207 #[.agg #[.string s.name, .int .u8 s.bind, .int .u8 s.kind, .int .u32 s.size, .string s.bytes, vr, vn], av] w fun e w' =>
  e = .returned (.tuple #[.string (fillR s addrs).1, .int .i64 (fillR s addrs).2]) ∧ Below w.heap.size w w' := by
 have HX := Lib.hid (begin15_any s vr vn _ (SymIn.keep (alloc_old w (.cells #[.string s.name, .int .u8 s.bind, .int .u8 s.kind, .int .u32 s.size, .string s.bytes, vr, vn] 55)) h) hb); have HS := Lib.hid h; have HA := Lib.hid ha; obtain ⟨pa, ca, ba, oa, rfl, -, hamax, -, -⟩ := ha; obtain ⟨p1, q1, p2, q2, rfl, rfl⟩ := h.shape; clear h; have HB0 : Hid (Below w.heap.size w (w.alloc (.cells #[.string s.name, .int .u8 s.bind, .int .u8 s.kind, .int .u32 s.size, .string s.bytes, .slice p1 s.rels.length q1, .slice p2 s.notes.length q2] 55))) := alloc_old w _; go_enter Tryz.func207, Tryz.ntmps207; go_wp2_with fail; refine HX.out.mono ?_; rintro e w1 ⟨hB, ⟨hs, rfl⟩ | ⟨hs, fb, gb, rfl, hst⟩⟩
 ·go_wp2; go_ret2; rw [fillR_bad hs]; exact ⟨rfl, HB0.out.trans (hB.mono (by simp))⟩
 ·have HB1 : Hid (Below w.heap.size w w1) := HB0.out.trans (hB.mono (by simp))
  have HFS : Hid (FillSt w1 w.heap.size fb gb s (.slice p1 s.rels.length q1) (.slice p2 s.notes.length q2) (bytes0 s)) := ⟨hst.bx, hst.row, by have := hst.fle; simp at this; omega, by have := hst.gle; simp at this; omega, hst.ne⟩
  clear hst hB HX HB0; obtain ⟨hfb, hc5, hc7, hfz⟩ := HFS.out.fbox
  by_cases hlen : addrs.length = s.rels.length
  ·have HY := Lib.hid (fillR_yes hs hlen); obtain ⟨f1, f2, f3, f4, f5⟩ := symOk_fits hs hb; have HZL := Lib.hid (bytes0_length f1); have HF5 := Lib.hid f5; clear f5; clear hs; generalize bytes0 s = bz at HY HFS HZL hc7; have hd : (addrs.length != s.rels.length) = false := by simpa using hlen
   go_wp2
   go_loopw [36] (fun v0 wr => ∃ (k : Nat) (b : BL), v0 = .int .i64 k ∧ k ≤ s.rels.length ∧ b.length = bz.length ∧ FillSt wr w.heap.size fb gb s (.slice p1 s.rels.length q1) (.slice p2 s.notes.length q2) b ∧ fillL b (s.rels.drop k) (addrs.drop k) = fillL bz s.rels addrs ∧ Below w.heap.size w wr) (fun v0 _ => s.rels.length - (intOf v0).toNat)
   case atStart => exact ⟨0, bz, by go_num, Nat.zero_le _, rfl, HFS.out, by simp, HB1.out⟩
   case round =>
    obtain ⟨k, b, rfl, hk, hbl, hst, hgo, hB⟩ := hrel; have HG := Lib.hid hgo; clear hgo; have HBL := Lib.hid hbl; clear hbl; have HB : Hid (Below w.heap.size w wr) := hB; clear hB; have HST := Lib.hid hst; clear hst; obtain ⟨hfb2, hr5, hr7, hrz⟩ := HST.out.fbox
    by_cases hlt : k < s.rels.length
    ·have HR := Lib.hid (HS.out.keep HB.out).1; have HAk := Lib.hid (HA.out.keep numR_keeps HB.out); obtain ⟨p1', q1', br, orr, he1, -, -, hp1, hcells⟩ := HR.out; cases he1; obtain rfl := hp1 (by omega)
     obtain ⟨pa', ca', bra, ora, he2, -, -, hp2, hcells2⟩ := HAk.out; cases he2; obtain rfl := hp2 (by omega)
     obtain ⟨r0, r1, r2, r3, r4, r5, r6, r7, r8⟩ := hcells k hlt; have hlta : k < addrs.length := by omega
     obtain ⟨a0, a1, a2, a3⟩ := hcells2 k hlta; have HSTEP := Lib.hid (fillL_step (b := b) hlt hlta rfl rfl); obtain ⟨x1, x2, x3⟩ := HF5.out s.rels[k] (List.getElem_mem hlt); clear hcells hcells2 hp1 hp2; generalize s.rels[k] = x at r0 r1 r2 r3 r4 r5 r6 r7 r8 HSTEP x1 x2 x3; generalize addrs[k] = av at a0 a1 a2 a3 HSTEP; obtain ⟨xo, xk, xn, xa⟩ := x; simp only [] at r0 r1 r2 r3 r4 r5 r6 r7 r8 HSTEP x1 x2 x3; obtain ⟨o, rfl⟩ : ∃ o : Nat, xo = o := ⟨xo.toNat, by omega⟩
     rw [HG.out] at HSTEP; have hwv : IntKind.u32.wrap (av + xa) = fillV ⟨o, xk, xn, xa⟩ av := by rw [IntKind.wrap_u32]; rfl
     have hv0 : 0 ≤ fillV ⟨o, xk, xn, xa⟩ av := by unfold fillV; omega
     have hv1 : fillV ⟨o, xk, xn, xa⟩ av ≤ 4294967295 := by unfold fillV; omega
     generalize fillV ⟨o, xk, xn, xa⟩ av = fv at hwv hv0 hv1 HSTEP; have HBx : Hid (Below wr.heap.size wr (wr.alloc (.cells #[.int .u32 (o : Int), .int .u8 xk, .string xn, .int .u32 xa] 133))) := alloc_old wr _; rw [Nat.mul_one] at a1; have a1' := cell_keep HBx.out a0 a1; have HSTx := Lib.hid (HST.out.keep HBx.out)
     by_cases hov : xk = 2 ∧ 65536 ≤ fv
     ·obtain ⟨rfl, hv5⟩ := hov; rw [if_pos ⟨rfl, hv5⟩] at HSTEP; have hfit : o + 2 ≤ b.length := by have := HZL.out; have := HBL.out; simp only [widthOf] at x3; simp at x3; omega
      have hbl8 : b.length ≤ 8192 := by have := HZL.out; have := HBL.out; omega
      go_wp2_with fail
      go_region_with ((go_at_call 229; refine (put15_over w.heap.size fb gb s _ _ b o xn xa fv _ (FillSt.keep HSTx.out (by go_grown)) hfit hbl8 hv5 hv1).mono ?_; rintro e w3 ⟨rfl, hB3⟩))
      all_goals
       go_wp2_with fail; go_ret2; rw [HY.out, HSTEP.out]; exact ⟨rfl, HB.out.trans ((HBx.out.drew.trans (hB3.mono (by simp))).mono HB.out.size)⟩
     ·rw [if_neg hov] at HSTEP
      obtain ⟨wd, hwd, hk2, hfit⟩ : ∃ wd : Nat, (widthOf xk).toNat = wd ∧ ((xk = 1 ∧ wd = 4) ∨ (xk = 2 ∧ wd = 2 ∧ fv < 65536)) ∧ o + wd ≤ b.length := by
       have := HZL.out; have := HBL.out; rcases x1 with rfl | rfl
       ·refine ⟨4, rfl, .inl ⟨rfl, rfl⟩, ?_⟩; simp only [widthOf] at x3; simp at x3; omega
       ·refine ⟨2, rfl, .inr ⟨rfl, rfl, by omega⟩, ?_⟩
        simp only [widthOf] at x3; simp at x3; omega
      rw [hwd] at HSTEP; simp only [Int.toNat_natCast] at HSTEP; have hbl8 : b.length ≤ 8192 := by have := HZL.out; have := HBL.out; omega
      have HPL := Lib.hid (putB_length (b := b) (s := leB wd fv) (o := o) (by simp [leB_length]; omega))
      clear hov hwd x1 x2 x3; go_wp2_with fail
      go_region_with ((go_at_call 229; refine (put15_any w.heap.size fb gb s _ _ b o xk xn xa wd fv _ (FillSt.keep HSTx.out (by go_grown)) hk2 hfit hbl8 hv0 hv1).mono ?_; rintro e w3 ⟨rfl, hB3, hF3⟩))
      all_goals
       go_wp2_with fail; go_roundw
       case rel => exact ⟨k + 1, _, by go_num, by omega, HPL.out.trans HBL.out, hF3, HSTEP.out.symm, HB.out.trans ((HBx.out.drew.mono HB.out.size).trans hB3)⟩
       case measure => simp [intOf]; omega
    ·have hcv := run_bytes_of_row HST.out.row 81 9 5 0 b.length b.length Tryz.underlying81 Tryz.underlying5 Tryz.underlying9 (by omega)
     rw [List.drop_zero, List.take_length] at hcv; have HE := Lib.hid (fillL_end (addrs := addrs) (b := b) hlt); go_wp2; go_ret2; rw [HY.out, ← HG.out, HE.out]; exact ⟨rfl, HB.out⟩
  ·have hd : (addrs.length != s.rels.length) = true := by simpa using hlen
   go_wp2; go_ret2; rw [fillR_len hlen]; exact ⟨rfl, HB1.out⟩
end Go.Proofs.YtboegjdkedjhcaaGreatDoor
