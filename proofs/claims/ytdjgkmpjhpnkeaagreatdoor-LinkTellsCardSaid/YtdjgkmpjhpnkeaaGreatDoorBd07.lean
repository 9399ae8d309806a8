/- The walks of resolver.find and resolve.Find, Check. The walk of resolve.Find. Rows of places that a call makes, and rows of places as they are read. The walk of resolve.Refs. -/
import Derived.Test.YtdjgkmpjhpnkeaaGreatDoorBd04
import Derived.Test.YtdjgkmpjhpnkeaaGreatDoorBd05
import Derived.Test.YtdjgkmpjhpnkeaaGreatDoorRows
import Derived.Test.YtdjgkmpjhpnkeaaGreatDoorBd02
import Derived.Maps.AppendAt
namespace Go.Proofs.YtdjgkmpjhpnkeaaGreatDoor
open Go.RowKit Go.Maps Go.WideMaps
theorem toList_beq (a b : ByteArray) : (a.toList == b.toList) = (a.data.toList == b.data.toList) := by rw [ByteArray.toList_eq, ByteArray.toList_eq]
set_option maxHeartbeats 400000 in
theorem find1_any (s : GSym) (vr vn : Value) (nb : Nat) (nm : ByteArray) (w : World) (hnb : nb < w.heap.size) (hc : w.cell? ⟨nb, 0, none⟩ = some (.string nm)) :
    Calls Tryz.prog 225 #[.agg #[.string s.name, .int .u8 s.bind, .int .u8 s.kind, .int .u32 s.size, .string s.bytes, vr, vn], .pointer (some ⟨nb, 0, none⟩)] w fun e w' => e = .returned (.bool (isLocal nm.data.toList s)) ∧ Below w.heap.size w w' := by
  obtain ⟨yn, yb, yk, ys, yy, yr, yt⟩ := s
  simp only [] at *
  go_enter Tryz.func225, Tryz.ntmps225
  go_wp2
  · have h : yn.toList = nm.toList := by assumption
    rw [ByteArray.toList_eq, ByteArray.toList_eq] at h
    go_ret
    exact ⟨ret_bool (by simp [isLocal, h, ibeq]), alloc_old w _⟩
  · have h : ¬ yn.toList = nm.toList := by assumption
    rw [ByteArray.toList_eq, ByteArray.toList_eq] at h
    go_ret
    have h2 : (yn.data.toList == nm.data.toList) = false := by rw [beq_eq_false_iff_ne]; exact h
    exact ⟨ret_bool (by simp only [isLocal, h2, Bool.false_and]), alloc_old w _⟩
def idxV : Option Nat → Int | some k => k | none => -1
set_option maxHeartbeats 400000 in
theorem indexSym_any (v : Value) (l : List GSym) (nb : Nat) (nm : ByteArray) (w : World) (hnb : nb < w.heap.size) (hnm : w.cell? ⟨nb, 0, none⟩ = some (.string nm)) (h : RowAt 7 SymR w v l) :
    Calls Tryz.prog 224 #[v, .func (.func 225) #[] #[.pointer (some ⟨nb, 0, none⟩)]] w fun e w' => e = .returned (.int .i64 (idxV (l.findIdx? (isLocal nm.data.toList)))) ∧ Below w.heap.size w w' := by
  obtain ⟨p, cap, b, o, rfl, hcap, hmax, hp, hc⟩ := h
  have HC := Lib.hid hc; clear hc
  have HP := Lib.hid hp; clear hp
  go_enter Tryz.func224, Tryz.ntmps224
  go_wp2
  go_loopw [8] (fun i wr => ∃ k : Nat, k ≤ l.length ∧ i = .int .i64 k ∧ (l.take k).all (fun x => !isLocal nm.data.toList x) = true ∧ Below w.heap.size w wr) (fun i _ => l.length - (intOf i).toNat)
  case atStart => exact ⟨0, Nat.zero_le _, rfl, rfl, Below.refl _ _⟩
  case round =>
    obtain ⟨k, hk, rfl, hall, hbel⟩ := hrel
    have HA := Lib.hid hall; clear hall
    have HB := Lib.hid hbel; clear hbel
    by_cases hlt : k < l.length
    · obtain rfl := HP.out (by omega)
      obtain ⟨vr, vn, g0, g1, g2, g3, g4, g5, g6, g7, hin⟩ := symR_keeps _ _ _ _ _ HB.out (HC.out k hlt)
      have HCON := Lib.hid (find1_any l[k] vr vn nb nm wr (size_keep HB.out hnb) (cell_keep HB.out hnb hnm)); clear hin
      generalize hx : l[k] = x at *
      obtain ⟨yn, yb, yk, ys, yy, yr, yt⟩ := x
      simp only [] at *
      have HX := Lib.hid hx; clear hx
      go_wp2_with (go_at_call 225; refine HCON.out.mono ?_; rintro e w' ⟨rfl, hB⟩)
      · have hyes : isLocal nm.data.toList ⟨yn, yb, yk, ys, yy, yr, yt⟩ = true := by assumption
        go_ret
        exact ⟨ret_int (by rw [findIdx_some hlt HX.out hyes HA.out]; rfl), HB.out.trans (hB.mono HB.out.size)⟩
      · have hno : isLocal nm.data.toList ⟨yn, yb, yk, ys, yy, yr, yt⟩ = false := by assumption
        go_roundw
        case rel => exact ⟨k + 1, by omega, by go_num, take_all_snoc hlt HX.out HA.out (by simpa using hno), HB.out.trans (hB.mono HB.out.size)⟩
        case measure => simp [intOf]; omega
    · go_wp2
      go_ret
      exact ⟨ret_int (by rw [findIdx_none (all_end hlt HA.out)]; rfl), HB.out⟩
/-- a place and whether there is one, as the program returns them -/
def placeRet (p : Option (Nat × Nat)) : Value := match p with | some q => .tuple #[.agg #[.int .i64 q.1, .int .i64 q.2], .bool true] | none => .tuple #[.agg #[.int .i64 0, .int .i64 0], .bool false]
theorem tabFn_get (l : List Spot) (n : List UInt8) : (tabFn l n).getD (.agg #[.int .i64 0, .int .i64 0]) = .agg #[.int .i64 (((winnerIn l n).getD (0, 0)).1 : Nat), .int .i64 (((winnerIn l n).getD (0, 0)).2 : Nat)] := by
  unfold tabFn
  cases winnerIn l n <;> simp [placeV]
theorem placeRet_eq (p : Option (Nat × Nat)) : placeRet p = .tuple #[.agg #[.int .i64 ((p.getD (0, 0)).1 : Nat), .int .i64 ((p.getD (0, 0)).2 : Nat)], .bool p.isSome] := by cases p <;> rfl
set_option maxRecDepth 100000 in
set_option maxHeartbeats 1000000 in
theorem findNeg (rb : Nat) (v : Value) (l : List GObj) (i : Int) (nm : ByteArray) (w : World) (hr : Resolver w rb v l) (hn : nm.size ≤ 9223372036854775807) (hi : i < 0) :
    Calls Tryz.prog 144 #[.pointer (some ⟨rb, 0, none⟩), .int .i64 i, .string nm] w fun e w' => e = .returned (placeRet (winnerIn (flat l) nm.data.toList)) ∧ Below w.heap.size w w' := by
  obtain ⟨tb, n, r0, r1, hm, hrb⟩ := hr
  have HG := Lib.hid (tabFn_get (flat l) nm.data.toList)
  have HI := Lib.hid (tabFn_isSome (flat l) nm.data.toList)
  have HM := Lib.hid ((hm.alloc (.cells #[.string nm] 9)).alloc (.cells #[.int .i64 0, .int .i64 0] 63)); clear hm
  have hne : ¬ w.heap.size = rb := by omega
  have hne1 : ¬ w.heap.size + 1 = rb := by omega
  go_enter Tryz.func144, Tryz.ntmps144
  go_wp2
  go_region_held3 (fun w' => w'.cell? ⟨rb, 0, none⟩ = some (.map (some tb)) ∧ w'.cell? ⟨w.heap.size, 0, none⟩ = some (.string nm)) (go_keep) (first | (go_at_call 216; refine (winner_any tb n (tabFn (flat l)) nm _ _ _ _ ?_ hn HG.out HI.out).mono ?_; (exact HM.out.drew); rintro e w' ⟨rfl, hB⟩; have k1 : w'.cell? ⟨rb, 0, none⟩ = some (.map (some tb)) := cell_keep hB (by simp; omega) (by simp [go_sem, *]); have k2 : w'.cell? ⟨w.heap.size, 0, none⟩ = some (.string nm) := cell_keep hB (by simp <;> omega) (by simp [go_sem, *]); obtain ⟨hc, hf⟩ := bcell hB))
  have q0 : w'.cell? ⟨w.heap.size + 1, 0, none⟩ = some (.int .i64 0) := by rw [hB.cell (by simp)]; simp [go_sem]
  have q1 : w'.cell? ⟨w.heap.size + 1, 1, none⟩ = some (.int .i64 0) := by rw [hB.cell (by simp)]; simp [go_sem]
  go_wp2_with fail
  rw [placeRet_eq]
  refine bodyPost_ret (v := .tuple #[.agg #[.int .i64 (((winnerIn (flat l) nm.data.toList).getD (0, 0)).1 : Nat), .int .i64 (((winnerIn (flat l) nm.data.toList).getD (0, 0)).2 : Nat)], .bool (winnerIn (flat l) nm.data.toList).isSome]) (by simp [results, Tryz.results144, go_sem, q0, q1]) rfl ⟨rfl, ?_⟩
  exact (((((alloc_old w _).alloc (by simp) _).drew.trans (hB.mono (by simp; omega))).setCell (by simp) _).setCell (by simp) _)
set_option maxRecDepth 100000 in
set_option maxHeartbeats 1000000 in
theorem findPos (rb : Nat) (v : Value) (l : List GObj) (i : Nat) (nm : ByteArray) (w : World) (hr : Resolver w rb v l) (ho : ObjsAt w v l) (hn : nm.size ≤ 9223372036854775807) (hi : i < l.length) :
    Calls Tryz.prog 144 #[.pointer (some ⟨rb, 0, none⟩), .int .i64 i, .string nm] w fun e w' => e = .returned (placeRet (findR l i nm.data.toList)) ∧ Below w.heap.size w w' := by
  obtain ⟨tb, n, r0, r1, hm, hrb⟩ := hr
  have HG := Lib.hid (tabFn_get (flat l) nm.data.toList)
  have HI := Lib.hid (tabFn_isSome (flat l) nm.data.toList)
  obtain ⟨p, cap, b, o, rfl, hcap, hmax, hp, hc⟩ := ho
  obtain rfl := hp (by omega)
  obtain ⟨vs, g0, g1, g2, hin⟩ := hc i hi
  clear hc hp
  have hb1 : Below w.heap.size w ((w.alloc (.cells #[.string nm] 9)).alloc (.cells #[.int .i64 0, .int .i64 0] 63)) := (alloc_old w _).alloc (by simp) _
  have HIX := Lib.hid (indexSym_any vs l[i].syms w.heap.size nm ((w.alloc (.cells #[.string nm] 9)).alloc (.cells #[.int .i64 0, .int .i64 0] 63)) (by simp; omega) (by simp [go_sem]) (hin.1.keep symR_keeps hb1))
  obtain ⟨⟨pS, capS, bS, oS, rfl, -⟩, -⟩ := hin
  have hloc : localAt l i nm.data.toList = (l[i].syms.findIdx? (isLocal nm.data.toList)).map (fun k => (i, k)) := by simp [localAt, List.getElem?_eq_getElem hi]
  have HF : Hid (findR l i nm.data.toList = match (l[i].syms.findIdx? (isLocal nm.data.toList)).map (fun k => (i, k)) with | some p => some p | none => winnerIn (flat l) nm.data.toList) := by
    unfold findR; rw [if_pos (by omega), Int.toNat_natCast, hloc]; rfl
  clear hloc
  generalize l[i].syms.findIdx? (isLocal nm.data.toList) = ix at HF HIX
  generalize l[i].syms.length = nS at g2 HIX
  generalize l[i].name = nO at g1
  have hbx : Hid (Below w.heap.size w ((w.alloc (.cells #[.string nm] 9)).alloc (.cells #[.int .i64 0, .int .i64 0] 63))) := hb1
  clear hb1
  cases ix with
  | some k =>
    have HIX2 : Hid (Calls _ _ _ _ _) := HIX.out
    simp only [idxV] at HIX2
    have hk0 : decide ((0 : Int) ≤ (k : Int)) = true := by simp
    go_enter Tryz.func144, Tryz.ntmps144
    go_wp2_with (go_at_call 224; refine HIX2.out.mono ?_; rintro e w1 ⟨rfl, hB⟩; obtain ⟨hc1, hf1⟩ := bcell hB; have hz1 : w.heap.size + 1 < w1.heap.size := (by have := hB.size; (try simp at this); omega))
    have q0 : w1.cell? ⟨w.heap.size + 1, 0, none⟩ = some (.int .i64 0) := by rw [hB.cell (by simp)]; simp [go_sem]
    have q1 : w1.cell? ⟨w.heap.size + 1, 1, none⟩ = some (.int .i64 0) := by rw [hB.cell (by simp)]; simp [go_sem]
    rw [HF.out]
    refine bodyPost_ret (v := .tuple #[.agg #[.int .i64 (i : Nat), .int .i64 (k : Nat)], .bool true]) (by simp [results, Tryz.results144, go_sem, q0, q1]) rfl ⟨rfl, ?_⟩
    exact ((hbx.out.trans (hB.mono (by simp; omega))).setCell (by simp) _).setCell (by simp) _
  | none =>
    have HIX2 : Hid (Calls _ _ _ _ _) := HIX.out
    simp only [idxV] at HIX2
    have HM := Lib.hid ((hm.alloc (.cells #[.string nm] 9)).alloc (.cells #[.int .i64 0, .int .i64 0] 63)); clear hm
    have hne : ¬ w.heap.size = rb := by omega
    have hne1 : ¬ w.heap.size + 1 = rb := by omega
    go_enter Tryz.func144, Tryz.ntmps144
    go_wp2_with (go_at_call 224; refine HIX2.out.mono ?_; rintro e w1 ⟨rfl, hB⟩)
    have s0 : w1.cell? ⟨rb, 0, none⟩ = some (.map (some tb)) := by rw [hB.cell (by simp; omega)]; simp [go_sem, *]
    have s1 : w1.cell? ⟨w.heap.size, 0, none⟩ = some (.string nm) := by rw [hB.cell (by simp; omega)]; simp [go_sem]
    have s2 : w1.cell? ⟨w.heap.size + 1, 0, none⟩ = some (.int .i64 0) := by rw [hB.cell (by simp)]; simp [go_sem]
    have s3 : w1.cell? ⟨w.heap.size + 1, 1, none⟩ = some (.int .i64 0) := by rw [hB.cell (by simp)]; simp [go_sem]
    have f2 : w1.frozen? ⟨w.heap.size + 1, 0, none⟩ = false := by rw [hB.frozen (by simp)]; simp [go_sem]
    have f3 : w1.frozen? ⟨w.heap.size + 1, 1, none⟩ = false := by rw [hB.frozen (by simp)]; simp [go_sem]
    have hz1 : w.heap.size + 1 < w1.heap.size := by have := hB.size; (try simp at this); omega
    have hz0 : w.heap.size < w1.heap.size := by omega
    have hzr : rb < w1.heap.size := by omega
    have HM2 := Lib.hid (HM.out.below hB HM.out.lt)
    have HBB := Lib.hid (hbx.out.trans (hB.mono (by simp; omega)))
    clear hB HM
    go_region_held3 (fun w' => w'.cell? ⟨rb, 0, none⟩ = some (.map (some tb)) ∧ w'.cell? ⟨w.heap.size, 0, none⟩ = some (.string nm)) (go_keep) (first | (go_at_call 216; refine (winner_any tb n (tabFn (flat l)) nm _ _ _ _ ?_ hn HG.out HI.out).mono ?_; (exact HM2.out.drew); rintro e w' ⟨rfl, hB2⟩; have k1 : w'.cell? ⟨rb, 0, none⟩ = some (.map (some tb)) := cell_keep hB2 (by simpa using (by omega)) (by simp [go_sem, *]); have k2 : w'.cell? ⟨w.heap.size, 0, none⟩ = some (.string nm) := cell_keep hB2 (by simpa using (by omega)) (by simp [go_sem, *]); have k3 : w'.cell? ⟨w.heap.size + 1, 0, none⟩ = some (.int .i64 0) := cell_keep hB2 (by simpa using (by omega)) (by simpa [go_sem] using s2); have k4 : w'.cell? ⟨w.heap.size + 1, 1, none⟩ = some (.int .i64 0) := cell_keep hB2 (by simpa using (by omega)) (by simpa [go_sem] using s3); have k5 : w'.frozen? ⟨w.heap.size + 1, 0, none⟩ = false := (hB2.frozen (p := ⟨w.heap.size + 1, 0, none⟩) (by simpa using (by omega))).trans (by simpa [go_sem] using f2); have k6 : w'.frozen? ⟨w.heap.size + 1, 1, none⟩ = false := (hB2.frozen (p := ⟨w.heap.size + 1, 1, none⟩) (by simpa using (by omega))).trans (by simpa [go_sem] using f3)))
    have q0 : w'.cell? ⟨w.heap.size + 1, 0, none⟩ = some (.int .i64 0) := by rw [hB2.cell (by simp; omega), World.cell?_drew]; assumption
    have q1 : w'.cell? ⟨w.heap.size + 1, 1, none⟩ = some (.int .i64 0) := by rw [hB2.cell (by simp; omega), World.cell?_drew]; assumption
    go_wp2_with fail
    rw [HF.out]
    simp only [Option.map_none]
    rw [placeRet_eq]
    refine bodyPost_ret (v := .tuple #[.agg #[.int .i64 (((winnerIn (flat l) nm.data.toList).getD (0, 0)).1 : Nat), .int .i64 (((winnerIn (flat l) nm.data.toList).getD (0, 0)).2 : Nat)], .bool (winnerIn (flat l) nm.data.toList).isSome]) (by simp [results, Tryz.results144, go_sem, q0, q1]) rfl ⟨rfl, ?_⟩
    exact (((HBB.out.drew.trans (hB2.mono (by simp; omega))).setCell (by simp) _).setCell (by simp) _)
end Go.Proofs.YtdjgkmpjhpnkeaaGreatDoor
namespace Go.Proofs.YtdjgkmpjhpnkeaaGreatDoor
open Go.RowKit Go.Maps Go.WideMaps
def findV (r : (Nat × Nat) × Int) : Value := .tuple #[.agg #[.int .i64 r.1.1, .int .i64 r.1.2], .int .i64 r.2]
set_option maxHeartbeats 1000000 in
theorem resFind_any (v : Value) (l : List GObj) (i : Int) (nm : ByteArray) (w : World) (h : ObjsAt w v l) (hn : nm.size ≤ 9223372036854775807) :
    Calls Tryz.prog 55 #[v, .int .i64 i, .string nm] w fun e w' => e = .returned (findV (findAll l i nm.data.toList)) ∧ Below w.heap.size w w' := by
  have HO := Lib.hid h
  have HBG := Lib.hid (begin_any v l (w.alloc (.cells #[.int .i64 0, .int .i64 0] 63)) (ObjsAt.keep (alloc_old w _) h))
  have hsh : ∃ (p : Option Addr) (cap : Nat), v = .slice p l.length cap := by obtain ⟨p, cap, b, o, rfl, _⟩ := h; exact ⟨p, cap, rfl⟩
  obtain ⟨p, cap, rfl⟩ := hsh
  clear h
  have HFA := Lib.hid (show findAll l i nm.data.toList = _ from rfl)
  go_enter Tryz.func55, Tryz.ntmps55
  go_wp2_with fail
  refine HBG.out.mono ?_
  rintro e w1 ⟨hcase, hB⟩
  obtain ⟨hc1, hf1⟩ := bcell hB
  have hz : w.heap.size < w1.heap.size := by have := hB.size; (try simp at this); omega
  have HBW := Lib.hid ((alloc_old w (.cells #[.int .i64 0, .int .i64 0] 63)).trans (hB.mono (by simp)))
  have q0 : w1.cell? ⟨w.heap.size, 0, none⟩ = some (.int .i64 0) := by rw [hB.cell (by simp)]; simp [go_sem]
  have q1 : w1.cell? ⟨w.heap.size, 1, none⟩ = some (.int .i64 0) := by rw [hB.cell (by simp)]; simp [go_sem]
  rcases hcase with ⟨c, hb2, hc0, rfl⟩ | ⟨hb2, hb1, rb, rfl, hres⟩
  · have hcb : (c != 0) = true := by simpa using hc0
    have HF : Hid (findAll l i nm.data.toList = ((0, 0), c)) := by unfold findAll; rw [hb2, if_pos hc0]; rfl
    clear hb2
    generalize (beginR l).1 = bn
    go_wp2_with fail
    rw [HF.out]
    refine bodyPost_ret (v := .tuple #[.agg #[.int .i64 0, .int .i64 0], .int .i64 c]) (by simp [results, Tryz.results55, go_sem, q0, q1]) rfl ⟨rfl, ?_⟩
    exact (HBW.out.setCell (by simp) _).setCell (by simp) _
  · have HB2 := Lib.hid hb2; clear hb2 hb1
    have HR := Lib.hid hres; clear hres
    by_cases hr : i < -1 ∨ (l.length : Int) ≤ i
    · have HF : Hid (findAll l i nm.data.toList = ((0, 0), 2)) := by unfold findAll; rw [HB2.out, if_neg (by simp), if_pos hr]; rfl
      go_wp2_with fail
      all_goals
        rw [HF.out]
        refine bodyPost_ret (v := .tuple #[.agg #[.int .i64 0, .int .i64 0], .int .i64 2]) (by simp [results, Tryz.results55, go_sem, q0, q1]) rfl ⟨rfl, ?_⟩
        exact (HBW.out.setCell (by simp) _).setCell (by simp) _
    · have hr1 : ¬ i < -1 := fun h => hr (.inl h)
      have hr2 : ¬ (l.length : Int) ≤ i := fun h => hr (.inr h)
      have HF : Hid (findAll l i nm.data.toList = match findR l i nm.data.toList with | some p => (p, 0) | none => ((0, 0), 121)) := by unfold findAll; rw [HB2.out, if_neg (by simp), if_neg hr]; rfl
      have HCON : Hid (Calls Tryz.prog 144 #[.pointer (some ⟨rb, 0, none⟩), .int .i64 i, .string nm] w1 fun e w' => e = .returned (placeRet (findR l i nm.data.toList)) ∧ Below w1.heap.size w1 w') := by
        by_cases hi0 : i < 0
        · have hf : findR l i nm.data.toList = winnerIn (flat l) nm.data.toList := by unfold findR; rw [if_neg (by omega)]
          rw [hf]
          exact findNeg rb _ l i nm w1 HR.out hn hi0
        · obtain ⟨j, rfl⟩ := Int.eq_ofNat_of_zero_le (show 0 ≤ i by omega)
          exact findPos rb _ l j nm w1 HR.out (ObjsAt.keep HBW.out HO.out) hn (by omega)
      generalize findR l i nm.data.toList = fr at HF HCON
      cases fr with
      | none =>
        simp only [placeRet] at HCON
        go_wp2_with (go_at_call 144; refine HCON.out.mono ?_; rintro e w2 ⟨rfl, hB2⟩; obtain ⟨hc2, hf2⟩ := bcell hB2; have hz2 : w.heap.size < w2.heap.size := (by have := hB2.size; omega))
        have q0' : w2.cell? ⟨w.heap.size, 0, none⟩ = some (.int .i64 0) := cell_keep hB2 hz q0
        have q1' : w2.cell? ⟨w.heap.size, 1, none⟩ = some (.int .i64 0) := cell_keep hB2 hz q1
        rw [HF.out]
        refine bodyPost_ret (v := .tuple #[.agg #[.int .i64 0, .int .i64 0], .int .i64 121]) (by simp [results, Tryz.results55, go_sem, q0', q1', hz2]) rfl ⟨rfl, ?_⟩
        have hfin : Below w.heap.size w w2 := HBW.out.trans (hB2.mono HBW.out.size)
        exact ((hfin.setCell (by simp) _).setCell (by simp) _).alloc (by simp; omega) _
      | some pq =>
        obtain ⟨pi, pk⟩ := pq
        simp only [placeRet] at HCON
        go_wp2_with (go_at_call 144; refine HCON.out.mono ?_; rintro e w2 ⟨rfl, hB2⟩; obtain ⟨hc2, hf2⟩ := bcell hB2; have hz2 : w.heap.size < w2.heap.size := (by have := hB2.size; omega))
        have q0' : w2.cell? ⟨w.heap.size, 0, none⟩ = some (.int .i64 0) := cell_keep hB2 hz q0
        have q1' : w2.cell? ⟨w.heap.size, 1, none⟩ = some (.int .i64 0) := cell_keep hB2 hz q1
        rw [HF.out]
        refine bodyPost_ret (v := .tuple #[.agg #[.int .i64 (pi : Nat), .int .i64 (pk : Nat)], .int .i64 0]) (by simp [results, Tryz.results55, go_sem, q0', q1', hz2]) rfl ⟨rfl, ?_⟩
        have hfin : Below w.heap.size w w2 := HBW.out.trans (hB2.mono HBW.out.size)
        exact ((hfin.setCell (by simp) _).setCell (by simp) _).alloc (by simp; omega) _
end Go.Proofs.YtdjgkmpjhpnkeaaGreatDoor
namespace Go.Proofs.YtdjgkmpjhpnkeaaGreatDoor
open Go.RowKit Go.Maps Go.WideMaps
def placeCells (ps : List (Nat × Nat)) : List Value := ps.flatMap fun p => [.int .i64 p.1, .int .i64 p.2]
def PRow (base : Nat) (w : World) (v : Value) (ps : List (Nat × Nat)) : Prop := w.ownsRow base 63 2 v ps.length (placeCells ps)
theorem PRow.keep {base : Nat} {w w' : World} {v : Value} {ps : List (Nat × Nat)} (hb : Below w.heap.size w w') (h : PRow base w v ps) : PRow base w' v ps := ownsRow_below hb h
theorem PRow.nil (base : Nat) (w : World) : PRow base w (.slice none 0 0) [] := World.ownsRow_nil w _ _ _
theorem placeCells_snoc (ps : List (Nat × Nat)) (a b : Nat) : placeCells (ps ++ [(a, b)]) = placeCells ps ++ [.int .i64 a, .int .i64 b] := by simp [placeCells]
theorem PRow.snoc {base : Nat} {w : World} {v : Value} {ps : List (Nat × Nat)} {a b : Nat} (h : w.ownsRow base 63 2 v (ps.length + 1) (placeCells ps ++ [.int .i64 a, .int .i64 b])) : PRow base w v (ps ++ [(a, b)]) := by
  unfold PRow
  rw [placeCells_snoc, List.length_append]
  exact h
def PlaceR (w : World) (b o : Nat) (p : Nat × Nat) : Prop := b < w.heap.size ∧ w.cell? ⟨b, o, none⟩ = some (.int .i64 p.1) ∧ w.cell? ⟨b, o + 1, none⟩ = some (.int .i64 p.2)
theorem placeR_keeps : Keeps PlaceR := fun _ _ _ _ _ hb ⟨h0, h1, h2⟩ => ⟨size_keep hb h0, cell_keep hb h0 h1, cell_keep hb h0 h2⟩
theorem add_zero_eq (g j : Nat) : (⟨g, 0, none⟩ : Addr).add j = ⟨g, j, none⟩ := by
  unfold Addr.add
  by_cases h : j = 0 <;> simp [h]
theorem placeCells_get : ∀ (ps : List (Nat × Nat)) (i : Nat) (h : i < ps.length), (placeCells ps)[i * 2]? = some (.int .i64 (ps[i].1 : Nat)) ∧ (placeCells ps)[i * 2 + 1]? = some (.int .i64 (ps[i].2 : Nat))
  | p :: r, 0, _ => by simp [placeCells]
  | p :: r, i + 1, h => by
    have := placeCells_get r i (by simpa using h)
    have e : placeCells (p :: r) = .int .i64 p.1 :: .int .i64 p.2 :: placeCells r := by simp [placeCells]
    rw [e, show (i + 1) * 2 = i * 2 + 1 + 1 by omega, show i * 2 + 1 + 1 + 1 = (i * 2 + 1) + 1 + 1 by omega]
    simp only [List.getElem?_cons_succ, List.getElem_cons_succ]
    exact this
  | [], i, h => by simp at h
theorem placeRow_at {base : Nat} {w : World} {g cap : Nat} {ps : List (Nat × Nat)} (h : PRow base w (.slice (some ⟨g, 0, none⟩) ps.length cap) ps) (i : Nat) (hi : i < ps.length) : PlaceR w g (i * 2) ps[i] := by
  have hcl := fun j u => h.cells (g := g) rfl j u
  simp only [add_zero_eq] at hcl
  obtain ⟨e1, e2⟩ := placeCells_get ps i hi
  exact ⟨(h.lt g rfl).2, hcl _ _ e1, hcl _ _ e2⟩
theorem PRow.row {base : Nat} {w : World} {v : Value} {ps : List (Nat × Nat)} (h : PRow base w v ps) (hl : ps.length ≤ 140737488355328) : RowAt 2 PlaceR w v ps := by
  by_cases h0 : ps.length = 0
  · obtain rfl : ps = [] := List.eq_nil_of_length_eq_zero h0
    rcases h.2 with ⟨rfl, -⟩ | ⟨g, cap, cur, rfl, -, -, hc, -⟩
    · exact rowAt_nil
    · exact ⟨_, cap, 0, 0, rfl, hc, by simp, fun h => by simp at h, fun i h => by simp at h⟩
  · obtain ⟨g, cap, rfl, -, hg⟩ := World.ownsRow.form h (by omega)
    have hcap : ps.length ≤ cap := by
      rcases h.2 with ⟨h', -⟩ | ⟨g', cap', cur, h', -, -, h2, -⟩
      · cases h'
      · cases h'; exact h2
    have hcl := fun j u => h.cells (g := g) rfl j u
    simp only [add_zero_eq] at hcl
    refine ⟨_, cap, g, 0, rfl, hcap, hl, fun _ => rfl, fun i hi => ?_⟩
    obtain ⟨e1, e2⟩ := placeCells_get ps i hi
    exact ⟨hg, by simpa using hcl _ _ e1, by rw [Nat.zero_add]; exact hcl _ _ e2⟩
theorem info_place : (Tryz.prog.info? 63).map (fun i => (i.zero, i.size, i.bytes)) = some (some (.agg #[.int .i64 0, .int .i64 0]), 2, 16) := by kernel_rfl
theorem two_news {w : World} {g : Nat} {a b : Value} (h0 : w.cell? ⟨g, 0, none⟩ = some a) (h1 : w.cell? ⟨g, 1, none⟩ = some b) : ∀ j u, [a, b][j]? = some u → w.cell? ((⟨g, 0, none⟩ : Addr).add j) = some u := by
  intro j u hu
  match j, hu with
  | 0, hu => simp at hu; subst hu; simpa [Addr.add] using h0
  | 1, hu => simp at hu; subst hu; simpa [Addr.add] using h1
  | n + 2, hu => simp at hu
theorem two_one {a b : Nat} : ∀ u ∈ [Value.int .i64 (a : Int), Value.int .i64 (b : Int)], u.oneCell' = true := by
  intro u hu
  simp at hu
  rcases hu with rfl | rfl <;> rfl
def WinPost (w : World) (ps : List (Nat × Nat)) (c : Int) (e : Ending) (w' : World) : Prop := ∃ vo, e = .returned (.tuple #[vo, .int .i64 c]) ∧ RowAt 2 PlaceR w' vo ps ∧ Below w.heap.size w w'
def RefsPost (w : World) (ps : List (Nat × Nat)) (n : ByteArray) (c : Int) (e : Ending) (w' : World) : Prop := ∃ vo, e = .returned (.tuple #[vo, .string n, .int .i64 c]) ∧ RowAt 2 PlaceR w' vo ps ∧ Below w.heap.size w w'
/-- which symbols are local, or win -/
def selB (fl : List Spot) (x : Spot) : Bool := decide (x.it.bind = 0) || decide (winnerIn fl x.it.name.data.toList = some (x.obj, x.sym))
def selPlaces (fl pre : List Spot) : List (Nat × Nat) := (pre.filter (selB fl)).map fun x => (x.obj, x.sym)
theorem selPlaces_yes {fl pre : List Spot} {x : Spot} (h : selB fl x = true) : selPlaces fl (pre ++ [x]) = selPlaces fl pre ++ [(x.obj, x.sym)] := by simp [selPlaces, h]
theorem selPlaces_no {fl pre : List Spot} {x : Spot} (h : selB fl x = false) : selPlaces fl (pre ++ [x]) = selPlaces fl pre := by simp [selPlaces, h]
theorem selPlaces_le (fl pre : List Spot) : (selPlaces fl pre).length ≤ pre.length := by
  unfold selPlaces
  rw [List.length_map]
  exact List.length_filter_le _ _
end Go.Proofs.YtdjgkmpjhpnkeaaGreatDoor
namespace Go.Proofs.YtdjgkmpjhpnkeaaGreatDoor
open Go.RowKit Go.Maps Go.WideMaps
set_option maxRecDepth 100000 in
set_option maxHeartbeats 1000000 in
theorem refs_bad (v : Value) (l : List GObj) (a b : Int) (w : World) (h : ObjsAt w v l) (hc : (beginR l).2 ≠ 0) :
    Calls Tryz.prog 149 #[v, .agg #[.int .i64 a, .int .i64 b]] w (RefsPost w [] (beginR l).1 (beginR l).2) := by
  have HK := Lib.hid (begin_any v l (w.alloc (.cells #[.int .i64 a, .int .i64 b] 63)) (ObjsAt.keep (alloc_old w _) h)); clear h
  have hcb : ((beginR l).2 != 0) = true := by simpa using hc
  have HC := Lib.hid hc; clear hc
  go_enter Tryz.func149, Tryz.ntmps149
  go_wp2_with fail
  refine HK.out.mono ?_
  rintro e w1 ⟨hcase, hB⟩
  rcases hcase with ⟨c, hb2, hc0, rfl⟩ | ⟨hb2, hb1, rb, rfl, hres⟩
  · subst hb2
    go_wp2_with fail
    go_ret3
    exact ⟨_, rfl, rowAt_nil, (alloc_old w _).trans (hB.mono (by simp))⟩
  · exact absurd hb2 HC.out
set_option maxRecDepth 100000 in
set_option maxHeartbeats 2000000 in
theorem refs_out (v : Value) (l : List GObj) (a b : Int) (w : World) (h : ObjsAt w v l) (hc : (beginR l).2 = 0) (hh : hasR l a b = false) :
    Calls Tryz.prog 149 #[v, .agg #[.int .i64 a, .int .i64 b]] w (RefsPost w [] emptyB 2) := by
  have HK := Lib.hid (begin_any v l (w.alloc (.cells #[.int .i64 a, .int .i64 b] 63)) (ObjsAt.keep (alloc_old w _) h))
  have HC := Lib.hid hc; clear hc
  have HH := Lib.hid hh; clear hh
  obtain ⟨p, cap, bb, o, rfl, hcap, hmax, hp, hcc⟩ := h
  have HP := Lib.hid hp; clear hp
  have HCC := Lib.hid hcc; clear hcc
  go_enter Tryz.func149, Tryz.ntmps149
  go_wp2_with fail
  refine HK.out.mono ?_
  rintro e w1 ⟨hcase, hB⟩
  rcases hcase with ⟨c, hb2, hc0, rfl⟩ | ⟨hb2, hb1, rb, rfl, hres⟩
  · exact absurd (hb2.symm.trans HC.out) hc0
  clear hb2 hb1 hres HK
  have p0 : w1.cell? ⟨w.heap.size, 0, none⟩ = some (.int .i64 a) := cell_keep hB (by simp) (by simp [go_sem])
  have p1 : w1.cell? ⟨w.heap.size, 1, none⟩ = some (.int .i64 b) := cell_keep hB (by simp) (by simp [go_sem])
  have hz1 : w.heap.size < w1.heap.size := by have := hB.size; (try simp at this); omega
  have HB : Hid (Below w.heap.size w w1) := (alloc_old w _).trans (hB.mono (by simp))
  clear hB
  by_cases h1 : a < 0
  · have d1 : decide (a < 0) = true := by simpa using h1
    go_wp2_with fail
    go_quiet (fail)
    go_wp2
    go_ret3
    exact ⟨_, rfl, rowAt_nil, below_drewN HB.out _⟩
  have d1 : decide (a < 0) = false := by simpa using h1
  by_cases h2 : (l.length : Int) ≤ a
  · have d2 : decide ((l.length : Int) ≤ a) = true := by simpa using h2
    go_wp2_with fail
    go_quiet (fail)
    go_wp2
    go_ret3
    exact ⟨_, rfl, rowAt_nil, below_drewN HB.out _⟩
  have d2 : decide ((l.length : Int) ≤ a) = false := by simpa using h2
  by_cases h3 : b < 0
  · have d3 : decide (b < 0) = true := by simpa using h3
    go_wp2_with fail
    go_quiet (fail)
    go_wp2
    go_ret3
    exact ⟨_, rfl, rowAt_nil, below_drewN HB.out _⟩
  have d3 : decide (b < 0) = false := by simpa using h3
  obtain ⟨an, rfl⟩ := Int.eq_ofNat_of_zero_le (show 0 ≤ a by omega)
  obtain ⟨bn, rfl⟩ := Int.eq_ofNat_of_zero_le (show 0 ≤ b by omega)
  have hal : an < l.length := by omega
  obtain rfl := HP.out (by omega)
  obtain ⟨vs, g0, -, g2, ⟨pS, capS, bS, oS, rfl, -⟩, -⟩ := HCC.out an hal
  have hnb : ¬ bn < l[an].syms.length := by have := HH.out; rw [hasR_at hal] at this; simpa using this
  generalize l[an].syms.length = nS at g2 hnb
  have d4 : decide ((nS : Int) ≤ (bn : Int)) = true := by simp; omega
  replace g2 := cell_keep HB.out g0 g2
  replace g0 := size_keep HB.out g0
  go_wp2_with fail
  go_quiet (fail)
  go_wp2
  go_ret3
  exact ⟨_, rfl, rowAt_nil, below_drewN HB.out _⟩
theorem Resolver.keep {w w' : World} {rb : Nat} {v : Value} {l : List GObj} (hb : Below w.heap.size w w') (h : Resolver w rb v l) : Resolver w' rb v l := by
  obtain ⟨tb, nt, r0, r1, hm, hrb⟩ := h
  exact ⟨tb, nt, cell_keep hb hrb r0, cell_keep hb hrb r1, hm.below hb hm.lt, size_keep hb hrb⟩
set_option maxRecDepth 100000 in
set_option maxHeartbeats 4000000 in
theorem refs_in (v : Value) (l : List GObj) (a b : Nat) (w : World) (h : ObjsAt w v l) (hc : (beginR l).2 = 0) (ha : a < l.length) (hb : b < l[a].syms.length) :
    Calls Tryz.prog 149 #[v, .agg #[.int .i64 a, .int .i64 b]] w (RefsPost w (refsGo l a [] l[a].syms[b].rels).1 (refsGo l a [] l[a].syms[b].rels).2.1 (refsGo l a [] l[a].syms[b].rels).2.2) := by
  have HK := Lib.hid (begin_any v l (w.alloc (.cells #[.int .i64 a, .int .i64 b] 63)) (ObjsAt.keep (alloc_old w _) h))
  have HO := Lib.hid h
  have hrl := relsP_le (beginR_zero hc).1 ha hb
  obtain ⟨p, cap, bb, o, rfl, hcap, hmax, hp, hcc⟩ := h
  have HC := Lib.hid hc; clear hc
  obtain rfl := hp (by omega)
  obtain ⟨vs, g0, -, g2, ⟨pS, capS, bS, oS, rfl, hcapS, hmaxS, hpS, hcS⟩, -⟩ := hcc a ha
  obtain rfl := hpS (by omega)
  obtain ⟨vr, vn, s0, -, -, -, -, -, s6, -, ⟨pR, capR, bR, oR, rfl, hcapR, hmaxR, hpR, hcR⟩, -⟩ := hcS b hb
  clear hcc hp hpS hcS
  generalize l[a].syms[b].rels = rs at *
  generalize l[a].syms.length = nS at *
  have G0 := Lib.hid g0
  have G2 := Lib.hid g2
  have S0 := Lib.hid s0
  have S6 := Lib.hid s6
  have HCR := Lib.hid hcR
  have HPR := Lib.hid hpR
  clear g0 g2 s0 s6 hcR hpR
  obtain ⟨i0, hin0, hz0, hz1, hz2⟩ := info_parts info_place
  have HI0 := Lib.hid hin0
  have HZ0 := Lib.hid hz0
  have HZ1 := Lib.hid hz1
  have HZ2 := Lib.hid hz2
  clear hin0 hz0 hz1 hz2
  go_enter Tryz.func149, Tryz.ntmps149
  go_wp2_with fail
  refine HK.out.mono ?_
  rintro e w1 ⟨hcase, hB⟩
  rcases hcase with ⟨c, hb2, hc0, rfl⟩ | ⟨hb2, hb1, rb, rfl, hres⟩
  · exact absurd (hb2.symm.trans HC.out) hc0
  clear hb2 hb1 HC
  have HRES := Lib.hid hres; clear hres
  have p0 : w1.cell? ⟨w.heap.size, 0, none⟩ = some (.int .i64 a) := cell_keep hB (by simp) (by simp [go_sem])
  have p1 : w1.cell? ⟨w.heap.size, 1, none⟩ = some (.int .i64 b) := cell_keep hB (by simp) (by simp [go_sem])
  have hz1 : w.heap.size < w1.heap.size := by have := hB.size; (try simp at this); omega
  have HB : Hid (Below w.heap.size w w1) := (alloc_old w _).trans (hB.mono (by simp))
  clear hB HK
  have g2 := cell_keep HB.out G0.out G2.out
  have g0 := size_keep HB.out G0.out
  have s6 := cell_keep HB.out S0.out S6.out
  have s0 := size_keep HB.out S0.out
  have d1 : decide ((a : Int) < 0) = false := by simp
  have d2 : decide ((l.length : Int) ≤ (a : Int)) = false := by simpa using ha
  have d3 : decide ((b : Int) < 0) = false := by simp
  have d4 : decide ((nS : Int) ≤ (b : Int)) = false := by simpa using hb
  have d5 : decide (l.length ≤ a) = false := by simpa using ha
  have d6 : decide (nS ≤ b) = false := by simpa using hb
  go_wp2_with fail
  go_quiet (fail)
  rename_i nq
  have HB2 : Hid (Below w.heap.size w (w1.drewN nq)) := below_drewN HB.out nq
  have HRES2 : Hid (Resolver (w1.drewN nq) rb (.slice (some ⟨bb, o, none⟩) l.length cap) l) := Resolver.keep (below_drewN (Below.refl _ _) nq) HRES.out
  replace p0 : (w1.drewN nq).cell? ⟨w.heap.size, 0, none⟩ = some (.int .i64 a) := p0
  replace p1 : (w1.drewN nq).cell? ⟨w.heap.size, 1, none⟩ = some (.int .i64 b) := p1
  replace hz1 : w.heap.size < (w1.drewN nq).heap.size := hz1
  clear g0 g2 s0 s6 HB HRES
  generalize w1.drewN nq = w2 at *
  have g2 := cell_keep HB2.out G0.out G2.out
  have g0 := size_keep HB2.out G0.out
  have s6 := cell_keep HB2.out S0.out S6.out
  have s0 := size_keep HB2.out S0.out
  go_wp2
  go_quiet (fail)
  go_wp2
  have HB3 : Hid (Below w.heap.size w (w2.drewN nq)) := below_drewN HB2.out nq
  have HRES : Hid (Resolver (w2.drewN nq) rb (.slice (some ⟨bb, o, none⟩) l.length cap) l) := Resolver.keep (below_drewN (Below.refl _ _) nq) HRES2.out
  replace p0 : (w2.drewN nq).cell? ⟨w.heap.size, 0, none⟩ = some (.int .i64 a) := p0
  have P0 := Lib.hid p0
  have hz3 : w.heap.size < (w2.drewN nq).heap.size := hz1
  clear p0 p1 g0 g2 s0 s6 hz1 HB2 HRES2 G0 G2 S0 S6 d1 d2 d3 d4 d5 d6
  generalize w2.drewN nq = w3 at *
  go_loopw [10, 64] (fun v10 v64 wr => ∃ (j : Nat) (acc : List (Nat × Nat)), j ≤ rs.length ∧ v64 = .int .i64 j ∧ acc.length = j ∧ refsGo l a acc (rs.drop j) = refsGo l a [] rs ∧ PRow w3.heap.size wr v10 acc ∧ Below w3.heap.size w3 wr) (fun _ v64 _ => rs.length - (intOf v64).toNat)
  case atStart => exact ⟨0, [], Nat.zero_le _, rfl, rfl, rfl, PRow.nil _ _, Below.refl _ _⟩
  case round =>
    obtain ⟨j, acc, hj, rfl, hal, hgo, hown, hbel⟩ := hrel
    have HGO := Lib.hid hgo; clear hgo
    have HOWN := Lib.hid hown; clear hown
    have HBW := Lib.hid hbel; clear hbel
    have HBV : Hid (Below w.heap.size w wr) := HB3.out.trans (HBW.out.mono HB3.out.size)
    by_cases hlt : j < rs.length
    · obtain rfl := HPR.out (by omega)
      obtain ⟨s0, s1, s2, s3, s4, -, -, -, hnm⟩ := relR_keeps _ _ _ _ _ HBV.out (HCR.out j hlt)
      generalize hx : rs[j] = x at s1 s2 s3 s4 hnm
      obtain ⟨xo, xk, xn, xa⟩ := x
      simp only [] at s1 s2 s3 s4 hnm
      have HX := Lib.hid hx; clear hx
      have t0 : wr.cell? ⟨w.heap.size, 0, none⟩ = some (.int .i64 a) := cell_keep HBW.out hz3 P0.out
      have hzr : w.heap.size < wr.heap.size := size_keep HBW.out hz3
      have hne0 : ¬ wr.heap.size = w.heap.size := by omega
      have HF := Lib.hid (findPos rb (.slice (some ⟨bb, o, none⟩) l.length cap) l a xn (wr.alloc (.cells #[.int .u32 xo, .int .u8 xk, .string xn, .int .u32 xa] 211)) (Resolver.keep (HBW.out.alloc HBW.out.size _) HRES.out) (ObjsAt.keep (HBV.out.alloc HBV.out.size _) HO.out) (by omega) ha)
      have HYS := Lib.hid (fun q => refsGo_yes (p := q) hlt HX.out HGO.out)
      have HNS := Lib.hid (refsGo_no hlt HX.out HGO.out)
      simp only [] at HYS HNS
      generalize findR l a xn.data.toList = fp at HF HYS HNS
      rw [placeRet_eq] at HF
      cases fp with
      | none =>
        have HNE := Lib.hid (HNS.out rfl)
        simp only [Option.getD_none, Option.isSome_none] at HF
        go_wp2_with (go_at_call 144; refine HF.out.mono ?_; rintro e w' ⟨rfl, hB⟩; have q0 : w'.cell? ⟨wr.heap.size, 2, none⟩ = some (.string xn) := cell_keep hB (by simp) (by simp [go_sem]); have hzw : wr.heap.size < w'.heap.size := (by have := hB.size; (try simp at this); omega); have HBX : Hid (Below wr.heap.size wr w') := (alloc_old wr _).trans (hB.mono (by simp)); clear hB)
        go_quiet (fail)
        go_wp2
        go_ret3
        rw [HNE.out]
        exact ⟨_, rfl, rowAt_nil, below_drewN ((HBV.out.trans (HBX.out.mono HBV.out.size)).alloc (Nat.le_trans HBV.out.size HBX.out.size) _) _⟩
      | some pq =>
        obtain ⟨pa, pb⟩ := pq
        have HYE := Lib.hid (HYS.out (pa, pb) rfl)
        simp only [Option.getD_some, Option.isSome_some] at HF
        go_wp2_with (first | (go_at_call 144; refine HF.out.mono ?_; rintro e w' ⟨rfl, hB⟩; have HBX : Hid (Below wr.heap.size wr w') := (alloc_old wr _).trans (hB.mono (by simp)); clear hB) | (at_builtin; refine wpList_append_own _ rfl _ _ 22 rfl w3.heap.size 63 i0 (.agg #[.int .i64 0, .int .i64 0]) 2 16 Tryz.underlying22 HI0.out HZ0.out HZ1.out HZ2.out rfl (by decide) _ acc.length (placeCells acc) rfl ?c0 _ 1 1 [.int .i64 pa, .int .i64 pb] rfl rfl ?c1 two_one ?c3 ?c4 ?c5 ?_))
        case c0 => exact PRow.keep ((HBX.out.alloc HBX.out.size _).alloc (by have := HBX.out.size; simp; omega) _) HOWN.out
        case c1 => exact two_news (by simp [go_sem]) (by simp [go_sem])
        case c3 => unfold maxLen; omega
        case c4 => omega
        case c5 => have := HBW.out.size; have := HBX.out.size; simp; omega
        intro v3 w4 hown3 hgrow3 _
        rw [← hal] at hown3
        have HOW3 := Lib.hid (PRow.snoc hown3); clear hown3
        have HBY := Lib.hid ((HBW.out.trans (HBX.out.mono HBW.out.size)).alloc (Nat.le_trans HBW.out.size HBX.out.size) (.cells #[.int .i64 pa, .int .i64 pb] 63))
        have HB4 : Hid (Below w3.heap.size w3 w4) := (HBY.out.alloc (by have := HBW.out.size; have := HBX.out.size; simp; omega) _).grown hgrow3 (by have := HBW.out.size; have := HBX.out.size; simp; omega) (fun q e => (World.ownsRow.lt HOWN.out q e).1)
        clear hgrow3
        go_wp2
        go_roundw
        case rel => exact ⟨j + 1, _, by omega, by go_num, by simp [hal], HYE.out, HOW3.out, HB4.out⟩
        case measure => simp [intOf]; omega
    · have hgo := refsGo_end hlt HGO.out
      have HRW := Lib.hid (PRow.row HOWN.out (by omega))
      have HGE := Lib.hid hgo; clear hgo
      go_wp2
      go_ret3
      rw [HGE.out]
      exact ⟨_, rfl, HRW.out, HBV.out⟩
theorem refs_any (v : Value) (l : List GObj) (a b : Int) (w : World) (h : ObjsAt w v l) :
    Calls Tryz.prog 149 #[v, .agg #[.int .i64 a, .int .i64 b]] w (RefsPost w (refsV (beginR l) l a b).1 (refsV (beginR l) l a b).2.1 (refsV (beginR l) l a b).2.2) := by
  unfold refsV
  by_cases hc : (beginR l).2 = 0
  · rw [if_neg (by simpa using hc)]
    cases hh : hasR l a b with
    | false => exact refs_out v l a b w h hc hh
    | true =>
      obtain ⟨an, bn, ha, rfl, rfl, hb⟩ := hasR_yes hh
      rw [if_pos rfl, Int.toNat_natCast, Int.toNat_natCast, relsAt_eq ha hb]
      exact refs_in v l an bn w h hc ha hb
  · rw [if_pos hc]
    exact refs_bad v l a b w h hc
end Go.Proofs.YtdjgkmpjhpnkeaaGreatDoor
