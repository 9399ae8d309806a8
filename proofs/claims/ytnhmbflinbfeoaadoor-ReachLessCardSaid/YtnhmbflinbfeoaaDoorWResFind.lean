/- The walk of resolve.Find. -/
import Derived.Test.YtnhmbflinbfeoaaDoorWFind
import Derived.Test.YtnhmbflinbfeoaaDoorWBeginAny
namespace Go.Proofs.YtnhmbflinbfeoaaDoor
open Go.RowKit Go.Maps Go.WideMaps
def findV (r : (Nat × Nat) × Int) : Value := .tuple #[.agg #[.int .i64 r.1.1, .int .i64 r.1.2], .int .i64 r.2]
set_option maxHeartbeats 1000000 in
theorem resFind_any (v : Value) (l : List GObj) (i : Int) (nm : ByteArray) (w : World) (h : ObjsAt w v l) (hn : nm.size ≤ 9223372036854775807) :
    Calls Tryd.prog 8 #[v, .int .i64 i, .string nm] w fun e w' => e = .returned (findV (findAll l i nm.data.toList)) ∧ Below w.heap.size w w' := by
  have HO := Lib.hid h
  have HBG := Lib.hid (begin_any v l (w.alloc (.cells #[.int .i64 0, .int .i64 0] 30)) (ObjsAt.keep (alloc_old w _) h))
  have hsh : ∃ (p : Option Addr) (cap : Nat), v = .slice p l.length cap := by obtain ⟨p, cap, b, o, rfl, _⟩ := h; exact ⟨p, cap, rfl⟩
  obtain ⟨p, cap, rfl⟩ := hsh
  clear h
  have HFA := Lib.hid (show findAll l i nm.data.toList = _ from rfl)
  go_enter Tryd.func8, Tryd.ntmps8
  go_wp2_with fail
  refine HBG.out.mono ?_
  rintro e w1 ⟨hcase, hB⟩
  obtain ⟨hc1, hf1⟩ := bcell hB
  have hz : w.heap.size < w1.heap.size := by have := hB.size; (try simp at this); omega
  have HBW := Lib.hid ((alloc_old w (.cells #[.int .i64 0, .int .i64 0] 30)).trans (hB.mono (by simp)))
  have q0 : w1.cell? ⟨w.heap.size, 0, none⟩ = some (.int .i64 0) := by rw [hB.cell (by simp)]; simp [go_sem]
  have q1 : w1.cell? ⟨w.heap.size, 1, none⟩ = some (.int .i64 0) := by rw [hB.cell (by simp)]; simp [go_sem]
  rcases hcase with ⟨c, hb2, hc0, rfl⟩ | ⟨hb2, hb1, rb, rfl, hres⟩
  · have hcb : (c != 0) = true := by simpa using hc0
    have HF : Hid (findAll l i nm.data.toList = ((0, 0), c)) := by unfold findAll; rw [hb2, if_pos hc0]; rfl
    clear hb2
    generalize (beginR l).1 = bn
    go_wp2_with fail
    rw [HF.out]
    refine bodyPost_ret (v := .tuple #[.agg #[.int .i64 0, .int .i64 0], .int .i64 c]) (by simp [results, Tryd.results8, go_sem, q0, q1]) rfl ⟨rfl, ?_⟩
    exact (HBW.out.setCell (by simp) _).setCell (by simp) _
  · have HB2 := Lib.hid hb2; clear hb2 hb1
    have HR := Lib.hid hres; clear hres
    by_cases hr : i < -1 ∨ (l.length : Int) ≤ i
    · have HF : Hid (findAll l i nm.data.toList = ((0, 0), 2)) := by unfold findAll; rw [HB2.out, if_neg (by simp), if_pos hr]; rfl
      go_wp2_with fail
      all_goals
        rw [HF.out]
        refine bodyPost_ret (v := .tuple #[.agg #[.int .i64 0, .int .i64 0], .int .i64 2]) (by simp [results, Tryd.results8, go_sem, q0, q1]) rfl ⟨rfl, ?_⟩
        exact (HBW.out.setCell (by simp) _).setCell (by simp) _
    · have hr1 : ¬ i < -1 := fun h => hr (.inl h)
      have hr2 : ¬ (l.length : Int) ≤ i := fun h => hr (.inr h)
      have HF : Hid (findAll l i nm.data.toList = match findR l i nm.data.toList with | some p => (p, 0) | none => ((0, 0), 121)) := by unfold findAll; rw [HB2.out, if_neg (by simp), if_neg hr]; rfl
      have HCON : Hid (Calls Tryd.prog 24 #[.pointer (some ⟨rb, 0, none⟩), .int .i64 i, .string nm] w1 fun e w' => e = .returned (placeRet (findR l i nm.data.toList)) ∧ Below w1.heap.size w1 w') := by
        by_cases hi0 : i < 0
        · have hf : findR l i nm.data.toList = winnerIn (flat l) nm.data.toList := by unfold findR; rw [if_neg (by omega)]
          rw [hf]
          exact findNeg rb _ l i nm w1 HR.out hn hi0
        · obtain ⟨j, rfl⟩ := Int.eq_ofNat_of_zero_le (show 0 ≤ i by omega)
          exact findPos rb _ l j nm w1 HR.out (ObjsAt.keep HBW.out HO.out) hn (by omega)
      generalize findR l i nm.data.toList = fr at HF HCON
      cases fr with
      | none =>
        simp only [placeRet] at HCON
        go_wp2_with (go_at_call 24; refine HCON.out.mono ?_; rintro e w2 ⟨rfl, hB2⟩; obtain ⟨hc2, hf2⟩ := bcell hB2; have hz2 : w.heap.size < w2.heap.size := (by have := hB2.size; omega))
        have q0' : w2.cell? ⟨w.heap.size, 0, none⟩ = some (.int .i64 0) := cell_keep hB2 hz q0
        have q1' : w2.cell? ⟨w.heap.size, 1, none⟩ = some (.int .i64 0) := cell_keep hB2 hz q1
        rw [HF.out]
        refine bodyPost_ret (v := .tuple #[.agg #[.int .i64 0, .int .i64 0], .int .i64 121]) (by simp [results, Tryd.results8, go_sem, q0', q1', hz2]) rfl ⟨rfl, ?_⟩
        have hfin : Below w.heap.size w w2 := HBW.out.trans (hB2.mono HBW.out.size)
        exact ((hfin.setCell (by simp) _).setCell (by simp) _).alloc (by simp; omega) _
      | some pq =>
        obtain ⟨pi, pk⟩ := pq
        simp only [placeRet] at HCON
        go_wp2_with (go_at_call 24; refine HCON.out.mono ?_; rintro e w2 ⟨rfl, hB2⟩; obtain ⟨hc2, hf2⟩ := bcell hB2; have hz2 : w.heap.size < w2.heap.size := (by have := hB2.size; omega))
        have q0' : w2.cell? ⟨w.heap.size, 0, none⟩ = some (.int .i64 0) := cell_keep hB2 hz q0
        have q1' : w2.cell? ⟨w.heap.size, 1, none⟩ = some (.int .i64 0) := cell_keep hB2 hz q1
        rw [HF.out]
        refine bodyPost_ret (v := .tuple #[.agg #[.int .i64 (pi : Nat), .int .i64 (pk : Nat)], .int .i64 0]) (by simp [results, Tryd.results8, go_sem, q0', q1', hz2]) rfl ⟨rfl, ?_⟩
        have hfin : Below w.heap.size w w2 := HBW.out.trans (hB2.mono HBW.out.size)
        exact ((hfin.setCell (by simp) _).setCell (by simp) _).alloc (by simp; omega) _
end Go.Proofs.YtnhmbflinbfeoaaDoor
