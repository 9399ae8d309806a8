/- The walk of aediculelaw13.alive. -/
import Derived.Test.YtnhmbflinbfeoaaDoorWSym13
import Derived.Test.YtnhmbflinbfeoaaDoorGoes13
namespace Go.Proofs.YtnhmbflinbfeoaaDoor
open Go.RowKit Go.Maps
theorem objs13_at {W : World} {b : Nat} (h : RowAt 7 SymR W (.slice (some ⟨b, 0, none⟩) 3 3) syms13) :
    ObjsAt (W.alloc (.cells #[.string ⟨#[111]⟩, .slice (some ⟨b, 0, none⟩) 3 3] 41)) (.slice (some ⟨W.heap.size, 0, none⟩) 1 1) objs13 :=
  rowAt_one ⟨_, by simp, by simp [go_sem], by simp [go_sem], h.keep symR_keeps (alloc_old W _), by decide⟩ (by omega)
/-- the example's objects, in the box of a variable -/
def Box13 (w W : World) (ob b : Nat) : Prop := W.cell? ⟨ob, 0, none⟩ = some (.string ⟨#[111]⟩) ∧ W.cell? ⟨ob, 1, none⟩ = some (.slice (some ⟨b, 0, none⟩) 3 3) ∧ ob < W.heap.size ∧ RowAt 7 SymR W (.slice (some ⟨b, 0, none⟩) 3 3) syms13 ∧ Below w.heap.size w W
theorem Box13.keep {w W W' : World} {ob b : Nat} (h : Box13 w W ob b) (hb : Below W.heap.size W W') : Box13 w W' ob b :=
  ⟨cell_keep hb h.2.2.1 h.1, cell_keep hb h.2.2.1 h.2.1, size_keep hb h.2.2.1, h.2.2.2.1.keep symR_keeps hb, h.2.2.2.2.trans (hb.mono h.2.2.2.2.size)⟩
theorem one13_at {w : World} {b o : Nat} {n t : ByteArray} {vr : Value} (hb : b < w.heap.size) (hn : n.size ≤ 32) (h0 : w.cell? ⟨b, o, none⟩ = some (.string n)) (h1 : w.cell? ⟨b, o + 1, none⟩ = some (.int .u8 1)) (h2 : w.cell? ⟨b, o + 2, none⟩ = some (.int .u8 2)) (h3 : w.cell? ⟨b, o + 3, none⟩ = some (.int .u32 8))
    (h4 : w.cell? ⟨b, o + 4, none⟩ = some (.string ⟨#[0, 0, 0, 0]⟩)) (h5 : w.cell? ⟨b, o + 5, none⟩ = some vr) (h6 : w.cell? ⟨b, o + 6, none⟩ = some (.slice none 0 0)) (hr : RowAt 4 RelR w vr [rel13 t]) : SymR w b o (one13 n t) :=
  ⟨_, _, hb, h0, h1, h2, h3, h4, h5, h6, hr, rowAt_nil, by simp [one13], by simp [one13], by simp [one13], by show n.size ≤ _; omega, by simp [one13, ByteArray.size]⟩
theorem none13_at {w : World} {b o : Nat} {n : ByteArray} (hb : b < w.heap.size) (hn : n.size ≤ 32) (h0 : w.cell? ⟨b, o, none⟩ = some (.string n)) (h1 : w.cell? ⟨b, o + 1, none⟩ = some (.int .u8 1)) (h2 : w.cell? ⟨b, o + 2, none⟩ = some (.int .u8 2)) (h3 : w.cell? ⟨b, o + 3, none⟩ = some (.int .u32 4))
    (h4 : w.cell? ⟨b, o + 4, none⟩ = some (.string ⟨#[]⟩)) (h5 : w.cell? ⟨b, o + 5, none⟩ = some (.slice none 0 0)) (h6 : w.cell? ⟨b, o + 6, none⟩ = some (.slice none 0 0)) : SymR w b o (none13 n) :=
  ⟨_, _, hb, h0, h1, h2, h3, h4, h5, h6, rowAt_nil, rowAt_nil, by simp [none13], by simp [none13], by simp [none13], by show n.size ≤ _; omega, by simp [none13, ByteArray.size]⟩
theorem box13_at {w w3 : World} {p1 p2 : Option Addr} {c1 c2 : Nat} (h1 : RowAt 4 RelR w3 (.slice p1 1 c1) [rel13 f13]) (h2 : RowAt 4 RelR w3 (.slice p2 1 c2) [rel13 f13]) (hb : Below w.heap.size w w3) :
    Box13 w ((w3.alloc (.cells #[.string m13, .int .u8 1, .int .u8 2, .int .u32 8, .string ⟨#[0, 0, 0, 0]⟩, .slice p1 1 c1, .slice none 0 0, .string f13, .int .u8 1, .int .u8 2, .int .u32 8, .string ⟨#[0, 0, 0, 0]⟩, .slice p2 1 c2, .slice none 0 0, .string g13, .int .u8 1, .int .u8 2, .int .u32 4, .string ⟨#[]⟩, .slice none 0 0, .slice none 0 0] 46)).alloc (.cells #[.string ⟨#[111]⟩, .slice (some ⟨w3.heap.size, 0, none⟩) 3 3] 41)) (w3.heap.size + 1) w3.heap.size := by
  have hk : Below w3.heap.size w3 ((w3.alloc (.cells #[.string m13, .int .u8 1, .int .u8 2, .int .u32 8, .string ⟨#[0, 0, 0, 0]⟩, .slice p1 1 c1, .slice none 0 0, .string f13, .int .u8 1, .int .u8 2, .int .u32 8, .string ⟨#[0, 0, 0, 0]⟩, .slice p2 1 c2, .slice none 0 0, .string g13, .int .u8 1, .int .u8 2, .int .u32 4, .string ⟨#[]⟩, .slice none 0 0, .slice none 0 0] 46)).alloc (.cells #[.string ⟨#[111]⟩, .slice (some ⟨w3.heap.size, 0, none⟩) 3 3] 41)) := (alloc_old w3 _).alloc (by simp) _
  refine ⟨by simp [go_sem], by simp [go_sem], by simp, ?_, hb.trans (hk.mono hb.size)⟩
  exact rowAt_three
    (one13_at (by simp; omega) (by decide) (by simp [go_sem]) (by simp [go_sem]) (by simp [go_sem]) (by simp [go_sem]) (by simp [go_sem]) (by simp [go_sem]) (by simp [go_sem]) (h1.keep relR_keeps hk))
    (one13_at (by simp; omega) (by decide) (by simp [go_sem]) (by simp [go_sem]) (by simp [go_sem]) (by simp [go_sem]) (by simp [go_sem]) (by simp [go_sem]) (by simp [go_sem]) (h2.keep relR_keeps hk))
    (none13_at (by simp; omega) (by decide) (by simp [go_sem]) (by simp [go_sem]) (by simp [go_sem]) (by simp [go_sem]) (by simp [go_sem]) (by simp [go_sem]) (by simp [go_sem])) (by omega)
theorem keptM {W : World} {b g : Nat} (hg : g = W.heap.size) (hsort : SortOk) (h : RowAt 7 SymR W (.slice (some ⟨b, 0, none⟩) 3 3) syms13) :
    Calls Tryd.prog 7 #[.string ⟨#[109, 97, 105, 110]⟩, .slice (some ⟨g, 0, none⟩) 1 1] (W.alloc (.cells #[.string ⟨#[111]⟩, .slice (some ⟨b, 0, none⟩) 3 3] 41)) fun e w' => (∃ vo, RowAt 2 PlaceR w' vo [(0, 0), (0, 1)] ∧ e = .returned (.tuple #[vo, .string ⟨#[]⟩, .int .i64 0])) ∧ Below W.heap.size W w' := by
  subst hg
  refine (kept_any hsort _ objs13 m13 _ (objs13_at h) (by decide)).mono ?_
  rintro e w' ⟨hcase, hB⟩
  refine ⟨?_, (alloc_old W _).trans (hB.mono (by simp))⟩
  rcases hcase with ⟨p, K, vo, ⟨-, h2, h3, h4⟩, hr, rfl⟩ | ⟨n, c, hc, rfl, hn⟩
  · rw [fm13] at h2
    cases h2
    rw [keptIs13 h3] at hr
    exact ⟨vo, hr, rfl⟩
  · exfalso
    rcases hn with h1 | ⟨h1, -⟩ | ⟨p, K, x, h1, h2, h3, h4⟩
    · exact h1 b13
    · rw [fm13] at h1; cases h1
    · rw [fm13] at h1
      cases h1
      rw [keptIs13 h2] at h3
      rcases List.mem_cons.1 h3 with rfl | h3
      · exact h4 (by decide +kernel)
      · obtain rfl := List.mem_singleton.1 h3
        exact h4 (by decide +kernel)
theorem keptX {W : World} {b g : Nat} (hg : g = W.heap.size) (hsort : SortOk) (h : RowAt 7 SymR W (.slice (some ⟨b, 0, none⟩) 3 3) syms13) :
    Calls Tryd.prog 7 #[.string ⟨#[120]⟩, .slice (some ⟨g, 0, none⟩) 1 1] (W.alloc (.cells #[.string ⟨#[111]⟩, .slice (some ⟨b, 0, none⟩) 3 3] 41)) fun e w' => e = .returned (.tuple #[.slice none 0 0, .string ⟨#[120]⟩, .int .i64 121]) ∧ Below W.heap.size W w' := by
  subst hg
  refine (kept_any hsort _ objs13 x13 _ (objs13_at h) (by decide)).mono ?_
  rintro e w' ⟨hcase, hB⟩
  refine ⟨?_, (alloc_old W _).trans (hB.mono (by simp))⟩
  rcases hcase with ⟨p, K, vo, ⟨-, h2, -⟩, -⟩ | ⟨n, c, hc, rfl, hn⟩
  · rw [fx13] at h2; cases h2
  · rcases hn with h1 | ⟨-, rfl, rfl⟩ | ⟨p, K, x, h1, -⟩
    · exact absurd b13 h1
    · rfl
    · rw [fx13] at h1; cases h1
theorem allM {W : World} {b g : Nat} (hg : g = W.heap.size) (h : RowAt 7 SymR W (.slice (some ⟨b, 0, none⟩) 3 3) syms13) :
    Calls Tryd.prog 16 #[.string ⟨#[109, 97, 105, 110]⟩, .slice (some ⟨g, 0, none⟩) 1 1] (W.alloc (.cells #[.string ⟨#[111]⟩, .slice (some ⟨b, 0, none⟩) 3 3] 41)) fun e w' => (∃ p c, e = .returned (.tuple #[.slice p 3 c, .string ⟨#[]⟩, .int .i64 0])) ∧ Below W.heap.size W w' := by
  subst hg
  refine (all13_any _ objs13 m13 _ (objs13_at h) (by decide)).mono ?_
  rintro e w' ⟨hcase, hB⟩
  refine ⟨?_, (alloc_old W _).trans (hB.mono (by simp))⟩
  have ha : allK objs13 = [(0, 0), (0, 1), (0, 2)] := by decide +kernel
  rw [ha] at hcase
  rcases hcase with ⟨vo, -, -, ⟨p, c, _, _, rfl, -⟩, rfl⟩ | ⟨n, c, hc, rfl, hn⟩
  · exact ⟨p, c, rfl⟩
  · exfalso
    rcases hn with h1 | ⟨x, hx, h1⟩
    · exact h1 (by decide +kernel)
    · rcases List.mem_cons.1 hx with rfl | hx
      · exact h1 (by decide +kernel)
      · rcases List.mem_cons.1 hx with rfl | hx
        · exact h1 (by decide +kernel)
        · obtain rfl := List.mem_singleton.1 hx
          exact h1 (by decide +kernel)
theorem chainM {W : World} {b g : Nat} (hg : g = W.heap.size) (hsort : SortOk) (hrev : RevOk) (h : RowAt 7 SymR W (.slice (some ⟨b, 0, none⟩) 3 3) syms13) :
    Calls Tryd.prog 12 #[.slice (some ⟨g, 0, none⟩) 1 1, .agg #[.int .i64 0, .int .i64 0], .agg #[.int .i64 0, .int .i64 1]] (W.alloc (.cells #[.string ⟨#[111]⟩, .slice (some ⟨b, 0, none⟩) 3 3] 41)) fun e w' => (∃ p c, e = .returned (.tuple #[.slice p 2 c, .int .i64 0])) ∧ Below W.heap.size W w' := by
  subst hg
  refine (chain_any hsort hrev _ objs13 (0, 0) (0, 1) _ (objs13_at h) b13 valid13 ((reach13 _).2 (.inr rfl))).mono ?_
  rintro e w' ⟨C, vo, rfl, ⟨p, c, _, _, rfl, -⟩, hC, -, hB⟩
  refine ⟨⟨p, c, ?_⟩, (alloc_old W _).trans (hB.mono (by simp))⟩
  rw [chain13 hC]
set_option maxRecDepth 100000 in
set_option maxHeartbeats 4000000 in
theorem alive13_any (hsort : SortOk) (hrev : RevOk) (w : World) : Calls Tryd.prog 6 #[] w fun e w' => e = .returned (.bool true) ∧ Below w.heap.size w w' := by
  have HSORT := Lib.hid hsort; clear hsort
  have HREV := Lib.hid hrev; clear hrev
  go_enter Tryd.func6, Tryd.ntmps6
  go_wp2_with fail
  refine (sym13_one m13 f13 _ _ (by simp) (by simp [go_sem, f13]) (by decide)).mono ?_
  rintro e w1 ⟨p1, c1, rfl, hr1, hB1⟩
  go_wp2_with fail
  refine (sym13_one f13 f13 _ _ (by simp) (by simp [go_sem, f13]) (by decide)).mono ?_
  rintro e w2 ⟨p2, c2, rfl, hr2, hB2⟩
  go_wp2_with fail
  refine (sym13_none g13 _).mono ?_
  rintro e w3 ⟨rfl, hB3⟩
  have hBa : Below w.heap.size w w1 := (alloc_old w _).trans (hB1.mono (by simp))
  have hBb : Below w1.heap.size w1 w2 := (alloc_old w1 _).trans (hB2.mono (by simp))
  have hBc : Below w.heap.size w w3 := (hBa.trans (hBb.mono hBa.size)).trans (hB3.mono (Nat.le_trans hBa.size hBb.size))
  have HR1 := Lib.hid ((hr1.keep relR_keeps hBb).keep relR_keeps hB3)
  have HR2 := Lib.hid (hr2.keep relR_keeps hB3)
  have HBC := Lib.hid hBc
  clear hr1 hr2 hB1 hB2 hB3 hBa hBb hBc
  go_wp2_with fail
  have HBX := Lib.hid (box13_at HR1.out HR2.out HBC.out)
  obtain ⟨q0, q1, hz, -, -⟩ := HBX.out
  clear HR1 HR2 HBC
  refine (keptM (by simp) HSORT.out HBX.out.2.2.2.1).mono ?_
  rintro e w5 ⟨⟨va, hra, rfl⟩, hB⟩
  have HA := Lib.hid hra
  obtain ⟨pa, ca, _, _, rfl, -⟩ := hra
  have HB5 := Lib.hid (HBX.out.keep hB)
  clear q0 q1 hz hB HBX
  obtain ⟨q0, q1, hz, -, -⟩ := HB5.out
  go_wp2_with fail
  refine (allM rfl HB5.out.2.2.2.1).mono ?_
  rintro e w6 ⟨⟨pb, cb, rfl⟩, hB⟩
  have HA6 := Lib.hid (HA.out.keep placeR_keeps hB)
  have HB6 := Lib.hid (HB5.out.keep hB)
  clear q0 q1 hz hB HB5 HA
  obtain ⟨q0, q1, hz, -, -⟩ := HB6.out
  go_wp2_with fail
  refine (keptX rfl HSORT.out HB6.out.2.2.2.1).mono ?_
  rintro e w7 ⟨rfl, hB⟩
  have HA7 := Lib.hid (HA6.out.keep placeR_keeps hB)
  have HB7 := Lib.hid (HB6.out.keep hB)
  clear q0 q1 hz hB HB6 HA6
  obtain ⟨q0, q1, hz, -, -⟩ := HB7.out
  go_wp2_with fail
  refine (chainM rfl HSORT.out HREV.out HB7.out.2.2.2.1).mono ?_
  rintro e w8 ⟨⟨pc, cc, rfl⟩, hB⟩
  have HA8 := Lib.hid (HA7.out.keep placeR_keeps hB)
  have HB8 := Lib.hid (HB7.out.keep hB)
  clear q0 q1 hz hB HB7 HA7
  go_wp2_with fail
  have hk : Below w8.heap.size w8 (w8.alloc (.cells #[.int .i64 0, .int .i64 0, .int .i64 0, .int .i64 1] 30)) := alloc_old w8 _
  have hP : RowAt 2 PlaceR (w8.alloc (.cells #[.int .i64 0, .int .i64 0, .int .i64 0, .int .i64 1] 30)) (.slice (some ⟨w8.heap.size, 0, none⟩) 2 2) [(0, 0), (0, 1)] :=
    rowAt_two ⟨by simp, by simp [go_sem], by simp [go_sem]⟩ ⟨by simp, by simp [go_sem], by simp [go_sem]⟩ (by omega)
  refine (same_any _ _ [(0, 0), (0, 1)] _ (HA8.out.keep placeR_keeps hk) hP).mono ?_
  rintro e w9 ⟨rfl, hB9⟩
  go_wp2
  go_ret
  exact ⟨rfl, HB8.out.2.2.2.2.trans (((alloc_old w8 _).trans (hB9.mono (by simp))).mono HB8.out.2.2.2.2.size)⟩
end Go.Proofs.YtnhmbflinbfeoaaDoor
