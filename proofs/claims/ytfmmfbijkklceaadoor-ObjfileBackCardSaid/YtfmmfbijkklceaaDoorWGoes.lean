/- The walks of objfile.reading.goes, for places and for notes. -/
import Derived.Test.YtfmmfbijkklceaaDoorWSym2
namespace Go.Proofs.YtfmmfbijkklceaaDoor
open Go.RowKit Go.Maps
def withRels (y : GSym) (l : List GRel) : GSym := { y with rels := l }
def withNotes (y : GSym) (l : List GNote) : GSym := { y with notes := l }
/-- how far the places are read -/
def GR (y : GSym) (T : List GRel × RS) (k : Nat) (st : RS) (y' : GSym) : Prop := y' = withRels y y'.rels ∧ y'.rels ++ (rMany rRel k st).1 = T.1 ∧ (rMany rRel k st).2 = T.2 ∧ y'.rels.length + k ≤ 70000
def GN (y : GSym) (T : List GNote × RS) (k : Nat) (st : RS) (y' : GSym) : Prop := y' = withNotes y y'.notes ∧ y'.notes ++ (rMany rNote k st).1 = T.1 ∧ (rMany rNote k st).2 = T.2 ∧ y'.notes.length + k ≤ 70000
theorem GR.step {y : GSym} {T : List GRel × RS} {k : Nat} {r : BL} {y' : GSym} (h : GR y T (k + 1) (some r) y') : GR y T k (rRel (some r)).2 (addRel y' (rRel (some r)).1) := by
  obtain ⟨h1, h2, h3, h4⟩ := h
  rw [rMany] at h2 h3
  refine ⟨by rw [h1]; rfl, by simp [addRel, ← h2], h3, by simp [addRel]; omega⟩
theorem GN.step {y : GSym} {T : List GNote × RS} {k : Nat} {r : BL} {y' : GSym} (h : GN y T (k + 1) (some r) y') : GN y T k (rNote (some r)).2 (addNote y' (rNote (some r)).1) := by
  obtain ⟨h1, h2, h3, h4⟩ := h
  rw [rMany] at h2 h3
  refine ⟨by rw [h1]; rfl, by simp [addNote, ← h2], h3, by simp [addNote]; omega⟩
theorem rMany_zero {α : Type} (f : RS → α × RS) (st : RS) : rMany f 0 st = ([], st) := by cases st <;> rfl
theorem rMany_none {α : Type} (f : RS → α × RS) (k : Nat) : rMany f k none = ([], none) := by cases k <;> rfl
theorem GR.done {y : GSym} {T : List GRel × RS} {k : Nat} {st : RS} {y' : GSym} (h : GR y T k st y') (hk : k = 0 ∨ st = none) : y' = withRels y T.1 ∧ st = T.2 := by
  obtain ⟨h1, h2, h3, -⟩ := h
  rcases hk with rfl | rfl
  · rw [rMany_zero] at h2 h3; rw [List.append_nil] at h2; exact ⟨by rw [← h2]; exact h1, h3⟩
  · rw [rMany_none] at h2 h3; rw [List.append_nil] at h2; exact ⟨by rw [← h2]; exact h1, h3⟩
theorem GN.done {y : GSym} {T : List GNote × RS} {k : Nat} {st : RS} {y' : GSym} (h : GN y T k st y') (hk : k = 0 ∨ st = none) : y' = withNotes y T.1 ∧ st = T.2 := by
  obtain ⟨h1, h2, h3, -⟩ := h
  rcases hk with rfl | rfl
  · rw [rMany_zero] at h2 h3; rw [List.append_nil] at h2; exact ⟨by rw [← h2]; exact h1, h3⟩
  · rw [rMany_none] at h2 h3; rw [List.append_nil] at h2; exact ⟨by rw [← h2]; exact h1, h3⟩
/-- a new box of the reading's -/
theorem SymSt.box {R : Nat} {Q : Nat → Prop} {sb rb : Nat} {s : ByteArray} {st : RS} {y : GSym} {w0 w : World} (h : SymSt R Q sb rb s st y w0 w) :
    SymSt (w.alloc (.cells #[.pointer (some ⟨rb, 0, none⟩)] 74)).heap.size (fun g => Q g ∨ g = w.heap.size) sb rb s st y w0 (w.alloc (.cells #[.pointer (some ⟨rb, 0, none⟩)] 74)) := by
  have k := (h.keep (alloc_old w (.cells #[.pointer (some ⟨rb, 0, none⟩)] 74))).fresh
  refine ⟨fun g hg => ?_, k.y, k.rd, k.kb, k.rlt, k.sle, k.slt, k.rle⟩
  rcases hg with hg | rfl
  · exact k.q g hg
  · exact ⟨heap_alloc_new w _, h.kb.size, by simp⟩
theorem SymSt.sub {R : Nat} {Q Q' : Nat → Prop} {sb rb : Nat} {s : ByteArray} {st : RS} {y : GSym} {w0 w : World} (h : SymSt R Q sb rb s st y w0 w) (hq : ∀ g, Q' g → Q g) : SymSt R Q' sb rb s st y w0 w :=
  ⟨fun g hg => h.q g (hq g hg), h.y, h.rd, h.kb, h.rlt, h.sle, h.slt, h.rle⟩
set_option maxRecDepth 100000 in
set_option maxHeartbeats 2000000 in
theorem goesR (R : Nat) (Q : Nat → Prop) (qb sb rb : Nat) (hq : Q qb) (s : ByteArray) (st : RS) (y : GSym) (w0 w : World) (k : Nat) (h : SymSt R Q sb rb s st y w0 w) (hlen : y.rels.length + k ≤ 70000) :
    Calls Tryd.prog 29 #[.agg #[.pointer (some ⟨rb, 0, none⟩)], .int .u32 k, .func (.func 53) #[] #[.pointer (some ⟨qb, 0, none⟩), .pointer (some ⟨sb, 0, none⟩)]] w fun e w' => e = .returned (.tuple #[]) ∧ ∃ R', SymSt R' Q sb rb s (rMany rRel k st).2 (withRels y (y.rels ++ (rMany rRel k st).1)) w0 w' := by
  have HS0 := Lib.hid h.box; clear h
  have HG0 : Hid (GR y (y.rels ++ (rMany rRel k st).1, (rMany rRel k st).2) k st y) := ⟨rfl, rfl, rfl, hlen⟩
  generalize hT : (y.rels ++ (rMany rRel k st).1, (rMany rRel k st).2) = T at HG0
  have HT := Lib.hid hT; clear hT
  go_enter Tryd.func29, Tryd.ntmps29
  go_wp2
  generalize w.alloc (.cells #[.pointer (some ⟨rb, 0, none⟩)] 74) = w1 at HS0 ⊢
  generalize w.heap.size = gb at HS0 ⊢
  go_loopw [1] (fun v1 wr => ∃ (j : Nat) (st' : RS) (y' : GSym) (R' : Nat), v1 = .int .u32 j ∧ GR y T j st' y' ∧ SymSt R' (fun g => Q g ∨ g = gb) sb rb s st' y' w0 wr) (fun v1 _ => (intOf v1).toNat)
  case atStart => exact ⟨k, st, y, _, rfl, HG0.out, HS0.out⟩
  case round =>
    clear HG0 HS0
    obtain ⟨j, st', y', R', rfl, hg, hs⟩ := hrel
    have HG := Lib.hid hg; have HS := Lib.hid hs
    have hj := hg.2.2.2
    clear hg hs
    by_cases hj0 : j = 0
    · have d : decide ((0 : Int) < (j : Int)) = false := by simp; omega
      have d' : decide (0 < j) = false := by simp; omega
      have HD := Lib.hid (HG.out.done (.inl hj0))
      clear hj0
      go_wp2
      go_end0
      obtain ⟨h1, h2⟩ := HD.out
      refine ⟨rfl, R', ?_⟩
      have hs := HS.out.sub (Q' := Q) (fun g hg => .inl hg)
      rw [h1, h2, ← HT.out] at hs
      exact hs
    · have d : decide ((0 : Int) < (j : Int)) = true := by simp; omega
      have d' : decide (0 < j) = true := by simp; omega
      have c := HS.out.c (qb := gb) (.inr rfl)
      obtain ⟨a, f, hb, he⟩ := HS.out.rd
      have HF := Lib.hid (fault_any rb s a f wr hb)
      have HE := Lib.hid he; clear hb he
      by_cases hf : f = 0
      · subst hf
        have HE2 : Hid (st' = some (s.data.toList.drop a)) := HE.out.trans stOf_ok
        generalize s.data.toList.drop a = r at HE2
        obtain ⟨i, rfl⟩ : ∃ i, j = i + 1 := ⟨j - 1, by omega⟩
        have hg := HG.out
        rw [HE2.out] at hg
        have HGS := Lib.hid hg.step
        have HCL := Lib.hid (sym1_any R' (fun g => Q g ∨ g = gb) qb sb rb (.inl hq) s st' y' w0 wr HS.out (by omega))
        rw [HE2.out] at HCL
        clear hg HE
        go_wp2_with fail
        refine HF.out.mono ?_
        rintro e w2 ⟨rfl, rfl⟩
        clear HF c
        go_wp2_with fail
        refine HCL.out.mono ?_
        rintro e w3 ⟨rfl, R2, hs3⟩
        have H3 := Lib.hid hs3; clear hs3 HCL
        have hs1 : ((i : Int) + 1) - 1 = (i : Int) := by omega
        go_wp2
        go_roundw
        case rel => exact ⟨i, _, _, R2, by first | rfl | go_num, HGS.out, H3.out⟩
        case measure => simp [intOf]
      · have HN : Hid (st' = none) := HE.out.trans (stOf_spoilt hf)
        have bf : (f == 0) = false := by simpa using hf
        have HD := Lib.hid (HG.out.done (.inr HN.out))
        clear hf
        go_wp2_with fail
        refine HF.out.mono ?_
        rintro e w2 ⟨rfl, rfl⟩
        clear HF c
        go_wp2
        go_end0
        obtain ⟨h1, h2⟩ := HD.out
        refine ⟨rfl, R', ?_⟩
        have hs := HS.out.sub (Q' := Q) (fun g hg => .inl hg)
        rw [h1, h2, ← HT.out] at hs
        exact hs
set_option maxRecDepth 100000 in
set_option maxHeartbeats 2000000 in
theorem goesN (R : Nat) (Q : Nat → Prop) (qb sb rb : Nat) (hq : Q qb) (s : ByteArray) (st : RS) (y : GSym) (w0 w : World) (k : Nat) (h : SymSt R Q sb rb s st y w0 w) (hlen : y.notes.length + k ≤ 70000) :
    Calls Tryd.prog 29 #[.agg #[.pointer (some ⟨rb, 0, none⟩)], .int .u32 k, .func (.func 54) #[] #[.pointer (some ⟨qb, 0, none⟩), .pointer (some ⟨sb, 0, none⟩)]] w fun e w' => e = .returned (.tuple #[]) ∧ ∃ R', SymSt R' Q sb rb s (rMany rNote k st).2 (withNotes y (y.notes ++ (rMany rNote k st).1)) w0 w' := by
  have HS0 := Lib.hid h.box; clear h
  have HG0 : Hid (GN y (y.notes ++ (rMany rNote k st).1, (rMany rNote k st).2) k st y) := ⟨rfl, rfl, rfl, hlen⟩
  generalize hT : (y.notes ++ (rMany rNote k st).1, (rMany rNote k st).2) = T at HG0
  have HT := Lib.hid hT; clear hT
  go_enter Tryd.func29, Tryd.ntmps29
  go_wp2
  generalize w.alloc (.cells #[.pointer (some ⟨rb, 0, none⟩)] 74) = w1 at HS0 ⊢
  generalize w.heap.size = gb at HS0 ⊢
  go_loopw [1] (fun v1 wr => ∃ (j : Nat) (st' : RS) (y' : GSym) (R' : Nat), v1 = .int .u32 j ∧ GN y T j st' y' ∧ SymSt R' (fun g => Q g ∨ g = gb) sb rb s st' y' w0 wr) (fun v1 _ => (intOf v1).toNat)
  case atStart => exact ⟨k, st, y, _, rfl, HG0.out, HS0.out⟩
  case round =>
    clear HG0 HS0
    obtain ⟨j, st', y', R', rfl, hg, hs⟩ := hrel
    have HG := Lib.hid hg; have HS := Lib.hid hs
    have hj := hg.2.2.2
    clear hg hs
    by_cases hj0 : j = 0
    · have d : decide ((0 : Int) < (j : Int)) = false := by simp; omega
      have d' : decide (0 < j) = false := by simp; omega
      have HD := Lib.hid (HG.out.done (.inl hj0))
      clear hj0
      go_wp2
      go_end0
      obtain ⟨h1, h2⟩ := HD.out
      refine ⟨rfl, R', ?_⟩
      have hs := HS.out.sub (Q' := Q) (fun g hg => .inl hg)
      rw [h1, h2, ← HT.out] at hs
      exact hs
    · have d : decide ((0 : Int) < (j : Int)) = true := by simp; omega
      have d' : decide (0 < j) = true := by simp; omega
      have c := HS.out.c (qb := gb) (.inr rfl)
      obtain ⟨a, f, hb, he⟩ := HS.out.rd
      have HF := Lib.hid (fault_any rb s a f wr hb)
      have HE := Lib.hid he; clear hb he
      by_cases hf : f = 0
      · subst hf
        have HE2 : Hid (st' = some (s.data.toList.drop a)) := HE.out.trans stOf_ok
        generalize s.data.toList.drop a = r at HE2
        obtain ⟨i, rfl⟩ : ∃ i, j = i + 1 := ⟨j - 1, by omega⟩
        have hg := HG.out
        rw [HE2.out] at hg
        have HGS := Lib.hid hg.step
        have HCL := Lib.hid (sym2_any R' (fun g => Q g ∨ g = gb) qb sb rb (.inl hq) s st' y' w0 wr HS.out (by omega))
        rw [HE2.out] at HCL
        clear hg HE
        go_wp2_with fail
        refine HF.out.mono ?_
        rintro e w2 ⟨rfl, rfl⟩
        clear HF c
        go_wp2_with fail
        refine HCL.out.mono ?_
        rintro e w3 ⟨rfl, R2, hs3⟩
        have H3 := Lib.hid hs3; clear hs3 HCL
        have hs1 : ((i : Int) + 1) - 1 = (i : Int) := by omega
        go_wp2
        go_roundw
        case rel => exact ⟨i, _, _, R2, by first | rfl | go_num, HGS.out, H3.out⟩
        case measure => simp [intOf]
      · have HN : Hid (st' = none) := HE.out.trans (stOf_spoilt hf)
        have bf : (f == 0) = false := by simpa using hf
        have HD := Lib.hid (HG.out.done (.inr HN.out))
        clear hf
        go_wp2_with fail
        refine HF.out.mono ?_
        rintro e w2 ⟨rfl, rfl⟩
        clear HF c
        go_wp2
        go_end0
        obtain ⟨h1, h2⟩ := HD.out
        refine ⟨rfl, R', ?_⟩
        have hs := HS.out.sub (Q' := Q) (fun g hg => .inl hg)
        rw [h1, h2, ← HT.out] at hs
        exact hs
end Go.Proofs.YtfmmfbijkklceaaDoor
