/- The walk of aediculelaw12.ResolveApart. -/
import Derived.Test.YtiogoinaklgglaaDoorApartObjs
import Derived.Test.YtiogoinaklgglaaDoorWOne
namespace Go.Proofs.YtiogoinaklgglaaDoor
open Go.RowKit Go.Maps Go.WideMaps
theorem one_objs {w : World} {s : GSym} {vr vn : Value} (hs : SymIn w s vr vn) :
    ObjsAt ((w.alloc (.cells #[.string s.name, .int .u8 s.bind, .int .u8 s.kind, .int .u32 s.size, .string s.bytes, vr, vn] 37)).alloc (.cells #[.string ⟨#[]⟩, .slice (some ⟨w.heap.size, 0, none⟩) 1 1] 32)) (.slice (some ⟨w.heap.size + 1, 0, none⟩) 1 1) [⟨emptyB, [s]⟩] := by
  have hr : RowAt 7 SymR ((w.alloc (.cells #[.string s.name, .int .u8 s.bind, .int .u8 s.kind, .int .u32 s.size, .string s.bytes, vr, vn] 37)).alloc (.cells #[.string ⟨#[]⟩, .slice (some ⟨w.heap.size, 0, none⟩) 1 1] 32)) (.slice (some ⟨w.heap.size, 0, none⟩) 1 1) [s] :=
    rowAt_one ⟨vr, vn, by simp; omega, by simp [go_sem], by simp [go_sem], by simp [go_sem], by simp [go_sem], by simp [go_sem], by simp [go_sem], by simp [go_sem], SymIn.keep ((alloc_old w _).alloc (by simp) _) hs⟩ (Nat.le_refl _)
  exact rowAt_one ⟨_, by simp, by simp [go_sem]; rfl, by simp [go_sem], hr, by simp [emptyB, ByteArray.size]⟩ (Nat.le_refl _)
set_option maxRecDepth 100000 in
set_option maxHeartbeats 2000000 in
theorem apart_guard (v : Value) (l : List GObj) (f : Int) (s : GSym) (vr vn : Value) (nm : ByteArray) (w : World) (h : ObjsAt w v l) (hs : SymIn w s vr vn) (hnm : nm.size ≤ 140737488355328) (hg : largeB l = true ∨ largeB [⟨emptyB, [s]⟩] = true ∨ l.length = 0 ∨ 1024 < nm.size) :
    Calls Tryd.prog 4 #[v, .int .u8 f, .agg #[.string s.name, .int .u8 s.bind, .int .u8 s.kind, .int .u32 s.size, .string s.bytes, vr, vn], .string nm] w fun e w' => e = .returned (.bool true) ∧ Below w.heap.size w w' := by
  have HL := Lib.hid (large_any v l _ (ObjsAt.keep (alloc_old w (.cells #[.string s.name, .int .u8 s.bind, .int .u8 s.kind, .int .u32 s.size, .string s.bytes, vr, vn] 37)) h))
  obtain ⟨p, cap, bb, o, rfl, hcap, hmax, -, -⟩ := h
  obtain ⟨p1, q1, p2, q2, rfl, rfl⟩ := hs.shape
  have H2 : Hid (∀ w1, Below w.heap.size w w1 → Calls Tryd.prog 6 #[.slice (some ⟨w1.heap.size + 1, 0, none⟩) 1 1] ((w1.alloc (.cells #[.string s.name, .int .u8 s.bind, .int .u8 s.kind, .int .u32 s.size, .string s.bytes, .slice p1 s.rels.length q1, .slice p2 s.notes.length q2] 37)).alloc (.cells #[.string ⟨#[]⟩, .slice (some ⟨w1.heap.size, 0, none⟩) 1 1] 32)) fun e w' => e = .returned (.bool (largeB [⟨emptyB, [s]⟩])) ∧ Below w1.heap.size w1 w') := fun w1 hb => by
    refine (large_any _ _ _ (one_objs (SymIn.keep hb hs))).mono fun e w' ⟨he, hb'⟩ => ⟨he, ((alloc_old w1 _).alloc (by simp) _).trans (hb'.mono (by simp; omega))⟩
  clear hs
  obtain ⟨sn, sb, sk, ss, sy, sr, st⟩ := s
  simp only [] at H2
  by_cases h1 : largeB l = true
  · rw [h1] at HL
    clear hg h1
    go_enter Tryd.func4, Tryd.ntmps4
    go_wp2_with (first | (go_at_call 6; refine HL.out.mono ?_; rintro e w1 ⟨rfl, hB1⟩) | (go_at_call 7; refine (alive12_any _).mono ?_; rintro e w2 ⟨rfl, hB2⟩))
    go_ret
    exact ⟨rfl, ((alloc_old w _).trans (hB1.mono (by simp))).trans (hB2.mono (by have := hB1.size; simp at this; omega))⟩
  · have h1' : largeB l = false := by simpa using h1
    rw [h1'] at HL
    have hg2 := hg.resolve_left h1
    clear h1 hg h1'
    go_enter Tryd.func4, Tryd.ntmps4
    go_wp2_with fail
    refine HL.out.mono ?_
    rintro e w1 ⟨rfl, hB1⟩
    have a0 : w1.cell? ⟨w.heap.size, 0, none⟩ = some (.string sn) := by rw [hB1.cell (by simp)]; simp [go_sem]
    have a1 : w1.cell? ⟨w.heap.size, 1, none⟩ = some (.int .u8 sb) := by rw [hB1.cell (by simp)]; simp [go_sem]
    have a2 : w1.cell? ⟨w.heap.size, 2, none⟩ = some (.int .u8 sk) := by rw [hB1.cell (by simp)]; simp [go_sem]
    have a3 : w1.cell? ⟨w.heap.size, 3, none⟩ = some (.int .u32 ss) := by rw [hB1.cell (by simp)]; simp [go_sem]
    have a4 : w1.cell? ⟨w.heap.size, 4, none⟩ = some (.string sy) := by rw [hB1.cell (by simp)]; simp [go_sem]
    have a5 : w1.cell? ⟨w.heap.size, 5, none⟩ = some (.slice p1 sr.length q1) := by rw [hB1.cell (by simp)]; simp [go_sem]
    have a6 : w1.cell? ⟨w.heap.size, 6, none⟩ = some (.slice p2 st.length q2) := by rw [hB1.cell (by simp)]; simp [go_sem]
    have HB1 : Hid (Below w.heap.size w w1) := (alloc_old w _).trans (hB1.mono (by simp))
    clear hB1 HL
    go_wp2_with fail
    refine (H2.out w1 HB1.out).mono ?_
    clear H2
    by_cases h2 : largeB [⟨emptyB, [⟨sn, sb, sk, ss, sy, sr, st⟩]⟩] = true
    · rw [h2]
      clear hg2 h2
      rintro e w2 ⟨rfl, hB2⟩
      have HB2 : Hid (Below w.heap.size w w2) := HB1.out.trans (hB2.mono HB1.out.size)
      clear hB2
      go_wp2_with (go_at_call 7; refine (alive12_any _).mono ?_; rintro e w3 ⟨rfl, hB3⟩)
      go_ret
      exact ⟨rfl, HB2.out.trans (hB3.mono HB2.out.size)⟩
    · have h2' : largeB [⟨emptyB, [⟨sn, sb, sk, ss, sy, sr, st⟩]⟩] = false := by simpa using h2
      rw [h2']
      have hg3 := hg2.resolve_left h2
      clear hg2 h2 h2'
      rintro e w2 ⟨rfl, hB2⟩
      have HB2 : Hid (Below w.heap.size w w2) := HB1.out.trans (hB2.mono HB1.out.size)
      clear hB2
      by_cases h3 : l.length = 0
      · have b3 : ((l.length : Int) == 0) = true := by simp [h3]
        have H3 := Lib.hid h3
        clear h3 hg3
        go_wp2_with (go_at_call 7; refine (alive12_any _).mono ?_; rintro e w3 ⟨rfl, hB3⟩)
        go_ret
        exact ⟨rfl, HB2.out.trans (hB3.mono HB2.out.size)⟩
      · have b3 : ((l.length : Int) == 0) = false := by simpa using h3
        have h4 := hg3.resolve_left h3
        have b4 : decide ((1024 : Int) < (nm.size : Int)) = true := by simp; omega
        clear h3 hg3
        go_wp2_with (go_at_call 7; refine (alive12_any _).mono ?_; rintro e w3 ⟨rfl, hB3⟩)
        go_ret
        exact ⟨rfl, HB2.out.trans (hB3.mono HB2.out.size)⟩
set_option maxRecDepth 100000 in
set_option maxHeartbeats 4000000 in
theorem apart_main (v : Value) (l : List GObj) (f : Nat) (s : GSym) (vr vn : Value) (nm : ByteArray) (w : World) (h : ObjsAt w v l) (hbd : ObjsBd l) (hs : SymIn w s vr vn) (hf : f ≤ 255) (hnm : nm.size ≤ 140737488355328) (h1 : largeB l = false) (h2 : largeB [⟨emptyB, [s]⟩] = false) (h3 : 0 < l.length) (h4 : ¬ 1024 < nm.size) :
    Calls Tryd.prog 4 #[v, .int .u8 f, .agg #[.string s.name, .int .u8 s.bind, .int .u8 s.kind, .int .u32 s.size, .string s.bytes, vr, vn], .string nm] w fun e w' => e = .returned (.bool true) ∧ Below w.heap.size w w' := by
  have HL := Lib.hid (large_any v l _ (ObjsAt.keep (alloc_old w (.cells #[.string s.name, .int .u8 s.bind, .int .u8 s.kind, .int .u32 s.size, .string s.bytes, vr, vn] 37)) h))
  rw [h1] at HL
  have HO := Lib.hid h
  obtain ⟨p, cap, bb, o, rfl, hcap, hmax, -, -⟩ := h
  obtain ⟨p1, q1, p2, q2, rfl, rfl⟩ := hs.shape
  have H2 : Hid (∀ w1, Below w.heap.size w w1 → Calls Tryd.prog 6 #[.slice (some ⟨w1.heap.size + 1, 0, none⟩) 1 1] ((w1.alloc (.cells #[.string s.name, .int .u8 s.bind, .int .u8 s.kind, .int .u32 s.size, .string s.bytes, .slice p1 s.rels.length q1, .slice p2 s.notes.length q2] 37)).alloc (.cells #[.string ⟨#[]⟩, .slice (some ⟨w1.heap.size, 0, none⟩) 1 1] 32)) fun e w' => e = .returned (.bool false) ∧ Below w1.heap.size w1 w') := fun w1 hb => by
    refine (large_any _ _ _ (one_objs (SymIn.keep hb hs))).mono fun e w' ⟨he, hb'⟩ => ⟨h2 ▸ he, ((alloc_old w1 _).alloc (by simp) _).trans (hb'.mono (by simp; omega))⟩
  clear h2 h1
  obtain ⟨sn, sb, sk, ss, sy, sr, st⟩ := s
  simp only [] at H2 hs
  have HSI : Hid (SymIn w ⟨sn, 0, sk, ss, sy, sr, st⟩ (.slice p1 sr.length q1) (.slice p2 st.length q2)) := ⟨hs.1, hs.2.1, by simp, hs.2.2.2⟩
  clear hs
  have b3 : ((l.length : Int) == 0) = false := by simp; intro h; subst h; simp at h3
  have b4 : decide ((1024 : Int) < (nm.size : Int)) = false := by simp; omega
  have hfb : 0 ≤ (f : Int) % (l.length : Int) := Int.emod_nonneg _ (by omega)
  have HBD := Lib.hid hbd; clear hbd
  go_enter Tryd.func4, Tryd.ntmps4
  go_wp2_with fail
  refine HL.out.mono ?_
  rintro e w1 ⟨rfl, hB1⟩
  have a0 : w1.cell? ⟨w.heap.size, 0, none⟩ = some (.string sn) := by rw [hB1.cell (by simp)]; simp [go_sem]
  have a1 : w1.cell? ⟨w.heap.size, 1, none⟩ = some (.int .u8 sb) := by rw [hB1.cell (by simp)]; simp [go_sem]
  have a2 : w1.cell? ⟨w.heap.size, 2, none⟩ = some (.int .u8 sk) := by rw [hB1.cell (by simp)]; simp [go_sem]
  have a3 : w1.cell? ⟨w.heap.size, 3, none⟩ = some (.int .u32 ss) := by rw [hB1.cell (by simp)]; simp [go_sem]
  have a4 : w1.cell? ⟨w.heap.size, 4, none⟩ = some (.string sy) := by rw [hB1.cell (by simp)]; simp [go_sem]
  have a5 : w1.cell? ⟨w.heap.size, 5, none⟩ = some (.slice p1 sr.length q1) := by rw [hB1.cell (by simp)]; simp [go_sem]
  have a6 : w1.cell? ⟨w.heap.size, 6, none⟩ = some (.slice p2 st.length q2) := by rw [hB1.cell (by simp)]; simp [go_sem]
  have F1 : Hid (w1.frozen? ⟨w.heap.size, 1, none⟩ = false) := by rw [Hid, hB1.frozen (by simp)]; simp [go_sem]
  have HB1 : Hid (Below w.heap.size w w1) := (alloc_old w _).trans (hB1.mono (by simp))
  have z1 : w.heap.size < w1.heap.size := by have := hB1.size; simp at this; omega
  have HA := Lib.hid (And.intro a0 (And.intro a1 (And.intro a2 (And.intro a3 (And.intro a4 (And.intro a5 a6))))))
  clear hB1 HL
  go_wp2_with fail
  refine (H2.out w1 HB1.out).mono ?_
  clear H2 a0 a1 a2 a3 a4 a5 a6
  rintro e w2 ⟨rfl, hB2⟩
  have a0 := cell_keep hB2 z1 HA.out.1
  have a1 := cell_keep hB2 z1 HA.out.2.1
  have a2 := cell_keep hB2 z1 HA.out.2.2.1
  have a3 := cell_keep hB2 z1 HA.out.2.2.2.1
  have a4 := cell_keep hB2 z1 HA.out.2.2.2.2.1
  have a5 := cell_keep hB2 z1 HA.out.2.2.2.2.2.1
  have a6 := cell_keep hB2 z1 HA.out.2.2.2.2.2.2
  have f1 : w2.frozen? ⟨w.heap.size, 1, none⟩ = false := by rw [hB2.frozen z1]; exact F1.out
  have HB2 : Hid (Below w.heap.size w w2) := HB1.out.trans (hB2.mono HB1.out.size)
  have z2 : w.heap.size < w2.heap.size := size_keep hB2 z1
  clear hB2 HB1 HA F1
  go_wp2_with fail
  rw [← Int.natCast_emod]
  have hil := Nat.mod_lt f h3
  clear hfb
  generalize f % l.length = i at *
  generalize hw3 : w2.setCell ⟨w.heap.size, 1, none⟩ (.int .u8 0) = w3
  have HB3 : Hid (Below w.heap.size w w3) := by subst hw3; exact HB2.out.setCell (Nat.le_refl _) _
  have z3 : w.heap.size < w3.heap.size := by subst hw3; simpa using z2
  have HA : Hid (w3.cell? ⟨w.heap.size, 0, none⟩ = some (.string sn) ∧ w3.cell? ⟨w.heap.size, 1, none⟩ = some (.int .u8 0) ∧ w3.cell? ⟨w.heap.size, 2, none⟩ = some (.int .u8 sk) ∧ w3.cell? ⟨w.heap.size, 3, none⟩ = some (.int .u32 ss) ∧ w3.cell? ⟨w.heap.size, 4, none⟩ = some (.string sy) ∧ w3.cell? ⟨w.heap.size, 5, none⟩ = some (.slice p1 sr.length q1) ∧ w3.cell? ⟨w.heap.size, 6, none⟩ = some (.slice p2 st.length q2)) := by
    subst hw3
    refine ⟨?_, ?_, ?_, ?_, ?_, ?_, ?_⟩ <;> simp [go_sem, *]
  clear hw3 a0 a1 a2 a3 a4 a5 a6 f1 HB2 z2
  refine (copyAll_any _ l _ (ObjsAt.keep HB3.out HO.out) HBD.out).mono ?_
  rintro e w4 ⟨vo, us, rfl, hum, hsep, hB⟩
  have hul : us.length = l.length := by rw [← hum, List.length_map]
  have hiu : i < us.length := by omega
  have hsu := hsep.2.1 us[i] (List.getElem_mem hiu)
  obtain ⟨⟨ts, k1, k2, k3, k4⟩, k5, k6, k7, k8⟩ := hsu
  obtain ⟨g, capo, hvo, hgB, hgl⟩ := hsep.1.form (by omega)
  subst hvo
  obtain ⟨ps, cs, hvs⟩ := own_shape k2
  have hts : ts.length = us[i].o.syms.length := by rw [← k1, List.length_map]
  have hoi : us[i].o = l[i] := by
    have : (us.map (·.o))[i]? = l[i]? := by rw [hum]
    rw [List.getElem?_map, List.getElem?_eq_getElem hiu, List.getElem?_eq_getElem hil] at this
    exact Option.some.inj this
  have htb : (ts.length + 1) * 88 ≤ 140737488355328 := by
    have h1 := (HBD.out.2 _ (List.getElem_mem hil)).1
    rw [← hoi, ← hts] at h1
    omega
  have b1 := hB.size
  have HB4 : Hid (Below w.heap.size w w4) := HB3.out.trans (hB.mono (by omega))
  have z4 : w.heap.size < w4.heap.size := by omega
  have a0 := cell_keep hB z3 HA.out.1
  have a1 := cell_keep hB z3 HA.out.2.1
  have a2 := cell_keep hB z3 HA.out.2.2.1
  have a3 := cell_keep hB z3 HA.out.2.2.2.1
  have a4 := cell_keep hB z3 HA.out.2.2.2.2.1
  have a5 := cell_keep hB z3 HA.out.2.2.2.2.2.1
  have a6 := cell_keep hB z3 HA.out.2.2.2.2.2.2
  have c1 : w4.cell? ⟨g, i * 2 + 1, none⟩ = some (.slice ps ts.length cs) := by
    rw [hsep.1.cellAt _ (by omega), flat_get objCells_len us i 1 hiu (by omega)]
    exact congrArg some hvs
  have f1 : w4.frozen? ⟨g, i * 2 + 1, none⟩ = false := hsep.1.frozenAt _
  have HK : Hid (∀ w5, ((w4.drew.alloc (.cells #[.string sn, .int .u8 0, .int .u8 sk, .int .u32 ss, .string sy, .slice p1 sr.length q1, .slice p2 st.length q2] 37)).grownBy w5 (Value.slice ps ts.length cs).ownBlock) → w5.cell? ⟨g, i * 2 + 1, none⟩ = some (.slice ps ts.length cs) ∧ w5.frozen? ⟨g, i * 2 + 1, none⟩ = false ∧ w5.cell? ⟨g, i * 2, none⟩ = some (.string us[i].o.name)) := fun w5 hg5 => by
    have hne : some g ≠ (Value.slice ps ts.length cs).ownBlock := fun e => by
      have h1 := k4 g (by rw [hvs]; exact e.symm)
      have h2 := k8 g rfl
      omega
    have hk := hg5.block g (by simp; omega) hne
    rw [Below.heap_alloc _ _ _ (by simpa using hgl)] at hk
    have c0 : w4.cell? ⟨g, i * 2, none⟩ = some (.string us[i].o.name) := by
      rw [hsep.1.cellAt _ (by omega)]
      exact flat_get objCells_len us i 0 hiu (by omega)
    exact ⟨by rw [World.cell?_of_block (w := w4) hk]; exact c1, by rw [World.frozen?_of_block (w := w4) hk]; exact f1, by rw [World.cell?_of_block (w := w4) hk]; exact c0⟩
  have HOWN : Hid ((w4.drew.alloc (.cells #[.string sn, .int .u8 0, .int .u8 sk, .int .u32 ss, .string sy, .slice p1 sr.length q1, .slice p2 st.length q2] 37)).ownsRow us[i].lo 37 7 (.slice ps ts.length cs) ts.length (ts.flatMap symCells)) := by
    rw [← hvs]; exact (World.ownsRow.drew k2).alloc _
  have HNEWS : Hid (∀ j u, (symCells (⟨sn, 0, sk, ss, sy, sr, st⟩, .slice p1 sr.length q1, .slice p2 st.length q2))[j]? = some u → (w4.drew.alloc (.cells #[.string sn, .int .u8 0, .int .u8 sk, .int .u32 ss, .string sy, .slice p1 sr.length q1, .slice p2 st.length q2] 37)).cell? ((⟨w4.heap.size, 0, none⟩ : Addr).add j) = some u) := by
    refine seven_news fun j u hj hu => ?_
    match j, hu with
    | 0, hu => cases hu; simp [go_sem]
    | 1, hu => cases hu; simp [go_sem]
    | 2, hu => cases hu; simp [go_sem]
    | 3, hu => cases hu; simp [go_sem]
    | 4, hu => cases hu; simp [go_sem]
    | 5, hu => cases hu; simp [go_sem]
    | 6, hu => cases hu; simp [go_sem]
  have HOB : Hid (∀ w' v', w'.ownsRow us[i].lo 37 7 v' (ts.length + 1) (ts.flatMap symCells ++ symCells (⟨sn, 0, sk, ss, sy, sr, st⟩, .slice p1 sr.length q1, .slice p2 st.length q2)) → ((w4.drew.alloc (.cells #[.string sn, .int .u8 0, .int .u8 sk, .int .u32 ss, .string sy, .slice p1 sr.length q1, .slice p2 st.length q2] 37)).grownBy w' (Value.slice ps ts.length cs).ownBlock) → (v'.ownBlock = (Value.slice ps ts.length cs).ownBlock ∨ v'.ownBlock = some (w4.heap.size + 1)) →
      ObjsAt (w'.setCell ⟨g, i * 2 + 1, none⟩ v') (.slice (some ⟨g, 0, none⟩) us.length capo) (addSym l i ⟨sn, 0, sk, ss, sy, sr, st⟩) ∧ Below w.heap.size w (w'.setCell ⟨g, i * 2 + 1, none⟩ v')) := fun w' v' hown hgrow hv => by
    have hbA : Below w4.heap.size w4 (w4.drew.alloc (.cells #[.string sn, .int .u8 0, .int .u8 sk, .int .u32 ss, .string sy, .slice p1 sr.length q1, .slice p2 st.length q2] 37)) := (Below.refl _ _).drew.alloc (Nat.le_refl _) _
    have hbw : Below w.heap.size w (w'.setCell ⟨g, i * 2 + 1, none⟩ v') := by
      refine ((HB4.out.drew.alloc (by simp; omega) _).grown hgrow (by simp; omega) fun k hk => ?_).setCell (by simp; omega) _
      have := (k4 k (by rw [hvs]; exact hk)).1
      omega
    refine ⟨apart_objs (ObjsAt.keep HB3.out HO.out) hum hiu (AllSep.keep hbA hsep) k1 (fun t ht => ?_) k4 hown (by rw [hvs]; exact hgrow) (by rw [hvs]; simpa using hv) HSI.out hbw (by omega), hbw⟩
    obtain ⟨so, i1, i2⟩ := k3 t ht
    exact ⟨SymOwn.keep hbA so, i1, i2⟩
  have hslo : us[i].lo ≤ w4.heap.size + 1 := by omega
  clear hB k1 k2 k3 k4 k5 k6 k7 k8 hsep hum hoi hts hvs HA hul hgB HBD
  go_wp2_with fail
  obtain ⟨iS, s0, s1, s2, s3⟩ := info_parts info_sym
  have HS := Lib.hid (And.intro s0 (And.intro s1 (And.intro s2 s3)))
  clear s0 s1 s2 s3
  have hi0 : (0 : Int) ≤ (i : Int) := by omega
  have hib : (i : Int) < (us.length : Int) := by omega
  go_region_law ((refine step_append_own_at rfl (.tmp 54) (.tmp 56) 30 rfl us[i].lo 37 iS _ 7 88 Tryd.underlying30 HS.out.1 HS.out.2.1 HS.out.2.2.1 HS.out.2.2.2 rfl (by decide) (.slice ps ts.length cs) ts.length (ts.flatMap symCells) (by simp [Act.eval]) HOWN.out ⟨w4.heap.size, 0, none⟩ 1 1 (symCells (⟨sn, 0, sk, ss, sy, sr, st⟩, .slice p1 sr.length q1, .slice p2 st.length q2)) (by simp [Act.eval]) rfl HNEWS.out (seven_one rfl rfl) (by unfold maxLen; omega) (by omega) (by simpa using hslo) ?_); intro v' w5 hown hgrow hv; obtain ⟨pv, cv, rfl⟩ := own_shape hown; obtain ⟨e1, e2, -⟩ := HK.out w5 hgrow; have HOB2 := Lib.hid (HOB.out w5 _ hown hgrow (by simpa using hv)); clear hown hgrow hv)
  all_goals
    clear HK HOWN HNEWS HOB HS c1 f1 e1 e2 a0 a1 a2 a3 a4 a5 a6 HB4 HB3 z4 z3 hslo
    generalize w5.setCell ⟨g, i * 2 + 1, none⟩ (.slice pv (ts.length + 1) cv) = w6 at HOB2 ⊢
    have HM := Lib.hid HOB2.out.1
    have HW := Lib.hid HOB2.out.2
    replace HO := Lib.hid (ObjsAt.keep HW.out HO.out)
    clear HOB2
    go_wp2_with fail
    refine (resCheck_any _ l _ HO.out).mono ?_
    rintro e w7 ⟨rfl, hB⟩
    replace HO := Lib.hid (HO.out.keep hB); replace HM := Lib.hid (HM.out.keep hB); replace HW := Lib.hid (HW.out.trans (hB.mono HW.out.size)); clear hB
    go_wp2_with fail
    refine (resCheck_any _ (addSym l i ⟨sn, 0, sk, ss, sy, sr, st⟩) _ HM.out).mono ?_
    rintro e w8 ⟨rfl, hB⟩
    replace HO := Lib.hid (HO.out.keep hB); replace HM := Lib.hid (HM.out.keep hB); replace HW := Lib.hid (HW.out.trans (hB.mono HW.out.size)); clear hB
    have HAP : Hid ((beginR l).2 = 0 → (beginR (addSym l i ⟨sn, 0, sk, ss, sy, sr, st⟩)).2 = 0 → ∀ j : Int, j ≠ (i : Int) → findAll (addSym l i ⟨sn, 0, sk, ss, sy, sr, st⟩) j nm.data.toList = findAll l j nm.data.toList) := fun h1 h2 j hj => apart_find hil rfl h1 h2 hj _
    generalize addSym l i ⟨sn, 0, sk, ss, sy, sr, st⟩ = m at HM HAP ⊢
    generalize beginR l = bl at HAP ⊢
    generalize beginR m = bm at HAP ⊢
    obtain ⟨bl1, bl2⟩ := bl
    obtain ⟨bm1, bm2⟩ := bm
    simp only [] at HAP ⊢
    by_cases hc1 : bl2 = 0
    case neg =>
      have hcb : (bl2 != 0) = true := by simpa using hc1
      have HC1 := Lib.hid hc1; clear hc1
      go_wp2_with (go_at_call 7; refine (alive12_any _).mono ?_; rintro e w9 ⟨rfl, hB9⟩)
      go_ret
      exact ⟨rfl, HW.out.trans (hB9.mono HW.out.size)⟩
    subst hc1
    by_cases hc2 : bm2 = 0
    case neg =>
      have hcb : (bm2 != 0) = true := by simpa using hc2
      have HC2 := Lib.hid hc2; clear hc2
      go_wp2_with (go_at_call 7; refine (alive12_any _).mono ?_; rintro e w9 ⟨rfl, hB9⟩)
      go_ret
      exact ⟨rfl, HW.out.trans (hB9.mono HW.out.size)⟩
    subst hc2
    go_wp2
    go_loopw [15] (fun v15 wr => ∃ j : Int, -1 ≤ j ∧ j ≤ l.length ∧ v15 = .int .i64 j ∧ Below w8.heap.size w8 wr) (fun v15 _ => ((l.length : Int) - intOf v15).toNat)
    case atStart => exact ⟨-1, by omega, by omega, rfl, Below.refl _ _⟩
    case round =>
      obtain ⟨j, hj1, hj2, rfl, hbel⟩ := hrel
      have HB := Lib.hid hbel; clear hbel
      by_cases hlt : j < (l.length : Int)
      · have C1 := Lib.hid (resFind_any _ l j nm _ (ObjsAt.keep HB.out HO.out) (by omega))
        have C2 := Lib.hid (fun w' (hb : Below w8.heap.size w8 w') => resFind_any _ m j nm w' (ObjsAt.keep hb HM.out) (by omega))
        have HE : Hid (j ≠ (i : Int) → findAll m j nm.data.toList = findAll l j nm.data.toList) := HAP.out trivial trivial j
        generalize findAll m j nm.data.toList = r2 at C2 HE
        generalize findAll l j nm.data.toList = r1 at C1 HE
        obtain ⟨⟨x1, x2⟩, x3⟩ := r1
        obtain ⟨⟨y1, y2⟩, y3⟩ := r2
        simp only [findV] at C1 C2
        go_wp2_with fail
        refine C1.out.mono ?_
        rintro e w9 ⟨rfl, hB9⟩
        replace HB := Lib.hid (HB.out.trans (hB9.mono HB.out.size)); clear hB9 C1
        have HB10 := Lib.hid (HB.out.alloc HB.out.size (.cells #[.int .i64 x1, .int .i64 x2] 26))
        go_wp2_with fail
        refine (C2.out _ HB10.out).mono ?_
        rintro e w10 ⟨rfl, hB10⟩
        have d0 : w10.cell? ⟨w9.heap.size, 0, none⟩ = some (.int .i64 x1) := by rw [hB10.cell (by simp)]; simp [go_sem]
        have d1 : w10.cell? ⟨w9.heap.size, 1, none⟩ = some (.int .i64 x2) := by rw [hB10.cell (by simp)]; simp [go_sem]
        have dz : w9.heap.size < w10.heap.size := by have := hB10.size; simp at this; omega
        have HBF := Lib.hid ((HB10.out.trans (hB10.mono HB10.out.size)).alloc (by have := HB10.out.size; have := hB10.size; omega) (.cells #[.int .i64 y1, .int .i64 y2] 26))
        clear hB10 HB10 HB C2
        by_cases hji : j = (i : Int)
        · have bn : (j != (i : Int)) = false := by simpa using hji
          have HJI := Lib.hid hji
          clear hji HE
          go_wp2
          go_roundw
          case rel => exact ⟨j + 1, by omega, by omega, by go_num, HBF.out⟩
          case measure => simp [intOf]; omega
        · have bn : (j != (i : Int)) = true := by simpa using hji
          have he := HE.out hji
          have HJI := Lib.hid hji
          clear hji HE
          cases he
          go_wp2
          go_roundw
          case rel => exact ⟨j + 1, by omega, by omega, by go_num, HBF.out⟩
          case measure => simp [intOf]; omega
      · replace HW := Lib.hid (HW.out.trans (HB.out.mono HW.out.size))
        go_wp2_with (go_at_call 7; refine (alive12_any _).mono ?_; rintro e w9 ⟨rfl, hB9⟩)
        go_ret
        exact ⟨rfl, HW.out.trans (hB9.mono HW.out.size)⟩
theorem apart_any (v : Value) (l : List GObj) (f : Nat) (s : GSym) (vr vn : Value) (nm : ByteArray) (w : World) (h : ObjsAt w v l) (hbd : ObjsBd l) (hs : SymIn w s vr vn) (hf : f ≤ 255) (hnm : nm.size ≤ 140737488355328) :
    Calls Tryd.prog 4 #[v, .int .u8 f, .agg #[.string s.name, .int .u8 s.bind, .int .u8 s.kind, .int .u32 s.size, .string s.bytes, vr, vn], .string nm] w fun e w' => e = .returned (.bool true) ∧ Below w.heap.size w w' := by
  by_cases hg : largeB l = true ∨ largeB [⟨emptyB, [s]⟩] = true ∨ l.length = 0 ∨ 1024 < nm.size
  · exact apart_guard v l f s vr vn nm w h hs hnm hg
  · exact apart_main v l f s vr vn nm w h hbd hs hf hnm (by simpa using fun h => hg (.inl h)) (by simpa using fun h => hg (.inr (.inl h))) (by have : ¬ l.length = 0 := fun h => hg (.inr (.inr (.inl h))); omega) (fun h => hg (.inr (.inr (.inr h))))
end Go.Proofs.YtiogoinaklgglaaDoor
