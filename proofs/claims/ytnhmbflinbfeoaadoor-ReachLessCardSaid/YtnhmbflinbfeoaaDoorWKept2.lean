/- The walk of reach.Kept. What is kept: among all ones, and closed, in plain Lean. No program in sight. -/
import Derived.Test.YtnhmbflinbfeoaaDoorWKept
namespace Go.Proofs.YtnhmbflinbfeoaaDoor
open Go.RowKit Go.Maps
theorem plt_tri (a b : PP) : plt a b ∨ a = b ∨ plt b a := by
  obtain ⟨a1, a2⟩ := a
  obtain ⟨b1, b2⟩ := b
  unfold plt
  simp only [Prod.mk.injEq]
  omega
theorem keptOf_sorted {l : List GObj} {p : PP} {L K : List PP} {F : PP → Option PP} (g : Goes l p L F L.length) (hp : K.Perm L) (hs : K.Pairwise (fun a b => ¬ plt b a)) : KeptOf l p K := by
  have hn : K.Nodup := hp.nodup_iff.2 g.nd
  refine ⟨?_, fun x => by rw [hp.mem_iff]; exact g.done (Nat.le_refl _) x⟩
  have := hs.and hn
  refine this.imp fun {a b} ⟨h1, h2⟩ => ?_
  rcases plt_tri a b with h | h | h
  · exact h
  · exact absurd h h2
  · exact absurd h h1
def KeptNot (l : List GObj) (nm n : ByteArray) (c : Int) : Prop :=
  (beginR l).2 ≠ 0 ∨ (findR l (-1) nm.data.toList = none ∧ n = nm ∧ c = 121) ∨ ∃ p K x, findR l (-1) nm.data.toList = some p ∧ KeptOf l p K ∧ x ∈ K ∧ refsC l x ≠ 0
def KeptYes (l : List GObj) (nm : ByteArray) (p : PP) (K : List PP) : Prop := (beginR l).2 = 0 ∧ findR l (-1) nm.data.toList = some p ∧ KeptOf l p K ∧ ∀ x ∈ K, refsC l x = 0
def KeptPost (l : List GObj) (nm : ByteArray) (w : World) (e : Ending) (w' : World) : Prop :=
  ((∃ p K vo, KeptYes l nm p K ∧ RowAt 2 PlaceR w' vo K ∧ e = .returned (.tuple #[vo, .string ⟨#[]⟩, .int .i64 0])) ∨ (∃ n c, c ≠ 0 ∧ e = .returned (.tuple #[.slice none 0 0, .string n, .int .i64 c]) ∧ KeptNot l nm n c)) ∧ Below w.heap.size w w'
set_option maxRecDepth 100000 in
set_option maxHeartbeats 4000000 in
theorem kept_any (hsort : SortOk) (v : Value) (l : List GObj) (nm : ByteArray) (w : World) (h : ObjsAt w v l) (hn : nm.size ≤ 9223372036854775807) :
    Calls Tryd.prog 7 #[.string nm, v] w (KeptPost l nm w) := by
  have HSORT := Lib.hid hsort; clear hsort
  have HO := Lib.hid h
  have HE := Lib.hid (entry_any v l nm w h hn)
  obtain ⟨p, cap, bb, o, rfl, -⟩ := h
  unfold EntryPost placeV at HE
  obtain ⟨⟨pa, pb⟩, bn, c, her⟩ : ∃ (pq : PP) (bn : ByteArray) (c : Int), entryR l nm = (pq, bn, c) := ⟨_, _, _, rfl⟩
  rw [her] at HE
  simp only [] at HE
  have HER := Lib.hid her; clear her
  by_cases hc0 : c = 0
  · subst hc0
    obtain ⟨hb0, hf⟩ : (beginR l).2 = 0 ∧ findR l (-1) nm.data.toList = some (pa, pb) := by
      have h1 := HER.out
      unfold entryR at h1
      by_cases hb : (beginR l).2 ≠ 0
      · rw [if_pos hb] at h1; simp only [Prod.mk.injEq] at h1; exact absurd h1.2.2 hb
      · rw [if_neg hb] at h1
        refine ⟨by simpa using hb, ?_⟩
        cases hf : findR l (-1) nm.data.toList with
        | none => rw [hf] at h1; simp at h1
        | some q => rw [hf] at h1; simp only [Prod.mk.injEq] at h1; rw [h1.1]
    have HV := Lib.hid (findR_valid hf)
    have HB0 := Lib.hid hb0; clear hb0
    have HF := Lib.hid hf; clear hf
    go_enter Tryd.func7, Tryd.ntmps7
    go_wp2_with fail
    refine HE.out.mono ?_
    rintro e w1 ⟨rfl, hB⟩
    have HB1 := Lib.hid hB; clear hB
    clear HE
    go_wp2_with fail
    refine (rbegin_any _ _ _ _).mono ?_
    rintro e w3 ⟨⟨sb, mb, rfl, hs3⟩, hB3⟩
    obtain ⟨q0, q1, -, -, hz, -⟩ := box2 w1 _ _ _ hB3
    have HGO := Lib.hid (goes_any HSORT.out sb mb (.slice p l.length cap) l (pa, pb) _ w3 hs3 hB3 (ObjsAt.keep (HB1.out.alloc HB1.out.size _) HO.out) HB0.out HV.out)
    unfold placeV at HGO
    simp only [] at HGO
    have HB2 : Hid (Below w.heap.size w (w1.alloc (.cells #[.int .i64 pa, .int .i64 pb] 30))) := HB1.out.alloc HB1.out.size _
    clear hs3 hB3
    generalize w1.alloc (.cells #[.int .i64 pa, .int .i64 pb] 30) = w2 at HGO HB2
    go_wp2_with fail
    refine HGO.out.mono ?_
    rintro e w4 ⟨rfl, v4, L, F, hs4, hg4, hb4⟩
    clear q0 q1 HGO
    obtain ⟨pv, cv, rfl⟩ := own_shape hs4.row
    have c0 : w4.cell? ⟨sb, 0, none⟩ = some (.slice pv L.length cv) := Lib.cell_of_heap hs4.box 0
    have hL := hg4.len HV.out HB0.out
    have HSC := Lib.hid (HSORT.out _ _ L w4 hs4.row (by omega))
    have HS4 := Lib.hid hs4; clear hs4
    have HG4 := Lib.hid hg4; clear hg4
    have HB4 : Hid (Below w.heap.size w w4) := HB2.out.trans (hb4.mono HB2.out.size)
    have hb24 : w.heap.size ≤ w2.heap.size := HB2.out.size
    clear hb4
    go_wp2_with fail
    refine HSC.out.mono ?_
    rintro e w5 ⟨rfl, K, hperm, hsort, hrow, hkb⟩
    have c1 : w5.cell? ⟨sb, 0, none⟩ = some (.slice pv L.length cv) := hkb.cell HS4.out.lt (fun e => HS4.out.nev e) c0
    clear c0
    have hlen := hperm.length_eq
    have HK : Hid (KeptOf l (pa, pb) K) := Lib.hid (keptOf_sorted HG4.out hperm hsort)
    have HR := Lib.hid (PRow.row hrow (by omega))
    have HB5 : Hid (Below w.heap.size w w5) := HB4.out.trans (hkb.below HB4.out.size (fun k hk e => by have := (HS4.out.row.lt k e).1; omega))
    clear hperm hsort hrow hkb HSC
    have HT := Lib.hid (rtold_any (.slice p l.length cap) (.slice pv L.length cv) l K w5 (ObjsAt.keep HB5.out HO.out) HR.out)
    go_wp2_with fail
    refine HT.out.mono ?_
    rintro e w6 ⟨hcase, hB6⟩
    have HB6 : Hid (Below w.heap.size w w6) := HB5.out.trans (hB6.mono HB5.out.size)
    have HR6 := Lib.hid (HR.out.keep placeR_keeps hB6)
    clear hB6
    rcases hcase with ⟨rfl, hall⟩ | ⟨n, c, hc, rfl, x, hx, hxc⟩
    · have HALL := Lib.hid hall; clear hall
      go_wp2
      go_ret3
      exact ⟨.inl ⟨_, K, _, ⟨HB0.out, HF.out, HK.out, HALL.out⟩, HR6.out, rfl⟩, HB6.out⟩
    · have HX := Lib.hid (And.intro hc (And.intro hx hxc)); clear hc hx hxc
      go_wp2
      go_ret3
      exact ⟨.inr ⟨n, c, HX.out.1, rfl, .inr (.inr ⟨_, K, x, HF.out, HK.out, HX.out.2.1, HX.out.2.2⟩)⟩, HB6.out⟩
  · have hcb : (c != 0) = true := by simpa using hc0
    have HN : Hid (KeptNot l nm bn c) := by
      have h1 := HER.out
      unfold entryR at h1
      by_cases hb : (beginR l).2 ≠ 0
      · exact Lib.hid (.inl hb)
      · rw [if_neg hb] at h1
        cases hf : findR l (-1) nm.data.toList with
        | none => rw [hf] at h1; simp only [Prod.mk.injEq] at h1; exact Lib.hid (.inr (.inl ⟨hf, h1.2.1.symm, h1.2.2.symm⟩))
        | some q => rw [hf] at h1; simp only [Prod.mk.injEq] at h1; exact absurd h1.2.2.symm hc0
    have HC0 := Lib.hid hc0; clear hc0
    go_enter Tryd.func7, Tryd.ntmps7
    go_wp2_with fail
    refine HE.out.mono ?_
    rintro e w1 ⟨rfl, hB⟩
    have HB1 := Lib.hid hB; clear hB
    go_wp2
    go_ret3
    exact ⟨.inr ⟨bn, c, HC0.out, rfl, HN.out⟩, HB1.out.alloc HB1.out.size _⟩
end Go.Proofs.YtnhmbflinbfeoaaDoor
namespace Go.Proofs.YtnhmbflinbfeoaaDoor
theorem findR_all {l : List GObj} {i : Int} {n : List UInt8} {q : PP} (h : findR l i n = some q) : q ∈ selPlaces (flat l) (flat l) := by
  obtain ⟨x, hx, rfl, hn, hb⟩ := findR_spot h
  unfold selPlaces
  refine List.mem_map.2 ⟨x, List.mem_filter.2 ⟨hx, ?_⟩, rfl⟩
  unfold selB
  rcases hb with ⟨h1, -⟩ | h1
  · simp [h1]
  · rw [hn]; simp [h1]
theorem reach_all {l : List GObj} {i : Int} {n : List UInt8} {p x : PP} (hp : findR l i n = some p) (h : Reach l p x) : x ∈ selPlaces (flat l) (flat l) := by
  cases h with
  | refl => exact findR_all hp
  | step _ k => obtain ⟨_, _, hf⟩ := k; exact findR_all hf
theorem refs_know {l : List GObj} {x : PP} (hc : (beginR l).2 = 0) (hv : validP l x) (h : refsC l x = 0) (q : PP) : q ∈ (refsV (beginR l) l x.1 x.2).1 ↔ knowsP l x q := by
  unfold refsC at h
  have hh : hasR l x.1 x.2 = true := by
    obtain ⟨o, s, h1, h2⟩ := hv
    have h3 := (List.getElem?_eq_some_iff.1 h2).1
    unfold hasR
    simp [h1, h3]
  have e : refsV (beginR l) l x.1 x.2 = refsGo l x.1 [] (relsAt l x.1 x.2) := by
    unfold refsV
    rw [if_neg (by simpa using hc), if_pos hh, Int.toNat_natCast, Int.toNat_natCast]
  rw [e] at h ⊢
  obtain ⟨⟨ps, n, c⟩, hr⟩ : ∃ r, refsGo l x.1 [] (relsAt l x.1 x.2) = r := ⟨_, rfl⟩
  rw [hr] at h
  simp only [] at h
  subst h
  rw [hr]
  rw [refsGo_mem hr q]
  simp [knowsP]
end Go.Proofs.YtnhmbflinbfeoaaDoor
