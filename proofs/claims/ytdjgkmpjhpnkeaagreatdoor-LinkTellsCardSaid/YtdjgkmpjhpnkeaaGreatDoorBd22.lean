/- The walk of reach.Kept. What is kept: among all ones, and closed, in plain Lean. No program in sight. The walks of reach.told, All and Kept, with the errors told exactly. append onto a row of one's own from whatever row of cells. No program in sight. -/
import Derived.Test.YtdjgkmpjhpnkeaaGreatDoorBd21
import Derived.Test.YtdjgkmpjhpnkeaaGreatDoorBd05
namespace Go.Proofs.YtdjgkmpjhpnkeaaGreatDoor
open Go.RowKit Go.Maps
theorem plt_tri (a b : PP) : plt a b ∨ a = b ∨ plt b a := by
  obtain ⟨a1, a2⟩ := a
  obtain ⟨b1, b2⟩ := b
  unfold plt
  simp only [Prod.mk.injEq]
  omega
theorem keptOf_sorted {l : List GObj} {p : PP} {L K : List PP} {F : PP → Option PP} (g : Goes l p L F L.length) (hp : K.Perm L) (hs : K.Pairwise (fun a b => ¬ plt b a)) : KeptOf l p K := by
  have hn : K.Nodup := hp.nodup_iff.2 g.nd
  refine ⟨?_, fun x => by rw [hp.mem_iff]; exact g.done (Nat.le_refl _) x⟩
  have := hs.and hn
  refine this.imp fun {a b} ⟨h1, h2⟩ => ?_
  rcases plt_tri a b with h | h | h
  · exact h
  · exact absurd h h2
  · exact absurd h h1
def KeptNot (l : List GObj) (nm n : ByteArray) (c : Int) : Prop :=
  (beginR l).2 ≠ 0 ∨ (findR l (-1) nm.data.toList = none ∧ n = nm ∧ c = 121) ∨ ∃ p K x, findR l (-1) nm.data.toList = some p ∧ KeptOf l p K ∧ x ∈ K ∧ refsC l x ≠ 0
def KeptYes (l : List GObj) (nm : ByteArray) (p : PP) (K : List PP) : Prop := (beginR l).2 = 0 ∧ findR l (-1) nm.data.toList = some p ∧ KeptOf l p K ∧ ∀ x ∈ K, refsC l x = 0
def KeptPost (l : List GObj) (nm : ByteArray) (w : World) (e : Ending) (w' : World) : Prop :=
  ((∃ p K vo, KeptYes l nm p K ∧ RowAt 2 PlaceR w' vo K ∧ e = .returned (.tuple #[vo, .string ⟨#[]⟩, .int .i64 0])) ∨ (∃ n c, c ≠ 0 ∧ e = .returned (.tuple #[.slice none 0 0, .string n, .int .i64 c]) ∧ KeptNot l nm n c)) ∧ Below w.heap.size w w'
set_option maxRecDepth 100000 in
set_option maxHeartbeats 4000000 in
theorem kept_any (hsort : SortOk) (v : Value) (l : List GObj) (nm : ByteArray) (w : World) (h : ObjsAt w v l) (hn : nm.size ≤ 9223372036854775807) :
    Calls Tryz.prog 53 #[.string nm, v] w (KeptPost l nm w) := by
  have HSORT := Lib.hid hsort; clear hsort
  have HO := Lib.hid h
  have HE := Lib.hid (entry_any v l nm w h hn)
  obtain ⟨p, cap, bb, o, rfl, -⟩ := h
  unfold EntryPost placeV at HE
  obtain ⟨⟨pa, pb⟩, bn, c, her⟩ : ∃ (pq : PP) (bn : ByteArray) (c : Int), entryR l nm = (pq, bn, c) := ⟨_, _, _, rfl⟩
  rw [her] at HE
  simp only [] at HE
  have HER := Lib.hid her; clear her
  by_cases hc0 : c = 0
  · subst hc0
    obtain ⟨hb0, hf⟩ : (beginR l).2 = 0 ∧ findR l (-1) nm.data.toList = some (pa, pb) := by
      have h1 := HER.out
      unfold entryR at h1
      by_cases hb : (beginR l).2 ≠ 0
      · rw [if_pos hb] at h1; simp only [Prod.mk.injEq] at h1; exact absurd h1.2.2 hb
      · rw [if_neg hb] at h1
        refine ⟨by simpa using hb, ?_⟩
        cases hf : findR l (-1) nm.data.toList with
        | none => rw [hf] at h1; simp at h1
        | some q => rw [hf] at h1; simp only [Prod.mk.injEq] at h1; rw [h1.1]
    have HV := Lib.hid (findR_valid hf)
    have HB0 := Lib.hid hb0; clear hb0
    have HF := Lib.hid hf; clear hf
    go_enter Tryz.func53, Tryz.ntmps53
    go_wp2_with fail
    refine HE.out.mono ?_
    rintro e w1 ⟨rfl, hB⟩
    have HB1 := Lib.hid hB; clear hB
    clear HE
    go_wp2_with fail
    refine (rbegin_any _ _ _ _).mono ?_
    rintro e w3 ⟨⟨sb, mb, rfl, hs3⟩, hB3⟩
    obtain ⟨q0, q1, -, -, hz, -⟩ := box2 w1 _ _ _ hB3
    have HGO := Lib.hid (goes_any HSORT.out sb mb (.slice p l.length cap) l (pa, pb) _ w3 hs3 hB3 (ObjsAt.keep (HB1.out.alloc HB1.out.size _) HO.out) HB0.out HV.out)
    unfold placeV at HGO
    simp only [] at HGO
    have HB2 : Hid (Below w.heap.size w (w1.alloc (.cells #[.int .i64 pa, .int .i64 pb] 63))) := HB1.out.alloc HB1.out.size _
    clear hs3 hB3
    generalize w1.alloc (.cells #[.int .i64 pa, .int .i64 pb] 63) = w2 at HGO HB2
    go_wp2_with fail
    refine HGO.out.mono ?_
    rintro e w4 ⟨rfl, v4, L, F, hs4, hg4, hb4⟩
    clear q0 q1 HGO
    obtain ⟨pv, cv, rfl⟩ := own_shape hs4.row
    have c0 : w4.cell? ⟨sb, 0, none⟩ = some (.slice pv L.length cv) := Lib.cell_of_heap hs4.box 0
    have hL := hg4.len HV.out HB0.out
    have HSC := Lib.hid (HSORT.out _ _ L w4 hs4.row (by omega))
    have HS4 := Lib.hid hs4; clear hs4
    have HG4 := Lib.hid hg4; clear hg4
    have HB4 : Hid (Below w.heap.size w w4) := HB2.out.trans (hb4.mono HB2.out.size)
    have hb24 : w.heap.size ≤ w2.heap.size := HB2.out.size
    clear hb4
    go_wp2_with fail
    refine HSC.out.mono ?_
    rintro e w5 ⟨rfl, K, hperm, hsort, hrow, hkb⟩
    have c1 : w5.cell? ⟨sb, 0, none⟩ = some (.slice pv L.length cv) := hkb.cell HS4.out.lt (fun e => HS4.out.nev e) c0
    clear c0
    have hlen := hperm.length_eq
    have HK : Hid (KeptOf l (pa, pb) K) := Lib.hid (keptOf_sorted HG4.out hperm hsort)
    have HR := Lib.hid (PRow.row hrow (by omega))
    have HB5 : Hid (Below w.heap.size w w5) := HB4.out.trans (hkb.below HB4.out.size (fun k hk e => by have := (HS4.out.row.lt k e).1; omega))
    clear hperm hsort hrow hkb HSC
    have HT := Lib.hid (rtold_any (.slice p l.length cap) (.slice pv L.length cv) l K w5 (ObjsAt.keep HB5.out HO.out) HR.out)
    go_wp2_with fail
    refine HT.out.mono ?_
    rintro e w6 ⟨hcase, hB6⟩
    have HB6 : Hid (Below w.heap.size w w6) := HB5.out.trans (hB6.mono HB5.out.size)
    have HR6 := Lib.hid (HR.out.keep placeR_keeps hB6)
    clear hB6
    rcases hcase with ⟨rfl, hall⟩ | ⟨n, c, hc, rfl, x, hx, hxc⟩
    · have HALL := Lib.hid hall; clear hall
      go_wp2
      go_ret3
      exact ⟨.inl ⟨_, K, _, ⟨HB0.out, HF.out, HK.out, HALL.out⟩, HR6.out, rfl⟩, HB6.out⟩
    · have HX := Lib.hid (And.intro hc (And.intro hx hxc)); clear hc hx hxc
      go_wp2
      go_ret3
      exact ⟨.inr ⟨n, c, HX.out.1, rfl, .inr (.inr ⟨_, K, x, HF.out, HK.out, HX.out.2.1, HX.out.2.2⟩)⟩, HB6.out⟩
  · have hcb : (c != 0) = true := by simpa using hc0
    have HN : Hid (KeptNot l nm bn c) := by
      have h1 := HER.out
      unfold entryR at h1
      by_cases hb : (beginR l).2 ≠ 0
      · exact Lib.hid (.inl hb)
      · rw [if_neg hb] at h1
        cases hf : findR l (-1) nm.data.toList with
        | none => rw [hf] at h1; simp only [Prod.mk.injEq] at h1; exact Lib.hid (.inr (.inl ⟨hf, h1.2.1.symm, h1.2.2.symm⟩))
        | some q => rw [hf] at h1; simp only [Prod.mk.injEq] at h1; exact absurd h1.2.2.symm hc0
    have HC0 := Lib.hid hc0; clear hc0
    go_enter Tryz.func53, Tryz.ntmps53
    go_wp2_with fail
    refine HE.out.mono ?_
    rintro e w1 ⟨rfl, hB⟩
    have HB1 := Lib.hid hB; clear hB
    go_wp2
    go_ret3
    exact ⟨.inr ⟨bn, c, HC0.out, rfl, HN.out⟩, HB1.out.alloc HB1.out.size _⟩
end Go.Proofs.YtdjgkmpjhpnkeaaGreatDoor
namespace Go.Proofs.YtdjgkmpjhpnkeaaGreatDoor
theorem findR_all {l : List GObj} {i : Int} {n : List UInt8} {q : PP} (h : findR l i n = some q) : q ∈ selPlaces (flat l) (flat l) := by
  obtain ⟨x, hx, rfl, hn, hb⟩ := findR_spot h
  unfold selPlaces
  refine List.mem_map.2 ⟨x, List.mem_filter.2 ⟨hx, ?_⟩, rfl⟩
  unfold selB
  rcases hb with ⟨h1, -⟩ | h1
  · simp [h1]
  · rw [hn]; simp [h1]
theorem reach_all {l : List GObj} {i : Int} {n : List UInt8} {p x : PP} (hp : findR l i n = some p) (h : Reach l p x) : x ∈ selPlaces (flat l) (flat l) := by
  cases h with
  | refl => exact findR_all hp
  | step _ k => obtain ⟨_, _, hf⟩ := k; exact findR_all hf
theorem refs_know {l : List GObj} {x : PP} (hc : (beginR l).2 = 0) (hv : validP l x) (h : refsC l x = 0) (q : PP) : q ∈ (refsV (beginR l) l x.1 x.2).1 ↔ knowsP l x q := by
  unfold refsC at h
  have hh : hasR l x.1 x.2 = true := by
    obtain ⟨o, s, h1, h2⟩ := hv
    have h3 := (List.getElem?_eq_some_iff.1 h2).1
    unfold hasR
    simp [h1, h3]
  have e : refsV (beginR l) l x.1 x.2 = refsGo l x.1 [] (relsAt l x.1 x.2) := by
    unfold refsV
    rw [if_neg (by simpa using hc), if_pos hh, Int.toNat_natCast, Int.toNat_natCast]
  rw [e] at h ⊢
  obtain ⟨⟨ps, n, c⟩, hr⟩ : ∃ r, refsGo l x.1 [] (relsAt l x.1 x.2) = r := ⟨_, rfl⟩
  rw [hr] at h
  simp only [] at h
  subst h
  rw [hr]
  rw [refsGo_mem hr q]
  simp [knowsP]
end Go.Proofs.YtdjgkmpjhpnkeaaGreatDoor
namespace Go.Proofs.YtdjgkmpjhpnkeaaGreatDoor
open Go.RowKit Go.Maps
/-- the first of places whose names are none, and why; none: no error -/
def toldR (l : List GObj) : List PP → ByteArray × Int
  | [] => (emptyB, 0)
  | x :: r => if (refsV (beginR l) l x.1 x.2).2.2 = 0 then toldR l r else ((refsV (beginR l) l x.1 x.2).2.1, (refsV (beginR l) l x.1 x.2).2.2)
theorem toldR_step {l : List GObj} {ks : List PP} {k : Nat} (h : k < ks.length) : toldR l (ks.drop k) = if (refsV (beginR l) l ks[k].1 ks[k].2).2.2 = 0 then toldR l (ks.drop (k + 1)) else ((refsV (beginR l) l ks[k].1 ks[k].2).2.1, (refsV (beginR l) l ks[k].1 ks[k].2).2.2) := by
  rw [List.drop_eq_getElem_cons h, toldR]
theorem toldR_all {l : List GObj} : ∀ {ks : List PP} {n : ByteArray}, toldR l ks = (n, 0) → ∀ x ∈ ks, refsC l x = 0
  | [], _, _, x, hx => by cases hx
  | y :: r, n, h, x, hx => by
    rw [toldR] at h
    split at h
    · rename_i h0
      rcases List.mem_cons.1 hx with rfl | hx
      · exact h0
      · exact toldR_all h x hx
    · rename_i h0
      simp only [Prod.mk.injEq] at h
      exact absurd h.2 h0
def Told18Post (l : List GObj) (pv : Value) (ks : List PP) (w : World) (e : Ending) (w' : World) : Prop :=
  (if (toldR l ks).2 = 0 then e = .returned (.tuple #[pv, .string ⟨#[]⟩, .int .i64 0]) else e = .returned (.tuple #[.slice none 0 0, .string (toldR l ks).1, .int .i64 (toldR l ks).2])) ∧ Below w.heap.size w w'
/-- why nothing is kept -/
def KeptErr (l : List GObj) (nm n : ByteArray) (c : Int) : Prop :=
  ((entryR l nm).2.2 ≠ 0 ∧ n = (entryR l nm).2.1 ∧ c = (entryR l nm).2.2) ∨ ((entryR l nm).2.2 = 0 ∧ ∃ p K, findR l (-1) nm.data.toList = some p ∧ KeptOf l p K ∧ toldR l K = (n, c))
def Kept18Post (l : List GObj) (nm : ByteArray) (w : World) (e : Ending) (w' : World) : Prop :=
  ((∃ p K vo, KeptYes l nm p K ∧ RowAt 2 PlaceR w' vo K ∧ e = .returned (.tuple #[vo, .string ⟨#[]⟩, .int .i64 0])) ∨ (∃ n c, c ≠ 0 ∧ e = .returned (.tuple #[.slice none 0 0, .string n, .int .i64 c]) ∧ KeptErr l nm n c)) ∧ Below w.heap.size w w'
def AllPost18 (l : List GObj) (nm : ByteArray) (w : World) (e : Ending) (w' : World) : Prop :=
  ((∃ vo, (entryR l nm).2.2 = 0 ∧ (toldR l (allK l)).2 = 0 ∧ RowAt 2 PlaceR w' vo (allK l) ∧ e = .returned (.tuple #[vo, .string ⟨#[]⟩, .int .i64 0])) ∨
    (∃ n c, c ≠ 0 ∧ e = .returned (.tuple #[.slice none 0 0, .string n, .int .i64 c]) ∧ (((entryR l nm).2.2 ≠ 0 ∧ n = (entryR l nm).2.1 ∧ c = (entryR l nm).2.2) ∨ ((entryR l nm).2.2 = 0 ∧ toldR l (allK l) = (n, c))))) ∧ Below w.heap.size w w'
set_option maxRecDepth 100000 in
set_option maxHeartbeats 2000000 in
theorem told18_any (v pv : Value) (l : List GObj) (ks : List PP) (w : World) (h : ObjsAt w v l) (hk : RowAt 2 PlaceR w pv ks) :
    Calls Tryz.prog 133 #[v, pv] w (Told18Post l pv ks w) := by
  have HO := Lib.hid h
  obtain ⟨p, cap, bb, o, rfl, -⟩ := h
  obtain ⟨pk, ck, bk, ok, rfl, hck, hmk, hpk, hrk⟩ := hk
  have HPK := Lib.hid hpk; clear hpk
  have HRK := Lib.hid hrk; clear hrk
  go_enter Tryz.func133, Tryz.ntmps133
  go_wp2
  go_loopw [14] (fun v14 wr => ∃ k : Nat, k ≤ ks.length ∧ v14 = .int .i64 k ∧ toldR l (ks.drop k) = toldR l ks ∧ Below w.heap.size w wr) (fun v14 _ => ks.length - (intOf v14).toNat)
  case atStart => exact ⟨0, Nat.zero_le _, rfl, rfl, Below.refl _ _⟩
  case round =>
    obtain ⟨k, hk, rfl, hall, hbel⟩ := hrel
    have HA := Lib.hid hall; clear hall
    have HB := Lib.hid hbel; clear hbel
    by_cases hlt : k < ks.length
    · obtain rfl := HPK.out (by omega)
      obtain ⟨-, y0, y1⟩ := placeR_keeps _ _ _ _ _ HB.out (HRK.out k hlt)
      have HRF := Lib.hid (fun (W : World) (hW : Below wr.heap.size wr W) => refs_any (.slice p l.length cap) l ks[k].1 ks[k].2 W (ObjsAt.keep (HB.out.trans (hW.mono HB.out.size)) HO.out))
      have HC : Hid (toldR l (ks.drop k) = if (refsV (beginR l) l ks[k].1 ks[k].2).2.2 = 0 then toldR l (ks.drop (k + 1)) else ((refsV (beginR l) l ks[k].1 ks[k].2).2.1, (refsV (beginR l) l ks[k].1 ks[k].2).2.2)) := toldR_step hlt
      generalize (refsV (beginR l) l ks[k].1 ks[k].2).2.2 = c at HRF HC
      generalize (refsV (beginR l) l ks[k].1 ks[k].2).2.1 = bn at HRF HC
      generalize (refsV (beginR l) l ks[k].1 ks[k].2).1 = qs at HRF
      generalize ks[k] = y at *
      obtain ⟨y1', y2'⟩ := y
      simp only [] at y0 y1 HRF
      have d2 : (0 : Int) ≤ (k : Int) := by omega
      go_wp2_with fail
      refine (HRF.out _ ?_).mono ?_
      · exact alloc_old _ _
      rintro e w1 ⟨vo, rfl, -, hB1⟩
      have HB1 : Hid (Below w.heap.size w w1) := HB.out.trans (((alloc_old wr _).trans (hB1.mono (by simp))).mono HB.out.size)
      clear hB1
      by_cases hc0 : c = 0
      · subst hc0
        go_wp2
        go_roundw
        case rel => exact ⟨k + 1, by omega, by go_num, by rw [← HA.out, HC.out]; simp, HB1.out⟩
        case measure => simp [intOf]; omega
      · have hcb : (c != 0) = true := by simpa using hc0
        have HC0 := Lib.hid hc0; clear hc0
        go_wp2
        go_ret3
        have HE : Hid (toldR l ks = (bn, c)) := by rw [Hid, ← HA.out, HC.out, if_neg HC0.out]
        refine ⟨?_, HB1.out⟩
        rw [HE.out, if_neg HC0.out]
        rfl
    · go_wp2
      go_ret3
      have HE : Hid (toldR l ks = (emptyB, 0)) := by rw [Hid, ← HA.out, List.drop_of_length_le (by omega)]; rfl
      refine ⟨?_, HB.out⟩
      rw [HE.out, if_pos rfl]
      rfl
set_option maxRecDepth 100000 in
set_option maxHeartbeats 4000000 in
theorem all18_any (v : Value) (l : List GObj) (nm : ByteArray) (w : World) (h : ObjsAt w v l) (hn : nm.size ≤ 9223372036854775807) :
    Calls Tryz.prog 51 #[.string nm, v] w (AllPost18 l nm w) := by
  have HO := Lib.hid h
  have HE := Lib.hid (entry_any v l nm w h hn)
  obtain ⟨p, cap, bb, o, rfl, -⟩ := h
  unfold EntryPost placeV at HE
  obtain ⟨⟨pa, pb⟩, bn, c, her⟩ : ∃ (pq : PP) (bn : ByteArray) (c : Int), entryR l nm = (pq, bn, c) := ⟨_, _, _, rfl⟩
  rw [her] at HE
  simp only [] at HE
  have HER := Lib.hid her; clear her
  by_cases hc0 : c = 0
  · subst hc0
    have hb0 : (beginR l).2 = 0 := by
      have h1 := HER.out
      unfold entryR at h1
      by_cases hb : (beginR l).2 ≠ 0
      · rw [if_pos hb] at h1; simp only [Prod.mk.injEq] at h1; exact absurd h1.2.2 hb
      · simpa using hb
    have HB0 := Lib.hid hb0; clear hb0
    go_enter Tryz.func51, Tryz.ntmps51
    go_wp2_with fail
    refine HE.out.mono ?_
    rintro e w1 ⟨rfl, hB⟩
    have HB2 : Hid (Below w.heap.size w (w1.alloc (.cells #[.int .i64 pa, .int .i64 pb] 63))) := hB.alloc hB.size _
    clear HE hB
    have HW := Lib.hid (winners_any (.slice p l.length cap) l _ (ObjsAt.keep HB2.out HO.out))
    rw [HB0.out, if_pos rfl] at HW
    go_wp2_with fail
    refine HW.out.mono ?_
    rintro e w3 ⟨vo, rfl, hrow, hB3⟩
    have HR := Lib.hid hrow
    obtain ⟨pv, cv, bv, ov, rfl, -⟩ := hrow
    have HB3 : Hid (Below w.heap.size w w3) := HB2.out.trans (hB3.mono HB2.out.size)
    clear hB3
    have HT := Lib.hid (told18_any (.slice p l.length cap) _ l _ w3 (ObjsAt.keep HB3.out HO.out) HR.out)
    have HEQ : Hid (selPlaces (flat l) (flat l) = allK l) := Lib.hid rfl
    rw [HEQ.out] at HR HT
    rw [HEQ.out]
    clear HEQ
    go_wp2_with fail
    refine HT.out.mono ?_
    rintro e w6 ⟨hcase, hB6⟩
    have HB6 : Hid (Below w.heap.size w w6) := HB3.out.trans (hB6.mono HB3.out.size)
    have HR6 := Lib.hid (HR.out.keep placeR_keeps hB6)
    clear hB6
    generalize htr : toldR l (allK l) = tr at hcase
    obtain ⟨n, c⟩ := tr
    simp only [] at hcase
    have HTR := Lib.hid htr; clear htr
    by_cases hc : c = 0
    · subst hc
      rw [if_pos rfl] at hcase
      subst hcase
      go_wp2
      go_ret3
      exact ⟨.inl ⟨_, by rw [HER.out], by rw [HTR.out], HR6.out, rfl⟩, HB6.out⟩
    · rw [if_neg hc] at hcase
      subst hcase
      have hcn : (c != 0) = true := by simpa using hc
      have HC := Lib.hid hc; clear hc
      go_wp2
      go_ret3
      exact ⟨.inr ⟨n, c, HC.out, rfl, .inr ⟨by rw [HER.out], HTR.out⟩⟩, HB6.out⟩
  · have hcb : (c != 0) = true := by simpa using hc0
    have HC0 := Lib.hid hc0; clear hc0
    go_enter Tryz.func51, Tryz.ntmps51
    go_wp2_with fail
    refine HE.out.mono ?_
    rintro e w1 ⟨rfl, hB⟩
    have HB1 := Lib.hid hB; clear hB
    go_wp2
    go_ret3
    exact ⟨.inr ⟨bn, c, HC0.out, rfl, .inl ⟨by rw [HER.out]; exact HC0.out, by rw [HER.out], by rw [HER.out]⟩⟩, HB1.out.alloc HB1.out.size _⟩
set_option maxRecDepth 100000 in
set_option maxHeartbeats 4000000 in
theorem kept18_any (hsort : SortOk) (v : Value) (l : List GObj) (nm : ByteArray) (w : World) (h : ObjsAt w v l) (hn : nm.size ≤ 9223372036854775807) :
    Calls Tryz.prog 53 #[.string nm, v] w (Kept18Post l nm w) := by
  have HSORT := Lib.hid hsort; clear hsort
  have HO := Lib.hid h
  have HE := Lib.hid (entry_any v l nm w h hn)
  obtain ⟨p, cap, bb, o, rfl, -⟩ := h
  unfold EntryPost placeV at HE
  obtain ⟨⟨pa, pb⟩, bn, c, her⟩ : ∃ (pq : PP) (bn : ByteArray) (c : Int), entryR l nm = (pq, bn, c) := ⟨_, _, _, rfl⟩
  rw [her] at HE
  simp only [] at HE
  have HER := Lib.hid her; clear her
  by_cases hc0 : c = 0
  · subst hc0
    obtain ⟨hb0, hf⟩ : (beginR l).2 = 0 ∧ findR l (-1) nm.data.toList = some (pa, pb) := by
      have h1 := HER.out
      unfold entryR at h1
      by_cases hb : (beginR l).2 ≠ 0
      · rw [if_pos hb] at h1; simp only [Prod.mk.injEq] at h1; exact absurd h1.2.2 hb
      · rw [if_neg hb] at h1
        refine ⟨by simpa using hb, ?_⟩
        cases hf : findR l (-1) nm.data.toList with
        | none => rw [hf] at h1; simp at h1
        | some q => rw [hf] at h1; simp only [Prod.mk.injEq] at h1; rw [h1.1]
    have HV := Lib.hid (findR_valid hf)
    have HB0 := Lib.hid hb0; clear hb0
    have HF := Lib.hid hf; clear hf
    go_enter Tryz.func53, Tryz.ntmps53
    go_wp2_with fail
    refine HE.out.mono ?_
    rintro e w1 ⟨rfl, hB⟩
    have HB1 := Lib.hid hB; clear hB
    clear HE
    go_wp2_with fail
    refine (rbegin_any _ _ _ _).mono ?_
    rintro e w3 ⟨⟨sb, mb, rfl, hs3⟩, hB3⟩
    obtain ⟨q0, q1, -, -, hz, -⟩ := box2 w1 _ _ _ hB3
    have HGO := Lib.hid (goes_any HSORT.out sb mb (.slice p l.length cap) l (pa, pb) _ w3 hs3 hB3 (ObjsAt.keep (HB1.out.alloc HB1.out.size _) HO.out) HB0.out HV.out)
    unfold placeV at HGO
    simp only [] at HGO
    have HB2 : Hid (Below w.heap.size w (w1.alloc (.cells #[.int .i64 pa, .int .i64 pb] 63))) := HB1.out.alloc HB1.out.size _
    clear hs3 hB3
    generalize w1.alloc (.cells #[.int .i64 pa, .int .i64 pb] 63) = w2 at HGO HB2
    go_wp2_with fail
    refine HGO.out.mono ?_
    rintro e w4 ⟨rfl, v4, L, F, hs4, hg4, hb4⟩
    clear q0 q1 HGO
    obtain ⟨pv, cv, rfl⟩ := own_shape hs4.row
    have c0 : w4.cell? ⟨sb, 0, none⟩ = some (.slice pv L.length cv) := Lib.cell_of_heap hs4.box 0
    have hL := hg4.len HV.out HB0.out
    have HSC := Lib.hid (HSORT.out _ _ L w4 hs4.row (by omega))
    have HS4 := Lib.hid hs4; clear hs4
    have HG4 := Lib.hid hg4; clear hg4
    have HB4 : Hid (Below w.heap.size w w4) := HB2.out.trans (hb4.mono HB2.out.size)
    have hb24 : w.heap.size ≤ w2.heap.size := HB2.out.size
    clear hb4
    go_wp2_with fail
    refine HSC.out.mono ?_
    rintro e w5 ⟨rfl, K, hperm, hsort, hrow, hkb⟩
    have c1 : w5.cell? ⟨sb, 0, none⟩ = some (.slice pv L.length cv) := hkb.cell HS4.out.lt (fun e => HS4.out.nev e) c0
    clear c0
    have hlen := hperm.length_eq
    have HK : Hid (KeptOf l (pa, pb) K) := Lib.hid (keptOf_sorted HG4.out hperm hsort)
    have HR := Lib.hid (PRow.row hrow (by omega))
    have HB5 : Hid (Below w.heap.size w w5) := HB4.out.trans (hkb.below HB4.out.size (fun k hk e => by have := (HS4.out.row.lt k e).1; omega))
    clear hperm hsort hrow hkb HSC
    have HT := Lib.hid (told18_any (.slice p l.length cap) (.slice pv L.length cv) l K w5 (ObjsAt.keep HB5.out HO.out) HR.out)
    go_wp2_with fail
    refine HT.out.mono ?_
    rintro e w6 ⟨hcase, hB6⟩
    have HB6 : Hid (Below w.heap.size w w6) := HB5.out.trans (hB6.mono HB5.out.size)
    have HR6 := Lib.hid (HR.out.keep placeR_keeps hB6)
    clear hB6
    generalize htr : toldR l K = tr at hcase
    obtain ⟨n, c⟩ := tr
    simp only [] at hcase
    have HTR := Lib.hid htr; clear htr
    by_cases hc : c = 0
    · subst hc
      rw [if_pos rfl] at hcase
      subst hcase
      have HALL := Lib.hid (toldR_all HTR.out)
      go_wp2
      go_ret3
      exact ⟨.inl ⟨_, K, _, ⟨HB0.out, HF.out, HK.out, HALL.out⟩, HR6.out, rfl⟩, HB6.out⟩
    · rw [if_neg hc] at hcase
      subst hcase
      have hcn : (c != 0) = true := by simpa using hc
      have HC := Lib.hid hc; clear hc
      go_wp2
      go_ret3
      exact ⟨.inr ⟨n, c, HC.out, rfl, .inr ⟨by rw [HER.out], _, K, HF.out, HK.out, HTR.out⟩⟩, HB6.out⟩
  · have hcb : (c != 0) = true := by simpa using hc0
    have HC0 := Lib.hid hc0; clear hc0
    go_enter Tryz.func53, Tryz.ntmps53
    go_wp2_with fail
    refine HE.out.mono ?_
    rintro e w1 ⟨rfl, hB⟩
    have HB1 := Lib.hid hB; clear hB
    go_wp2
    go_ret3
    exact ⟨.inr ⟨bn, c, HC0.out, rfl, .inl ⟨by rw [HER.out]; exact HC0.out, by rw [HER.out], by rw [HER.out]⟩⟩, HB1.out.alloc HB1.out.size _⟩
end Go.Proofs.YtdjgkmpjhpnkeaaGreatDoor
namespace Go.Proofs.YtdjgkmpjhpnkeaaGreatDoor
open Go.RowKit
theorem run_append_own_empty {P : Program} {w : World} (base : Nat) (t ty e : TypeId) (i : TypeInfo) (size : Nat) (ht : P.underlying t = some (.slice e)) (hi : P.info? e = some i)
    (v : Value) (n : Nat) (xs : List Value) (hown : w.ownsRow base e size v n xs) (p : Option Addr) (c : Nat) :
    (Builtin.append_ #[t, t] ty #[v, .slice p 0 c]).run P w = .ok v w := by
  rcases hown.2 with ⟨rfl, rfl⟩ | ⟨g, cap, cur, rfl, _, _, hnc, _⟩
  · cases p <;> simp [Builtin.append_, run_underlying ht, sizeOf, typeInfo, hi, Builtin.lenOf, Builtin.firstCells, loadCells, loadCellsFrom]
  · cases p <;> simp [Builtin.append_, run_underlying ht, sizeOf, typeInfo, hi, Builtin.lenOf, Builtin.firstCells, hnc, storeCells, loadCells, loadCellsFrom]
theorem wpList_append_src {P : Program} {w : World} {ops : Array Oper} {rest : List Oper} {o : Oper} {a : Act} {Q : Exit → Act → World → Prop} (hgd : o.guard = none) (s x : Operand) (t : TypeId)
    (ho : o.op = .call { callee := .builtin .append, args := #[s, x], argTypes := #[t, t] })
    (base : Nat) (e : TypeId) (i : TypeInfo) (z : Value) (size bytes : Nat) (ht : P.underlying t = some (.slice e)) (hi : P.info? e = some i) (hz : i.zero = some z)
    (hsize : i.size = size) (hby : i.bytes = bytes) (hzs : z.cells.size = size) (hsz : 0 < size) (v : Value) (n : Nat) (xs : List Value) (hs : a.eval s = v) (hown : w.ownsRow base e size v n xs)
    (p : Option Addr) (m c b off : Nat) (news : List Value) (hx : a.eval x = .slice p m c) (hp : 0 < m → p = some ⟨b, off, none⟩) (hl : news.length = m * size) (hnews : 0 < m → ∀ j u, news[j]? = some u → w.cell? ((⟨b, off, none⟩ : Addr).add j) = some u) (h1 : ∀ u ∈ news, u.oneCell' = true)
    (hm : n + m ≤ maxLen) (hbytes : (n + m) * bytes ≤ 140737488355328) (hbase : base ≤ w.heap.size)
    (h : ∀ v' w', w'.ownsRow base e size v' (n + m) (xs ++ news) → w.grownBy w' v.ownBlock → wpList P ops Q rest (a.put o.dst v') w') : wpList P ops Q (o :: rest) a w := by
  by_cases h0 : m = 0
  · subst h0
    refine wpList_plain hgd fun K hK => ?_
    have hrun := run_append_own_empty (P := P) (w := w) base t o.type e i size ht hi v n xs hown p c
    have hn : news = [] := List.eq_nil_of_length_eq_zero (by rw [hl, Nat.zero_mul])
    subst hn
    unfold Oper.wp
    simp [execOp, ho, resolve, invoke, builtin, hs, hx, hrun, Result.andThen]
    exact hK _ _ (h _ _ (by simpa using hown) (World.grownBy.refl w _))
  · obtain rfl := hp (by omega)
    refine wpList_append_own w hgd s x t ho base e i z size bytes ht hi hz hsize hby hzs hsz v n xs hs hown _ m c news hx hl (hnews (by omega)) h1 hm hbytes hbase ?_
    intro v' w' h2 h3 _
    exact h v' w' h2 h3
end Go.Proofs.YtdjgkmpjhpnkeaaGreatDoor
