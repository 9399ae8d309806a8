/- The walks of reach's entry, told and Kept. The walks of reach's told and All. The walk of reach.All. -/
import Derived.Test.YtnhmbflinbfeoaaDoorWGoes13
import Derived.Test.YtnhmbflinbfeoaaDoorWRefs
import Derived.Test.YtnhmbflinbfeoaaDoorWBeginAny
import Derived.Test.YtnhmbflinbfeoaaDoorWWinners
namespace Go.Proofs.YtnhmbflinbfeoaaDoor
open Go.RowKit Go.Maps
theorem box2 (w : World) (a b : Value) (T : TypeId) {w1 : World} (hB : Below (w.alloc (.cells #[a, b] T)).heap.size (w.alloc (.cells #[a, b] T)) w1) :
    w1.cell? ⟨w.heap.size, 0, none⟩ = some a ∧ w1.cell? ⟨w.heap.size, 1, none⟩ = some b ∧ w1.frozen? ⟨w.heap.size, 0, none⟩ = false ∧ w1.frozen? ⟨w.heap.size, 1, none⟩ = false ∧ w.heap.size < w1.heap.size ∧ Below w.heap.size w w1 := by
  refine ⟨cell_keep hB (by simp) (by simp [go_sem]), cell_keep hB (by simp) (by simp [go_sem]), (hB.frozen (p := ⟨w.heap.size, 0, none⟩) (by simp)).trans (by simp [go_sem]), (hB.frozen (p := ⟨w.heap.size, 1, none⟩) (by simp)).trans (by simp [go_sem]), ?_, (alloc_old w _).trans (hB.mono (by simp))⟩
  have := hB.size; simp at this; omega
/-- the entry's symbol, or why there is none -/
def entryR (l : List GObj) (nm : ByteArray) : PP × ByteArray × Int :=
  if (beginR l).2 ≠ 0 then ((0, 0), (beginR l).1, (beginR l).2) else match findR l (-1) nm.data.toList with | some p => (p, emptyB, 0) | none => ((0, 0), nm, 121)
def EntryPost (l : List GObj) (nm : ByteArray) (w : World) (e : Ending) (w' : World) : Prop :=
  e = .returned (.tuple #[placeV (entryR l nm).1, .string (entryR l nm).2.1, .int .i64 (entryR l nm).2.2]) ∧ Below w.heap.size w w'
theorem findOut {l : List GObj} {n : List UInt8} (hc : (beginR l).2 = 0) : findAll l (-1) n = fndR (findR l (-1) n) := by
  unfold findAll fndR
  rw [hc, if_neg (by simp), if_neg (by omega)]
  cases findR l (-1) n <;> rfl
set_option maxHeartbeats 2000000 in
theorem entry_any (v : Value) (l : List GObj) (nm : ByteArray) (w : World) (h : ObjsAt w v l) (hn : nm.size ≤ 9223372036854775807) :
    Calls Tryd.prog 17 #[.string nm, v] w (EntryPost l nm w) := by
  have HO := Lib.hid h
  have HCK := Lib.hid (resCheck_any v l (w.alloc (.cells #[.int .i64 0, .int .i64 0] 30)) (ObjsAt.keep (alloc_old w _) h))
  obtain ⟨p, cap, bb, o, rfl, -⟩ := h
  by_cases hc : (beginR l).2 = 0
  · have HE : Hid (entryR l nm = match findR l (-1) nm.data.toList with | some p => (p, emptyB, 0) | none => ((0, 0), nm, 121)) := by
      unfold entryR; rw [if_neg (by simpa using hc)]; rfl
    have HFA := Lib.hid (findOut (n := nm.data.toList) hc)
    rw [hc] at HCK
    clear hc
    generalize (beginR l).1 = bn at HCK
    generalize hf : findR l (-1) nm.data.toList = fp at HE HFA
    clear hf
    obtain ⟨pa, pb, c, hfp⟩ : ∃ (pa pb : Nat) (c : Int), fndR fp = ((pa, pb), c) := ⟨_, _, _, rfl⟩
    have HFP := Lib.hid hfp; clear hfp
    have HF : Hid (∀ W, Below w.heap.size w W → Calls Tryd.prog 8 #[.slice p l.length cap, .int .i64 (-1), .string nm] W fun e w' => e = .returned (.tuple #[.agg #[.int .i64 pa, .int .i64 pb], .int .i64 c]) ∧ Below W.heap.size W w') := fun W hW => by
      have := resFind_any (.slice p l.length cap) l (-1) nm W (ObjsAt.keep hW HO.out) hn
      rw [HFA.out, HFP.out] at this
      exact this
    go_enter Tryd.func17, Tryd.ntmps17
    go_wp2_with fail
    refine HCK.out.mono ?_
    rintro e w1 ⟨rfl, hB⟩
    obtain ⟨q0, q1, r0, r1, hz, hb1⟩ := box2 w _ _ _ hB
    have HB1 := Lib.hid hb1; clear hb1
    clear hB HCK
    go_wp2_with fail
    refine (HF.out w1 HB1.out).mono ?_
    rintro e w2 ⟨rfl, hB2⟩
    replace q0 := cell_keep hB2 hz q0
    replace q1 := cell_keep hB2 hz q1
    replace r0 := (hB2.frozen (p := ⟨w.heap.size, 0, none⟩) hz).trans r0
    replace r1 := (hB2.frozen (p := ⟨w.heap.size, 1, none⟩) hz).trans r1
    have hz2 : w.heap.size < w2.heap.size := by have := hB2.size; omega
    have HB2 : Hid (Below w.heap.size w w2) := HB1.out.trans (hB2.mono HB1.out.size)
    clear hB2 HB1 hz
    by_cases hc0 : c = 0
    · subst hc0
      have HE2 : Hid (entryR l nm = ((pa, pb), emptyB, 0)) := by
        have h1 := HE.out; have h2 := HFP.out
        cases fp with
        | none => simp [fndR] at h2
        | some pq => simp only [fndR, Prod.mk.injEq, and_true] at h2; rw [h1, ← h2]; rfl
      go_wp2_with fail
      refine bodyPost_ret (v := .tuple #[.agg #[.int .i64 pa, .int .i64 pb], .string ⟨#[]⟩, .int .i64 0]) (by simp [results, Tryd.results17, go_sem, q0, q1, hz2]) rfl ⟨by rw [HE2.out]; rfl, ?_⟩
      exact ((HB2.out.setCell (by simp) _).setCell (by simp) _).alloc (by simp; omega) _
    · have hcb : (c != 0) = true := by simpa using hc0
      have HE2 : Hid (entryR l nm = ((pa, pb), nm, c)) := by
        have h1 := HE.out; have h2 := HFP.out
        cases fp with
        | none => simp only [fndR, Prod.mk.injEq] at h2; rw [h1, ← h2.1.1, ← h2.1.2, ← h2.2]; rfl
        | some pq => simp only [fndR, Prod.mk.injEq] at h2; exact absurd h2.2.symm hc0
      clear hc0
      go_wp2_with fail
      refine bodyPost_ret (v := .tuple #[.agg #[.int .i64 pa, .int .i64 pb], .string nm, .int .i64 c]) (by simp [results, Tryd.results17, go_sem, q0, q1, hz2]) rfl ⟨by rw [HE2.out]; rfl, ?_⟩
      exact ((HB2.out.setCell (by simp) _).setCell (by simp) _).alloc (by simp; omega) _
  · have HE : Hid (entryR l nm = ((0, 0), (beginR l).1, (beginR l).2)) := by unfold entryR; rw [if_pos hc]; rfl
    have hcb : ((beginR l).2 != 0) = true := by simpa using hc
    clear hc
    generalize (beginR l).1 = bn at *
    generalize (beginR l).2 = bc at *
    go_enter Tryd.func17, Tryd.ntmps17
    go_wp2_with fail
    refine HCK.out.mono ?_
    rintro e w1 ⟨rfl, hB⟩
    obtain ⟨q0, q1, r0, r1, hz, hb1⟩ := box2 w _ _ _ hB
    go_wp2_with fail
    refine bodyPost_ret (v := .tuple #[.agg #[.int .i64 0, .int .i64 0], .string bn, .int .i64 bc]) (by simp [results, Tryd.results17, go_sem, q0, q1]) rfl ⟨by rw [HE.out]; rfl, ?_⟩
    exact (hb1.setCell (by simp) _).setCell (by simp) _
end Go.Proofs.YtnhmbflinbfeoaaDoor
namespace Go.Proofs.YtnhmbflinbfeoaaDoor
open Go.RowKit Go.Maps
def refsC (l : List GObj) (x : PP) : Int := (refsV (beginR l) l x.1 x.2).2.2
def ToldPost (l : List GObj) (pv : Value) (ks : List PP) (w : World) (e : Ending) (w' : World) : Prop :=
  ((e = .returned (.tuple #[pv, .string ⟨#[]⟩, .int .i64 0]) ∧ ∀ x ∈ ks, refsC l x = 0) ∨ (∃ n c, c ≠ 0 ∧ e = .returned (.tuple #[.slice none 0 0, .string n, .int .i64 c]) ∧ ∃ x ∈ ks, refsC l x ≠ 0)) ∧ Below w.heap.size w w'
set_option maxRecDepth 100000 in
set_option maxHeartbeats 2000000 in
theorem rtold_any (v pv : Value) (l : List GObj) (ks : List PP) (w : World) (h : ObjsAt w v l) (hk : RowAt 2 PlaceR w pv ks) :
    Calls Tryd.prog 22 #[v, pv] w (ToldPost l pv ks w) := by
  have HO := Lib.hid h
  obtain ⟨p, cap, bb, o, rfl, -⟩ := h
  obtain ⟨pk, ck, bk, ok, rfl, hck, hmk, hpk, hrk⟩ := hk
  have HPK := Lib.hid hpk; clear hpk
  have HRK := Lib.hid hrk; clear hrk
  go_enter Tryd.func22, Tryd.ntmps22
  go_wp2
  go_loopw [14] (fun v14 wr => ∃ k : Nat, k ≤ ks.length ∧ v14 = .int .i64 k ∧ (∀ i (h : i < ks.length), i < k → refsC l ks[i] = 0) ∧ Below w.heap.size w wr) (fun v14 _ => ks.length - (intOf v14).toNat)
  case atStart => exact ⟨0, Nat.zero_le _, rfl, fun i _ h0 => by omega, Below.refl _ _⟩
  case round =>
    obtain ⟨k, hk, rfl, hall, hbel⟩ := hrel
    have HA := Lib.hid hall; clear hall
    have HB := Lib.hid hbel; clear hbel
    by_cases hlt : k < ks.length
    · obtain rfl := HPK.out (by omega)
      obtain ⟨-, y0, y1⟩ := placeR_keeps _ _ _ _ _ HB.out (HRK.out k hlt)
      have HRF := Lib.hid (fun (W : World) (hW : Below wr.heap.size wr W) => refs_any (.slice p l.length cap) l ks[k].1 ks[k].2 W (ObjsAt.keep (HB.out.trans (hW.mono HB.out.size)) HO.out))
      have HC : Hid ((refsV (beginR l) l ks[k].1 ks[k].2).2.2 = refsC l ks[k]) := Lib.hid rfl
      have hkm : ks[k] ∈ ks := List.getElem_mem hlt
      have HKE : Hid (∀ i (h : i < ks.length), i = k → ks[i] = ks[k]) := Lib.hid fun i hi e => by subst e; rfl
      have HKM := Lib.hid hkm; clear hkm
      generalize (refsV (beginR l) l ks[k].1 ks[k].2).2.2 = c at HRF HC
      generalize (refsV (beginR l) l ks[k].1 ks[k].2).2.1 = bn at HRF
      generalize (refsV (beginR l) l ks[k].1 ks[k].2).1 = qs at HRF
      generalize ks[k] = y at *
      obtain ⟨y1', y2'⟩ := y
      simp only [] at y0 y1 HRF
      have d2 : (0 : Int) ≤ (k : Int) := by omega
      go_wp2_with fail
      refine (HRF.out _ ?_).mono ?_
      · exact alloc_old _ _
      rintro e w1 ⟨vo, rfl, -, hB1⟩
      have HB1 : Hid (Below w.heap.size w w1) := HB.out.trans (((alloc_old wr _).trans (hB1.mono (by simp))).mono HB.out.size)
      clear hB1
      by_cases hc0 : c = 0
      · subst hc0
        go_wp2
        go_roundw
        case rel => exact ⟨k + 1, by omega, by go_num, fun i hi hik => by
          by_cases h1 : i < k
          · exact HA.out i hi h1
          · rw [HKE.out i hi (by omega), ← HC.out], HB1.out⟩
        case measure => simp [intOf]; omega
      · have hcb : (c != 0) = true := by simpa using hc0
        have HC0 := Lib.hid hc0; clear hc0
        go_wp2
        go_ret3
        exact ⟨.inr ⟨bn, c, HC0.out, rfl, _, HKM.out, by rw [← HC.out]; exact HC0.out⟩, HB1.out⟩
    · go_wp2
      go_ret3
      exact ⟨.inl ⟨rfl, fun x hx => by
        obtain ⟨i, hi, rfl⟩ := List.mem_iff_getElem.1 hx
        exact HA.out i hi (by omega)⟩, HB.out⟩
end Go.Proofs.YtnhmbflinbfeoaaDoor
namespace Go.Proofs.YtnhmbflinbfeoaaDoor
open Go.RowKit Go.Maps
def allK (l : List GObj) : List PP := selPlaces (flat l) (flat l)
def AllPost13 (l : List GObj) (nm : ByteArray) (w : World) (e : Ending) (w' : World) : Prop :=
  ((∃ vo, (entryR l nm).2.2 = 0 ∧ (∀ x ∈ allK l, refsC l x = 0) ∧ RowAt 2 PlaceR w' vo (allK l) ∧ e = .returned (.tuple #[vo, .string ⟨#[]⟩, .int .i64 0])) ∨ (∃ n c, c ≠ 0 ∧ e = .returned (.tuple #[.slice none 0 0, .string n, .int .i64 c]) ∧ ((entryR l nm).2.2 ≠ 0 ∨ ∃ x ∈ allK l, refsC l x ≠ 0))) ∧ Below w.heap.size w w'
set_option maxRecDepth 100000 in
set_option maxHeartbeats 4000000 in
theorem all13_any (v : Value) (l : List GObj) (nm : ByteArray) (w : World) (h : ObjsAt w v l) (hn : nm.size ≤ 9223372036854775807) :
    Calls Tryd.prog 16 #[.string nm, v] w (AllPost13 l nm w) := by
  have HO := Lib.hid h
  have HE := Lib.hid (entry_any v l nm w h hn)
  obtain ⟨p, cap, bb, o, rfl, -⟩ := h
  unfold EntryPost placeV at HE
  obtain ⟨⟨pa, pb⟩, bn, c, her⟩ : ∃ (pq : PP) (bn : ByteArray) (c : Int), entryR l nm = (pq, bn, c) := ⟨_, _, _, rfl⟩
  rw [her] at HE
  simp only [] at HE
  have HER := Lib.hid her; clear her
  by_cases hc0 : c = 0
  · subst hc0
    have hb0 : (beginR l).2 = 0 := by
      have h1 := HER.out
      unfold entryR at h1
      by_cases hb : (beginR l).2 ≠ 0
      · rw [if_pos hb] at h1; simp only [Prod.mk.injEq] at h1; exact absurd h1.2.2 hb
      · simpa using hb
    have HB0 := Lib.hid hb0; clear hb0
    go_enter Tryd.func16, Tryd.ntmps16
    go_wp2_with fail
    refine HE.out.mono ?_
    rintro e w1 ⟨rfl, hB⟩
    have HB2 : Hid (Below w.heap.size w (w1.alloc (.cells #[.int .i64 pa, .int .i64 pb] 30))) := hB.alloc hB.size _
    clear HE hB
    have HW := Lib.hid (winners_any (.slice p l.length cap) l _ (ObjsAt.keep HB2.out HO.out))
    rw [HB0.out, if_pos rfl] at HW
    go_wp2_with fail
    refine HW.out.mono ?_
    rintro e w3 ⟨vo, rfl, hrow, hB3⟩
    have HR := Lib.hid hrow
    obtain ⟨pv, cv, bv, ov, rfl, -⟩ := hrow
    have HB3 : Hid (Below w.heap.size w w3) := HB2.out.trans (hB3.mono HB2.out.size)
    clear hB3
    have HT := Lib.hid (rtold_any (.slice p l.length cap) _ l _ w3 (ObjsAt.keep HB3.out HO.out) HR.out)
    have HEQ : Hid (selPlaces (flat l) (flat l) = allK l) := Lib.hid rfl
    rw [HEQ.out] at HR HT
    rw [HEQ.out]
    clear HEQ
    go_wp2_with fail
    refine HT.out.mono ?_
    rintro e w6 ⟨hcase, hB6⟩
    have HB6 : Hid (Below w.heap.size w w6) := HB3.out.trans (hB6.mono HB3.out.size)
    have HR6 := Lib.hid (HR.out.keep placeR_keeps hB6)
    clear hB6
    rcases hcase with ⟨rfl, hall⟩ | ⟨n, c, hc, rfl, x, hx, hxc⟩
    · have HALL := Lib.hid hall; clear hall
      go_wp2
      go_ret3
      exact ⟨.inl ⟨_, by rw [HER.out], HALL.out, HR6.out, rfl⟩, HB6.out⟩
    · have HX := Lib.hid (And.intro hc (And.intro hx hxc)); clear hc hx hxc
      go_wp2
      go_ret3
      exact ⟨.inr ⟨n, c, HX.out.1, rfl, .inr ⟨x, HX.out.2.1, HX.out.2.2⟩⟩, HB6.out⟩
  · have hcb : (c != 0) = true := by simpa using hc0
    have HC0 := Lib.hid hc0; clear hc0
    go_enter Tryd.func16, Tryd.ntmps16
    go_wp2_with fail
    refine HE.out.mono ?_
    rintro e w1 ⟨rfl, hB⟩
    have HB1 := Lib.hid hB; clear hB
    go_wp2
    go_ret3
    exact ⟨.inr ⟨bn, c, HC0.out, rfl, .inl (by rw [HER.out]; exact HC0.out)⟩, HB1.out.alloc HB1.out.size _⟩
end Go.Proofs.YtnhmbflinbfeoaaDoor
