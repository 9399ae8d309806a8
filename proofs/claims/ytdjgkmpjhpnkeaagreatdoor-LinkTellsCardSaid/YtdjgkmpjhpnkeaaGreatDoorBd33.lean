/- The walks of aediculeref13's sorted, begin, told, Kept and All. -/
import Derived.Test.YtdjgkmpjhpnkeaaGreatDoorBd26
import Derived.Test.YtdjgkmpjhpnkeaaGreatDoorBd27
import Derived.Test.YtdjgkmpjhpnkeaaGreatDoorBd32
import Derived.Test.YtdjgkmpjhpnkeaaGreatDoorBd22
namespace Go.Proofs.YtdjgkmpjhpnkeaaGreatDoor
open Go.RowKit Go.Maps Go.WideMaps
def sortP (L : List PP) (pre : List Spot) : List PP := (pre.filter (keptS L)).map fun x => (x.obj, x.sym)
theorem sortP_yes {L : List PP} {pre : List Spot} {x : Spot} (h : (x.obj, x.sym) ∈ L) : sortP L (pre ++ [x]) = sortP L pre ++ [(x.obj, x.sym)] := by simp [sortP, keptS, h]
theorem sortP_no {L : List PP} {pre : List Spot} {x : Spot} (h : ¬ (x.obj, x.sym) ∈ L) : sortP L (pre ++ [x]) = sortP L pre := by simp [sortP, keptS, h]
theorem sortP_le (L : List PP) (pre : List Spot) : (sortP L pre).length ≤ pre.length := by
  unfold sortP
  rw [List.length_map]
  exact List.length_filter_le _ _
theorem sortP_kept {l : List GObj} {p : PP} {L : List PP} (hp : validP l p) (h : ∀ x, x ∈ L ↔ Reach l p x) : KeptOf l p (sortP L (flat l)) := by
  constructor
  · unfold sortP
    rw [List.pairwise_map]
    refine (List.Pairwise.filter _ (objsFrom_sorted 0 l)).imp fun {a b} hab => ?_
    exact hab
  · intro x
    rw [← h x]
    unfold sortP
    rw [List.mem_map]
    constructor
    · rintro ⟨y, hy, rfl⟩
      have := (List.mem_filter.1 hy).2
      simpa [keptS] using this
    · intro hx
      obtain ⟨o, s, h1, h2⟩ := ((h x).1 hx).valid hp
      exact ⟨⟨x.1, x.2, s⟩, List.mem_filter.2 ⟨mem_flat h1 h2, by simpa [keptS] using hx⟩, rfl⟩
set_option maxRecDepth 100000 in
set_option maxHeartbeats 4000000 in
theorem sorted13_any (v pv : Value) (l : List GObj) (L : List PP) (w : World) (h : ObjsAt w v l) (hk : RowAt 2 PlaceR w pv L) (hm : mayAll l = true) :
    Calls Tryz.prog 141 #[v, pv] w fun e w' => ∃ vo, e = .returned vo ∧ RowAt 2 PlaceR w' vo (sortP L (flat l)) ∧ Below w.heap.size w w' := by
  have hfl2 := flat_length_le hm
  clear hm
  have HO := Lib.hid h
  have HHA := Lib.hid (fun (W : World) (a b : Nat) (hW : Below w.heap.size w W) => pHas13_any pv L a b W (hk.keep placeR_keeps hW))
  obtain ⟨pL, cL, _, _, rfl, -⟩ := hk
  obtain ⟨p, cap, b, o, rfl, hcap, hmax, hp, hc⟩ := h
  have HC := Lib.hid hc; clear hc
  have HP := Lib.hid hp; clear hp
  obtain ⟨i0, hin0, hz0, hz1, hz2⟩ := info_parts info_place
  have HI := Lib.hid (And.intro hin0 (And.intro hz0 (And.intro hz1 hz2)))
  clear hin0 hz0 hz1 hz2
  go_enter Tryz.func141, Tryz.ntmps141
  go_wp2
  go_loopw [5, 6] (fun v5 v6 wr => ∃ (i : Nat) (pre : List Spot), i ≤ l.length ∧ v6 = .int .i64 i ∧ pre ++ objsFrom i (l.drop i) = flat l ∧ PRow w.heap.size wr v5 (sortP L pre) ∧ Below w.heap.size w wr) (fun _ v6 _ => l.length - (intOf v6).toNat)
  case atStart => exact ⟨0, [], Nat.zero_le _, rfl, rfl, PRow.nil _ _, Below.refl _ _⟩
  case round =>
    obtain ⟨i, pre, hi, rfl, hcat, hown, hbel⟩ := hrel
    have HCAT := Lib.hid hcat; clear hcat
    have HOWN := Lib.hid hown; clear hown
    have HBW := Lib.hid hbel; clear hbel
    by_cases hlt : i < l.length
    · obtain rfl := HP.out (by omega)
      obtain ⟨vs, g0, g1, g2, hin⟩ := HC.out i hlt
      have G2 := Lib.hid g2
      have hcat := HCAT.out
      rw [objsFrom_drop hlt] at hcat
      generalize hx : l[i] = x at g1 hin hcat
      obtain ⟨xn, xs⟩ := x
      simp only [] at g1 hin hcat
      obtain ⟨⟨pS, capS, bS, oS, rfl, hcapS, hmaxS, hpS, hcS⟩, hnmx⟩ := hin
      clear HCAT hx g1 g2 hpS hcS
      have HCAT := Lib.hid hcat; clear hcat
      go_wp2
      obtain ⟨wo, rfl⟩ : ∃ wo : World, wo = wr := ⟨_, rfl⟩
      go_loopw [5, 7] (fun v5 v7 wr => ∃ (k : Nat) (pre : List Spot), k ≤ xs.length ∧ v7 = .int .i64 k ∧ pre ++ (symsFrom i k (xs.drop k) ++ objsFrom (i + 1) (l.drop (i + 1))) = flat l ∧ PRow w.heap.size wr v5 (sortP L pre) ∧ Below w.heap.size w wr) (fun _ v7 _ => xs.length - (intOf v7).toNat)
      case atStart => exact ⟨0, pre, Nat.zero_le _, rfl, HCAT.out, HOWN.out, HBW.out⟩
      case round =>
        clear HCAT HBW HOWN
        obtain ⟨k, pre, hk, rfl, hcat, hown, hbel⟩ := hrel
        have HCAT := Lib.hid hcat; clear hcat
        have HBW := Lib.hid hbel; clear hbel
        have HPR := Lib.hid hown; clear hown
        have g2 := cell_keep HBW.out g0 G2.out
        have g0' := size_keep HBW.out g0
        by_cases hks : k < xs.length
        · have HST := Lib.hid (cat_step hks rfl HCAT.out)
          generalize xs[k] = y at HST
          have hplen : pre.length < 1024 := by
            have h1 := hfl2
            rw [← HCAT.out, List.length_append, List.length_append, symsFrom_length, List.length_drop] at h1
            omega
          have hsl := sortP_le L pre
          have HHX := Lib.hid (HHA.out wr i k HBW.out)
          have HSY : Hid ((i, k) ∈ L → sortP L (pre ++ [⟨i, k, y⟩]) = sortP L pre ++ [(i, k)]) := fun h => sortP_yes h
          have HSN : Hid (¬ (i, k) ∈ L → sortP L (pre ++ [⟨i, k, y⟩]) = sortP L pre) := fun h => sortP_no h
          by_cases hm : (i, k) ∈ L
          · rw [decide_eq_true hm] at HHX
            have HSEL := Lib.hid (HSY.out hm)
            clear hm HSY HSN
            go_wp2_with fail
            refine HHX.out.mono ?_
            rintro e w2 ⟨rfl, hB2⟩
            have HBX := Lib.hid hB2; clear hB2
            go_wp2_with (at_builtin; refine wpList_append_own _ rfl _ _ 22 rfl w.heap.size 63 i0 (.agg #[.int .i64 0, .int .i64 0]) 2 16 Tryz.underlying22 HI.out.1 HI.out.2.1 HI.out.2.2.1 HI.out.2.2.2 rfl (by decide) _ (sortP L pre).length (placeCells (sortP L pre)) rfl ?c0 _ 1 1 [.int .i64 i, .int .i64 k] rfl rfl ?c1 two_one ?c3 ?c4 ?c5 ?_)
            case c0 => exact PRow.keep (HBX.out.alloc HBX.out.size _) HPR.out
            case c1 => exact two_news (by simp [go_sem]) (by simp [go_sem])
            case c3 => unfold maxLen; omega
            case c4 => omega
            case c5 => have := HBW.out.size; have := HBX.out.size; simp; omega
            intro v3 w3 hown3 hgrow3 _
            have HOW3 := Lib.hid (PRow.snoc hown3); clear hown3
            have HBY := Lib.hid (HBW.out.trans (HBX.out.mono HBW.out.size))
            have HB3 : Hid (Below w.heap.size w w3) := (HBY.out.alloc HBY.out.size _).grown hgrow3 (by have := HBY.out.size; simp; omega) (fun q e => (World.ownsRow.lt HPR.out q e).1)
            clear hgrow3
            go_wp2
            go_roundw
            case rel => exact ⟨k + 1, _, by omega, by go_num, HST.out, HSEL.out ▸ HOW3.out, HB3.out⟩
            case measure => simp [intOf]; omega
          · rw [decide_eq_false hm] at HHX
            have HSEL := Lib.hid (HSN.out hm)
            clear hm HSY HSN
            go_wp2_with fail
            refine HHX.out.mono ?_
            rintro e w2 ⟨rfl, hB2⟩
            have HBX := Lib.hid hB2; clear hB2
            go_wp2
            go_roundw
            case rel => exact ⟨k + 1, _, by omega, by go_num, HST.out, HSEL.out.symm ▸ PRow.keep HBX.out HPR.out, HBW.out.trans (HBX.out.mono HBW.out.size)⟩
            case measure => simp [intOf]; omega
        · have hcat := HCAT.out
          rw [List.drop_of_length_le (by omega)] at hcat
          have HCT := Lib.hid (show pre ++ objsFrom (i + 1) (l.drop (i + 1)) = flat l by simpa [symsFrom] using hcat)
          clear hcat
          go_wp2
          go_roundw
          case rel => exact ⟨i + 1, pre, by omega, by go_num, HCT.out, HPR.out, HBW.out⟩
          case measure => simp [intOf]; omega
    · have hcat := HCAT.out
      rw [List.drop_of_length_le (by omega)] at hcat
      have HCT := Lib.hid (show pre = flat l by simpa [objsFrom] using hcat)
      clear hcat
      have hrow := HOWN.out
      rw [HCT.out] at hrow
      have hsl := sortP_le L (flat l)
      have HRW := Lib.hid (PRow.row hrow (by omega))
      clear hrow
      go_wp2
      go_ret
      exact ⟨_, rfl, HRW.out, HBW.out⟩
set_option maxHeartbeats 2000000 in
theorem begin13_any (v : Value) (l : List GObj) (nm : ByteArray) (w : World) (h : ObjsAt w v l) (hs : SameR l) :
    Calls Tryz.prog 134 #[.string nm, v] w (EntryPost l nm w) := by
  have HO := Lib.hid h
  have HS := Lib.hid hs; clear hs
  have HCK := Lib.hid (refCheck_any v l (w.alloc (.cells #[.int .i64 0, .int .i64 0] 63)) (ObjsAt.keep (alloc_old w _) h))
  rw [HS.out.beg] at HCK
  obtain ⟨p, cap, bb, o, rfl, -⟩ := h
  by_cases hc : (beginR l).2 = 0
  · have HE : Hid (entryR l nm = match findR l (-1) nm.data.toList with | some p => (p, emptyB, 0) | none => ((0, 0), nm, 121)) := by
      unfold entryR; rw [if_neg (by simpa using hc)]; rfl
    have HFA := Lib.hid (findOut (n := nm.data.toList) hc)
    rw [hc] at HCK
    clear hc
    generalize (beginR l).1 = bn at HCK
    generalize hf : findR l (-1) nm.data.toList = fp at HE HFA
    clear hf
    obtain ⟨pa, pb, c, hfp⟩ : ∃ (pa pb : Nat) (c : Int), fndR fp = ((pa, pb), c) := ⟨_, _, _, rfl⟩
    have HFP := Lib.hid hfp; clear hfp
    have HF : Hid (∀ W, Below w.heap.size w W → Calls Tryz.prog 62 #[.slice p l.length cap, .int .i64 (-1), .string nm] W fun e w' => e = .returned (.tuple #[.agg #[.int .i64 pa, .int .i64 pb], .int .i64 c]) ∧ Below W.heap.size W w') := fun W hW => by
      have := refFind_any (.slice p l.length cap) l (-1) nm W (ObjsAt.keep hW HO.out)
      rw [HS.out.find, HFA.out, HFP.out] at this
      exact this
    go_enter Tryz.func134, Tryz.ntmps134
    go_wp2_with fail
    refine HCK.out.mono ?_
    rintro e w1 ⟨rfl, hB⟩
    obtain ⟨q0, q1, r0, r1, hz, hb1⟩ := box2 w _ _ _ hB
    have HB1 := Lib.hid hb1; clear hb1
    clear hB HCK
    go_wp2_with fail
    refine (HF.out w1 HB1.out).mono ?_
    rintro e w2 ⟨rfl, hB2⟩
    replace q0 := cell_keep hB2 hz q0
    replace q1 := cell_keep hB2 hz q1
    replace r0 := (hB2.frozen (p := ⟨w.heap.size, 0, none⟩) hz).trans r0
    replace r1 := (hB2.frozen (p := ⟨w.heap.size, 1, none⟩) hz).trans r1
    have hz2 : w.heap.size < w2.heap.size := by have := hB2.size; omega
    have HB2 : Hid (Below w.heap.size w w2) := HB1.out.trans (hB2.mono HB1.out.size)
    clear hB2 HB1 hz
    by_cases hc0 : c = 0
    · subst hc0
      have HE2 : Hid (entryR l nm = ((pa, pb), emptyB, 0)) := by
        have h1 := HE.out; have h2 := HFP.out
        cases fp with
        | none => simp [fndR] at h2
        | some pq => simp only [fndR, Prod.mk.injEq, and_true] at h2; rw [h1, ← h2]; rfl
      go_wp2_with fail
      refine bodyPost_ret (v := .tuple #[.agg #[.int .i64 pa, .int .i64 pb], .string ⟨#[]⟩, .int .i64 0]) (by simp [results, Tryz.results134, go_sem, q0, q1, hz2]) rfl ⟨by rw [HE2.out]; rfl, ?_⟩
      exact ((HB2.out.setCell (by simp) _).setCell (by simp) _).alloc (by simp; omega) _
    · have hcb : (c != 0) = true := by simpa using hc0
      obtain ⟨rfl, rfl⟩ : pa = 0 ∧ pb = 0 := by
        have h2 := HFP.out
        cases fp with
        | none => simp only [fndR, Prod.mk.injEq] at h2; exact ⟨h2.1.1.symm, h2.1.2.symm⟩
        | some pq => simp only [fndR, Prod.mk.injEq] at h2; exact absurd h2.2.symm hc0
      have HE2 : Hid (entryR l nm = ((0, 0), nm, c)) := by
        have h1 := HE.out; have h2 := HFP.out
        cases fp with
        | none => simp only [fndR, Prod.mk.injEq] at h2; rw [h1, ← h2.2]; rfl
        | some pq => simp only [fndR, Prod.mk.injEq] at h2; exact absurd h2.2.symm hc0
      clear hc0
      go_wp2_with fail
      refine bodyPost_ret (v := .tuple #[.agg #[.int .i64 0, .int .i64 0], .string nm, .int .i64 c]) (by simp [results, Tryz.results134, go_sem, q0, q1, hz2]) rfl ⟨by rw [HE2.out]; rfl, ?_⟩
      exact ((HB2.out.setCell (by simp) _).setCell (by simp) _).alloc (by simp; omega) _
  · have HE : Hid (entryR l nm = ((0, 0), (beginR l).1, (beginR l).2)) := by unfold entryR; rw [if_pos hc]; rfl
    have hcb : ((beginR l).2 != 0) = true := by simpa using hc
    clear hc
    generalize (beginR l).1 = bn at *
    generalize (beginR l).2 = bc at *
    go_enter Tryz.func134, Tryz.ntmps134
    go_wp2_with fail
    refine HCK.out.mono ?_
    rintro e w1 ⟨rfl, hB⟩
    obtain ⟨q0, q1, r0, r1, hz, hb1⟩ := box2 w _ _ _ hB
    go_wp2_with fail
    refine bodyPost_ret (v := .tuple #[.agg #[.int .i64 0, .int .i64 0], .string bn, .int .i64 bc]) (by simp [results, Tryz.results134, go_sem, q0, q1]) rfl ⟨by rw [HE.out]; rfl, ?_⟩
    exact (hb1.setCell (by simp) _).setCell (by simp) _
set_option maxRecDepth 100000 in
set_option maxHeartbeats 2000000 in
theorem told13_any (v pv : Value) (l : List GObj) (ks : List PP) (w : World) (h : ObjsAt w v l) (hk : RowAt 2 PlaceR w pv ks) (hs : SameR l) :
    Calls Tryz.prog 136 #[v, pv] w (Told18Post l pv ks w) := by
  have HO := Lib.hid h
  have HS := Lib.hid hs; clear hs
  obtain ⟨p, cap, bb, o, rfl, -⟩ := h
  obtain ⟨pk, ck, bk, ok, rfl, hck, hmk, hpk, hrk⟩ := hk
  have HPK := Lib.hid hpk; clear hpk
  have HRK := Lib.hid hrk; clear hrk
  go_enter Tryz.func136, Tryz.ntmps136
  go_wp2
  go_loopw [7] (fun v7 wr => ∃ k : Nat, k ≤ ks.length ∧ v7 = .int .i64 k ∧ toldR l (ks.drop k) = toldR l ks ∧ Below w.heap.size w wr) (fun v7 _ => ks.length - (intOf v7).toNat)
  case atStart => exact ⟨0, Nat.zero_le _, rfl, rfl, Below.refl _ _⟩
  case round =>
    obtain ⟨k, hk, rfl, hall, hbel⟩ := hrel
    have HA := Lib.hid hall; clear hall
    have HB := Lib.hid hbel; clear hbel
    by_cases hlt : k < ks.length
    · obtain rfl := HPK.out (by omega)
      obtain ⟨-, y0, y1⟩ := placeR_keeps _ _ _ _ _ HB.out (HRK.out k hlt)
      have HRF := Lib.hid (refRefs_any (.slice p l.length cap) l ks[k].1 ks[k].2 wr (ObjsAt.keep HB.out HO.out))
      rw [HS.out.beg] at HRF
      have HC : Hid (toldR l (ks.drop k) = if (refsV (beginR l) l ks[k].1 ks[k].2).2.2 = 0 then toldR l (ks.drop (k + 1)) else ((refsV (beginR l) l ks[k].1 ks[k].2).2.1, (refsV (beginR l) l ks[k].1 ks[k].2).2.2)) := toldR_step hlt
      generalize (refsV (beginR l) l ks[k].1 ks[k].2).2.2 = c at HRF HC
      generalize (refsV (beginR l) l ks[k].1 ks[k].2).2.1 = bn at HRF HC
      generalize (refsV (beginR l) l ks[k].1 ks[k].2).1 = qs at HRF
      generalize ks[k] = y at *
      obtain ⟨y1', y2'⟩ := y
      simp only [] at y0 y1 HRF
      have d2 : (0 : Int) ≤ (k : Int) := by omega
      go_wp2_with fail
      refine HRF.out.mono ?_
      rintro e w1 ⟨vo, rfl, -, hB1⟩
      have HB1 : Hid (Below w.heap.size w w1) := HB.out.trans (hB1.mono HB.out.size)
      clear hB1
      by_cases hc0 : c = 0
      · subst hc0
        go_wp2
        go_roundw
        case rel => exact ⟨k + 1, by omega, by go_num, by rw [← HA.out, HC.out]; simp, HB1.out⟩
        case measure => simp [intOf]; omega
      · have hcb : (c != 0) = true := by simpa using hc0
        have HC0 := Lib.hid hc0; clear hc0
        go_wp2
        go_ret3
        have HE : Hid (toldR l ks = (bn, c)) := by rw [Hid, ← HA.out, HC.out, if_neg HC0.out]
        refine ⟨?_, HB1.out⟩
        rw [HE.out, if_neg HC0.out]
        rfl
    · go_wp2
      go_ret3
      have HE : Hid (toldR l ks = (emptyB, 0)) := by rw [Hid, ← HA.out, List.drop_of_length_le (by omega)]; rfl
      refine ⟨?_, HB.out⟩
      rw [HE.out, if_pos rfl]
      rfl
set_option maxRecDepth 100000 in
set_option maxHeartbeats 4000000 in
theorem rAll13_any (v : Value) (l : List GObj) (nm : ByteArray) (w : World) (h : ObjsAt w v l) (hs : SameR l) :
    Calls Tryz.prog 52 #[.string nm, v] w (AllPost18 l nm w) := by
  have HO := Lib.hid h
  have HS := Lib.hid hs
  have HE := Lib.hid (begin13_any v l nm w h hs)
  clear hs
  obtain ⟨p, cap, bb, o, rfl, -⟩ := h
  unfold EntryPost placeV at HE
  obtain ⟨⟨pa, pb⟩, bn, c, her⟩ : ∃ (pq : PP) (bn : ByteArray) (c : Int), entryR l nm = (pq, bn, c) := ⟨_, _, _, rfl⟩
  rw [her] at HE
  simp only [] at HE
  have HER := Lib.hid her; clear her
  by_cases hc0 : c = 0
  · subst hc0
    have hb0 : (beginR l).2 = 0 := by
      have h1 := HER.out
      unfold entryR at h1
      by_cases hb : (beginR l).2 ≠ 0
      · rw [if_pos hb] at h1; simp only [Prod.mk.injEq] at h1; exact absurd h1.2.2 hb
      · simpa using hb
    have HB0 := Lib.hid hb0; clear hb0
    go_enter Tryz.func52, Tryz.ntmps52
    go_wp2_with fail
    refine HE.out.mono ?_
    rintro e w1 ⟨rfl, hB⟩
    have HB2 : Hid (Below w.heap.size w (w1.alloc (.cells #[.int .i64 pa, .int .i64 pb] 63))) := hB.alloc hB.size _
    clear HE hB
    have HW := Lib.hid (refWinners_any (.slice p l.length cap) l _ (ObjsAt.keep HB2.out HO.out) (fun _ => flat_length_le (beginR_zero HB0.out).1))
    rw [HS.out.beg, HB0.out, if_pos rfl] at HW
    go_wp2_with fail
    refine HW.out.mono ?_
    rintro e w3 ⟨vo, rfl, hrow, hB3⟩
    have HR := Lib.hid hrow
    obtain ⟨pv, cv, bv, ov, rfl, -⟩ := hrow
    have HB3 : Hid (Below w.heap.size w w3) := HB2.out.trans (hB3.mono HB2.out.size)
    clear hB3
    have HT := Lib.hid (told13_any (.slice p l.length cap) _ l _ w3 (ObjsAt.keep HB3.out HO.out) HR.out HS.out)
    have HEQ : Hid (selPlaces (flat l) (flat l) = allK l) := Lib.hid rfl
    rw [HEQ.out] at HR HT
    rw [HEQ.out]
    clear HEQ
    go_wp2_with fail
    refine HT.out.mono ?_
    rintro e w6 ⟨hcase, hB6⟩
    have HB6 : Hid (Below w.heap.size w w6) := HB3.out.trans (hB6.mono HB3.out.size)
    have HR6 := Lib.hid (HR.out.keep placeR_keeps hB6)
    clear hB6
    generalize htr : toldR l (allK l) = tr at hcase
    obtain ⟨n, c⟩ := tr
    simp only [] at hcase
    have HTR := Lib.hid htr; clear htr
    by_cases hc : c = 0
    · subst hc
      rw [if_pos rfl] at hcase
      subst hcase
      go_wp2
      go_ret3
      exact ⟨.inl ⟨_, by rw [HER.out], by rw [HTR.out], HR6.out, rfl⟩, HB6.out⟩
    · rw [if_neg hc] at hcase
      subst hcase
      have hcn : (c != 0) = true := by simpa using hc
      have HC := Lib.hid hc; clear hc
      go_wp2
      go_ret3
      exact ⟨.inr ⟨n, c, HC.out, rfl, .inr ⟨by rw [HER.out], HTR.out⟩⟩, HB6.out⟩
  · have hcb : (c != 0) = true := by simpa using hc0
    have HC0 := Lib.hid hc0; clear hc0
    go_enter Tryz.func52, Tryz.ntmps52
    go_wp2_with fail
    refine HE.out.mono ?_
    rintro e w1 ⟨rfl, hB⟩
    have HB1 := Lib.hid hB; clear hB
    go_wp2
    go_ret3
    exact ⟨.inr ⟨bn, c, HC0.out, rfl, .inl ⟨by rw [HER.out]; exact HC0.out, by rw [HER.out], by rw [HER.out]⟩⟩, HB1.out.alloc HB1.out.size _⟩
set_option maxRecDepth 100000 in
set_option maxHeartbeats 4000000 in
theorem rKept13_any (v : Value) (l : List GObj) (nm : ByteArray) (w : World) (h : ObjsAt w v l) (hs : SameR l) :
    Calls Tryz.prog 54 #[.string nm, v] w (Kept18Post l nm w) := by
  have HO := Lib.hid h
  have HS := Lib.hid hs
  have HE := Lib.hid (begin13_any v l nm w h hs)
  clear hs
  obtain ⟨p, cap, bb, o, rfl, -⟩ := h
  unfold EntryPost placeV at HE
  obtain ⟨⟨pa, pb⟩, bn, c, her⟩ : ∃ (pq : PP) (bn : ByteArray) (c : Int), entryR l nm = (pq, bn, c) := ⟨_, _, _, rfl⟩
  rw [her] at HE
  simp only [] at HE
  have HER := Lib.hid her; clear her
  by_cases hc0 : c = 0
  · subst hc0
    obtain ⟨hb0, hf⟩ : (beginR l).2 = 0 ∧ findR l (-1) nm.data.toList = some (pa, pb) := by
      have h1 := HER.out
      unfold entryR at h1
      by_cases hb : (beginR l).2 ≠ 0
      · rw [if_pos hb] at h1; simp only [Prod.mk.injEq] at h1; exact absurd h1.2.2 hb
      · rw [if_neg hb] at h1
        refine ⟨by simpa using hb, ?_⟩
        cases hf : findR l (-1) nm.data.toList with
        | none => rw [hf] at h1; simp at h1
        | some q => rw [hf] at h1; simp only [Prod.mk.injEq] at h1; rw [h1.1]
    have HV := Lib.hid (findR_valid hf)
    have HB0 := Lib.hid hb0; clear hb0
    have HF := Lib.hid hf; clear hf
    go_enter Tryz.func54, Tryz.ntmps54
    go_wp2_with fail
    refine HE.out.mono ?_
    rintro e w1 ⟨rfl, hB⟩
    have HB1 := Lib.hid hB; clear hB
    clear HE
    have HB2 : Hid (Below w.heap.size w (w1.alloc (.cells #[.int .i64 pa, .int .i64 pb] 63))) := HB1.out.alloc HB1.out.size _
    have HCL := Lib.hid (closed13_any (.slice p l.length cap) l (pa, pb) _ (HO.out.keep HB2.out) HS.out HB0.out HV.out)
    simp only [] at HCL
    go_wp2_with fail
    refine HCL.out.mono ?_
    rintro e w3 ⟨vo, rfl, L, hrow, hL, hB3⟩
    have HB3 : Hid (Below w.heap.size w w3) := HB2.out.trans (hB3.mono HB2.out.size)
    have HK : Hid (KeptOf l (pa, pb) (sortP L (flat l))) := sortP_kept HV.out hL
    have HSO := Lib.hid (sorted13_any (.slice p l.length cap) vo l L w3 (HO.out.keep HB3.out) hrow (beginR_zero HB0.out).1)
    generalize sortP L (flat l) = K at HK HSO
    obtain ⟨pL, cL, _, _, rfl, -⟩ := hrow
    clear hL hB3 HCL HB2
    go_wp2_with fail
    refine HSO.out.mono ?_
    rintro e w5 ⟨vk, rfl, hrow, hB5⟩
    have HB5 : Hid (Below w.heap.size w w5) := HB3.out.trans (hB5.mono HB3.out.size)
    have HR := Lib.hid hrow
    have HT := Lib.hid (told13_any (.slice p l.length cap) vk l K w5 (ObjsAt.keep HB5.out HO.out) hrow HS.out)
    obtain ⟨pk, ck, _, _, rfl, -⟩ := hrow
    clear hB5 HSO HB3
    go_wp2_with fail
    refine HT.out.mono ?_
    rintro e w6 ⟨hcase, hB6⟩
    have HB6 : Hid (Below w.heap.size w w6) := HB5.out.trans (hB6.mono HB5.out.size)
    have HR6 := Lib.hid (HR.out.keep placeR_keeps hB6)
    clear hB6
    generalize htr : toldR l K = tr at hcase
    obtain ⟨n, c⟩ := tr
    simp only [] at hcase
    have HTR := Lib.hid htr; clear htr
    by_cases hc : c = 0
    · subst hc
      rw [if_pos rfl] at hcase
      subst hcase
      have HALL := Lib.hid (toldR_all HTR.out)
      go_wp2
      go_ret3
      exact ⟨.inl ⟨_, K, _, ⟨HB0.out, HF.out, HK.out, HALL.out⟩, HR6.out, rfl⟩, HB6.out⟩
    · rw [if_neg hc] at hcase
      subst hcase
      have hcn : (c != 0) = true := by simpa using hc
      have HC := Lib.hid hc; clear hc
      go_wp2
      go_ret3
      exact ⟨.inr ⟨n, c, HC.out, rfl, .inr ⟨by rw [HER.out], _, K, HF.out, HK.out, HTR.out⟩⟩, HB6.out⟩
  · have hcb : (c != 0) = true := by simpa using hc0
    have HC0 := Lib.hid hc0; clear hc0
    go_enter Tryz.func54, Tryz.ntmps54
    go_wp2_with fail
    refine HE.out.mono ?_
    rintro e w1 ⟨rfl, hB⟩
    have HB1 := Lib.hid hB; clear hB
    go_wp2
    go_ret3
    exact ⟨.inr ⟨bn, c, HC0.out, rfl, .inl ⟨by rw [HER.out]; exact HC0.out, by rw [HER.out], by rw [HER.out]⟩⟩, HB1.out.alloc HB1.out.size _⟩
end Go.Proofs.YtdjgkmpjhpnkeaaGreatDoor
