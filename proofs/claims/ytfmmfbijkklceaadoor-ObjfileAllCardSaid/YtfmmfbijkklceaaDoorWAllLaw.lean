/- The walk of aediculelaw09.ObjfileAll. -/
import Derived.Test.YtfmmfbijkklceaaDoorWAlive09
import Derived.Test.YtfmmfbijkklceaaDoorWRefGet
import Derived.Test.YtfmmfbijkklceaaDoorWRefSameAny
import Derived.Test.YtfmmfbijkklceaaDoorLaw
namespace Go.Proofs.YtfmmfbijkklceaaDoor
open Go.RowKit Go.Maps
def strCells (s : ByteArray) : List Value := [.string s]
theorem strCells_len (s : ByteArray) : (strCells s).length = 1 := rfl
theorem info_str : (Tryd.prog.info? 9).map (fun i => (i.zero, i.size, i.bytes)) = some (some (.string ⟨#[]⟩), 1, 16) := by kernel_rfl
theorem strCells_one {l : List ByteArray} : ∀ u ∈ l.flatMap strCells, u.oneCell' = true := by
  intro u hu
  obtain ⟨x, _, hx⟩ := List.mem_flatMap.1 hu
  simp only [strCells, List.mem_cons, List.not_mem_nil, or_false] at hx
  subst hx; rfl
theorem str_news {w : World} {b o : Nat} {l : List ByteArray} (h : ∀ i (hi : i < l.length), StrR w b (o + i * 1) l[i]) : ∀ j u, (l.flatMap strCells)[j]? = some u → w.cell? ((⟨b, o, none⟩ : Addr).add j) = some u := by
  refine row_news strCells_len (by omega) fun i hi j u hu => ?_
  obtain ⟨-, h1, -⟩ := h i hi
  match j, hu with
  | 0, hu => cases hu; exact h1
theorem str_back {w0 w : World} {v0 v : Value} {base : Nat} {e : TypeId} {l : List ByteArray} (h0 : RowAt 1 StrR w0 v0 l) (h : w.ownsRow base e 1 v l.length (l.flatMap strCells)) : RowAt 1 StrR w v l := by
  obtain ⟨_, _, b, o, -, -, hm, -, hc⟩ := h0
  exact owned_row strCells_len h hm fun g o' i hi hg hcell => ⟨hg, hcell 0 _ (by omega) rfl, (hc i hi).2.2⟩
/-- how many bytes the first texts have -/
def sumSz (l : List ByteArray) : Int := (l.map fun s => (s.size : Int)).sum
theorem sumSz_bd {l : List ByteArray} (h : ∀ s ∈ l, s.size ≤ 140737488355328) : 0 ≤ sumSz l ∧ sumSz l ≤ l.length * 140737488355328 := by
  induction l with
  | nil => simp [sumSz]
  | cons a r ih =>
    have h1 := ih fun s hs => h s (List.mem_cons_of_mem _ hs)
    have h2 := h a (List.mem_cons_self ..)
    simp only [sumSz, List.map_cons, List.sum_cons, List.length_cons] at h1 ⊢
    omega
theorem sumSz_snoc (l : List ByteArray) (s : ByteArray) : sumSz (l ++ [s]) = sumSz l + s.size := by simp [sumSz]
set_option maxRecDepth 100000 in
set_option maxHeartbeats 2000000 in
theorem allLaw_many (v : Value) (l : List ByteArray) (w : World) (h : RowAt 1 StrR w v l) (hn : 20 < l.length) :
    Calls Tryd.prog 4 #[v] w fun e w' => e = .returned (.bool true) ∧ Below w.heap.size w w' := by
  obtain ⟨p, cap, b, o, rfl, hcap, hmax, hp, hc⟩ := h
  obtain rfl := hp (by omega)
  have HC := Lib.hid hc; clear hc
  have d20 : decide ((20 : Int) < (l.length : Int)) = true := by simp; omega
  go_enter Tryd.func4, Tryd.ntmps4
  go_wp2
  go_loopw [3, 4] (fun v3 v4 wr => ∃ i : Nat, i ≤ l.length ∧ i ≤ 100 ∧ v4 = .int .i64 i ∧ v3 = .int .i64 (sumSz (l.take i)) ∧ w = wr) (fun _ v4 _ => l.length - (intOf v4).toNat)
  case atStart => exact ⟨0, Nat.zero_le _, by omega, rfl, by simp [sumSz], rfl⟩
  case round =>
    obtain ⟨i, hi, hi2, rfl, rfl, rfl⟩ := hrel
    by_cases hlt : i < l.length ∧ i < 100
    · obtain ⟨h1, h2⟩ := hlt
      have hci := HC.out i h1
      rw [Nat.mul_one] at hci
      obtain ⟨g0, g1, g2⟩ := hci
      have hsb := sumSz_bd (l := l.take i) (fun s hs => by obtain ⟨k, hk, rfl⟩ := List.mem_iff_getElem.1 hs; rw [List.getElem_take]; exact (HC.out k (by simp at hk; omega)).2.2)
      have HSN : Hid (sumSz (l.take (i + 1)) = sumSz (l.take i) + (l[i].size : Int)) := by rw [Hid, List.take_succ_eq_append_getElem h1, sumSz_snoc]
      have hle : (l.take i).length ≤ 100 := by simp; omega
      generalize l[i] = s at g1 g2 HSN
      generalize sumSz (l.take i) = n at hsb HSN ⊢
      have hb0 := hsb.1
      have hb1 : n ≤ 14073748835532800 := by omega
      clear hsb hle
      go_wp2
      go_roundw
      case rel => exact ⟨i + 1, by omega, by omega, by go_num, by rw [HSN.out], trivial⟩
      case measure => simp [intOf]; omega
    · have hd : (decide ((i : Int) < (l.length : Int)) = false ∧ decide (i < l.length) = false) ∨ (decide ((i : Int) < (l.length : Int)) = true ∧ decide (i < l.length) = true ∧ decide ((i : Int) < (100 : Int)) = false ∧ decide (i < 100) = false) := by
        by_cases h1 : i < l.length
        · exact .inr ⟨by simp; omega, by simp; omega, by simp; omega, by simp; omega⟩
        · exact .inl ⟨by simp; omega, by simp; omega⟩
      clear hlt
      rcases hd with ⟨d1, d2⟩ | ⟨d1, d2, d3, d4⟩
      all_goals
        go_wp2_with (go_at_call 7; refine (alive09_any _).mono ?_; rintro e w2 ⟨rfl, hB2⟩)
        go_ret
        exact ⟨rfl, hB2⟩
theorem take_getS {l : List ByteArray} {os : List GObj} {k i : Nat} (h : (l.take k).map getS = os.map some) (hi : i < k) (hk : k ≤ l.length) : ∃ (h1 : i < l.length) (h2 : i < os.length), getS l[i] = some os[i] := by
  have hl : os.length = k := by
    have := congrArg List.length h
    simp at this; omega
  have h1 : i < l.length := by omega
  have h2 : i < os.length := by omega
  refine ⟨h1, h2, ?_⟩
  have h3 : ((l.take k).map getS)[i]? = (os.map some)[i]? := by rw [h]
  rw [List.getElem?_map, List.getElem?_map, List.getElem?_take, if_pos hi, List.getElem?_eq_getElem h1, List.getElem?_eq_getElem h2] at h3
  simpa using h3
set_option maxRecDepth 100000 in
set_option maxHeartbeats 4000000 in
theorem allLaw_few (v : Value) (l : List ByteArray) (w : World) (h : RowAt 1 StrR w v l) (hn : l.length ≤ 20) :
    Calls Tryd.prog 4 #[v] w fun e w' => e = .returned (.bool true) ∧ Below w.heap.size w w' := by
  have HROW : Hid (RowAt 1 StrR w v l) := h
  obtain ⟨p, cap, b, o, rfl, hcap, hmax, hp, hc⟩ := h
  have HP := Lib.hid hp; clear hp
  have HC := Lib.hid hc; clear hc
  have d20 : decide ((20 : Int) < (l.length : Int)) = false := by simp; omega
  obtain ⟨iS, s0, s1, s2, s3⟩ := info_parts info_str
  have HS := Lib.hid (And.intro s0 (And.intro s1 (And.intro s2 s3)))
  clear s0 s1 s2 s3
  obtain ⟨iO, s0, s1, s2, s3⟩ := info_parts info_obj
  have HSO := Lib.hid (And.intro s0 (And.intro s1 (And.intro s2 s3)))
  clear s0 s1 s2 s3
  go_enter Tryd.func4, Tryd.ntmps4
  go_wp2
  go_loopw [3, 4] (fun v3 v4 wr => ∃ i : Nat, i ≤ l.length ∧ v4 = .int .i64 i ∧ v3 = .int .i64 (sumSz (l.take i)) ∧ w = wr) (fun _ v4 _ => l.length - (intOf v4).toNat)
  case atStart => exact ⟨0, Nat.zero_le _, rfl, by simp [sumSz], rfl⟩
  case round =>
    obtain ⟨i, hi, rfl, rfl, rfl⟩ := hrel
    have hsb := sumSz_bd (l := l.take i) (fun s hs => by obtain ⟨k, hk, rfl⟩ := List.mem_iff_getElem.1 hs; rw [List.getElem_take]; exact (HC.out k (by simp at hk; omega)).2.2)
    have hle : (l.take i).length ≤ 20 := by simp; omega
    by_cases h1 : i < l.length
    · obtain rfl := HP.out (by omega)
      have d3 : decide ((i : Int) < (100 : Int)) = true := by simp; omega
      have d4 : decide (i < 100) = true := by simp; omega
      have hci := HC.out i h1
      rw [Nat.mul_one] at hci
      obtain ⟨g0, g1, g2⟩ := hci
      have HSN : Hid (sumSz (l.take (i + 1)) = sumSz (l.take i) + (l[i].size : Int)) := by rw [Hid, List.take_succ_eq_append_getElem h1, sumSz_snoc]
      generalize l[i] = s at g1 g2 HSN
      generalize sumSz (l.take i) = n at hsb HSN ⊢
      have hb0 := hsb.1
      have hb1 : n ≤ 14073748835532800 := by omega
      clear hsb hle
      go_wp2
      go_roundw
      case rel => exact ⟨i + 1, by omega, by go_num, by rw [HSN.out], trivial⟩
      case measure => simp [intOf]; omega
    · generalize sumSz (l.take i) = n at hsb ⊢
      by_cases hz : 32768 < n
      · have dz : decide ((32768 : Int) < n) = true := by simpa using hz
        clear hsb hle hz
        go_wp2_with (go_at_call 7; refine (alive09_any _).mono ?_; rintro e w2 ⟨rfl, hB2⟩)
        go_ret
        exact ⟨rfl, hB2⟩
      have dz : decide ((32768 : Int) < n) = false := by simpa using hz
      clear hsb hle hz
      go_wp2_with (at_builtin; refine wpList_copy rfl _ _ 37 rfl 9 iS _ 1 16 Tryd.underlying37 HS.out.1 HS.out.2.1 HS.out.2.2.1 HS.out.2.2.2 rfl (by decide) rfl p l.length cap b o (l.flatMap strCells) rfl HP.out (flat_len strCells_len l) ?c2 strCells_one (by omega) (by omega) ?_)
      case c2 => intro _; exact str_news HC.out
      intro vR wR hoR hgR
      obtain ⟨pr, cr, rfl⟩ := own_shape hoR
      have HRR : Hid (RowAt 1 StrR wR (.slice pr l.length cr) l) := str_back HROW.out hoR
      have HW : Hid (Below w.heap.size w wR) := (Below.refl _ _).grown hgR (Nat.le_refl _) (fun k hk => by cases hk)
      clear hoR hgR
      have HALL := Lib.hid (all_any _ l wR HRR.out (by omega))
      go_wp2_with fail
      refine HALL.out.mono ?_
      clear HALL HRR
      intro e w1 hp1
      obtain ⟨hcase, hB⟩ := hp1
      have HW1 : Hid (Below w.heap.size w w1) := HW.out.trans (hB.mono HW.out.size)
      have hzz := HW.out.size
      clear HW hB
      rcases hcase with ⟨os, vx, us, hos, rfl, hum, hsep⟩ | ⟨k, os, hk, hos, hbad, rfl⟩
      · have HOS := Lib.hid hos; clear hos
        have hol : os.length = l.length := by have := congrArg List.length HOS.out; simp at this; omega
        have hux : us.length = l.length := by rw [← hol, ← hum, List.length_map]
        have hfit : ∀ x ∈ os, ObjFit x := fun x hx => by
          have h1 : some x ∈ os.map some := List.mem_map_of_mem hx
          rw [← HOS.out] at h1
          obtain ⟨s, -, hs⟩ := List.mem_map.1 h1
          exact getB_fit hs
        have HX : Hid (ObjsAt w1 vx os) := hsep.fits hfit (by omega) hum
        have HFIT := Lib.hid hfit
        obtain ⟨px, cx, rfl⟩ := own_shape hsep.1
        rw [hux] at HX ⊢
        clear hum hsep hux hfit us
        go_wp2
        go_loopw [8, 9] (fun v8 v9 wr => ∃ (i : Nat) (us2 : List CT), i ≤ l.length ∧ v9 = .int .i64 i ∧ us2.length = i ∧ us2.map (·.o) = os.take i ∧ AllSep w1.heap.size wr v8 us2 ∧ Below w1.heap.size w1 wr) (fun _ v9 _ => l.length - (intOf v9).toNat)
        case atStart => exact ⟨0, [], Nat.zero_le _, rfl, rfl, rfl, ⟨World.ownsRow_nil _ _ _ _, fun u hu => (by cases hu), List.Pairwise.nil⟩, Below.refl _ _⟩
        case round =>
          obtain ⟨i, us2, hik, rfl, hul, hum, hsep2, hbel⟩ := hrel
          have HUL := Lib.hid hul; clear hul
          have HUM := Lib.hid hum; clear hum
          have HSEP2 := Lib.hid hsep2; clear hsep2
          have HB := Lib.hid hbel; clear hbel
          have HBW : Hid (Below w.heap.size w wr) := HW1.out.trans (HB.out.mono HW1.out.size)
          by_cases hlk : i < l.length
          · obtain ⟨hil, hio, hgs0⟩ := take_getS (k := l.length) (by rw [List.take_length]; exact HOS.out) hlk (Nat.le_refl _)
            have hgs : getS l[i] = some (os[i]) := hgs0
            have hci := HC.out i hil
            rw [Nat.mul_one] at hci
            obtain rfl := HP.out (by omega)
            obtain ⟨g0, g1, g2⟩ := strR_keeps _ _ _ _ _ HBW.out hci
            clear hci
            have HCON := Lib.hid ((refGet_any l[i] wr g2))
            unfold GetPost at HCON
            rw [show getB l[i].data.toList = some os[i] from hgs] at HCON
            have HTN : Hid (os.take (i + 1) = os.take i ++ [os[i]]) := List.take_succ_eq_append_getElem hio
            generalize l[i] = s at g1 g2 HCON hgs
            generalize os[i] = x at HCON HTN hgs
            clear hgs
            simp only [] at HCON
            go_wp2_with fail
            refine HCON.out.mono ?_
            rintro e w3 ⟨⟨vs, rfl, hfr⟩, hb1⟩
            have HB1 := Lib.hid hb1; clear hb1 HCON
            obtain ⟨ps, cs, rfl⟩ := hfr.shape
            have HFR := Lib.hid hfr; clear hfr
            obtain ⟨xn, xs⟩ := x
            simp only [] at HFR ⊢
            go_upto_region 14 with fail
            generalize hw2 : w3.alloc (.cells #[.string xn, .slice ps xs.length cs] 24) = w2
            have HB2 : Hid (Below w3.heap.size w3 w2) := by subst hw2; exact alloc_old _ _
            have HN2 : Hid (w2.heap[w3.heap.size]? = some (.cells #[.string xn, .slice ps xs.length cs] 24 (0, 0))) := by subst hw2; exact heap_alloc_new w3 _
            clear hw2
            have HBX : Hid (Below wr.heap.size wr w2) := HB1.out.trans (HB2.out.mono HB1.out.size)
            have HSX : Hid (ObjSep w2 ⟨⟨xn, xs⟩, .slice ps xs.length cs, wr.heap.size, w2.heap.size⟩) := (HFR.out.keep HB2.out).sep
            have b0 : w2.cell? ⟨w3.heap.size, 0, none⟩ = some (.string xn) := Lib.cell_of_heap HN2.out 0
            have b1 : w2.cell? ⟨w3.heap.size, 1, none⟩ = some (.slice ps xs.length cs) := Lib.cell_of_heap HN2.out 1
            have hsz := HBX.out.size
            have hsz0 := HB.out.size
            go_wp2_with (at_builtin; refine wpList_append_own_at _ rfl _ _ 38 rfl w1.heap.size 24 iO _ 2 40 Tryd.underlying38 HSO.out.1 HSO.out.2.1 HSO.out.2.2.1 HSO.out.2.2.2 rfl (by decide) _ us2.length (us2.flatMap objCells) rfl ?c0 _ 1 1 [.string xn, .slice ps xs.length cs] rfl rfl ?c1 two_single' ?c3 ?c4 ?c5 ?_)
            case c0 => exact ownsRow_below (HBX.out.alloc hsz _) HSEP2.out.1
            case c1 => exact two_cells' (by simp [go_sem]) (by simp [go_sem])
            case c3 => have := HUL.out; unfold maxLen; omega
            case c4 => have := HUL.out; omega
            case c5 => simp; omega
            intro v' w' hown3 hgrow3 _ hblk
            have HSEP3 := Lib.hid (AllSep.snoc HSEP2.out HBX.out HSX.out hsz0 hown3 hgrow3 (by simpa using hblk))
            have HB4 : Hid (Below w1.heap.size w1 w') := ((HB.out.trans (HBX.out.mono hsz0)).alloc (by omega) _).grown hgrow3 (by simp; omega) (fun q e => (World.ownsRow.lt HSEP2.out.1 q e).1)
            clear hown3 hgrow3 hblk
            go_wp2
            go_roundw
            case rel => exact ⟨i + 1, _, by omega, by go_num, by simp [HUL.out], by rw [HTN.out, List.map_append, HUM.out]; rfl, HSEP3.out, HB4.out⟩
            case measure => simp [intOf]; omega
          · have hie : i = l.length := by omega
            have hum := HUM.out
            rw [hie, ← hol, List.take_length] at hum
            have HWANT : Hid (ObjsAt wr u8 os) := HSEP2.out.fits HFIT.out (by omega) hum
            obtain ⟨pw, cw, hv8⟩ := own_shape HSEP2.out.1
            rw [HUL.out, hie] at hv8
            subst hv8
            replace HX := Lib.hid (ObjsAt.keep HB.out HX.out)
            clear hum HUM HSEP2 HUL hie
            have HOL := Lib.hid hol
            clear hol HFIT
            go_wp2
            obtain ⟨wo, rfl⟩ : ∃ wo : World, wo = wr := ⟨_, rfl⟩
            go_loopw [12] (fun v12 wr => ∃ j : Nat, j ≤ l.length ∧ v12 = .int .i64 j ∧ Below wo.heap.size wo wr) (fun v12 _ => l.length - (intOf v12).toNat)
            case atStart => exact ⟨0, Nat.zero_le _, rfl, Below.refl _ _⟩
            case round =>
              obtain ⟨j, hj, rfl, hbel⟩ := hrel
              have HB9 := Lib.hid hbel; clear hbel
              by_cases hjl : j < l.length
              · obtain ⟨p1, c1, b1, o1, e1, -, -, q1, r1⟩ := ObjsAt.keep HB9.out HX.out
                obtain ⟨p2, c2, b2, o2, e2, -, -, q2, r2⟩ := ObjsAt.keep HB9.out HWANT.out
                injection e1 with e11 e12 e13
                subst e11; subst e13; clear e12
                injection e2 with e21 e22 e23
                subst e21; subst e23; clear e22
                have hjo : j < os.length := by have := HOL.out; omega
                obtain rfl := q1 (by omega)
                obtain rfl := q2 (by omega)
                obtain ⟨v1, g0, g1, g2, gin⟩ := r1 j hjo
                obtain ⟨v2, k0, k1, k2, kin⟩ := r2 j hjo
                clear q1 q2 r1 r2
                obtain ⟨⟨p3, c3, b3, o3, rfl, -⟩, -⟩ := id gin
                obtain ⟨⟨p4, c4, b4, o4, rfl, -⟩, -⟩ := id kin
                generalize os[j] = x at g1 g2 k1 k2 gin kin
                clear hjo
                have HCS := Lib.hid (same_two x x _ _ wr.drew (ObjIn.keep (Below.refl _ _).drew gin) (ObjIn.keep (Below.refl _ _).drew kin))
                clear gin kin
                unfold SamePost at HCS
                obtain ⟨xn, xs⟩ := x
                simp only [] at g1 g2 k1 k2 HCS
                go_wp2
                go_still_tail 8, (by kernel_rfl)
                change wpList _ _ _ _ _ wr.drew
                go_wp2_with fail
                refine HCS.out.mono ?_
                rintro e w3 ⟨bb, rfl, hbb, hB3⟩
                have hbt : bb = true := by simpa using hbb
                subst hbt
                have HB3 := Lib.hid hB3; clear hB3 hbb HCS
                go_wp2
                exact ⟨⟨j + 1, by omega, by go_num, HB9.out.drew.trans (HB3.out.mono HB9.out.size)⟩, by simp [intOf]; omega⟩
              · go_wp2_with (go_at_call 7; refine (alive09_any _).mono ?_; rintro e w4 ⟨rfl, hB4⟩)
                go_ret
                exact ⟨rfl, (HBW.out.trans (HB9.out.mono HBW.out.size)).trans (hB4.mono (Nat.le_trans HBW.out.size HB9.out.size))⟩
      · have HOS := Lib.hid hos; clear hos
        have HBAD := Lib.hid hbad; clear hbad
        go_wp2
        go_loopw [8, 9] (fun v8 v9 wr => ∃ (i : Nat) (us2 : List CT), i ≤ k ∧ v9 = .int .i64 i ∧ us2.length = i ∧ AllSep w1.heap.size wr v8 us2 ∧ Below w1.heap.size w1 wr) (fun _ v9 _ => l.length - (intOf v9).toNat)
        case atStart => exact ⟨0, [], Nat.zero_le _, rfl, rfl, ⟨World.ownsRow_nil _ _ _ _, fun u hu => (by cases hu), List.Pairwise.nil⟩, Below.refl _ _⟩
        case round =>
          obtain ⟨i, us2, hik, rfl, hul, hsep2, hbel⟩ := hrel
          have HUL := Lib.hid hul; clear hul
          have HSEP2 := Lib.hid hsep2; clear hsep2
          have HB := Lib.hid hbel; clear hbel
          have HBW : Hid (Below w.heap.size w wr) := HW1.out.trans (HB.out.mono HW1.out.size)
          by_cases hlk : i < k
          · obtain ⟨hil, hio, hgs0⟩ := take_getS HOS.out hlk (by omega)
            have hgs : getS l[i] = some (os[i]) := hgs0
            have hci := HC.out i hil
            rw [Nat.mul_one] at hci
            obtain rfl := HP.out (by omega)
            obtain ⟨g0, g1, g2⟩ := strR_keeps _ _ _ _ _ HBW.out hci
            clear hci
            have HCON := Lib.hid ((refGet_any l[i] wr g2))
            unfold GetPost at HCON
            rw [show getB l[i].data.toList = some os[i] from hgs] at HCON
            have HTN : Hid (os.take (i + 1) = os.take i ++ [os[i]]) := List.take_succ_eq_append_getElem hio
            generalize l[i] = s at g1 g2 HCON hgs
            generalize os[i] = x at HCON HTN hgs
            clear hgs
            simp only [] at HCON
            go_wp2_with fail
            refine HCON.out.mono ?_
            rintro e w3 ⟨⟨vs, rfl, hfr⟩, hb1⟩
            have HB1 := Lib.hid hb1; clear hb1 HCON
            obtain ⟨ps, cs, rfl⟩ := hfr.shape
            have HFR := Lib.hid hfr; clear hfr
            obtain ⟨xn, xs⟩ := x
            simp only [] at HFR ⊢
            go_upto_region 14 with fail
            generalize hw2 : w3.alloc (.cells #[.string xn, .slice ps xs.length cs] 24) = w2
            have HB2 : Hid (Below w3.heap.size w3 w2) := by subst hw2; exact alloc_old _ _
            have HN2 : Hid (w2.heap[w3.heap.size]? = some (.cells #[.string xn, .slice ps xs.length cs] 24 (0, 0))) := by subst hw2; exact heap_alloc_new w3 _
            clear hw2
            have HBX : Hid (Below wr.heap.size wr w2) := HB1.out.trans (HB2.out.mono HB1.out.size)
            have HSX : Hid (ObjSep w2 ⟨⟨xn, xs⟩, .slice ps xs.length cs, wr.heap.size, w2.heap.size⟩) := (HFR.out.keep HB2.out).sep
            have b0 : w2.cell? ⟨w3.heap.size, 0, none⟩ = some (.string xn) := Lib.cell_of_heap HN2.out 0
            have b1 : w2.cell? ⟨w3.heap.size, 1, none⟩ = some (.slice ps xs.length cs) := Lib.cell_of_heap HN2.out 1
            have hsz := HBX.out.size
            have hsz0 := HB.out.size
            go_wp2_with (at_builtin; refine wpList_append_own_at _ rfl _ _ 38 rfl w1.heap.size 24 iO _ 2 40 Tryd.underlying38 HSO.out.1 HSO.out.2.1 HSO.out.2.2.1 HSO.out.2.2.2 rfl (by decide) _ us2.length (us2.flatMap objCells) rfl ?c0 _ 1 1 [.string xn, .slice ps xs.length cs] rfl rfl ?c1 two_single' ?c3 ?c4 ?c5 ?_)
            case c0 => exact ownsRow_below (HBX.out.alloc hsz _) HSEP2.out.1
            case c1 => exact two_cells' (by simp [go_sem]) (by simp [go_sem])
            case c3 => have := HUL.out; unfold maxLen; omega
            case c4 => have := HUL.out; omega
            case c5 => simp; omega
            intro v' w' hown3 hgrow3 _ hblk
            have HSEP3 := Lib.hid (AllSep.snoc HSEP2.out HBX.out HSX.out hsz0 hown3 hgrow3 (by simpa using hblk))
            have HB4 : Hid (Below w1.heap.size w1 w') := ((HB.out.trans (HBX.out.mono hsz0)).alloc (by omega) _).grown hgrow3 (by simp; omega) (fun q e => (World.ownsRow.lt HSEP2.out.1 q e).1)
            clear hown3 hgrow3 hblk
            go_wp2
            go_roundw
            case rel => exact ⟨i + 1, _, by omega, by go_num, by simp [HUL.out], HSEP3.out, HB4.out⟩
            case measure => simp [intOf]; omega
          · have hie : i = k := by omega
            subst hie
            have hci := HC.out i hk
            rw [Nat.mul_one] at hci
            obtain rfl := HP.out (by omega)
            obtain ⟨g0, g1, g2⟩ := strR_keeps _ _ _ _ _ HBW.out hci
            clear hci
            have HCON := Lib.hid ((refGet_any l[i] wr g2))
            unfold GetPost at HCON
            rw [show getB l[i].data.toList = none from HBAD.out] at HCON
            clear HBAD
            generalize l[i] = s at g1 g2 HCON
            simp only [] at HCON
            go_wp2_with fail
            refine HCON.out.mono ?_
            rintro e w3 ⟨rfl, hb1⟩
            have HB3 : Hid (Below w.heap.size w w3) := HBW.out.trans (hb1.mono HBW.out.size)
            clear hb1 HCON
            go_wp2_with (go_at_call 7; refine (alive09_any _).mono ?_; rintro e w4 ⟨rfl, hB4⟩)
            go_ret
            exact ⟨rfl, (HB3.out.alloc HB3.out.size _).trans (hB4.mono (by have := HB3.out.size; simp; omega))⟩
theorem allLaw_any (v : Value) (l : List ByteArray) (w : World) (h : RowAt 1 StrR w v l) :
    Calls Tryd.prog 4 #[v] w fun e w' => e = .returned (.bool true) ∧ Below w.heap.size w w' := by
  by_cases hn : l.length ≤ 20
  · exact allLaw_few v l w h hn
  · exact allLaw_many v l w h (by omega)
section
variable {H : Type} {enc : TypeId × Value → H} {w : World} {base : Nat} {spare : Nat → Bool} {held : Bool}
open Go.ChangeShapes Go.WideShapes Go.ChangeAt Go.Deep
theorem open_str1 (b o : Nat) (cs : List Value) (n : Nat) (d : DataW H × List MemPlace) (hb : b < w.heap.size) (_hl : cs.length = 1) (hc : ∀ j, j < 1 → w.cell? ⟨b, o + j, none⟩ = cs[j]?)
    (h : DataW.trod enc Tryd.prog w base spare held n 9 cs = some d) (hs : Small Tryd.prog 9 d.1) : ∃ y, StrR w b o y := by
  obtain ⟨n0, c0, rfl, w0⟩ := DataW.trod_string Tryd.underlying9 h
  subst c0
  exact ⟨n0, hb, hc 0 (by omega), small_bytes hs⟩
theorem open_strs {v : Value} {d : DataW H} {p : List MemPlace} (h : DataW.Trod enc Tryd.prog w base spare held 37 v d p) (hsl : ∃ a n c, v = .slice a n c) (hs : Small Tryd.prog 37 d) : ∃ l, RowAt 1 StrR w v l := by
  obtain ⟨fuel, hf⟩ := h
  obtain ⟨a, n, c, rfl⟩ := hsl
  obtain ⟨v', l, hv, hr⟩ := open_row (x := (d, p)) Tryd.underlying37 (by kernel_rfl) (by omega) (of_decide_eq_true (by kernel_rfl)) open_str1 hf hs
  have : v' = .slice a n c := by simpa [Value.cells] using hv.symm
  subst this
  exact ⟨l, hr⟩
end
end Go.Proofs.YtfmmfbijkklceaaDoor
