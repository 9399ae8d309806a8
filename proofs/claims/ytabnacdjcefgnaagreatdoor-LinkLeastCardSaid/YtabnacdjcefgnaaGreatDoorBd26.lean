/- The walk of LinkPlaces where it is not let go. The walk of LinkPlaces, for every input. The walks of cmp.Compare at int, of cmp.Or, and of reach's order. slices.SortFunc at a row of places, by the order of reach. -/
import Derived.Test.YtabnacdjcefgnaaGreatDoorBd25
import Derived.Test.YtabnacdjcefgnaaGreatDoorBd17
import Derived.Test.YtabnacdjcefgnaaGreatDoorBd05
import Derived.Test.YtabnacdjcefgnaaGreatDoorProg
import Derived.Deep.RegionHeld3
import Derived.Sort.Grow
import Derived.Lib.Hide
import Derived.Deep.QuietTactic
import Derived.BigQuiet
import Derived.Outline
import Derived.StillTailTactics
import Derived.Test.YtabnacdjcefgnaaGreatDoorSortLay
import Derived.Test.YtabnacdjcefgnaaGreatDoorBd07
import Derived.Test.YtabnacdjcefgnaaGreatDoorBd19
import Derived.Test.YtabnacdjcefgnaaGreatDoorBd09
import Derived.Lib.Builder
namespace Go.Proofs.YtabnacdjcefgnaaGreatDoor
open Go.RowKit Go.Maps Go.WideMaps
theorem boxL_sevens {w : World} {b : Nat} {x : GLink} {ve vp vs va : Value} (h : BoxL w b x ve vp vs va) :
    w.cell? ⟨b, 0, none⟩ = some (.int .u32 x.man.pages) ∧ w.cell? ⟨b, 1, none⟩ = some ve ∧ w.cell? ⟨b, 2, none⟩ = some vp ∧ w.cell? ⟨b, 3, none⟩ = some (.bool x.man.cons) ∧ w.cell? ⟨b, 4, none⟩ = some (.int .u32 x.entry) ∧ w.cell? ⟨b, 5, none⟩ = some vs ∧ w.cell? ⟨b, 6, none⟩ = some va := sevens h.1
theorem boxL_put {w w0 : World} {b B : Nat} {x y : GLink} {p1 p2 p3 p4 q1 q2 q3 q4 : Option Addr} {n1 n2 n3 n4 c1 c2 c3 c4 m1 m2 m3 m4 d1 d2 d3 d4 : Nat} (h : BoxL w b x (.slice p1 n1 c1) (.slice p2 n2 c2) (.slice p3 n3 c3) (.slice p4 n4 c4)) (hl : LinkAt w y (.slice q1 m1 d1) (.slice q2 m2 d2) (.slice q3 m3 d3) (.slice q4 m4 d4)) (hb : Below B w0 w) (hB : B ≤ b) :
    BoxL (((((((w.setCell ⟨b, 0, none⟩ (.int .u32 y.man.pages)).setCell ⟨b, 1, none⟩ (.slice q1 m1 d1)).setCell ⟨b, 2, none⟩ (.slice q2 m2 d2)).setCell ⟨b, 3, none⟩ (.bool y.man.cons)).setCell ⟨b, 4, none⟩ (.int .u32 y.entry)).setCell ⟨b, 5, none⟩ (.slice q3 m3 d3)).setCell ⟨b, 6, none⟩ (.slice q4 m4 d4)) b y (.slice q1 m1 d1) (.slice q2 m2 d2) (.slice q3 m3 d3) (.slice q4 m4 d4) ∧
    Below B w0 (((((((w.setCell ⟨b, 0, none⟩ (.int .u32 y.man.pages)).setCell ⟨b, 1, none⟩ (.slice q1 m1 d1)).setCell ⟨b, 2, none⟩ (.slice q2 m2 d2)).setCell ⟨b, 3, none⟩ (.bool y.man.cons)).setCell ⟨b, 4, none⟩ (.int .u32 y.entry)).setCell ⟨b, 5, none⟩ (.slice q3 m3 d3)).setCell ⟨b, 6, none⟩ (.slice q4 m4 d4)) :=
  ⟨⟨put7 h.1, hl.kb7 h.1 (put7_kb w b)⟩, put7_below hb hB⟩
set_option maxRecDepth 100000 in
set_option maxHeartbeats 8000000 in
theorem places_main (hsort : SortOk) (v : Value) (l : List GObj) (nm : ByteArray) (fu : Bool) (w : World) (h : ObjsAt w v l) (hnm : nm.size ≤ 1024) (hL : large13B l = false) :
    Calls Tryz.prog 4 #[.string nm, v, .bool fu] w fun e w' => e = .returned (.bool true) ∧ Below w.heap.size w w' := by
  have HSORT := Lib.hid hsort; clear hsort
  have HLG := Lib.hid (large13_any v l w h)
  rw [hL] at HLG
  have HB := Lib.hid (small_of h hL)
  have HO := Lib.hid h
  obtain ⟨p, cap, rfl⟩ : ∃ (p : Option Addr) (cap : Nat), v = .slice p l.length cap := by obtain ⟨p, cap, b, o, rfl, _⟩ := h; exact ⟨p, cap, rfl⟩
  have hd : decide ((1024 : Int) < (nm.size : Int)) = false := by simp; omega
  have hd' : decide (1024 < nm.size) = false := by simp; omega
  clear h hL
  go_enter Tryz.func4, Tryz.ntmps4
  go_wp2_with fail
  refine HLG.out.mono ?_
  rintro e w1 ⟨rfl, hB1⟩
  have HB1 := Lib.hid hB1; clear hB1 HLG
  go_wp2_with fail
  refine (special18_any HSORT.out _ l nm w1 (HO.out.keep HB1.out) (by omega) HB.out).mono ?_
  rintro e w2 ⟨r, hsp, ve, vp, vs, va, rfl, hla, hB2⟩
  obtain ⟨x1, x2, x3, x4, x5, x6, x7, x8, rfl, rfl, rfl, rfl⟩ := hla.shape
  have HOK := Lib.hid (sp_ok hsp)
  have HB2 : Hid (Below w.heap.size w w2) := HB1.out.trans (hB2.mono HB1.out.size)
  have HBX := Lib.hid (BoxL.new hla)
  obtain ⟨⟨⟨rp, re, rq, rc⟩, ren, rs, ra⟩, rn, rcd⟩ := r
  simp only [] at HBX HOK
  have HBa : Hid (Below w2.heap.size w2 (w2.alloc (.cells #[.int .u32 rp, .slice x1 re.length x2, .slice x3 rq.length x4, .bool rc, .int .u32 ren, .slice x5 rs.length x6, .slice x7 ra.length x8] 37))) := alloc_old w2 _
  have hz2 : w2.heap.size < (w2.alloc (.cells #[.int .u32 rp, .slice x1 re.length x2, .slice x3 rq.length x4, .bool rc, .int .u32 ren, .slice x5 rs.length x6, .slice x7 ra.length x8] 37)).heap.size := by simp
  clear hla hB2 hsp HB1
  unfold linkV
  simp only []
  generalize hWa : (w2.alloc (.cells #[.int .u32 rp, .slice x1 re.length x2, .slice x3 rq.length x4, .bool rc, .int .u32 ren, .slice x5 rs.length x6, .slice x7 ra.length x8] 37)) = w3 at HBa HBX hz2
  have HB3 : Hid (Below w.heap.size w w3) := HB2.out.trans (HBa.out.mono HB2.out.size)
  have HXB : Hid (w.heap.size ≤ w2.heap.size) := HB2.out.size
  rcases fu with _ | _
  focus
    by_cases h0 : rcd = 0
    rotate_left
    · have h0b : (rcd != 0) = true := by simpa using h0
      go_wp2_with fail
      try rw [hWa]
      refine (alive18_any HSORT.out _).mono ?_
      rintro e w9 ⟨rfl, hB9⟩
      go_wp2
      go_ret
      exact ⟨rfl, HB3.out.trans (hB9.mono HB3.out.size)⟩
    subst h0
    go_wp2_with fail
    try rw [hWa]
    have hpk : ∃ (x : GLink) (ve vp vs va : Value), BoxL w3 w2.heap.size x ve vp vs va ∧ Below w.heap.size w w3 ∧ ∃ n, OkL l nm (x, n, 0) := ⟨_, _, _, _, _, HBX.out, HB3.out, _, HOK.out⟩
    clear hWa HBa hz2 HBX HXB HB3 HB2 HOK
    generalize w2.heap.size = xb at hpk ⊢
    generalize w3 = WX at hpk ⊢
  rotate_left
  focus
    go_wp2_with fail
    try rw [hWa]
    refine (full18_any HSORT.out _ l nm w3 (HO.out.keep HB3.out) (by omega) HB.out).mono ?_
    rintro e w4 ⟨r4, hfu, ve, vp, vs, va, rfl, hla, hB4⟩
    obtain ⟨y1, y2, y3, y4, y5, y6, y7, y8, rfl, rfl, rfl, rfl⟩ := hla.shape
    have HOK4 := Lib.hid (fu_ok hfu)
    have HB4 : Hid (Below w.heap.size w w4) := HB3.out.trans (hB4.mono HB3.out.size)
    have HBX4 := Lib.hid (HBX.out.keep hB4)
    obtain ⟨i0, i1, i2, i3, i4, i5, i6⟩ := boxL_sevens HBX4.out
    have iz : ∀ j, w4.frozen? ⟨w2.heap.size, j, none⟩ = false := fun j => Lib.frozen_of_heap HBX4.out.1 _
    obtain ⟨⟨⟨yp, ye, yq, yc⟩, yen, ys, ya⟩, yn, ycd⟩ := r4
    simp only [] at i0 i3 i4 hla HOK4
    have HPUT := Lib.hid (boxL_put HBX4.out hla HB4.out HXB.out)
    clear hWa HBa HOK hla hfu hB4
    unfold linkV
    simp only [] at HPUT ⊢
    by_cases h0 : ycd = 0
    rotate_left
    · have h0b : (ycd != 0) = true := by simpa using h0
      go_wp2_with fail
      refine (alive18_any HSORT.out _).mono ?_
      rintro e w9 ⟨rfl, hB9⟩
      go_wp2
      go_ret
      exact ⟨rfl, HPUT.out.2.trans (hB9.mono HPUT.out.2.size)⟩
    subst h0
    go_wp2_with fail
    have hpk : ∃ (x : GLink) (ve vp vs va : Value), BoxL (((((((w4.setCell ⟨w2.heap.size, 0, none⟩ (.int .u32 yp)).setCell ⟨w2.heap.size, 1, none⟩ (.slice y1 ye.length y2)).setCell ⟨w2.heap.size, 2, none⟩ (.slice y3 yq.length y4)).setCell ⟨w2.heap.size, 3, none⟩ (.bool yc)).setCell ⟨w2.heap.size, 4, none⟩ (.int .u32 yen)).setCell ⟨w2.heap.size, 5, none⟩ (.slice y5 ys.length y6)).setCell ⟨w2.heap.size, 6, none⟩ (.slice y7 ya.length y8)) w2.heap.size x ve vp vs va ∧ Below w.heap.size w (((((((w4.setCell ⟨w2.heap.size, 0, none⟩ (.int .u32 yp)).setCell ⟨w2.heap.size, 1, none⟩ (.slice y1 ye.length y2)).setCell ⟨w2.heap.size, 2, none⟩ (.slice y3 yq.length y4)).setCell ⟨w2.heap.size, 3, none⟩ (.bool yc)).setCell ⟨w2.heap.size, 4, none⟩ (.int .u32 yen)).setCell ⟨w2.heap.size, 5, none⟩ (.slice y5 ys.length y6)).setCell ⟨w2.heap.size, 6, none⟩ (.slice y7 ya.length y8)) ∧ ∃ n, OkL l nm (x, n, 0) := ⟨_, _, _, _, _, HPUT.out.1, HPUT.out.2, _, HOK4.out⟩
    generalize (((((((w4.setCell ⟨w2.heap.size, 0, none⟩ (.int .u32 yp)).setCell ⟨w2.heap.size, 1, none⟩ (.slice y1 ye.length y2)).setCell ⟨w2.heap.size, 2, none⟩ (.slice y3 yq.length y4)).setCell ⟨w2.heap.size, 3, none⟩ (.bool yc)).setCell ⟨w2.heap.size, 4, none⟩ (.int .u32 yen)).setCell ⟨w2.heap.size, 5, none⟩ (.slice y5 ys.length y6)).setCell ⟨w2.heap.size, 6, none⟩ (.slice y7 ya.length y8)) = WX at hpk ⊢
    clear hz2 HBX HXB HB3 HB2 HOK4 HPUT HBX4 i0 i1 i2 i3 i4 i5 i6 iz HB4
    generalize w2.heap.size = xb at hpk ⊢
  all_goals
    obtain ⟨x, ve, vp, vs, va, hbx, hbw, rn', hok⟩ := hpk
    obtain ⟨q, K, ps, hky, hre, hpl⟩ := hok rfl
    have hlk := linked_ok (nm := nm) (m := q) (ps := ps) HB.out (by rw [← hre])
    rw [← hre] at hlk
    obtain ⟨hen, hfin, hall, hsz, hal⟩ := hlk
    simp only [] at hen hfin hall hsz hal
    have hfa : findAll l (-1) nm.data.toList = (q, 0) := by rw [findOut hky.1, hky.2.1]; rfl
    have HRF := Lib.hid (resFind_any (.slice p l.length cap) l (-1) nm WX (HO.out.keep hbw) (by omega))
    rw [hfa] at HRF
    obtain ⟨qa, qb⟩ := q
    unfold findV at HRF
    simp only [] at HRF
    have HALL := Lib.hid hall
    have HSZ := Lib.hid hsz
    have HBX := Lib.hid hbx
    have HBW := Lib.hid hbw
    have hlen : x.addrs.length ≤ 1024 := by omega
    have HKY := Lib.hid hky
    clear hok hre hall hsz hfa hbx hbw hky hal hpl
    refine HRF.out.mono ?_
    rintro e w5 ⟨rfl, hB5⟩
    have HB5 : Hid (Below w.heap.size w w5) := HBW.out.trans (hB5.mono HBW.out.size)
    have HX5 := Lib.hid (HBX.out.keep hB5)
    clear hB5 HRF HBX HBW
    generalize hWb : w5.alloc (.cells #[.int .i64 qa, .int .i64 qb] 51) = w6
    have HB56 : Hid (Below w5.heap.size w5 w6) := by subst hWb; exact alloc_old w5 _
    have z0 : w6.cell? ⟨w5.heap.size, 0, none⟩ = some (.int .i64 qa) := by subst hWb; simp [go_sem]
    have z1 : w6.cell? ⟨w5.heap.size, 1, none⟩ = some (.int .i64 qb) := by subst hWb; simp [go_sem]
    have HX6 := Lib.hid (HX5.out.keep HB56.out)
    have HB6 : Hid (Below w.heap.size w w6) := HB5.out.trans (HB56.out.mono HB5.out.size)
    obtain ⟨p1, n1, p2, n2, p3, n3, p4, n4, rfl, rfl, rfl, rfl⟩ := HX6.out.2.shape
    obtain ⟨-, -, -, -, i4, -, i6⟩ := boxL_sevens HX6.out
    have HLF : Hid (Calls Tryz.prog 18 #[.slice p4 x.addrs.length n4, .agg #[.int .i64 qa, .int .i64 qb]] w6 fun e w' => e = .returned (.tuple #[.int .u32 x.entry, .bool true]) ∧ Below w6.heap.size w6 w') := by
      have := layFind_any (.slice p4 x.addrs.length n4) x.addrs (toG (qa, qb)) w6 HX6.out.2.2.2.1
      rw [← hen, hfin] at this
      exact this
    go_wp2_with fail
    try rw [hWb]
    clear hWb HB56 HX5 HB5
    refine HLF.out.mono ?_
    rintro e w7 ⟨rfl, hB7⟩
    have HX7 := Lib.hid (HX6.out.keep hB7)
    have HB7 : Hid (Below w.heap.size w w7) := HB6.out.trans (hB7.mono HB6.out.size)
    obtain ⟨-, -, -, -, j4, -, j6⟩ := boxL_sevens HX7.out
    clear i4 i6 z0 z1 hB7 HX6 HB6 HLF hen hfin
    go_wp2
    go_loopw [14] (fun v14 wr => ∃ i : Nat, v14 = .int .i64 i ∧ i ≤ x.addrs.length ∧ Below w7.heap.size w7 wr) (fun v14 _ => x.addrs.length - (intOf v14).toNat)
    case atStart => exact ⟨0, by go_num, Nat.zero_le _, Below.refl _ _⟩
    case round =>
      obtain ⟨i, rfl, hi, hB⟩ := hrel
      have HBR : Hid (Below w.heap.size w wr) := HB7.out.trans (hB.mono HB7.out.size)
      have HB7R := Lib.hid hB
      have HXR := Lib.hid (HX7.out.keep hB)
      obtain ⟨r0, r1, r2, r3, r4, r5, r6⟩ := boxL_sevens HXR.out
      clear j4 j6
      by_cases hlt : i < x.addrs.length
      · have HLEN := Lib.hid hlen
        obtain ⟨s, hs, hsb, hat, hsz1, hkd, hrf, hrl, hfd, hfil, him⟩ := HALL.out x.addrs[i] (List.getElem_mem hlt)
        obtain ⟨pp, cap', b', o', he, -, -, hp', hc'⟩ := HXR.out.2.2.2.1
        cases he
        cases hp' (by omega)
        obtain ⟨g0, g1, g2, g3, -⟩ := hc' i hlt
        obtain ⟨an, bn, han, hbn, hpe, hse⟩ := symAt_some hs
        generalize x.addrs[i] = a at *
        obtain ⟨a1, a2, a3⟩ := a
        simp only [Prod.mk.injEq] at hpe hs hat hrf hrl hfd hfil him g1 g2 g3
        obtain ⟨rfl, rfl⟩ := hpe
        obtain ⟨tn, rfl⟩ := Int.eq_ofNat_of_zero_le hat.1
        have hhas : hasR l (an : Int) (bn : Int) = true := by simp [hasR, han, hbn]
        have HHA : Hid (∀ W, Below wr.heap.size wr W → Calls Tryz.prog 19 #[.slice p l.length cap, .agg #[.int .i64 an, .int .i64 bn]] W fun e w' => e = .returned (.bool true) ∧ Below W.heap.size W w') := fun W hW => by
          have := has_any (.slice p l.length cap) l an bn W (HO.out.keep (HBR.out.trans (hW.mono HBR.out.size)))
          rw [hhas] at this; exact this
        clear hc' hp' hs HALL hhas
        have HRL := Lib.hid hrl; have HRF := Lib.hid hrf; have HFD := Lib.hid hfd; have HFIL := Lib.hid hfil; have HIM := Lib.hid him
        clear hrl hrf hfd hfil him hB
        have a0 : (wr.alloc (.cells #[.int .i64 an, .int .i64 bn, .int .u32 tn] 57)).cell? ⟨wr.heap.size, 0, none⟩ = some (.int .i64 an) := by simp [go_sem]
        have a1 : (wr.alloc (.cells #[.int .i64 an, .int .i64 bn, .int .u32 tn] 57)).cell? ⟨wr.heap.size, 1, none⟩ = some (.int .i64 bn) := by simp [go_sem]
        have a2 : (wr.alloc (.cells #[.int .i64 an, .int .i64 bn, .int .u32 tn] 57)).cell? ⟨wr.heap.size, 2, none⟩ = some (.int .u32 tn) := by simp [go_sem]
        have zA : (wr.alloc (.cells #[.int .i64 an, .int .i64 bn, .int .u32 tn] 57)).heap.size = wr.heap.size + 1 := by simp
        have HBA : Hid (Below wr.heap.size wr (wr.alloc (.cells #[.int .i64 an, .int .i64 bn, .int .u32 tn] 57))) := alloc_old wr _
        go_wp2_with fail
        generalize (wr.alloc (.cells #[.int .i64 an, .int .i64 bn, .int .u32 tn] 57)) = wA at a0 a1 a2 zA HBA ⊢
        refine (HHA.out _ HBA.out).mono ?_
        rintro e w8 ⟨rfl, hB8⟩
        replace a0 := cell_keep hB8 (by omega) a0
        replace a1 := cell_keep hB8 (by omega) a1
        replace a2 := cell_keep hB8 (by omega) a2
        have hz8 : wr.heap.size < w8.heap.size := by have := hB8.size; omega
        have HB8 : Hid (Below wr.heap.size wr w8) := HBA.out.trans (hB8.mono (by omega))
        have HO8 := Lib.hid (HO.out.keep (HBR.out.trans (HB8.out.mono HBR.out.size)))
        have HX8 := Lib.hid (HXR.out.keep HB8.out)
        clear hB8 zA HBA HHA r0 r1 r2 r3 r4 r5 r6 g0 g1 g2 g3
        obtain ⟨pq, capq, bb, oo, heq, hcapq, hmaxq, hpq, hcq⟩ := HO8.out
        cases heq
        cases hpq (by omega)
        obtain ⟨vs, gg0, gg1, gg2, ⟨pS, capS, bS, oS, rfl, hcapS, hmaxS, hpS, hcS⟩, -⟩ := hcq an han
        obtain rfl := hpS (by omega)
        obtain ⟨vr, vn, s0, s1, s2, s3, s4, s5, s6, s7, hin⟩ := hcS bn hbn
        simp only [hse] at s1 s2 s3 s4 s5 s6 s7 hin
        obtain ⟨q1, d1, q2, d2, rfl, rfl⟩ := hin.shape
        have HIN := Lib.hid hin
        have hnb : bn < l[an].syms.length := hbn
        clear hcq hcS hpS hpq hin gg1
        obtain ⟨yn, yb, yk, yz, yy, yr, yt⟩ := s
        simp only [] at s1 s2 s3 s4 s5 s6 s7 HIN HFIL HIM hsb hsz1 hkd
        obtain ⟨zn, rfl⟩ := Int.eq_ofNat_of_zero_le (show 0 ≤ yz by omega)
        rw [Int.toNat_natCast, Int.toNat_natCast] at HIM
        go_wp2
        obtain ⟨S, hSd⟩ : ∃ S : World → Prop, ∀ w', S w' ↔ (w'.cell? ⟨wr.heap.size, 0, none⟩ = some (.int .i64 an) ∧ w'.cell? ⟨wr.heap.size, 1, none⟩ = some (.int .i64 bn) ∧ w'.cell? ⟨bb, oo + an * 2 + 1, none⟩ = some (.slice (some ⟨bS, oS, none⟩) l[an].syms.length capS) ∧
            w'.cell? ⟨bS, oS + bn * 7, none⟩ = some (.string yn) ∧ w'.cell? ⟨bS, oS + bn * 7 + 1, none⟩ = some (.int .u8 yb) ∧ w'.cell? ⟨bS, oS + bn * 7 + 2, none⟩ = some (.int .u8 yk) ∧ w'.cell? ⟨bS, oS + bn * 7 + 3, none⟩ = some (.int .u32 zn) ∧
            w'.cell? ⟨bS, oS + bn * 7 + 4, none⟩ = some (.string yy) ∧ w'.cell? ⟨bS, oS + bn * 7 + 5, none⟩ = some (.slice q1 yr.length d1) ∧ w'.cell? ⟨bS, oS + bn * 7 + 6, none⟩ = some (.slice q2 yt.length d2)) := ⟨_, fun _ => Iff.rfl⟩
        have HSD := Lib.hid hSd; clear hSd
        have hS0 : S w8.drew := (HSD.out _).2 ⟨a0, a1, gg2, s1, s2, s3, s4, s5, s6, s7⟩
        have hS1 := fun x : HW S => (HSD.out _).1 x.h
        have hSa : ∀ b, S (w8.drew.alloc b) := fun b => (HSD.out _).2 ⟨cell_keep (alloc_old _ _) (by show _ < w8.heap.size; omega) a0, cell_keep (alloc_old _ _) (by show _ < w8.heap.size; omega) a1, cell_keep (alloc_old _ _) gg0 gg2, cell_keep (alloc_old _ _) s0 s1, cell_keep (alloc_old _ _) s0 s2, cell_keep (alloc_old _ _) s0 s3, cell_keep (alloc_old _ _) s0 s4, cell_keep (alloc_old _ _) s0 s5, cell_keep (alloc_old _ _) s0 s6, cell_keep (alloc_old _ _) s0 s7⟩
        have HSA := Lib.hid hSa
        have c0 := fun x => (hS1 x).1
        have c1 := fun x => (hS1 x).2.1
        have c2 := fun x => (hS1 x).2.2.1
        have c3 := fun x => (hS1 x).2.2.2.1
        have c4 := fun x => (hS1 x).2.2.2.2.1
        have c5 := fun x => (hS1 x).2.2.2.2.2.1
        have c6 := fun x => (hS1 x).2.2.2.2.2.2.1
        have c7 := fun x => (hS1 x).2.2.2.2.2.2.2.1
        have c8 := fun x => (hS1 x).2.2.2.2.2.2.2.2.1
        have c9 := fun x => (hS1 x).2.2.2.2.2.2.2.2.2
        haveI : Nonempty (HW S) := ⟨⟨_, hS0⟩⟩
        have HS0 := Lib.hid hS0
        clear hS0 hSa hS1 s1 s2 s3 s4 s5 s6 s7 gg2
        refine wp_region_marks S [.r, .r, .r, .r, .r, .r, .r, .r, .r, .r, .r, .r, .u, .p] rfl (by kernel_rfl) HS0.out ?_
        repeat (refine wpReads_step (fun K hK => ?_); go_simp; refine hK _ ?_; clear hK K)
        refine wpReads_nil ?_
        clear c0 c1 c2 c3 c4 c5 c6 c7 c8 c9
        refine wpTurns_step fun K hK => ?_
        go_simp
        refine hK _ _ (HSA.out _) ?_
        clear hK K
        refine wpTurns_nil ?_
        simp only [pickP]
        go_wp2
        refine NoPanic.normal ?_
        clear HSA HS0 HSD
        go_wp2_with fail
        have hbC : (w8.alloc (.cells #[.string yn, .int .u8 yb, .int .u8 yk, .int .u32 zn, .string yy, .slice q1 yr.length d1, .slice q2 yt.length d2] 62)).drew.heap[w8.heap.size]? = some (.cells #[.string yn, .int .u8 yb, .int .u8 yk, .int .u32 zn, .string yy, .slice q1 yr.length d1, .slice q2 yt.length d2] 62 (0, 0)) := new_block w8 _
        have HBC : Hid (Below w8.heap.size w8 (w8.alloc (.cells #[.string yn, .int .u8 yb, .int .u8 yk, .int .u32 zn, .string yy, .slice q1 yr.length d1, .slice q2 yt.length d2] 62)).drew) := (alloc_old w8 _).drew
        have zC : w8.heap.size < (w8.alloc (.cells #[.string yn, .int .u8 yb, .int .u8 yk, .int .u32 zn, .string yy, .slice q1 yr.length d1, .slice q2 yt.length d2] 62)).drew.heap.size := by show _ < (World.alloc _ _).heap.size; simp
        generalize (w8.alloc (.cells #[.string yn, .int .u8 yb, .int .u8 yk, .int .u32 zn, .string yy, .slice q1 yr.length d1, .slice q2 yt.length d2] 62)).drew = wC at hbC HBC zC ⊢
        have HRC : Hid (Calls Tryz.prog 20 #[.slice (some ⟨bb, oo, none⟩) l.length cap, .agg #[.int .i64 an, .int .i64 bn]] wC (RefsPost wC (refsV (beginR l) l an bn).1 (refsV (beginR l) l an bn).2.1 (refsV (beginR l) l an bn).2.2)) := refs_any _ l an bn wC (HO8.out.keep HBC.out)
        generalize refsV (beginR l) l (an : Int) (bn : Int) = rv at HRC HRL HRF HFD HFIL HIM
        obtain ⟨rl, rn2, rc⟩ := rv
        simp only [] at HRC HRL HRF HFD HFIL HIM
        obtain rfl : rc = 0 := HRF.out
        refine HRC.out.mono ?_
        rintro e wD ⟨vo, rfl, hrow, hBD⟩
        have HBW8 : Hid (Below w8.heap.size w8 wD) := HBC.out.trans (hBD.mono HBC.out.size)
        have HXD := Lib.hid (HX8.out.keep HBW8.out)
        have HIND := Lib.hid (SymIn.keep HBW8.out HIN.out)
        have hbD : wD.heap[w8.heap.size]? = _ := (hBD.block _ zC).trans hbC
        replace a2 := cell_keep HBW8.out hz8 a2
        have HBD : Hid (Below wr.heap.size wr wD) := HB8.out.trans (HBW8.out.mono HB8.out.size)
        have hz8D : w8.heap.size < wD.heap.size := by have := hBD.size; omega
        have HRO := Lib.hid hrow
        obtain ⟨pr, cr, br, orr, rfl, -, -, hpr, hrr⟩ := hrow
        have HPR := Lib.hid hpr; clear hpr
        have HRR := Lib.hid hrr; clear hrr
        clear hbC hBD HRC HBC zC HX8 HIN HO8 a0 a1 s0 gg0 HX7 HRF
        obtain ⟨wo, hwo⟩ : ∃ wo, wo = wr := ⟨_, rfl⟩
        subst hwo
        have HLT := Lib.hid hlt; clear hlt
        go_wp2
        obtain ⟨iU, s0, s1, s2, s3⟩ := info_parts info_u32
        have HI := Lib.hid (And.intro s0 (And.intro s1 (And.intro s2 s3)))
        clear s0 s1 s2 s3
        go_loopw [20, 21] (fun v20 v21 wr => ∃ k : Nat, v21 = .int .i64 k ∧ k ≤ rl.length ∧ wr.ownsRow wD.heap.size 27 1 v20 k (cellsU .u32 (addrsOf x.addrs (rl.take k))) ∧ Below wD.heap.size wD wr) (fun v20 v21 _ => rl.length - (intOf v21).toNat)
        case atStart => exact ⟨0, by go_num, Nat.zero_le _, World.ownsRow_nil _ _ _ _, Below.refl _ _⟩
        case round =>
          obtain ⟨k, rfl, hk, hu, hBr⟩ := hrel
          have HU := Lib.hid hu
          have HBR2 := Lib.hid hBr; clear hBr
          obtain ⟨pu, cu, rfl⟩ := own_shape hu
          clear hu
          have HXZ := Lib.hid (HXD.out.keep HBR2.out)
          obtain ⟨k0, k1, k2, k3, k4, k5, k6⟩ := boxL_sevens HXZ.out
          have hcr := HBR2.out.size
          have hrl := HRL.out
          by_cases hlt : k < rl.length
          · obtain rfl := HPR.out (by omega)
            obtain ⟨g0, g1, g2⟩ := placeR_keeps _ _ _ _ _ HBR2.out (HRR.out k hlt)
            have hfd := HFD.out rl[k] (List.getElem_mem hlt)
            generalize hqq : rl[k] = q at g1 g2 hfd
            have HQ := Lib.hid hqq; clear hqq
            obtain ⟨qa2, qb2⟩ := q
            simp only [] at g1 g2
            have hxl : xb < wr.heap.size := (Array.getElem?_eq_some_iff.1 HXZ.out.1).1
            have c0 := bw_cell g0 g1
            have c1 := bw_cell g0 g2
            have c6 := bw_cell hxl k6
            have HLF : Hid (∀ z : BW wr, Calls Tryz.prog 18 #[.slice (some ⟨b', o', none⟩) x.addrs.length n4, .agg #[.int .i64 qa2, .int .i64 qb2]] z.u fun e w' => e = .returned (.tuple #[.int .u32 (layFind x.addrs (toG (qa2, qb2))).1, .bool (layFind x.addrs (toG (qa2, qb2))).2]) ∧ ∃ y : BW wr, w' = y.u) :=
              fun z => calls_below (layFind_any _ x.addrs (toG (qa2, qb2)) z.u (HXZ.out.2.2.2.1.keep addrR_keeps z.b))
            have HSN : Hid (addrsOf x.addrs (rl.take (k + 1)) = addrsOf x.addrs (rl.take k) ++ [(layFind x.addrs (toG (qa2, qb2))).1]) := addrsOf_snoc hlt HQ.out
            generalize layFind x.addrs (toG (qa2, qb2)) = lf at HLF HSN hfd
            obtain ⟨la, lb⟩ := lf
            simp only [] at HLF HSN hfd
            subst hfd
            clear k0 k1 k2 k3 k4 k5 k6
            go_wp2
            refine wp_region_below (by kernel_rfl) (by kernel_rfl) ?_
            repeat (first | go_big_quiet_skip | quiet_step ((go_at_call 18; exact HLF.out _)))
            refine wpQuiet_nil ?_
            rintro w4 hx4; have hB4 : Below wr.heap.size wr w4 := bw_of hx4; clear hx4
            have HU4 := Lib.hid (own_congr HU.out fun q hq => hB4.block q (HU.out.lt q hq).2)
            have HB4 := Lib.hid hB4
            have hz4 : wr.heap.size ≤ w4.heap.size := hB4.size
            clear c0 c1 c6 hB4
            go_wp2_with (at_builtin; refine wpList_append_own _ rfl _ _ 65 rfl wD.heap.size 27 iU _ 1 4 Tryz.underlying65 HI.out.1 HI.out.2.1 HI.out.2.2.1 HI.out.2.2.2 rfl (by decide) _ k (cellsU .u32 (addrsOf x.addrs (rl.take k))) rfl ?c0 _ 1 1 [.int .u32 la] rfl rfl ?c1 one_u32 ?c3 ?c4 ?c5 ?_)
            case c0 => exact HU4.out.alloc _
            case c1 => exact one_new (by simp [go_sem])
            case c3 => have := HRL.out; unfold maxLen; omega
            case c4 => have := HRL.out; omega
            case c5 => simp; omega
            intro v' w' hown3 hgrow3 _
            have HO3 : Hid (w'.ownsRow wD.heap.size 27 1 v' (k + 1) (cellsU .u32 (addrsOf x.addrs (rl.take (k + 1))))) := by
              have e : cellsU .u32 (addrsOf x.addrs (rl.take (k + 1))) = cellsU .u32 (addrsOf x.addrs (rl.take k)) ++ [.int .u32 la] := by rw [HSN.out]; simp [cellsU]
              rw [Hid, e]; exact hown3
            have hlast : Below wD.heap.size wr w' := (((HB4.out.mono hcr).alloc (by omega) _).grown hgrow3 (by simp; omega) (fun q e => (HU4.out.lt q e).1))
            have HL := Lib.hid hlast
            clear hown3 hgrow3 hlast
            go_wp2
            go_roundw
            case rel => exact ⟨k + 1, by go_num, by omega, HO3.out, HBR2.out.trans HL.out⟩
            case measure => simp [intOf]; omega
          · obtain rfl : k = rl.length := by omega
            have hke : rl.take rl.length = rl := List.take_length
            rw [hke] at HU
            have hls : (addrsOf x.addrs rl).length = rl.length := addrsOf_len _ _
            have hrow : RowAt 1 NumR wr (.slice pu rl.length cu) (addrsOf x.addrs rl) := urow_num (base := wD.heap.size) (by unfold URow; rw [hls]; exact HU.out) (by have := HRL.out; rw [addrsOf_len]; omega) (fun y hy => by
              simp only [addrsOf, List.mem_map] at hy
              obtain ⟨q, -, rfl⟩ := hy
              exact layFind_num HXZ.out.2.2.2.1 _)
            have hbz : wr.heap[w8.heap.size]? = _ := (HBR2.out.block _ hz8D).trans hbD
            have b0 := Lib.cell_of_heap hbz 0
            have b1 := Lib.cell_of_heap hbz 1
            have b2 := Lib.cell_of_heap hbz 2
            have b3 := Lib.cell_of_heap hbz 3
            have b4 := Lib.cell_of_heap hbz 4
            have b5 := Lib.cell_of_heap hbz 5
            have b6 := Lib.cell_of_heap hbz 6
            have HFC := Lib.hid (fill_any ⟨yn, yb, yk, zn, yy, yr, yt⟩ _ _ _ (addrsOf x.addrs rl) wr (SymIn.keep HBR2.out HIND.out) hsb hrow)
            go_wp2_with fail
            refine HFC.out.mono ?_
            rintro e w9 ⟨rfl, hB9⟩
            have HB9 := Lib.hid hB9
            have HX9 := Lib.hid (HXZ.out.keep hB9)
            have hbz9 : w9.heap[w8.heap.size]? = _ := (hB9.block _ (by omega)).trans hbz
            have e2 := Lib.cell_of_heap hbz9 2
            have e3 := Lib.cell_of_heap hbz9 3
            obtain ⟨t0, t1, t2, t3, t4, t5, t6⟩ := boxL_sevens HX9.out
            replace a2 := cell_keep (HBR2.out.trans (hB9.mono hcr)) (by omega) a2
            clear k0 k1 k2 k3 k4 k5 k6 b0 b1 b2 b3 b4 b5 b6 hB9 HFC hrow HU hbz hbz9 hbD
            have HBY : Hid (∀ W, Below w9.heap.size w9 W → Calls Tryz.prog 22 #[.agg #[.int .u32 x.man.pages, .slice p1 x.man.exts.length n1, .slice p2 x.man.ports.length n2, .bool x.man.cons, .int .u32 x.entry, .slice p3 x.segs.length n3], .int .u32 tn, .int .u32 zn] W fun e w' => e = .returned (.tuple #[.string (imgB x.segs tn zn).1, .int .u8 (imgB x.segs tn zn).2.1, .bool (imgB x.segs tn zn).2.2]) ∧ Below W.heap.size W w') := fun W hW =>
              bytes18_any _ _ _ _ _ _ x.segs tn zn W (HX9.out.2.2.1.keep segR_keeps hW) (by omega) (by omega) HSZ.out ⟨_, _, _, _, _, _, _, _, _, rfl, rfl, rfl, rfl, rfl⟩
            rw [HIM.out] at HBY
            simp only [] at HBY
            rw [HFIL.out]
            go_wp2_with fail
            refine (HBY.out _ (Below.refl _ _)).mono ?_
            rintro e wE ⟨rfl, hBE⟩
            have HBE := Lib.hid (HB9.out.trans (hBE.mono HB9.out.size))
            replace e2 := cell_keep hBE (by have := HB9.out.size; omega) e2
            clear a2 e3 t0 t1 t2 t3 t4 t5 t6 HBY hBE
            rcases permW yk hkd with ⟨hp, rfl⟩ | ⟨hp, rfl⟩ | ⟨hp, rfl⟩
            all_goals
              rw [hp]
              clear hp
              go_wp2_with fail
              go_roundw
              case rel => exact ⟨i + 1, by go_num, by have := HLT.out; omega, HB7R.out.trans ((HBD.out.trans ((HBR2.out.trans (HBE.out.mono hcr)).mono HBD.out.size)).mono HB7R.out.size)⟩
              case measure => have := HLT.out; simp [intOf]; omega
      · go_wp2_with fail
        refine (alive18_any HSORT.out _).mono ?_
        rintro e w9 ⟨rfl, hB9⟩
        go_wp2
        go_ret
        exact ⟨rfl, HBR.out.trans (hB9.mono HBR.out.size)⟩
end Go.Proofs.YtabnacdjcefgnaaGreatDoor
namespace Go.Proofs.YtabnacdjcefgnaaGreatDoor
open Go.RowKit Go.Maps Go.WideMaps
theorem lplaces_any (hsort : SortOk) (v : Value) (l : List GObj) (nm : ByteArray) (fu : Bool) (w : World) (h : ObjsAt w v l) (hn : nm.size ≤ 140737488355328) :
    Calls Tryz.prog 4 #[.string nm, v, .bool fu] w fun e w' => e = .returned (.bool true) ∧ Below w.heap.size w w' := by
  by_cases hg : large13B l = true ∨ 1024 < nm.size
  · exact places_guard hsort v l nm fu w h hn hg
  · have h1 : large13B l = false := by
      cases h1 : large13B l with
      | false => rfl
      | true => exact absurd (.inl h1) hg
    exact places_main hsort v l nm fu w h (by omega) h1
end Go.Proofs.YtabnacdjcefgnaaGreatDoor
namespace Go.Proofs.YtabnacdjcefgnaaGreatDoor
open Go.RowKit Go.Maps Go.WideMaps Go.Sort
theorem grow_three (w : World) (a b c : Obj) : ((w.alloc a).alloc b).drew.alloc c = grow (w.drewN 1) #[a, b, c] := by
  have h : ((grow w #[a]).alloc b).drew.alloc c = grow (grow (grow w.drew #[a]) #[b]) #[c] := by rw [alloc_eq_grow, alloc_eq_grow]; rfl
  rw [alloc_eq_grow w a, h, grow_grow, grow_grow]; rfl
def cmpI (a b : Int) : Int := if a < b then -1 else if b < a then 1 else 0
set_option maxHeartbeats 400000 in
theorem isNaN_any (a : Int) (w : World) : Calls Tryz.prog 151 #[.int .i64 a] w fun e w' => e = .returned (.bool false) ∧ w = w' := by
  go_enter Tryz.func151, Tryz.ntmps151
  go_wp2
  go_ret
  exact ⟨rfl, rfl⟩
set_option maxHeartbeats 400000 in
theorem compare_any (a b : Int) (w : World) : Calls Tryz.prog 111 #[.int .i64 a, .int .i64 b] w fun e w' => e = .returned (.int .i64 (cmpI a b)) ∧ w = w' := by
  have HN := Lib.hid isNaN_any
  unfold cmpI
  by_cases h1 : a < b
  · rw [if_pos h1]
    go_enter Tryz.func111, Tryz.ntmps111
    go_wp2_with (go_at_call 151; refine (HN.out _ _).mono ?_; rintro e w' ⟨rfl, rfl⟩)
    go_ret
    exact ⟨rfl, rfl⟩
  · rw [if_neg h1]
    by_cases h2 : b < a
    · rw [if_pos h2]
      go_enter Tryz.func111, Tryz.ntmps111
      go_wp2_with (go_at_call 151; refine (HN.out _ _).mono ?_; rintro e w' ⟨rfl, rfl⟩)
      go_ret
      exact ⟨rfl, rfl⟩
    · rw [if_neg h2]
      go_enter Tryz.func111, Tryz.ntmps111
      go_wp2_with (go_at_call 151; refine (HN.out _ _).mono ?_; rintro e w' ⟨rfl, rfl⟩)
      go_ret
      exact ⟨rfl, rfl⟩
def orI (a b : Int) : Int := if a = 0 then b else a
set_option maxHeartbeats 400000 in
theorem or_any (a b : Int) (g : Nat) (w : World) (h0 : w.cell? ⟨g, 0, none⟩ = some (.int .i64 a)) (h1 : w.cell? ⟨g, 1, none⟩ = some (.int .i64 b)) :
    Calls Tryz.prog 110 #[.slice (some ⟨g, 0, none⟩) 2 2] w fun e w' => e = .returned (.int .i64 (orI a b)) ∧ w = w' := by
  by_cases ha : a = 0
  · subst ha
    by_cases hb : b = 0
    · subst hb
      go_enter Tryz.func110, Tryz.ntmps110
      go_wp2
      refine wp_loop_rounds 3 ?_
      rw [rounds_succ]
      go_wp2
      rw [rounds_succ]
      go_wp2
      rw [rounds_succ]
      go_wp2
      go_ret
      exact ⟨rfl, rfl⟩
    · have b1 : (b != 0) = true := by simpa using hb
      go_enter Tryz.func110, Tryz.ntmps110
      go_wp2
      refine wp_loop_rounds 3 ?_
      rw [rounds_succ]
      go_wp2
      rw [rounds_succ]
      go_wp2
      go_ret
      exact ⟨rfl, rfl⟩
  · have b1 : (a != 0) = true := by simpa using ha
    have HO : Hid (orI a b = a) := by unfold orI; rw [if_neg ha]; rfl
    clear ha
    go_enter Tryz.func110, Tryz.ntmps110
    go_wp2
    refine wp_loop_rounds 3 ?_
    rw [rounds_succ]
    go_wp2
    go_ret
    exact ⟨ret_int HO.out.symm, rfl⟩
/-- which of two places stands ahead -/
def cmpP (x y : Int × Int) : Int := orI (cmpI x.1 y.1) (cmpI x.2 y.2)
set_option maxHeartbeats 1000000 in
theorem order_any (x y : Int × Int) (w : World) : Calls Tryz.prog 59 #[.agg #[.int .i64 x.1, .int .i64 x.2], .agg #[.int .i64 y.1, .int .i64 y.2]] w fun e w' => e = .returned (.int .i64 (cmpP x y)) ∧ ∃ q os', w' = grow (w.drewN q) os' := by
  obtain ⟨x1, x2⟩ := x
  obtain ⟨y1, y2⟩ := y
  have HC := Lib.hid compare_any
  have HO := Lib.hid or_any
  unfold cmpP
  simp only []
  go_enter Tryz.func59, Tryz.ntmps59
  go_wp2
  go_region_held3 (fun w' => w'.cell? ⟨w.heap.size, 0, none⟩ = some (.int .i64 x1) ∧ w'.cell? ⟨w.heap.size, 1, none⟩ = some (.int .i64 x2) ∧ w'.cell? ⟨w.heap.size + 1, 0, none⟩ = some (.int .i64 y1) ∧ w'.cell? ⟨w.heap.size + 1, 1, none⟩ = some (.int .i64 y2)) (go_keep) (first | (go_at_call 111; refine (HC.out _ _ _).mono ?_; rintro e w' ⟨rfl, rfl⟩) | (go_at_call 110; refine (HO.out (cmpI x1 y1) (cmpI x2 y2) _ _ ?_ ?_).mono ?_; (simp [go_sem]); (simp [go_sem]); rintro e w' ⟨rfl, rfl⟩))
  go_wp2
  go_ret
  exact ⟨rfl, 1, _, grow_three w _ _ _⟩
end Go.Proofs.YtabnacdjcefgnaaGreatDoor
namespace Go.Proofs.YtabnacdjcefgnaaGreatDoor
open Go.RowKit Go.Maps Go.Shelf Go.Sort Go.Lib
def toI (p : PP) : Int × Int := ((p.1 : Nat), (p.2 : Nat))
def backI (x : Int × Int) : PP := (x.1.toNat, x.2.toNat)
theorem backI_toI (p : PP) : backI (toI p) = p := by simp [backI, toI]
def encI (x : Int × Int) : List Value := [.int .i64 x.1, .int .i64 x.2]
def plti (x y : Int × Int) : Prop := x.1 < y.1 ∨ (x.1 = y.1 ∧ x.2 < y.2)
instance (x y : Int × Int) : Decidable (plti x y) := by unfold plti; exact inferInstance
theorem cmpP_lt (x y : Int × Int) : cmpP x y < 0 ↔ plti x y := by
  unfold cmpP orI cmpI plti
  by_cases h1 : x.1 < y.1
  · simp [h1]
  · by_cases h2 : y.1 < x.1
    · simp [h1, h2]; omega
    · have e : x.1 = y.1 := by omega
      by_cases h3 : x.2 < y.2
      · simp [e, h3]
      · by_cases h4 : y.2 < x.2 <;> simp [e, h3, h4]
theorem lt_cmpP (x y : Int × Int) : Go.Proofs.ltOf cmpP x y = decide (plti x y) := by
  unfold Go.Proofs.ltOf
  simp only [cmpP_lt]
theorem swoP : SWO (Go.Proofs.ltOf cmpP) where
  irrefl x := by rw [lt_cmpP]; simp [plti]
  trans x y z h1 h2 := by rw [lt_cmpP, decide_eq_true_eq] at *; unfold plti at *; omega
  ntrans x y z h1 h2 := by rw [lt_cmpP, decide_eq_false_iff_not] at *; unfold plti at *; omega
theorem orderLays (blk off size : Nat) (w : World) : Go.Proofs.CmpLays Tryz.prog 59 #[] encI 2 cmpP blk off size w := fun _ _ _ _ x y => order_any x y _
theorem placeCells_enc (ps : List PP) : placeCells ps = (ps.map toI).flatMap encI := by
  induction ps with
  | nil => rfl
  | cons p r ih => simp only [placeCells, List.flatMap_cons, List.map_cons] at *; rw [ih]; rfl
theorem flat2_get : ∀ (l : List (Int × Int)) (t : Nat), t < l.length * 2 → (l.flatMap encI)[t]? = some ((encI (l.toArray[t / 2]!))[t % 2]!)
  | x :: r, 0, _ => by simp [encI]
  | x :: r, 1, _ => by simp [encI]
  | x :: r, t + 2, h => by
    have ih := flat2_get r t (by simp at h; omega)
    have e1 : (t + 2) / 2 = t / 2 + 1 := by omega
    have e2 : (t + 2) % 2 = t % 2 := by omega
    rw [e1, e2, List.flatMap_cons, show encI x = [.int .i64 x.1, .int .i64 x.2] from rfl]
    simp only [List.cons_append, List.nil_append, List.getElem?_cons_succ]
    rw [ih]
    congr 3
    simp [Array.getElem!_eq_getD, Array.getD]
  | [], t, h => by simp at h
theorem flatK_get (l : List (Int × Int)) (t : Nat) (h : t < l.length * 2) : (l.flatMap encI)[t]? = some ((flatK encI 2 l.toArray)[t]!) := by
  rw [flat2_get l t h, get_flatK encI 2 l.toArray t (by simpa using h)]
theorem holds_of_row {base : Nat} {w : World} {ps : List PP} {g cap : Nat} (h : PRow base w (.slice (some ⟨g, 0, none⟩) ps.length cap) ps) : HoldsK encI 2 w g 0 (ps.map toI).toArray := by
  intro j hj
  rw [size_flatK] at hj
  have hj' : j < (ps.map toI).length * 2 := by simpa using hj
  have h1 := flatK_get _ j hj'
  rw [← placeCells_enc] at h1
  have h2 := h.cells (g := g) rfl j _ h1
  rw [add_zero_eq] at h2
  refine ⟨by rw [Nat.zero_add]; exact h2, ?_⟩
  rcases h.2 with ⟨h3, -⟩ | ⟨g', cap', cur, h3, -, h4, -⟩
  · cases h3
  · cases h3; exact Lib.frozen_of_heap h4 _
theorem cells_len (ps : List PP) : (placeCells ps).length = ps.length * 2 := by
  induction ps with
  | nil => rfl
  | cons p r ih => simp only [placeCells, List.flatMap_cons, List.length_append, List.length_cons, List.length_nil] at *; omega
theorem sorted_block {w : World} {g n : Nat} {D : Array (Int × Int)} {os : Array Obj} {cur : Array Value} {e : TypeId} (h : w.heap[g]? = some (.cells cur e (0, 0))) :
    (sortWorldK encI 2 w g 0 n D os).heap[g]? = some (.cells (putCells id 0 (flatK encI 2 D) cur) e (0, 0)) := by
  have hlt := (Array.getElem?_eq_some_iff.1 h).1
  unfold sortWorldK putRowK putRow grow mapBlock Sort.ahead
  rw [Array.getElem?_append_left (by simpa using hlt), Array.getElem?_modify]
  simp only [if_true]
  rw [h]
  rfl
theorem sorted_other {w : World} {g n : Nat} {D : Array (Int × Int)} {os : Array Obj} {k : Nat} (hk : k < w.heap.size) (hne : k ≠ g) : (sortWorldK encI 2 w g 0 n D os).heap[k]? = w.heap[k]? := by
  unfold sortWorldK putRowK putRow grow mapBlock Sort.ahead
  rw [Array.getElem?_append_left (by simpa using hk), Array.getElem?_modify, if_neg (fun e => hne e.symm)]
theorem sorted_size {w : World} {g n : Nat} {D : Array (Int × Int)} {os : Array Obj} : w.heap.size ≤ (sortWorldK encI 2 w g 0 n D os).heap.size := by
  unfold sortWorldK putRowK putRow grow mapBlock Sort.ahead
  simp
theorem row_put {base : Nat} {w : World} {ps ps' : List PP} {g cap n : Nat} {os : Array Obj} (h : PRow base w (.slice (some ⟨g, 0, none⟩) ps.length cap) ps) (hl : ps'.length = ps.length) :
    PRow base (sortWorldK encI 2 w g 0 n (ps'.map toI).toArray os) (.slice (some ⟨g, 0, none⟩) ps.length cap) ps' := by
  refine ⟨cells_len ps', ?_⟩
  rcases h.2 with ⟨h3, -⟩ | ⟨g', cap', cur, h3, hb, h4, h5, h6, h7, h8⟩
  · cases h3
  · cases h3
    refine .inr ⟨g, cap, putCells id 0 (flatK encI 2 (ps'.map toI).toArray) cur, by rw [hl], hb, sorted_block h4, by omega, h6, by simp [putCells, h7], ?_⟩
    apply List.ext_getElem?
    intro t
    by_cases ht : t < ps'.length * 2
    · have h9 := flatK_get (ps'.map toI) t (by simpa using ht)
      rw [← placeCells_enc] at h9
      rw [h9, List.getElem?_take, if_pos ht]
      have hc : t < cur.size := by omega
      simp [putCells, hc]
      omega
    · rw [List.getElem?_eq_none (by simp; omega), List.getElem?_eq_none (by rw [cells_len]; omega)]
theorem perm_back {D' : Array (Int × Int)} {ps : List PP} (h : D'.toList.Perm (ps.map toI)) : ∃ ps' : List PP, ps'.Perm ps ∧ D' = (ps'.map toI).toArray := by
  refine ⟨D'.toList.map backI, ?_, ?_⟩
  · have := h.map backI
    rw [List.map_map] at this
    have e : (backI ∘ toI) = id := by funext p; exact backI_toI p
    rwa [e, List.map_id] at this
  · apply Array.ext'
    rw [List.map_map]
    have : ∀ x ∈ D'.toList, (toI ∘ backI) x = x := fun x hx => by
      obtain ⟨p, -, rfl⟩ := List.mem_map.1 (h.mem_iff.1 hx)
      simp [backI_toI]
    rw [List.map_congr_left this, List.map_id']
theorem sorted_pw {ps' : List PP} {n : Nat} (hn : n = ps'.length) (h : SortedIn (Go.Proofs.ltOf cmpP) 0 n (ps'.map toI).toArray) : ps'.Pairwise (fun a b => ¬ plt b a) := by
  rw [List.pairwise_iff_getElem]
  intro i j hi hj hij hp
  have := h i j (by omega) hij (by omega)
  rw [lt_cmpP, decide_eq_false_iff_not] at this
  apply this
  have e1 : (ps'.map toI).toArray[i]! = toI ps'[i] := by rw [getElem!_pos _ i (by simpa using hi)]; simp
  have e2 : (ps'.map toI).toArray[j]! = toI ps'[j] := by rw [getElem!_pos _ j (by simpa using hj)]; simp
  rw [e1, e2]
  unfold plt at hp
  unfold plti toI
  simp only []
  omega
theorem order_enters (args : Array Value) (w : World) : (callFunc 59 args).run Tryz.prog w = .ok (.enter 59 args) w := enters_of Tryz.func59 (by kernel_rfl) rfl args w
set_option maxRecDepth 100000 in
theorem sort_ok : SortOk := by
  intro base v ps w h hl
  by_cases h0 : ps.length = 0
  · obtain ⟨p, c, rfl⟩ := own_shape h
    obtain rfl : ps = [] := List.eq_nil_of_length_eq_zero h0
    have hcon := Go.Proofs.AnyF.slices_SortFunc_none Tryz.sortPlaces p c (.func (.func 59) #[] #[]) w
    change Calls Tryz.prog 58 _ _ _ at hcon
    refine hcon.mono ?_
    rintro e w' ⟨rfl, rfl⟩
    exact ⟨rfl, [], .refl _, List.Pairwise.nil, h, KB.refl _ _⟩
  · obtain ⟨g, cap, rfl, hbg, hgl⟩ := World.ownsRow.form h (by omega)
    have hsz : ((ps.map toI).toArray).size = ps.length := by simp
    have hcon := Go.Proofs.AnyQ.slices_SortFunc Tryz.sortPlaces 2 Tryz.isAgg51 Tryz.sizeOf51 encI (fun _ => rfl) (fun x v hv => by simp [encI] at hv; rcases hv with rfl | rfl <;> rfl) cmpP swoP 59 #[] g 0 cap (ps.map toI).toArray w order_enters (orderLays g 0 _ w) (holds_of_row h) hgl (by rw [hsz]; omega)
    change Calls Tryz.prog 58 _ _ _ at hcon
    rw [hsz] at hcon
    refine hcon.mono ?_
    rintro e w' ⟨rfl, d', n, os, hp, hs, rfl⟩
    have hpp : d'.toList.Perm (ps.map toI) := by
      have h3 := hp.2.2
      have hz := hp.1
      rw [hsz] at hz
      rw [Array.extract_eq_self_of_le (by omega), Array.extract_eq_self_of_le (by rw [hsz]; omega)] at h3
      exact h3
    obtain ⟨ps', hp1, rfl⟩ := perm_back hpp
    refine ⟨rfl, ps', hp1, sorted_pw hp1.length_eq.symm hs, row_put h hp1.length_eq, ⟨rfl, rfl, rfl, sorted_size, fun k hk hne => sorted_other hk fun e => hne (by rw [e]; rfl)⟩⟩
end Go.Proofs.YtabnacdjcefgnaaGreatDoor
