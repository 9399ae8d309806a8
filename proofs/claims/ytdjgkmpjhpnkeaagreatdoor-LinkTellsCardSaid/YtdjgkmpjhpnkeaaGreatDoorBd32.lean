/- The walk of aediculeref14.Of. The walk of aediculeref14.Of, whatever it is given; rows of places that are copied. The walk of aediculeref12.Winners. -/
import Derived.Test.YtdjgkmpjhpnkeaaGreatDoorBd31
import Derived.Deep.CutRange
import Derived.Deep.RegionWith
import Derived.Test.YtdjgkmpjhpnkeaaGreatDoorBd07
import Derived.Test.YtdjgkmpjhpnkeaaGreatDoorBd25
namespace Go.Proofs.YtdjgkmpjhpnkeaaGreatDoor
open Go.RowKit Go.Maps Go.WideMaps
theorem insp_len {kd pg : Int} {spans sp : List GSpan} {nn : Nat} {a e : Int} (h : InSp kd pg spans nn a e sp) : sp.length ≤ spans.length + 1 := by
  rcases h with ⟨-, rfl, -⟩ | ⟨-, rfl, -⟩ <;> simp
theorem layKinds_end {l : List GObj} {ps : List GP} {ks : List Int} {kd pg : Int} {spans sp : List GSpan} {out : List GAddr} {nn : Nat} {a e : Int} {R : Option (List GAddr × List GSpan)} (h : layKinds l ps ks out (if 0 < e - pg then spans ++ [⟨kd, pg, e - pg⟩] else spans) e = R) (hi : InSp kd pg spans nn a e sp) (hpg : upTo pg 256 = pg) :
    layKinds l ps ks out sp e = R ∧ upTo a 256 = upTo e 256 := by
  rcases hi with ⟨-, rfl, h1, rfl⟩ | ⟨-, rfl, rfl, h1⟩
  · rw [if_neg (by omega)] at h; exact ⟨h, by rw [h1, hpg]⟩
  · rw [if_pos (by omega)] at h; exact ⟨h, rfl⟩
set_option maxRecDepth 100000 in
set_option maxHeartbeats 4000000 in
theorem refOf14_ok (v v2 : Value) (l : List GObj) (ps : List GP) (w : World) (h : ObjsAt w v l) (h2 : RowAt 2 PlcR w v2 ps) (hlen : ps.length ≤ 1200) (hm : layMay l ps = true) (hmr : mayAllR l = true) :
    Calls Tryz.prog 65 #[v, v2] w (OfPost w (ofR (layKinds l ps [1, 3, 2] (List.replicate ps.length addr0) [] 256))) := by
  have HO := Lib.hid h
  have HM := Lib.hid (ref14May_any v v2 l ps w h h2)
  have hmg : (mayGo l none ps && mayAllR l) = true := by simp only [layMay, Bool.and_eq_true] at hm; rw [hm.2, hmr]; rfl
  rw [hmg] at HM
  have HSZ : Hid (∀ p ∈ ps, ∃ s, symAt l p = some s ∧ 1 ≤ s.size ∧ s.size ≤ 8192) := fun p hp => by
    simp only [layMay, Bool.and_eq_true] at hm
    obtain ⟨s, hs⟩ := mayGo_some hm.2 p hp
    exact ⟨s, hs, may_size hm.1 hs⟩
  clear hmg hmr
  obtain ⟨p, cap, b, o, rfl, hcap, hmax, hp, hc⟩ := h
  obtain ⟨p2, cap2, b2, o2, rfl, hcap2, hmax2, hp2, hc2⟩ := h2
  have HP1 := Lib.hid hp; clear hp
  have HC1 := Lib.hid hc; clear hc
  have HP := Lib.hid hp2; clear hp2
  have HC := Lib.hid hc2; clear hc2 hm
  generalize hR : layKinds l ps [1, 3, 2] (List.replicate ps.length addr0) [] 256 = R
  have HR := Lib.hid hR; clear hR
  obtain ⟨iA, r0, r1, r2, r3⟩ := info_parts info_addr
  have HA := Lib.hid (And.intro r0 (And.intro r1 (And.intro r2 r3)))
  clear r0 r1 r2 r3
  go_enter Tryz.func65, Tryz.ntmps65
  go_wp2_with (first | (go_at_call 63; refine HM.out.mono ?_; rintro e w1 ⟨rfl, hB1⟩) | (at_make; refine wpList_make_full _ rfl _ _ 35 rfl w.heap.size 133 iA _ 3 Tryz.underlying35 HA.out.1 HA.out.2.1 HA.out.2.2.1 _ _ _ _ ps.length rfl rfl rfl rfl ?b1 ?b2 ?b3 ?_))
  case b1 => rw [HA.out.2.2.2]; omega
  case b2 => unfold maxLen; omega
  case b3 => exact hB1.size
  intro w0 hown hgrow
  rw [made_addrs] at hown
  have HB01 : Hid (Below w1.heap.size w1 w0) := (Below.refl _ _).grown hgrow (Nat.le_refl _) (fun k hk => by cases hk)
  have HB0 : Hid (Below w.heap.size w w0) := hB1.trans (HB01.out.mono hB1.size)
  have HI0 : Hid (RInv w0 w1.heap.size ps.length (.slice none 0 0) (List.replicate ps.length addr0) [] w0) := by
    refine ⟨own_base hown, by simp, fun x hx => ?_, World.ownsRow_nil _ _ _ _, (fun x hx => (by cases hx)), KB.refl _ _⟩
    obtain rfl := List.eq_of_mem_replicate hx; exact ⟨by decide, by decide⟩
  have ho0 := (hown.lt _ rfl).2
  have hwo := hB1.size
  clear hown hgrow HM HA HB01 hB1
  go_wp2
  generalize w1.heap.size = ob at *
  go_loopw [8, 9, 10] (fun v8 v9 v10 wr => ∃ (j : Nat) (out : List GAddr) (spans : List GSpan) (a e : Int), j ≤ 3 ∧ v10 = .int .i64 j ∧ v9 = .int .u32 a ∧ layKinds l ps ([1, 3, 2].drop j) out spans e = R ∧ spans.length ≤ j ∧ 0 ≤ a ∧ a ≤ 131072 ∧ 0 ≤ e ∧ e ≤ 131072 ∧ upTo a 256 = upTo e 256 ∧ RInv w0 ob ps.length v8 out spans wr) (fun _ _ v10 _ => 3 - (intOf v10).toNat)
  case atStart => exact ⟨0, _, _, _, _, by omega, rfl, rfl, HR.out, by simp, by omega, by omega, by omega, by omega, rfl, HI0.out⟩
  case round =>
    obtain ⟨j, out0, spans, a0, e0, hj, rfl, rfl, hgo, hsl, ha0, ha1, he0, he1, hup0, hinv⟩ := hrel
    have HGO := Lib.hid hgo; clear hgo
    have HINV := Lib.hid hinv; clear hinv
    have HUP0 := Lib.hid hup0; clear hup0
    by_cases hlt : j < 3
    · have HKD : Hid (∃ kd : Int, 0 ≤ kd ∧ kd ≤ 255 ∧ ([1, 3, 2] : List Int).drop j = kd :: ([1, 3, 2] : List Int).drop (j + 1)) := by
        have h3 : j = 0 ∨ j = 1 ∨ j = 2 := by omega
        rcases h3 with rfl | rfl | rfl
        · exact ⟨1, by omega, by omega, rfl⟩
        · exact ⟨3, by omega, by omega, rfl⟩
        · exact ⟨2, by omega, by omega, rfl⟩
      obtain ⟨kd, kd0, kd1, hdrop⟩ := HKD.out
      have HDROP := Lib.hid hdrop
      have hgo := HGO.out
      rw [hdrop, layKinds] at hgo
      have hup := upTo_page e0 he1
      have HUI := Lib.hid (upTo_idem e0)
      have hpg0 : 0 ≤ upTo e0 256 := by omega
      generalize hR1 : laySyms l kd ps 0 out0 (upTo e0 256) = R1 at hgo
      have HR1 := Lib.hid hR1; clear hR1
      have HGO1 := Lib.hid hgo; clear hgo hdrop HKD HGO
      generalize upTo e0 256 = pg at *
      have dJ : decide ((j : Int) < 3) = true := by simp; omega
      have dJ' : decide (j < 3) = true := by simpa using hlt
      go_wp2
      obtain ⟨wo, rfl⟩ : ∃ wo : World, wo = wr := ⟨_, rfl⟩
      go_loopw [8, 9, 11, 12] (fun v8 v9 v11 v12 wr => ∃ (k nn : Nat) (out : List GAddr) (sp : List GSpan) (a e : Int), k ≤ ps.length ∧ nn ≤ k ∧ v12 = .int .i64 k ∧ v11 = .int .i64 nn ∧ v9 = .int .u32 a ∧ laySyms l kd (ps.drop k) k out e = R1 ∧ InSp kd pg spans nn a e sp ∧ 0 ≤ a ∧ a ≤ 131072 ∧ 0 ≤ e ∧ e ≤ 131072 ∧ pg ≤ e ∧ RInv w0 ob ps.length v8 out sp wr) (fun _ _ _ v12 _ => ps.length - (intOf v12).toNat)
      case atStart => exact ⟨0, 0, out0, spans, a0, pg, Nat.zero_le _, Nat.zero_le _, rfl, rfl, rfl, HR1.out, .inl ⟨rfl, rfl, HUP0.out, rfl⟩, ha0, ha1, hpg0, hup.2, by omega, HINV.out⟩
      case round =>
        clear HINV
        obtain ⟨k, nn, out, sp, a, e, hk, hnk, rfl, rfl, rfl, hgo, hsp, hal, hah, hel, heh, hpe, hinv⟩ := hrel
        have HGO := Lib.hid hgo; clear hgo
        have HSP := Lib.hid hsp; clear hsp
        have HINV := Lib.hid hinv; clear hinv
        have HBW : Hid (Below w.heap.size w wr) := HB0.out.trans (HINV.out.kb.below HB0.out.size (fun k hk hs => by subst hs; omega))
        by_cases hks : k < ps.length
        · obtain ⟨s, hs, hs1, hs2⟩ := HSZ.out _ (List.getElem_mem hks)
          obtain ⟨an, bn, han, hbn, hpi, hse⟩ := symAt_some hs
          obtain rfl := HP.out (by omega)
          obtain rfl := HP1.out (by omega)
          have hb2 : b2 < w.heap.size := (HC.out k hks).1
          obtain ⟨g0, g1, g2⟩ := plcR_keeps _ _ _ _ _ HBW.out (HC.out k hks)
          obtain ⟨vs, k0, -, k2, ⟨pS, capS, bS, oS, rfl, hcapS, hmaxS, hpS, hcS⟩, -⟩ := objR_keeps _ _ _ _ _ HBW.out (HC1.out an han)
          obtain rfl := hpS (by omega)
          obtain ⟨vr, vn, s0, s1, s2, s3, s4, s5, s6, s7, hin⟩ := hcS bn hbn
          obtain ⟨p1, q1, p3, q3, rfl, rfl⟩ := hin.shape
          rw [hse] at s1 s2 s3 s4 s5 s6 s7 hin
          rw [hpi] at g1 g2 hs
          have hkb := hin.2.2.2.1
          have HS := Lib.hid hs
          have HX := Lib.hid hpi
          clear hcS hpS hin hse hs hpi
          have hnS : bn < l[an].syms.length := hbn
          generalize l[an].syms.length = nS at k2 hnS hcapS hmaxS hbn
          obtain ⟨yn, yb, yk, ys, yy, yr, yt⟩ := s
          simp only [] at g1 g2 k2 s1 s2 s3 s4 s5 s6 s7 hs1 hs2 hkb
          have n1 : ¬ wr.heap.size = b2 := by omega
          have n2 : ¬ wr.heap.size = b := by omega
          have n3 : ¬ wr.heap.size = bS := by omega
          have i1 : (an : Int) < (l.length : Int) := by omega
          have i2 : (bn : Int) < (nS : Int) := by omega
          have i3 : (k : Int) < (ps.length : Int) := by omega
          go_wp2
          go_region_held3 (fun w' => w'.cell? ⟨b2, o2 + k * 2, none⟩ = some (.int .i64 an) ∧ w'.cell? ⟨b2, o2 + k * 2 + 1, none⟩ = some (.int .i64 bn) ∧ w'.cell? ⟨b, o + an * 2 + 1, none⟩ = some (.slice (some ⟨bS, oS, none⟩) nS capS) ∧ w'.cell? ⟨bS, oS + bn * 7, none⟩ = some (.string yn) ∧ w'.cell? ⟨bS, oS + bn * 7 + 1, none⟩ = some (.int .u8 yb) ∧ w'.cell? ⟨bS, oS + bn * 7 + 2, none⟩ = some (.int .u8 yk) ∧ w'.cell? ⟨bS, oS + bn * 7 + 3, none⟩ = some (.int .u32 ys) ∧ w'.cell? ⟨bS, oS + bn * 7 + 4, none⟩ = some (.string yy) ∧ w'.cell? ⟨bS, oS + bn * 7 + 5, none⟩ = some (.slice p1 yr.length q1) ∧ w'.cell? ⟨bS, oS + bn * 7 + 6, none⟩ = some (.slice p3 yt.length q3)) (go_keep) (fail)
          rename_i hHeld
          clear hHeld
          generalize hw6 : (wr.alloc (.cells #[.string yn, .int .u8 yb, .int .u8 yk, .int .u32 ys, .string yy, .slice p1 yr.length q1, .slice p3 yt.length q3] 72)).drew = w6
          have hB6 : Below wr.heap.size wr w6 := by subst hw6; exact (alloc_old _ _).drew
          have z6 : wr.heap.size < w6.heap.size := by subst hw6; simp
          have m2 : w6.cell? ⟨wr.heap.size, 2, none⟩ = some (.int .u8 yk) := by subst hw6; simp [go_sem]
          have m3 : w6.cell? ⟨wr.heap.size, 3, none⟩ = some (.int .u32 ys) := by subst hw6; simp [go_sem]
          clear hw6 n1 n2 n3 k2 s1 s2 s3 s4 s5 s6 s7
          replace g1 := cell_keep hB6 g0 g1
          replace g2 := cell_keep hB6 g0 g2
          replace g0 := size_keep hB6 g0
          have hwz := HINV.out.kb.size
          have HSB : Hid (∀ q, u8.ownBlock = some q → w0.heap.size ≤ q ∧ q < wr.heap.size) := fun q hq => HINV.out.srow.lt q hq
          replace HINV := Lib.hid (HINV.out.keep hB6)
          replace HBW := Lib.hid (HBW.out.trans (hB6.mono HBW.out.size))
          clear hB6
          have hsb0 : w0.heap.size ≤ wr.heap.size := hwz
          generalize wr.heap.size = sb at z6 m2 m3 HSB hsb0
          clear hwz
          by_cases hkk : yk = kd
          · have bk : (yk != kd) = false := by simpa using hkk
            subst hkk
            go_wp2
            go_cut [54] from 26 to 101 (fun s54 wx => s54 = .bool false ∧ Below w6.heap.size w6 wx)
            case first =>
              go_region_with ((go_at_call 164; refine (kinds_at j yk _ hlt HDROP.out).mono ?_; rintro en w7 ⟨kg, rfl, hkc, hkg, hkz, hB7⟩; have m2' : w7.cell? ⟨sb, 2, none⟩ = some (.int .u8 yk) := cell_keep hB7 z6 m2))
              all_goals (go_wp2_with fail; go_meet; exact ⟨rfl, (Below.refl _ _).drew.trans hB7⟩)
            case rest =>
            obtain ⟨rfl, hB7⟩ := hcut
            obtain ⟨w7, rfl⟩ : ∃ w7 : World, w7 = wc := ⟨_, rfl⟩
            have HB7 := Lib.hid hB7
            replace HINV := Lib.hid (HINV.out.keep HB7.out)
            replace g1 := cell_keep HB7.out g0 g1
            replace g2 := cell_keep HB7.out g0 g2
            replace m3 := cell_keep HB7.out z6 m3
            replace m2 := cell_keep HB7.out z6 m2
            replace g0 := size_keep HB7.out g0
            replace HBW := Lib.hid (HBW.out.trans (HB7.out.mono HBW.out.size))
            have z7 := size_keep HB7.out z6
            clear hB7 HB7 z6
            rcases HSP.out with ⟨hn0, hspE, hpgE, hee⟩ | ⟨hn0, hspE, hee, hpa⟩
            case' inl =>
              have bn0 : ((nn : Int) == 0) = true := by simpa using hn0
              have HUC := Lib.hid (rup_any a 256 w7 hal (by omega) (.inl rfl))
              rw [hpgE] at HUC
              subst hspE hee
              have HN0 := Lib.hid hn0
              clear hn0 hpgE HSP
              obtain ⟨iS, r0, r1, r2, r3⟩ := info_parts info_span
              have HA := Lib.hid (And.intro r0 (And.intro r1 (And.intro r2 r3)))
              clear r0 r1 r2 r3
              go_wp2_with (first | (go_at_call 165; refine HUC.out.mono ?_; rintro en wq ⟨rfl, rfl⟩) | (at_builtin; refine wpList_append_own_at _ rfl _ _ 115 rfl w0.heap.size 136 iS _ 3 12 Tryz.underlying115 HA.out.1 HA.out.2.1 HA.out.2.2.1 HA.out.2.2.2 rfl (by decide) _ sp.length (sp.flatMap spanCells) rfl ?c0 _ 1 1 (spanCells ⟨yk, e, 0⟩) rfl rfl ?c1 ?c2 ?c3 ?c4 ?c5 ?_))
              case c0 => exact HINV.out.srow.alloc _
              case c1 =>
                intro j u hu
                rw [add_at, Nat.zero_add]
                match j, hu with
                | 0, hu => cases hu; simp [go_sem]
                | 1, hu => cases hu; simp [go_sem]
                | 2, hu => cases hu; simp [go_sem]
              case c2 =>
                intro u hu
                simp only [spanCells, List.mem_cons, List.not_mem_nil, or_false] at hu
                rcases hu with rfl | rfl | rfl <;> rfl
              case c3 => unfold maxLen; omega
              case c4 => omega
              case c5 => simp; omega
              intro v' wt hown hgrow _ hblk
              have HT := Lib.hid (HINV.out.grow ho0 (alloc_old _ _) hown hgrow ⟨⟨by simp only []; omega, by simp only []; omega⟩, ⟨by simp only []; omega, by simp only []; omega⟩, ⟨by simp only []; omega, by simp only []; omega⟩⟩)
              have hb : ∀ g, g < w7.heap.size → (∀ q, u8.ownBlock = some q → g ≠ q) → wt.heap[g]? = w7.heap[g]? := fun g hg hq => by
                rw [hgrow.block g (by simp; omega) (fun e => hq g e.symm rfl), Below.heap_alloc _ _ _ hg]
              have hbs := hb sb z7 (fun q hq => by have := HSB.out q hq; omega)
              have hb2' := hb b2 g0 (fun q hq => by have := HSB.out q hq; have := HB0.out.size; omega)
              have m3t : wt.cell? ⟨sb, 3, none⟩ = some (.int .u32 ys) := by rw [World.cell?_of_block (w := w7) hbs]; exact m3
              have g1t : wt.cell? ⟨b2, o2 + k * 2, none⟩ = some (.int .i64 an) := by rw [World.cell?_of_block (w := w7) hb2']; exact g1
              have g2t : wt.cell? ⟨b2, o2 + k * 2 + 1, none⟩ = some (.int .i64 bn) := by rw [World.cell?_of_block (w := w7) hb2']; exact g2
              obtain ⟨g, cp, rfl, hgl, hgz, hcp⟩ := HT.out.shape
              have hzt : w7.heap.size ≤ wt.heap.size := by have := hgrow.size; simp at this; omega
              have hgs : g ≠ sb := by
                rcases hblk with hq | hq
                · have := HSB.out g (hq ▸ rfl); omega
                · simp [Value.ownBlock] at hq; omega
              clear hown hgrow hblk hb hbs hb2' HINV HUC HA g1 g2 m2 m3 HSB
              generalize hzz : (0 : Int) = zz at HT
              clear hzz
              have hpa2 : e ≤ e := Int.le_refl _
              obtain ⟨a', rfl⟩ : ∃ a' : Int, a' = e := ⟨_, rfl⟩
              have hm3 : sp.length ≤ 3 := by omega
              generalize hml : sp.length = m at HT hcp hm3 ⊢
              have HML := Lib.hid hml
              clear hml
            case' inr =>
              have bn0 : ((nn : Int) == 0) = false := by simpa using (by omega : ¬ nn = 0)
              subst hspE hee
              obtain ⟨g, cp, rfl, hgl, hgz, hcp⟩ := HINV.out.shape
              have hgs : g ≠ sb := by have := HSB.out g rfl; omega
              have HT := HINV
              have hzt : w7.heap.size ≤ w7.heap.size := Nat.le_refl _
              have m3t := m3
              have g1t := g1
              have g2t := g2
              clear HINV HSP g1 g2 m2 m3 HSB
              obtain ⟨wt, rfl⟩ : ∃ wt : World, wt = w7 := ⟨_, rfl⟩
              generalize hzz : e - pg = zz at HT
              clear hzz
              have hpa2 : pg ≤ e := hpe
              obtain ⟨a', rfl⟩ : ∃ a' : Int, a' = e := ⟨_, rfl⟩
              have hm3 : spans.length ≤ 3 := by omega
              generalize hml : spans.length = m at HT hcp hm3 ⊢
              have HML := Lib.hid hml
              clear hml
            all_goals
              have HU := Lib.hid (upTo_bd a')
              have HUC := Lib.hid (rup_any a' 8 wt (by omega) (by omega) (.inr rfl))
              have hos : ob ≠ sb := by omega
              have zs : sb < wt.heap.size := by omega
              have zb2 : b2 < wt.heap.size := by omega
              obtain ⟨c0, c1, c2, y0, y1, y2, t0, t1, t2⟩ := HT.out.outCells hks
              have HST := Lib.hid (@laySyms_lay l yk ps k out a' _ _ R1 hks HX.out HS.out rfl)
              simp only [] at HST
              generalize hua : upTo a' 8 = ua at HU HUC HST
              have HUA := Lib.hid hua; clear hua
              have hu1 := HU.out.1
              have hu2 := HU.out.2
              go_upto_region 21 with ((go_at_call 165; refine HUC.out.mono ?_; rintro en wq ⟨rfl, rfl⟩))
              have HI9 := Lib.hid (HT.out.set ho0 hks ⟨an, bn, ua⟩ ⟨by simp only []; omega, by simp only []; omega⟩)
              have m9 : (((wt.setCell ⟨ob, k * 3, none⟩ (.int .i64 an)).setCell ⟨ob, k * 3 + 1, none⟩ (.int .i64 bn)).setCell ⟨ob, k * 3 + 2, none⟩ (.int .u32 ua)).cell? ⟨sb, 3, none⟩ = some (.int .u32 ys) := cell_set3 hos.symm m3t
              simp only [] at HI9
              clear y0 y1 y2 t0 t1 t2 g1t g2t m3t HT HUC
              generalize ((wt.setCell ⟨ob, k * 3, none⟩ (.int .i64 an)).setCell ⟨ob, k * 3 + 1, none⟩ (.int .i64 bn)).setCell ⟨ob, k * 3 + 2, none⟩ (.int .u32 ua) = w9 at HI9 m9 ⊢
              have HBW9 : Hid (Below w.heap.size w w9) := HB0.out.trans (HI9.out.kb.below HB0.out.size (fun k hk hs => by subst hs; omega))
              by_cases hfull : 131072 < ua + ys
              · have HF := Lib.hid (laySyms_full (e := a') hks HX.out HS.out rfl (by simp only []; rw [HUA.out]; exact hfull) HGO.out)
                have HRN : Hid (R = none) := by have := HGO1.out; rw [HF.out] at this; exact this.symm
                have dF : decide (131072 < ua + ys) = true := by simpa using hfull
                go_wp2
                go_ret3
                rw [HRN.out]
                exact ⟨_, _, rfl, rowAt_nil, rowAt_nil, HBW9.out⟩
              · have dF : decide (131072 < ua + ys) = false := by simpa using hfull
                have HS2 := Lib.hid (HST.out (by omega) HGO.out)
                obtain ⟨l0, l1, l2, e0', e1', e2'⟩ := HI9.out.lastCells HML.out
                have zg := (HI9.out.srow.lt g rfl).2
                simp only [] at l0 l1 l2 zg
                have hs1 : ((m : Int) + 1) - 1 = (m : Int) := by omega
                have b1 : (m : Int) < (m : Int) + 1 := by omega
                have n9 : ¬ w9.heap.size = g := by omega
                have n9' : ¬ g = w9.heap.size := by omega
                go_wp2
                go_roundw
                case rel => exact ⟨k + 1, nn + 1, _, _, ua + ys, ua + ys, by omega, by omega, by go_num, by go_num, rfl, HS2.out, .inr ⟨by omega, rfl, rfl, by omega⟩, by omega, by omega, by omega, by omega, by omega, (HI9.out.last ho0 HML.out _ (by refine ⟨⟨?_, ?_⟩, ⟨?_, ?_⟩, ⟨?_, ?_⟩⟩ <;> (simp only []; omega))).keep (alloc_old _ _)⟩
                case measure => simp [intOf]; omega
          · have bk : (yk != kd) = true := by simpa using hkk
            have HST := Lib.hid (laySyms_skip hks HX.out HS.out hkk HGO.out)
            go_wp2
            go_cut [54] from 26 to 101 (fun s54 wx => s54 = .bool true ∧ Below w6.heap.size w6 wx)
            case first =>
              go_region_with ((go_at_call 164; refine (kinds_at j kd _ hlt HDROP.out).mono ?_; rintro en w7 ⟨kg, rfl, hkc, hkg, hkz, hB7⟩; have m2' : w7.cell? ⟨sb, 2, none⟩ = some (.int .u8 yk) := cell_keep hB7 z6 m2))
              all_goals (go_wp2_with fail; go_meet; exact ⟨rfl, (Below.refl _ _).drew.trans hB7⟩)
            case rest =>
            obtain ⟨rfl, hB7⟩ := hcut
            obtain ⟨w7, rfl⟩ : ∃ w7 : World, w7 = wc := ⟨_, rfl⟩
            have HB7 := Lib.hid hB7
            replace HINV := Lib.hid (HINV.out.keep HB7.out)
            clear hkk
            go_wp2
            go_roundw
            case rel => exact ⟨k + 1, nn, out, sp, a, e, by omega, by omega, by go_num, rfl, rfl, HST.out, HSP.out, hal, hah, hel, heh, hpe, HINV.out⟩
            case measure => simp [intOf]; omega
        · have HF := laySyms_end hks HGO.out
          have hgo := HGO1.out
          rw [HF] at hgo
          simp only [] at hgo
          have HGO2 := Lib.hid (layKinds_end hgo HSP.out (by rw [HUI.out])); clear hgo HF HGO
          go_wp2
          go_roundw
          case rel => exact ⟨j + 1, out, sp, a, e, by omega, by go_num, rfl, HGO2.out.1, by have := insp_len HSP.out; omega, hal, hah, hel, heh, HGO2.out.2, HINV.out⟩
          case measure => simp [intOf]; omega
    · obtain rfl : j = 3 := by omega
      have hgo := HGO.out
      simp only [List.drop_succ_cons, List.drop_zero, layKinds] at hgo
      have HGO2 := Lib.hid hgo; clear hgo
      have HW : Hid (Below w.heap.size w wr) := HB0.out.trans (HINV.out.kb.below HB0.out.size (fun k hk hs => by subst hs; omega))
      have HRA := Lib.hid (addr_row (e := 133) (by rw [HINV.out.olen]; exact HINV.out.row) (by rw [HINV.out.olen]; omega) HINV.out.ook)
      have HRS := Lib.hid (span_row HINV.out.srow (by omega) HINV.out.sok)
      go_wp2
      go_ret3
      rw [← HGO2.out]
      exact ⟨_, _, rfl, HRA.out, HRS.out, HW.out⟩
end Go.Proofs.YtdjgkmpjhpnkeaaGreatDoor
namespace Go.Proofs.YtdjgkmpjhpnkeaaGreatDoor
open Go.RowKit Go.Maps Go.WideMaps
theorem refOf14_any (v v2 : Value) (l : List GObj) (ps : List GP) (w : World) (h : ObjsAt w v l) (h2 : RowAt 2 PlcR w v2 ps) (hlen : ps.length ≤ 1200) (hmr : mayAll l = mayAllR l) :
    Calls Tryz.prog 65 #[v, v2] w (OfPost w (layOf l ps)) := by
  by_cases hm : layMay l ps = true
  · have := refOf14_ok v v2 l ps w h h2 hlen hm (by simp only [layMay, Bool.and_eq_true] at hm; rw [← hmr]; exact hm.1)
    have e : layOf l ps = ofR (layKinds l ps [1, 3, 2] (List.replicate ps.length addr0) [] 256) := by unfold layOf ofR; rw [if_pos hm]; rfl
    rw [e]; exact this
  · have hm' : layMay l ps = false := by simpa using hm
    have HM := Lib.hid (ref14May_any v v2 l ps w h h2)
    have hmg : (mayGo l none ps && mayAllR l) = false := by rw [← hmr, Bool.and_comm]; exact hm'
    rw [hmg] at HM
    have HE : Hid (layOf l ps = ([], [], 2)) := by simp [Hid, layOf, hm']
    clear hm hm' hmg
    obtain ⟨p, cap, b, o, rfl, hcap, hmax, -, -⟩ := h
    obtain ⟨p2, cap2, b2, o2, rfl, hcap2, hmax2, hp2, hc2⟩ := h2
    clear hp2 hc2 hmr
    go_enter Tryz.func65, Tryz.ntmps65
    go_wp2_with (go_at_call 63; refine HM.out.mono ?_; rintro e w1 ⟨rfl, hB1⟩)
    go_ret3
    rw [HE.out]
    exact ⟨_, _, rfl, rowAt_nil, rowAt_nil, hB1⟩
def plcCells (p : GP) : List Value := [.int .i64 p.1, .int .i64 p.2]
theorem plcCells_len (p : GP) : (plcCells p).length = 2 := rfl
theorem plcCells_one {l : List GP} : ∀ u ∈ l.flatMap plcCells, u.oneCell' = true := by
  intro u hu
  obtain ⟨x, _, hx⟩ := List.mem_flatMap.1 hu
  simp only [plcCells, List.mem_cons, List.not_mem_nil, or_false] at hx
  rcases hx with rfl | rfl <;> rfl
theorem plc_news {w : World} {b o : Nat} {l : List GP} (h : ∀ i (hi : i < l.length), PlcR w b (o + i * 2) l[i]) : ∀ j u, (l.flatMap plcCells)[j]? = some u → w.cell? ((⟨b, o, none⟩ : Addr).add j) = some u := by
  refine row_news plcCells_len (by omega) fun i hi j u hu => ?_
  obtain ⟨-, h1, h2⟩ := h i hi
  match j, hu with
  | 0, hu => cases hu; exact h1
  | 1, hu => cases hu; exact h2
theorem plc_row {w : World} {v : Value} {base : Nat} {e : TypeId} {l : List GP} (h : w.ownsRow base e 2 v l.length (l.flatMap plcCells)) (hl : l.length ≤ 140737488355328) : RowAt 2 PlcR w v l :=
  owned_row plcCells_len h hl fun g o' i hi hg hcell => ⟨hg, hcell 0 _ (by omega) rfl, hcell 1 _ (by omega) rfl⟩
theorem info_plc : (Tryz.prog.info? 63).map (fun i => (i.zero, i.size, i.bytes)) = some (some (.agg #[.int .i64 0, .int .i64 0]), 2, 16) := by kernel_rfl
end Go.Proofs.YtdjgkmpjhpnkeaaGreatDoor
namespace Go.Proofs.YtdjgkmpjhpnkeaaGreatDoor
open Go.RowKit Go.Maps Go.WideMaps
set_option maxRecDepth 100000 in
set_option maxHeartbeats 4000000 in
theorem refWinners_any (v : Value) (l : List GObj) (w : World) (h : ObjsAt w v l) (hfl : (beginRR l).2 = 0 → (flat l).length ≤ 1024) :
    Calls Tryz.prog 135 #[v] w (WinPost w (if (beginRR l).2 = 0 then selPlaces (flat l) (flat l) else []) (beginRR l).2) := by
  have HK := Lib.hid (refCheck_any v l w h)
  have HO := Lib.hid h
  obtain ⟨p, cap, b, o, rfl, hcap, hmax, hp, hc⟩ := h
  have HC := Lib.hid hc; clear hc
  have HP := Lib.hid hp; clear hp
  generalize hbn : (beginRR l).1 = bn at HK
  clear hbn
  by_cases hc0 : (beginRR l).2 = 0
  · have hfl2 := hfl hc0
    rw [if_pos hc0]
    rw [hc0] at HK ⊢
    clear hfl
    have HC0 := Lib.hid hc0; clear hc0
    obtain ⟨i0, hin0, hz0, hz1, hz2⟩ := info_parts info_place
    go_enter Tryz.func135, Tryz.ntmps135
    go_wp2_with fail
    refine HK.out.mono ?_
    rintro e w1 ⟨rfl, hB⟩
    have HB1 := Lib.hid hB; clear hB
    have HI0 := Lib.hid hin0
    have HZ0 := Lib.hid hz0
    have HZ1 := Lib.hid hz1
    have HZ2 := Lib.hid hz2
    clear hin0 hz0 hz1 hz2
    go_wp2
    go_loopw [6, 7] (fun v6 v7 wr => ∃ (i : Nat) (pre : List Spot), i ≤ l.length ∧ v7 = .int .i64 i ∧ pre ++ objsFrom i (l.drop i) = flat l ∧ PRow w.heap.size wr v6 (selPlaces (flat l) pre) ∧ Below w.heap.size w wr) (fun _ v7 _ => l.length - (intOf v7).toNat)
    case atStart => exact ⟨0, [], Nat.zero_le _, rfl, rfl, PRow.nil _ _, HB1.out⟩
    case round =>
      obtain ⟨i, pre, hi, rfl, hcat, hown, hbel⟩ := hrel
      rename_i v6
      have HCAT := Lib.hid hcat; clear hcat
      have HOWN := Lib.hid hown; clear hown
      have HBW := Lib.hid hbel; clear hbel
      by_cases hlt : i < l.length
      · obtain rfl := HP.out (by omega)
        obtain ⟨vs, g0, g1, g2, hin⟩ := HC.out i hlt
        have G2 := Lib.hid g2
        have hcat := HCAT.out
        rw [objsFrom_drop hlt] at hcat
        generalize hx : l[i] = x at g1 hin hcat
        obtain ⟨xn, xs⟩ := x
        simp only [] at g1 hin hcat
        obtain ⟨⟨pS, capS, bS, oS, rfl, hcapS, hmaxS, hpS, hcS⟩, hnmx⟩ := hin
        clear HCAT hx g1 g2
        have HCAT := Lib.hid hcat; clear hcat
        have HCS := Lib.hid hcS; clear hcS
        have HPS := Lib.hid hpS; clear hpS
        go_wp2
        obtain ⟨wo, rfl⟩ : ∃ wo : World, wo = wr := ⟨_, rfl⟩
        go_loopw [6, 8] (fun v6 v8 wr => ∃ (k : Nat) (pre : List Spot), k ≤ xs.length ∧ v8 = .int .i64 k ∧ pre ++ (symsFrom i k (xs.drop k) ++ objsFrom (i + 1) (l.drop (i + 1))) = flat l ∧ PRow w.heap.size wr v6 (selPlaces (flat l) pre) ∧ Below w.heap.size w wr) (fun _ v8 _ => xs.length - (intOf v8).toNat)
        case atStart => exact ⟨0, pre, Nat.zero_le _, rfl, HCAT.out, HOWN.out, HBW.out⟩
        case round =>
          clear HCAT HBW HOWN
          obtain ⟨k, pre, hk, rfl, hcat, hown, hbel⟩ := hrel
          rename_i vcur
          have HCAT := Lib.hid hcat; clear hcat
          have HBW := Lib.hid hbel; clear hbel
          have HPR := Lib.hid hown; clear hown
          have g2 := cell_keep HBW.out g0 G2.out
          have g0' := size_keep HBW.out g0
          by_cases hks : k < xs.length
          · obtain rfl := HPS.out (by omega)
            obtain ⟨vr, vn, s0, s1, s2, s3, s4, s5, s6, s7, hsin⟩ := symR_keeps _ _ _ _ _ HBW.out (HCS.out k hks)
            obtain ⟨p1, q1, p2, q2, rfl, rfl⟩ := hsin.shape
            generalize hy : xs[k] = y at s1 s2 s3 s4 s5 s6 s7 hsin
            obtain ⟨yn, yb, yk, ys, yy, yr, yt⟩ := y
            simp only [] at s1 s2 s3 s4 s5 s6 s7 hsin
            clear hsin
            have HY := Lib.hid hy; clear hy
            have HST := Lib.hid (cat_step hks HY.out HCAT.out)
            have hplen : pre.length < 1024 := by
              have h1 := hfl2
              rw [← HCAT.out, List.length_append, List.length_append, symsFrom_length, List.length_drop] at h1
              omega
            have hsl := selPlaces_le (flat l) pre
            have HCON := Lib.hid (winnerR_any _ l yn ((wr.alloc (.cells #[.int .i64 i, .int .i64 k] 63)).alloc (.cells #[.string yn, .int .u8 yb, .int .u8 yk, .int .u32 ys, .string yy, .slice p1 yr.length q1, .slice p2 yt.length q2] 72)) (ObjsAt.keep ((HBW.out.alloc HBW.out.size _).alloc (by have := HBW.out.size; simp; omega) _) HO.out))
            have HSB : Hid (selB (flat l) ⟨i, k, ⟨yn, yb, yk, ys, yy, yr, yt⟩⟩ = (decide (yb = 0) || decide (winnerIn (flat l) yn.data.toList = some (i, k)))) := rfl
            generalize winnerIn (flat l) yn.data.toList = fp at HCON HSB
            rw [placeRet_eq] at HCON
            by_cases hb0 : yb = 0
            · have HSEL : Hid (selB (flat l) ⟨i, k, ⟨yn, yb, yk, ys, yy, yr, yt⟩⟩ = true) := by rw [HSB.out, hb0]; rfl
              subst hb0
              go_wp2_with (first | (go_at_call 217; refine HCON.out.mono ?_; rintro e w2 ⟨rfl, hB2⟩; obtain ⟨hc2, hf2⟩ := bcell hB2; have hz2 : wr.heap.size + 1 < w2.heap.size := (by have := hB2.size; (try simp at this); omega); have hz3 : wr.heap.size < w2.heap.size := (by omega); have HBX : Hid (Below wr.heap.size wr w2) := ((alloc_old wr _).alloc (by simp) _).trans (hB2.mono (by simp; omega)); clear hB2) | (at_builtin; refine wpList_append_own _ rfl _ _ 22 rfl w.heap.size 63 i0 (.agg #[.int .i64 0, .int .i64 0]) 2 16 Tryz.underlying22 HI0.out HZ0.out HZ1.out HZ2.out rfl (by decide) _ (selPlaces (flat l) pre).length (placeCells (selPlaces (flat l) pre)) rfl ?c0 _ 1 1 [.int .i64 i, .int .i64 k] rfl rfl ?c1 two_one ?c3 ?c4 ?c5 ?_))
              case c0 => exact PRow.keep ((HBX.out.alloc HBX.out.size _).alloc (by have := HBX.out.size; simp; omega) _) HPR.out
              case c1 => exact two_news (by simp [go_sem]) (by simp [go_sem])
              case c3 => unfold maxLen; omega
              case c4 => omega
              case c5 => have := HBW.out.size; have := HBX.out.size; simp; omega
              intro v3 w3 hown3 hgrow3 _
              have HOW3 := Lib.hid (PRow.snoc hown3); clear hown3
              have HBY := Lib.hid ((HBW.out.trans (HBX.out.mono HBW.out.size)).alloc (Nat.le_trans HBW.out.size HBX.out.size) (.cells #[.int .i64 ((fp.getD (0, 0)).1 : Nat), .int .i64 ((fp.getD (0, 0)).2 : Nat)] 63))
              have HB3 : Hid (Below w.heap.size w w3) := (HBY.out.alloc (by have := HBW.out.size; have := HBX.out.size; simp; omega) _).grown hgrow3 (by have := HBW.out.size; have := HBX.out.size; simp; omega) (fun q e => (World.ownsRow.lt HPR.out q e).1)
              clear hgrow3
              go_wp2
              go_roundw
              case rel => exact ⟨k + 1, _, by omega, by go_num, HST.out, (selPlaces_yes HSEL.out) ▸ HOW3.out, HB3.out⟩
              case measure => simp [intOf]; omega
            · have bb0 : (yb == 0) = false := by simpa using hb0
              by_cases hfp : fp = some (i, k)
              · have HSEL : Hid (selB (flat l) ⟨i, k, ⟨yn, yb, yk, ys, yy, yr, yt⟩⟩ = true) := by rw [HSB.out, hfp]; simp [Hid]
                clear hb0
                subst hfp
                simp only [Option.getD_some, Option.isSome_some] at HCON
                go_wp2_with (first | (go_at_call 217; refine HCON.out.mono ?_; rintro e w2 ⟨rfl, hB2⟩; obtain ⟨hc2, hf2⟩ := bcell hB2; have hz2 : wr.heap.size + 1 < w2.heap.size := (by have := hB2.size; (try simp at this); omega); have hz3 : wr.heap.size < w2.heap.size := (by omega); have HBX : Hid (Below wr.heap.size wr w2) := ((alloc_old wr _).alloc (by simp) _).trans (hB2.mono (by simp; omega)); clear hB2) | (at_builtin; refine wpList_append_own _ rfl _ _ 22 rfl w.heap.size 63 i0 (.agg #[.int .i64 0, .int .i64 0]) 2 16 Tryz.underlying22 HI0.out HZ0.out HZ1.out HZ2.out rfl (by decide) _ (selPlaces (flat l) pre).length (placeCells (selPlaces (flat l) pre)) rfl ?c0 _ 1 1 [.int .i64 i, .int .i64 k] rfl rfl ?c1 two_one ?c3 ?c4 ?c5 ?_))
                case c0 => exact PRow.keep ((HBX.out.alloc HBX.out.size _).alloc (by have := HBX.out.size; simp; omega) _) HPR.out
                case c1 => exact two_news (by simp [go_sem]) (by simp [go_sem])
                case c3 => unfold maxLen; omega
                case c4 => omega
                case c5 => have := HBW.out.size; have := HBX.out.size; simp; omega
                intro v3 w3 hown3 hgrow3 _
                have HOW3 := Lib.hid (PRow.snoc hown3); clear hown3
                have HBY := Lib.hid ((HBW.out.trans (HBX.out.mono HBW.out.size)).alloc (Nat.le_trans HBW.out.size HBX.out.size) (.cells #[.int .i64 i, .int .i64 k] 63))
                have HB3 : Hid (Below w.heap.size w w3) := (HBY.out.alloc (by have := HBW.out.size; have := HBX.out.size; simp; omega) _).grown hgrow3 (by have := HBW.out.size; have := HBX.out.size; simp; omega) (fun q e => (World.ownsRow.lt HPR.out q e).1)
                clear hgrow3
                go_wp2
                go_roundw
                case rel => exact ⟨k + 1, _, by omega, by go_num, HST.out, (selPlaces_yes HSEL.out) ▸ HOW3.out, HB3.out⟩
                case measure => simp [intOf]; omega
              · have HSEL : Hid (selB (flat l) ⟨i, k, ⟨yn, yb, yk, ys, yy, yr, yt⟩⟩ = false) := by rw [HSB.out]; simp [Hid, hb0, hfp]
                clear hb0
                cases fp with
                | none =>
                  simp only [Option.getD_none, Option.isSome_none] at HCON
                  go_wp2_with (go_at_call 217; refine HCON.out.mono ?_; rintro e w2 ⟨rfl, hB2⟩; obtain ⟨hc2, hf2⟩ := bcell hB2; have hz2 : wr.heap.size + 1 < w2.heap.size := (by have := hB2.size; (try simp at this); omega); have hz3 : wr.heap.size < w2.heap.size := (by omega); have HBX : Hid (Below wr.heap.size wr w2) := ((alloc_old wr _).alloc (by simp) _).trans (hB2.mono (by simp; omega)); clear hB2)
                  have HBY := Lib.hid (HBW.out.trans (HBX.out.mono HBW.out.size))
                  go_roundw
                  case rel => exact ⟨k + 1, _, by omega, by go_num, HST.out, (selPlaces_no HSEL.out).symm ▸ PRow.keep (HBX.out.alloc HBX.out.size _) HPR.out, HBY.out.alloc HBY.out.size _⟩
                  case measure => simp [intOf]; omega
                | some pq =>
                  obtain ⟨pa, pb⟩ := pq
                  simp only [Option.getD_some, Option.isSome_some] at HCON
                  have HNE : Hid (¬ (pa = i ∧ pb = k)) := fun ⟨h1, h2⟩ => hfp (by rw [h1, h2])
                  clear hfp
                  go_wp2_with (go_at_call 217; refine HCON.out.mono ?_; rintro e w2 ⟨rfl, hB2⟩; obtain ⟨hc2, hf2⟩ := bcell hB2; have hz2 : wr.heap.size + 1 < w2.heap.size := (by have := hB2.size; (try simp at this); omega); have hz3 : wr.heap.size < w2.heap.size := (by omega); have HBX : Hid (Below wr.heap.size wr w2) := ((alloc_old wr _).alloc (by simp) _).trans (hB2.mono (by simp; omega)); clear hB2)
                  all_goals
                    have HBY := Lib.hid (HBW.out.trans (HBX.out.mono HBW.out.size))
                    first
                    | (exfalso; exact HNE.out ⟨by omega, by omega⟩)
                    | (go_roundw
                       case rel => exact ⟨k + 1, _, by omega, by go_num, HST.out, (selPlaces_no HSEL.out).symm ▸ PRow.keep (HBX.out.alloc HBX.out.size _) HPR.out, HBY.out.alloc HBY.out.size _⟩
                       case measure => simp [intOf]; omega)
          · have hcat := HCAT.out
            rw [List.drop_of_length_le (by omega), symsFrom, List.nil_append] at hcat
            have HCAT2 := Lib.hid hcat; clear hcat
            go_wp2
            go_roundw
            case rel => exact ⟨i + 1, pre, by omega, by go_num, HCAT2.out, HPR.out, HBW.out⟩
            case measure => simp [intOf]; omega
      · have hcat := HCAT.out
        rw [List.drop_of_length_le (by omega), objsFrom, List.append_nil] at hcat
        subst hcat
        clear HCAT
        have hsl := selPlaces_le (flat l) (flat l)
        have HRW := Lib.hid (PRow.row HOWN.out (by omega))
        go_wp2
        go_ret2
        exact ⟨_, rfl, HRW.out, HBW.out⟩
  · rw [if_neg hc0]
    have hcb : ((beginRR l).2 != 0) = true := by simpa using hc0
    have HC0 := Lib.hid hc0; clear hc0 hfl
    generalize (beginRR l).2 = c at HK hcb HC0 ⊢
    go_enter Tryz.func135, Tryz.ntmps135
    go_wp2_with fail
    refine HK.out.mono ?_
    rintro e w1 ⟨rfl, hB⟩
    go_wp2_with fail
    go_ret2
    exact ⟨_, rfl, rowAt_nil, hB⟩
end Go.Proofs.YtdjgkmpjhpnkeaaGreatDoor
