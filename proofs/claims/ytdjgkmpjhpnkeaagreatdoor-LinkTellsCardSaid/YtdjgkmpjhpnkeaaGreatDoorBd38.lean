/- The walk of aediculelaw18.LinkTells. The walks of cmp.Compare at int, of cmp.Or, and of reach's order. slices.SortFunc at a row of places, by the order of reach. -/
import Derived.Test.YtdjgkmpjhpnkeaaGreatDoorBd24
import Derived.Test.YtdjgkmpjhpnkeaaGreatDoorBd35
import Derived.Test.YtdjgkmpjhpnkeaaGreatDoorBd36
import Derived.Test.YtdjgkmpjhpnkeaaGreatDoorBd37
import Derived.Test.YtdjgkmpjhpnkeaaGreatDoorBd32
import Derived.Test.YtdjgkmpjhpnkeaaGreatDoorBd05
import Derived.Test.YtdjgkmpjhpnkeaaGreatDoorProg
import Derived.Deep.RegionHeld3
import Derived.Sort.Grow
import Derived.Lib.Hide
import Derived.Deep.QuietTactic
import Derived.BigQuiet
import Derived.Outline
import Derived.StillTailTactics
import Derived.Test.YtdjgkmpjhpnkeaaGreatDoorSortLay
import Derived.Test.YtdjgkmpjhpnkeaaGreatDoorBd07
import Derived.Test.YtdjgkmpjhpnkeaaGreatDoorBd19
import Derived.Test.YtdjgkmpjhpnkeaaGreatDoorBd09
import Derived.Lib.Builder
namespace Go.Proofs.YtdjgkmpjhpnkeaaGreatDoor
open Go.RowKit Go.Maps Go.WideMaps
/-- what is kept all along -/
structure TSt (w : World) (v pv : Value) (l : List GObj) (ps : List GP) (wk : World) : Prop where
  objs : ObjsAt wk v l
  plcs : RowAt 2 PlcR wk pv ps
  below : Below w.heap.size w wk
theorem TSt.keep {w : World} {v pv : Value} {l : List GObj} {ps : List GP} {wk wk' : World} (h : TSt w v pv l ps wk) (hb : Below wk.heap.size wk wk') : TSt w v pv l ps wk' :=
  ⟨ObjsAt.keep hb h.objs, RowAt.keep plcR_keeps hb h.plcs, h.below.trans (hb.mono h.below.size)⟩
set_option maxRecDepth 100000 in
set_option maxHeartbeats 2000000 in
theorem tells18_guard (hsort : SortOk) (v pv : Value) (l : List GObj) (ps : List GP) (nm : ByteArray) (w : World) (h : ObjsAt w v l) (h2 : RowAt 2 PlcR w pv ps) (hn : nm.size ≤ 140737488355328) (hg : large13B l = true ∨ 1024 < nm.size ∨ 300 < ps.length) :
    Calls Tryz.prog 3 #[.string nm, pv, v] w fun e w' => e = .returned (.bool true) ∧ Below w.heap.size w w' := by
  have HSORT := Lib.hid hsort; clear hsort
  have HLG := Lib.hid (large13_any v l w h)
  obtain ⟨p, cap, rfl⟩ : ∃ (p : Option Addr) (cap : Nat), v = .slice p l.length cap := by obtain ⟨p, cap, b, o, rfl, _⟩ := h; exact ⟨p, cap, rfl⟩
  obtain ⟨p2, cap2, b2, o2, rfl, hcap2, hmax2, -, -⟩ := h2
  clear h
  by_cases hl : large13B l = true
  · rw [hl] at HLG
    clear hl hg
    go_enter Tryz.func3, Tryz.ntmps3
    go_wp2_with (first | (go_at_call 10; refine HLG.out.mono ?_; rintro e w1 ⟨rfl, hB1⟩) | (go_at_call 11; refine (alive18_any HSORT.out _).mono ?_; rintro e w2 ⟨rfl, hB2⟩))
    go_ret
    exact ⟨rfl, hB1.trans (hB2.mono hB1.size)⟩
  · have hl' : large13B l = false := by simpa using hl
    have hg2 := hg.resolve_left hl
    rw [hl'] at HLG
    clear hl hl' hg
    by_cases hnm : 1024 < nm.size
    · have hd : decide ((1024 : Int) < (nm.size : Int)) = true := by simp; omega
      have hd' : decide (1024 < nm.size) = true := by simp; omega
      clear hg2
      go_enter Tryz.func3, Tryz.ntmps3
      go_wp2_with (first | (go_at_call 10; refine HLG.out.mono ?_; rintro e w1 ⟨rfl, hB1⟩) | (go_at_call 11; refine (alive18_any HSORT.out _).mono ?_; rintro e w2 ⟨rfl, hB2⟩))
      go_ret
      exact ⟨rfl, hB1.trans (hB2.mono hB1.size)⟩
    · have hd : decide ((1024 : Int) < (nm.size : Int)) = false := by simp; omega
      have hd' : decide (1024 < nm.size) = false := by simp; omega
      have h3 := hg2.resolve_left hnm
      have hd3 : decide ((300 : Int) < (ps.length : Int)) = true := by simp; omega
      have hd4 : decide (300 < ps.length) = true := by simp; omega
      clear hg2 hnm
      go_enter Tryz.func3, Tryz.ntmps3
      go_wp2_with (first | (go_at_call 10; refine HLG.out.mono ?_; rintro e w1 ⟨rfl, hB1⟩) | (go_at_call 11; refine (alive18_any HSORT.out _).mono ?_; rintro e w2 ⟨rfl, hB2⟩))
      go_ret
      exact ⟨rfl, hB1.trans (hB2.mono hB1.size)⟩
set_option maxRecDepth 100000 in
set_option maxHeartbeats 8000000 in
theorem tells18_main (hsort : SortOk) (v pv : Value) (l : List GObj) (ps : List GP) (nm : ByteArray) (w : World) (h : ObjsAt w v l) (hbd : ObjsBd l) (h2 : RowAt 2 PlcR w pv ps) (hnm : nm.size ≤ 1024) (hL : large13B l = false) (hlen : ps.length ≤ 300) :
    Calls Tryz.prog 3 #[.string nm, pv, v] w fun e w' => e = .returned (.bool true) ∧ Below w.heap.size w w' := by
  have HSORT := Lib.hid hsort; clear hsort
  have hL8 : largeB l = false := by simp only [large13B, Bool.or_eq_false_iff] at hL; exact hL.1
  have HSR : Hid (SameR l) := ⟨(may_same hL8 (objsSz_of h)).symm, begin_same hL8 (objsSz_of h)⟩
  have HSM := Lib.hid (small_of h hL)
  have HT : Hid (TSt w v pv l ps w) := ⟨h, h2, Below.refl _ _⟩
  have HLG := Lib.hid (large13_any v l w h)
  rw [hL] at HLG
  have HBD := Lib.hid hbd; clear hbd hL hL8
  obtain ⟨p, cap, bb, o, rfl, hcap, hmax, hp, -⟩ := h
  obtain ⟨pP, cap2, b2, o2, rfl, hcap2, hmax2, hp2, -⟩ := h2
  have HP := Lib.hid hp; clear hp
  have HP2 := Lib.hid hp2; clear hp2
  have d1 : decide ((1024 : Int) < (nm.size : Int)) = false := by simp; omega
  have d1' : decide (1024 < nm.size) = false := by simp; omega
  have d2 : decide ((300 : Int) < (ps.length : Int)) = false := by simp; omega
  have d2' : decide (300 < ps.length) = false := by simp; omega
  go_enter Tryz.func3, Tryz.ntmps3
  go_wp2_with (go_at_call 10; refine HLG.out.mono ?_; rintro e w1 ⟨rfl, hB1⟩; replace HT := Lib.hid (HT.out.keep hB1); clear hB1)
  clear HLG
  refine (copyAll_any _ l _ HT.out.objs HBD.out).mono ?_
  rintro e w2 ⟨vo, us, rfl, hum, hsep, hB⟩
  have HO := Lib.hid (hsep.objs HT.out.objs hum)
  replace HT := Lib.hid (HT.out.keep hB)
  clear hB hsep hum us HBD
  obtain ⟨po, co, bo, oo, rfl, hco, -, hpo, -⟩ := HO.out
  have HPO := Lib.hid hpo; clear hpo
  go_wp2_with fail
  refine (full18_any HSORT.out _ l nm _ HO.out (by omega) HSM.out).mono ?_
  rintro e wa1 ⟨r1, hr1, ve1, vp1, vs1, va1, rfl, hla, hB⟩
  have HR1 := Lib.hid hr1; clear hr1
  obtain ⟨x1, x2, x3, x4, x5, x6, x7, x8, rfl, rfl, rfl, rfl⟩ := hla.shape
  have HX1 := Lib.hid (BoxL.new hla)
  have hBa := hB.trans ((alloc_old wa1 (.cells #[.int .u32 r1.1.man.pages, .slice x1 r1.1.man.exts.length x2, .slice x3 r1.1.man.ports.length x4, .bool r1.1.man.cons, .int .u32 r1.1.entry, .slice x5 r1.1.segs.length x6, .slice x7 r1.1.addrs.length x8] 37)).mono hB.size)
  replace HT := Lib.hid (HT.out.keep hBa); replace HO := Lib.hid (HO.out.keep hBa)
  clear hla hB hBa
  unfold linkV
  go_wp2_with fail
  generalize (wa1.alloc (.cells #[.int .u32 r1.1.man.pages, .slice x1 r1.1.man.exts.length x2, .slice x3 r1.1.man.ports.length x4, .bool r1.1.man.cons, .int .u32 r1.1.entry, .slice x5 r1.1.segs.length x6, .slice x7 r1.1.addrs.length x8] 37)) = w1_ at *
  generalize wa1.heap.size = bx1 at HX1 ⊢
  go_wp2_with fail
  refine (rFull18_any _ l nm _ HT.out.objs HSR.out HSM.out).mono ?_
  rintro e wa2 ⟨r2, hr2, ve2, vp2, vs2, va2, rfl, hla, hB⟩
  obtain rfl := fu18_eq HR1.out hr2
  clear HR1 hr2
  obtain ⟨x1, x2, x3, x4, x5, x6, x7, x8, rfl, rfl, rfl, rfl⟩ := hla.shape
  have HX2 := Lib.hid (BoxL.new hla)
  have hBa := hB.trans ((alloc_old wa2 (.cells #[.int .u32 r1.1.man.pages, .slice x1 r1.1.man.exts.length x2, .slice x3 r1.1.man.ports.length x4, .bool r1.1.man.cons, .int .u32 r1.1.entry, .slice x5 r1.1.segs.length x6, .slice x7 r1.1.addrs.length x8] 37)).mono hB.size)
  replace HT := Lib.hid (HT.out.keep hBa); replace HO := Lib.hid (HO.out.keep hBa)
  replace HX1 := Lib.hid (HX1.out.keep hBa)
  clear hla hB hBa
  unfold linkV
  go_wp2_with fail
  generalize (wa2.alloc (.cells #[.int .u32 r1.1.man.pages, .slice x1 r1.1.man.exts.length x2, .slice x3 r1.1.man.ports.length x4, .bool r1.1.man.cons, .int .u32 r1.1.entry, .slice x5 r1.1.segs.length x6, .slice x7 r1.1.addrs.length x8] 37)) = w2_ at *
  generalize wa2.heap.size = bx2 at HX2 ⊢
  go_wp2_with fail
  refine (special18_any HSORT.out _ l nm _ HO.out (by omega) HSM.out).mono ?_
  rintro e wa3 ⟨r3, hr3, ve3, vp3, vs3, va3, rfl, hla, hB⟩
  have HR3 := Lib.hid hr3; clear hr3
  obtain ⟨x1, x2, x3, x4, x5, x6, x7, x8, rfl, rfl, rfl, rfl⟩ := hla.shape
  have HX3 := Lib.hid (BoxL.new hla)
  have hBa := hB.trans ((alloc_old wa3 (.cells #[.int .u32 r3.1.man.pages, .slice x1 r3.1.man.exts.length x2, .slice x3 r3.1.man.ports.length x4, .bool r3.1.man.cons, .int .u32 r3.1.entry, .slice x5 r3.1.segs.length x6, .slice x7 r3.1.addrs.length x8] 37)).mono hB.size)
  replace HT := Lib.hid (HT.out.keep hBa); replace HO := Lib.hid (HO.out.keep hBa)
  replace HX1 := Lib.hid (HX1.out.keep hBa)
  replace HX2 := Lib.hid (HX2.out.keep hBa)
  clear hla hB hBa
  unfold linkV
  go_wp2_with fail
  generalize (wa3.alloc (.cells #[.int .u32 r3.1.man.pages, .slice x1 r3.1.man.exts.length x2, .slice x3 r3.1.man.ports.length x4, .bool r3.1.man.cons, .int .u32 r3.1.entry, .slice x5 r3.1.segs.length x6, .slice x7 r3.1.addrs.length x8] 37)) = w3_ at *
  generalize wa3.heap.size = bx3 at HX3 ⊢
  go_wp2_with fail
  refine (rSpecial18_any _ l nm _ HT.out.objs HSR.out HSM.out).mono ?_
  rintro e wa4 ⟨r4, hr4, ve4, vp4, vs4, va4, rfl, hla, hB⟩
  obtain rfl := sp18_eq HR3.out hr4
  clear HR3 hr4
  obtain ⟨x1, x2, x3, x4, x5, x6, x7, x8, rfl, rfl, rfl, rfl⟩ := hla.shape
  have HX4 := Lib.hid (BoxL.new hla)
  have hBa := hB.trans ((alloc_old wa4 (.cells #[.int .u32 r3.1.man.pages, .slice x1 r3.1.man.exts.length x2, .slice x3 r3.1.man.ports.length x4, .bool r3.1.man.cons, .int .u32 r3.1.entry, .slice x5 r3.1.segs.length x6, .slice x7 r3.1.addrs.length x8] 37)).mono hB.size)
  replace HT := Lib.hid (HT.out.keep hBa); replace HO := Lib.hid (HO.out.keep hBa)
  replace HX1 := Lib.hid (HX1.out.keep hBa)
  replace HX2 := Lib.hid (HX2.out.keep hBa)
  replace HX3 := Lib.hid (HX3.out.keep hBa)
  clear hla hB hBa
  obtain ⟨iP, r0, r1, r2, r3⟩ := info_parts info_plc
  have HA := Lib.hid (And.intro r0 (And.intro r1 (And.intro r2 r3)))
  clear r0 r1 r2 r3
  have HPR : Hid (∃ (b o : Nat), (0 < ps.length → pP = some ⟨b, o, none⟩) ∧ ∀ i (h : i < ps.length), PlcR (wa4.alloc (.cells #[.int .u32 r3.1.man.pages, .slice x1 r3.1.man.exts.length x2, .slice x3 r3.1.man.ports.length x4, .bool r3.1.man.cons, .int .u32 r3.1.entry, .slice x5 r3.1.segs.length x6, .slice x7 r3.1.addrs.length x8] 37)) b (o + i * 2) ps[i]) := by
    obtain ⟨_, _, b, o, e1, -, -, h4, h5⟩ := HT.out.plcs
    cases e1
    exact ⟨b, o, h4, h5⟩
  obtain ⟨qb, qo, hq1, hq2⟩ := HPR.out
  have HQ1 := Lib.hid hq1; have HQ2 := Lib.hid hq2
  clear hq1 hq2 HPR
  unfold linkV
  go_wp2_with (at_builtin; refine wpList_copy rfl _ _ 22 rfl 63 iP _ 2 16 Tryz.underlying22 HA.out.1 HA.out.2.1 HA.out.2.2.1 HA.out.2.2.2 rfl (by decide) rfl pP ps.length cap2 qb qo (ps.flatMap plcCells) rfl HQ1.out (flat_len plcCells_len ps) (fun _ => plc_news HQ2.out) plcCells_one ?_ ?_ ?_)
  · omega
  · omega
  intro vc w4c hown hgrow
  generalize (wa4.alloc (.cells #[.int .u32 r3.1.man.pages, .slice x1 r3.1.man.exts.length x2, .slice x3 r3.1.man.ports.length x4, .bool r3.1.man.cons, .int .u32 r3.1.entry, .slice x5 r3.1.segs.length x6, .slice x7 r3.1.addrs.length x8] 37)) = w4_ at *
  generalize wa4.heap.size = bx4 at HX4 ⊢
  have HCP := Lib.hid (plc_row hown (by omega))
  obtain ⟨pvc, cvc, rfl⟩ := own_shape hown
  have hB : Below w4_.heap.size w4_ w4c := (Below.refl _ _).grown hgrow (Nat.le_refl _) (fun k hk => by cases hk)
  replace HT := Lib.hid (HT.out.keep hB); replace HO := Lib.hid (HO.out.keep hB)
  replace HX1 := Lib.hid (HX1.out.keep hB)
  replace HX2 := Lib.hid (HX2.out.keep hB)
  replace HX3 := Lib.hid (HX3.out.keep hB)
  replace HX4 := Lib.hid (HX4.out.keep hB)
  clear hown hgrow hB HQ1 HQ2 HA
  go_wp2_with fail
  refine (linkOf_any HSORT.out _ _ l ps nm _ HO.out HCP.out (by omega) (by omega) HSM.out).mono ?_
  rintro e wa5 ⟨r5, hr5, ve5, vp5, vs5, va5, rfl, hla, hB⟩
  have HR5 := Lib.hid hr5; clear hr5
  obtain ⟨x1, x2, x3, x4, x5, x6, x7, x8, rfl, rfl, rfl, rfl⟩ := hla.shape
  have HX5 := Lib.hid (BoxL.new hla)
  have hBa := hB.trans ((alloc_old wa5 (.cells #[.int .u32 r5.1.man.pages, .slice x1 r5.1.man.exts.length x2, .slice x3 r5.1.man.ports.length x4, .bool r5.1.man.cons, .int .u32 r5.1.entry, .slice x5 r5.1.segs.length x6, .slice x7 r5.1.addrs.length x8] 37)).mono hB.size)
  replace HT := Lib.hid (HT.out.keep hBa); replace HO := Lib.hid (HO.out.keep hBa)
  replace HX1 := Lib.hid (HX1.out.keep hBa)
  replace HX2 := Lib.hid (HX2.out.keep hBa)
  replace HX3 := Lib.hid (HX3.out.keep hBa)
  replace HX4 := Lib.hid (HX4.out.keep hBa)
  clear hla hB hBa
  unfold linkV
  go_wp2_with fail
  generalize (wa5.alloc (.cells #[.int .u32 r5.1.man.pages, .slice x1 r5.1.man.exts.length x2, .slice x3 r5.1.man.ports.length x4, .bool r5.1.man.cons, .int .u32 r5.1.entry, .slice x5 r5.1.segs.length x6, .slice x7 r5.1.addrs.length x8] 37)) = w5_ at *
  generalize wa5.heap.size = bx5 at HX5 ⊢
  go_wp2_with fail
  refine (rOf18_any _ _ l ps nm _ HT.out.objs HT.out.plcs (by omega) HSR.out HSM.out).mono ?_
  rintro e wa6 ⟨r6, hr6, ve6, vp6, vs6, va6, rfl, hla, hB⟩
  obtain rfl := of18_eq HR5.out hr6
  clear HR5 hr6
  obtain ⟨x1, x2, x3, x4, x5, x6, x7, x8, rfl, rfl, rfl, rfl⟩ := hla.shape
  have HX6 := Lib.hid (BoxL.new hla)
  have hBa := hB.trans ((alloc_old wa6 (.cells #[.int .u32 r5.1.man.pages, .slice x1 r5.1.man.exts.length x2, .slice x3 r5.1.man.ports.length x4, .bool r5.1.man.cons, .int .u32 r5.1.entry, .slice x5 r5.1.segs.length x6, .slice x7 r5.1.addrs.length x8] 37)).mono hB.size)
  replace HT := Lib.hid (HT.out.keep hBa); replace HO := Lib.hid (HO.out.keep hBa)
  replace HX1 := Lib.hid (HX1.out.keep hBa)
  replace HX2 := Lib.hid (HX2.out.keep hBa)
  replace HX3 := Lib.hid (HX3.out.keep hBa)
  replace HX4 := Lib.hid (HX4.out.keep hBa)
  replace HX5 := Lib.hid (HX5.out.keep hBa)
  clear hla hB hBa
  unfold linkV
  go_wp2_with fail
  generalize (wa6.alloc (.cells #[.int .u32 r5.1.man.pages, .slice x1 r5.1.man.exts.length x2, .slice x3 r5.1.man.ports.length x4, .bool r5.1.man.cons, .int .u32 r5.1.entry, .slice x5 r5.1.segs.length x6, .slice x7 r5.1.addrs.length x8] 37)) = w6_ at *
  generalize wa6.heap.size = bx6 at HX6 ⊢
  have HBF : Hid (Below w6_.heap.size w6_ w6_) := Below.refl _ _
  go_loopw [26] (fun v26 wr => ∃ k : Nat, k ≤ l.length ∧ v26 = .int .i64 k ∧ Below w6_.heap.size w6_ wr) (fun v26 _ => l.length - (intOf v26).toNat)
  case atStart => exact ⟨0, Nat.zero_le _, rfl, Below.refl _ _⟩
  case round =>
    obtain ⟨k, hk, rfl, hbel⟩ := hrel
    have HB := Lib.hid hbel; clear hbel
    by_cases hlt : k < l.length
    · obtain rfl := HP.out (by omega)
      obtain rfl := HPO.out (by omega)
      obtain ⟨_, _, _, _, e1, -, -, f1, hc1⟩ := ObjsAt.keep HB.out HT.out.objs
      cases e1
      cases f1 (by omega)
      obtain ⟨_, _, _, _, e2, -, -, f2, hc2⟩ := ObjsAt.keep HB.out HO.out
      cases e2
      cases f2 (by omega)
      obtain ⟨vs, g0, g1, g2, hin1⟩ := hc1 k hlt
      obtain ⟨us, k0, k1, k2, hin2⟩ := hc2 k hlt
      clear hc1 hc2
      generalize l[k] = x at g1 g2 hin1 k1 k2 hin2
      have HCS := Lib.hid (sameObj_any x us vs wr.drew (ObjIn.keep (Below.refl _ _).drew hin2) (ObjIn.keep (Below.refl _ _).drew hin1))
      obtain ⟨⟨pS, capS, bS, oS, rfl, -⟩, -⟩ := hin1
      obtain ⟨⟨pT, capT, bT, oT, rfl, -⟩, -⟩ := hin2
      obtain ⟨xn, xs⟩ := x
      simp only [] at g1 g2 k1 k2 HCS
      go_wp2
      go_still_tail 8, (by kernel_rfl)
      change wpList _ _ _ _ _ wr.drew
      go_wp2_with (go_at_call 19; refine HCS.out.mono ?_; rintro e w2 ⟨rfl, hB2⟩)
      exact ⟨⟨k + 1, by omega, by go_num, HB.out.drew.trans (hB2.mono HB.out.size)⟩, by simp [intOf]; omega⟩
    · have HW := Lib.hid (HT.out.below.trans (HB.out.mono HT.out.below.size))
      replace HX1 := Lib.hid (HX1.out.keep HB.out); replace HX2 := Lib.hid (HX2.out.keep HB.out); replace HX3 := Lib.hid (HX3.out.keep HB.out); replace HX4 := Lib.hid (HX4.out.keep HB.out); replace HX5 := Lib.hid (HX5.out.keep HB.out); replace HX6 := Lib.hid (HX6.out.keep HB.out)
      clear HT HO HB
      obtain ⟨a0, a1, a2, a3, a4, a5, a6⟩ := boxL_sevens HX1.out
      obtain ⟨c0, c1, c2, c3, c4, c5, c6⟩ := boxL_sevens HX2.out
      go_wp2_with fail
      clear a0 a1 a2 a3 a4 a5 a6 c0 c1 c2 c3 c4 c5 c6
      refine (same18_any r1.1 _ _ _ _ _ _ _ _ _ HX1.out.2 HX2.out.2).mono ?_
      rintro e w11 ⟨rfl, hB⟩
      replace HX3 := Lib.hid (HX3.out.keep hB); replace HX4 := Lib.hid (HX4.out.keep hB); replace HX5 := Lib.hid (HX5.out.keep hB); replace HX6 := Lib.hid (HX6.out.keep hB)
      replace HW := Lib.hid (HW.out.trans (hB.mono HW.out.size)); clear hB
      obtain ⟨a0, a1, a2, a3, a4, a5, a6⟩ := boxL_sevens HX3.out
      obtain ⟨c0, c1, c2, c3, c4, c5, c6⟩ := boxL_sevens HX4.out
      go_wp2_with fail
      clear a0 a1 a2 a3 a4 a5 a6 c0 c1 c2 c3 c4 c5 c6
      refine (same18_any r3.1 _ _ _ _ _ _ _ _ _ HX3.out.2 HX4.out.2).mono ?_
      rintro e w12 ⟨rfl, hB⟩
      replace HX5 := Lib.hid (HX5.out.keep hB); replace HX6 := Lib.hid (HX6.out.keep hB)
      replace HW := Lib.hid (HW.out.trans (hB.mono HW.out.size)); clear hB
      obtain ⟨a0, a1, a2, a3, a4, a5, a6⟩ := boxL_sevens HX5.out
      obtain ⟨c0, c1, c2, c3, c4, c5, c6⟩ := boxL_sevens HX6.out
      go_wp2_with fail
      clear a0 a1 a2 a3 a4 a5 a6 c0 c1 c2 c3 c4 c5 c6
      refine (same18_any r5.1 _ _ _ _ _ _ _ _ _ HX5.out.2 HX6.out.2).mono ?_
      rintro e w13 ⟨rfl, hB⟩
      replace HW := Lib.hid (HW.out.trans (hB.mono HW.out.size)); clear hB
      go_wp2_with fail
      refine (alive18_any HSORT.out _).mono ?_
      rintro e w14 ⟨rfl, hB⟩
      replace HW := Lib.hid (HW.out.trans (hB.mono HW.out.size)); clear hB
      go_wp2_with fail
      go_ret
      exact ⟨rfl, HW.out⟩
theorem tells18_any (hsort : SortOk) (v pv : Value) (l : List GObj) (ps : List GP) (nm : ByteArray) (w : World) (h : ObjsAt w v l) (hbd : ObjsBd l) (h2 : RowAt 2 PlcR w pv ps) (hn : nm.size ≤ 140737488355328) :
    Calls Tryz.prog 3 #[.string nm, pv, v] w fun e w' => e = .returned (.bool true) ∧ Below w.heap.size w w' := by
  by_cases hg : large13B l = true ∨ 1024 < nm.size ∨ 300 < ps.length
  · exact tells18_guard hsort v pv l ps nm w h h2 hn hg
  · have h1 : large13B l = false := by
      cases hb : large13B l with
      | false => rfl
      | true => exact absurd (.inl hb) hg
    exact tells18_main hsort v pv l ps nm w h hbd h2 (Nat.le_of_not_lt fun h => hg (.inr (.inl h))) h1 (Nat.le_of_not_lt fun h => hg (.inr (.inr h)))
end Go.Proofs.YtdjgkmpjhpnkeaaGreatDoor
namespace Go.Proofs.YtdjgkmpjhpnkeaaGreatDoor
open Go.RowKit Go.Maps Go.WideMaps Go.Sort
theorem grow_three (w : World) (a b c : Obj) : ((w.alloc a).alloc b).drew.alloc c = grow (w.drewN 1) #[a, b, c] := by
  have h : ((grow w #[a]).alloc b).drew.alloc c = grow (grow (grow w.drew #[a]) #[b]) #[c] := by rw [alloc_eq_grow, alloc_eq_grow]; rfl
  rw [alloc_eq_grow w a, h, grow_grow, grow_grow]; rfl
def cmpI (a b : Int) : Int := if a < b then -1 else if b < a then 1 else 0
set_option maxHeartbeats 400000 in
theorem isNaN_any (a : Int) (w : World) : Calls Tryz.prog 211 #[.int .i64 a] w fun e w' => e = .returned (.bool false) ∧ w = w' := by
  go_enter Tryz.func211, Tryz.ntmps211
  go_wp2
  go_ret
  exact ⟨rfl, rfl⟩
set_option maxHeartbeats 400000 in
theorem compare_any (a b : Int) (w : World) : Calls Tryz.prog 128 #[.int .i64 a, .int .i64 b] w fun e w' => e = .returned (.int .i64 (cmpI a b)) ∧ w = w' := by
  have HN := Lib.hid isNaN_any
  unfold cmpI
  by_cases h1 : a < b
  · rw [if_pos h1]
    go_enter Tryz.func128, Tryz.ntmps128
    go_wp2_with (go_at_call 211; refine (HN.out _ _).mono ?_; rintro e w' ⟨rfl, rfl⟩)
    go_ret
    exact ⟨rfl, rfl⟩
  · rw [if_neg h1]
    by_cases h2 : b < a
    · rw [if_pos h2]
      go_enter Tryz.func128, Tryz.ntmps128
      go_wp2_with (go_at_call 211; refine (HN.out _ _).mono ?_; rintro e w' ⟨rfl, rfl⟩)
      go_ret
      exact ⟨rfl, rfl⟩
    · rw [if_neg h2]
      go_enter Tryz.func128, Tryz.ntmps128
      go_wp2_with (go_at_call 211; refine (HN.out _ _).mono ?_; rintro e w' ⟨rfl, rfl⟩)
      go_ret
      exact ⟨rfl, rfl⟩
def orI (a b : Int) : Int := if a = 0 then b else a
set_option maxHeartbeats 400000 in
theorem or_any (a b : Int) (g : Nat) (w : World) (h0 : w.cell? ⟨g, 0, none⟩ = some (.int .i64 a)) (h1 : w.cell? ⟨g, 1, none⟩ = some (.int .i64 b)) :
    Calls Tryz.prog 126 #[.slice (some ⟨g, 0, none⟩) 2 2] w fun e w' => e = .returned (.int .i64 (orI a b)) ∧ w = w' := by
  by_cases ha : a = 0
  · subst ha
    by_cases hb : b = 0
    · subst hb
      go_enter Tryz.func126, Tryz.ntmps126
      go_wp2
      refine wp_loop_rounds 3 ?_
      rw [rounds_succ]
      go_wp2
      rw [rounds_succ]
      go_wp2
      rw [rounds_succ]
      go_wp2
      go_ret
      exact ⟨rfl, rfl⟩
    · have b1 : (b != 0) = true := by simpa using hb
      go_enter Tryz.func126, Tryz.ntmps126
      go_wp2
      refine wp_loop_rounds 3 ?_
      rw [rounds_succ]
      go_wp2
      rw [rounds_succ]
      go_wp2
      go_ret
      exact ⟨rfl, rfl⟩
  · have b1 : (a != 0) = true := by simpa using ha
    have HO : Hid (orI a b = a) := by unfold orI; rw [if_neg ha]; rfl
    clear ha
    go_enter Tryz.func126, Tryz.ntmps126
    go_wp2
    refine wp_loop_rounds 3 ?_
    rw [rounds_succ]
    go_wp2
    go_ret
    exact ⟨ret_int HO.out.symm, rfl⟩
/-- which of two places stands ahead -/
def cmpP (x y : Int × Int) : Int := orI (cmpI x.1 y.1) (cmpI x.2 y.2)
set_option maxHeartbeats 1000000 in
theorem order_any (x y : Int × Int) (w : World) : Calls Tryz.prog 140 #[.agg #[.int .i64 x.1, .int .i64 x.2], .agg #[.int .i64 y.1, .int .i64 y.2]] w fun e w' => e = .returned (.int .i64 (cmpP x y)) ∧ ∃ q os', w' = grow (w.drewN q) os' := by
  obtain ⟨x1, x2⟩ := x
  obtain ⟨y1, y2⟩ := y
  have HC := Lib.hid compare_any
  have HO := Lib.hid or_any
  unfold cmpP
  simp only []
  go_enter Tryz.func140, Tryz.ntmps140
  go_wp2
  go_region_held3 (fun w' => w'.cell? ⟨w.heap.size, 0, none⟩ = some (.int .i64 x1) ∧ w'.cell? ⟨w.heap.size, 1, none⟩ = some (.int .i64 x2) ∧ w'.cell? ⟨w.heap.size + 1, 0, none⟩ = some (.int .i64 y1) ∧ w'.cell? ⟨w.heap.size + 1, 1, none⟩ = some (.int .i64 y2)) (go_keep) (first | (go_at_call 128; refine (HC.out _ _ _).mono ?_; rintro e w' ⟨rfl, rfl⟩) | (go_at_call 126; refine (HO.out (cmpI x1 y1) (cmpI x2 y2) _ _ ?_ ?_).mono ?_; (simp [go_sem]); (simp [go_sem]); rintro e w' ⟨rfl, rfl⟩))
  go_wp2
  go_ret
  exact ⟨rfl, 1, _, grow_three w _ _ _⟩
end Go.Proofs.YtdjgkmpjhpnkeaaGreatDoor
namespace Go.Proofs.YtdjgkmpjhpnkeaaGreatDoor
open Go.RowKit Go.Maps Go.Shelf Go.Sort Go.Lib
def toI (p : PP) : Int × Int := ((p.1 : Nat), (p.2 : Nat))
def backI (x : Int × Int) : PP := (x.1.toNat, x.2.toNat)
theorem backI_toI (p : PP) : backI (toI p) = p := by simp [backI, toI]
def encI (x : Int × Int) : List Value := [.int .i64 x.1, .int .i64 x.2]
def plti (x y : Int × Int) : Prop := x.1 < y.1 ∨ (x.1 = y.1 ∧ x.2 < y.2)
instance (x y : Int × Int) : Decidable (plti x y) := by unfold plti; exact inferInstance
theorem cmpP_lt (x y : Int × Int) : cmpP x y < 0 ↔ plti x y := by
  unfold cmpP orI cmpI plti
  by_cases h1 : x.1 < y.1
  · simp [h1]
  · by_cases h2 : y.1 < x.1
    · simp [h1, h2]; omega
    · have e : x.1 = y.1 := by omega
      by_cases h3 : x.2 < y.2
      · simp [e, h3]
      · by_cases h4 : y.2 < x.2 <;> simp [e, h3, h4]
theorem lt_cmpP (x y : Int × Int) : Go.Proofs.ltOf cmpP x y = decide (plti x y) := by
  unfold Go.Proofs.ltOf
  simp only [cmpP_lt]
theorem swoP : SWO (Go.Proofs.ltOf cmpP) where
  irrefl x := by rw [lt_cmpP]; simp [plti]
  trans x y z h1 h2 := by rw [lt_cmpP, decide_eq_true_eq] at *; unfold plti at *; omega
  ntrans x y z h1 h2 := by rw [lt_cmpP, decide_eq_false_iff_not] at *; unfold plti at *; omega
theorem orderLays (blk off size : Nat) (w : World) : Go.Proofs.CmpLays Tryz.prog 140 #[] encI 2 cmpP blk off size w := fun _ _ _ _ x y => order_any x y _
theorem placeCells_enc (ps : List PP) : placeCells ps = (ps.map toI).flatMap encI := by
  induction ps with
  | nil => rfl
  | cons p r ih => simp only [placeCells, List.flatMap_cons, List.map_cons] at *; rw [ih]; rfl
theorem flat2_get : ∀ (l : List (Int × Int)) (t : Nat), t < l.length * 2 → (l.flatMap encI)[t]? = some ((encI (l.toArray[t / 2]!))[t % 2]!)
  | x :: r, 0, _ => by simp [encI]
  | x :: r, 1, _ => by simp [encI]
  | x :: r, t + 2, h => by
    have ih := flat2_get r t (by simp at h; omega)
    have e1 : (t + 2) / 2 = t / 2 + 1 := by omega
    have e2 : (t + 2) % 2 = t % 2 := by omega
    rw [e1, e2, List.flatMap_cons, show encI x = [.int .i64 x.1, .int .i64 x.2] from rfl]
    simp only [List.cons_append, List.nil_append, List.getElem?_cons_succ]
    rw [ih]
    congr 3
    simp [Array.getElem!_eq_getD, Array.getD]
  | [], t, h => by simp at h
theorem flatK_get (l : List (Int × Int)) (t : Nat) (h : t < l.length * 2) : (l.flatMap encI)[t]? = some ((flatK encI 2 l.toArray)[t]!) := by
  rw [flat2_get l t h, get_flatK encI 2 l.toArray t (by simpa using h)]
theorem holds_of_row {base : Nat} {w : World} {ps : List PP} {g cap : Nat} (h : PRow base w (.slice (some ⟨g, 0, none⟩) ps.length cap) ps) : HoldsK encI 2 w g 0 (ps.map toI).toArray := by
  intro j hj
  rw [size_flatK] at hj
  have hj' : j < (ps.map toI).length * 2 := by simpa using hj
  have h1 := flatK_get _ j hj'
  rw [← placeCells_enc] at h1
  have h2 := h.cells (g := g) rfl j _ h1
  rw [add_zero_eq] at h2
  refine ⟨by rw [Nat.zero_add]; exact h2, ?_⟩
  rcases h.2 with ⟨h3, -⟩ | ⟨g', cap', cur, h3, -, h4, -⟩
  · cases h3
  · cases h3; exact Lib.frozen_of_heap h4 _
theorem cells_len (ps : List PP) : (placeCells ps).length = ps.length * 2 := by
  induction ps with
  | nil => rfl
  | cons p r ih => simp only [placeCells, List.flatMap_cons, List.length_append, List.length_cons, List.length_nil] at *; omega
theorem sorted_block {w : World} {g n : Nat} {D : Array (Int × Int)} {os : Array Obj} {cur : Array Value} {e : TypeId} (h : w.heap[g]? = some (.cells cur e (0, 0))) :
    (sortWorldK encI 2 w g 0 n D os).heap[g]? = some (.cells (putCells id 0 (flatK encI 2 D) cur) e (0, 0)) := by
  have hlt := (Array.getElem?_eq_some_iff.1 h).1
  unfold sortWorldK putRowK putRow grow mapBlock Sort.ahead
  rw [Array.getElem?_append_left (by simpa using hlt), Array.getElem?_modify]
  simp only [if_true]
  rw [h]
  rfl
theorem sorted_other {w : World} {g n : Nat} {D : Array (Int × Int)} {os : Array Obj} {k : Nat} (hk : k < w.heap.size) (hne : k ≠ g) : (sortWorldK encI 2 w g 0 n D os).heap[k]? = w.heap[k]? := by
  unfold sortWorldK putRowK putRow grow mapBlock Sort.ahead
  rw [Array.getElem?_append_left (by simpa using hk), Array.getElem?_modify, if_neg (fun e => hne e.symm)]
theorem sorted_size {w : World} {g n : Nat} {D : Array (Int × Int)} {os : Array Obj} : w.heap.size ≤ (sortWorldK encI 2 w g 0 n D os).heap.size := by
  unfold sortWorldK putRowK putRow grow mapBlock Sort.ahead
  simp
theorem row_put {base : Nat} {w : World} {ps ps' : List PP} {g cap n : Nat} {os : Array Obj} (h : PRow base w (.slice (some ⟨g, 0, none⟩) ps.length cap) ps) (hl : ps'.length = ps.length) :
    PRow base (sortWorldK encI 2 w g 0 n (ps'.map toI).toArray os) (.slice (some ⟨g, 0, none⟩) ps.length cap) ps' := by
  refine ⟨cells_len ps', ?_⟩
  rcases h.2 with ⟨h3, -⟩ | ⟨g', cap', cur, h3, hb, h4, h5, h6, h7, h8⟩
  · cases h3
  · cases h3
    refine .inr ⟨g, cap, putCells id 0 (flatK encI 2 (ps'.map toI).toArray) cur, by rw [hl], hb, sorted_block h4, by omega, h6, by simp [putCells, h7], ?_⟩
    apply List.ext_getElem?
    intro t
    by_cases ht : t < ps'.length * 2
    · have h9 := flatK_get (ps'.map toI) t (by simpa using ht)
      rw [← placeCells_enc] at h9
      rw [h9, List.getElem?_take, if_pos ht]
      have hc : t < cur.size := by omega
      simp [putCells, hc]
      omega
    · rw [List.getElem?_eq_none (by simp; omega), List.getElem?_eq_none (by rw [cells_len]; omega)]
theorem perm_back {D' : Array (Int × Int)} {ps : List PP} (h : D'.toList.Perm (ps.map toI)) : ∃ ps' : List PP, ps'.Perm ps ∧ D' = (ps'.map toI).toArray := by
  refine ⟨D'.toList.map backI, ?_, ?_⟩
  · have := h.map backI
    rw [List.map_map] at this
    have e : (backI ∘ toI) = id := by funext p; exact backI_toI p
    rwa [e, List.map_id] at this
  · apply Array.ext'
    rw [List.map_map]
    have : ∀ x ∈ D'.toList, (toI ∘ backI) x = x := fun x hx => by
      obtain ⟨p, -, rfl⟩ := List.mem_map.1 (h.mem_iff.1 hx)
      simp [backI_toI]
    rw [List.map_congr_left this, List.map_id']
theorem sorted_pw {ps' : List PP} {n : Nat} (hn : n = ps'.length) (h : SortedIn (Go.Proofs.ltOf cmpP) 0 n (ps'.map toI).toArray) : ps'.Pairwise (fun a b => ¬ plt b a) := by
  rw [List.pairwise_iff_getElem]
  intro i j hi hj hij hp
  have := h i j (by omega) hij (by omega)
  rw [lt_cmpP, decide_eq_false_iff_not] at this
  apply this
  have e1 : (ps'.map toI).toArray[i]! = toI ps'[i] := by rw [getElem!_pos _ i (by simpa using hi)]; simp
  have e2 : (ps'.map toI).toArray[j]! = toI ps'[j] := by rw [getElem!_pos _ j (by simpa using hj)]; simp
  rw [e1, e2]
  unfold plt at hp
  unfold plti toI
  simp only []
  omega
theorem order_enters (args : Array Value) (w : World) : (callFunc 140 args).run Tryz.prog w = .ok (.enter 140 args) w := enters_of Tryz.func140 (by kernel_rfl) rfl args w
set_option maxRecDepth 100000 in
theorem sort_ok : SortOk := by
  intro base v ps w h hl
  by_cases h0 : ps.length = 0
  · obtain ⟨p, c, rfl⟩ := own_shape h
    obtain rfl : ps = [] := List.eq_nil_of_length_eq_zero h0
    have hcon := Go.Proofs.AnyF.slices_SortFunc_none Tryz.sortPlaces p c (.func (.func 140) #[] #[]) w
    change Calls Tryz.prog 139 _ _ _ at hcon
    refine hcon.mono ?_
    rintro e w' ⟨rfl, rfl⟩
    exact ⟨rfl, [], .refl _, List.Pairwise.nil, h, KB.refl _ _⟩
  · obtain ⟨g, cap, rfl, hbg, hgl⟩ := World.ownsRow.form h (by omega)
    have hsz : ((ps.map toI).toArray).size = ps.length := by simp
    have hcon := Go.Proofs.AnyQ.slices_SortFunc Tryz.sortPlaces 2 Tryz.isAgg63 Tryz.sizeOf63 encI (fun _ => rfl) (fun x v hv => by simp [encI] at hv; rcases hv with rfl | rfl <;> rfl) cmpP swoP 140 #[] g 0 cap (ps.map toI).toArray w order_enters (orderLays g 0 _ w) (holds_of_row h) hgl (by rw [hsz]; omega)
    change Calls Tryz.prog 139 _ _ _ at hcon
    rw [hsz] at hcon
    refine hcon.mono ?_
    rintro e w' ⟨rfl, d', n, os, hp, hs, rfl⟩
    have hpp : d'.toList.Perm (ps.map toI) := by
      have h3 := hp.2.2
      have hz := hp.1
      rw [hsz] at hz
      rw [Array.extract_eq_self_of_le (by omega), Array.extract_eq_self_of_le (by rw [hsz]; omega)] at h3
      exact h3
    obtain ⟨ps', hp1, rfl⟩ := perm_back hpp
    refine ⟨rfl, ps', hp1, sorted_pw hp1.length_eq.symm hs, row_put h hp1.length_eq, ⟨rfl, rfl, rfl, sorted_size, fun k hk hne => sorted_other hk fun e => hne (by rw [e]; rfl)⟩⟩
end Go.Proofs.YtdjgkmpjhpnkeaaGreatDoor
