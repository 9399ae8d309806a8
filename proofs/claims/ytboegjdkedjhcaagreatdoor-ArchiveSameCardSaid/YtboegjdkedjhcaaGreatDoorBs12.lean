/- The walk of lay.may. The walk of lay.Of. The walks of lay.Find and lay.At, and lay.Of whatever it is given. The walks of slices.Contains and slices.ContainsFunc at places, and of link's closure. -/
import Derived.Test.YtboegjdkedjhcaaGreatDoorBs10
import Derived.Test.YtboegjdkedjhcaaGreatDoorBs07
import Derived.OwnWalk
import Derived.Deep.RegionHeld3
import Derived.Maps.AppendAt
import Derived.Test.YtboegjdkedjhcaaGreatDoorBs04
namespace Go.Proofs.YtboegjdkedjhcaaGreatDoor
set_option maxRecDepth 100000
section
open Go.RowKit Go.Maps Go.WideMaps
def prevP (ps : List GP) (k : Nat) : Option GP := if k = 0 then none else ps[k - 1]?
theorem mayGo_yes {l : List GObj} {ps : List GP} {k : Nat} {p : GP} {b : Bool} (hk : k < ps.length) (hp : ps[k] = p) (h : mayGo l (prevP ps k) (ps.drop k) = b) (h1 : (symAt l p).isSome = true) (h2 : ∀ q, prevP ps k = some q → ordP q p = true) : mayGo l (prevP ps (k + 1)) (ps.drop (k + 1)) = b := by
 rw [List.drop_eq_getElem_cons hk, hp, mayGo, h1] at h
 have h3 : ordO (prevP ps k) p = true := by
  cases hq : prevP ps k with
  | none => rfl
  | some q => exact h2 q hq
 rw [h3] at h; simpa [prevP, List.getElem?_eq_getElem hk, hp] using h
theorem mayGo_no {l : List GObj} {ps : List GP} {k : Nat} {p : GP} {b : Bool} (hk : k < ps.length) (hp : ps[k] = p) (h : mayGo l (prevP ps k) (ps.drop k) = b) (h1 : (symAt l p).isSome = false ∨ ∃ q, prevP ps k = some q ∧ ordP q p = false) : false = b := by
 rw [List.drop_eq_getElem_cons hk, hp, mayGo] at h; rcases h1 with h1 | ⟨q, h1, h2⟩
 ·simpa [h1] using h
 ·simpa [h1, h2, ordO] using h
set_option maxHeartbeats 4000000 in
theorem layMay_any (v v2 : Value) (l : List GObj) (ps : List GP) (w : World) (h : ObjsAt w v l) (h2 : RowAt 2 PlcR w v2 ps) :
 Calls Tryz.prog 150 #[v, v2] w fun e w' => e = .returned (.bool (layMay l ps)) ∧ Below w.heap.size w w' := by
 have HO := Lib.hid h; have HCK := Lib.hid (resCheck_any v l w h); obtain ⟨p, cap, b, o, rfl, hcap, hmax, -, -⟩ := h; obtain ⟨p2, cap2, b2, o2, rfl, hcap2, hmax2, hp2, hc2⟩ := h2; have HP := Lib.hid hp2; clear hp2; have HC := Lib.hid hc2; clear hc2
 by_cases hm : mayAll l = true
 case neg =>
  have hm' : mayAll l = false := by simpa using hm
  have hb : beginR l = (emptyB, 2) := by simp [beginR, hm']
  rw [hb] at HCK; have HF : Hid (layMay l ps = false) := by simp [Hid, layMay, hm']
  clear hm hm' hb; go_enter Tryz.func150, Tryz.ntmps150; go_wp2_with (go_at_call 143; refine HCK.out.mono ?_; rintro e w1 ⟨rfl, hB1⟩); go_ret; exact ⟨ret_bool HF.out.symm, hB1⟩
 have hbn : ((beginR l).2 == 2) = false := by
  unfold beginR; rw [if_pos hm]; split <;> simp
 have HLM : Hid (layMay l ps = mayGo l none ps) := by simp [Hid, layMay, hm]
 generalize beginR l = br at HCK hbn; obtain ⟨bn, bc⟩ := br; simp only [] at HCK hbn; clear hm; go_enter Tryz.func150, Tryz.ntmps150; go_wp2_with (go_at_call 143; refine HCK.out.mono ?_; rintro e w1 ⟨rfl, hB1⟩); have HB1 := Lib.hid hB1; clear hB1 HCK
 go_loopw [20] (fun v20 wr => ∃ k : Nat, k ≤ ps.length ∧ v20 = .int .i64 k ∧ mayGo l (prevP ps k) (ps.drop k) = layMay l ps ∧ Below w.heap.size w wr) (fun v20 _ => ps.length - (intOf v20).toNat)
 case atStart => exact ⟨0, Nat.zero_le _, rfl, HLM.out.symm, HB1.out⟩
 case round =>
  obtain ⟨k, hk, rfl, hgo, hbel⟩ := hrel; have HGO := Lib.hid hgo; clear hgo; have HB := Lib.hid hbel; clear hbel
  by_cases hlt : k < ps.length
  ·obtain rfl := HP.out (by omega)
   obtain ⟨g0, g1, g2⟩ := plcR_keeps _ _ _ _ _ HB.out (HC.out k hlt); generalize hx : ps[k] = x at g1 g2; have HX := Lib.hid hx; clear hx
   have HPR : Hid (∀ (hk1 : 0 < k), ∃ q : GP, prevP ps k = some q ∧ wr.cell? ⟨b2, o2 + (k - 1) * 2, none⟩ = some (.int .i64 q.1) ∧ wr.cell? ⟨b2, o2 + (k - 1) * 2 + 1, none⟩ = some (.int .i64 q.2)) := fun hk1 => by
    obtain ⟨-, e1, e2⟩ := plcR_keeps _ _ _ _ _ HB.out (HC.out (k - 1) (by omega))
    exact ⟨_, by simp [prevP, show ¬ k = 0 by omega, List.getElem?_eq_getElem (show k - 1 < ps.length by omega)], e1, e2⟩
   have HCON := Lib.hid (laySym_any _ l x (wr.alloc (.cells #[.int .i64 x.1, .int .i64 x.2] 185)) (ObjsAt.keep (HB.out.alloc HB.out.size _) HO.out)); obtain ⟨x1, x2⟩ := x; simp only [] at g1 g2 HCON; go_wp2_with fail; refine HCON.out.mono ?_; clear HCON; rintro e w2 ⟨hsp, hB2⟩; have HB12 : Hid (Below wr.heap.size wr w2) := (alloc_old wr _).trans (hB2.mono (by simp))
   have HB2 : Hid (Below w.heap.size w w2) := (HB.out.alloc HB.out.size _).trans (hB2.mono (by have := HB.out.size; simp; omega))
   have k0 : w2.cell? ⟨wr.heap.size, 0, none⟩ = some (.int .i64 x1) := by rw [hB2.cell (by simp)]; simp [go_sem]
   have k1 : w2.cell? ⟨wr.heap.size, 1, none⟩ = some (.int .i64 x2) := by rw [hB2.cell (by simp)]; simp [go_sem]
   have z2 : wr.heap.size < w2.heap.size := by have := hB2.size; simp at this; omega
   cases hs : symAt l (x1, x2) with
   | none =>
     rw [hs] at hsp; simp only [] at hsp; subst hsp; have HF := Lib.hid (mayGo_no hlt HX.out HGO.out (.inl (by rw [hs]; rfl)))
     clear hB2 hs; go_wp2; go_ret; exact ⟨ret_bool HF.out, HB2.out.alloc HB2.out.size _⟩
   | some s =>
     rw [hs] at hsp; obtain ⟨vr, vn, rfl, hin⟩ := hsp; obtain ⟨p1, q1, p3, q3, rfl, rfl⟩ := hin.shape; have HS1 : Hid ((symAt l (x1, x2)).isSome = true) := by rw [hs]; rfl
     clear hB2 hs hin; obtain ⟨yn, yb, yk, ys, yy, yr, yt⟩ := s; simp only [symV]; go_wp2; generalize hw3 : w2.alloc (.cells #[.string yn, .int .u8 yb, .int .u8 yk, .int .u32 ys, .string yy, .slice p1 yr.length q1, .slice p3 yt.length q3] 55) = w3; have HB3 : Hid (Below w2.heap.size w2 w3) := by subst hw3; exact alloc_old _ _
     clear hw3; replace k0 := cell_keep HB3.out z2 k0; replace k1 := cell_keep HB3.out z2 k1; have HBW : Hid (Below w.heap.size w w3) := HB2.out.trans (HB3.out.mono HB2.out.size)
     by_cases hk0 : k = 0
     ·subst hk0; have HST := Lib.hid (mayGo_yes hlt HX.out HGO.out HS1.out (fun q hq => (by simp [prevP] at hq)))
      go_quiet (fail)
      go_wp2; go_roundw
      case rel => exact ⟨1, by omega, by go_num, HST.out, below_drewN HBW.out _⟩
      case measure => simp [intOf]; omega
     ·obtain ⟨q, hq, e1, e2⟩ := HPR.out (by omega)
      have HQ := Lib.hid hq; clear hq; have HB13 : Hid (Below wr.heap.size wr w3) := HB12.out.trans (HB3.out.mono HB12.out.size); replace e1 := cell_keep HB13.out g0 e1; replace e2 := cell_keep HB13.out g0 e2; clear HPR HB12 HB13 HB3; obtain ⟨qa, qb⟩ := q; simp only [] at e1 e2; have dk : decide ((0 : Int) < (k : Int)) = true := by simp; omega
      have dk' : decide (0 < k) = true := by simp; omega
      have j1 : IntKind.i64.wrap ((k : Int) - 1) = (k : Int) - 1 := IntWalk.i64_in _ (by omega)
      have j2 : (0 : Int) ≤ (k : Int) - 1 := by omega
      have j3 : ((k : Int) - 1).toNat = k - 1 := by omega
      have j4 : (k : Int) - 1 < (ps.length : Int) := by omega
      by_cases c1 : x1 < qa
      ·have d1 : decide (x1 < qa) = true := by simpa using c1
       have HF := Lib.hid (mayGo_no hlt HX.out HGO.out (.inr ⟨_, HQ.out, by simp [ordP, c1]⟩))
       go_quiet (fail)
       clear j1 j2 j3; go_wp2; go_ret; exact ⟨ret_bool HF.out, below_drewN HBW.out _⟩
      ·have d1 : decide (x1 < qa) = false := by simpa using c1
       by_cases c2 : x1 = qa
       ·subst c2
        by_cases c3 : x2 ≤ qb
        ·have d3 : decide (x2 ≤ qb) = true := by simpa using c3
         have HF := Lib.hid (mayGo_no hlt HX.out HGO.out (.inr ⟨_, HQ.out, by simp [ordP, c3]⟩))
         go_quiet (fail)
         clear j1 j2 j3; go_wp2; go_ret; exact ⟨ret_bool HF.out, below_drewN HBW.out _⟩
        ·have d3 : decide (x2 ≤ qb) = false := by simpa using c3
         have HST := Lib.hid (mayGo_yes hlt HX.out HGO.out HS1.out (fun q hq => (by rw [HQ.out] at hq; cases hq; simp [ordP]; omega)))
         go_quiet (fail)
         clear j1 j2 j3; go_wp2; go_roundw
         case rel => exact ⟨k + 1, by omega, by go_num, HST.out, below_drewN HBW.out _⟩
         case measure => simp [intOf]; omega
       ·have d2 : (x1 == qa) = false := by simpa using c2
        have HST := Lib.hid (mayGo_yes hlt HX.out HGO.out HS1.out (fun q hq => (by rw [HQ.out] at hq; cases hq; simp [ordP, c2]; omega)))
        go_quiet (fail)
        clear j1 j2 j3; go_wp2; go_roundw
        case rel => exact ⟨k + 1, by omega, by go_num, HST.out, below_drewN HBW.out _⟩
        case measure => simp [intOf]; omega
  ·have HF := HGO.out; rw [List.drop_of_length_le (by omega), mayGo] at HF
   have HF2 := Lib.hid HF; clear HF; go_wp2; go_ret; exact ⟨ret_bool HF2.out, HB.out⟩
end
section
open Go.RowKit Go.Maps Go.WideMaps
def OfPost (w : World) (r : List GAddr × List GSpan × Int) (e : Ending) (w' : World) : Prop := ∃ va vs, e = .returned (.tuple #[va, vs, .int .i64 r.2.2]) ∧ RowAt 3 AddrR w' va r.1 ∧ RowAt 3 SpanR w' vs r.2.1 ∧ Below w.heap.size w w'
def ofR (R : Option (List GAddr × List GSpan)) : List GAddr × List GSpan × Int := match R with | some (a, s) => (a, s, 0) | none => ([], [], 140)
theorem info_addr : (Tryz.prog.info? 259).map (fun i => (i.zero, i.size, i.bytes)) = some (some (.agg #[.int .i64 0, .int .i64 0, .int .u32 0]), 3, 24) := by kernel_rfl
theorem info_span : (Tryz.prog.info? 251).map (fun i => (i.zero, i.size, i.bytes)) = some (some (.agg #[.int .u8 0, .int .u32 0, .int .u32 0]), 3, 12) := by kernel_rfl
theorem upTo_bd (e : Int) : e ≤ upTo e 8 ∧ upTo e 8 ≤ e + 7 := by unfold upTo; omega
theorem upTo_page (e : Int) (h : e ≤ 131072) : e ≤ upTo e 256 ∧ upTo e 256 ≤ 131072 := by unfold upTo; omega
theorem own_base {w : World} {base : Nat} {e : TypeId} {k g n c : Nat} {m : Nat} {xs : List Value} (h : w.ownsRow base e k (.slice (some ⟨g, 0, none⟩) n c) m xs) : w.ownsRow g e k (.slice (some ⟨g, 0, none⟩) n c) m xs := by
 refine ⟨h.1, ?_⟩; rcases h.2 with ⟨h1, -⟩ | ⟨g', cap, cur, h1, hb, rest⟩
 ·cases h1
 ·cases h1; exact .inr ⟨g, _, cur, rfl, Nat.le_refl _, rest⟩
theorem laySyms_skip {l : List GObj} {kd : Int} {ps : List GP} {k : Nat} {out : List GAddr} {e : Int} {p : GP} {s : GSym} {R : Option (List GAddr × Int)} (hk : k < ps.length) (hp : ps[k] = p) (hs : symAt l p = some s) (hne : s.kind ≠ kd) (h : laySyms l kd (ps.drop k) k out e = R) : laySyms l kd (ps.drop (k + 1)) (k + 1) out e = R := by
 rw [List.drop_eq_getElem_cons hk, hp, laySyms, hs] at h; simpa [hne] using h
theorem laySyms_lay {l : List GObj} {kd : Int} {ps : List GP} {k : Nat} {out : List GAddr} {e : Int} {p : GP} {s : GSym} {R : Option (List GAddr × Int)} (hk : k < ps.length) (hp : ps[k] = p) (hs : symAt l p = some s) (hne : s.kind = kd) (hle : upTo e 8 + s.size ≤ 131072) (h : laySyms l kd (ps.drop k) k out e = R) : laySyms l kd (ps.drop (k + 1)) (k + 1) (out.set k ⟨p.1, p.2, upTo e 8⟩) (upTo e 8 + s.size) = R := by
 rw [List.drop_eq_getElem_cons hk, hp, laySyms, hs] at h; simp only [hne, if_true] at h
 rwa [if_neg (by omega)] at h
theorem laySyms_full {l : List GObj} {kd : Int} {ps : List GP} {k : Nat} {out : List GAddr} {e : Int} {p : GP} {s : GSym} {R : Option (List GAddr × Int)} (hk : k < ps.length) (hp : ps[k] = p) (hs : symAt l p = some s) (hne : s.kind = kd) (hle : 131072 < upTo e 8 + s.size) (h : laySyms l kd (ps.drop k) k out e = R) : R = none := by
 rw [List.drop_eq_getElem_cons hk, hp, laySyms, hs] at h; simp only [hne, if_true] at h; rw [if_pos (by omega)] at h
 exact h.symm
theorem laySyms_end {l : List GObj} {kd : Int} {ps : List GP} {k : Nat} {out : List GAddr} {e : Int} {R : Option (List GAddr × Int)} (hk : ¬ k < ps.length) (h : laySyms l kd (ps.drop k) k out e = R) : R = some (out, e) := by
 rw [List.drop_of_length_le (by omega), laySyms] at h
 exact h.symm
set_option maxHeartbeats 4000000 in
theorem layOf_ok (v v2 : Value) (l : List GObj) (ps : List GP) (w : World) (h : ObjsAt w v l) (h2 : RowAt 2 PlcR w v2 ps) (hlen : ps.length ≤ 1200) (hm : layMay l ps = true) :
 Calls Tryz.prog 115 #[v, v2] w (OfPost w (ofR (layKinds l ps [1, 3, 2] (List.replicate ps.length addr0) [] 256))) := by
 have HO := Lib.hid h; have HM := Lib.hid (layMay_any v v2 l ps w h h2); rw [hm] at HM
 have HSZ : Hid (∀ p ∈ ps, ∃ s, symAt l p = some s ∧ 1 ≤ s.size ∧ s.size ≤ 8192) := fun p hp => by
  simp only [layMay, Bool.and_eq_true] at hm; obtain ⟨s, hs⟩ := mayGo_some hm.2 p hp; exact ⟨s, hs, may_size hm.1 hs⟩
 obtain ⟨p, cap, b, o, rfl, hcap, hmax, -, -⟩ := h; obtain ⟨p2, cap2, b2, o2, rfl, hcap2, hmax2, hp2, hc2⟩ := h2; have HP := Lib.hid hp2; clear hp2; have HC := Lib.hid hc2; clear hc2 hm; generalize hR : layKinds l ps [1, 3, 2] (List.replicate ps.length addr0) [] 256 = R; have HR := Lib.hid hR; clear hR; obtain ⟨iA, r0, r1, r2, r3⟩ := info_parts info_addr; have HA := Lib.hid (And.intro r0 (And.intro r1 (And.intro r2 r3))); clear r0 r1 r2 r3; go_enter Tryz.func115, Tryz.ntmps115; go_wp2_with (first | (go_at_call 150; refine HM.out.mono ?_; rintro e w1 ⟨rfl, hB1⟩) | (at_make; refine wpList_make_full _ rfl _ _ 66 rfl w.heap.size 259 iA _ 3 Tryz.underlying66 HA.out.1 HA.out.2.1 HA.out.2.2.1 _ _ _ _ ps.length rfl rfl rfl rfl ?b1 ?b2 ?b3 ?_))
 case b1 => rw [HA.out.2.2.2]; omega
 case b2 => unfold maxLen; omega
 case b3 => exact hB1.size
 intro w2 hown hgrow; rw [made_addrs] at hown; have HOWN := Lib.hid hown; clear hown; have HB12 : Hid (Below w1.heap.size w1 w2) := (Below.refl _ _).grown hgrow (Nat.le_refl _) (fun k hk => by cases hk)
 have HB1 := Lib.hid hB1; have hob := HOWN.out.lt _ rfl; clear hB1 hgrow HM HA; go_wp2; generalize hw0 : (w2.alloc (.cells #[.int .u8 0, .int .u32 0, .int .u32 0, .int .u32 256] 253)).alloc (.cells #[.int .u8 1, .int .u8 3, .int .u8 2] 5) = w0; generalize hobe : w1.heap.size = ob at *; generalize hxbe : w2.heap.size = xb at *; have hbx : ob < xb := by have := HOWN.out.lt _ rfl; omega
 have hxk : xb + 1 < w0.heap.size := by subst hw0; subst hxbe; simp
 have hwo : w.heap.size ≤ ob := by subst hobe; exact HB1.out.size
 have HB20 : Hid (Below xb w2 w0) := by subst hw0; subst hxbe; exact (alloc_old _ _).alloc (by simp) _
 have HB0 : Hid (Below w.heap.size w w0) := (HB1.out.trans (HB12.out.mono hwo)).trans (HB20.out.mono (by omega))
 have HKC : Hid (w0.cell? ⟨xb + 1, 0, none⟩ = some (.int .u8 1) ∧ w0.cell? ⟨xb + 1, 1, none⟩ = some (.int .u8 3) ∧ w0.cell? ⟨xb + 1, 2, none⟩ = some (.int .u8 2)) := by
  subst hw0; subst hxbe; refine ⟨?_, ?_, ?_⟩ <;> simp [go_sem]
 have HI0 : Hid (OInv w0 ob xb ps.length (.slice none 0 0) (List.replicate ps.length addr0) [] 0 0 0 256 w0) := by
  refine ⟨own_base (own_congr HOWN.out fun g hg => HB20.out.block g (by cases hg; exact hbx)), by simp, fun x hx => ?_, World.ownsRow_nil _ _ _ _, by simp, (fun x hx => (by cases hx)), ?_, KB.refl _ _⟩
  ·obtain rfl := List.eq_of_mem_replicate hx; exact ⟨by decide, by decide⟩
  ·subst hw0; subst hxbe; refine ⟨by simp; omega, ?_, ?_, ?_, ?_, ?_, ?_, ?_, ?_⟩ <;> simp [go_sem]
 clear hw0 hobe hxbe HOWN HB12 HB1 HB20 hob
 go_loopw [8, 27] (fun v8 v27 wr => ∃ (j : Nat) (out : List GAddr) (spans : List GSpan) (k a s e : Int), j ≤ 3 ∧ v27 = .int .i64 j ∧ layKinds l ps ([1, 3, 2].drop j) out spans e = R ∧ spans.length ≤ j ∧ 0 ≤ e ∧ e ≤ 131072 ∧ OInv w0 ob xb ps.length v8 out spans k a s e wr) (fun _ v27 _ => 3 - (intOf v27).toNat)
 case atStart => exact ⟨0, _, _, _, _, _, _, by omega, rfl, HR.out, by simp, by omega, by omega, HI0.out⟩
 case round =>
  obtain ⟨j, out0, spans, k0, a0, s0, e0, hj, rfl, hgo, hsl, he0, he1, hinv⟩ := hrel; have HGO := Lib.hid hgo; clear hgo; have HINV := Lib.hid hinv; clear hinv
  by_cases hlt : j < 3
  ·have HKD : Hid (∃ kd : Int, 0 ≤ kd ∧ kd ≤ 255 ∧ wr.cell? ⟨xb + 1, j, none⟩ = some (.int .u8 kd) ∧ ([1, 3, 2] : List Int).drop j = kd :: ([1, 3, 2] : List Int).drop (j + 1)) := by
    have hns : ¬ (xb + 1 = ob ∨ xb + 1 = xb) := by omega
    have h3 : j = 0 ∨ j = 1 ∨ j = 2 := by omega
    rcases h3 with rfl | rfl | rfl
    ·exact ⟨1, by omega, by omega, HINV.out.kb.cell hxk hns HKC.out.1, rfl⟩
    ·exact ⟨3, by omega, by omega, HINV.out.kb.cell hxk hns HKC.out.2.1, rfl⟩
    ·exact ⟨2, by omega, by omega, HINV.out.kb.cell hxk hns HKC.out.2.2, rfl⟩
   obtain ⟨kd, kd0, kd1, hkc, hdrop⟩ := HKD.out; have hgo := HGO.out; rw [hdrop, layKinds] at hgo; have hup := upTo_page e0 he1; have HUP : Hid (0 ≤ upTo e0 256) := by have := hup.1; simp only [Hid]; omega
   generalize hR1 : laySyms l kd ps 0 out0 (upTo e0 256) = R1 at hgo; have HR1 := Lib.hid hR1; clear hR1; have HGO1 := Lib.hid hgo; clear hgo hdrop HKD HGO; have HBG := Lib.hid (begin14_any xb kd k0 a0 s0 e0 wr HINV.out.lay he0 (by omega))
   go_wp2_with fail; refine HBG.out.mono ?_; rintro en w3 ⟨rfl, hl3, hg3⟩; generalize hpg : upTo e0 256 = pg at hl3 hup HUP HR1 HGO1; have HPG := Lib.hid hpg; have hx0 : xb < w0.heap.size := by omega
   have ho0 : ob < w0.heap.size := by omega
   have hne : ob ≠ xb := by omega
   have HI3 := Lib.hid (HINV.out.layer hx0 hne hg3 hl3); clear hl3 hg3 HBG HINV hpg hkc; have hpg0 := HUP.out; go_wp2; obtain ⟨wo, rfl⟩ : ∃ wo : World, wo = w3 := ⟨_, rfl⟩
   go_loopw [36] (fun v36 wr => ∃ (k : Nat) (out : List GAddr) (e : Int), k ≤ ps.length ∧ v36 = .int .i64 k ∧ laySyms l kd (ps.drop k) k out e = R1 ∧ pg ≤ e ∧ e ≤ 131072 ∧ OInv w0 ob xb ps.length u8 out spans kd pg (e - pg) e wr) (fun v36 _ => ps.length - (intOf v36).toNat)
   case atStart => exact ⟨0, out0, pg, Nat.zero_le _, rfl, HR1.out, by omega, by omega, by rw [Int.sub_self]; exact HI3.out⟩
   case round =>
    clear HI3; obtain ⟨k, out, e, hk, rfl, hgo, hpe, hee, hinv⟩ := hrel; have HGO := Lib.hid hgo; clear hgo; have HINV := Lib.hid hinv; clear hinv; have HW : Hid (Below w.heap.size w wr) := HB0.out.trans (HINV.out.kb.below HB0.out.size (fun k hk hs => by rcases hs with rfl | rfl <;> omega))
    by_cases hks : k < ps.length
    ·obtain rfl := HP.out (by omega)
     obtain ⟨g0, g1, g2⟩ := plcR_keeps _ _ _ _ _ HW.out (HC.out k hks); obtain ⟨s, hs, hs1, hs2⟩ := HSZ.out _ (List.getElem_mem hks); generalize hx : ps[k] = x at g1 g2 hs; have HX := Lib.hid hx; clear hx; have HCON := Lib.hid (laySym_any _ l x (wr.alloc (.cells #[.int .i64 x.1, .int .i64 x.2] 185)) (ObjsAt.keep (HW.out.alloc HW.out.size _) HO.out)); rw [hs] at HCON; have HS := Lib.hid hs; clear hs; obtain ⟨x1, x2⟩ := x; simp only [] at g1 g2 HCON; go_wp2_with fail; refine HCON.out.mono ?_; clear HCON; rintro en w4 ⟨⟨vr, vn, rfl, hin⟩, hB4⟩; obtain ⟨p1, q1, p3, q3, rfl, rfl⟩ := hin.shape; clear hin; have k0 : w4.cell? ⟨wr.heap.size, 0, none⟩ = some (.int .i64 x1) := by rw [hB4.cell (by simp)]; simp [go_sem]
     have k1 : w4.cell? ⟨wr.heap.size, 1, none⟩ = some (.int .i64 x2) := by rw [hB4.cell (by simp)]; simp [go_sem]
     have z4 : wr.heap.size < w4.heap.size := by have := hB4.size; simp at this; omega
     have HB4 : Hid (Below wr.heap.size wr w4) := (alloc_old wr _).trans (hB4.mono (by simp))
     clear hB4; obtain ⟨yn, yb, yk, ys, yy, yr, yt⟩ := s; simp only [symV] at hs1 hs2 ⊢; have HI5 := Lib.hid (HINV.out.keep (HB4.out.alloc HB4.out.size (.cells #[.string yn, .int .u8 yb, .int .u8 yk, .int .u32 ys, .string yy, .slice p1 yr.length q1, .slice p3 yt.length q3] 55))); have hxz := HINV.out.lay.lt; have hoz := (HINV.out.row.lt _ rfl).2
     by_cases hkk : yk = kd
     ·have bk : (yk != kd) = false := by simpa using hkk
      subst hkk; have HU := Lib.hid (upTo_bd e); go_wp2; generalize hw5 : w4.alloc (.cells #[.string yn, .int .u8 yb, .int .u8 yk, .int .u32 ys, .string yy, .slice p1 yr.length q1, .slice p3 yt.length q3] 55) = w5 at HI5 ⊢; have m0 : w5.cell? ⟨wr.heap.size, 0, none⟩ = some (.int .i64 x1) := by subst hw5; exact cell_keep (alloc_old _ _) z4 k0
      have m1 : w5.cell? ⟨wr.heap.size, 1, none⟩ = some (.int .i64 x2) := by subst hw5; exact cell_keep (alloc_old _ _) z4 k1
      have m3 : w5.cell? ⟨w4.heap.size, 3, none⟩ = some (.int .u32 ys) := by subst hw5; simp [go_sem]
      have z5 : w4.heap.size < w5.heap.size := by subst hw5; simp
      clear hw5 k0 k1 g1 g2 HINV HB4; have HL5 : Hid (LayerAt w5.drew xb yk pg (e - pg) e) := HI5.out.lay.kept rfl (Nat.le_refl _)
      have HK6 : Hid (∀ w6, w5.drew.grownBy w6 (some xb) → LayerAt w6 xb yk pg (upTo e 8 + ys - pg) (upTo e 8 + ys) → OInv w0 ob xb ps.length u8 out spans yk pg (upTo e 8 + ys - pg) (upTo e 8 + ys) w6 ∧ w6.cell? ⟨wr.heap.size, 0, none⟩ = some (.int .i64 x1) ∧ w6.cell? ⟨wr.heap.size, 1, none⟩ = some (.int .i64 x2) ∧ w6.cell? ⟨w4.heap.size, 3, none⟩ = some (.int .u32 ys)) := fun w6 hg6 hl6 => by
       have hb : ∀ g, g < w5.heap.size → g ≠ xb → w6.heap[g]? = w5.heap[g]? := fun g hg hne => hg6.block g hg (fun e => hne (by cases e; rfl))
       refine ⟨(HI5.out.keep (Below.refl _ _).drew).layer hx0 hne hg6 hl6, ?_, ?_, ?_⟩
       ·rw [World.cell?_of_block (w := w5) (hb _ (by simp only []; omega) (by simp only []; omega))]; exact m0
       ·rw [World.cell?_of_block (w := w5) (hb _ (by simp only []; omega) (by simp only []; omega))]; exact m1
       ·rw [World.cell?_of_block (w := w5) (hb _ (by simp only []; omega) (by simp only []; omega))]; exact m3
      have HC6 : Hid (∀ w6, OInv w0 ob xb ps.length u8 out spans yk pg (upTo e 8 + ys - pg) (upTo e 8 + ys) w6 → ∃ c0 c1 c2, w6.cell? ⟨ob, k * 3, none⟩ = some c0 ∧ w6.cell? ⟨ob, k * 3 + 1, none⟩ = some c1 ∧ w6.cell? ⟨ob, k * 3 + 2, none⟩ = some c2 ∧ w6.frozen? ⟨ob, k * 3, none⟩ = false ∧ w6.frozen? ⟨ob, k * 3 + 1, none⟩ = false ∧ w6.frozen? ⟨ob, k * 3 + 2, none⟩ = false) := fun w6 hi6 => by
       have hl : (out.flatMap addrCells).length = ps.length * 3 := by rw [flat_len addrCells_len, hi6.olen]
       refine ⟨_, _, _, (hi6.row.cellAt _ (by omega)).trans (List.getElem?_eq_getElem (by omega)), (hi6.row.cellAt _ (by omega)).trans (List.getElem?_eq_getElem (by omega)), (hi6.row.cellAt _ (by omega)).trans (List.getElem?_eq_getElem (by omega)), hi6.row.frozenAt _, hi6.row.frozenAt _, hi6.row.frozenAt _⟩
      have n1 : ¬ ob = wr.heap.size := by omega
      have n2 : ¬ ob = w4.heap.size := by omega
      go_region_held3 (fun w' => w'.cell? ⟨wr.heap.size, 0, none⟩ = some (.int .i64 x1) ∧ w'.cell? ⟨wr.heap.size, 1, none⟩ = some (.int .i64 x2) ∧ w'.cell? ⟨w4.heap.size, 3, none⟩ = some (.int .u32 ys)) (go_keep) (first | (go_at_call 153; refine (lay14_any xb yk pg (e - pg) e ys _ ?_ (by omega) (by omega) (by omega) (by omega) (by omega) (by omega)).mono ?_; (exact HL5.out); rintro en w6 ⟨rfl, hl6, hg6⟩; obtain ⟨hi6, k1, k2, k3⟩ := HK6.out w6 hg6 hl6; have HI6 := Lib.hid hi6; clear hl6 hg6 hi6; obtain ⟨c0, c1, c2, y0, y1, y2, t0, t1, t2⟩ := HC6.out w6 HI6.out))
      have HI7 := Lib.hid (HI6.out.set ho0 hne hks ⟨x1, x2, upTo e 8⟩ ⟨by have := HU.out.1; simp only []; omega, by have := HU.out.2; simp only []; omega⟩)
      clear HI6 HK6 HC6 HL5 HI5 k1 k2 k3 y0 y1 y2 t0 t1 t2 m0 m1 m3 n1 n2; simp only [] at HI7; generalize ((w6.setCell ⟨ob, k * 3, none⟩ (.int .i64 x1)).setCell ⟨ob, k * 3 + 1, none⟩ (.int .i64 x2)).setCell ⟨ob, k * 3 + 2, none⟩ (.int .u32 (upTo e 8)) = w7 at HI7 ⊢; have t3 := HI7.out.lay.c3; have HW7 : Hid (Below w.heap.size w w7) := HB0.out.trans (HI7.out.kb.below HB0.out.size (fun k hk hs => by rcases hs with rfl | rfl <;> omega))
      by_cases hfull : 131072 < upTo e 8 + ys
      ·have HF := Lib.hid (laySyms_full hks HX.out HS.out rfl hfull HGO.out); have HRN : Hid (R = none) := by have := HGO1.out; rw [HF.out] at this; exact this.symm
       have dF : decide (131072 < upTo e 8 + ys) = true := by simpa using hfull
       generalize upTo e 8 + ys = e' at *; go_wp2; go_ret3; rw [HRN.out]; exact ⟨_, _, rfl, rowAt_nil, rowAt_nil, HW7.out⟩
      ·have HST := Lib.hid (laySyms_lay hks HX.out HS.out rfl (by simp only []; omega) HGO.out)
       have dF : decide (131072 < upTo e 8 + ys) = false := by simpa using hfull
       have hge : pg ≤ upTo e 8 + ys := by have := HU.out.1; omega
       simp only [] at HST; generalize upTo e 8 + ys = e' at *; go_wp2; go_roundw
       case rel => exact ⟨k + 1, _, e', by omega, by go_num, HST.out, hge, by omega, HI7.out⟩
       case measure => simp [intOf]; omega
     ·have bk : (yk != kd) = true := by simpa using hkk
      have HST := Lib.hid (laySyms_skip hks HX.out HS.out hkk HGO.out); clear hkk HINV; go_wp2; go_roundw
      case rel => exact ⟨k + 1, out, e, by omega, by go_num, HST.out, hpe, hee, HI5.out⟩
      case measure => simp [intOf]; omega
    ·have HF := laySyms_end hks HGO.out; have hgo := HGO1.out; rw [HF] at hgo; simp only [] at hgo; have HGO2 := Lib.hid hgo; clear hgo HF HGO; have t2 := HINV.out.lay.c2; have q0 := HINV.out.lay.c0; have q1 := HINV.out.lay.c1
     by_cases hsz : 0 < e - pg
     ·have dS : decide (0 < e - pg) = true := by simpa using hsz
      have hgo := HGO2.out; rw [if_pos hsz] at hgo; have HGO3 := Lib.hid hgo; clear hgo HGO2; obtain ⟨iS, r0, r1, r2, r3⟩ := info_parts info_span; have HA := Lib.hid (And.intro r0 (And.intro r1 (And.intro r2 r3))); clear r0 r1 r2 r3; have hwz := HINV.out.kb.size; go_wp2_with (at_builtin; refine wpList_append_own_at _ rfl _ _ 202 rfl w0.heap.size 251 iS _ 3 12 Tryz.underlying202 HA.out.1 HA.out.2.1 HA.out.2.2.1 HA.out.2.2.2 rfl (by decide) _ spans.length (spans.flatMap spanCells) rfl ?c0 _ 1 1 (spanCells ⟨kd, pg, e - pg⟩) rfl rfl ?c1 ?c2 ?c3 ?c4 ?c5 ?_)
      case c0 => exact HINV.out.srow.alloc _
      case c1 =>
       intro j u hu; rw [add_at, Nat.zero_add]
       match j, hu with
       | 0, hu => cases hu; simp [go_sem]
       | 1, hu => cases hu; simp [go_sem]
       | 2, hu => cases hu; simp [go_sem]
      case c2 =>
       intro u hu; simp only [spanCells, List.mem_cons, List.not_mem_nil, or_false] at hu; rcases hu with rfl | rfl | rfl <;> rfl
      case c3 => unfold maxLen; omega
      case c4 => omega
      case c5 => simp; omega
      intro v' w' hown hgrow _ _
      have HN : Hid (OInv w0 ob xb ps.length v' out (spans ++ [⟨kd, pg, e - pg⟩]) kd pg (e - pg) e w') := by
       have hb : ∀ g, g < w0.heap.size → w'.heap[g]? = wr.heap[g]? := fun g hg => by
        rw [hgrow.block g (by simp; omega) (fun e => by have := (HINV.out.srow.lt g e.symm).1; omega), Below.heap_alloc _ _ _ (by omega)]
       refine ⟨own_congr HINV.out.row fun g hg => hb g (by cases hg; omega), HINV.out.olen, HINV.out.ook, ?_, by simp; omega, fun x hx => ?_, HINV.out.lay.kept (hb _ hx0) (by have := hgrow.size; simp at this; omega), (HINV.out.kb.alloc _).grown hgrow fun g hg => .inr (HINV.out.srow.lt g hg).1⟩
       ·simpa using hown
       ·rcases List.mem_append.1 hx with hx | hx
        ·exact HINV.out.sok x hx
        ·obtain rfl : x = _ := by simpa using hx
         exact ⟨⟨kd0, kd1⟩, ⟨hpg0, by simp only []; omega⟩, ⟨by simp only []; omega, by simp only []; omega⟩⟩
      clear hown hgrow HINV t2 q0 q1; go_wp2; go_roundw
      case rel => exact ⟨j + 1, out, _, kd, pg, e - pg, e, by omega, by go_num, HGO3.out, by simp; omega, by omega, by omega, HN.out⟩
      case measure => simp [intOf]; omega
     ·have dS : decide (0 < e - pg) = false := by simpa using hsz
      have hgo := HGO2.out; rw [if_neg hsz] at hgo; have HGO3 := Lib.hid hgo; clear hgo HGO2; go_wp2; go_roundw
      case rel => exact ⟨j + 1, out, spans, kd, pg, e - pg, e, by omega, by go_num, HGO3.out, by omega, by omega, by omega, HINV.out⟩
      case measure => simp [intOf]; omega
  ·obtain rfl : j = 3 := by omega
   have hgo := HGO.out; simp only [List.drop_succ_cons, List.drop_zero, layKinds] at hgo; have HGO2 := Lib.hid hgo; clear hgo; have HW : Hid (Below w.heap.size w wr) := HB0.out.trans (HINV.out.kb.below HB0.out.size (fun k hk hs => by rcases hs with rfl | rfl <;> omega))
   have HRA := Lib.hid (addr_row (e := 259) (by rw [HINV.out.olen]; exact HINV.out.row) (by rw [HINV.out.olen]; omega) HINV.out.ook)
   have HRS := Lib.hid (span_row HINV.out.srow (by have := HINV.out.slen; omega) HINV.out.sok)
   go_wp2; go_ret3; rw [← HGO2.out]; exact ⟨_, _, rfl, HRA.out, HRS.out, HW.out⟩
end
section
open Go.RowKit Go.Maps Go.WideMaps
theorem layOf_any (v v2 : Value) (l : List GObj) (ps : List GP) (w : World) (h : ObjsAt w v l) (h2 : RowAt 2 PlcR w v2 ps) (hlen : ps.length ≤ 1200) :
 Calls Tryz.prog 115 #[v, v2] w (OfPost w (layOf l ps)) := by
 by_cases hm : layMay l ps = true
 ·have := layOf_ok v v2 l ps w h h2 hlen hm; have e : layOf l ps = ofR (layKinds l ps [1, 3, 2] (List.replicate ps.length addr0) [] 256) := by unfold layOf ofR; rw [if_pos hm]; rfl
  rw [e]; exact this
 ·have hm' : layMay l ps = false := by simpa using hm
  have HM := Lib.hid (layMay_any v v2 l ps w h h2); rw [hm'] at HM; have HE : Hid (layOf l ps = ([], [], 2)) := by simp [Hid, layOf, hm']
  clear hm hm'; obtain ⟨p, cap, b, o, rfl, hcap, hmax, -, -⟩ := h; obtain ⟨p2, cap2, b2, o2, rfl, hcap2, hmax2, hp2, hc2⟩ := h2; clear hp2 hc2; go_enter Tryz.func115, Tryz.ntmps115; go_wp2_with (go_at_call 150; refine HM.out.mono ?_; rintro e w1 ⟨rfl, hB1⟩); go_ret3; rw [HE.out]; exact ⟨_, _, rfl, rowAt_nil, rowAt_nil, hB1⟩
def isPl (p : GP) (a : GAddr) : Bool := decide (a.obj = p.1) && decide (a.sym = p.2)
set_option maxHeartbeats 400000 in
theorem layFind1_any (a : GAddr) (nb : Nat) (p : GP) (w : World) (hnb : nb < w.heap.size) (hc : w.cell? ⟨nb, 0, none⟩ = some (.int .i64 p.1)) (hc1 : w.cell? ⟨nb, 1, none⟩ = some (.int .i64 p.2)) :
 Calls Tryz.prog 163 #[.agg #[.int .i64 a.obj, .int .i64 a.sym, .int .u32 a.at_], .pointer (some ⟨nb, 0, none⟩)] w fun e w' => e = .returned (.bool (isPl p a)) ∧ Below w.heap.size w w' := by
 obtain ⟨x, y, z⟩ := a; obtain ⟨p1, p2⟩ := p; simp only [] at *; go_enter Tryz.func163, Tryz.ntmps163; go_wp2
 all_goals
  go_ret; exact ⟨ret_bool (by simp [isPl, *]), alloc_old w _⟩
def idxA : Option Nat → Int | some k => k | none => -1
set_option maxHeartbeats 400000 in
theorem indexAddr_any (v : Value) (l : List GAddr) (nb : Nat) (p : GP) (w : World) (hnb : nb < w.heap.size) (hn0 : w.cell? ⟨nb, 0, none⟩ = some (.int .i64 p.1)) (hn1 : w.cell? ⟨nb, 1, none⟩ = some (.int .i64 p.2)) (h : RowAt 3 AddrR w v l) :
 Calls Tryz.prog 162 #[v, .func (.func 163) #[] #[.pointer (some ⟨nb, 0, none⟩)]] w fun e w' => e = .returned (.int .i64 (idxA (l.findIdx? (isPl p)))) ∧ Below w.heap.size w w' := by
 obtain ⟨pp, cap, b, o, rfl, hcap, hmax, hp, hc⟩ := h; have HC := Lib.hid hc; clear hc; have HP := Lib.hid hp; clear hp; have HN0 := Lib.hid hn0; clear hn0; have HN1 := Lib.hid hn1; clear hn1; go_enter Tryz.func162, Tryz.ntmps162; go_wp2
 go_loopw [8] (fun i wr => ∃ k : Nat, k ≤ l.length ∧ i = .int .i64 k ∧ (l.take k).all (fun x => !isPl p x) = true ∧ Below w.heap.size w wr) (fun i _ => l.length - (intOf i).toNat)
 case atStart => exact ⟨0, Nat.zero_le _, rfl, rfl, Below.refl _ _⟩
 case round =>
  obtain ⟨k, hk, rfl, hall, hbel⟩ := hrel; have HA := Lib.hid hall; clear hall; have HB := Lib.hid hbel; clear hbel
  by_cases hlt : k < l.length
  ·obtain rfl := HP.out (by omega)
   obtain ⟨g0, g1, g2, g3, g4⟩ := addrR_keeps _ _ _ _ _ HB.out (HC.out k hlt); have HCON := Lib.hid (layFind1_any l[k] nb p wr (size_keep HB.out hnb) (cell_keep HB.out hnb HN0.out) (cell_keep HB.out hnb HN1.out)); generalize hx : l[k] = x at g1 g2 g3 g4 HCON; obtain ⟨x1, x2, x3⟩ := x; simp only [] at g1 g2 g3 g4 HCON; have HX := Lib.hid hx; clear hx; go_wp2_with (go_at_call 163; refine HCON.out.mono ?_; rintro e w' ⟨rfl, hB⟩)
   ·have hyes : isPl p ⟨x1, x2, x3⟩ = true := by assumption
    go_ret; exact ⟨ret_int (by rw [findIdx_some hlt HX.out hyes HA.out]; rfl), HB.out.trans (hB.mono HB.out.size)⟩
   ·have hno : isPl p ⟨x1, x2, x3⟩ = false := by assumption
    go_roundw
    case rel => exact ⟨k + 1, by omega, by go_num, take_all_snoc hlt HX.out HA.out (by simpa using hno), HB.out.trans (hB.mono HB.out.size)⟩
    case measure => simp [intOf]; omega
  ·go_wp2; go_ret; exact ⟨ret_int (by rw [findIdx_none (all_end hlt HA.out)]; rfl), HB.out⟩
theorem find_of_idx {α : Type} {p : α → Bool} {l : List α} {k : Nat} (h : l.findIdx? p = some k) : ∃ hk : k < l.length, l.find? p = some l[k] := by
 obtain ⟨hk, hp, hlt⟩ := List.findIdx?_eq_some_iff_getElem.1 h; refine ⟨hk, ?_⟩; rw [List.find?_eq_some_iff_getElem]; exact ⟨hp, k, hk, rfl, fun j hj => by simpa using hlt j hj⟩
set_option maxHeartbeats 1000000 in
theorem layFind_any (v : Value) (l : List GAddr) (p : GP) (w : World) (h : RowAt 3 AddrR w v l) :
 Calls Tryz.prog 120 #[v, .agg #[.int .i64 p.1, .int .i64 p.2]] w fun e w' => e = .returned (.tuple #[.int .u32 (layFind l p).1, .bool (layFind l p).2]) ∧ Below w.heap.size w w' := by
 have HI := Lib.hid (indexAddr_any v l w.heap.size p (w.alloc (.cells #[.int .i64 p.1, .int .i64 p.2] 185)) (by simp) (by simp [go_sem]) (by simp [go_sem]) (RowAt.keep addrR_keeps (alloc_old w _) h))
 obtain ⟨pp, cap, b, o, rfl, hcap, hmax, hp, hc⟩ := h; have HC := Lib.hid hc; clear hc; have HP := Lib.hid hp; clear hp; cases hi : l.findIdx? (isPl p) with
 | none =>
   rw [hi] at HI
   have HF : Hid (layFind l p = (0, false)) := by
    have : l.find? (isPl p) = none := by
     rw [List.findIdx?_eq_none_iff] at hi; rw [List.find?_eq_none]; intro x hx; simpa using hi x hx
    unfold layFind; unfold isPl at this; rw [Hid, this]
   clear hi; simp only [idxA] at HI; obtain ⟨p1, p2⟩ := p; simp only [] at HI; go_enter Tryz.func120, Tryz.ntmps120; go_wp2_with (go_at_call 162; refine HI.out.mono ?_; rintro e w1 ⟨rfl, hB1⟩); go_ret2; rw [HF.out]; exact ⟨rfl, (alloc_old w _).trans (hB1.mono (by simp))⟩
 | some k =>
   rw [hi] at HI; obtain ⟨hk, hfk⟩ := find_of_idx hi; obtain rfl := HP.out (by omega)
   obtain ⟨g0, g1, g2, g3, g4⟩ := HC.out k hk; generalize l[k] = x at g1 g2 g3 g4 hfk; have HF : Hid (layFind l p = (x.at_, true)) := by unfold layFind; unfold isPl at hfk; rw [Hid, hfk]
   clear hi hfk; obtain ⟨x1, x2, x3⟩ := x; simp only [idxA] at HI g1 g2 g3 g4 HF; obtain ⟨p1, p2⟩ := p; simp only [] at HI; go_enter Tryz.func120, Tryz.ntmps120; go_wp2_with (go_at_call 162; refine HI.out.mono ?_; rintro e w1 ⟨rfl, hB1⟩; have q3 : w1.cell? ⟨b, o + k * 3 + 2, none⟩ = some (.int .u32 x3) := cell_keep hB1 (by simp; omega) (cell_keep (alloc_old w _) g0 g3))
   go_ret2; rw [HF.out]; exact ⟨rfl, (alloc_old w _).trans (hB1.mono (by simp))⟩
end
section
open Go.RowKit Go.Maps Go.WideMaps
def eqG (q x : GP) : Bool := decide (q.1 = x.1) && decide (q.2 = x.2)
theorem eqG_iff {q x : GP} : eqG q x = true ↔ q = x := by
 obtain ⟨a, b⟩ := q; obtain ⟨c, d⟩ := x; simp [eqG]
def inG (ps : List GP) (q : GP) : Bool := ps.any (eqG q)
theorem inG_iff {ps : List GP} {q : GP} : inG ps q = true ↔ q ∈ ps := by
 unfold inG; rw [List.any_eq_true]; constructor
 ·rintro ⟨x, hx, h⟩; rw [eqG_iff.1 h]; exact hx
 ·intro h; exact ⟨q, h, eqG_iff.2 rfl⟩
theorem idxA_geq {α : Type} {p : α → Bool} {l : List α} : decide (0 ≤ idxA (l.findIdx? p)) = l.any p := by
 cases h : l.findIdx? p with
 | none =>
   rw [List.findIdx?_eq_none_iff] at h; have : l.any p = false := by rw [List.any_eq_false]; intro x hx; simpa using h x hx
   rw [this]; rfl
 | some k =>
   obtain ⟨hk, hp, -⟩ := List.findIdx?_eq_some_iff_getElem.1 h; have : l.any p = true := List.any_eq_true.2 ⟨_, List.getElem_mem hk, hp⟩; rw [this]; simp [idxA]
set_option maxHeartbeats 400000 in
theorem indexPlc_any (v : Value) (ps : List GP) (q : GP) (w : World) (h : RowAt 2 PlcR w v ps) :
 Calls Tryz.prog 205 #[v, .agg #[.int .i64 q.1, .int .i64 q.2]] w fun e w' => e = .returned (.int .i64 (idxA (ps.findIdx? (eqG q)))) ∧ Below w.heap.size w w' := by
 obtain ⟨q1, q2⟩ := q; simp only []; obtain ⟨pp, cap, b, o, rfl, hcap, hmax, hp, hc⟩ := h; have HC := Lib.hid hc; clear hc; have HP := Lib.hid hp; clear hp; go_enter Tryz.func205, Tryz.ntmps205; go_wp2
 go_loopw [8] (fun i wr => ∃ k : Nat, k ≤ ps.length ∧ i = .int .i64 k ∧ (ps.take k).all (fun x => !eqG (q1, q2) x) = true ∧ Below w.heap.size w wr ∧ w.heap.size < wr.heap.size ∧ wr.cell? ⟨w.heap.size, 0, none⟩ = some (.int .i64 q1) ∧ wr.cell? ⟨w.heap.size, 1, none⟩ = some (.int .i64 q2)) (fun i _ => ps.length - (intOf i).toNat)
 case atStart => exact ⟨0, Nat.zero_le _, rfl, rfl, alloc_old w _, by simp, by simp [go_sem], by simp [go_sem]⟩
 case round =>
  obtain ⟨k, hk, rfl, hall, hbel, hz, n0, n1⟩ := hrel; have HA := Lib.hid hall; clear hall; have HB := Lib.hid hbel; clear hbel
  by_cases hlt : k < ps.length
  ·obtain rfl := HP.out (by omega)
   obtain ⟨g0, g1, g2⟩ := plcR_keeps _ _ _ _ _ HB.out (HC.out k hlt); generalize hx : ps[k] = x at g1 g2; obtain ⟨x1, x2⟩ := x; simp only [] at g1 g2; have HX := Lib.hid hx; clear hx
   by_cases e1 : q1 = x1
   ·subst e1
    by_cases e2 : q2 = x2
    ·subst e2; have hyes : Hid (eqG (q1, q2) (q1, q2) = true) := by rw [Hid]; simp [eqG]
     go_wp2
     go_region
     all_goals
      go_wp2_with fail; go_ret; exact ⟨ret_int (by rw [findIdx_some hlt HX.out hyes.out HA.out]; rfl), HB.out.drew⟩
    ·have hno : Hid (eqG (q1, q2) (q1, x2) = false) := by rw [Hid]; simp [eqG, e2]
     go_wp2
     go_region
     all_goals
      go_wp2_with fail; go_roundw
      case rel => exact ⟨k + 1, by omega, by go_num, take_all_snoc hlt HX.out HA.out (by simpa using hno.out), HB.out.drew, by simpa using hz, by simpa [go_sem] using n0, by simpa [go_sem] using n1⟩
      case measure => simp [intOf]; omega
   ·have hno : Hid (eqG (q1, q2) (x1, x2) = false) := by rw [Hid]; simp [eqG, e1]
    go_wp2
    go_region
    all_goals
     go_wp2_with fail; go_roundw
     case rel => exact ⟨k + 1, by omega, by go_num, take_all_snoc hlt HX.out HA.out (by simpa using hno.out), HB.out.drew, by simpa using hz, by simpa [go_sem] using n0, by simpa [go_sem] using n1⟩
     case measure => simp [intOf]; omega
  ·go_wp2; go_ret; exact ⟨ret_int (by rw [findIdx_none (all_end hlt HA.out)]; rfl), HB.out⟩
set_option maxHeartbeats 400000 in
theorem containsPlc_any (v : Value) (ps : List GP) (q : GP) (w : World) (h : RowAt 2 PlcR w v ps) :
 Calls Tryz.prog 154 #[v, .agg #[.int .i64 q.1, .int .i64 q.2]] w fun e w' => e = .returned (.bool (inG ps q)) ∧ Below w.heap.size w w' := by
 have HI := Lib.hid (indexPlc_any v ps q (w.alloc (.cells #[.int .i64 q.1, .int .i64 q.2] 185)) (RowAt.keep plcR_keeps (alloc_old w _) h)); have hE : decide (0 ≤ idxA (ps.findIdx? (eqG q))) = inG ps q := idxA_geq; generalize idxA (ps.findIdx? (eqG q)) = n at hE HI; have HE := Lib.hid hE; clear hE; obtain ⟨q1, q2⟩ := q; obtain ⟨pp, cap, b, o, rfl, -⟩ := h; go_enter Tryz.func154, Tryz.ntmps154; go_wp2_with (go_at_call 205; refine HI.out.mono ?_; rintro e w1 ⟨rfl, hB1⟩); go_ret; exact ⟨ret_bool (by rw [← HE.out]), (alloc_old w _).trans (hB1.mono (by simp))⟩
set_option maxHeartbeats 400000 in
theorem closed1_any (q : GP) (nb xb : Nat) (v : Value) (ps : List GP) (w : World) (h : RowAt 2 PlcR w v ps) (hnb : nb < w.heap.size) (hn : w.cell? ⟨nb, 0, none⟩ = some (.pointer (some ⟨xb, 0, none⟩))) (hx : xb < w.heap.size) (hx8 : w.cell? ⟨xb, 8, none⟩ = some v) :
 Calls Tryz.prog 156 #[.agg #[.int .i64 q.1, .int .i64 q.2], .pointer (some ⟨nb, 0, none⟩)] w fun e w' => e = .returned (.bool (!inG ps q)) ∧ Below w.heap.size w w' := by
 have HCON : Hid (∀ x : BW (w.alloc (.cells #[.int .i64 q.1, .int .i64 q.2] 185)), Calls Tryz.prog 154 #[v, .agg #[.int .i64 q.1, .int .i64 q.2]] x.u fun e w' => e = .returned (.bool (inG ps q)) ∧ ∃ y : BW (w.alloc (.cells #[.int .i64 q.1, .int .i64 q.2] 185)), w' = y.u) :=
  fun x => calls_below (containsPlc_any v ps q x.u ((h.keep plcR_keeps (alloc_old w _)).keep plcR_keeps x.b))
 generalize inG ps q = bq at HCON; obtain ⟨q1, q2⟩ := q; obtain ⟨pp, cap, b, o, rfl, -⟩ := h; simp only [] at *; have hBw := alloc_old w (.cells #[.int .i64 q1, .int .i64 q2] 185); have n0 : (w.alloc (.cells #[.int .i64 q1, .int .i64 q2] 185)).cell? ⟨w.heap.size, 0, none⟩ = some (.int .i64 q1) := by simp [go_sem]
 have n1 : (w.alloc (.cells #[.int .i64 q1, .int .i64 q2] 185)).cell? ⟨w.heap.size, 1, none⟩ = some (.int .i64 q2) := by simp [go_sem]
 have m0 := cell_keep hBw hnb hn; have m1 := cell_keep hBw hx hx8; have HB0 : Hid (Below w.heap.size w (w.alloc (.cells #[.int .i64 q1, .int .i64 q2] 185))) := hBw; have hz : (w.alloc (.cells #[.int .i64 q1, .int .i64 q2] 185)).heap.size = w.heap.size + 1 := by simp
 go_enter Tryz.func156, Tryz.ntmps156; go_wp2; generalize w.alloc (.cells #[.int .i64 q1, .int .i64 q2] 185) = w1 at *; have c0 := bw_cell (by omega) n0
 have c1 := bw_cell (by omega) n1
 have c2 := bw_cell (by omega) m0
 have c3 := bw_cell (by omega) m1
 refine wp_region_below rfl (by kernel_rfl) ?_
 repeat (first | go_big_quiet_skip | quiet_step ((go_at_call 154; exact HCON.out _)))
 refine wpQuiet_nil ?_; rintro w4 hx4; have hB4 : Below w1.heap.size w1 w4 := bw_of hx4; clear hx4; clear c0 c1 c2 c3; go_wp2; go_ret; exact ⟨rfl, HB0.out.trans (hB4.mono (by omega))⟩
def toG (p : Nat × Nat) : GP := ((p.1 : Int), (p.2 : Int))
set_option maxHeartbeats 400000 in
theorem indexFPlc_any (v : Value) (qs : List (Nat × Nat)) (pv : Value) (ps : List GP) (nb xb : Nat) (w : World) (h : RowAt 2 PlaceR w v qs) (hps : RowAt 2 PlcR w pv ps) (hnb : nb < w.heap.size) (hn : w.cell? ⟨nb, 0, none⟩ = some (.pointer (some ⟨xb, 0, none⟩))) (hx : xb < w.heap.size) (hx8 : w.cell? ⟨xb, 8, none⟩ = some pv) :
 Calls Tryz.prog 206 #[v, .func (.func 156) #[] #[.pointer (some ⟨nb, 0, none⟩)]] w fun e w' => e = .returned (.int .i64 (idxA (qs.findIdx? (fun q => !inG ps (toG q))))) ∧ Below w.heap.size w w' := by
 obtain ⟨pp, cap, b, o, rfl, hcap, hmax, hp, hc⟩ := h; have HC := Lib.hid hc; clear hc; have HP := Lib.hid hp; clear hp; have HPS := Lib.hid hps; clear hps; have HN := Lib.hid hn; clear hn; have HX8 := Lib.hid hx8; clear hx8; go_enter Tryz.func206, Tryz.ntmps206; go_wp2
 go_loopw [8] (fun i wr => ∃ k : Nat, k ≤ qs.length ∧ i = .int .i64 k ∧ (qs.take k).all (fun q => !(!inG ps (toG q))) = true ∧ Below w.heap.size w wr) (fun i _ => qs.length - (intOf i).toNat)
 case atStart => exact ⟨0, Nat.zero_le _, rfl, rfl, Below.refl _ _⟩
 case round =>
  obtain ⟨k, hk, rfl, hall, hbel⟩ := hrel; have HA := Lib.hid hall; clear hall; have HB := Lib.hid hbel; clear hbel
  by_cases hlt : k < qs.length
  ·obtain rfl := HP.out (by omega)
   obtain ⟨g0, g1, g2⟩ := placeR_keeps _ _ _ _ _ HB.out (HC.out k hlt); have HCON := Lib.hid (closed1_any (toG qs[k]) nb xb pv ps wr (HPS.out.keep plcR_keeps HB.out) (size_keep HB.out hnb) (cell_keep HB.out hnb HN.out) (size_keep HB.out hx) (cell_keep HB.out hx HX8.out)); unfold toG at HCON; generalize hx : qs[k] = x at g1 g2 HCON; obtain ⟨x1, x2⟩ := x; simp only [] at g1 g2 HCON; have HX := Lib.hid hx; clear hx; generalize hbq : (!inG ps (↑x1, ↑x2)) = bq at HCON; have HBQ := Lib.hid hbq; clear hbq; go_wp2_with (go_at_call 156; refine HCON.out.mono ?_; rintro e w' ⟨rfl, hB⟩)
   ·have hyes : bq = true := by assumption
    go_ret; exact ⟨ret_int (by rw [findIdx_some hlt HX.out (by rw [← hyes, ← HBQ.out]; rfl) HA.out]; rfl), HB.out.trans (hB.mono HB.out.size)⟩
   ·have hno : bq = false := by assumption
    go_roundw
    case rel => exact ⟨k + 1, by omega, by go_num, take_all_snoc hlt HX.out HA.out (by rw [show (!inG ps (toG (x1, x2))) = bq from HBQ.out, hno]; rfl), HB.out.trans (hB.mono HB.out.size)⟩
    case measure => simp [intOf]; omega
  ·go_wp2; go_ret; exact ⟨ret_int (by rw [findIdx_none (all_end hlt HA.out)]; rfl), HB.out⟩
def outB (ps : List GP) (qs : List (Nat × Nat)) : Bool := qs.any (fun q => !inG ps (toG q))
set_option maxHeartbeats 400000 in
theorem containsFPlc_any (v : Value) (qs : List (Nat × Nat)) (pv : Value) (ps : List GP) (nb xb : Nat) (w : World) (h : RowAt 2 PlaceR w v qs) (hps : RowAt 2 PlcR w pv ps) (hnb : nb < w.heap.size) (hn : w.cell? ⟨nb, 0, none⟩ = some (.pointer (some ⟨xb, 0, none⟩))) (hx : xb < w.heap.size) (hx8 : w.cell? ⟨xb, 8, none⟩ = some pv) :
 Calls Tryz.prog 155 #[v, .func (.func 156) #[] #[.pointer (some ⟨nb, 0, none⟩)]] w fun e w' => e = .returned (.bool (outB ps qs)) ∧ Below w.heap.size w w' := by
 have HI := Lib.hid (indexFPlc_any v qs pv ps nb xb w h hps hnb hn hx hx8); have hE : decide (0 ≤ idxA (qs.findIdx? (fun q => !inG ps (toG q)))) = outB ps qs := idxA_geq
 generalize idxA (qs.findIdx? (fun q => !inG ps (toG q))) = n at hE HI
 have HE := Lib.hid hE; clear hE; obtain ⟨pp, cap, b, o, rfl, -⟩ := h; clear hn hx8 hps; go_enter Tryz.func155, Tryz.ntmps155; go_wp2_with (go_at_call 206; refine HI.out.mono ?_; rintro e w1 ⟨rfl, hB1⟩); go_ret; exact ⟨ret_bool (by rw [← HE.out]), hB1⟩
end
end Go.Proofs.YtboegjdkedjhcaaGreatDoor
