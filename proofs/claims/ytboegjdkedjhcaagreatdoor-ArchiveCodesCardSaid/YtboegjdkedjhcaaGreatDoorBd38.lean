/- The walk of aediculeref35.Get (begun). -/
import Derived.Test.YtboegjdkedjhcaaGreatDoorBd32
import Derived.Test.YtboegjdkedjhcaaGreatDoorBd08
import Derived.Test.YtboegjdkedjhcaaGreatDoorBd36
namespace Go.Proofs.YtboegjdkedjhcaaGreatDoor
open Go.RowKit Go.Maps
/-- what is still to be read is no longer than S -/
def RestLe (S : Nat) (st : RS) : Prop := ∀ l, st = some l → l.length ≤ S
theorem RestLe.take {S : Nat} {st : RS} (h : RestLe S st) (n : Nat) : RestLe S (rTake n st).2 := by
  intro l hl
  cases st with
  | none => cases hl
  | some r =>
    have hr := h r rfl
    by_cases hn : n ≤ r.length
    · simp only [rTake, if_pos hn] at hl
      obtain rfl := Option.some.inj hl
      simp; omega
    · simp only [rTake, if_neg hn] at hl
      cases hl
theorem RestLe.num {S : Nat} {st : RS} (h : RestLe S st) (n : Nat) : RestLe S (rNum n st).2 := h.take n
theorem RestLe.text {S : Nat} {st : RS} (h : RestLe S st) : RestLe S (rText st).2 := (h.num 2).take _
theorem rTake_big {S n : Nat} {st : RS} (h : RestLe S st) (hn : S < n) : rTake n st = ([], none) := by
  cases st with
  | none => rfl
  | some r =>
    have hr := h r rfl
    exact if_neg (by omega)
theorem getB_nil : getB [] = none := if_neg fun h => by
  have : (rObj []).1 = magicB := h.2.1
  revert this; decide +kernel
/-- what Get of a member's bytes ends with -/
theorem got_any {s : ByteArray} {w w' : World} {e : Ending} (h : GetPost s w e w') : ∃ (o : GObj) (p : Option Addr) (k : Nat) (c : Int), e = .returned (.tuple #[.agg #[.string o.name, .slice p o.syms.length k], .int .i64 c]) ∧ Fresh w.heap.size w' o (.slice p o.syms.length k) ∧ ObjFit o ∧ ((c = 0 ∧ getB s.data.toList = some o) ∨ (c = 7 ∧ getB s.data.toList = none)) ∧ Below w.heap.size w w' := by
  obtain ⟨h1, hB⟩ := h
  cases hg : getB s.data.toList with
  | none =>
    rw [hg] at h1
    obtain rfl := h1
    exact ⟨⟨⟨#[]⟩, []⟩, none, 0, 7, rfl, ⟨[], rfl, World.ownsRow_nil _ _ _ _, fun t ht => by cases ht⟩, ⟨by decide, by decide, fun s hs => by cases hs⟩, .inr ⟨rfl, rfl⟩, hB⟩
  | some o =>
    rw [hg] at h1
    obtain ⟨vs, rfl, hfr⟩ := h1
    obtain ⟨p, k, rfl⟩ := hfr.shape
    exact ⟨o, p, k, 0, rfl, hfr, (getB_some hg).2.1, .inl ⟨rfl, rfl⟩, hB⟩
set_option maxRecDepth 100000 in
set_option maxHeartbeats 4000000 in
theorem ref35Get_any (s : ByteArray) (w : World) (hs : s.size ≤ 2000000000) :
    Calls Tryz.prog 16 #[.string s] w (ArcGot (arcGetV s).1 (arcGetV s).2 w) := by
  go_enter Tryz.func16, Tryz.ntmps16
  go_upto_region 1 with fail
  generalize hw0 : w.alloc (.cells #[.string ⟨#[]⟩, .slice none 0 0] 24) = w0
  have HB0 : Hid (Below w.heap.size w w0) := by subst hw0; exact alloc_old _ _
  have hz0 : w.heap.size < w0.heap.size := by subst hw0; simp
  have HR0 : Hid (w0.heap[w.heap.size]? = some (.cells #[.string ⟨#[]⟩, .slice none 0 0] 24 (0, 0))) := by subst hw0; exact heap_alloc_new w _
  clear hw0
  go_upto_region 2 with fail
  generalize hw1 : w0.alloc (.cells #[.string s, .int .i64 0] 108) = w1
  have K1 : Hid (RrS w1 w0.heap.size (some s.data.toList)) := by subst hw1; exact ⟨s, 0, ⟨heap_alloc_new w0 _, by omega⟩, rrOf_ok.symm⟩
  have k2 : Below w0.heap.size w0 w1 := by subst hw1; exact alloc_old _ _
  have hz1 : w0.heap.size < w1.heap.size := K1.out.lt
  have HB1 : Hid (Below w.heap.size w w1) := HB0.out.trans (k2.mono (by omega))
  replace HR0 := Lib.hid ((k2.block w.heap.size hz0).trans HR0.out)
  clear hw1 k2 HB0
  generalize hrb : w0.heap.size = rb at K1 hz1
  have hrw : w.heap.size < rb := by omega
  clear hrb hz0
  go_wp2_with fail
  refine (rrTake4 rb _ w1 K1.out).mono ?_
  rintro e w3 ⟨c3, rfl, -, k1, k2⟩
  have K3 := Lib.hid k1
  have HK3 : Hid (KR rb w1 w3) := k2
  clear k1 k2 K1
  go_upto_region 4 with fail
  have hb4 := alloc_old w3 (.cells #[.string ⟨#[]⟩, .slice none 0 0] 24)
  have hx4 : (w3.alloc (.cells #[.string ⟨#[]⟩, .slice none 0 0] 24)).heap[w3.heap.size]? = some (.cells #[.string ⟨#[]⟩, .slice none 0 0] 24 (0, 0)) := heap_alloc_new w3 _
  generalize w3.alloc (.cells #[.string ⟨#[]⟩, .slice none 0 0] 24) = w4 at hb4 hx4 ⊢
  have K4 : Hid (RrS w4 rb (rTake 4 (some s.data.toList)).2) := K3.out.congr (hb4.block rb K3.out.lt)
  have HK4 : Hid (KR rb w1 w4) := HK3.out.trans (KB.of_below hb4)
  have hrx : rb < w3.heap.size := K3.out.lt
  have hxz : w3.heap.size < w4.heap.size := (Array.getElem?_eq_some_iff.1 hx4).1
  generalize w3.heap.size = xb at hx4 hrx hxz ⊢
  clear hb4 K3 HK3
  go_wp2_with fail
  refine (rrText_any rb _ w4 K4.out).mono ?_
  rintro e w5 ⟨c5, rfl, k1, k2⟩
  have K5 := Lib.hid k1
  have HK5 : Hid (KR rb w1 w5) := HK4.out.trans k2
  have hx5 := (k2.block xb hxz (by omega)).trans hx4
  clear k1 k2 K4 HK4 hx4
  obtain ⟨g0, g1, gz⟩ := twos hx5
  have HX5 := Lib.hid hx5
  clear hx5
  go_upto_region 5 with fail
  have HR5 := Lib.hid ((HK5.out.block _ (by omega) (by omega)).trans HR0.out)
  have HB5 : Hid (Below w.heap.size w w5) := HB1.out.trans (HK5.out.below HB1.out.size (fun g hg e => by omega))
  have hset : ∀ g u, g ≠ xb → (w5.setCell ⟨xb, 0, none⟩ u).heap[g]? = w5.heap[g]? := fun g u hg => Below.heap_setCell _ _ _ _ (by show g ≠ xb; omega)
  have hsame := heap_setCell_same w5 xb 0 _ _ (.string (rText (rTake 4 (some s.data.toList)).2).1) HX5.out
  have K6 : Hid (RrS (w5.setCell ⟨xb, 0, none⟩ (.string (rText (rTake 4 (some s.data.toList)).2).1)) rb (rText (rTake 4 (some s.data.toList)).2).2) := K5.out.congr (hset rb _ (by omega))
  have HR6 := Lib.hid ((hset w.heap.size (.string (rText (rTake 4 (some s.data.toList)).2).1) (by omega)).trans HR5.out)
  have HB6 : Hid (Below w.heap.size w (w5.setCell ⟨xb, 0, none⟩ (.string (rText (rTake 4 (some s.data.toList)).2).1))) := HB5.out.setCell (by show w.heap.size ≤ xb; omega) _
  have HX6 : Hid (ArcRow (xb + 1) xb (rText (rTake 4 (some s.data.toList)).2).1 (.slice none 0 0) [] (w5.setCell ⟨xb, 0, none⟩ (.string (rText (rTake 4 (some s.data.toList)).2).1))) := ⟨by simpa using hsame, World.ownsRow_nil _ _ _ _, (fun t ht => by cases ht), Nat.lt_succ_self _⟩
  generalize w5.setCell ⟨xb, 0, none⟩ (.string (rText (rTake 4 (some s.data.toList)).2).1) = w6 at K6 HR6 HB6 HX6 ⊢
  clear hset hsame HR5 HB5 HK5 K5 HX5 HR0 HB1 g0 g1 gz
  go_wp2_with fail
  refine (rrNum_any rb 1 _ w6 K6.out (by omega) (by omega)).mono ?_
  rintro e w7 ⟨c7, rfl, -, k1, k2⟩
  have K7 := Lib.hid k1
  have HX7 : Hid (ArcRow (xb + 1) xb (rText (rTake 4 (some s.data.toList)).2).1 (.slice none 0 0) [] w7) := HX6.out.stay fun g hg hx => k2.block g hg (by omega)
  have HR7 := Lib.hid ((k2.block _ (by have := K6.out.lt; omega) (by omega)).trans HR6.out)
  have HB7 : Hid (Below w.heap.size w w7) := HB6.out.trans (k2.below HB6.out.size (fun g hg e => by omega))
  clear k1 k2 K6 HX6 HR6 HB6
  have HNB := rNum_bd 1 (rText (rTake 4 (some s.data.toList)).2).2
  rw [p1] at HNB
  have HAG := Lib.hid (fun M h2 => arcGet_is (s := s.data.toList) (M := M) rfl rfl h2)
  have hns : (rText (rTake 4 (some s.data.toList)).2).1.size < 65536 := by
    unfold rText
    simp only []
    have h1 := rTake_len (rNum 2 (rTake 4 (some s.data.toList)).2).1.toNat (rNum 2 (rTake 4 (some s.data.toList)).2).2
    have h2 := rNum_bd 2 (rTake 4 (some s.data.toList)).2
    rw [p2] at h2
    rw [bsOf_size]; omega
  have hrl : RestLe s.size (rNum 1 (rText (rTake 4 (some s.data.toList)).2).2).2 := RestLe.num (RestLe.text (RestLe.take (fun l h => by obtain rfl := Option.some.inj h; simp) 4)) 1
  generalize (rTake 4 (some s.data.toList)).1 = mg at HAG ⊢
  generalize rText (rTake 4 (some s.data.toList)).2 = tx at HAG HNB K7 HX7 hns hrl ⊢
  obtain ⟨nm, st4⟩ := tx
  simp only [] at HAG HNB K7 HX7 hns hrl ⊢
  generalize rNum 1 st4 = nn at HAG HNB K7 hrl ⊢
  obtain ⟨n1, st5⟩ := nn
  simp only [] at HAG HNB K7 hrl ⊢
  have HRL := Lib.hid hrl
  clear hrl
  obtain ⟨n, rfl⟩ := Int.eq_ofNat_of_zero_le HNB.1
  rw [Int.toNat_natCast] at HAG
  obtain ⟨M, hM⟩ : ∃ M, rMems n st5 = M := ⟨_, rfl⟩
  have HM := Lib.hid hM
  replace HAG := Lib.hid (HAG.out M hM)
  clear hM
  have hn255 : n ≤ 255 := by omega
  clear HNB
  obtain ⟨ok0, hok0⟩ : ∃ ok0 : Bool, ((bsOf mg).toList == [65, 65, 82, 49]) = ok0 := ⟨_, rfl⟩
  have HOK0 : Hid (ok0 = true ↔ mg = aMagic) := by
    rw [Hid, ← hok0, beq_iff_eq, ByteArray.toList_eq, bsOf_list]; exact Iff.rfl
  have HXE : Hid ((ok0 = true ∧ mg = aMagic ∧ (rMems (n - 0) st5).map (fun r => (([] : List (GObj × Value)).map (·.1) ++ r.1, r.2)) = M) ∨ (ok0 = false ∧ arcGet s.data.toList = none)) := by
    cases ok0 with
    | true => exact .inl ⟨rfl, HOK0.out.1 rfl, by rw [Nat.sub_zero, HM.out]; cases M <;> simp⟩
    | false =>
      refine .inr ⟨rfl, ?_⟩
      rw [HAG.out]
      cases M with
      | none => rfl
      | some m => obtain ⟨l, st⟩ := m; exact if_neg fun h => by have := HOK0.out.2 h.2.1; cases this
  have hz7 : xb < w7.heap.size := (Array.getElem?_eq_some_iff.1 HX7.out.box).1
  obtain ⟨iO, s0, s1, s2, s3⟩ := info_parts info_obj
  have HI := Lib.hid (And.intro s0 (And.intro s1 (And.intro s2 s3)))
  clear s0 s1 s2 s3
  go_wp2
  go_loopw [10, 11] (fun v10 v11 wr => ∃ (i : Nat) (ok : Bool) (ts : List (GObj × Value)) (v : Value) (st : RS), v11 = .int .u32 i ∧ v10 = .bool ok ∧ i ≤ n ∧ Hid (ts.length = i) ∧ RrS wr rb st ∧ RestLe s.size st ∧ ArcRow (xb + 1) xb nm v ts wr ∧ ((ok = true ∧ mg = aMagic ∧ (rMems (n - i) st).map (fun r => (ts.map (·.1) ++ r.1, r.2)) = M) ∨ (ok = false ∧ arcGet s.data.toList = none)) ∧ wr.heap[w.heap.size]? = some (.cells #[.string ⟨#[]⟩, .slice none 0 0] 24 (0, 0)) ∧ Below w.heap.size w wr) (fun _ v11 _ => n - (intOf v11).toNat)
  case atStart => exact ⟨0, ok0, [], .slice none 0 0, st5, by go_num, rfl, Nat.zero_le _, rfl, K7.out, HRL.out, HX7.out, HXE.out, HR7.out, HB7.out⟩
  case round =>
    obtain ⟨i, ok, ts, v, st, rfl, rfl, hi, hlen, hrd, hrl, har, hinv, hrr, hbw⟩ := hrel
    have HRD := Lib.hid hrd; have HRL2 := Lib.hid hrl; have HAR := Lib.hid har; have HINV := Lib.hid hinv; have HRR := Lib.hid hrr; have HBW := Lib.hid hbw
    obtain ⟨pv, cv, rfl⟩ := own_shape har.row
    have hxr : xb < wr.heap.size := (Array.getElem?_eq_some_iff.1 har.box).1
    clear hrd har hinv hrr hbw hrl HM HX7 HR7 HB7 K7 HXE HRL
    obtain ⟨a, f, hrb, hst⟩ := HRD.out
    have q1 := hrb.c1
    have hrz : rb < wr.heap.size := hrb.lt
    clear hrb
    have HEX : Hid (∀ c st', st = st' → (c = 0 ↔ st' = some []) → i = n ∨ st' = none → (ok = true ∧ c = 0 → arcGet s.data.toList = if arcOk ⟨nm, ts.map (·.1)⟩ = true then some ⟨nm, ts.map (·.1)⟩ else none) ∧ (¬ (ok = true ∧ c = (0 : Int)) → arcGet s.data.toList = none)) := by
      intro c st' hs hc he
      subst hs
      have hz : rMems (n - i) st = some ([], st) := by
        rcases he with rfl | rfl
        · rw [Nat.sub_self]; rfl
        · cases n - i <;> rfl
      rcases HINV.out with ⟨h1, h2, h3⟩ | ⟨h1, h2⟩
      · rw [hz] at h3
        simp only [Option.map_some, List.append_nil] at h3
        rw [← h3] at HAG
        rw [HAG.out, arcEnd]
        constructor
        · rintro ⟨-, hc0⟩
          rw [hc.1 hc0, h2]
          simp
        · intro hn
          rw [if_neg]
          rintro ⟨k1, -, -⟩
          exact hn ⟨h1, hc.2 k1⟩
      · rw [h1, h2]
        exact ⟨fun h => (by cases h.1), fun _ => rfl⟩
    by_cases hgo : i < n ∧ f = 0
    · obtain ⟨hlt, hf⟩ := hgo
      · subst hf
        rw [rrOf_ok] at hst
        subst hst
        have dI : decide (i < n) = true := by simpa using hlt
        have dI' : decide ((i : Int) < (n : Int)) = true := by simpa using hlt
        obtain ⟨m', hm'⟩ : ∃ m', n - i = m' + 1 := ⟨n - i - 1, by omega⟩
        clear HEX
        have hsw : IntKind.u32.wrap (s.size : Int) = (s.size : Int) := by rw [IntKind.wrap_u32]; omega
        have HNU := Lib.hid (rrNum_any rb 4 _ wr HRD.out (by omega) (by omega))
        have hkb := rNum_bd 4 (some a.data.toList)
        rw [p4] at hkb
        have HRM : Hid (rMems (m' + 1) (some a.data.toList) = match getB (rTake (rNum 4 (some a.data.toList)).1.toNat (rNum 4 (some a.data.toList)).2).1 with
            | none => none
            | some o => match rMems m' (rTake (rNum 4 (some a.data.toList)).1.toNat (rNum 4 (some a.data.toList)).2).2 with
              | none => none
              | some (l, st) => some (o :: l, st)) := rfl
        have hrl2 := RestLe.num HRL2.out 4
        rw [hm'] at HINV
        go_wp2_with fail
        refine HNU.out.mono ?_
        rintro e w8 ⟨c8, rfl, -, k1, k2⟩
        clear HNU HRD
        generalize rNum 4 (some a.data.toList) = nk at hkb HRM k1 hrl2 ⊢
        obtain ⟨kk, st7⟩ := nk
        simp only [] at hkb HRM k1 hrl2 ⊢
        obtain ⟨kn, rfl⟩ := Int.eq_ofNat_of_zero_le hkb.1
        rw [Int.toNat_natCast] at HRM
        have hkn : kn ≤ 4294967295 := by omega
        clear hkb
        have K8 := Lib.hid k1
        have HX8 : Hid (ArcRow (xb + 1) xb nm (.slice pv ts.length cv) ts w8) := HAR.out.stay fun g hg hx => k2.block g hg (by omega)
        have HR8 := Lib.hid ((k2.block _ (by omega) (by omega)).trans HRR.out)
        have HB8 : Hid (Below w.heap.size w w8) := HBW.out.trans (k2.below HBW.out.size (fun g hg e => by omega))
        clear k1 k2 HAR HRR HBW
        by_cases hbig : s.size < kn
        · have hno : arcGet s.data.toList = none := by
            rcases HINV.out with ⟨-, -, h3⟩ | ⟨-, h3⟩
            · rw [HRM.out, rTake_big hrl2 hbig, getB_nil] at h3
              rw [HAG.out, ← h3]; rfl
            · exact h3
          have HV : Hid (arcGetV s = (⟨⟨#[]⟩, []⟩, 7)) := by rw [Hid, arcGetV, hno]
          obtain ⟨r0, r1, rz⟩ := twos HR8.out
          have HPUT := Lib.hid (twos (two_put (u0 := .string ⟨#[]⟩) (u1 := .slice none 0 0) HR8.out))
          have hbig2 : (s.size : Int) < (kn : Int) := by omega
          clear hno
          go_wp2_with fail
          obtain ⟨x0, x1, -⟩ := HPUT.out
          refine bodyPost_ret (v := .tuple #[.agg #[.string ⟨#[]⟩, .slice none 0 0], .int .i64 7]) (by simp [results, Tryz.results16, go_sem, x0, x1]) rfl ?_
          rw [HV.out]
          exact arcNo_got ((HB8.out.setCell (Nat.le_refl _) _).setCell (Nat.le_refl _) _)
        · have hbl := rTake_len kn st7
          have hrl3 := RestLe.take hrl2 kn
          have HTK := Lib.hid (rrTake_any rb kn _ w8 K8.out)
          have hbig2 : ¬ (s.size : Int) < (kn : Int) := by omega
          go_wp2_with fail
          refine HTK.out.mono ?_
          rintro e w9 ⟨c9, rfl, -, k1, k2⟩
          generalize rTake kn st7 = tk at hbl HRM hrl3 k1 ⊢
          obtain ⟨bb, st8⟩ := tk
          simp only [] at hbl HRM hrl3 k1 ⊢
          have K9 := Lib.hid k1
          have HX9 : Hid (ArcRow (xb + 1) xb nm (.slice pv ts.length cv) ts w9) := HX8.out.stay fun g hg hx => k2.block g hg (by omega)
          have hz8 : xb < w8.heap.size := (Array.getElem?_eq_some_iff.1 HX8.out.box).1
          have HR9 := Lib.hid ((k2.block _ (by omega) (by omega)).trans HR8.out)
          have HB9 : Hid (Below w.heap.size w w9) := HB8.out.trans (k2.below HB8.out.size (fun g hg e => by omega))
          have hz9 : xb < w9.heap.size := (Array.getElem?_eq_some_iff.1 HX9.out.box).1
          clear k1 k2 HTK K8 HX8 HR8 HB8
          have HGT := Lib.hid (refGet_any (bsOf bb) w9 (by rw [bsOf_size]; omega))
          go_wp2_with fail
          refine HGT.out.mono ?_
          rintro e w10 hgp
          obtain ⟨o, po, co, ce, rfl, hfr, hfit, hce, hB10⟩ := got_any hgp
          rw [bsOf_list] at hce
          have K10 : Hid (RrS w10 rb st8) := K9.out.congr (hB10.block rb (by omega))
          have HX10 := Lib.hid (HX9.out.below hB10)
          have HR10 := Lib.hid ((hB10.block _ (by omega)).trans HR9.out)
          have HB10 : Hid (Below w.heap.size w w10) := HB9.out.trans (hB10.mono HB9.out.size)
          have hz10 : xb < w10.heap.size := (Array.getElem?_eq_some_iff.1 HX10.out.box).1
          have HFR := Lib.hid (hfr.mono (B' := xb + 1) (by omega))
          have HFIT := Lib.hid hfit
          obtain ⟨ok', hok'⟩ : ∃ ok' : Bool, (ok && decide (ce = 0)) = ok' := ⟨_, rfl⟩
          have HINV2 : Hid ((ok' = true ∧ mg = aMagic ∧ (rMems m' st8).map (fun r => ((ts ++ [(o, Value.slice po o.syms.length co)]).map (·.1) ++ r.1, r.2)) = M) ∨ (ok' = false ∧ arcGet s.data.toList = none)) := by
            rw [Hid, ← hok']
            rcases HINV.out with ⟨h1, h2, h3⟩ | ⟨h1, h2⟩
            · rw [HRM.out] at h3
              rcases hce with ⟨rfl, hg⟩ | ⟨rfl, hg⟩
              · rw [hg] at h3
                refine .inl ⟨by rw [h1]; rfl, h2, ?_⟩
                rw [← h3]
                cases rMems m' st8 with
                | none => rfl
                | some p => simp
              · rw [hg] at h3
                refine .inr ⟨by simp, ?_⟩
                rw [HAG.out, ← h3]; rfl
            · exact .inr ⟨by rw [h1]; rfl, h2⟩
          clear hgp hfr hfit hB10 HGT K9 HX9 HR9 HB9 HINV HRM hbig hbig2
          have hce2 : ce = 0 ∨ ce = 7 := hce.imp And.left And.left
          have HOK := Lib.hid hok'
          have hml : ts.length ≤ 255 := by have := hlen; rw [Hid] at this; omega
          clear hce hok'
          go_upto_region 15 with fail
          go_cut [10] (fun v wx => v = .bool ok' ∧ wx = w10.alloc (.cells #[.string o.name, .slice po o.syms.length co] 50))
          case first =>
            rcases hce2 with rfl | rfl <;> cases ok <;> (have e := HOK.out; simp at e; subst e; go_wp2; go_meet; exact ⟨rfl, rfl⟩)
          case rest =>
            obtain ⟨rfl, rfl⟩ := hcut
            clear hce2 HOK
            have HARA : Hid (ArcRow (xb + 1) xb nm (.slice pv ts.length cv) ts ((w10.alloc (.cells #[.string o.name, .slice po o.syms.length co] 50)).alloc (.cells #[.string o.name, .slice po o.syms.length co] 50))) := (HX10.out.below (alloc_old _ _)).below (alloc_old _ _)
            have HFRA : Hid (Fresh (xb + 1) ((w10.alloc (.cells #[.string o.name, .slice po o.syms.length co] 50)).alloc (.cells #[.string o.name, .slice po o.syms.length co] 50)) o (.slice po o.syms.length co)) := (HFR.out.keep (alloc_old _ _)).keep (alloc_old _ _)
            have x1 : w10.cell? ⟨xb, 1, none⟩ = some (.slice pv ts.length cv) := Lib.cell_of_heap HX10.out.box 1
            have xz : w10.frozen? ⟨xb, 1, none⟩ = false := Lib.frozen_of_heap HX10.out.box 1
            go_wp2_with (at_builtin; refine wpList_append_own _ rfl _ _ 22 rfl (xb + 1) 50 iO _ 2 40 Tryz.underlying22 HI.out.1 HI.out.2.1 HI.out.2.2.1 HI.out.2.2.2 rfl (by decide) (.slice pv ts.length cv) ts.length (ts.flatMap obCells) rfl HARA.out.row _ 1 1 [.string o.name, .slice po o.syms.length co] rfl rfl (ob_news (by simp [go_sem]) (by simp [go_sem])) ob_one (by unfold maxLen; omega) (by omega) (by simp; omega) ?_)
            intro v' w' hown hgrow _
            obtain ⟨pv', cv', rfl⟩ := own_shape hown
            have HADD := Lib.hid (HARA.out.add hgrow hown HFRA.out HFIT.out)
            have hown0 : ∀ g, (Value.slice pv ts.length cv).ownBlock = some g → xb + 1 ≤ g := fun g hg => (HARA.out.row.lt g hg).1
            have hkeep : ∀ g, g < xb → w'.heap[g]? = w10.heap[g]? := fun g hg => (hgrow.block g (by simp; omega) (fun e => by have := hown0 _ e.symm; omega)).trans ((Below.heap_alloc _ _ _ (by simp; omega)).trans (Below.heap_alloc _ _ _ (by omega)))
            have hset : ∀ g u, g < xb → (w'.setCell ⟨xb, 1, none⟩ u).heap[g]? = w'.heap[g]? := fun g u hg => Below.heap_setCell _ _ _ _ (by show g ≠ xb; omega)
            have K12 : Hid (∀ u, RrS (w'.setCell ⟨xb, 1, none⟩ u) rb st8) := fun u => K10.out.congr ((hset rb u hrx).trans (hkeep rb hrx))
            have HRR12 : Hid (∀ u, (w'.setCell ⟨xb, 1, none⟩ u).heap[w.heap.size]? = some (.cells #[.string ⟨#[]⟩, .slice none 0 0] 24 (0, 0))) := fun u => (hset _ u (by omega)).trans ((hkeep _ (by omega)).trans HR10.out)
            have HBW12 : Hid (∀ u, Below w.heap.size w (w'.setCell ⟨xb, 1, none⟩ u)) := fun u => (((((HB10.out.alloc HB10.out.size _).alloc (by simp; have := HB10.out.size; omega) _)).grown hgrow (by simp; have := HB10.out.size; omega) (fun g e => by have := hown0 _ e; omega)).setCell (by show w.heap.size ≤ xb; omega) _)
            have hbx : w'.heap[xb]? = some (.cells #[.string nm, .slice pv ts.length cv] 24 (0, 0)) := (hgrow.block xb (by simp; omega) (fun e => by have := hown0 _ e.symm; omega)).trans HARA.out.box
            have y1 : w'.cell? ⟨xb, 1, none⟩ = some (.slice pv ts.length cv) := Lib.cell_of_heap hbx 1
            have yz : w'.frozen? ⟨xb, 1, none⟩ = false := Lib.frozen_of_heap hbx 1
            clear hown hgrow hown0 hkeep hset x1 xz hbx
            have hni : n - (i + 1) = m' := by omega
            have HNI := Lib.hid hni
            clear hni hm'
            go_wp2
            go_roundw
            case rel =>
              refine ⟨i + 1, ok', ts ++ [(o, .slice po o.syms.length co)], _, st8, by go_num, rfl, by omega, ?_, K12.out _, hrl3, HADD.out, ?_, HRR12.out _, HBW12.out _⟩
              · rw [Hid, List.length_append, List.length_singleton]; have := hlen; rw [Hid] at this; omega
              · rw [HNI.out]; exact HINV2.out
            case measure => simp [intOf]; omega
    · have he : i = n ∨ st = none := by
        by_cases hlt : i < n
        · exact .inr (hst.trans (rrOf_bad fun h => hgo ⟨hlt, h⟩))
        · exact .inl (by omega)
      have HST := Lib.hid hst
      have hml : ts.length ≤ 255 := by have := hlen; rw [Hid] at this; omega
      have HEND := Lib.hid (rrEnd_any rb st wr HRD.out)
      have HFITS : Hid (∀ o ∈ ts.map (·.1), mayP o = mayOk o) := fun o ho => by
        obtain ⟨t, ht, rfl⟩ := List.mem_map.1 ho
        exact mayP_eq fun y hy => by have := ((HAR.out.mem t ht).2.2.2 y hy).2.2.2.2.1; omega
      obtain ⟨r0, r1, rz⟩ := twos HRR.out
      have HPUT0 := Lib.hid (twos (two_put (u0 := .string ⟨#[]⟩) (u1 := .slice none 0 0) HRR.out))
      clear hst HAG HINV HI
      by_cases hlt : i < n
      case' pos =>
        have hf : ¬ f = 0 := fun h => hgo ⟨hlt, h⟩
        have hfb : (f == 0) = false := by simpa using hf
        have dI : decide (i < n) = true := by simpa using hlt
        have dI' : decide ((i : Int) < (n : Int)) = true := by simpa using hlt
        clear hf hgo
      case' neg =>
        have dI : decide (i < n) = false := by simpa using hlt
        have dI' : decide ((i : Int) < (n : Int)) = false := by simpa using hlt
        clear hgo
      all_goals
        cases ok with
        | false =>
          have HV : Hid (arcGetV s = (⟨⟨#[]⟩, []⟩, 7)) := by
            have hx : ∃ c : Int, c = 0 ↔ st = some [] := by
              by_cases h : st = some []
              · exact ⟨0, fun _ => h, fun _ => rfl⟩
              · exact ⟨1, fun h1 => by omega, fun h1 => absurd h1 h⟩
            obtain ⟨c, hx⟩ := hx
            rw [Hid, arcGetV, (HEX.out c st rfl hx he).2 (by simp)]
          clear HEX HEND HST
          go_wp2_with fail
          obtain ⟨x0, x1, -⟩ := HPUT0.out
          refine bodyPost_ret (v := .tuple #[.agg #[.string ⟨#[]⟩, .slice none 0 0], .int .i64 7]) (by simp [results, Tryz.results16, go_sem, x0, x1]) rfl ?_
          rw [HV.out]
          exact arcNo_got ((HBW.out.setCell (Nat.le_refl _) _).setCell (Nat.le_refl _) _)
        | true =>
          clear r0 r1 rz HPUT0
          go_wp2_with fail
          refine HEND.out.mono ?_
          rintro e w9 ⟨c, rfl, hc, k1⟩
          have HE2 := Lib.hid (HEX.out c st rfl hc he)
          have HX9 : Hid (ArcRow (xb + 1) xb nm (.slice pv ts.length cv) ts w9) := HAR.out.stay fun g hg hx => k1.block g hg (by omega)
          have HR9 := Lib.hid ((k1.block _ (by omega) (by omega)).trans HRR.out)
          have HB9 : Hid (Below w.heap.size w w9) := HBW.out.trans (k1.below HBW.out.size (fun g hg e => by omega))
          have hz9 : xb < w9.heap.size := (Array.getElem?_eq_some_iff.1 HX9.out.box).1
          clear hc k1 HEND HEX HAR HRR HBW HRD
          obtain ⟨r0, r1, rz⟩ := twos HR9.out
          by_cases hc0 : c = 0
          · subst hc0
            have HCK := Lib.hid (arcMayR_any ⟨nm, ts.map (·.1)⟩ (.slice pv ts.length cv) w9 (HX9.out.arcIn (by omega) (by omega)))
            rw [← arcOk_same HFITS.out] at HCK
            simp only [] at HCK
            have h1 := HE2.out.1 (by simp)
            have a0 : w9.cell? ⟨xb, 0, none⟩ = some (.string nm) := Lib.cell_of_heap HX9.out.box 0
            have a1 : w9.cell? ⟨xb, 1, none⟩ = some (.slice pv ts.length cv) := Lib.cell_of_heap HX9.out.box 1
            by_cases hmay : arcOk ⟨nm, ts.map (·.1)⟩ = true
            · rw [hmay] at HCK
              rw [if_pos hmay] at h1
              have HV : Hid (arcGetV s = (⟨nm, ts.map (·.1)⟩, 0)) := by unfold arcGetV; rw [h1]; rfl
              clear h1 hmay r0 r1 rz HE2
              go_wp2_with fail
              refine HCK.out.mono ?_
              rintro e w10 ⟨rfl, hB10⟩
              have HX10 := Lib.hid (HX9.out.below hB10)
              have hr10 := (hB10.block _ (by omega)).trans HR9.out
              have HB10 : Hid (Below w.heap.size w w10) := HB9.out.trans (hB10.mono HB9.out.size)
              obtain ⟨r0, r1, rz⟩ := twos hr10
              have HPUT := Lib.hid (twos (two_put (u0 := .string nm) (u1 := .slice pv ts.length cv) hr10))
              replace a0 : w10.cell? ⟨xb, 0, none⟩ = some (.string nm) := Lib.cell_of_heap HX10.out.box 0
              replace a1 : w10.cell? ⟨xb, 1, none⟩ = some (.slice pv ts.length cv) := Lib.cell_of_heap HX10.out.box 1
              clear hB10 hr10 HCK
              go_wp2_with fail
              obtain ⟨x0, x1, -⟩ := HPUT.out
              refine bodyPost_ret (v := .tuple #[.agg #[.string nm, .slice pv ts.length cv], .int .i64 0]) (by simp [results, Tryz.results16, go_sem, x0, x1]) rfl ?_
              rw [HV.out]
              refine ⟨_, rfl, ⟨pv, cv, by simp⟩, ArcRow.arcIn (B := xb + 1) (xb := xb) (HX10.out.stay fun g hg hx => ?_) (by omega) (by omega), (HB10.out.setCell (Nat.le_refl _) _).setCell (Nat.le_refl _) _⟩
              exact (Below.heap_setCell _ _ _ _ (by show g ≠ w.heap.size; omega)).trans (Below.heap_setCell _ _ _ _ (by show g ≠ w.heap.size; omega))
            · have hmay' : arcOk ⟨nm, ts.map (·.1)⟩ = false := by simpa using hmay
              rw [hmay'] at HCK
              rw [if_neg hmay] at h1
              have HV : Hid (arcGetV s = (⟨⟨#[]⟩, []⟩, 7)) := by rw [Hid, arcGetV, h1]
              clear h1 hmay hmay' r0 r1 rz HE2
              go_wp2_with fail
              refine HCK.out.mono ?_
              rintro e w10 ⟨rfl, hB10⟩
              have hr10 := (hB10.block _ (by omega)).trans HR9.out
              have HB10 : Hid (Below w.heap.size w w10) := HB9.out.trans (hB10.mono HB9.out.size)
              obtain ⟨r0, r1, rz⟩ := twos hr10
              have HPUT := Lib.hid (twos (two_put (u0 := .string ⟨#[]⟩) (u1 := .slice none 0 0) hr10))
              clear hB10 hr10 HCK
              go_wp2_with fail
              obtain ⟨x0, x1, -⟩ := HPUT.out
              refine bodyPost_ret (v := .tuple #[.agg #[.string ⟨#[]⟩, .slice none 0 0], .int .i64 7]) (by simp [results, Tryz.results16, go_sem, x0, x1]) rfl ?_
              rw [HV.out]
              exact arcNo_got ((HB10.out.setCell (Nat.le_refl _) _).setCell (Nat.le_refl _) _)
          · have HV : Hid (arcGetV s = (⟨⟨#[]⟩, []⟩, 7)) := by rw [Hid, arcGetV, HE2.out.2 fun h => hc0 h.2]
            have HPUT := Lib.hid (twos (two_put (u0 := .string ⟨#[]⟩) (u1 := .slice none 0 0) HR9.out))
            have bc : (c != 0) = true := by simpa using hc0
            clear hc0 HE2
            go_wp2_with fail
            obtain ⟨x0, x1, -⟩ := HPUT.out
            refine bodyPost_ret (v := .tuple #[.agg #[.string ⟨#[]⟩, .slice none 0 0], .int .i64 7]) (by simp [results, Tryz.results16, go_sem, x0, x1]) rfl ?_
            rw [HV.out]
            exact arcNo_got ((HB9.out.setCell (Nat.le_refl _) _).setCell (Nat.le_refl _) _)
end Go.Proofs.YtboegjdkedjhcaaGreatDoor
