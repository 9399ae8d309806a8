/- The walk of aediculeref16.May, at any image. The walk of aediculeref04's Decode. -/
import Derived.Test.YtghopakbefageaaGreatBt34
import Derived.Test.YtghopakbefageaaGreatBt26
import Derived.Test.YtghopakbefageaaGreatBt27
namespace Go.Proofs.YtghopakbefageaaGreat
open Go.RowKit Go.Maps
theorem rsegs_at {l : List GSeg} {k : Nat} {la : Int} {x : GSeg} (h : k < l.length) (hx : l[k] = x) : rSegsGo la (l.drop k) = (rSegB x && decide (la < x.addr) && rSegsGo (lastOf x) (l.drop (k + 1))) := by
  rw [List.drop_eq_getElem_cons h, hx, rSegsGo]
theorem pagesL_last (s : GSeg) (h : 1 ≤ s.bytes.size) : ∃ hp : pagesN s - 1 < (pagesL s (pagesN s)).length, (pagesL s (pagesN s))[pagesN s - 1] = lastOf s ∧ 1 ≤ pagesN s := by
  have h1 : 1 ≤ pagesN s := by unfold pagesN; omega
  refine ⟨by rw [pagesL_len]; omega, ?_, h1⟩
  unfold pagesL lastOf
  rw [List.getElem_map, List.getElem_range]
  unfold pagesN
  omega
theorem rSegB_parts {s : GSeg} (h : rSegB s = true) : 1 ≤ s.bytes.size ∧ s.addr + s.bytes.size ≤ 131072 ∧ 256 ≤ s.addr := by
  unfold rSegB at h
  simp only [Bool.and_eq_true, decide_eq_true_eq] at h
  omega
set_option maxHeartbeats 8000000 in
set_option maxRecDepth 100000 in
theorem rimg36 (x : GImg) (ve vp vs : Value) (w : World) (h : ImgAt w x ve vp vs) :
    Calls Tryz.prog 49 #[imgV x ve vp vs] w fun e w' => e = .returned (.bool (imgOkB x)) ∧ Below w.heap.size w w' := by
  have HEQ := Lib.hid (rImg_eq x)
  have HOK : Hid (rImgB x = (rSegsGo (-1) x.segs && (manOkB x.man && decide (1 ≤ x.segs.length) && decide (x.segs.length ≤ 8) && (x.segs.any (begP x.entry) && decide (x.entry % 8 = 0))))) := Lib.hid rfl
  rw [HEQ.out] at HOK
  have HMN : Hid (∀ W, Below w.heap.size w W → Calls Tryz.prog 68 #[.agg #[.int .u32 x.man.pages, ve, vp, .bool x.man.cons]] W fun e w' => e = .returned (.bool (manOkB x.man)) ∧ Below W.heap.size W w') := fun W hW => rman36 x.man ve vp W (h.1.keep hW)
  have HEN : Hid (∀ W, Below w.heap.size w W → Calls Tryz.prog 69 #[imgV x ve vp vs] W fun e w' => e = .returned (.bool (x.segs.any (begP x.entry) && decide (x.entry % 8 = 0))) ∧ Below W.heap.size W w') := fun W hW => rentry36 x ve vp vs W (h.keep hW)
  generalize manOkB x.man = tm at HMN HOK
  generalize (x.segs.any (begP x.entry) && decide (x.entry % 8 = 0)) = te at HEN HOK
  unfold imgV at *
  obtain ⟨⟨⟨p1, c1, _, _, rfl, -⟩, ⟨p2, c2, _, _, rfl, -⟩, -⟩, ⟨p3, c3, b3, o3, rfl, -, hmx3, hp3, hc3⟩, hen0, hen1⟩ := h
  obtain ⟨⟨mp, me, mq, mc⟩, en, sg⟩ := x
  simp only [] at *
  have HC := Lib.hid hc3; clear hc3
  have HP := Lib.hid hp3; clear hp3
  clear HEQ
  generalize hW : (w.alloc (.cells #[.int .u32 mp, .slice p1 me.length c1, .slice p2 mq.length c2, .bool mc, .int .u32 en, .slice p3 sg.length c3] 29)) = w1
  have HB1 : Hid (Below w.heap.size w w1) := by subst hW; exact alloc_old w _
  have HM : Hid (w1.heap[w.heap.size]? = some (.cells #[.int .u32 mp, .slice p1 me.length c1, .slice p2 mq.length c2, .bool mc, .int .u32 en, .slice p3 sg.length c3] 29 (0, 0))) := by subst hW; exact new_block w _
  have hz1 : w.heap.size < w1.heap.size := by subst hW; simp
  go_enter Tryz.func49, Tryz.ntmps49
  go_wp2_with fail
  try rw [hW]
  clear hW
  go_loopw [3, 4] (fun v3 v4 wr => ∃ (k : Nat) (la : Int), v4 = .int .i64 k ∧ k ≤ sg.length ∧ v3 = .int .i64 la ∧ -1 ≤ la ∧ la ≤ 1048576 ∧ rSegsGo (-1) sg = rSegsGo la (sg.drop k) ∧ Below w1.heap.size w1 wr) (fun _ v4 _ => sg.length - (intOf v4).toNat)
  case atStart => exact ⟨0, -1, by go_num, Nat.zero_le _, rfl, by omega, by omega, rfl, Below.refl _ _⟩
  case round =>
    obtain ⟨k, la, rfl, hk, rfl, hla0, hla1, hsk, hB⟩ := hrel
    have HSK := Lib.hid hsk; clear hsk
    have HB := Lib.hid hB
    have HBO : Hid (Below w.heap.size w wr) := HB1.out.trans (hB.mono (by omega))
    have HMR := Lib.hid ((hB.block _ hz1).trans HM.out)
    have hzr : w.heap.size < wr.heap.size := by have := hB.size; omega
    clear hB
    have a5 := Lib.cell_of_heap HMR.out 5
    by_cases hlt : k < sg.length
    · obtain rfl := HP.out (by omega)
      obtain ⟨g0, g1, g2, g3, g4, g5, g6⟩ := segR_keeps _ _ _ _ _ HBO.out (HC.out k hlt)
      have HSG := Lib.hid (rsegs_at (la := la) hlt rfl)
      have HSC : Hid (∀ W, Calls Tryz.prog 66 #[.agg #[.int .u32 sg[k].addr, .int .u8 sg[k].perm, .string sg[k].bytes]] W fun e w' => e = .returned (.bool (rSegB sg[k])) ∧ Below W.heap.size W w') := fun W => rseg36 sg[k] W g4.1 g4.2 g6
      have HRP := Lib.hid (fun hr : rSegB sg[k] = true => rSegB_parts hr)
      generalize hxk : sg[k] = x at g1 g2 g3 g4 g5 g6 HSG HSC HRP
      clear hxk
      have HPG : Hid (rSegB x = true → ∀ W, Calls Tryz.prog 67 #[.agg #[.int .u32 x.addr, .int .u8 x.perm, .string x.bytes]] W (PagesPost x W)) := fun hr W => rpages36 x W g4.1 (HRP.out hr).2.1
      cases hr : rSegB x with
      | false =>
        rw [hr] at HSG HSC
        have HF : Hid (imgOkB ⟨⟨mp, me, mq, mc⟩, en, sg⟩ = false) := Lib.hid (by rw [HOK.out, HSK.out, HSG.out]; rfl)
        clear HPG HRP HOK HSG hr
        go_wp2_with fail
        refine (HSC.out _).mono ?_
        rintro e w2 ⟨rfl, hB2⟩
        have HBO2 := Lib.hid (HBO.out.trans (hB2.mono HBO.out.size)); clear hB2
        go_wp2
        go_ret
        exact ⟨by rw [HF.out]; rfl, HBO2.out⟩
      | true =>
        rw [hr] at HSG HSC
        obtain ⟨hx1, hx2, hx3⟩ := HRP.out hr
        have HPG2 := Lib.hid (HPG.out hr)
        obtain ⟨hlp, hll, hn1⟩ := pagesL_last x hx1
        have HLL := Lib.hid hll; clear hll
        have hlb : 256 ≤ lastOf x ∧ lastOf x ≤ 262144 := by unfold lastOf; omega
        clear hr HPG HRP
        have r2 : IntKind.i64.wrap x.addr = x.addr := IntWalk.i64_in _ (by omega)
        go_wp2_with fail
        refine (HSC.out _).mono ?_
        rintro e w2 ⟨rfl, hB2⟩
        have HB2 := Lib.hid hB2
        have HBO2 : Hid (Below w.heap.size w w2) := HBO.out.trans (hB2.mono HBO.out.size)
        have a6 := cell_keep hB2 hzr a5
        replace g1 := cell_keep hB2 g0 g1
        replace g2 := cell_keep hB2 g0 g2
        replace g3 := cell_keep hB2 g0 g3
        have hz2 : w.heap.size < w2.heap.size := by have := hB2.size; omega
        have hg2 : b3 < w2.heap.size := by have := hB2.size; omega
        clear hB2 a5 HSC
        by_cases hal : x.addr ≤ la
        · have HF : Hid (imgOkB ⟨⟨mp, me, mq, mc⟩, en, sg⟩ = false) := Lib.hid (by rw [HOK.out, HSK.out, HSG.out, decide_eq_false (show ¬ la < x.addr by omega)]; rfl)
          clear HOK HSG
          go_wp2
          go_ret
          exact ⟨by rw [HF.out]; rfl, HBO2.out⟩
        · rw [decide_eq_true (show la < x.addr by omega)] at HSG
          simp only [Bool.true_and] at HSG
          go_wp2_with fail
          refine (HPG2.out _).mono ?_
          rintro e w3 ⟨vl, rfl, hrow, hB3⟩
          obtain ⟨pl, cl, bl, ol, rfl, -, -, hpl, hcl⟩ := hrow
          obtain rfl := hpl (by rw [pagesL_len]; omega)
          obtain ⟨f0, f1, f2, f3⟩ := hcl _ hlp
          rw [HLL.out, Nat.mul_one] at f1
          clear hcl hpl
          rw [pagesL_len] at hlp ⊢
          have HB3 : Hid (Below wr.heap.size wr w3) := HB2.out.trans (hB3.mono HB2.out.size)
          clear hB3 f2 f3 HPG2
          obtain ⟨M, hM⟩ : ∃ M, pagesN x = M + 1 := ⟨pagesN x - 1, by omega⟩
          rw [hM] at f1 hlp ⊢
          have hMM : M + 1 - 1 = M := by omega
          rw [hMM] at f1
          have hMb : (M : Int) ≤ 100000 := by unfold pagesN at hM; omega
          have r3 : IntKind.i64.wrap (((M + 1 : Nat) : Int) - 1) = (M : Int) := by rw [IntWalk.i64_in _ (by omega)]; omega
          have r4 : ((M + 1 : Nat) : Int) - 1 = (M : Int) := by omega
          have r5 : IntKind.i64.wrap (lastOf x) = lastOf x := IntWalk.i64_in _ (by omega)
          go_wp2
          go_roundw
          case rel => exact ⟨k + 1, lastOf x, by go_num, by omega, rfl, by omega, by omega, by rw [HSK.out, HSG.out], HB.out.trans (HB3.out.mono HB.out.size)⟩
          case measure => simp [intOf]; omega
    · obtain rfl : k = sg.length := by omega
      have HSN := Lib.hid HSK.out
      rw [List.drop_eq_nil_of_le (Nat.le_refl _), rSegsGo] at HSN
      rw [HSN.out, Bool.true_and] at HOK
      clear HSK HSN
      have a0 := Lib.cell_of_heap HMR.out 0
      have a1 := Lib.cell_of_heap HMR.out 1
      have a2 := Lib.cell_of_heap HMR.out 2
      have a3 := Lib.cell_of_heap HMR.out 3
      have a4 := Lib.cell_of_heap HMR.out 4
      go_wp2_with fail
      refine (HMN.out _ HBO.out).mono ?_
      rintro e w2 ⟨rfl, hB2⟩
      have HBO2 : Hid (Below w.heap.size w w2) := HBO.out.trans (hB2.mono HBO.out.size)
      replace a0 := cell_keep hB2 hzr a0
      replace a1 := cell_keep hB2 hzr a1
      replace a2 := cell_keep hB2 hzr a2
      replace a3 := cell_keep hB2 hzr a3
      replace a4 := cell_keep hB2 hzr a4
      replace a5 := cell_keep hB2 hzr a5
      clear hB2
      cases tm with
      | false =>
        go_wp2
        go_ret
        exact ⟨by rw [HOK.out]; rfl, HBO2.out⟩
      | true =>
      by_cases hn1 : 1 ≤ sg.length
      case neg =>
        rw [decide_eq_false hn1] at HOK
        have hl1 : ¬ (1 : Int) ≤ (sg.length : Int) := by omega
        clear hn1
        go_wp2
        go_ret
        exact ⟨by rw [HOK.out]; rfl, HBO2.out⟩
      by_cases hn2 : sg.length ≤ 8
      case neg =>
        rw [decide_eq_true hn1, decide_eq_false hn2] at HOK
        have hl1 : (1 : Int) ≤ (sg.length : Int) := by omega
        have hl2 : ¬ (sg.length : Int) ≤ 8 := by omega
        clear hn1 hn2
        go_wp2
        go_ret
        exact ⟨by rw [HOK.out]; rfl, HBO2.out⟩
      rw [decide_eq_true hn1, decide_eq_true hn2] at HOK
      have hl1 : (1 : Int) ≤ (sg.length : Int) := by omega
      have hl2 : (sg.length : Int) ≤ 8 := by omega
      clear hn1 hn2
      go_wp2_with fail
      refine (HEN.out _ HBO2.out).mono ?_
      rintro e w3 ⟨rfl, hB3⟩
      have HBO3 : Hid (Below w.heap.size w w3) := HBO2.out.trans (hB3.mono HBO2.out.size)
      clear hB3
      go_wp2
      go_ret
      exact ⟨by rw [HOK.out]; rfl, HBO3.out⟩
end Go.Proofs.YtghopakbefageaaGreat
namespace Go.Proofs.YtghopakbefageaaGreat
open Go.RowKit
theorem enc_raw {s : List UInt8} {o r b z i0 i1 i2 i3 : UInt8} (h : s = [o, r, b, z, i0, i1, i2, i3]) : encL (rawI s) = [o, r, b, 0, i0, i1, i2, i3] := by
  subst h
  have h1 := r.toNat_lt
  have e0 : UInt8.ofNat ((o.toNat : Int)).toNat = o := by simp
  have e1 : UInt8.ofNat ((r.toNat : Int) % 16 + 16 * ((r.toNat : Int) / 16)).toNat = r := by
    rw [show ((r.toNat : Int) % 16 + 16 * ((r.toNat : Int) / 16)) = (r.toNat : Int) by omega]; simp
  have e2 : UInt8.ofNat ((b.toNat : Int)).toNat = b := by simp
  have e3 : leB 4 (i0.toNat + 256 * i1.toNat + 65536 * i2.toNat + 16777216 * i3.toNat : Int) = [i0, i1, i2, i3] := by
    rw [← raw_le]; exact leB_leV [i0, i1, i2, i3]
  show [UInt8.ofNat ((o.toNat : Int)).toNat, UInt8.ofNat ((r.toNat : Int) % 16 + 16 * ((r.toNat : Int) / 16)).toNat, UInt8.ofNat ((b.toNat : Int)).toNat, 0] ++ leB 4 (i0.toNat + 256 * i1.toNat + 65536 * i2.toNat + 16777216 * i3.toNat : Int) = _
  rw [e0, e1, e2, e3]; rfl
set_option maxHeartbeats 1000000 in
set_option maxRecDepth 100000 in
theorem rdec04 (s : ByteArray) (w : World) : Calls Tryz.prog 50 #[.string s] w fun e w' => e = .returned (.tuple #[insV (insOf s.data.toList), .int .i64 (erI (decI s.data.toList).isSome 7)]) ∧ Below w.heap.size w w' := by
  by_cases h8 : s.size = 8
  · obtain ⟨o, r, b, z, i0, i1, i2, i3, hl⟩ := list8 (s := s.data.toList) (by simpa using h8)
    have HL := Lib.hid hl
    have HRB := Lib.hid (rawB (s := s.data.toList))
    obtain ⟨e4, he⟩ : ∃ e4, s.extract 4 8 = e4 := ⟨_, rfl⟩
    have HE := Lib.hid (extract8 hl he)
    have he4 : e4.size = 4 := by rw [← len_list, HE.out]; rfl
    have HWG := Lib.hid (fun W => rget01 e4 W (by omega) (by omega))
    rw [HE.out, raw_le] at HWG
    have g0 : s[0] = o := byteB (by omega) (by rw [hl]; rfl)
    have g1 : s[1] = r := byteB (by omega) (by rw [hl]; rfl)
    have g2 : s[2] = b := byteB (by omega) (by rw [hl]; rfl)
    have g3 : s[3] = z := byteB (by omega) (by rw [hl]; rfl)
    have HRW : Hid (rawI s.data.toList = ⟨o.toNat, r.toNat % 16, r.toNat / 16, b.toNat, i0.toNat + 256 * i1.toNat + 65536 * i2.toNat + 16777216 * i3.toNat⟩) := Lib.hid (by rw [hl]; rfl)
    have HT : Hid (encL (rawI s.data.toList) = [o, r, b, 0, i0, i1, i2, i3]) := Lib.hid (enc_raw hl)
    have hcase : Hid (insOk (rawI s.data.toList) = true ∧ z.toNat = 0 ∧ insOf s.data.toList = rawI s.data.toList ∧ (decI s.data.toList).isSome = true ∧ bsOf (encL (rawI s.data.toList)) = s) ∨ Hid (insOk (rawI s.data.toList) = true ∧ (decI s.data.toList) = none ∧ ((bsOf (encL (rawI s.data.toList))).toList == s.toList) = false) ∨ Hid (insOk (rawI s.data.toList) = false ∧ (decI s.data.toList) = none) := by
      cases hk : insOk (rawI s.data.toList) with
      | true =>
        by_cases hz : z.toNat = 0
        · obtain ⟨d1, d2⟩ := dec_at (s := s.data.toList) (by rw [hl]; rfl) (by rw [hl]; exact hz)
          rw [if_pos hk] at d1
          rw [hk] at d2
          refine .inl ⟨rfl, hz, d1, d2, ?_⟩
          have hz0 : z = 0 := by
            have : z = UInt8.ofNat z.toNat := by simp
            rw [this, hz]; rfl
          subst hz0
          rw [HT.out, ← hl]; rfl
        · refine .inr (.inl ⟨rfl, dec_bad (by rw [hl]; intro h; exact hz h.2), ?_⟩)
          rw [Bool.eq_false_iff]
          intro h
          have h2 := eq_of_beq h
          have h3 : (bsOf (encL (rawI s.data.toList))).data.toList = s.data.toList := by rw [ByteArray.toList_eq, ByteArray.toList_eq] at h2; exact h2
          rw [bsOf_list, HT.out, hl] at h3
          injection h3 with _ h3; injection h3 with _ h3; injection h3 with _ h3; injection h3 with h3 _
          exact hz (by rw [← h3]; rfl)
      | false =>
        refine .inr (.inr ⟨rfl, ?_⟩)
        unfold decI
        rw [if_neg fun h => by rw [hk] at h; cases h.2.2]
    have HEN := Lib.hid (fun W (hk : insOk (rawI s.data.toList) = true) => renc04_yes (rawI s.data.toList) W HRB.out hk)
    have HEX := Lib.hid (fun W (hk : insOk (rawI s.data.toList) = false) => renc04_no (rawI s.data.toList) W hk)
    have HCS := Lib.hid hcase; clear hcase
    clear hl HT
    generalize (i0.toNat : Int) + 256 * i1.toNat + 65536 * i2.toNat + 16777216 * i3.toNat = im at *
    have t1 : ((r.toNat : Int)).tmod 16 = (r.toNat : Int) % 16 := Int.tmod_eq_emod_of_nonneg (by omega)
    have t2 : ((r.toNat : Int)).tdiv 16 = (r.toNat : Int) / 16 := Int.tdiv_eq_ediv_of_nonneg (by omega)
    have t3 : IntKind.u8.wrap ((r.toNat : Int) / 16) = (r.toNat : Int) / 16 := by have := r.toNat_lt; rw [IntKind.wrap_u8]; omega
    go_enter Tryz.func50, Tryz.ntmps50
    go_wp2_with (go_at_call 70; refine (HWG.out _).mono ?_; rintro e w' ⟨rfl, rfl⟩)
    haveI : Nonempty (HW fun _ => True) := ⟨⟨w, trivial⟩⟩
    refine wp_region_marks (fun _ => True) [.r, .r, .r, .r, .r, .r, .r, .r, .r, .r, .r, .r, .u, .p] rfl (by kernel_rfl) trivial ?_
    repeat (refine wpReads_step (fun K hK => ?_); go_simp; refine hK _ ?_; clear hK K)
    refine wpReads_nil ?_
    refine wpTurns_step fun K hK => ?_
    go_simp
    refine hK _ _ trivial ?_
    clear hK K
    refine wpTurns_nil ?_
    simp only [pickP]
    go_wp2
    refine NoPanic.normal ?_
    have HAG : Hid (insV (rawI s.data.toList) = .agg #[.int .u8 o.toNat, .int .u8 (r.toNat % 16), .int .u8 (r.toNat / 16), .int .u8 b.toNat, .int .u32 im]) := Lib.hid (by rw [HRW.out]; rfl)
    rw [HAG.out] at HEN HEX
    clear t1 t2 t3 g0 g1 g2 g3 he he4 h8 HWG HRW HRB HL HE
    generalize (o.toNat : Int) = vo at *
    generalize (r.toNat : Int) % 16 = vd at *
    generalize (r.toNat : Int) / 16 = va at *
    generalize (b.toNat : Int) = vb at *
    generalize hT : bsOf (encL (rawI s.data.toList)) = T at HEN HCS
    clear hT
    rcases HCS.out with h | h | h
    · have HEN2 := Lib.hid (fun W => HEN.out W h.out.1)
      rw [h.out.2.2.2.2] at HEN2
      have H1 := Lib.hid h.out.2.2.1
      have H2 := Lib.hid h.out.2.2.2.1
      clear h HCS HEN HEX
      go_wp2_with (go_at_call 71; refine (HEN2.out _).mono ?_; rintro e w' ⟨rfl, hB⟩; obtain ⟨hc, hf⟩ := bcell hB; have hzz := hB.size; simp at hzz)
      have HBW : Below w.heap.size w w' := Below.trans (by go_grown) (hB.mono (by simp; omega))
      have q0 : w'.cell? ⟨w.heap.size, 0, none⟩ = some (.int .u8 0) := by rw [hB.cell (by simp; omega)]; simp [go_sem]
      have q1 : w'.cell? ⟨w.heap.size, 1, none⟩ = some (.int .u8 0) := by rw [hB.cell (by simp; omega)]; simp [go_sem]
      have q2 : w'.cell? ⟨w.heap.size, 2, none⟩ = some (.int .u8 0) := by rw [hB.cell (by simp; omega)]; simp [go_sem]
      have q3 : w'.cell? ⟨w.heap.size, 3, none⟩ = some (.int .u8 0) := by rw [hB.cell (by simp; omega)]; simp [go_sem]
      have q4 : w'.cell? ⟨w.heap.size, 4, none⟩ = some (.int .u32 0) := by rw [hB.cell (by simp; omega)]; simp [go_sem]
      exact bodyPost_ret (v := .tuple #[.agg #[.int .u8 vo, .int .u8 vd, .int .u8 va, .int .u8 vb, .int .u32 im], .int .i64 0]) (by simp [results, Tryz.results50, go_sem, q0, q1, q2, q3, q4]) rfl ⟨by rw [H1.out, HAG.out, H2.out]; rfl, by go_grown⟩
    · have HEN2 := Lib.hid (fun W => HEN.out W h.out.1)
      have hne := h.out.2.2
      have H1 := Lib.hid h.out.2.1
      clear h HCS HEN HEX
      go_wp2_with (go_at_call 71; refine (HEN2.out _).mono ?_; rintro e w' ⟨rfl, hB⟩; obtain ⟨hc, hf⟩ := bcell hB; have hzz := hB.size; simp at hzz)
      have HBW : Below w.heap.size w w' := Below.trans (by go_grown) (hB.mono (by simp; omega))
      have q0 : w'.cell? ⟨w.heap.size, 0, none⟩ = some (.int .u8 0) := by rw [hB.cell (by simp; omega)]; simp [go_sem]
      have q1 : w'.cell? ⟨w.heap.size, 1, none⟩ = some (.int .u8 0) := by rw [hB.cell (by simp; omega)]; simp [go_sem]
      have q2 : w'.cell? ⟨w.heap.size, 2, none⟩ = some (.int .u8 0) := by rw [hB.cell (by simp; omega)]; simp [go_sem]
      have q3 : w'.cell? ⟨w.heap.size, 3, none⟩ = some (.int .u8 0) := by rw [hB.cell (by simp; omega)]; simp [go_sem]
      have q4 : w'.cell? ⟨w.heap.size, 4, none⟩ = some (.int .u32 0) := by rw [hB.cell (by simp; omega)]; simp [go_sem]
      exact bodyPost_ret (v := .tuple #[insV ins0, .int .i64 7]) (by simp [results, Tryz.results50, go_sem, insV, ins0, q0, q1, q2, q3, q4]) rfl ⟨by unfold insOf; rw [H1.out]; rfl, by go_grown⟩
    · have HEN2 := Lib.hid (fun W => HEX.out W h.out.1)
      have H1 := Lib.hid h.out.2
      clear h HCS HEN HEX
      go_wp2_with (go_at_call 71; refine (HEN2.out _).mono ?_; rintro e w' ⟨rfl, hB⟩; obtain ⟨hc, hf⟩ := bcell hB; have hzz := hB.size; simp at hzz)
      have HBW : Below w.heap.size w w' := Below.trans (by go_grown) (hB.mono (by simp; omega))
      have q0 : w'.cell? ⟨w.heap.size, 0, none⟩ = some (.int .u8 0) := by rw [hB.cell (by simp; omega)]; simp [go_sem]
      have q1 : w'.cell? ⟨w.heap.size, 1, none⟩ = some (.int .u8 0) := by rw [hB.cell (by simp; omega)]; simp [go_sem]
      have q2 : w'.cell? ⟨w.heap.size, 2, none⟩ = some (.int .u8 0) := by rw [hB.cell (by simp; omega)]; simp [go_sem]
      have q3 : w'.cell? ⟨w.heap.size, 3, none⟩ = some (.int .u8 0) := by rw [hB.cell (by simp; omega)]; simp [go_sem]
      have q4 : w'.cell? ⟨w.heap.size, 4, none⟩ = some (.int .u32 0) := by rw [hB.cell (by simp; omega)]; simp [go_sem]
      exact bodyPost_ret (v := .tuple #[insV ins0, .int .i64 7]) (by simp [results, Tryz.results50, go_sem, insV, ins0, q0, q1, q2, q3, q4]) rfl ⟨by unfold insOf; rw [H1.out]; rfl, by go_grown⟩
  · have HN := Lib.hid (dec_bad (s := s.data.toList) (fun h => h8 (by simpa using h.1)))
    have h8' : ((s.size : Int) != 8) = true := by simp; omega
    clear h8
    go_enter Tryz.func50, Tryz.ntmps50
    go_wp2
    exact bodyPost_ret (v := .tuple #[insV ins0, .int .i64 7]) (by simp [results, Tryz.results50, go_sem, insV, ins0]) rfl ⟨by unfold insOf; rw [HN.out]; rfl, by go_grown⟩
end Go.Proofs.YtghopakbefageaaGreat
