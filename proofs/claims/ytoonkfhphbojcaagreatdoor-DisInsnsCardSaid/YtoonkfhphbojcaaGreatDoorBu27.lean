/- The walk of aediculeref04's Decode. -/
import Derived.Test.YtoonkfhphbojcaaGreatDoorBu24
namespace Go.Proofs.YtoonkfhphbojcaaGreatDoor
open Go.RowKit
theorem enc_raw {s : List UInt8} {o r b z i0 i1 i2 i3 : UInt8} (h : s = [o, r, b, z, i0, i1, i2, i3]) : encL (rawI s) = [o, r, b, 0, i0, i1, i2, i3] := by
  subst h
  have h1 := r.toNat_lt
  have e0 : UInt8.ofNat ((o.toNat : Int)).toNat = o := by simp
  have e1 : UInt8.ofNat ((r.toNat : Int) % 16 + 16 * ((r.toNat : Int) / 16)).toNat = r := by
    rw [show ((r.toNat : Int) % 16 + 16 * ((r.toNat : Int) / 16)) = (r.toNat : Int) by omega]; simp
  have e2 : UInt8.ofNat ((b.toNat : Int)).toNat = b := by simp
  have e3 : leB 4 (i0.toNat + 256 * i1.toNat + 65536 * i2.toNat + 16777216 * i3.toNat : Int) = [i0, i1, i2, i3] := by
    rw [← raw_le]; exact leB_leV [i0, i1, i2, i3]
  show [UInt8.ofNat ((o.toNat : Int)).toNat, UInt8.ofNat ((r.toNat : Int) % 16 + 16 * ((r.toNat : Int) / 16)).toNat, UInt8.ofNat ((b.toNat : Int)).toNat, 0] ++ leB 4 (i0.toNat + 256 * i1.toNat + 65536 * i2.toNat + 16777216 * i3.toNat : Int) = _
  rw [e0, e1, e2, e3]; rfl
set_option maxHeartbeats 1000000 in
set_option maxRecDepth 100000 in
theorem rdec04 (s : ByteArray) (w : World) : Calls Tryz.prog 49 #[.string s] w fun e w' => e = .returned (.tuple #[insV (insOf s.data.toList), .int .i64 (erI (decI s.data.toList).isSome 7)]) ∧ Below w.heap.size w w' := by
  by_cases h8 : s.size = 8
  · obtain ⟨o, r, b, z, i0, i1, i2, i3, hl⟩ := list8 (s := s.data.toList) (by simpa using h8)
    have HL := Lib.hid hl
    have HRB := Lib.hid (rawB (s := s.data.toList))
    obtain ⟨e4, he⟩ : ∃ e4, s.extract 4 8 = e4 := ⟨_, rfl⟩
    have HE := Lib.hid (extract8 hl he)
    have he4 : e4.size = 4 := by rw [← len_list, HE.out]; rfl
    have HWG := Lib.hid (fun W => rget01 e4 W (by omega) (by omega))
    rw [HE.out, raw_le] at HWG
    have g0 : s[0] = o := byteB (by omega) (by rw [hl]; rfl)
    have g1 : s[1] = r := byteB (by omega) (by rw [hl]; rfl)
    have g2 : s[2] = b := byteB (by omega) (by rw [hl]; rfl)
    have g3 : s[3] = z := byteB (by omega) (by rw [hl]; rfl)
    have HRW : Hid (rawI s.data.toList = ⟨o.toNat, r.toNat % 16, r.toNat / 16, b.toNat, i0.toNat + 256 * i1.toNat + 65536 * i2.toNat + 16777216 * i3.toNat⟩) := Lib.hid (by rw [hl]; rfl)
    have HT : Hid (encL (rawI s.data.toList) = [o, r, b, 0, i0, i1, i2, i3]) := Lib.hid (enc_raw hl)
    have hcase : Hid (insOk (rawI s.data.toList) = true ∧ z.toNat = 0 ∧ insOf s.data.toList = rawI s.data.toList ∧ (decI s.data.toList).isSome = true ∧ bsOf (encL (rawI s.data.toList)) = s) ∨ Hid (insOk (rawI s.data.toList) = true ∧ (decI s.data.toList) = none ∧ ((bsOf (encL (rawI s.data.toList))).toList == s.toList) = false) ∨ Hid (insOk (rawI s.data.toList) = false ∧ (decI s.data.toList) = none) := by
      cases hk : insOk (rawI s.data.toList) with
      | true =>
        by_cases hz : z.toNat = 0
        · obtain ⟨d1, d2⟩ := dec_at (s := s.data.toList) (by rw [hl]; rfl) (by rw [hl]; exact hz)
          rw [if_pos hk] at d1
          rw [hk] at d2
          refine .inl ⟨rfl, hz, d1, d2, ?_⟩
          have hz0 : z = 0 := by
            have : z = UInt8.ofNat z.toNat := by simp
            rw [this, hz]; rfl
          subst hz0
          rw [HT.out, ← hl]; rfl
        · refine .inr (.inl ⟨rfl, dec_bad (by rw [hl]; intro h; exact hz h.2), ?_⟩)
          rw [Bool.eq_false_iff]
          intro h
          have h2 := eq_of_beq h
          have h3 : (bsOf (encL (rawI s.data.toList))).data.toList = s.data.toList := by rw [ByteArray.toList_eq, ByteArray.toList_eq] at h2; exact h2
          rw [bsOf_list, HT.out, hl] at h3
          injection h3 with _ h3; injection h3 with _ h3; injection h3 with _ h3; injection h3 with h3 _
          exact hz (by rw [← h3]; rfl)
      | false =>
        refine .inr (.inr ⟨rfl, ?_⟩)
        unfold decI
        rw [if_neg fun h => by rw [hk] at h; cases h.2.2]
    have HEN := Lib.hid (fun W (hk : insOk (rawI s.data.toList) = true) => renc04_yes (rawI s.data.toList) W HRB.out hk)
    have HEX := Lib.hid (fun W (hk : insOk (rawI s.data.toList) = false) => renc04_no (rawI s.data.toList) W hk)
    have HCS := Lib.hid hcase; clear hcase
    clear hl HT
    generalize (i0.toNat : Int) + 256 * i1.toNat + 65536 * i2.toNat + 16777216 * i3.toNat = im at *
    have t1 : ((r.toNat : Int)).tmod 16 = (r.toNat : Int) % 16 := Int.tmod_eq_emod_of_nonneg (by omega)
    have t2 : ((r.toNat : Int)).tdiv 16 = (r.toNat : Int) / 16 := Int.tdiv_eq_ediv_of_nonneg (by omega)
    have t3 : IntKind.u8.wrap ((r.toNat : Int) / 16) = (r.toNat : Int) / 16 := by have := r.toNat_lt; rw [IntKind.wrap_u8]; omega
    go_enter Tryz.func49, Tryz.ntmps49
    go_wp2_with (go_at_call 100; refine (HWG.out _).mono ?_; rintro e w' ⟨rfl, rfl⟩)
    haveI : Nonempty (HW fun _ => True) := ⟨⟨w, trivial⟩⟩
    refine wp_region_marks (fun _ => True) [.r, .r, .r, .r, .r, .r, .r, .r, .r, .r, .r, .r, .u, .p] rfl (by kernel_rfl) trivial ?_
    repeat (refine wpReads_step (fun K hK => ?_); go_simp; refine hK _ ?_; clear hK K)
    refine wpReads_nil ?_
    refine wpTurns_step fun K hK => ?_
    go_simp
    refine hK _ _ trivial ?_
    clear hK K
    refine wpTurns_nil ?_
    simp only [pickP]
    go_wp2
    refine NoPanic.normal ?_
    have HAG : Hid (insV (rawI s.data.toList) = .agg #[.int .u8 o.toNat, .int .u8 (r.toNat % 16), .int .u8 (r.toNat / 16), .int .u8 b.toNat, .int .u32 im]) := Lib.hid (by rw [HRW.out]; rfl)
    rw [HAG.out] at HEN HEX
    clear t1 t2 t3 g0 g1 g2 g3 he he4 h8 HWG HRW HRB HL HE
    generalize (o.toNat : Int) = vo at *
    generalize (r.toNat : Int) % 16 = vd at *
    generalize (r.toNat : Int) / 16 = va at *
    generalize (b.toNat : Int) = vb at *
    generalize hT : bsOf (encL (rawI s.data.toList)) = T at HEN HCS
    clear hT
    rcases HCS.out with h | h | h
    · have HEN2 := Lib.hid (fun W => HEN.out W h.out.1)
      rw [h.out.2.2.2.2] at HEN2
      have H1 := Lib.hid h.out.2.2.1
      have H2 := Lib.hid h.out.2.2.2.1
      clear h HCS HEN HEX
      go_wp2_with (go_at_call 101; refine (HEN2.out _).mono ?_; rintro e w' ⟨rfl, hB⟩; obtain ⟨hc, hf⟩ := bcell hB; have hzz := hB.size; simp at hzz)
      have HBW : Below w.heap.size w w' := Below.trans (by go_grown) (hB.mono (by simp; omega))
      have q0 : w'.cell? ⟨w.heap.size, 0, none⟩ = some (.int .u8 0) := by rw [hB.cell (by simp; omega)]; simp [go_sem]
      have q1 : w'.cell? ⟨w.heap.size, 1, none⟩ = some (.int .u8 0) := by rw [hB.cell (by simp; omega)]; simp [go_sem]
      have q2 : w'.cell? ⟨w.heap.size, 2, none⟩ = some (.int .u8 0) := by rw [hB.cell (by simp; omega)]; simp [go_sem]
      have q3 : w'.cell? ⟨w.heap.size, 3, none⟩ = some (.int .u8 0) := by rw [hB.cell (by simp; omega)]; simp [go_sem]
      have q4 : w'.cell? ⟨w.heap.size, 4, none⟩ = some (.int .u32 0) := by rw [hB.cell (by simp; omega)]; simp [go_sem]
      exact bodyPost_ret (v := .tuple #[.agg #[.int .u8 vo, .int .u8 vd, .int .u8 va, .int .u8 vb, .int .u32 im], .int .i64 0]) (by simp [results, Tryz.results49, go_sem, q0, q1, q2, q3, q4]) rfl ⟨by rw [H1.out, HAG.out, H2.out]; rfl, by go_grown⟩
    · have HEN2 := Lib.hid (fun W => HEN.out W h.out.1)
      have hne := h.out.2.2
      have H1 := Lib.hid h.out.2.1
      clear h HCS HEN HEX
      go_wp2_with (go_at_call 101; refine (HEN2.out _).mono ?_; rintro e w' ⟨rfl, hB⟩; obtain ⟨hc, hf⟩ := bcell hB; have hzz := hB.size; simp at hzz)
      have HBW : Below w.heap.size w w' := Below.trans (by go_grown) (hB.mono (by simp; omega))
      have q0 : w'.cell? ⟨w.heap.size, 0, none⟩ = some (.int .u8 0) := by rw [hB.cell (by simp; omega)]; simp [go_sem]
      have q1 : w'.cell? ⟨w.heap.size, 1, none⟩ = some (.int .u8 0) := by rw [hB.cell (by simp; omega)]; simp [go_sem]
      have q2 : w'.cell? ⟨w.heap.size, 2, none⟩ = some (.int .u8 0) := by rw [hB.cell (by simp; omega)]; simp [go_sem]
      have q3 : w'.cell? ⟨w.heap.size, 3, none⟩ = some (.int .u8 0) := by rw [hB.cell (by simp; omega)]; simp [go_sem]
      have q4 : w'.cell? ⟨w.heap.size, 4, none⟩ = some (.int .u32 0) := by rw [hB.cell (by simp; omega)]; simp [go_sem]
      exact bodyPost_ret (v := .tuple #[insV ins0, .int .i64 7]) (by simp [results, Tryz.results49, go_sem, insV, ins0, q0, q1, q2, q3, q4]) rfl ⟨by unfold insOf; rw [H1.out]; rfl, by go_grown⟩
    · have HEN2 := Lib.hid (fun W => HEX.out W h.out.1)
      have H1 := Lib.hid h.out.2
      clear h HCS HEN HEX
      go_wp2_with (go_at_call 101; refine (HEN2.out _).mono ?_; rintro e w' ⟨rfl, hB⟩; obtain ⟨hc, hf⟩ := bcell hB; have hzz := hB.size; simp at hzz)
      have HBW : Below w.heap.size w w' := Below.trans (by go_grown) (hB.mono (by simp; omega))
      have q0 : w'.cell? ⟨w.heap.size, 0, none⟩ = some (.int .u8 0) := by rw [hB.cell (by simp; omega)]; simp [go_sem]
      have q1 : w'.cell? ⟨w.heap.size, 1, none⟩ = some (.int .u8 0) := by rw [hB.cell (by simp; omega)]; simp [go_sem]
      have q2 : w'.cell? ⟨w.heap.size, 2, none⟩ = some (.int .u8 0) := by rw [hB.cell (by simp; omega)]; simp [go_sem]
      have q3 : w'.cell? ⟨w.heap.size, 3, none⟩ = some (.int .u8 0) := by rw [hB.cell (by simp; omega)]; simp [go_sem]
      have q4 : w'.cell? ⟨w.heap.size, 4, none⟩ = some (.int .u32 0) := by rw [hB.cell (by simp; omega)]; simp [go_sem]
      exact bodyPost_ret (v := .tuple #[insV ins0, .int .i64 7]) (by simp [results, Tryz.results49, go_sem, insV, ins0, q0, q1, q2, q3, q4]) rfl ⟨by unfold insOf; rw [H1.out]; rfl, by go_grown⟩
  · have HN := Lib.hid (dec_bad (s := s.data.toList) (fun h => h8 (by simpa using h.1)))
    have h8' : ((s.size : Int) != 8) = true := by simp; omega
    clear h8
    go_enter Tryz.func49, Tryz.ntmps49
    go_wp2
    exact bodyPost_ret (v := .tuple #[insV ins0, .int .i64 7]) (by simp [results, Tryz.results49, go_sem, insV, ins0]) rfl ⟨by unfold insOf; rw [HN.out]; rfl, by go_grown⟩
end Go.Proofs.YtoonkfhphbojcaaGreatDoor
