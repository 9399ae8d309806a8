/- The walk of insn.Decode. The walks of obj.told, obj.Note and the search over notes. -/
import Derived.Test.YtoonkfhphbojcaaGreatDoorBv13
import Derived.Test.YtoonkfhphbojcaaGreatDoorBv10
import Derived.Lib.Strings
import Derived.Test.YtoonkfhphbojcaaGreatDoorBv04
import Derived.Deep.Light
import Derived.Handy
namespace Go.Proofs.YtoonkfhphbojcaaGreatDoor
open Go.RowKit
def insOf (s : List UInt8) : GIns := (decI s).getD ins0
theorem list8 {s : List UInt8} (h : s.length = 8) : ∃ o r b z i0 i1 i2 i3, s = [o, r, b, z, i0, i1, i2, i3] := by
  match s, h with
  | [o, r, b, z, i0, i1, i2, i3], _ => exact ⟨o, r, b, z, i0, i1, i2, i3, rfl⟩
theorem raw_le (i0 i1 i2 i3 : UInt8) : leV [i0, i1, i2, i3] = i0.toNat + 256 * i1.toNat + 65536 * i2.toNat + 16777216 * i3.toNat := by
  simp only [leV]; omega
theorem rawB {s : List UInt8} : InsB (rawI s) := by
  unfold rawI
  split
  · rename_i o r b z i0 i1 i2 i3
    have h0 := o.toNat_lt; have h1 := r.toNat_lt; have h2 := b.toNat_lt; have h4 := i0.toNat_lt; have h5 := i1.toNat_lt; have h6 := i2.toNat_lt; have h7 := i3.toNat_lt
    refine ⟨?_, ?_, ?_, ?_, ?_⟩ <;> simp only [] <;> omega
  · unfold InsB ins0; simp
theorem and15 (r : UInt8) : bits .and .u8 (r.toNat : Int) 15 = (r.toNat : Int) % 16 := by
  have h : ∀ k : Fin 256, bits .and .u8 ((k.val : Nat) : Int) 15 = ((k.val : Nat) : Int) % 16 := by decide +kernel
  exact h ⟨r.toNat, r.toNat_lt⟩
theorem extract8 {s e : ByteArray} {o r b z i0 i1 i2 i3 : UInt8} (hl : s.data.toList = [o, r, b, z, i0, i1, i2, i3]) (he : s.extract 4 8 = e) : e.data.toList = [i0, i1, i2, i3] := by
  subst he
  rw [Lib.extract_data, hl]
  rfl
theorem byteB {s : ByteArray} {k : Nat} (h : k < s.size) {c : UInt8} (hl : s.data.toList[k]? = some c) : s[k] = c := by
  have h2 : s.data.toList[k]? = some s[k] := by
    rw [List.getElem?_eq_getElem (by rw [len_list]; exact h)]; rfl
  rw [hl] at h2
  exact (Option.some.inj h2).symm
theorem dec_bad {s : List UInt8} (h : ¬ (s.length = 8 ∧ (s.getD 3 0).toNat = 0)) : decI s = none := by
  unfold decI
  rw [if_neg fun ⟨h1, h2, _⟩ => h ⟨h1, h2⟩]
theorem dec_at {s : List UInt8} (h1 : s.length = 8) (h2 : (s.getD 3 0).toNat = 0) : insOf s = (if insOk (rawI s) = true then rawI s else ins0) ∧ (decI s).isSome = insOk (rawI s) := by
  unfold insOf decI
  by_cases h : insOk (rawI s) = true
  · rw [if_pos ⟨h1, h2, h⟩, if_pos h, h]; exact ⟨rfl, rfl⟩
  · rw [if_neg fun hh => h hh.2.2, if_neg h]
    refine ⟨rfl, ?_⟩
    cases hh : insOk (rawI s) with
    | true => exact absurd hh h
    | false => rfl
set_option maxHeartbeats 1000000 in
set_option maxRecDepth 100000 in
theorem insDec_any (s : ByteArray) (w : World) : Calls Tryz.prog 46 #[.string s] w fun e w' => e = .returned (.tuple #[insV (insOf s.data.toList), .int .i64 (erI (decI s.data.toList).isSome 7)]) ∧ Below w.heap.size w w' := by
  by_cases h8 : s.size = 8
  · obtain ⟨o, r, b, z, i0, i1, i2, i3, hl⟩ := list8 (s := s.data.toList) (by simpa using h8)
    have HL := Lib.hid hl
    have HRB := Lib.hid (rawB (s := s.data.toList))
    obtain ⟨e4, he⟩ : ∃ e4, s.extract 4 8 = e4 := ⟨_, rfl⟩
    have HE := Lib.hid (extract8 hl he)
    have he4 : e4.size = 4 := by rw [← len_list, HE.out]; rfl
    have HWG := Lib.hid (fun W => wordGet_any e4 W (by omega) (by omega))
    rw [HE.out, raw_le] at HWG
    have g0 : s[0] = o := byteB (by omega) (by rw [hl]; rfl)
    have g1 : s[1] = r := byteB (by omega) (by rw [hl]; rfl)
    have g2 : s[2] = b := byteB (by omega) (by rw [hl]; rfl)
    have g3 : s[3] = z := byteB (by omega) (by rw [hl]; rfl)
    have HRW : Hid (rawI s.data.toList = ⟨o.toNat, r.toNat % 16, r.toNat / 16, b.toNat, i0.toNat + 256 * i1.toNat + 65536 * i2.toNat + 16777216 * i3.toNat⟩) := Lib.hid (by rw [hl]; rfl)
    have HD := Lib.hid (fun (hz : z.toNat = 0) => dec_at (s := s.data.toList) (by rw [hl]; rfl) (by rw [hl]; exact hz))
    have HN := Lib.hid (fun (hz : ¬ z.toNat = 0) => dec_bad (s := s.data.toList) (by rw [hl]; intro h; exact hz h.2))
    clear hl
    have a15 := and15 r
    generalize (i0.toNat : Int) + 256 * i1.toNat + 65536 * i2.toNat + 16777216 * i3.toNat = im at *
    by_cases hz : z.toNat = 0
    · have hz' : ((z.toNat : Int) != 0) = false := by simp [hz]
      obtain ⟨HD1, HD2⟩ := HD.out hz
      have HD1' := Lib.hid HD1; clear HD1
      have HD2' := Lib.hid HD2; clear HD2 HD HN hz
      go_enter Tryz.func46, Tryz.ntmps46
      go_wp2_with (go_at_call 98; refine (HWG.out _).mono ?_; rintro e w' ⟨rfl, rfl⟩)
      haveI : Nonempty (HW fun _ => True) := ⟨⟨w, trivial⟩⟩
      refine wp_region_marks (fun _ => True) [.r, .r, .r, .r, .r, .r, .r, .r, .r, .r, .r, .r, .u, .p] rfl (by kernel_rfl) trivial ?_
      repeat (refine wpReads_step (fun K hK => ?_); go_simp; refine hK _ ?_; clear hK K)
      refine wpReads_nil ?_
      refine wpTurns_step fun K hK => ?_
      go_simp
      refine hK _ _ trivial ?_
      clear hK K
      refine wpTurns_nil ?_
      simp only [pickP]
      go_wp2
      refine NoPanic.normal ?_
      have HCK := Lib.hid (fun W => insCheck_any (rawI s.data.toList) W HRB.out)
      rw [HRW.out] at HCK HD1' HD2'
      unfold insV at HCK
      simp only [] at HCK
      clear g0 g1 g2 g3 a15 he he4 h8
      generalize (o.toNat : Int) = vo at *
      generalize (r.toNat : Int) % 16 = vd at *
      generalize (r.toNat : Int) / 16 = va at *
      generalize (b.toNat : Int) = vb at *
      clear HWG HRW HRB HL HE
      cases hk : insOk ⟨vo, vd, va, vb, im⟩ with
      | true =>
        rw [hk] at HCK HD1' HD2'
        have HK := Lib.hid hk; clear hk
        simp only [erI] at HCK
        go_wp2_with (go_at_call 29; refine (HCK.out _).mono ?_; rintro e w' ⟨rfl, hB⟩; obtain ⟨hc, hf⟩ := bcell hB; have hzz := hB.size; simp at hzz)
        have HBW : Below w.heap.size w w' := Below.trans (by go_grown) (hB.mono (by simp; omega))
        have q0 : w'.cell? ⟨w.heap.size, 0, none⟩ = some (.int .u8 0) := by rw [hB.cell (by simp; omega)]; simp [go_sem]
        have q1 : w'.cell? ⟨w.heap.size, 1, none⟩ = some (.int .u8 0) := by rw [hB.cell (by simp; omega)]; simp [go_sem]
        have q2 : w'.cell? ⟨w.heap.size, 2, none⟩ = some (.int .u8 0) := by rw [hB.cell (by simp; omega)]; simp [go_sem]
        have q3 : w'.cell? ⟨w.heap.size, 3, none⟩ = some (.int .u8 0) := by rw [hB.cell (by simp; omega)]; simp [go_sem]
        have q4 : w'.cell? ⟨w.heap.size, 4, none⟩ = some (.int .u32 0) := by rw [hB.cell (by simp; omega)]; simp [go_sem]
        exact bodyPost_ret (v := .tuple #[insV ⟨vo, vd, va, vb, im⟩, .int .i64 0]) (by simp [results, Tryz.results46, go_sem, insV, q0, q1, q2, q3, q4]) rfl ⟨by rw [HD1'.out, HD2'.out]; simp [erI], by go_grown⟩
      | false =>
        rw [hk] at HCK HD1' HD2'
        have HK := Lib.hid hk; clear hk
        simp only [erI] at HCK
        go_wp2_with (go_at_call 29; refine (HCK.out _).mono ?_; rintro e w' ⟨rfl, hB⟩; obtain ⟨hc, hf⟩ := bcell hB; have hzz := hB.size; simp at hzz)
        have HBW : Below w.heap.size w w' := Below.trans (by go_grown) (hB.mono (by simp; omega))
        have q0 : w'.cell? ⟨w.heap.size, 0, none⟩ = some (.int .u8 0) := by rw [hB.cell (by simp; omega)]; simp [go_sem]
        have q1 : w'.cell? ⟨w.heap.size, 1, none⟩ = some (.int .u8 0) := by rw [hB.cell (by simp; omega)]; simp [go_sem]
        have q2 : w'.cell? ⟨w.heap.size, 2, none⟩ = some (.int .u8 0) := by rw [hB.cell (by simp; omega)]; simp [go_sem]
        have q3 : w'.cell? ⟨w.heap.size, 3, none⟩ = some (.int .u8 0) := by rw [hB.cell (by simp; omega)]; simp [go_sem]
        have q4 : w'.cell? ⟨w.heap.size, 4, none⟩ = some (.int .u32 0) := by rw [hB.cell (by simp; omega)]; simp [go_sem]
        exact bodyPost_ret (v := .tuple #[insV ins0, .int .i64 7]) (by simp [results, Tryz.results46, go_sem, insV, ins0, q0, q1, q2, q3, q4]) rfl ⟨by rw [HD1'.out, HD2'.out]; simp [erI], by go_grown⟩
    · have hz' : ((z.toNat : Int) != 0) = true := by simp [hz]
      have HD1 := Lib.hid (HN.out hz); clear HD HN hz
      go_enter Tryz.func46, Tryz.ntmps46
      go_wp2
      exact bodyPost_ret (v := .tuple #[insV ins0, .int .i64 7]) (by simp [results, Tryz.results46, go_sem, insV, ins0]) rfl ⟨by unfold insOf; rw [HD1.out]; rfl, by go_grown⟩
  · have HN := Lib.hid (dec_bad (s := s.data.toList) (fun h => h8 (by simpa using h.1)))
    have h8' : ((s.size : Int) != 8) = true := by simp; omega
    clear h8
    go_enter Tryz.func46, Tryz.ntmps46
    go_wp2
    exact bodyPost_ret (v := .tuple #[insV ins0, .int .i64 7]) (by simp [results, Tryz.results46, go_sem, insV, ins0]) rfl ⟨by unfold insOf; rw [HN.out]; rfl, by go_grown⟩
end Go.Proofs.YtoonkfhphbojcaaGreatDoor
namespace Go.Proofs.YtoonkfhphbojcaaGreatDoor
open Go.RowKit
theorem told_any (b : Bool) (w : World) : Calls Tryz.prog 109 #[.bool b] w fun e w' => e = .returned (.int .i64 (errB b)) ∧ w = w' := by
  cases b <;>
  (go_enter Tryz.func109, Tryz.ntmps109
   go_wp2
   go_ret
   exact ⟨rfl, rfl⟩)
theorem or_zero {n m : Int} (h2 : 0 ≤ n ∧ n ≤ 4294967295) (h3 : 0 ≤ m ∧ m ≤ 4294967295) : (bits .or .u32 n m == 0) = (decide (n = 0) && decide (m = 0)) := by
  rw [u32_or n m h2.1 (by omega) h3.1 (by omega), Bool.eq_iff_iff]
  simp
  omega
set_option maxHeartbeats 1000000 in
theorem note_any (x : GNote) (w : World) (h1 : 0 ≤ x.kind ∧ x.kind ≤ 255) (h2 : 0 ≤ x.n ∧ x.n ≤ 4294967295) (h3 : 0 ≤ x.m ∧ x.m ≤ 4294967295) :
    Calls Tryz.prog 154 #[.agg #[.int .u8 x.kind, .int .u32 x.n, .int .u32 x.m]] w fun e w' => e = .returned (.int .i64 (errB (noteOk x))) ∧ Below w.heap.size w w' := by
  obtain ⟨k, n, m⟩ := x
  simp only [] at *
  go_enter Tryz.func154, Tryz.ntmps154
  go_wp2_with (go_at_call 109; refine (told_any _ _).mono ?_; rintro e w' ⟨rfl, rfl⟩)
  all_goals
    go_ret
    first
    | exact ⟨ret_int (congrArg errB (by go_light; first | (simp_all [noteOk, ibeq]; done) | (simp_all [noteOk]; omega) | (simp_all [noteOk, or_zero]; done))), alloc_old w _⟩
    | exact ⟨ret_int (show errB false = _ from congrArg errB (by go_light; simp_all [noteOk])), alloc_old w _⟩
set_option maxHeartbeats 400000 in
theorem mayNote_any (x : GNote) (w : World) (h1 : 0 ≤ x.kind ∧ x.kind ≤ 255) (h2 : 0 ≤ x.n ∧ x.n ≤ 4294967295) (h3 : 0 ≤ x.m ∧ x.m ≤ 4294967295) :
    Calls Tryz.prog 153 #[.agg #[.int .u8 x.kind, .int .u32 x.n, .int .u32 x.m]] w fun e w' => e = .returned (.bool (!noteOk x)) ∧ Below w.heap.size w w' := by
  go_enter Tryz.func153, Tryz.ntmps153
  go_wp2_with (go_at_call 154; refine (note_any _ _ h1 h2 h3).mono ?_; rintro e w' ⟨rfl, hB⟩)
  go_ret
  exact ⟨ret_bool (by cases noteOk x <;> rfl), (alloc_old w _).trans (hB.mono (by simp))⟩
set_option maxHeartbeats 400000 in
theorem indexNote_any (v : Value) (l : List GNote) (w : World) (h : RowAt 3 NoteR w v l) :
    Calls Tryz.prog 182 #[v, .func (.func 153) #[] #[]] w fun e w' => (∃ n : Int, e = .returned (.int .i64 n) ∧ decide (0 ≤ n) = !l.all noteOk) ∧ Below w.heap.size w w' := by
  obtain ⟨p, cap, b, o, rfl, hcap, hmax, hp, hc⟩ := h
  have HC := Lib.hid hc; clear hc
  have HP := Lib.hid hp; clear hp
  go_enter Tryz.func182, Tryz.ntmps182
  go_wp2
  go_loopw [8] (fun i wr => ∃ k : Nat, k ≤ l.length ∧ i = .int .i64 k ∧ (l.take k).all noteOk = true ∧ Below w.heap.size w wr) (fun i _ => l.length - (intOf i).toNat)
  case atStart => exact ⟨0, Nat.zero_le _, rfl, rfl, Below.refl _ _⟩
  case round =>
    obtain ⟨k, hk, rfl, hall, hbel⟩ := hrel
    have HA := Lib.hid hall; clear hall
    have HB := Lib.hid hbel; clear hbel
    by_cases hlt : k < l.length
    · obtain rfl := HP.out (by omega)
      obtain ⟨g0, g1, g2, g3, g5, g6, g7⟩ := noteR_keeps _ _ _ _ _ HB.out (HC.out k hlt)
      have HCON := Lib.hid (mayNote_any l[k] wr g5 g6 g7)
      generalize hx : l[k] = x at *
      obtain ⟨xk, xn, xm⟩ := x
      simp only [] at *
      have HX := Lib.hid hx; clear hx
      go_wp2_with (go_at_call 153; refine HCON.out.mono ?_; rintro e w' ⟨rfl, hB⟩)
      · have hbad : (!noteOk ⟨xk, xn, xm⟩) = true := by assumption
        go_ret
        exact ⟨⟨k, rfl, by rw [all_bad hlt HX.out (by simpa using hbad)]; simp⟩, HB.out.trans (hB.mono HB.out.size)⟩
      · have hok : (!noteOk ⟨xk, xn, xm⟩) = false := by assumption
        go_roundw
        case rel => exact ⟨k + 1, by omega, by go_num, take_all_snoc hlt HX.out HA.out (by simpa using hok), HB.out.trans (hB.mono HB.out.size)⟩
        case measure => simp [intOf]; omega
    · go_wp2
      go_ret
      exact ⟨⟨-1, rfl, by rw [all_end hlt HA.out]; rfl⟩, HB.out⟩
set_option maxHeartbeats 400000 in
theorem containsNote_any (v : Value) (l : List GNote) (w : World) (h : RowAt 3 NoteR w v l) :
    Calls Tryz.prog 152 #[v, .func (.func 153) #[] #[]] w fun e w' => e = .returned (.bool (!l.all noteOk)) ∧ Below w.heap.size w w' := by
  have HCON := Lib.hid (indexNote_any v l w h); clear h
  go_enter Tryz.func152, Tryz.ntmps152
  go_wp2_with (go_at_call 182; refine HCON.out.mono ?_; rintro e w' ⟨⟨n, rfl, hn⟩, hB⟩; have HN := Lib.hid hn; clear hn)
  go_ret
  exact ⟨ret_bool HN.out, hB⟩
end Go.Proofs.YtoonkfhphbojcaaGreatDoor
