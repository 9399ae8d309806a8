/- The walks of the document's Hex and Bytes (aediculeref01.Hex, aediculeref32.Bytes). -/
import Derived.Test.YtoonkfhphbojcaaGreatDoorBu25
import Derived.Test.YtoonkfhphbojcaaGreatDoorBu17
namespace Go.Proofs.YtoonkfhphbojcaaGreatDoor
open Go.RowKit Go.Maps
theorem run_no_bytes (W : World) : (convert 79 9 (.slice none 0 0)).run Tryz.prog W = .ok (.string (bsOf [])) W := by kernel_rfl
theorem bs_get (l : BL) (i : Nat) (h : i < (bsOf l).size) (h' : i < l.length) : (bsOf l)[i]'h = l[i] := (Array.getElem?_eq_some_iff.1 (bs_at l i h')).2
set_option maxHeartbeats 4000000 in
set_option maxRecDepth 100000 in
theorem rhex33 (l : BL) (w : World) (hl : l.length ≤ 1000000) : Calls Tryz.prog 102 #[.string (bsOf l)] w fun e w' => e = .returned (.string (bsOf (l.flatMap hexB))) ∧ Below w.heap.size w w' := by
  obtain ⟨i0, hi, hz0, hz1, hz2⟩ := info_parts info_byte
  have HI := Lib.hid (And.intro hi (And.intro hz0 (And.intro hz1 hz2)))
  clear hi hz0 hz1 hz2
  have hsz : (bsOf l).size = l.length := bsOf_size l
  go_enter Tryz.func102, Tryz.ntmps102
  go_wp2
  go_loopw [3, 4] (fun v3 v4 wr => ∃ i : Nat, i ≤ l.length ∧ v4 = .int .i64 i ∧ wr.ownsRow w.heap.size 5 1 v3 (2 * i) (Lib.byteCells ((l.take i).flatMap hexB)) ∧ Below w.heap.size w wr) (fun _ v4 _ => l.length - (intOf v4).toNat)
  case atStart => exact ⟨0, Nat.zero_le _, rfl, World.ownsRow_nil _ _ _ _, Below.refl _ _⟩
  case round =>
    obtain ⟨i, hi, rfl, hown, hbel⟩ := hrel
    have HO := Lib.hid hown; clear hown
    have HB1 := Lib.hid hbel; clear hbel
    by_cases hlt : i < l.length
    · have hsi : i < (bsOf l).size := by omega
      have hx := bs_get l i hsi hlt
      have HT : Hid ((l.take (i + 1)).flatMap hexB = (l.take i).flatMap hexB ++ hexB l[i]) := by
        rw [Hid, List.take_succ_eq_append_getElem hlt, List.flatMap_append, List.flatMap_cons, List.flatMap_nil, List.append_nil]; rfl
      have hb : l[i].toNat < 256 := UInt8.toNat_lt _
      generalize l[i] = b at hx HT hb
      have q1 : ∀ W, (Instr.index 9 (.string ⟨#[48, 49, 50, 51, 52, 53, 54, 55, 56, 57, 97, 98, 99, 100, 101, 102]⟩) (.int .u8 (IntKind.u8.wrap (((bsOf l)[i].toNat : Int) / 16)))).run Tryz.prog W = .ok (.int .u8 ((hexD ((b.toNat : Int) / 16)).toNat : Int)) W := fun W => by
        rw [hx, show IntKind.u8.wrap ((b.toNat : Int) / 16) = (b.toNat : Int) / 16 by rw [IntKind.wrap_u8]; omega]
        exact run_digit (k := .u8) ((b.toNat : Int) / 16) W (by omega) (by omega)
      have q2 : ∀ W, (Instr.index 9 (.string ⟨#[48, 49, 50, 51, 52, 53, 54, 55, 56, 57, 97, 98, 99, 100, 101, 102]⟩) (.int .u8 ((((bsOf l)[i].toNat : Int)).tmod 16))).run Tryz.prog W = .ok (.int .u8 ((hexD ((b.toNat : Int) % 16)).toNat : Int)) W := fun W => by
        rw [hx, Int.tmod_eq_emod_of_nonneg (by omega)]
        exact run_digit (k := .u8) ((b.toNat : Int) % 16) W (by omega) (by omega)
      clear hx
      obtain ⟨pv, cv, rfl⟩ := own_shape HO.out
      go_wp2_with fail
      go_region_law (((refine step_append_own_at rfl (.tmp 11) (.tmp 22) 79 rfl w.heap.size 5 i0 _ 1 1 Tryz.underlying79 HI.out.1 HI.out.2.1 HI.out.2.2.1 HI.out.2.2.2 rfl (by decide) (.slice pv (2 * i) cv) (2 * i) (Lib.byteCells ((l.take i).flatMap hexB)) (by simp [Act.eval]) ((World.ownsRow.drew HO.out).alloc _) ⟨wr.heap.size, 0, none⟩ 2 2 [.int .u8 ((hexD ((b.toNat : Int) / 16)).toNat : Int), .int .u8 ((hexD ((b.toNat : Int) % 16)).toNat : Int)] (by simp [Act.eval]) rfl (new_two wr.drew _ _ _) (twoh_one _ _) (by unfold maxLen; omega) (by omega) (by have := HB1.out.size; simp; omega) ?_); intro v' w9 hown hgrow hv))
      all_goals
        have HO9 : Hid (w9.ownsRow w.heap.size 5 1 v' (2 * (i + 1)) (Lib.byteCells ((l.take (i + 1)).flatMap hexB))) := by
          rw [Hid, HT.out, show Lib.byteCells ((l.take i).flatMap hexB ++ hexB b) = Lib.byteCells ((l.take i).flatMap hexB) ++ [.int .u8 ((hexD ((b.toNat : Int) / 16)).toNat : Int), .int .u8 ((hexD ((b.toNat : Int) % 16)).toNat : Int)] by simp only [Lib.byteCells, hexB, List.map_append, List.map_cons, List.map_nil]]
          exact hown
        have HB9 : Hid (Below w.heap.size w w9) := (HB1.out.drew.alloc (by have := HB1.out.size; simp; omega) _).grown hgrow (by have := HB1.out.size; simp; omega) (fun q e => (World.ownsRow.lt HO.out q e).1)
        obtain ⟨pw, cw, rfl⟩ := own_shape hown
        clear hown hgrow hv q1 q2
        go_wp2
        go_roundw
        case rel => exact ⟨i + 1, by omega, by go_num, HO9.out, HB9.out⟩
        case measure => simp [intOf]; omega
    · obtain rfl : i = l.length := by omega
      have HE : Hid (l.take l.length = l) := List.take_length
      rw [HE.out] at HO
      have hlen := hexB_len l
      have HO2 : Hid (wr.ownsRow w.heap.size 5 1 u3 (l.flatMap hexB).length (Lib.byteCells (l.flatMap hexB))) := by rw [hlen]; exact HO.out
      have hk : (convert 79 9 u3).run Tryz.prog wr = .ok (.string (bsOf (l.flatMap hexB))) wr := by
        by_cases h0 : 0 < l.length
        · exact row_text (by omega) HO2.out
        · have hl0 : l = [] := List.eq_nil_of_length_eq_zero (by omega)
          subst hl0
          rcases HO.out.2 with ⟨hv, -⟩ | ⟨g, cap, cur, hv, -⟩
          · rw [hv]; exact run_no_bytes wr
          · rw [hv]; exact run_convert_bytes_back (P := Tryz.prog) wr 79 9 5 ⟨g, 0, none⟩ cap [] Tryz.underlying79 Tryz.underlying5 Tryz.underlying9 (fun j hj => by simp at hj)
      obtain ⟨pw, cw, rfl⟩ := own_shape HO.out
      clear HO HO2 HE hlen
      go_wp2
      go_ret
      exact ⟨rfl, HB1.out⟩
theorem rbytes33 (l : BL) (w : World) (hl : l.length ≤ 1000000) : Calls Tryz.prog 50 #[.string (bsOf l)] w fun e w' => e = .returned (.string (bsOf (120 :: l.flatMap hexB))) ∧ Below w.heap.size w w' := by
  have H := Lib.hid (rhex33 l w hl)
  have k1 : (⟨#[120]⟩ : ByteArray) ++ bsOf (l.flatMap hexB) = bsOf (120 :: l.flatMap hexB) := bsOf_cat [120] _
  have k2 : ¬ 9223372036854775807 < 1 + (bsOf (l.flatMap hexB)).size := by rw [bsOf_size, hexB_len]; omega
  generalize l.flatMap hexB = x at *
  go_enter Tryz.func50, Tryz.ntmps50
  go_wp2_with fail
  refine H.out.mono ?_
  rintro e w2 ⟨rfl, hB⟩
  go_wp2
  go_ret
  exact ⟨rfl, hB⟩
end Go.Proofs.YtoonkfhphbojcaaGreatDoor
