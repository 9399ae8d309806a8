/- The walk of word.Hex. -/
import Derived.Test.YtoonkfhphbojcaaGreatDoorBv10
import Derived.Test.YtoonkfhphbojcaaGreatDoorBv01
import Derived.Test.YtoonkfhphbojcaaGreatDoorBv11
import Derived.Test.YtoonkfhphbojcaaGreatDoorBv02
import Derived.Lib.UnsafeStr
namespace Go.Proofs.YtoonkfhphbojcaaGreatDoor
open Go.RowKit
def digs : ByteArray := ⟨#[48, 49, 50, 51, 52, 53, 54, 55, 56, 57, 97, 98, 99, 100, 101, 102]⟩
theorem digs_size : digs.size = 16 := rfl
theorem hexD_nat : ∀ i : Nat, i < 16 → digs.data[i]? = some (hexD i) := by decide
theorem digs_get (i : Nat) (h : i < digs.size) : (digs[i]'h) = hexD (i : Int) := by
  have h1 := hexD_nat i h
  have h2 : digs.data[i]? = some digs[i] := Array.getElem?_eq_getElem h
  rw [h2] at h1
  exact Option.some.inj h1
theorem run_digit {k : IntKind} (d : Int) (w : World) (h0 : 0 ≤ d) (h1 : d < 16) : (Instr.index 9 (.string ⟨#[48, 49, 50, 51, 52, 53, 54, 55, 56, 57, 97, 98, 99, 100, 101, 102]⟩) (.int k d)).run Tryz.prog w = .ok (.int .u8 ((hexD d).toNat : Int)) w := by
  have h := run_index_string (P := Tryz.prog) w 9 digs k d Tryz.underlying9
  rw [dif_pos ⟨h0, by rw [digs_size]; omega⟩, digs_get, Int.toNat_of_nonneg h0] at h
  exact h
theorem and15h : ∀ n : Fin 256, bits BinOp.and .u8 (n.val : Int) 15 = (n.val : Int) % 16 := by decide +kernel
def hexB (b : UInt8) : BL := [hexD ((b.toNat : Int) / 16), hexD ((b.toNat : Int) % 16)]
theorem hexB_len : ∀ l : BL, (l.flatMap hexB).length = 2 * l.length
  | [] => rfl
  | x :: l => by simp only [List.flatMap_cons, List.length_append, hexB_len l, hexB, List.length_cons, List.length_nil]; omega
theorem twoh_one (a b : Int) : ∀ u ∈ [Value.int .u8 a, Value.int .u8 b], u.oneCell' = true := by
  intro u hu
  simp only [List.mem_cons, List.not_mem_nil, or_false] at hu
  rcases hu with rfl | rfl <;> rfl
theorem row_text {W : World} {base : Nat} {v : Value} {r : BL} (h0 : 0 < r.length) (h : W.ownsRow base 5 1 v r.length (Lib.byteCells r)) : (convert 79 9 v).run Tryz.prog W = .ok (.string (bsOf r)) W := by
  rcases h.2 with ⟨-, h2⟩ | ⟨g, cap, cur, rfl, -⟩
  · omega
  · exact run_convert_bytes_back (P := Tryz.prog) W 79 9 5 ⟨g, 0, none⟩ cap r Tryz.underlying79 Tryz.underlying5 Tryz.underlying9 (fun j hj => h.cells (g := g) rfl j _ (by simp [Lib.byteCells, List.getElem?_eq_getElem hj]))
theorem new_two (w : World) (x y : Value) (t : TypeId) : ∀ j u, [x, y][j]? = some u → (w.alloc (.cells #[x, y] t)).cell? ((⟨w.heap.size, 0, none⟩ : Addr).add j) = some u := by
  intro j u hj
  rw [add_at]
  match j, hj with
  | 0, hj => simp at hj; subst hj; simp [go_sem]
  | 1, hj => simp at hj; subst hj; simp [go_sem]
  | j + 2, hj => simp at hj
set_option maxHeartbeats 1600000 in
set_option maxRecDepth 100000 in
theorem hex_any (l : BL) (w : World) (hl : l.length ≤ 1000) (hl0 : 0 < l.length) : Calls Tryz.prog 45 #[.string (bsOf l)] w fun e w' => e = .returned (.string (bsOf (l.flatMap hexB))) ∧ Below w.heap.size w w' := by
  have hcv := Lib.run_convert_string_bytes (P := Tryz.prog) w 9 79 5 (bsOf l) Tryz.underlying9 Tryz.underlying79 Tryz.underlying5
  rw [bsOf_size] at hcv
  have HH : Hid (∀ j (hj : j < l.length), (Lib.bytesWorld w 5 (bsOf l)).cell? ⟨w.heap.size, j, none⟩ = some (.int .u8 (l[j].toNat : Int))) := fun j hj => by
    rw [Lib.bytesWorld_cell w 5 (bsOf l) j (by rw [bsOf_size]; exact hj)]
    simp [bsOf, List.getD, hj]
  have HB := Lib.hid (below_bytes w (bsOf l))
  have HZ : Hid ((Lib.bytesWorld w 5 (bsOf l)).heap.size = w.heap.size + 1) := Lib.bytesWorld_size _ _ _
  generalize Lib.bytesWorld w 5 (bsOf l) = w1 at hcv HH HB HZ
  generalize grownCap w l.length 0 5 = cap at hcv
  obtain ⟨i0, hi, hz0, hz1, hz2⟩ := info_parts info_byte
  have HI := Lib.hid (And.intro hi (And.intro hz0 (And.intro hz1 hz2)))
  clear hi hz0 hz1 hz2
  go_enter Tryz.func45, Tryz.ntmps45
  go_wp2
  clear hcv
  go_loopw [3, 5, 9] (fun v3 v5 v9 wr => ∃ i : Nat, i ≤ l.length ∧ v9 = .int .i64 i ∧ wr.ownsRow w1.heap.size 5 1 v3 (2 * i) (Lib.byteCells ((l.take i).flatMap hexB)) ∧ Below w1.heap.size w1 wr) (fun _ _ v9 _ => l.length - (intOf v9).toNat)
  case atStart => exact ⟨0, Nat.zero_le _, rfl, World.ownsRow_nil _ _ _ _, Below.refl _ _⟩
  case round =>
    obtain ⟨i, hi, rfl, hown, hbel⟩ := hrel
    have HO := Lib.hid hown; clear hown
    have HB1 := Lib.hid hbel; clear hbel
    by_cases hlt : i < l.length
    · have g1 : wr.cell? ⟨w.heap.size, i, none⟩ = some (.int .u8 (l[i].toNat : Int)) := by
        have hz := HZ.out
        rw [HB1.out.cell (p := ⟨w.heap.size, i, none⟩) (show w.heap.size < w1.heap.size by omega)]; exact HH.out i hlt
      have HT : Hid ((l.take (i + 1)).flatMap hexB = (l.take i).flatMap hexB ++ hexB l[i]) := by
        rw [Hid, List.take_succ_eq_append_getElem hlt, List.flatMap_append, List.flatMap_cons, List.flatMap_nil, List.append_nil]
      have hb : l[i].toNat < 256 := UInt8.toNat_lt _
      generalize l[i] = b at g1 HT hb
      have q1 := fun W => run_digit (k := .u8) ((b.toNat : Int) / 16) W (by omega) (by omega)
      have q2 := fun W => run_digit (k := .u8) ((b.toNat : Int) % 16) W (by omega) (by omega)
      have q3 : bits BinOp.and .u8 (b.toNat : Int) 15 = (b.toNat : Int) % 16 := and15h ⟨b.toNat, hb⟩
      go_wp2_with fail
      clear g1
      obtain ⟨pv, cv, rfl⟩ := own_shape HO.out
      go_region_law (((refine step_append_own_at rfl (.tmp 13) (.tmp 20) 79 rfl w1.heap.size 5 i0 _ 1 1 Tryz.underlying79 HI.out.1 HI.out.2.1 HI.out.2.2.1 HI.out.2.2.2 rfl (by decide) (.slice pv (2 * i) cv) (2 * i) (Lib.byteCells ((l.take i).flatMap hexB)) (by simp [Act.eval]) ((World.ownsRow.drew HO.out).alloc _) ⟨wr.heap.size, 0, none⟩ 2 2 [.int .u8 ((hexD ((b.toNat : Int) / 16)).toNat : Int), .int .u8 ((hexD ((b.toNat : Int) % 16)).toNat : Int)] (by simp [Act.eval]) rfl (new_two wr.drew _ _ _) (twoh_one _ _) (by unfold maxLen; omega) (by omega) (by have := HB1.out.size; simp; omega) ?_); intro v' w9 hown hgrow hv))
      all_goals
        have HO9 : Hid (w9.ownsRow w1.heap.size 5 1 v' (2 * (i + 1)) (Lib.byteCells ((l.take (i + 1)).flatMap hexB))) := by
          rw [Hid, HT.out, show Lib.byteCells ((l.take i).flatMap hexB ++ hexB b) = Lib.byteCells ((l.take i).flatMap hexB) ++ [.int .u8 ((hexD ((b.toNat : Int) / 16)).toNat : Int), .int .u8 ((hexD ((b.toNat : Int) % 16)).toNat : Int)] by simp only [Lib.byteCells, hexB, List.map_append, List.map_cons, List.map_nil]]
          exact hown
        have HB9 : Hid (Below w1.heap.size w1 w9) := (HB1.out.drew.alloc (by have := HB1.out.size; simp; omega) _).grown hgrow (by have := HB1.out.size; simp; omega) (fun q e => (World.ownsRow.lt HO.out q e).1)
        obtain ⟨pw, cw, rfl⟩ := own_shape hown
        clear hown hgrow hv q1 q2 q3
        go_wp2
        go_roundw
        case rel => exact ⟨i + 1, by omega, by go_num, HO9.out, HB9.out⟩
        case measure => simp [intOf]; omega
    · obtain rfl : i = l.length := by omega
      have HE : Hid (l.take l.length = l) := List.take_length
      rw [HE.out] at HO
      have hlen := hexB_len l
      have HO2 : Hid (wr.ownsRow w1.heap.size 5 1 u3 (l.flatMap hexB).length (Lib.byteCells (l.flatMap hexB))) := by rw [hlen]; exact HO.out
      have hk := row_text (by omega) HO2.out
      obtain ⟨pw, cw, rfl⟩ := own_shape HO.out
      clear HO HO2 HE hlen
      go_wp2
      go_ret
      exact ⟨rfl, HB.out.trans (HB1.out.mono HB.out.size)⟩
end Go.Proofs.YtoonkfhphbojcaaGreatDoor
