/- The walks of aediculeref01's Bytes and Get, of aediculeref04's May. -/
import Derived.Test.YtoonkfhphbojcaaGreatDoorBv14
import Derived.Test.YtoonkfhphbojcaaGreatDoorBv09
import Derived.Test.YtoonkfhphbojcaaGreatDoorBv10
import Derived.Test.YtoonkfhphbojcaaGreatDoorBv17
namespace Go.Proofs.YtoonkfhphbojcaaGreatDoor
open Go.RowKit
set_option maxHeartbeats 1000000 in
set_option maxRecDepth 100000 in
theorem rbytes01 (n : Nat) (v : Int) (w : World) (hn : 1 ≤ n) (hn4 : n ≤ 8) (h0 : 0 ≤ v) (h2 : v ≤ 4294967295) : Calls Tryz.prog 136 #[.int .u32 v, .int .i64 n] w fun e w' => e = .returned (.string (bsOf (leB n v))) ∧ Below w.heap.size w w' := by
  obtain ⟨i0, hi, hz0, hz1, hz2⟩ := info_parts info_byte
  have HI := Lib.hid (And.intro hi (And.intro hz0 (And.intro hz1 hz2)))
  clear hi hz0 hz1 hz2
  go_enter Tryz.func136, Tryz.ntmps136
  go_wp2
  go_loopw [0, 5, 6] (fun v0 v5 v6 wr => ∃ i : Nat, i ≤ n ∧ v6 = .int .i64 i ∧ v0 = .int .u32 (dv i v) ∧ wr.ownsRow w.heap.size 5 1 v5 i (Lib.byteCells (leB i v)) ∧ Below w.heap.size w wr) (fun _ _ v6 _ => n - (intOf v6).toNat)
  case atStart => exact ⟨0, Nat.zero_le _, rfl, rfl, World.ownsRow_nil _ _ _ _, Below.refl _ _⟩
  case round =>
    obtain ⟨i, hi, rfl, rfl, hown, hbel⟩ := hrel
    have HOWN := Lib.hid hown; clear hown
    have HB := Lib.hid hbel; clear hbel
    have hsz := HB.out.size
    have hdv := dv_bd i v h0
    by_cases hlt : i < n
    · have HS := Lib.hid (leB_snoc i v)
      have HD := Lib.hid (dv_succ i v)
      generalize dv i v = d at hdv HS HD
      go_wp2_with (at_builtin; refine wpList_append_own _ rfl _ _ 79 rfl w.heap.size 5 i0 (.int .u8 0) 1 1 Tryz.underlying79 HI.out.1 HI.out.2.1 HI.out.2.2.1 HI.out.2.2.2 rfl (by decide) _ _ _ rfl (HOWN.out.alloc _) ⟨wr.heap.size, 0, none⟩ 1 1 [.int .u8 (d % 256)] rfl rfl ?c1 ?c2 ?c3 ?c4 ?c5 ?_)
      case c1 =>
        intro j u hj
        match j, hj with
        | 0, hj => simp at hj; subst hj; simp [Addr.add]
      case c2 => intro u hu; simp at hu; subst hu; rfl
      case c3 => unfold maxLen; omega
      case c4 => omega
      case c5 => simp; omega
      intro v' w2 hown' hgrow _
      have HO2 : Hid (w2.ownsRow w.heap.size 5 1 v' (i + 1) (Lib.byteCells (leB (i + 1) v))) := by
        have e : ((UInt8.ofNat (d % 256).toNat).toNat : Int) = d % 256 := by rw [u8_ofNat _ (by omega)]; omega
        rw [Hid, HS.out, show Lib.byteCells (leB i v ++ [UInt8.ofNat (d % 256).toNat]) = Lib.byteCells (leB i v) ++ [.int .u8 (d % 256)] by simp only [Lib.byteCells, List.map_append, List.map_cons, List.map_nil, e]]
        exact hown'
      have HB2 := Lib.hid ((HB.out.alloc hsz _).grown hgrow (by simp; omega) (fun k hk => (HOWN.out.lt k hk).1))
      clear hown' hgrow HOWN HB HS
      go_wp2
      go_roundw
      case rel => exact ⟨i + 1, by omega, by go_num, by rw [HD.out], HO2.out, HB2.out⟩
      case measure => simp [intOf]; omega
    · obtain rfl : i = n := by omega
      obtain ⟨g, cap, hu6⟩ : ∃ g cap, u5 = .slice (some ⟨g, 0, none⟩) i cap := by
        rcases HOWN.out.2 with ⟨-, h⟩ | ⟨g, cap, cur, h, -⟩
        · omega
        · exact ⟨g, cap, h⟩
      subst hu6
      have hk := run_convert_bytes_back (P := Tryz.prog) wr 79 9 5 ⟨g, 0, none⟩ cap (leB i v) Tryz.underlying79 Tryz.underlying5 Tryz.underlying9 (fun j hj => HOWN.out.cells (g := g) rfl j _ (by simp [Lib.byteCells, List.getElem?_eq_getElem hj]))
      rw [leB_length] at hk
      go_wp2
      go_ret
      exact ⟨rfl, HB.out⟩
theorem leV_lt3 {l : BL} (h : l.length ≤ 3) : leV l < 16777216 := by
  have h1 := (leV_bd l).2
  have h2 : pow256 l.length ≤ 16777216 := by
    match l.length, h with
    | 0, _ => decide
    | 1, _ => decide
    | 2, _ => decide
    | 3, _ => decide
  omega
set_option maxHeartbeats 1000000 in
set_option maxRecDepth 100000 in
theorem rget01 (s : ByteArray) (w : World) (h1 : 1 ≤ s.size) (h4 : s.size ≤ 4) :
    Calls Tryz.prog 100 #[.string s] w fun e w' => e = .returned (.tuple #[.int .u32 (leV s.data.toList), .int .i64 0]) ∧ w = w' := by
  have d1 : decide ((s.size : Int) < 1) = false := by simp; omega
  have d4 : decide ((4 : Int) < (s.size : Int)) = false := by simp; omega
  have d4' : decide (4 < s.size) = false := by simp; omega
  go_enter Tryz.func100, Tryz.ntmps100
  go_wp2
  go_loop [4, 5] (fun v4 v5 => ∃ k : Nat, k ≤ s.size ∧ v5 = .int .i64 ((k : Int) - 1) ∧ v4 = .int .u32 (leV (s.data.toList.drop k))) (fun _ v5 => (intOf v5 + 1).toNat)
  case atStart => exact ⟨s.size, Nat.le_refl _, rfl, by rw [List.drop_eq_nil_of_le (by rw [len_list]; omega)]; rfl⟩
  case round =>
    obtain ⟨k, hk, rfl, rfl⟩ := hrel
    have hb := leV_bd (s.data.toList.drop k)
    by_cases hlt : 0 < k
    · obtain ⟨j, rfl⟩ : ∃ j, k = j + 1 := ⟨k - 1, by omega⟩
      have hj : j < s.size := by omega
      have HE : Hid (leV (s.data.toList.drop j) = s[j].toNat + 256 * leV (s.data.toList.drop (j + 1))) := by
        rw [Hid, List.drop_eq_getElem_cons (by rw [len_list]; exact hj), leV]; rfl
      have hb3 := leV_lt3 (l := s.data.toList.drop (j + 1)) (by rw [List.length_drop, len_list]; omega)
      have hs8 := s[j].toNat_lt
      have hj0 : decide ((0 : Int) ≤ (j : Int)) = true := by simp
      go_wp2
      go_round
      case rel => exact ⟨j, by omega, by go_num, by rw [HE.out]; congr 1; omega⟩
      case measure => simp [intOf]
    · obtain rfl : k = 0 := by omega
      go_wp2
      go_ret2
      exact ⟨rfl, rfl⟩
def InsOkR (x : GIns) : Bool := opIs x.op && regOk x.d (bitOf (rowU x.op) 1) && regOk x.a (bitOf (rowU x.op) 2) && regOk x.b (bitOf (rowU x.op) 4) && (bitOf (rowU x.op) 8 || decide (x.imm = 0))
theorem insOk_ref (x : GIns) : insOk x = InsOkR x := by
  unfold insOk InsOkR opIs rowU
  by_cases h : useOf x.op = 0
  · simp [h]
  · rw [if_neg h]
set_option maxHeartbeats 1000000 in
set_option maxRecDepth 100000 in
theorem rmay04 (x : GIns) (w : World) : Calls Tryz.prog 35 #[insV x] w fun e w' => e = .returned (.bool (insOk x)) ∧ Below w.heap.size w w' := by
  have HI : Hid (insOk x = InsOkR x) := insOk_ref x
  obtain ⟨op, d, a, b, imm⟩ := x
  unfold InsOkR insV at *
  simp only [] at *
  have HU := Lib.hid (fun W => ruses_any op W)
  unfold rowV at HU
  have HR := Lib.hid (fun n u W => rregister_any n u W)
  generalize opIs op = r0 at *
  generalize bitOf (rowU op) 1 = u1 at *
  generalize bitOf (rowU op) 2 = u2 at *
  generalize bitOf (rowU op) 4 = u4 at *
  generalize bitOf (rowU op) 8 = u8 at *
  have F1 := Lib.hid (fun W => rregister_any d u1 W)
  have F2 := Lib.hid (fun W => rregister_any a u2 W)
  have F3 := Lib.hid (fun W => rregister_any b u4 W)
  generalize regOk d u1 = r1 at *
  generalize regOk a u2 = r2 at *
  generalize regOk b u4 = r3 at *
  generalize hW : (w.alloc (.cells #[.int .u8 op, .int .u8 d, .int .u8 a, .int .u8 b, .int .u32 imm] 24)) = w1
  have b0 : w1.cell? ⟨w.heap.size, 0, none⟩ = some (.int .u8 op) := by subst hW; simp [go_sem]
  have b1 : w1.cell? ⟨w.heap.size, 1, none⟩ = some (.int .u8 d) := by subst hW; simp [go_sem]
  have b2 : w1.cell? ⟨w.heap.size, 2, none⟩ = some (.int .u8 a) := by subst hW; simp [go_sem]
  have b3 : w1.cell? ⟨w.heap.size, 3, none⟩ = some (.int .u8 b) := by subst hW; simp [go_sem]
  have b4 : w1.cell? ⟨w.heap.size, 4, none⟩ = some (.int .u32 imm) := by subst hW; simp [go_sem]
  have HB1 : Hid (Below w.heap.size w w1) := by subst hW; exact alloc_old w _
  have hz1 : w.heap.size < w1.heap.size := by subst hW; simp
  subst hW
  go_enter Tryz.func35, Tryz.ntmps35
  go_wp2_with fail
  refine (HU.out _).mono ?_
  rintro e w2 ⟨rfl, hB⟩
  replace b1 := cell_keep hB hz1 b1
  replace b2 := cell_keep hB hz1 b2
  replace b3 := cell_keep hB hz1 b3
  replace b4 := cell_keep hB hz1 b4
  have HB2 : Hid (Below w.heap.size w w2) := HB1.out.trans (hB.mono HB1.out.size)
  have hz2 : w.heap.size < w2.heap.size := by have := hB.size; omega
  have hne : ¬ w2.heap.size = w.heap.size := by omega
  clear b0 HB1 hz1 HU
  cases r0 with
  | false =>
    go_wp2
    go_ret
    exact ⟨by rw [HI.out]; simp, by have := HB2.out; go_grown⟩
  | true =>
  cases r1 with
  | false =>
    go_wp2_with fail
    refine (F1.out _).mono ?_; rintro e w' ⟨rfl, rfl⟩
    go_wp2
    go_ret
    exact ⟨by rw [HI.out]; simp, by have := HB2.out; go_grown⟩
  | true =>
  cases r2 with
  | false =>
    go_wp2_with fail
    refine (F1.out _).mono ?_; rintro e w' ⟨rfl, rfl⟩
    go_wp2_with fail
    refine (F2.out _).mono ?_; rintro e w' ⟨rfl, rfl⟩
    go_wp2
    go_ret
    exact ⟨by rw [HI.out]; simp, by have := HB2.out; go_grown⟩
  | true =>
  cases r3 with
  | false =>
    go_wp2_with fail
    refine (F1.out _).mono ?_; rintro e w' ⟨rfl, rfl⟩
    go_wp2_with fail
    refine (F2.out _).mono ?_; rintro e w' ⟨rfl, rfl⟩
    go_wp2_with fail
    refine (F3.out _).mono ?_; rintro e w' ⟨rfl, rfl⟩
    go_wp2
    go_ret
    exact ⟨by rw [HI.out]; simp, by have := HB2.out; go_grown⟩
  | true =>
    go_wp2_with fail
    refine (F1.out _).mono ?_; rintro e w' ⟨rfl, rfl⟩
    go_wp2_with fail
    refine (F2.out _).mono ?_; rintro e w' ⟨rfl, rfl⟩
    go_wp2_with fail
    refine (F3.out _).mono ?_; rintro e w' ⟨rfl, rfl⟩
    cases u8 with
    | true =>
      go_wp2
      go_ret
      exact ⟨by rw [HI.out]; simp, by have := HB2.out; go_grown⟩
    | false =>
      go_wp2
      go_ret
      exact ⟨by rw [HI.out]; simp <;> rfl, by have := HB2.out; go_grown⟩
end Go.Proofs.YtoonkfhphbojcaaGreatDoor
