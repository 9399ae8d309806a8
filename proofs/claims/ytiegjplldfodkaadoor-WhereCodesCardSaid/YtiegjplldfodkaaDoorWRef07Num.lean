/- The walks of aediculeref07's Num and Text. -/
import Derived.Test.YtiegjplldfodkaaDoorWPackNum
import Derived.Test.YtiegjplldfodkaaDoorOwn
import Derived.Lib.Builder
import Derived.Lib.AppendStr
import Derived.Lib.UnsafeStr
namespace Go.Proofs.YtiegjplldfodkaaDoor
open Go.RowKit
/-- divided by 256 so often -/
def dv : Nat → Int → Int
  | 0, v => v
  | i + 1, v => dv i (v / 256)
theorem dv_succ : ∀ (i : Nat) (v : Int), dv (i + 1) v = dv i v / 256
  | 0, _ => rfl
  | i + 1, v => by rw [dv, dv_succ i, dv]
theorem dv_zero : ∀ (n : Nat) (v : Int), 0 ≤ v → v < pow256 n → dv n v = 0
  | 0, v, h0, h1 => by simp only [pow256] at h1; simp only [dv]; omega
  | n + 1, v, h0, h1 => by simp only [pow256] at h1; simp only [dv]; exact dv_zero n _ (by omega) (by omega)
theorem dv_bd : ∀ (i : Nat) (v : Int), 0 ≤ v → 0 ≤ dv i v ∧ dv i v ≤ v
  | 0, v, h => ⟨h, Int.le_refl _⟩
  | i + 1, v, h => by have := dv_bd i (v / 256) (by omega); simp only [dv]; omega
theorem leB_snoc : ∀ (i : Nat) (v : Int), leB (i + 1) v = leB i v ++ [UInt8.ofNat (dv i v % 256).toNat]
  | 0, _ => rfl
  | i + 1, v => by
    rw [leB, leB_snoc i (v / 256)]; rfl
set_option maxHeartbeats 1000000 in
set_option maxRecDepth 100000 in
theorem rnum07 (n : Nat) (v : Int) (w : World) (hn : 1 ≤ n) (hn4 : n ≤ 4) (h0 : 0 ≤ v) (h1 : v < pow256 n) (h2 : v ≤ 4294967295) : Calls Tryd.prog 53 #[.int .u32 v, .int .i64 n] w fun e w' => e = .returned (.tuple #[.string (bsOf (leB n v)), .int .i64 0]) ∧ Below w.heap.size w w' := by
  obtain ⟨i0, hi, hz0, hz1, hz2⟩ := info_parts info_byte
  have HI := Lib.hid (And.intro hi (And.intro hz0 (And.intro hz1 hz2)))
  clear hi hz0 hz1 hz2
  have HZ := Lib.hid (dv_zero n v h0 h1)
  clear h1
  have d1 : decide ((n : Int) < 1) = false := by simp; omega
  have d4 : decide ((4 : Int) < (n : Int)) = false := by simp; omega
  have d4' : decide (4 < n) = false := by simp; omega
  go_enter Tryd.func53, Tryd.ntmps53
  go_wp2
  go_loopw [0, 6, 7] (fun v0 v6 v7 wr => ∃ i : Nat, i ≤ n ∧ v7 = .int .i64 i ∧ v0 = .int .u32 (dv i v) ∧ wr.ownsRow w.heap.size 5 1 v6 i (Lib.byteCells (leB i v)) ∧ Below w.heap.size w wr) (fun _ _ v7 _ => n - (intOf v7).toNat)
  case atStart => exact ⟨0, Nat.zero_le _, rfl, rfl, World.ownsRow_nil _ _ _ _, Below.refl _ _⟩
  case round =>
    obtain ⟨i, hi, rfl, rfl, hown, hbel⟩ := hrel
    have HOWN := Lib.hid hown; clear hown
    have HB := Lib.hid hbel; clear hbel
    have hsz := HB.out.size
    have hdv := dv_bd i v h0
    by_cases hlt : i < n
    · have HS := Lib.hid (leB_snoc i v)
      have HD := Lib.hid (dv_succ i v)
      generalize dv i v = d at hdv HS HD
      go_wp2_with (at_builtin; refine wpList_append_own _ rfl _ _ 47 rfl w.heap.size 5 i0 (.int .u8 0) 1 1 Tryd.underlying47 HI.out.1 HI.out.2.1 HI.out.2.2.1 HI.out.2.2.2 rfl (by decide) _ _ _ rfl (HOWN.out.alloc _) ⟨wr.heap.size, 0, none⟩ 1 1 [.int .u8 (d % 256)] rfl rfl ?c1 ?c2 ?c3 ?c4 ?c5 ?_)
      case c1 =>
        intro j u hj
        match j, hj with
        | 0, hj => simp at hj; subst hj; simp [Addr.add]
      case c2 => intro u hu; simp at hu; subst hu; rfl
      case c3 => unfold maxLen; omega
      case c4 => omega
      case c5 => simp; omega
      intro v' w2 hown' hgrow _
      have HO2 : Hid (w2.ownsRow w.heap.size 5 1 v' (i + 1) (Lib.byteCells (leB (i + 1) v))) := by
        have e : ((UInt8.ofNat (d % 256).toNat).toNat : Int) = d % 256 := by rw [u8_ofNat _ (by omega)]; omega
        rw [Hid, HS.out, show Lib.byteCells (leB i v ++ [UInt8.ofNat (d % 256).toNat]) = Lib.byteCells (leB i v) ++ [.int .u8 (d % 256)] by simp only [Lib.byteCells, List.map_append, List.map_cons, List.map_nil, e]]
        exact hown'
      have HB2 := Lib.hid ((HB.out.alloc hsz _).grown hgrow (by simp; omega) (fun k hk => (HOWN.out.lt k hk).1))
      clear hown' hgrow HOWN HB HS
      go_wp2
      go_roundw
      case rel => exact ⟨i + 1, by omega, by go_num, by rw [HD.out], HO2.out, HB2.out⟩
      case measure => simp [intOf]; omega
    · obtain rfl : i = n := by omega
      rw [HZ.out]
      obtain ⟨g, cap, hu6⟩ : ∃ g cap, u6 = .slice (some ⟨g, 0, none⟩) i cap := by
        rcases HOWN.out.2 with ⟨-, h⟩ | ⟨g, cap, cur, h, -⟩
        · omega
        · exact ⟨g, cap, h⟩
      subst hu6
      have hk := run_convert_bytes_back (P := Tryd.prog) wr 47 9 5 ⟨g, 0, none⟩ cap (leB i v) Tryd.underlying47 Tryd.underlying5 Tryd.underlying9 (fun j hj => HOWN.out.cells (g := g) rfl j _ (by simp [Lib.byteCells, List.getElem?_eq_getElem hj]))
      rw [leB_length] at hk
      go_wp2
      go_ret2
      exact ⟨rfl, HB.out⟩
set_option maxHeartbeats 400000 in
set_option maxRecDepth 100000 in
theorem rtext07 (s : ByteArray) (w : World) (hs : s.size < 65536) : Calls Tryd.prog 54 #[.string s] w fun e w' => e = .returned (.tuple #[.string (bsOf (encText s)), .int .i64 0]) ∧ Below w.heap.size w w' := by
  have d1 : decide ((65535 : Int) < (s.size : Int)) = false := by simp; omega
  have HQ : Hid (∀ W : World, W.cell? ⟨w.heap.size, 0, none⟩ = some (.int .u8 ((s.size : Int) % 256)) → W.cell? ⟨w.heap.size, 1, none⟩ = some (.int .u8 ((s.size : Int) / 256)) → (convert 47 9 (.slice (some ⟨w.heap.size, 0, none⟩) 2 2)).run Tryd.prog W = .ok (.string (bsOf (leB 2 s.size))) W) := fun W q0 q1 => by
    refine run_convert_bytes_back (P := Tryd.prog) W 47 9 5 ⟨w.heap.size, 0, none⟩ 2 (leB 2 s.size) Tryd.underlying47 Tryd.underlying5 Tryd.underlying9 (fun j hj => ?_)
    rw [leB_get (by omega) hj, add_at]
    rw [leB_length] at hj
    have h2 : j = 0 ∨ j = 1 := by omega
    rcases h2 with rfl | rfl
    · simp only [Nat.add_zero, List.getD_cons_zero]; exact q0
    · simp only [Nat.zero_add, List.getD_cons_succ, List.getD_cons_zero]; rw [q1]; congr 2; omega
  have hk := HQ.out (w.alloc (.cells #[.int .u8 ((s.size : Int) % 256), .int .u8 ((s.size : Int) / 256)] 5)) (by simp [go_sem]) (by simp [go_sem])
  have hcat : ¬ 9223372036854775807 < (bsOf (leB 2 s.size)).size + s.size := by rw [bsOf_size, leB_length]; omega
  clear HQ
  go_enter Tryd.func54, Tryd.ntmps54
  go_wp2
  go_ret2
  exact ⟨by rw [bsOf_app]; rfl, alloc_old w _⟩
end Go.Proofs.YtiegjplldfodkaaDoor
