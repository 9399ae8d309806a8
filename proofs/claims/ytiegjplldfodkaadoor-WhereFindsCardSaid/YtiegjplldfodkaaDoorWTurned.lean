/- The walks of slices.Reverse at []byte, word.turned and word.PutHigh. -/
import Derived.Test.YtiegjplldfodkaaDoorWPackNum
import Derived.Sort.WalkB12
import Derived.Deep.LoopGhost
import Derived.Lib.SlicesMore
import Derived.Lib.ConvBytes
namespace Go.Proofs.YtiegjplldfodkaaDoor
open Go.RowKit Go.Sort Go.Proofs
def encU : Int → Value := fun x => .int .u8 x
theorem below_putRow {B : Nat} {a w : World} {blk off n : Nat} {d : Array Int} (h : Below B a w) (hB : B ≤ blk) : Below B a (putRow encU (Sort.ahead w n) blk off d) := by
  refine h.trans ⟨rfl, rfl, rfl, by simp, fun k hk => ?_⟩
  simp only [putRow, mapBlock, Sort.ahead, Array.getElem?_modify]
  rw [if_neg (by omega)]
set_option maxHeartbeats 1600000 in
set_option maxRecDepth 1000000 in
theorem rev_any (blk off cap : Nat) (d : Array Int) (w : World) (hH : Holds encU w blk off d) (hsz : d.size ≤ 9223372036854775807) :
    Calls Tryd.prog 70 #[.slice (some ⟨blk, off, none⟩) d.size cap] w fun e w' => e = .returned (.tuple #[]) ∧ ∃ n, w' = putRow encU (Sort.ahead w n) blk off d.reverse := by
  go_enter Tryd.func70, Tryd.ntmps70
  go_wp2
  go_loopg [2, 3] d.size (fun k s2 s3 wr => ∃ (i jn : Nat) (jz : Int) (dk : Array Int) (n : Nat), s2 = .int .i64 i ∧ s3 = .int .i64 jz ∧ ((i : Int) < jz → jz = jn ∧ jn < d.size) ∧ (¬ (i : Int) < jz → ¬ i < jn) ∧ jn - i ≤ k ∧
    dk.size = d.size ∧ wr = putRow encU (Sort.ahead w n) blk off dk ∧ reverseLoop i jn dk = reverseLoop 0 (d.size - 1) d)
  case atStart => exact ⟨0, d.size - 1, (d.size : Int) - 1, d, 0, rfl, rfl, fun h => ⟨by omega, by omega⟩, fun h => by omega, by omega, rfl, (putRow_self encU w blk off d hH).symm, rfl⟩
  case round =>
    obtain ⟨i, jn, jz, dk, n, rfl, rfl, h1, h2, hk, hds, hwr, heq⟩ := hrel
    by_cases hlt : (i : Int) < jz
    · obtain ⟨rfl, hjn⟩ := h1 hlt
      have hij : i < jn := by omega
      have hHk : Holds encU wr blk off dk := by rw [hwr]; exact holds_putRow encU _ blk off d dk (holds_ahead encU w n blk off d hH) hds
      obtain ⟨ci, fi⟩ := hHk i (by omega)
      obtain ⟨cj, fj⟩ := hHk jn (by omega)
      simp only [encU] at ci cj
      have A : Aside (wr = putRow encU (Sort.ahead w n) blk off dk) := hwr
      clear hwr hHk hH h1 h2
      go_wp2_with fail
      go_region
      go_wp2
      go_roundg (jn - 1 - (i + 1))
      case measure => omega
      case rel =>
        rw [reverseLoop, if_pos hij] at heq
        exact ⟨i + 1, jn - 1, (jn : Int) - 1, swp dk i jn, n + 1, by simp, rfl, fun h => ⟨by omega, by omega⟩, fun h => by omega, Nat.le_refl _, by rw [size_swp]; exact hds,
          swap_world encU (by omega) (by omega) A.out (by first | rfl | simp [encU, getElem!_pos, show jn < dk.size by omega]) (by first | rfl | simp [encU, getElem!_pos, show i < dk.size by omega]), heq⟩
    · have hnot := h2 hlt
      go_wp2
      go_end0
      refine ⟨rfl, n, ?_⟩
      rw [reverseLoop, if_neg hnot] at heq
      rw [← Lib.reverseLoop_reverse, ← heq]
/-- the bytes of a list as numbers -/
def natsOf (l : BL) : Array Int := (l.map fun b => (b.toNat : Int)).toArray
theorem natsOf_size (l : BL) : (natsOf l).size = l.length := by simp [natsOf]
theorem bytes_hold (w : World) (l : BL) : Holds encU (Lib.bytesWorld w 5 (bsOf l)) w.heap.size 0 (natsOf l) := by
  intro j hj
  rw [natsOf_size] at hj
  refine ⟨?_, ?_⟩
  · have h := Lib.bytesWorld_cell w 5 (bsOf l) j (by rw [bsOf_size]; exact hj)
    rw [Nat.zero_add, h]
    simp [encU, natsOf, bsOf, List.getD, hj]
  · unfold World.frozen?
    rw [Lib.bytesWorld_at_new]
    simp [Lib.bytesCells, bsOf]
    omega
theorem below_bytes (w : World) (s : ByteArray) : Below w.heap.size w (Lib.bytesWorld w 5 s) :=
  ⟨rfl, rfl, rfl, by rw [Lib.bytesWorld_size]; omega, fun k hk => Lib.bytesWorld_at_old w _ s k hk⟩
theorem bytes_read {w : World} {b cap : Nat} {l : BL} (n : Nat) (hH : Holds encU w b 0 (natsOf l)) :
    (convert 47 9 (.slice (some ⟨b, 0, none⟩) l.length cap)).run Tryd.prog (putRow encU (Sort.ahead w n) b 0 (natsOf l).reverse) = .ok (.string (bsOf l.reverse)) (putRow encU (Sort.ahead w n) b 0 (natsOf l).reverse) := by
  have h := run_convert_bytes_back (P := Tryd.prog) (putRow encU (Sort.ahead w n) b 0 (natsOf l).reverse) 47 9 5 ⟨b, 0, none⟩ cap l.reverse Tryd.underlying47 Tryd.underlying5 Tryd.underlying9 (fun j hj => by
    have h2 := holds_putRow encU (Sort.ahead w n) b 0 (natsOf l) (natsOf l).reverse (holds_ahead encU w n b 0 _ hH) (by simp) j (by rw [List.length_reverse] at hj; simpa [natsOf_size] using hj)
    rw [add_at, h2.1]
    rw [List.length_reverse] at hj
    have hj2 : j < (natsOf l).reverse.size := by simpa [natsOf_size] using hj
    rw [show (natsOf l).reverse[j]! = (natsOf l).reverse[j] from getElem!_pos (natsOf l).reverse j hj2]
    simp [encU, natsOf])
  rw [List.length_reverse] at h
  exact h
set_option maxHeartbeats 1600000 in
set_option maxRecDepth 1000000 in
theorem turned_any (l : BL) (w : World) (hl : l.length ≤ 9223372036854775807) : Calls Tryd.prog 63 #[.string (bsOf l)] w fun e w' => e = .returned (.string (bsOf l.reverse)) ∧ Below w.heap.size w w' := by
  have hcv := Lib.run_convert_string_bytes (P := Tryd.prog) w 9 47 5 (bsOf l) Tryd.underlying9 Tryd.underlying47 Tryd.underlying5
  rw [bsOf_size] at hcv
  have HH := Lib.hid (bytes_hold w l)
  have HB := Lib.hid (below_bytes w (bsOf l))
  have HR := Lib.hid (fun cap => rev_any w.heap.size 0 cap (natsOf l) _ (bytes_hold w l) (by rw [natsOf_size]; exact hl))
  have HC := Lib.hid (fun cap n => bytes_read (cap := cap) n (bytes_hold w l))
  rw [natsOf_size] at HR
  generalize Lib.bytesWorld w 5 (bsOf l) = w1 at hcv HH HB HR HC
  generalize grownCap w l.length 0 5 = cap at hcv
  go_enter Tryd.func63, Tryd.ntmps63
  go_wp2_with fail
  refine (HR.out cap).mono ?_
  rintro e w' ⟨rfl, n, rfl⟩
  have hcc := HC.out cap n
  have HB2 := Lib.hid (below_putRow (n := n) (off := 0) (d := (natsOf l).reverse) HB.out (Nat.le_refl _))
  generalize putRow encU (Sort.ahead w1 n) w.heap.size 0 (natsOf l).reverse = w2 at hcc HB2 ⊢
  clear HR HC hcv HH HB
  go_wp2
  go_ret
  exact ⟨rfl, HB2.out⟩
def leR (n : Nat) (v : Int) : BL := (leB n v).reverse
set_option maxHeartbeats 400000 in
set_option maxRecDepth 100000 in
theorem high4 (v : Int) (w : World) (h0 : 0 ≤ v) (h1 : v < 4294967296) : Calls Tryd.prog 45 #[.int .u32 v, .int .i64 4] w fun e w' => e = .returned (.tuple #[.string (bsOf (leR 4 v)), .int .i64 0]) ∧ Below w.heap.size w w' := by
  have HC := Lib.hid (wput4 v w h0 h1)
  go_enter Tryd.func45, Tryd.ntmps45
  go_wp2_with (go_at_call 52; refine HC.out.mono ?_; rintro e w1 ⟨rfl, hB⟩)
  have HB := Lib.hid hB
  have HT := Lib.hid (turned_any (leB 4 v) w1 (by rw [leB_length]; omega))
  clear hB HC
  go_wp2_with (go_at_call 63; refine HT.out.mono ?_; rintro e w2 ⟨rfl, hB2⟩)
  go_ret2
  exact ⟨rfl, HB.out.trans (hB2.mono HB.out.size)⟩
set_option maxHeartbeats 400000 in
set_option maxRecDepth 100000 in
theorem high2 (v : Int) (w : World) (h0 : 0 ≤ v) (h1 : v < 65536) : Calls Tryd.prog 45 #[.int .u32 v, .int .i64 2] w fun e w' => e = .returned (.tuple #[.string (bsOf (leR 2 v)), .int .i64 0]) ∧ Below w.heap.size w w' := by
  have HC := Lib.hid (wput2 v w h0 h1)
  go_enter Tryd.func45, Tryd.ntmps45
  go_wp2_with (go_at_call 52; refine HC.out.mono ?_; rintro e w1 ⟨rfl, hB⟩)
  have HB := Lib.hid hB
  have HT := Lib.hid (turned_any (leB 2 v) w1 (by rw [leB_length]; omega))
  clear hB HC
  go_wp2_with (go_at_call 63; refine HT.out.mono ?_; rintro e w2 ⟨rfl, hB2⟩)
  go_ret2
  exact ⟨rfl, HB.out.trans (hB2.mono HB.out.size)⟩
end Go.Proofs.YtiegjplldfodkaaDoor
