/- The walks of word.text and word.Put. What law33's functions read of the library's tables, and a number's digits: internal/strconv.FormatUint, strconv.FormatUint, dis.num, dis.r. The bytes of a text as a row of cells. A text is a name just if trimming the name bytes leaves nothing of it. No program in sight. A number divided by 256 again and again: its bytes. No program in sight. -/
import Derived.Test.YtoonkfhphbojcaaGreatDoorRows
import Derived.Test.YtoonkfhphbojcaaGreatDoorBu47
import Derived.Test.YtoonkfhphbojcaaGreatDoorBu05
import Derived.Laws.IdiomStrings
import Derived.Outline
import Derived.Lib.Hide
import Derived.Test.YtoonkfhphbojcaaGreatDoorBu09
import Derived.Test.YtoonkfhphbojcaaGreatDoorDisLay
import Derived.Lib.ItoaMem
import Derived.Lib.Walk
import Derived.Sort.WalkB12
import Derived.Deep.LoopGhost
import Derived.Lib.SlicesMore
import Derived.Lib.ConvBytes
import Derived.Test.YtoonkfhphbojcaaGreatDoorBu02
import Derived.Lib.SlTrimSet
namespace Go.Proofs.YtoonkfhphbojcaaGreatDoor
open Go.RowKit
theorem info_byte : (Tryz.prog.info? 5).map (fun i => (i.zero, i.size, i.bytes)) = some (some (.int .u8 0), 1, 1) := by kernel_rfl
set_option maxHeartbeats 400000 in
theorem wtext_any (b o : Nat) (l : BL) (cap : Nat) (w : World) (hc : ∀ j (hj : j < l.length), w.cell? ⟨b, o + j, none⟩ = some (.int .u8 (l[j].toNat : Int))) :
    Calls Tryz.prog 205 #[.slice (some ⟨b, o, none⟩) l.length cap] w fun e w' => e = .returned (.string (bsOf l)) ∧ w = w' := by
  have hk := run_convert_bytes_back (P := Tryz.prog) w 79 9 5 ⟨b, o, none⟩ cap l Tryz.underlying79 Tryz.underlying5 Tryz.underlying9 (fun j hj => by rw [add_at]; exact hc j hj)
  clear hc
  go_enter Tryz.func205, Tryz.ntmps205
  go_wp2
  go_ret
  exact ⟨rfl, rfl⟩
theorem leB_get {n : Nat} {v : Int} {j : Nat} (hn : n ≤ 4) (hj : j < (leB n v).length) : ((leB n v)[j].toNat : Int) = ([v % 256, v / 256 % 256, v / 65536 % 256, v / 16777216 % 256] : List Int).getD j 0 := by
  have hj' : j < n := by rw [leB_length] at hj; exact hj
  have b1 : (v / 256 % 256).toNat < 256 := by omega
  have b0 : (v % 256).toNat < 256 := by omega
  have b2 : (v / 256 / 256 % 256).toNat < 256 := by omega
  have b3 : (v / 256 / 256 / 256 % 256).toNat < 256 := by omega
  match n, hn, j, hj' with
  | 1, _, 0, _ => simp only [leB, List.getElem_cons_zero, u8_ofNat _ b0, List.getD_cons_zero]; omega
  | 2, _, 0, _ => simp only [leB, List.getElem_cons_zero, u8_ofNat _ b0, List.getD_cons_zero]; omega
  | 3, _, 0, _ => simp only [leB, List.getElem_cons_zero, u8_ofNat _ b0, List.getD_cons_zero]; omega
  | 4, _, 0, _ => simp only [leB, List.getElem_cons_zero, u8_ofNat _ b0, List.getD_cons_zero]; omega
  | 2, _, 1, _ => simp only [leB, List.getElem_cons_zero, List.getElem_cons_succ, u8_ofNat _ b1, List.getD_cons_zero, List.getD_cons_succ]; omega
  | 3, _, 1, _ => simp only [leB, List.getElem_cons_zero, List.getElem_cons_succ, u8_ofNat _ b1, List.getD_cons_zero, List.getD_cons_succ]; omega
  | 4, _, 1, _ => simp only [leB, List.getElem_cons_zero, List.getElem_cons_succ, u8_ofNat _ b1, List.getD_cons_zero, List.getD_cons_succ]; omega
  | 3, _, 2, _ => simp only [leB, List.getElem_cons_zero, List.getElem_cons_succ, u8_ofNat _ b2, List.getD_cons_zero, List.getD_cons_succ]; omega
  | 4, _, 2, _ => simp only [leB, List.getElem_cons_zero, List.getElem_cons_succ, u8_ofNat _ b2, List.getD_cons_zero, List.getD_cons_succ]; omega
  | 4, _, 3, _ => simp only [leB, List.getElem_cons_zero, List.getElem_cons_succ, u8_ofNat _ b3, List.getD_cons_zero, List.getD_cons_succ]; omega
theorem put_cells {w : World} {n : Nat} {v x0 x1 x2 x3 : Int} (hn : n ≤ 4) (h : ∀ j, j < n → ([x0, x1, x2, x3] : List Int).getD j 0 = ([v % 256, v / 256 % 256, v / 65536 % 256, v / 16777216 % 256] : List Int).getD j 0) (t : TypeId) :
    ∀ j (hj : j < (leB n v).length), (w.alloc (.cells #[.int .u8 x0, .int .u8 x1, .int .u8 x2, .int .u8 x3] t)).cell? ⟨w.heap.size, 0 + j, none⟩ = some (.int .u8 ((leB n v)[j].toNat : Int)) := by
  intro j hj
  rw [leB_get hn hj]
  rw [leB_length] at hj
  rw [← h j hj]
  have h4 : j = 0 ∨ j = 1 ∨ j = 2 ∨ j = 3 := by omega
  rcases h4 with rfl | rfl | rfl | rfl <;> simp [go_sem]
set_option maxHeartbeats 400000 in
set_option maxRecDepth 100000 in
theorem wput1 (v : Int) (w : World) (h0 : 0 ≤ v) (h1 : v < 256) : Calls Tryz.prog 183 #[.int .u32 v, .int .i64 1] w fun e w' => e = .returned (.tuple #[.string (bsOf (leB 1 v)), .int .i64 0]) ∧ Below w.heap.size w w' := by
  have hz : (v / 256 != 0) = false := by simp; omega
  go_enter Tryz.func183, Tryz.ntmps183
  go_wp2_with fail
  refine (wtext_any w.heap.size 0 (leB 1 v) 4 _ (put_cells (by omega) ?_ _)).mono ?_
  · intro j hj
    have h4 : j = 0 := by omega
    rcases h4 with rfl <;> (simp only [List.getD_cons_zero]; try omega)
  rintro e w' ⟨rfl, rfl⟩
  go_wp2
  go_ret2
  exact ⟨rfl, alloc_old w _⟩
set_option maxHeartbeats 400000 in
set_option maxRecDepth 100000 in
theorem wput2 (v : Int) (w : World) (h0 : 0 ≤ v) (h1 : v < 65536) : Calls Tryz.prog 183 #[.int .u32 v, .int .i64 2] w fun e w' => e = .returned (.tuple #[.string (bsOf (leB 2 v)), .int .i64 0]) ∧ Below w.heap.size w w' := by
  have hz : (v / 65536 != 0) = false := by simp; omega
  go_enter Tryz.func183, Tryz.ntmps183
  go_wp2_with fail
  refine (wtext_any w.heap.size 0 (leB 2 v) 4 _ (put_cells (by omega) ?_ _)).mono ?_
  · intro j hj
    have h4 : j = 0 ∨ j = 1 := by omega
    rcases h4 with rfl | rfl <;> (simp only [List.getD_cons_zero, List.getD_cons_succ]; try omega)
  rintro e w' ⟨rfl, rfl⟩
  go_wp2
  go_ret2
  exact ⟨rfl, alloc_old w _⟩
set_option maxHeartbeats 400000 in
set_option maxRecDepth 100000 in
theorem wput4 (v : Int) (w : World) (h0 : 0 ≤ v) (h1 : v < 4294967296) : Calls Tryz.prog 183 #[.int .u32 v, .int .i64 4] w fun e w' => e = .returned (.tuple #[.string (bsOf (leB 4 v)), .int .i64 0]) ∧ Below w.heap.size w w' := by
  go_enter Tryz.func183, Tryz.ntmps183
  go_wp2_with fail
  refine (wtext_any w.heap.size 0 (leB 4 v) 4 _ (put_cells (by omega) ?_ _)).mono ?_
  · intro j hj
    have h4 : j = 0 ∨ j = 1 ∨ j = 2 ∨ j = 3 := by omega
    rcases h4 with rfl | rfl | rfl | rfl <;> (simp only [List.getD_cons_zero, List.getD_cons_succ]; try omega)
  rintro e w' ⟨rfl, rfl⟩
  go_wp2
  go_ret2
  exact ⟨rfl, alloc_old w _⟩
theorem bsOf_app (a : BL) (s : ByteArray) : bsOf a ++ s = bsOf (a ++ s.data.toList) := by
  apply ByteArray.ext; simp [bsOf]
end Go.Proofs.YtoonkfhphbojcaaGreatDoor
namespace Go.Proofs.YtoonkfhphbojcaaGreatDoor
open Go.RowKit Go.Maps
/-- the tables of the library as they were laid -/
structure Lib33 (w : World) : Prop where
  pow : Lib.TabIs Tryz.prog w "internal/strconv.uint64pow10" .u64 Lib.pow10Tab
  asp : Lib.TabIs Tryz.prog w "strings.asciiSpace" .u8 Lib.asciiSpaceTab
  maxl : ∃ m : Int, w.cell? ⟨5, 0, none⟩ = some (.int .i64 m)
  errS : ∃ ev, w.cell? ⟨3, 0, none⟩ = some ev ∧ (ev = .nilIface ∨ ∃ te pe, ev = .iface te pe)
  errR : ∃ ev, w.cell? ⟨4, 0, none⟩ = some ev ∧ (ev = .nilIface ∨ ∃ te pe, ev = .iface te pe)
theorem tabIs_keep {P : Program} {w w' : World} {n : String} {k : IntKind} {zs : List Int} (h : Lib.TabIs P w n k zs) (hb : Below w.heap.size w w') : Lib.TabIs P w' n k zs := by
  unfold Lib.TabIs World.var? at *
  cases hg : P.globalNamed n with
  | none => rw [hg] at h; cases h
  | some g =>
    rw [hg] at h
    simp only [Option.bind_some] at h ⊢
    have hlt : g < w.heap.size := by
      rcases Nat.lt_or_ge g w.heap.size with h' | h'
      · exact h'
      · rw [Array.getElem?_eq_none h'] at h; cases h
    rw [hb.block g hlt]; exact h
theorem cell_stays {w w' : World} {b o : Nat} {v : Value} (h : w.cell? ⟨b, o, none⟩ = some v) (hb : Below w.heap.size w w') : w'.cell? ⟨b, o, none⟩ = some v := cell_keep hb (World.block_lt_of_cell? _ _ h) h
theorem Lib33.keep {w w' : World} (h : Lib33 w) (hb : Below w.heap.size w w') : Lib33 w' := by
  obtain ⟨h1, h2, ⟨m, h3⟩, ⟨e1, h4, h4'⟩, ⟨e2, h5, h5'⟩⟩ := h
  exact ⟨tabIs_keep h1 hb, tabIs_keep h2 hb, ⟨m, cell_stays h3 hb⟩, ⟨e1, cell_stays h4 hb, h4'⟩, ⟨e2, cell_stays h5 hb, h5'⟩⟩
theorem bsOf_cat (a b : BL) : bsOf a ++ bsOf b = bsOf (a ++ b) := (bsOf_app a (bsOf b)).symm
/-- a number's digits -/
def decD (n : Nat) : BL := Lib.decDigits n
abbrev encB : UInt8 → Value := fun b => .int .u8 (b.toNat : Int)
theorem zeros_hold (w : World) (T : TypeId) (nd : Nat) (h : nd ≤ 24) : Sort.Holds encB (w.alloc (.cells Lib.zeros24 T)) w.heap.size 0 (Array.replicate nd (0 : UInt8)) := fun j hj => by
  have hj' : j < nd := by simpa using hj
  refine ⟨?_, World.frozen?_alloc_new _ _ _ _⟩
  rw [World.cell?_alloc_new, Lib.zeros24_at _ (by omega), getElem!_pos _ j hj]
  simp
theorem below_putB {B : Nat} {a w : World} {blk off n : Nat} {d : Array UInt8} (h : Below B a w) (hB : B ≤ blk) : Below B a ((Sort.putRow encB w blk off d).drewN n) := by
  refine below_drewN (w := Sort.putRow encB w blk off d) (h.trans ⟨rfl, rfl, rfl, by simp [Sort.putRow, Sort.mapBlock], fun k hk => ?_⟩) n
  simp only [Sort.putRow, Sort.mapBlock, Array.getElem?_modify]
  rw [if_neg (by omega)]
set_option maxHeartbeats 2000000 in
set_option maxRecDepth 100000 in
theorem fmtUint_any (u : Nat) (hu : u < 4294967296) (w : World) (hL : Lib33 w) :
    Calls Tryz.prog 131 #[.int .u64 u, .int .i64 10] w fun e w' => e = .returned (.string (bsOf (decD u))) ∧ Below w.heap.size w w' := by
  by_cases hs : u < 100
  · have HS : Hid (∀ W, Calls Tryz.prog 164 #[.int .i64 u] W fun e w' => e = .returned (.string ⟨(Lib.decDigits u).toArray⟩) ∧ w' = W) := fun W => Any.internal_strconv_small Tryz.lSmall u hs W
    go_enter Tryz.func131, Tryz.ntmps131
    go_wp2_with fail
    refine (HS.out _).mono ?_
    rintro e w' ⟨rfl, rfl⟩
    go_wp2
    go_ret
    exact ⟨rfl, Below.refl _ _⟩
  · have hnd : Lib.nDigits u ≤ 20 := by have := Lib.numDigits_eq u (by omega) (by omega); split at this <;> omega
    have HN : Hid (∀ W, Below w.heap.size w W → Calls Tryz.prog 165 #[.int .u64 u] W fun e w' => e = .returned (.int .i64 (Lib.nDigits u)) ∧ w' = W) := fun W hW => Any.internal_strconv_numDigits Tryz.lNumDigits u (by omega) (by omega) W (tabIs_keep hL.pow hW)
    have hH0 := zeros_hold w 212 (Lib.nDigits u) (by omega)
    have HF : Hid (Calls Tryz.prog 166 #[.slice (some ⟨w.heap.size, 0, none⟩) (Lib.nDigits u) 24, .int .u64 u] (w.alloc (.cells Lib.zeros24 212)) fun e w' => e = .returned (.tuple #[]) ∧ ∃ (n v' : Nat) (dk : Array UInt8), w' = (Sort.putRow encB (w.alloc (.cells Lib.zeros24 212)) w.heap.size 0 dk).drewN n ∧ Lib.FmtInv (Lib.nDigits u) u 0 v' dk) := by
      have h := Any.internal_strconv_formatBase10 Tryz.lFormatBase10 w.heap.size 0 24 u (Array.replicate (Lib.nDigits u) 0) (w.alloc (.cells Lib.zeros24 212)) hH0 (by rw [Array.size_replicate]; exact Lib.lt_pow_nDigits u) (by omega) (by rw [Array.size_replicate]; omega)
      rw [Array.size_replicate] at h
      exact h
    have HH := Lib.hid hH0
    have HB : Hid (Below w.heap.size w (w.alloc (.cells Lib.zeros24 212))) := alloc_old w _
    have hal : Tryz.prog.arrayLen 212 = 24 := by simp [Program.arrayLen, Tryz.underlying212]
    have hsl : ∀ W, (Instr.sliceAt 212 (.pointer (some ⟨w.heap.size, 0, none⟩)) none (some (.int .i64 (Lib.nDigits u : Int))) none).run Tryz.prog W = .ok (.slice (some ⟨w.heap.size, 0, none⟩) (Lib.nDigits u) 24) W := fun W => by
      rw [run_sliceAt_array_h W 212 ⟨w.heap.size, 0, none⟩ (by simp [Program.arrayLen, Program.elem, Tryz.underlying212]) .i64 (Lib.nDigits u : Int) (by omega) (by rw [hal]; omega)]
      go_simp
    clear hH0 hal
    go_enter Tryz.func131, Tryz.ntmps131
    go_wp2_with fail
    refine (HN.out _ HB.out).mono ?_
    rintro e w' ⟨rfl, rfl⟩
    go_wp2_with fail
    refine HF.out.mono ?_
    rintro e w' ⟨rfl, k, v', dk, rfl, hF⟩
    have hB' : Hid (Below w.heap.size w ((Sort.putRow encB (w.alloc (.cells Lib.zeros24 212)) w.heap.size 0 dk).drewN k)) := below_putB HB.out (Nat.le_refl _)
    have hcv : (convert 79 9 (.slice (some ⟨w.heap.size, 0, none⟩) (Lib.nDigits u) 24)).run Tryz.prog ((Sort.putRow encB (w.alloc (.cells Lib.zeros24 212)) w.heap.size 0 dk).drewN k) = .ok (.string (bsOf (decD u))) ((Sort.putRow encB (w.alloc (.cells Lib.zeros24 212)) w.heap.size 0 dk).drewN k) := by
      have h := run_convert_bytes_back (P := Tryz.prog) ((Sort.putRow encB (w.alloc (.cells Lib.zeros24 212)) w.heap.size 0 dk).drewN k) 79 9 5 ⟨w.heap.size, 0, none⟩ 24 (Lib.decDigits u) Tryz.underlying79 Tryz.underlying5 Tryz.underlying9 (fun j hj => by
        rw [Lib.row_is_numeral hF j hj, Lib.add_plain, World.cell?_drewN]
        exact Sort.cell?_putRow encB _ w.heap.size 0 _ dk HH.out (by rw [hF.size, Array.size_replicate]) j (by rw [hF.size]; rw [Lib.decDigits_length] at hj; exact hj))
      rw [Lib.decDigits_length] at h
      exact h
    generalize ((Sort.putRow encB (w.alloc (.cells Lib.zeros24 212)) w.heap.size 0 dk).drewN k) = w2 at *
    go_wp2
    go_ret
    exact ⟨rfl, hB'.out⟩
set_option maxRecDepth 100000 in
theorem sFmtUint_any (u : Nat) (hu : u < 4294967296) (w : World) (hL : Lib33 w) :
    Calls Tryz.prog 86 #[.int .u64 u, .int .i64 10] w fun e w' => e = .returned (.string (bsOf (decD u))) ∧ Below w.heap.size w w' := by
  have H := Lib.hid (fmtUint_any u hu w hL)
  go_enter Tryz.func86, Tryz.ntmps86
  go_wp2_with fail
  refine H.out.mono ?_
  rintro e w' ⟨rfl, hB⟩
  go_wp2
  go_ret
  exact ⟨rfl, hB⟩
set_option maxRecDepth 100000 in
theorem num33 (u : Nat) (hu : u < 4294967296) (w : World) (hL : Lib33 w) :
    Calls Tryz.prog 34 #[.int .u32 u] w fun e w' => e = .returned (.string (bsOf (decD u))) ∧ Below w.heap.size w w' := by
  have H := Lib.hid (sFmtUint_any u hu w hL)
  have hw : (u : Int) % 18446744073709551616 = u := by omega
  go_enter Tryz.func34, Tryz.ntmps34
  go_wp2_with fail
  refine H.out.mono ?_
  rintro e w' ⟨rfl, hB⟩
  go_wp2
  go_ret
  exact ⟨rfl, hB⟩
theorem decD_len {u : Nat} (h : u < 4294967296) : 1 ≤ (decD u).length ∧ (decD u).length ≤ 20 := by
  unfold decD
  rw [Lib.decDigits_length]
  by_cases h0 : u < 10
  · rw [Lib.nDigits_small h0]; omega
  · have h1 := Lib.numDigits_eq u (by omega) (by omega)
    have h2 : 1 ≤ Lib.nDigits u := by rw [Lib.nDigits]; split <;> omega
    split at h1 <;> omega
set_option maxRecDepth 100000 in
theorem r33 (u : Nat) (hu : u < 256) (w : World) (hL : Lib33 w) :
    Calls Tryz.prog 85 #[.int .u8 u] w fun e w' => e = .returned (.string (bsOf (114 :: decD u))) ∧ Below w.heap.size w w' := by
  have H := Lib.hid (num33 u (by omega) w hL)
  have hw : (u : Int) % 4294967296 = u := by omega
  have hl := decD_len (u := u) (by omega)
  go_enter Tryz.func85, Tryz.ntmps85
  go_wp2_with fail
  refine H.out.mono ?_
  rintro e w' ⟨rfl, hB⟩
  have hc : (⟨#[114]⟩ : ByteArray) ++ bsOf (decD u) = bsOf (114 :: decD u) := bsOf_cat [114] (decD u)
  have hs : (bsOf (decD u)).size = (decD u).length := bsOf_size _
  go_wp2
  go_ret
  exact ⟨rfl, hB⟩
end Go.Proofs.YtoonkfhphbojcaaGreatDoor
namespace Go.Proofs.YtoonkfhphbojcaaGreatDoor
open Go.RowKit Go.Sort Go.Proofs
def encU : Int → Value := fun x => .int .u8 x
theorem below_putRow {B : Nat} {a w : World} {blk off n : Nat} {d : Array Int} (h : Below B a w) (hB : B ≤ blk) : Below B a (putRow encU (Sort.ahead w n) blk off d) := by
  refine h.trans ⟨rfl, rfl, rfl, by simp, fun k hk => ?_⟩
  simp only [putRow, mapBlock, Sort.ahead, Array.getElem?_modify]
  rw [if_neg (by omega)]
def natsOf (l : BL) : Array Int := (l.map fun b => (b.toNat : Int)).toArray
theorem natsOf_size (l : BL) : (natsOf l).size = l.length := by simp [natsOf]
theorem bytes_hold (w : World) (l : BL) : Holds encU (Lib.bytesWorld w 5 (bsOf l)) w.heap.size 0 (natsOf l) := by
  intro j hj
  rw [natsOf_size] at hj
  refine ⟨?_, ?_⟩
  · have h := Lib.bytesWorld_cell w 5 (bsOf l) j (by rw [bsOf_size]; exact hj)
    rw [Nat.zero_add, h]
    simp [encU, natsOf, bsOf, List.getD, hj]
  · unfold World.frozen?
    rw [Lib.bytesWorld_at_new]
    simp [Lib.bytesCells, bsOf]
    omega
theorem below_bytes (w : World) (s : ByteArray) : Below w.heap.size w (Lib.bytesWorld w 5 s) :=
  ⟨rfl, rfl, rfl, by rw [Lib.bytesWorld_size]; omega, fun k hk => Lib.bytesWorld_at_old w _ s k hk⟩
theorem bytes_read {w : World} {b cap : Nat} {l : BL} (n : Nat) (hH : Holds encU w b 0 (natsOf l)) :
    (convert 79 9 (.slice (some ⟨b, 0, none⟩) l.length cap)).run Tryz.prog (putRow encU (Sort.ahead w n) b 0 (natsOf l).reverse) = .ok (.string (bsOf l.reverse)) (putRow encU (Sort.ahead w n) b 0 (natsOf l).reverse) := by
  have h := run_convert_bytes_back (P := Tryz.prog) (putRow encU (Sort.ahead w n) b 0 (natsOf l).reverse) 79 9 5 ⟨b, 0, none⟩ cap l.reverse Tryz.underlying79 Tryz.underlying5 Tryz.underlying9 (fun j hj => by
    have h2 := holds_putRow encU (Sort.ahead w n) b 0 (natsOf l) (natsOf l).reverse (holds_ahead encU w n b 0 _ hH) (by simp) j (by rw [List.length_reverse] at hj; simpa [natsOf_size] using hj)
    rw [add_at, h2.1]
    rw [List.length_reverse] at hj
    have hj2 : j < (natsOf l).reverse.size := by simpa [natsOf_size] using hj
    rw [show (natsOf l).reverse[j]! = (natsOf l).reverse[j] from getElem!_pos (natsOf l).reverse j hj2]
    simp [encU, natsOf])
  rw [List.length_reverse] at h
  exact h
end Go.Proofs.YtoonkfhphbojcaaGreatDoor
namespace Go.Proofs.YtoonkfhphbojcaaGreatDoor
def nameSet : List UInt8 := [97, 98, 99, 100, 101, 102, 103, 104, 105, 106, 107, 108, 109, 110, 111, 112, 113, 114, 115, 116, 117, 118, 119, 120, 121, 122, 48, 49, 50, 51, 52, 53, 54, 55, 56, 57, 46, 95]
theorem nameSet_all : ∀ n : Fin 256, nameSet.contains (UInt8.ofNat n.val) = nameByte (UInt8.ofNat n.val) := by decide +kernel
theorem nameSet_contains (b : UInt8) : nameSet.contains b = nameByte b := by
  have := nameSet_all ⟨b.toNat, b.toNat_lt⟩
  simpa using this
theorem dropWhile_nil {α : Type} (p : α → Bool) : ∀ l : List α, l.dropWhile p = [] ↔ l.all p = true
  | [] => by simp
  | a :: l => by
    by_cases h : p a = true
    · simp [h, dropWhile_nil p l]
    · simp [h]
theorem trimS_nil (l : List UInt8) : Lib.trimS l nameSet = [] ↔ l.all nameByte = true := by
  have e : (fun b => nameSet.contains b) = nameByte := funext nameSet_contains
  unfold Lib.trimS Lib.trimLeftS Lib.trimRightS
  simp only [e]
  rw [dropWhile_nil]
  simp only [List.all_reverse]
  constructor
  · intro h
    by_cases h2 : l.all nameByte = true
    · exact h2
    · exfalso
      have h3 : ¬ (l.reverse.dropWhile nameByte = []) := by rw [dropWhile_nil, List.all_reverse]; exact h2
      obtain ⟨a, t, hat⟩ := List.exists_cons_of_ne_nil h3
      have h4 : nameByte a = false := by
        have := List.head?_dropWhile_not nameByte l.reverse
        rw [hat] at this
        simpa using this
      rw [hat] at h
      simp [h4] at h
  · intro h
    have h3 : l.reverse.dropWhile nameByte = [] := by rw [dropWhile_nil, List.all_reverse]; exact h
    simp [h3]
theorem trim_isName (s : ByteArray) (h0 : 1 ≤ s.size) (h1 : s.size ≤ 32) : (Lib.trimS s.data.toList nameSet).isEmpty = isName s := by
  rw [Bool.eq_iff_iff, List.isEmpty_iff, trimS_nil]
  simp [isName, h0, h1]
end Go.Proofs.YtoonkfhphbojcaaGreatDoor
namespace Go.Proofs.YtoonkfhphbojcaaGreatDoor
/-- divided by 256 so often -/
def dv : Nat → Int → Int
  | 0, v => v
  | i + 1, v => dv i (v / 256)
theorem dv_succ : ∀ (i : Nat) (v : Int), dv (i + 1) v = dv i v / 256
  | 0, _ => rfl
  | i + 1, v => by rw [dv, dv_succ i, dv]
theorem dv_zero : ∀ (n : Nat) (v : Int), 0 ≤ v → v < pow256 n → dv n v = 0
  | 0, v, h0, h1 => by simp only [pow256] at h1; simp only [dv]; omega
  | n + 1, v, h0, h1 => by simp only [pow256] at h1; simp only [dv]; exact dv_zero n _ (by omega) (by omega)
theorem dv_bd : ∀ (i : Nat) (v : Int), 0 ≤ v → 0 ≤ dv i v ∧ dv i v ≤ v
  | 0, v, h => ⟨h, Int.le_refl _⟩
  | i + 1, v, h => by have := dv_bd i (v / 256) (by omega); simp only [dv]; omega
theorem leB_snoc : ∀ (i : Nat) (v : Int), leB (i + 1) v = leB i v ++ [UInt8.ofNat (dv i v % 256).toNat]
  | 0, _ => rfl
  | i + 1, v => by
    rw [leB, leB_snoc i (v / 256)]; rfl
end Go.Proofs.YtoonkfhphbojcaaGreatDoor
