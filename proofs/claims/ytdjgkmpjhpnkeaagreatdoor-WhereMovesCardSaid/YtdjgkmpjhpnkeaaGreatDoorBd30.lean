/- The walk of word.Hex. Digits of a number, in plain words. No program in sight. The walks of where.Name and aediculeref34.Name. The walk of where.Moves. The walk of aediculelaw34.alive. -/
import Derived.Test.YtdjgkmpjhpnkeaaGreatDoorBd29
import Derived.Test.YtdjgkmpjhpnkeaaGreatDoorBd03
import Derived.Test.YtdjgkmpjhpnkeaaGreatDoorBd12
import Derived.Lib.UnsafeStr
import Derived.Test.YtdjgkmpjhpnkeaaGreatDoorBd27
import Derived.Test.YtdjgkmpjhpnkeaaGreatDoorBd09
import Derived.Test.YtdjgkmpjhpnkeaaGreatDoorBd28
namespace Go.Proofs.YtdjgkmpjhpnkeaaGreatDoor
open Go.RowKit
def digs : ByteArray := ⟨#[48, 49, 50, 51, 52, 53, 54, 55, 56, 57, 97, 98, 99, 100, 101, 102]⟩
theorem digs_size : digs.size = 16 := rfl
theorem hexD_nat : ∀ i : Nat, i < 16 → digs.data[i]? = some (hexD i) := by decide
theorem digs_get (i : Nat) (h : i < digs.size) : (digs[i]'h) = hexD (i : Int) := by
  have h1 := hexD_nat i h
  have h2 : digs.data[i]? = some digs[i] := Array.getElem?_eq_getElem h
  rw [h2] at h1
  exact Option.some.inj h1
theorem run_digit {k : IntKind} (d : Int) (w : World) (h0 : 0 ≤ d) (h1 : d < 16) : (Instr.index 9 (.string ⟨#[48, 49, 50, 51, 52, 53, 54, 55, 56, 57, 97, 98, 99, 100, 101, 102]⟩) (.int k d)).run Tryz.prog w = .ok (.int .u8 ((hexD d).toNat : Int)) w := by
  have h := run_index_string (P := Tryz.prog) w 9 digs k d Tryz.underlying9
  rw [dif_pos ⟨h0, by rw [digs_size]; omega⟩, digs_get, Int.toNat_of_nonneg h0] at h
  exact h
theorem and15 : ∀ n : Fin 256, bits BinOp.and .u8 (n.val : Int) 15 = (n.val : Int) % 16 := by decide +kernel
def hexB (b : UInt8) : BL := [hexD ((b.toNat : Int) / 16), hexD ((b.toNat : Int) % 16)]
theorem hexB_len : ∀ l : BL, (l.flatMap hexB).length = 2 * l.length
  | [] => rfl
  | x :: l => by simp only [List.flatMap_cons, List.length_append, hexB_len l, hexB, List.length_cons, List.length_nil]; omega
theorem twoh_one (a b : Int) : ∀ u ∈ [Value.int .u8 a, Value.int .u8 b], u.oneCell' = true := by
  intro u hu
  simp only [List.mem_cons, List.not_mem_nil, or_false] at hu
  rcases hu with rfl | rfl <;> rfl
theorem row_text {W : World} {base : Nat} {v : Value} {r : BL} (h0 : 0 < r.length) (h : W.ownsRow base 5 1 v r.length (Lib.byteCells r)) : (convert 130 9 v).run Tryz.prog W = .ok (.string (bsOf r)) W := by
  rcases h.2 with ⟨-, h2⟩ | ⟨g, cap, cur, rfl, -⟩
  · omega
  · exact run_convert_bytes_back (P := Tryz.prog) W 130 9 5 ⟨g, 0, none⟩ cap r Tryz.underlying130 Tryz.underlying5 Tryz.underlying9 (fun j hj => h.cells (g := g) rfl j _ (by simp [Lib.byteCells, List.getElem?_eq_getElem hj]))
theorem new_two (w : World) (x y : Value) (t : TypeId) : ∀ j u, [x, y][j]? = some u → (w.alloc (.cells #[x, y] t)).cell? ((⟨w.heap.size, 0, none⟩ : Addr).add j) = some u := by
  intro j u hj
  rw [add_at]
  match j, hj with
  | 0, hj => simp at hj; subst hj; simp [go_sem]
  | 1, hj => simp at hj; subst hj; simp [go_sem]
  | j + 2, hj => simp at hj
set_option maxHeartbeats 1600000 in
set_option maxRecDepth 100000 in
theorem hex_any (l : BL) (w : World) (hl : l.length ≤ 1000) (hl0 : 0 < l.length) : Calls Tryz.prog 171 #[.string (bsOf l)] w fun e w' => e = .returned (.string (bsOf (l.flatMap hexB))) ∧ Below w.heap.size w w' := by
  have hcv := Lib.run_convert_string_bytes (P := Tryz.prog) w 9 130 5 (bsOf l) Tryz.underlying9 Tryz.underlying130 Tryz.underlying5
  rw [bsOf_size] at hcv
  have HH : Hid (∀ j (hj : j < l.length), (Lib.bytesWorld w 5 (bsOf l)).cell? ⟨w.heap.size, j, none⟩ = some (.int .u8 (l[j].toNat : Int))) := fun j hj => by
    rw [Lib.bytesWorld_cell w 5 (bsOf l) j (by rw [bsOf_size]; exact hj)]
    simp [bsOf, List.getD, hj]
  have HB := Lib.hid (below_bytes w (bsOf l))
  have HZ : Hid ((Lib.bytesWorld w 5 (bsOf l)).heap.size = w.heap.size + 1) := Lib.bytesWorld_size _ _ _
  generalize Lib.bytesWorld w 5 (bsOf l) = w1 at hcv HH HB HZ
  generalize grownCap w l.length 0 5 = cap at hcv
  obtain ⟨i0, hi, hz0, hz1, hz2⟩ := info_parts info_byte
  have HI := Lib.hid (And.intro hi (And.intro hz0 (And.intro hz1 hz2)))
  clear hi hz0 hz1 hz2
  go_enter Tryz.func171, Tryz.ntmps171
  go_wp2
  clear hcv
  go_loopw [3, 5, 9] (fun v3 v5 v9 wr => ∃ i : Nat, i ≤ l.length ∧ v9 = .int .i64 i ∧ wr.ownsRow w1.heap.size 5 1 v3 (2 * i) (Lib.byteCells ((l.take i).flatMap hexB)) ∧ Below w1.heap.size w1 wr) (fun _ _ v9 _ => l.length - (intOf v9).toNat)
  case atStart => exact ⟨0, Nat.zero_le _, rfl, World.ownsRow_nil _ _ _ _, Below.refl _ _⟩
  case round =>
    obtain ⟨i, hi, rfl, hown, hbel⟩ := hrel
    have HO := Lib.hid hown; clear hown
    have HB1 := Lib.hid hbel; clear hbel
    by_cases hlt : i < l.length
    · have g1 : wr.cell? ⟨w.heap.size, i, none⟩ = some (.int .u8 (l[i].toNat : Int)) := by
        have hz := HZ.out
        rw [HB1.out.cell (p := ⟨w.heap.size, i, none⟩) (show w.heap.size < w1.heap.size by omega)]; exact HH.out i hlt
      have HT : Hid ((l.take (i + 1)).flatMap hexB = (l.take i).flatMap hexB ++ hexB l[i]) := by
        rw [Hid, List.take_succ_eq_append_getElem hlt, List.flatMap_append, List.flatMap_cons, List.flatMap_nil, List.append_nil]
      have hb : l[i].toNat < 256 := UInt8.toNat_lt _
      generalize l[i] = b at g1 HT hb
      have q1 := fun W => run_digit (k := .u8) ((b.toNat : Int) / 16) W (by omega) (by omega)
      have q2 := fun W => run_digit (k := .u8) ((b.toNat : Int) % 16) W (by omega) (by omega)
      have q3 : bits BinOp.and .u8 (b.toNat : Int) 15 = (b.toNat : Int) % 16 := and15 ⟨b.toNat, hb⟩
      go_wp2_with fail
      clear g1
      obtain ⟨pv, cv, rfl⟩ := own_shape HO.out
      go_region_law (((refine step_append_own_at rfl (.tmp 13) (.tmp 20) 130 rfl w1.heap.size 5 i0 _ 1 1 Tryz.underlying130 HI.out.1 HI.out.2.1 HI.out.2.2.1 HI.out.2.2.2 rfl (by decide) (.slice pv (2 * i) cv) (2 * i) (Lib.byteCells ((l.take i).flatMap hexB)) (by simp [Act.eval]) ((World.ownsRow.drew HO.out).alloc _) ⟨wr.heap.size, 0, none⟩ 2 2 [.int .u8 ((hexD ((b.toNat : Int) / 16)).toNat : Int), .int .u8 ((hexD ((b.toNat : Int) % 16)).toNat : Int)] (by simp [Act.eval]) rfl (new_two wr.drew _ _ _) (twoh_one _ _) (by unfold maxLen; omega) (by omega) (by have := HB1.out.size; simp; omega) ?_); intro v' w9 hown hgrow hv))
      all_goals
        have HO9 : Hid (w9.ownsRow w1.heap.size 5 1 v' (2 * (i + 1)) (Lib.byteCells ((l.take (i + 1)).flatMap hexB))) := by
          rw [Hid, HT.out, show Lib.byteCells ((l.take i).flatMap hexB ++ hexB b) = Lib.byteCells ((l.take i).flatMap hexB) ++ [.int .u8 ((hexD ((b.toNat : Int) / 16)).toNat : Int), .int .u8 ((hexD ((b.toNat : Int) % 16)).toNat : Int)] by simp only [Lib.byteCells, hexB, List.map_append, List.map_cons, List.map_nil]]
          exact hown
        have HB9 : Hid (Below w1.heap.size w1 w9) := (HB1.out.drew.alloc (by have := HB1.out.size; simp; omega) _).grown hgrow (by have := HB1.out.size; simp; omega) (fun q e => (World.ownsRow.lt HO.out q e).1)
        obtain ⟨pw, cw, rfl⟩ := own_shape hown
        clear hown hgrow hv q1 q2 q3
        go_wp2
        go_roundw
        case rel => exact ⟨i + 1, by omega, by go_num, HO9.out, HB9.out⟩
        case measure => simp [intOf]; omega
    · obtain rfl : i = l.length := by omega
      have HE : Hid (l.take l.length = l) := List.take_length
      rw [HE.out] at HO
      have hlen := hexB_len l
      have HO2 : Hid (wr.ownsRow w1.heap.size 5 1 u3 (l.flatMap hexB).length (Lib.byteCells (l.flatMap hexB))) := by rw [hlen]; exact HO.out
      have hk := row_text (by omega) HO2.out
      obtain ⟨pw, cw, rfl⟩ := own_shape HO.out
      clear HO HO2 HE hlen
      go_wp2
      go_ret
      exact ⟨rfl, HB.out.trans (HB1.out.mono HB.out.size)⟩
end Go.Proofs.YtdjgkmpjhpnkeaaGreatDoor
namespace Go.Proofs.YtdjgkmpjhpnkeaaGreatDoor
open Go.RowKit
def dvx : Nat → Int → Int
  | 0, v => v
  | i + 1, v => dvx i (v / 16)
theorem dvx_succ : ∀ (i : Nat) (v : Int), dvx (i + 1) v = dvx i v / 16
  | 0, _ => rfl
  | i + 1, v => by rw [dvx, dvx_succ i, dvx]
theorem dvx_bd : ∀ (i : Nat) (v : Int), 0 ≤ v → 0 ≤ dvx i v ∧ dvx i v ≤ v
  | 0, v, h => ⟨h, Int.le_refl _⟩
  | i + 1, v, h => by have := dvx_bd i (v / 16) (by omega); simp only [dvx]; omega
theorem hexS_cons : ∀ (i : Nat) (v : Int), hexS (i + 1) v = hexD (dvx i v % 16) :: hexS i v
  | 0, _ => rfl
  | i + 1, v => by rw [hexS, hexS_cons i (v / 16)]; rfl
theorem hexS_len : ∀ (i : Nat) (v : Int), (hexS i v).length = i
  | 0, _ => rfl
  | i + 1, v => by simp only [hexS, List.length_append, hexS_len i, List.length_cons, List.length_nil]
theorem leR_hex : ∀ (n : Nat) (v : Int), 0 ≤ v → (leR n v).flatMap hexB = hexS (2 * n) v
  | 0, _, _ => rfl
  | n + 1, v, h => by
    have e1 : leR (n + 1) v = leR n (v / 256) ++ [UInt8.ofNat (v % 256).toNat] := by simp only [leR, leB, List.reverse_cons]
    rw [e1, List.flatMap_append, leR_hex n (v / 256) (by omega), show 2 * (n + 1) = 2 * n + 1 + 1 from rfl, hexS, hexS, List.flatMap_cons, List.flatMap_nil, hexB, u8_ofNat _ (by omega)]
    rw [show v / 16 / 16 = v / 256 by omega, show (((v % 256).toNat : Nat) : Int) / 16 = v / 16 % 16 by omega, show (((v % 256).toNat : Nat) : Int) % 16 = v % 16 by omega]
    simp
theorem bsOf_two (a b : BL) : bsOf a ++ bsOf b = bsOf (a ++ b) := by rw [bsOf_app]; rfl
end Go.Proofs.YtdjgkmpjhpnkeaaGreatDoor
namespace Go.Proofs.YtdjgkmpjhpnkeaaGreatDoor
open Go.RowKit
theorem findT_cases (t : List GTs) (a : Int) : findT t a = (0, 0, false) ∨ ∃ (i : Nat) (h : i < t.length), tabOk t = true ∧ findT t a = (i, a - t[i].addr, true) ∧ t[i].addr ≤ a ∧ a < t[i].addr + t[i].size := by
  unfold findT
  by_cases hok : tabOk t = true
  · rw [if_pos hok]
    cases he : t.findIdx? (fun (s : GTs) => decide (s.addr ≤ a) && decide (a < s.addr + s.size)) with
    | none => exact .inl rfl
    | some i =>
      obtain ⟨hi, h1, -⟩ := List.findIdx?_eq_some_iff_getElem.1 he
      simp only [Bool.and_eq_true, decide_eq_true_eq] at h1
      exact .inr ⟨i, hi, hok, by simp [List.getElem?_eq_getElem hi], h1.1, h1.2⟩
  · rw [if_neg hok]; exact .inl rfl
def NamePost (r : ByteArray) (w : World) (e : Ending) (w' : World) : Prop := e = .returned (.string r) ∧ Below w.heap.size w w'
theorem nameOf_none {t : List GTs} {a : Int} (h : findT t a = (0, 0, false)) : nameOf t a = bsOf [64] ++ bsOf (hexS 8 a) := by
  unfold nameOf; rw [h, bsOf_two]; rfl
theorem nameOf_some {t : List GTs} {a : Int} {i : Nat} (hi : i < t.length) (h : findT t a = (i, a - t[i].addr, true)) : nameOf t a = if a - t[i].addr = 0 then t[i].name else t[i].name ++ bsOf [43] ++ bsOf (hexS 4 (a - t[i].addr)) := by
  unfold nameOf; rw [h]
  simp only [List.getElem?_eq_getElem hi, Option.map_some, Option.getD_some]
  by_cases h0 : a - t[i].addr = 0
  · rw [if_pos h0, if_pos h0]
  · rw [if_neg h0, if_neg h0]
    apply ByteArray.ext; simp [bsOf]
set_option maxRecDepth 100000 in
set_option maxHeartbeats 1000000 in
theorem whNameOf_any (v : Value) (t : List GTs) (a : Int) (w : World) (h : TabAt w v t) (ha : 0 ≤ a ∧ a ≤ 4294967295) :
    Calls Tryz.prog 74 #[v, .int .u32 a] w (NamePost (nameOf t a) w) := by
  obtain ⟨p, cap, b, o, rfl, hcap, hmax, -⟩ := id h
  have H := Lib.hid h; clear h
  have ha0 := ha.1; have ha1 := ha.2
  have HF := Lib.hid (whFind_any _ t a w H.out ha)
  clear ha
  rcases findT_cases t a with hf | ⟨i, hlt, hok, hf, h1, h2⟩
  · have HR : Hid (nameOf t a = bsOf [64] ++ bsOf (hexS 8 a)) := nameOf_none hf
    rw [hf] at HF
    clear hf
    go_enter Tryz.func74, Tryz.ntmps74
    go_wp2_with (go_at_call 26; refine HF.out.mono ?_; rintro e w1 ⟨rfl, hB⟩)
    have HB := Lib.hid hB; clear hB HF
    have HP := Lib.hid (high4 a w1 ha0 (by omega))
    go_wp2_with (go_at_call 170; refine HP.out.mono ?_; rintro e w2 ⟨rfl, hB2⟩)
    have HB2 := Lib.hid (HB.out.trans (hB2.mono HB.out.size)); clear hB2 HP HB
    have HX := Lib.hid (hex_any (leR 4 a) w2 (by simp [leR, leB_length]) (by simp [leR, leB_length]))
    rw [leR_hex 4 a ha0] at HX
    go_wp2_with (go_at_call 171; refine HX.out.mono ?_; rintro e w3 ⟨rfl, hB3⟩)
    have HB3 := Lib.hid (HB2.out.trans (hB3.mono HB2.out.size)); clear hB3 HX HB2
    have hcat : ¬ 9223372036854775807 < 1 + (bsOf (hexS 8 a)).size := by rw [bsOf_size, hexS_len]; omega
    go_wp2
    go_ret
    rw [HR.out]
    exact ⟨rfl, HB3.out⟩
  · have HR := Lib.hid (nameOf_some hlt hf)
    have hat := tabGo_at (tabOk_go hok) i hlt
    have hnm : t[i].name.size ≤ 32 := by
      have h := hat.2.2.2.2.1
      simp only [isName, Bool.and_eq_true, decide_eq_true_eq] at h
      exact h.2
    have hs : t[i].size ≤ 8192 := hat.2.2.1
    rw [hf] at HF
    clear hf hat hok
    have HX0 : Hid (∀ w1, Below w.heap.size w w1 → ∃ b o, p = some ⟨b, o, none⟩ ∧ b < w1.heap.size ∧ w1.cell? ⟨b, o + i * 5, none⟩ = some (.string t[i].name)) := fun w1 hb => by
      obtain ⟨p', cap', b', o', e', -, -, q1, q2⟩ := TabAt.keep' hb H.out
      injection e' with e1 e2 e3
      subst e1
      obtain ⟨g0, g1, -⟩ := q2 i hlt
      exact ⟨b', o', q1 (by omega), g0, g1⟩
    generalize t[i].name = xn at HR hnm HX0
    generalize t[i].addr = xa at HR HF h1 h2
    generalize t[i].size = xs at h2 hs
    have ho0 : 0 ≤ a - xa := by omega
    have ho1 : a - xa < 65536 := by omega
    clear h1 h2 hs ha0 ha1
    generalize a - xa = off at HR HF ho0 ho1
    by_cases hz : off = 0
    · subst hz
      rw [if_pos rfl] at HR
      clear ho0 ho1
      go_enter Tryz.func74, Tryz.ntmps74
      go_wp2_with (go_at_call 26; refine HF.out.mono ?_; rintro e w1 ⟨rfl, hB⟩)
      have HB := Lib.hid hB; clear hB HF
      obtain ⟨b', o', rfl, g0, g1⟩ := HX0.out _ HB.out
      go_wp2
      have hh := Go.run_indexAt_slice (P := Tryz.prog) w1 50 ⟨b', o', none⟩ t.length cap .i64 i rfl
      rw [hh]
      go_simp
      go_wp2
      go_ret
      rw [HR.out]
      exact ⟨rfl, HB.out⟩
    · rw [if_neg hz] at HR
      have hz' : decide (off = 0) = false := decide_eq_false hz
      have hz2 : (off == 0) = false := by simpa using hz
      clear hz
      go_enter Tryz.func74, Tryz.ntmps74
      go_wp2_with (go_at_call 26; refine HF.out.mono ?_; rintro e w1 ⟨rfl, hB⟩)
      have HB := Lib.hid hB; clear hB HF
      have HP := Lib.hid (high2 off w1 ho0 ho1)
      go_wp2_with (go_at_call 170; refine HP.out.mono ?_; rintro e w2 ⟨rfl, hB2⟩)
      have HB2 := Lib.hid (HB.out.trans (hB2.mono HB.out.size)); clear hB2 HP HB
      obtain ⟨b', o', rfl, g0, g1⟩ := HX0.out _ HB2.out
      have HX : Hid (∀ x : BW w2, Calls Tryz.prog 171 #[.string (bsOf (leR 2 off))] x.u fun e w' => e = .returned (.string (bsOf (hexS 4 off))) ∧ ∃ y : BW w2, w' = y.u) := fun x => by
        have h := hex_any (leR 2 off) x.u (by simp [leR, leB_length]) (by simp [leR, leB_length])
        rw [leR_hex 2 off ho0] at h
        exact calls_below h
      have y1 := bw_cell g0 g1
      have hcat1 : ¬ 9223372036854775807 < xn.size + 1 := by omega
      have hcat : ¬ 9223372036854775807 < xn.size + 1 + (bsOf (hexS 4 off)).size := by rw [bsOf_size, hexS_len]; omega
      go_wp2_with fail
      refine wp_region_below (by kernel_rfl) (by kernel_rfl) ?_
      repeat (first | go_big_quiet_skip | quiet_step (((go_at_call 171; (with_reducible exact HX.out _)))))
      refine wpQuiet_nil ?_
      rintro w4 hx4; have hB4 := bw_of hx4; clear hx4
      clear HX y1
      go_wp2
      go_ret
      rw [HR.out]
      exact ⟨rfl, HB2.out.trans (hB4.mono HB2.out.size)⟩
end Go.Proofs.YtdjgkmpjhpnkeaaGreatDoor
namespace Go.Proofs.YtdjgkmpjhpnkeaaGreatDoor
open Go.RowKit
theorem info_mv : (Tryz.prog.info? 58).map (fun i => (i.zero, i.size, i.bytes)) = some (some (.agg #[.string ⟨#[]⟩, .string ⟨#[]⟩, .int .u32 0, .int .u32 0]), 4, 40) := by kernel_rfl
theorem new_four (w : World) (a b : ByteArray) (c d : Int) :
    ∀ j u, (mvCells ⟨a, b, c, d⟩)[j]? = some u → (w.alloc (.cells #[.string a, .string b, .int .u32 c, .int .u32 d] 58)).cell? ((⟨w.heap.size, 0, none⟩ : Addr).add j) = some u := by
  intro j u hu
  rw [add_at, Nat.zero_add]
  match j, hu with
  | 0, hu => cases hu; simp [go_sem]
  | 1, hu => cases hu; simp [go_sem]
  | 2, hu => cases hu; simp [go_sem]
  | 3, hu => cases hu; simp [go_sem]
theorem four_one (x : GMv) : ∀ u ∈ mvCells x, u.oneCell' = true := by
  intro u hu
  simp only [mvCells, List.mem_cons, List.not_mem_nil, or_false] at hu
  rcases hu with rfl | rfl | rfl | rfl <;> rfl
def mvF (b : List GTs) (s : GTs) : Bool := decide (ofT b s ≠ s.addr)
def mvG (a : List GTs) (s : GTs) : Bool := decide (ofT a s = 0)
def mv1 (b : List GTs) (s : GTs) : GMv := ⟨s.name, s.object, s.addr, ofT b s⟩
def mv2 (s : GTs) : GMv := ⟨s.name, s.object, 0, s.addr⟩
def movL (a b : List GTs) (i : Nat) : List GMv := ((a.take i).filter (mvF b)).map (mv1 b)
def movR (l : List GMv) (a b : List GTs) (i : Nat) : List GMv := l ++ ((b.take i).filter (mvG a)).map mv2
theorem movL_yes {a b : List GTs} {i : Nat} (h : i < a.length) (hf : mvF b a[i] = true) : movL a b (i + 1) = movL a b i ++ [mv1 b a[i]] := by
  simp only [movL]; rw [filter_yes h hf, List.map_append]; rfl
theorem movL_no {a b : List GTs} {i : Nat} (h : i < a.length) (hf : mvF b a[i] = false) : movL a b (i + 1) = movL a b i := by
  simp only [movL]; rw [filter_no h hf]
theorem movR_yes {l : List GMv} {a b : List GTs} {i : Nat} (h : i < b.length) (hf : mvG a b[i] = true) : movR l a b (i + 1) = movR l a b i ++ [mv2 b[i]] := by
  simp only [movR]; rw [filter_yes h hf, List.map_append, List.append_assoc]; rfl
theorem movR_no {l : List GMv} {a b : List GTs} {i : Nat} (h : i < b.length) (hf : mvG a b[i] = false) : movR l a b (i + 1) = movR l a b i := by
  simp only [movR]; rw [filter_no h hf]
theorem movL_len {a b : List GTs} {i : Nat} : (movL a b i).length ≤ i := by simp only [movL, List.length_map]; exact filter_len
theorem movR_len {l : List GMv} {a b : List GTs} {i : Nat} : (movR l a b i).length ≤ l.length + i := by simp only [movR, List.length_append, List.length_map]; have := filter_len (f := mvG a) (l := b) (i := i); omega
theorem moves_def {a b : List GTs} (h1 : tabOk a = true) (h2 : tabOk b = true) : movesOf a b = movR (movL a b a.length) a b b.length := by
  rw [movesOf, if_pos ⟨h1, h2⟩, movR, movL, List.take_length, List.take_length]; rfl
theorem moves_bad {a b : List GTs} (h : tabOk a = false ∨ tabOk b = false) : movesOf a b = [] := by
  rw [movesOf, if_neg]
  rintro ⟨h1, h2⟩
  rcases h with h | h
  · rw [h] at h1; cases h1
  · rw [h] at h2; cases h2
def MvPost (r : List GMv) (w : World) (e : Ending) (w' : World) : Prop := ∃ v, e = .returned v ∧ RowAt 4 MvR w' v r ∧ Below w.heap.size w w'
theorem tab_len {t : List GTs} (h : tabOk t = true) : t.length ≤ 1024 := by simp only [tabOk, Bool.and_eq_true, decide_eq_true_eq] at h; exact h.2
set_option maxRecDepth 100000 in
set_option maxHeartbeats 4000000 in
theorem whMoves_any (va vb : Value) (a b : List GTs) (w : World) (h : TabAt w va a) (h' : TabAt w vb b) :
    Calls Tryz.prog 23 #[va, vb] w (MvPost (movesOf a b) w) := by
  obtain ⟨pa, ca, _, _, rfl, -, hmaxa, -⟩ := id h
  obtain ⟨pb, cb, _, _, rfl, -, hmaxb, -⟩ := id h'
  have HA := Lib.hid h; have HBT := Lib.hid h'; clear h h'
  have HCA := Lib.hid (whCheck_any _ a w HA.out)
  have HCB := Lib.hid (fun (w' : World) (hb : Below w.heap.size w w') => whCheck_any _ b w' (TabAt.keep' hb HBT.out))
  by_cases hoa : tabOk a = true
  case neg =>
    have hoa' : tabOk a = false := by simpa using hoa
    rw [hoa'] at HCA
    simp only [errB, Bool.false_eq_true, if_false] at HCA
    have HR : Hid (movesOf a b = []) := moves_bad (.inl hoa')
    clear hoa hoa'
    go_enter Tryz.func23, Tryz.ntmps23
    go_wp2_with fail
    refine HCA.out.mono ?_
    rintro e w1 ⟨rfl, hB⟩
    clear HCA
    go_wp2
    go_ret
    rw [HR.out]
    exact ⟨_, rfl, rowAt_nil, hB⟩
  rw [hoa] at HCA
  simp only [errB, if_true] at HCA
  by_cases hob : tabOk b = true
  case neg =>
    have hob' : tabOk b = false := by simpa using hob
    rw [hob'] at HCB
    simp only [errB, Bool.false_eq_true, if_false] at HCB
    have HR : Hid (movesOf a b = []) := moves_bad (.inr hob')
    clear hoa hob hob'
    go_enter Tryz.func23, Tryz.ntmps23
    go_wp2_with fail
    refine HCA.out.mono ?_
    rintro e w1 ⟨rfl, hB⟩
    have HB := Lib.hid hB; clear hB HCA
    go_wp2_with fail
    refine (HCB.out _ HB.out).mono ?_
    rintro e w2 ⟨rfl, hB⟩
    clear HCB
    go_wp2
    go_ret
    rw [HR.out]
    exact ⟨_, rfl, rowAt_nil, HB.out.trans (hB.mono HB.out.size)⟩
  rw [hob] at HCB
  simp only [errB, if_true] at HCB
  have hla := tab_len hoa
  have hlb := tab_len hob
  have HR := Lib.hid (moves_def hoa hob)
  clear hoa hob
  obtain ⟨iS, s0, s1, s2, s3⟩ := info_parts info_mv
  have HI := Lib.hid (And.intro s0 (And.intro s1 (And.intro s2 s3)))
  clear s0 s1 s2 s3
  go_enter Tryz.func23, Tryz.ntmps23
  go_wp2_with fail
  refine HCA.out.mono ?_
  rintro e w1 ⟨rfl, hB⟩
  have HB0 := Lib.hid hB; clear hB HCA
  go_wp2_with fail
  refine (HCB.out _ HB0.out).mono ?_
  rintro e w2 ⟨rfl, hB⟩
  replace HB0 := Lib.hid (HB0.out.trans (hB.mono HB0.out.size))
  clear hB HCB
  go_wp2
  go_loopw [4, 20] (fun v4 v20 wr => ∃ i : Nat, i ≤ a.length ∧ v20 = .int .i64 i ∧ wr.ownsRow w.heap.size 58 4 v4 (movL a b i).length ((movL a b i).flatMap mvCells) ∧ Below w.heap.size w wr) (fun _ v20 _ => a.length - (intOf v20).toNat)
  case atStart => exact ⟨0, Nat.zero_le _, rfl, World.ownsRow_nil _ _ _ _, HB0.out⟩
  case round =>
    clear HB0
    obtain ⟨i, hi, rfl, hown, hbel⟩ := hrel
    have HO := Lib.hid hown; have HB := Lib.hid hbel
    clear hown hbel
    by_cases hlt : i < a.length
    · obtain ⟨p', cap', b', o', e', -, -, q1, q2⟩ := TabAt.keep' HB.out HA.out
      injection e' with e1 e2 e3
      subst e1; subst e3; clear e2
      obtain rfl := q1 (by omega)
      obtain ⟨g0, g1, g2, g3, g4, g5, -⟩ := q2 i hlt
      clear q1 q2
      have HFY : Hid (mvF b a[i] = true → movL a b (i + 1) = movL a b i ++ [mv1 b a[i]]) := movL_yes hlt
      have HFN : Hid (mvF b a[i] = false → movL a b (i + 1) = movL a b i) := movL_no hlt
      have hfl := movL_len (a := a) (b := b) (i := i)
      skip
      generalize movL a b i = ms at HO HFY HFN hfl
      generalize a[i] = x at g1 g2 g3 g4 g5 HFY HFN
      have HOF := Lib.hid (fun (w' : World) (hb : Below w.heap.size w w') => whOf_any _ b x w' (TabAt.keep' hb HBT.out))
      simp only [mvF, mv1] at HFY HFN
      unfold IntPost at HOF
      generalize ofT b x = c at HOF HFY HFN
      obtain ⟨xn, xo, xa, xs, xk⟩ := x
      simp only [] at g1 g2 g3 g4 g5 HOF HFY HFN
      go_upto_region 6 with fail
      have HX : Hid (TsBox (wr.alloc (.cells #[.string xn, .string xo, .int .u32 xa, .int .u32 xs, .int .u8 xk] 56)) wr.heap.size ⟨xn, xo, xa, xs, xk⟩) := TsBox.new wr ⟨xn, xo, xa, xs, xk⟩
      replace HO := Lib.hid (HO.out.alloc (.cells #[.string xn, .string xo, .int .u32 xa, .int .u32 xs, .int .u8 xk] 56))
      replace HB := Lib.hid (HB.out.alloc HB.out.size (.cells #[.string xn, .string xo, .int .u32 xa, .int .u32 xs, .int .u8 xk] 56))
      generalize wr.alloc (.cells #[.string xn, .string xo, .int .u32 xa, .int .u32 xs, .int .u8 xk] 56) = w2 at HX HO HB ⊢
      generalize wr.heap.size = xb at HX ⊢
      have x0 : w2.cell? ⟨xb, 0, none⟩ = some (.string xn) := Lib.cell_of_heap HX.out 0
      have x1 : w2.cell? ⟨xb, 1, none⟩ = some (.string xo) := Lib.cell_of_heap HX.out 1
      have x2 : w2.cell? ⟨xb, 2, none⟩ = some (.int .u32 xa) := Lib.cell_of_heap HX.out 2
      have x3 : w2.cell? ⟨xb, 3, none⟩ = some (.int .u32 xs) := Lib.cell_of_heap HX.out 3
      have x4 : w2.cell? ⟨xb, 4, none⟩ = some (.int .u8 xk) := Lib.cell_of_heap HX.out 4
      clear g0 g1 g2 g3 g4 g5
      go_wp2_with fail
      refine (HOF.out _ HB.out).mono ?_
      rintro e w3 ⟨rfl, hb⟩
      replace HX := Lib.hid (HX.out.keep hb)
      replace HO := Lib.hid (ownsRow_below hb HO.out)
      replace HB := Lib.hid (HB.out.trans (hb.mono HB.out.size))
      clear hb x0 x1 x2 x3 x4 HOF
      have x0 : w3.cell? ⟨xb, 0, none⟩ = some (.string xn) := Lib.cell_of_heap HX.out 0
      have x1 : w3.cell? ⟨xb, 1, none⟩ = some (.string xo) := Lib.cell_of_heap HX.out 1
      have x2 : w3.cell? ⟨xb, 2, none⟩ = some (.int .u32 xa) := Lib.cell_of_heap HX.out 2
      by_cases hc : c = xa
      · have HE := Lib.hid (HFN.out (by simpa using hc))
        have HO9 : Hid (w3.ownsRow w.heap.size 58 4 u4 (movL a b (i + 1)).length ((movL a b (i + 1)).flatMap mvCells)) := by rw [Hid, HE.out]; exact HO.out
        have t1 : (c != xa) = false := by simpa using hc
        clear hc HFY HFN
        go_wp2
        go_roundw
        case rel => exact ⟨i + 1, by omega, by go_num, HO9.out, HB.out⟩
        case measure => simp [intOf]; omega
      · have HE := Lib.hid (HFY.out (by simpa using hc))
        have t1 : (c != xa) = true := by simpa using hc
        clear hc HFY HFN
        have hz := HB.out.size
        obtain ⟨pv, cv, hv⟩ := own_shape HO.out
        subst hv
        go_wp2_with (at_builtin; refine wpList_append_own_at _ rfl _ _ 53 rfl w.heap.size 58 iS _ 4 40 Tryz.underlying53 HI.out.1 HI.out.2.1 HI.out.2.2.1 HI.out.2.2.2 rfl (by decide) _ ms.length (ms.flatMap mvCells) rfl (HO.out.alloc _) ⟨w3.heap.size, 0, none⟩ 1 1 (mvCells ⟨xn, xo, xa, c⟩) rfl rfl (new_four w3 _ _ _ _) (four_one _) (by unfold maxLen; omega) (by omega) (by simp; omega) ?_)
        intro v' w9 hown hgrow _ hv
        obtain ⟨pw, cw, rfl⟩ := own_shape hown
        have HB9 : Hid (Below w.heap.size w w9) := (HB.out.alloc hz _).grown hgrow (by simp; omega) (fun q e => (World.ownsRow.lt HO.out q e).1)
        have HO9 : Hid (w9.ownsRow w.heap.size 58 4 (.slice pw (ms.length + 1) cw) (movL a b (i + 1)).length ((movL a b (i + 1)).flatMap mvCells)) := by
          have e1 : (ms ++ [(⟨xn, xo, xa, c⟩ : GMv)]).flatMap mvCells = ms.flatMap mvCells ++ mvCells ⟨xn, xo, xa, c⟩ := by simp
          rw [Hid, HE.out, List.length_append, e1]; exact hown
        clear hown hgrow hv x0 x1 x2 HX HO
        go_wp2
        go_roundw
        case rel => exact ⟨i + 1, by omega, by go_num, HO9.out, HB9.out⟩
        case measure => simp [intOf]; omega
    · have HE : Hid (i = a.length) := by rw [Hid]; omega
      have HO2 : Hid (wr.ownsRow w.heap.size 58 4 u4 (movR (movL a b a.length) a b 0).length ((movR (movL a b a.length) a b 0).flatMap mvCells)) := by
        have e1 : movR (movL a b a.length) a b 0 = movL a b i := by rw [HE.out]; simp [movR]
        rw [Hid, e1]; exact HO.out
      obtain ⟨pv0, cv0, hv0⟩ := own_shape HO2.out
      clear HO HE
      subst hv0
      go_wp2
      clear hi hlt
      go_loopw [4, 45] (fun v4 v45 wr => ∃ i : Nat, i ≤ b.length ∧ v45 = .int .i64 i ∧ wr.ownsRow w.heap.size 58 4 v4 (movR (movL a b a.length) a b i).length ((movR (movL a b a.length) a b i).flatMap mvCells) ∧ Below w.heap.size w wr) (fun _ v45 _ => b.length - (intOf v45).toNat)
      case atStart => exact ⟨0, Nat.zero_le _, rfl, HO2.out, HB.out⟩
      case round =>
        clear HB HO2
        obtain ⟨i, hi, rfl, hown, hbel⟩ := hrel
        have HO := Lib.hid hown; have HB := Lib.hid hbel
        clear hown hbel
        by_cases hlt : i < b.length
        · obtain ⟨p', cap', b', o', e', -, -, q1, q2⟩ := TabAt.keep' HB.out HBT.out
          injection e' with e1 e2 e3
          subst e1; subst e3; clear e2
          obtain rfl := q1 (by omega)
          obtain ⟨g0, g1, g2, g3, g4, g5, -⟩ := q2 i hlt
          clear q1 q2
          have HFY : Hid (mvG a b[i] = true → movR (movL a b a.length) a b (i + 1) = movR (movL a b a.length) a b i ++ [mv2 b[i]]) := movR_yes hlt
          have HFN : Hid (mvG a b[i] = false → movR (movL a b a.length) a b (i + 1) = movR (movL a b a.length) a b i) := movR_no hlt
          have hfl := movR_len (l := movL a b a.length) (a := a) (b := b) (i := i)
          have hl0 := movL_len (a := a) (b := b) (i := a.length)
          generalize movR (movL a b a.length) a b i = ms at HO HFY HFN hfl
          generalize b[i] = x at g1 g2 g3 g4 g5 HFY HFN
          have HOF := Lib.hid (fun (w' : World) (hb : Below w.heap.size w w') => whOf_any _ a x w' (TabAt.keep' hb HA.out))
          simp only [mvG, mv2] at HFY HFN
          unfold IntPost at HOF
          generalize ofT a x = c at HOF HFY HFN
          obtain ⟨xn, xo, xa, xs, xk⟩ := x
          simp only [] at g1 g2 g3 g4 g5 HOF HFY HFN
          go_upto_region 13 with fail
          have HX : Hid (TsBox (wr.alloc (.cells #[.string xn, .string xo, .int .u32 xa, .int .u32 xs, .int .u8 xk] 56)) wr.heap.size ⟨xn, xo, xa, xs, xk⟩) := TsBox.new wr ⟨xn, xo, xa, xs, xk⟩
          replace HO := Lib.hid (HO.out.alloc (.cells #[.string xn, .string xo, .int .u32 xa, .int .u32 xs, .int .u8 xk] 56))
          replace HB := Lib.hid (HB.out.alloc HB.out.size (.cells #[.string xn, .string xo, .int .u32 xa, .int .u32 xs, .int .u8 xk] 56))
          generalize wr.alloc (.cells #[.string xn, .string xo, .int .u32 xa, .int .u32 xs, .int .u8 xk] 56) = w2 at HX HO HB ⊢
          generalize wr.heap.size = xb at HX ⊢
          have x0 : w2.cell? ⟨xb, 0, none⟩ = some (.string xn) := Lib.cell_of_heap HX.out 0
          have x1 : w2.cell? ⟨xb, 1, none⟩ = some (.string xo) := Lib.cell_of_heap HX.out 1
          have x2 : w2.cell? ⟨xb, 2, none⟩ = some (.int .u32 xa) := Lib.cell_of_heap HX.out 2
          have x3 : w2.cell? ⟨xb, 3, none⟩ = some (.int .u32 xs) := Lib.cell_of_heap HX.out 3
          have x4 : w2.cell? ⟨xb, 4, none⟩ = some (.int .u8 xk) := Lib.cell_of_heap HX.out 4
          clear g0 g1 g2 g3 g4 g5
          go_wp2_with fail
          refine (HOF.out _ HB.out).mono ?_
          rintro e w3 ⟨rfl, hb⟩
          replace HX := Lib.hid (HX.out.keep hb)
          replace HO := Lib.hid (ownsRow_below hb HO.out)
          replace HB := Lib.hid (HB.out.trans (hb.mono HB.out.size))
          clear hb x0 x1 x2 x3 x4 HOF
          have x0 : w3.cell? ⟨xb, 0, none⟩ = some (.string xn) := Lib.cell_of_heap HX.out 0
          have x1 : w3.cell? ⟨xb, 1, none⟩ = some (.string xo) := Lib.cell_of_heap HX.out 1
          have x2 : w3.cell? ⟨xb, 2, none⟩ = some (.int .u32 xa) := Lib.cell_of_heap HX.out 2
          by_cases hc : c = 0
          · have HE := Lib.hid (HFY.out (by simpa using hc))
            have t1 : (c == 0) = true := by simpa using hc
            clear hc HFY HFN
            have hz := HB.out.size
            obtain ⟨pv, cv, hv⟩ := own_shape HO.out
            subst hv
            go_wp2_with (at_builtin; refine wpList_append_own_at _ rfl _ _ 53 rfl w.heap.size 58 iS _ 4 40 Tryz.underlying53 HI.out.1 HI.out.2.1 HI.out.2.2.1 HI.out.2.2.2 rfl (by decide) _ ms.length (ms.flatMap mvCells) rfl (HO.out.alloc _) ⟨w3.heap.size, 0, none⟩ 1 1 (mvCells ⟨xn, xo, 0, xa⟩) rfl rfl (new_four w3 _ _ _ _) (four_one _) (by unfold maxLen; omega) (by omega) (by simp; omega) ?_)
            intro v' w9 hown hgrow _ hv
            obtain ⟨pw, cw, rfl⟩ := own_shape hown
            have HB9 : Hid (Below w.heap.size w w9) := (HB.out.alloc hz _).grown hgrow (by simp; omega) (fun q e => (World.ownsRow.lt HO.out q e).1)
            have HO9 : Hid (w9.ownsRow w.heap.size 58 4 (.slice pw (ms.length + 1) cw) (movR (movL a b a.length) a b (i + 1)).length ((movR (movL a b a.length) a b (i + 1)).flatMap mvCells)) := by
              have e1 : (ms ++ [(⟨xn, xo, 0, xa⟩ : GMv)]).flatMap mvCells = ms.flatMap mvCells ++ mvCells ⟨xn, xo, 0, xa⟩ := by simp
              rw [Hid, HE.out, List.length_append, e1]; exact hown
            clear hown hgrow hv x0 x1 x2 HX HO
            go_wp2
            go_roundw
            case rel => exact ⟨i + 1, by omega, by go_num, HO9.out, HB9.out⟩
            case measure => simp [intOf]; omega
          · have HE := Lib.hid (HFN.out (by simpa using hc))
            have HO9 : Hid (w3.ownsRow w.heap.size 58 4 u4 (movR (movL a b a.length) a b (i + 1)).length ((movR (movL a b a.length) a b (i + 1)).flatMap mvCells)) := by rw [Hid, HE.out]; exact HO.out
            have t1 : (c == 0) = false := by simpa using hc
            clear hc HFY HFN
            go_wp2
            go_roundw
            case rel => exact ⟨i + 1, by omega, by go_num, HO9.out, HB.out⟩
            case measure => simp [intOf]; omega
        · have HE : Hid (i = b.length) := by rw [Hid]; omega
          have ho := HO.out
          rw [HE.out] at ho
          obtain ⟨pv, cv, hv⟩ := own_shape ho
          subst hv
          have hl1 := movL_len (a := a) (b := b) (i := a.length)
          have hl2 := movR_len (l := movL a b a.length) (a := a) (b := b) (i := b.length)
          have HTA : Hid (RowAt 4 MvR wr (.slice pv (movR (movL a b a.length) a b b.length).length cv) (movR (movL a b a.length) a b b.length)) := mv_back (by omega) ho
          clear ho HO hl1 hl2
          rw [← HR.out] at HTA ⊢
          go_wp2
          go_ret
          exact ⟨_, rfl, HTA.out, HB.out⟩
end Go.Proofs.YtdjgkmpjhpnkeaaGreatDoor
namespace Go.Proofs.YtdjgkmpjhpnkeaaGreatDoor
open Go.RowKit
theorem ts34_bd : TsBd ts34 := ⟨by decide, by decide, by decide, by decide, by decide⟩
theorem tsBad_bd : TsBd ⟨⟨#[]⟩, ⟨#[]⟩, 0, 0, 0⟩ := ⟨by decide, by decide, by decide, by decide, by decide⟩
theorem tabPost_one (w : World) : TabPost tab34 w (.returned (.slice (some ⟨w.heap.size, 0, none⟩) 1 1)) (w.alloc (.cells #[.string ⟨#[109, 97, 105, 110]⟩, .string ⟨#[111]⟩, .int .u32 256, .int .u32 24, .int .u8 1] 56)) := by
  refine ⟨_, rfl, ?_, alloc_old w _⟩
  refine ⟨_, 1, w.heap.size, 0, rfl, Nat.le_refl _, by show 1 ≤ _; omega, fun _ => rfl, fun i hi => ?_⟩
  obtain rfl : i = 0 := by simp [tab34] at hi; omega
  exact ⟨by simp, by simp [go_sem, tab34, ts34], by simp [go_sem, tab34, ts34], by simp [go_sem, tab34, ts34], by simp [go_sem, tab34, ts34], by simp [go_sem, tab34, ts34], ts34_bd⟩
theorem one34_any (w : World) : Calls Tryz.prog 73 #[] w (TabPost tab34 w) := by
  have HP := Lib.hid (tabPost_one w)
  go_enter Tryz.func73, Tryz.ntmps73
  go_wp2
  go_ret
  exact HP.out
theorem tabs_same {v u : Value} {t : List GTs} {w : World} (h1 : TabAt w v t) (h2 : TabAt w u t) : Calls Tryz.prog 30 #[v, u] w (IsB true w) :=
  (tabSame_two v u t t w h1 h2).mono fun _ _ ⟨b, he, hb, hB⟩ => ⟨by rw [he, hb.2 rfl], hB⟩
theorem rowAt_bad (w : World) : TabAt (w.alloc (.cells #[.string ⟨#[]⟩, .string ⟨#[]⟩, .int .u32 0, .int .u32 0, .int .u8 0] 56)) (.slice (some ⟨w.heap.size, 0, none⟩) 1 1) [⟨⟨#[]⟩, ⟨#[]⟩, 0, 0, 0⟩] := by
  refine ⟨_, 1, w.heap.size, 0, rfl, Nat.le_refl _, by show 1 ≤ _; omega, fun _ => rfl, fun i hi => ?_⟩
  obtain rfl : i = 0 := by simp at hi; omega
  exact ⟨by simp, by simp [go_sem], by simp [go_sem], by simp [go_sem], by simp [go_sem], by simp [go_sem], tsBad_bd⟩
set_option maxRecDepth 100000 in
set_option maxHeartbeats 4000000 in
theorem alive34_any (w : World) : Calls Tryz.prog 21 #[] w fun e w' => e = .returned (.bool true) ∧ Below w.heap.size w w' := by
  go_enter Tryz.func21, Tryz.ntmps21
  go_wp2_with fail
  refine (one34_any _).mono ?_
  rintro e w1 ⟨v1, rfl, ht, hB⟩
  have HW := Lib.hid hB; clear hB
  have HP := Lib.hid (whPut_any v1 tab34 w1 ht)
  rw [put34] at HP; clear ht
  go_wp2_with fail
  refine HP.out.mono ?_
  rintro e w2 ⟨rfl, hB⟩
  replace HW := Lib.hid (HW.out.trans (hB.mono HW.out.size)); clear hB HP
  have HG := Lib.hid (whGet_any bytes34 w2 (by decide))
  rw [get34] at HG
  go_wp2_with fail
  refine HG.out.mono ?_
  rintro e w3 ⟨v3, rfl, ht, hB⟩
  have HT := Lib.hid ht
  replace HW := Lib.hid (HW.out.trans (hB.mono HW.out.size)); clear hB HG ht
  have HG := Lib.hid (whGet_any (bytes34 ++ ⟨#[120]⟩) w3 (by decide))
  rw [getx34] at HG
  have hsz : ¬ 9223372036854775807 < bytes34.size + 1 := by decide
  go_wp2_with fail
  refine HG.out.mono ?_
  rintro e w4 ⟨v4, rfl, -, hB⟩
  replace HT := Lib.hid (TabAt.keep' hB HT.out)
  replace HW := Lib.hid (HW.out.trans (hB.mono HW.out.size)); clear hB HG hsz
  go_wp2_with fail
  refine (one34_any _).mono ?_
  rintro e w5 ⟨v5, rfl, ht, hB⟩
  replace HT := Lib.hid (TabAt.keep' hB HT.out)
  replace HW := Lib.hid (HW.out.trans (hB.mono HW.out.size)); clear hB
  have HF := Lib.hid (whFind_any v5 tab34 264 w5 ht (by decide))
  rw [find34] at HF; clear ht
  go_wp2_with fail
  refine HF.out.mono ?_
  rintro e w6 ⟨rfl, hB⟩
  replace HT := Lib.hid (TabAt.keep' hB HT.out)
  replace HW := Lib.hid (HW.out.trans (hB.mono HW.out.size)); clear hB HF
  go_wp2_with fail
  refine (one34_any _).mono ?_
  rintro e w7 ⟨v7, rfl, ht, hB⟩
  replace HT := Lib.hid (TabAt.keep' hB HT.out)
  replace HW := Lib.hid (HW.out.trans (hB.mono HW.out.size)); clear hB
  have HS := Lib.hid (tabs_same HT.out ht); clear ht HT
  go_wp2_with fail
  refine HS.out.mono ?_
  rintro e w8 ⟨rfl, hB⟩
  replace HW := Lib.hid (HW.out.trans (hB.mono HW.out.size)); clear hB HS
  go_wp2_with fail
  refine (one34_any _).mono ?_
  rintro e w9 ⟨v9, rfl, ht, hB⟩
  replace HW := Lib.hid (HW.out.trans (hB.mono HW.out.size)); clear hB
  have HN := Lib.hid (whNameOf_any v9 tab34 256 w9 ht (by decide))
  rw [name34a] at HN; clear ht
  go_wp2_with fail
  refine HN.out.mono ?_
  rintro e w10 ⟨rfl, hB⟩
  replace HW := Lib.hid (HW.out.trans (hB.mono HW.out.size)); clear hB HN
  go_wp2_with fail
  refine (one34_any _).mono ?_
  rintro e w11 ⟨v11, rfl, ht, hB⟩
  replace HW := Lib.hid (HW.out.trans (hB.mono HW.out.size)); clear hB
  have HN := Lib.hid (whNameOf_any v11 tab34 264 w11 ht (by decide))
  rw [name34b] at HN; clear ht
  go_wp2_with fail
  refine HN.out.mono ?_
  rintro e w12 ⟨rfl, hB⟩
  replace HW := Lib.hid (HW.out.trans (hB.mono HW.out.size)); clear hB HN
  go_wp2_with fail
  refine (one34_any _).mono ?_
  rintro e w13 ⟨v13, rfl, ht, hB⟩
  replace HW := Lib.hid (HW.out.trans (hB.mono HW.out.size)); clear hB
  have HN := Lib.hid (whNameOf_any v13 tab34 280 w13 ht (by decide))
  rw [name34c] at HN; clear ht
  go_wp2_with fail
  refine HN.out.mono ?_
  rintro e w14 ⟨rfl, hB⟩
  replace HW := Lib.hid (HW.out.trans (hB.mono HW.out.size)); clear hB HN
  go_wp2_with fail
  refine (one34_any _).mono ?_
  rintro e w15 ⟨v15, rfl, ht, hB⟩
  replace HW := Lib.hid (HW.out.trans (hB.mono HW.out.size)); clear hB
  have HN := Lib.hid (whNamed_any v15 tab34 ⟨#[109, 97, 105, 110]⟩ w15 ht)
  rw [named34] at HN; clear ht
  go_wp2_with fail
  refine HN.out.mono ?_
  rintro e w16 ⟨_, rfl, ⟨p16, c16, -, -, rfl, -⟩, hB⟩
  replace HW := Lib.hid (HW.out.trans (hB.mono HW.out.size)); clear hB HN
  simp only [tab34, List.length_cons, List.length_nil, Nat.zero_add]
  go_wp2_with fail
  refine (one34_any _).mono ?_
  rintro e w17 ⟨v17, rfl, ht, hB⟩
  replace HW := Lib.hid (HW.out.trans (hB.mono HW.out.size)); clear hB
  have HN := Lib.hid (whMoves_any v17 (.slice none 0 0) tab34 [] w17 ht rowAt_nil)
  rw [moves34] at HN; clear ht
  go_wp2_with fail
  refine HN.out.mono ?_
  rintro e w18 ⟨_, rfl, ⟨p18, c18, -, -, rfl, -⟩, hB⟩
  replace HW := Lib.hid (HW.out.trans (hB.mono HW.out.size)); clear hB HN
  simp only [List.length_cons, List.length_nil, Nat.zero_add]
  have HN := Lib.hid (whCheck_any _ _ _ (rowAt_bad w18))
  rw [bad34] at HN
  go_wp2_with fail
  refine HN.out.mono ?_
  rintro e w19 ⟨rfl, hB⟩
  replace HW := Lib.hid ((HW.out.alloc HW.out.size _).trans (hB.mono (by have := HW.out.size; simp; omega))); clear hB HN
  simp only [errB, Bool.false_eq_true, if_false]
  go_wp2
  go_ret
  exact ⟨rfl, HW.out⟩
end Go.Proofs.YtdjgkmpjhpnkeaaGreatDoor
