/- The walk of ref33.Lines. What law33's rows lay of the library's variables, as facts of a world. -/
import Derived.Test.YtoonkfhphbojcaaGreatDoorBv39
import Derived.Test.YtoonkfhphbojcaaGreatDoorRows
import Derived.Test.YtoonkfhphbojcaaGreatDoorBv11
import Derived.Stop.LaidErr
import Derived.Lib.LaidTab
import Derived.Shelf.Vars
namespace Go.Proofs.YtoonkfhphbojcaaGreatDoor
open Go.RowKit Go.Maps
set_option maxHeartbeats 8000000 in
set_option maxRecDepth 100000 in
theorem rLines33 (l : List GLine) (vl : Value) (w : World) (hl : RowAt 8 LineR w vl l) (hn : l.length ≤ 100000) :
    Calls Tryz.prog 16 #[vl] w fun e w' => e = linesE l ∧ Below w.heap.size w w' := by
  obtain ⟨p, cap, b, o, rfl, hcap, hmax, hp, hc⟩ := hl
  have HP := Lib.hid hp
  have HC := Lib.hid hc
  clear hp hc
  have HED : Hid (linesE l = if l.all lineOk then .returned (.tuple #[.string (bsOf (textL l)), .int .i64 0]) else .returned (.tuple #[.string ⟨#[]⟩, .int .i64 2])) := Lib.hid rfl
  generalize linesE l = EE at HED ⊢
  go_enter Tryz.func16, Tryz.ntmps16
  go_upto_region 3 with fail
  go_loopw [4, 5] (fun v4 v5 wr => ∃ k : Nat, k ≤ l.length ∧ v5 = .int .i64 k ∧ v4 = .string (bsOf (textL (l.take k))) ∧ (l.take k).all lineOk = true ∧ (textL (l.take k)).length ≤ 200 * k ∧ Below w.heap.size w wr) (fun _ v5 _ => l.length - (intOf v5).toNat)
  case atStart => exact ⟨0, Nat.zero_le _, rfl, rfl, rfl, by simp [textL], Below.refl _ _⟩
  case round =>
    obtain ⟨k, hk, rfl, rfl, hall, hlen, hbel⟩ := hrel
    have HALL := Lib.hid hall; clear hall
    have HB := Lib.hid hbel; clear hbel
    by_cases hlt : k < l.length
    · obtain rfl := HP.out (by omega)
      obtain ⟨hb0, y0, y1, y2, y3, y4, y5, y6, y7, hlb⟩ := lineR_keeps _ _ _ _ _ HB.out (HC.out k hlt)
      have HNO : Hid (lineOk l[k] = false → EE = .returned (.tuple #[.string ⟨#[]⟩, .int .i64 2])) := Lib.hid fun h => by
        rw [HED.out, if_neg (by
          intro ha
          rw [List.all_eq_true] at ha
          have := ha l[k] (List.getElem_mem hlt)
          rw [h] at this; cases this)]
      have HTK : Hid (l.take (k + 1) = l.take k ++ [l[k]]) := Lib.hid (by rw [List.take_succ_eq_append_getElem hlt])
      generalize l[k] = x at *
      have HMC := Lib.hid (fun W => rmay33 x W hlb.x (by have := hlb.label; omega) (by have := hlb.dest; omega) (by have := hlb.name; omega))
      have HLN := Lib.hid (fun W (hok : lineOk x = true) => rline33 x W hlb hok)
      have HSZ := Lib.hid (fun hok : lineOk x = true => lineOk_len hlb hok)
      clear hlb
      generalize hLX : lineL x = LX at *
      have HTX : Hid (textL (l.take (k + 1)) = textL (l.take k) ++ (LX ++ [10])) := Lib.hid (by rw [HTK.out]; unfold textL; rw [List.flatMap_append]; simp [hLX])
      have HAX : Hid (lineOk x = true → (l.take (k + 1)).all lineOk = true) := Lib.hid fun h => by rw [HTK.out, List.all_append, HALL.out]; simp [h]
      clear hLX
      generalize textL (l.take k) = TK at *
      generalize lineOk x = okx at *
      unfold lineV lineA at HMC HLN
      obtain ⟨lab, ⟨op, xd, xa, xb, xi⟩, dd, nn⟩ := x
      simp only [] at y0 y1 y2 y3 y4 y5 y6 y7 HMC HLN
      generalize bsOf lab = SL at *
      generalize bsOf dd = SD at *
      generalize bsOf nn = SN at *
      go_wp2_with fail
      refine (HMC.out _).mono ?_
      rintro e w2 ⟨rfl, hB⟩
      have HB2 := Lib.hid (HB.out.trans (hB.mono HB.out.size))
      replace y0 := cell_keep hB hb0 y0
      replace y1 := cell_keep hB hb0 y1
      replace y2 := cell_keep hB hb0 y2
      replace y3 := cell_keep hB hb0 y3
      replace y4 := cell_keep hB hb0 y4
      replace y5 := cell_keep hB hb0 y5
      replace y6 := cell_keep hB hb0 y6
      replace y7 := cell_keep hB hb0 y7
      clear hB HB hb0 HMC
      cases okx with
      | false =>
        have HR := Lib.hid (HNO.out rfl)
        clear HNO
        go_wp2
        go_ret2
        exact ⟨by rw [HR.out]; rfl, HB2.out⟩
      | true =>
        have HSZ2 := Lib.hid (HSZ.out rfl)
        have k1 : bsOf TK ++ bsOf LX = bsOf (TK ++ LX) := bsOf_cat _ _
        have k2 : bsOf (TK ++ LX) ++ ByteArray.mk #[10] = bsOf (TK ++ (LX ++ [10])) := by rw [show ByteArray.mk #[10] = bsOf [10] from rfl, bsOf_cat]; simp
        have hlx : LX.length ≤ 200 := by have := HSZ2.out.2; simp at this; omega
        have q1 : ¬ 9223372036854775807 < (bsOf TK).size + (bsOf LX).size := by rw [bsOf_size, bsOf_size]; omega
        have q2 : ¬ 9223372036854775807 < (bsOf (TK ++ LX)).size + 1 := by rw [bsOf_size]; simp; omega
        have q3 : ¬ 9223372036854775807 < (bsOf (TK ++ LX)).size + (ByteArray.mk #[10]).size := by rw [bsOf_size]; simp [ByteArray.size]; omega
        have hlen5 : (textL (l.take (k + 1))).length ≤ 200 * (k + 1) := by rw [HTX.out, List.length_append]; have := HSZ2.out.2; omega
        have HS5 : Hid (bsOf (textL (l.take (k + 1))) = bsOf (TK ++ (LX ++ [10]))) := Lib.hid (by rw [HTX.out])
        clear HSZ HSZ2 HNO HTX hlx
        generalize bsOf (TK ++ (LX ++ [10])) = S3 at *
        generalize bsOf (TK ++ LX) = S2 at *
        generalize bsOf TK = S1 at *
        generalize bsOf LX = S0 at *
        go_wp2_with fail
        refine (HLN.out _ (by trivial)).mono ?_
        rintro e w3 ⟨rfl, hB⟩
        have HB3 := Lib.hid (HB2.out.trans (hB.mono HB2.out.size))
        clear hB y0 y1 y2 y3 y4 y5 y6 y7
        go_wp2
        go_roundw
        case rel => exact ⟨k + 1, by omega, by go_num, by rw [HS5.out], HAX.out (by trivial), hlen5, HB3.out⟩
        case measure => simp [intOf]; omega
    · obtain rfl : k = l.length := by omega
      rw [List.take_length] at HALL
      have HR : Hid (EE = .returned (.tuple #[.string (bsOf (textL l)), .int .i64 0])) := Lib.hid (by rw [HED.out, if_pos HALL.out])
      rw [List.take_length]
      generalize bsOf (textL l) = TK at *
      go_wp2
      go_ret2
      exact ⟨by rw [HR.out]; rfl, HB.out⟩
end Go.Proofs.YtoonkfhphbojcaaGreatDoor
namespace Go.Proofs.YtoonkfhphbojcaaGreatDoor
open Go.RowKit
theorem laid_pow33 : (Rows.laid_internal_strconv_uint64pow10 : DataW Unit) = Lib.tabData .u64 Lib.pow10Tab := by kernel_rfl
theorem laid_asp33 : (Rows.laid_strings_asciiSpace : DataW Unit) = Lib.tabData .u8 Lib.asciiSpaceTab := by kernel_rfl
theorem star33 : "*" ++ "errors.errorString" = "*errors.errorString" := by decide
theorem row_err33 (u : TypeId) (h : Tryz.prog.typeName? 3 u = some "*errors.errorString") : u = 263 :=
  typeName_ptr_named (nm := "errors.errorString") (by rw [star33]; kernel_rfl) (by kernel_rfl) (by decide) u (by rw [star33]; exact h)
theorem err_laid33 {n : String} {text : List UInt8} {r : List (String × DataW Unit)} {W : World} {g : Nat} (h : laidMet Tryz.prog ((n, .iface "*errors.errorString" (.ptr (.agg [.lit (.string text)]))) :: r) W) (hg : Tryz.prog.globalNamed n = some g) (ht : (Tryz.prog.globals[g]?).map (·.type) = some 86) :
    ∃ ev, W.cell? ⟨g, 0, none⟩ = some ev ∧ (ev = .nilIface ∨ ∃ te pe, ev = .iface te pe) := by
  obtain ⟨a0, s0, hv0, -, -, -⟩ := laid_sentinel h hg ht Tryz.underlying86 row_err33 Tryz.underlying263 Tryz.underlying265 rfl rfl Tryz.underlying9 (by kernel_rfl) (by kernel_rfl)
  exact ⟨_, by have h0 := World.var?_cell hg hv0 0; simpa using h0, .inr ⟨_, _, rfl⟩⟩
theorem maxl33 (W : World) (h : W.ShapedOpen Tryz.prog) : ∃ m, W.cell? ⟨5, 0, none⟩ = some (.int .i64 m) :=
  Go.Proofs.cell_of_shapedOpen_int (zero := #[.int .i64 0]) (t := 3) h (of_decide_eq_true (by kernel_rfl)) (by kernel_rfl) rfl (by kernel_rfl) (by kernel_rfl) Tryz.underlying3
theorem lib_laid33 {W : World} (hL : laidMet Tryz.prog Rows.disInsnsRow.laid W) (hsh : W.ShapedOpen Tryz.prog) : Lib33 W := by
  have h1 : laidMet Tryz.prog [("math/bits.deBruijn32tab", Rows.laid_math_bits_deBruijn32tab), ("math/bits.deBruijn64tab", Rows.laid_math_bits_deBruijn64tab), ("internal/strconv.uint64pow10", Rows.laid_internal_strconv_uint64pow10), ("unicode/utf8.acceptRanges", Rows.laid_unicode_utf8_acceptRanges), ("strconv.ErrRange", Rows.laid_strconv_ErrRange), ("strconv.ErrSyntax", Rows.laid_strconv_ErrSyntax), ("unicode.White_Space", Rows.laid_unicode_White_Space), ("strings.asciiSpace", Rows.laid_strings_asciiSpace), ("unicode/utf8.first", Rows.laid_unicode_utf8_first)] W := hL
  have h3 := h1.tail.tail
  have h5 := h3.tail.tail
  have h6 := h5.tail
  have h8 := h6.tail.tail
  rw [laid_pow33] at h3
  rw [laid_asp33] at h8
  exact ⟨Lib.tabIs_of_head (g := 2) (by kernel_rfl) (by kernel_rfl) Tryz.underlying236 Tryz.underlying134 (by kernel_rfl) (by kernel_rfl) h3,
    Lib.tabIs_of_head (g := 0) (by kernel_rfl) (by kernel_rfl) Tryz.underlying122 Tryz.underlying5 (by kernel_rfl) (by kernel_rfl) h8,
    maxl33 W hsh, err_laid33 h6 (by kernel_rfl) (by kernel_rfl), err_laid33 h5 (by kernel_rfl) (by kernel_rfl)⟩
theorem same_laid33 : Rows.disLinesRow.laid = Rows.disInsnsRow.laid ∧ Rows.disObjectsRow.laid = Rows.disInsnsRow.laid ∧ Rows.disBackRow.laid = Rows.disInsnsRow.laid := ⟨rfl, rfl, rfl⟩
end Go.Proofs.YtoonkfhphbojcaaGreatDoor
