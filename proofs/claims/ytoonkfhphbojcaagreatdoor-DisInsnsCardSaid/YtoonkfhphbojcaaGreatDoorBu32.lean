/- The walk of the document's Code. -/
import Derived.Test.YtoonkfhphbojcaaGreatDoorBu25
import Derived.Test.YtoonkfhphbojcaaGreatDoorBu28
import Derived.Test.YtoonkfhphbojcaaGreatDoorBu27
import Derived.Test.YtoonkfhphbojcaaGreatDoorBu22
namespace Go.Proofs.YtoonkfhphbojcaaGreatDoor
open Go.RowKit Go.Maps
set_option maxHeartbeats 8000000 in
set_option maxRecDepth 100000 in
theorem rCode33 (at0 : Int) (b : BL) (w : World) (h0 : 0 ≤ at0) (h1 : at0 ≤ 4294967295) (hb : b.length ≤ 100000) :
    Calls Tryz.prog 13 #[.int .u32 at0, .string (bsOf b)] w fun e w' => e = .returned (.string (bsOf (codeOf at0 b))) ∧ Below w.heap.size w w' := by
  go_enter Tryz.func13, Tryz.ntmps13
  go_wp2_with fail
  go_loopw [0, 1, 5] (fun v0 v1 v5 wr => ∃ (a : Int) (r l : BL), v0 = .int .u32 a ∧ v1 = .string (bsOf r) ∧ v5 = .string (bsOf l) ∧ 0 ≤ a ∧ a ≤ 4294967295 ∧ codeOf at0 b = l ++ codeOf a r ∧ l.length + 400 * r.length ≤ 100000000 ∧ r.length ≤ 100000 ∧ Below w.heap.size w wr) (fun _ v1 _ _ => match v1 with | .string s => s.size | _ => 0)
  case atStart => exact ⟨at0, b, [], rfl, rfl, rfl, h0, h1, rfl, by simp; omega, hb, Below.refl _ _⟩
  case round =>
    obtain ⟨a, r, l, rfl, rfl, rfl, ha0, ha1, heq, hlen, hrl, hB⟩ := hrel
    have HE := Lib.hid heq; clear heq
    have HB := Lib.hid hB; clear hB
    have hrs : (bsOf r).size = r.length := bsOf_size r
    by_cases hr : r = []
    · have e0 : decide ((0 : Int) < (r.length : Int)) = false := by rw [hr]; rfl
      have e0' : decide (0 < r.length) = false := by rw [hr]; rfl
      have HC : Hid (codeOf at0 b = l) := Lib.hid (by rw [HE.out, hr, codeOf_nil, List.append_nil])
      have HR := Lib.hid hr
      clear hr
      go_wp2
      go_ret
      exact ⟨by rw [HC.out]; rfl, HB.out⟩
    · have hsz : 0 < r.length := List.length_pos_iff.2 hr
      have e0 : decide ((0 : Int) < (r.length : Int)) = true := by simp; omega
      have e0' : decide (0 < r.length) = true := by simp; omega
      obtain ⟨n, hmin⟩ : ∃ n : Nat, min (r.length : Int) 8 = (n : Int) := ⟨min r.length 8, by omega⟩
      have hn1 : n ≤ r.length := by omega
      have hn2 : n ≤ 8 := by omega
      have hn3 : 1 ≤ n := by omega
      have HEX : Hid ((bsOf r).extract 0 n = bsOf (r.take 8)) := Lib.hid (by
        rw [ext_take]
        rcases (by omega : n = 8 ∨ (n = r.length ∧ r.length ≤ 8)) with h | ⟨h, h'⟩
        · rw [h]
        · rw [h, List.take_length, List.take_of_length_le h'])
      have HDR : Hid ((bsOf r).extract n r.length = bsOf (r.drop 8)) := Lib.hid (by
        rw [ext_drop]
        rcases (by omega : n = 8 ∨ (n = r.length ∧ r.length ≤ 8)) with h | ⟨h, h'⟩
        · rw [h]
        · rw [h, List.drop_length, List.drop_eq_nil_of_le h'])
      have HCL : Hid ((r.take 8).length = n) := Lib.hid (by rw [List.length_take]; omega)
      have HD := Lib.hid (rdec04 (bsOf (r.take 8)) wr)
      rw [bsOf_list] at HD
      have hbl := HCL.out
      have HBY := Lib.hid (fun W => rbytes33 (r.take 8) W (by omega))
      have HNR := Lib.hid (codeOf_next a r hr)
      have hdl : (r.drop 8).length + 8 ≤ r.length + 8 ∧ (r.drop 8).length < r.length := by rw [List.length_drop]; omega
      have htl : (120 :: (r.take 8).flatMap hexB).length ≤ 17 := by rw [List.length_cons, hexB_len]; omega
      have hIB := insOfB33 (r.take 8)
      have ha8 : (decD a.toNat).length ≤ 20 := (decD_len (by omega)).2
      have HNM := Lib.hid (fun W => rnum33 a ha0 ha1 W)
      have HLN : Hid (codeLn a (r.take 8) = (decD a.toNat ++ 32 :: (match decI (r.take 8) with | some x => toldL x (decD x.imm.toNat) | none => 120 :: (r.take 8).flatMap hexB)) ++ [10]) := Lib.hid rfl
      clear hbl
      have HR := Lib.hid hr
      clear hr
      cases hd : decI (r.take 8) with
      | none =>
        have hio : insOf (r.take 8) = ins0 := by unfold insOf; rw [hd]; rfl
        rw [hd, hio] at HD
        rw [hd] at HLN
        simp only [] at HLN
        rw [show erI (none : Option GIns).isSome 7 = 7 from rfl] at HD
        unfold insV ins0 at HD
        simp only [] at HD
        clear hd hio hIB
        go_wp2_with fail
        rw [HEX.out]
        refine HD.out.mono ?_
        rintro e w2 ⟨rfl, hB2⟩
        have HB2 := Lib.hid (HB.out.trans (hB2.mono HB.out.size))
        clear hB2
        go_upto_region 5 with fail
        have HB3 := Lib.hid (HB2.out.alloc HB2.out.size (.cells #[.int .u8 0, .int .u8 0, .int .u8 0, .int .u8 0, .int .u32 0] 24))
        have hx3 := new_block w2 (.cells #[.int .u8 0, .int .u8 0, .int .u8 0, .int .u8 0, .int .u32 0] 24)
        generalize (w2.alloc (.cells #[.int .u8 0, .int .u8 0, .int .u8 0, .int .u8 0, .int .u32 0] 24)) = w3 at *
        have hxl := (Array.getElem?_eq_some_iff.1 hx3).1
        generalize w2.heap.size = xb at *
        go_wp2_with fail
        rw [HEX.out]
        refine (HBY.out _).mono ?_
        rintro e w4 ⟨rfl, hB4⟩
        have HB4 := Lib.hid (HB3.out.trans (hB4.mono HB3.out.size))
        clear hB4 hx3
        obtain ⟨w5, hw5⟩ : ∃ w5, w5 = w4 := ⟨_, rfl⟩
        have HB5 := Lib.hid HB4.out
        rw [← hw5] at HB5 ⊢
        clear hw5
        have htx : (120 :: (r.take 8).flatMap hexB).length ≤ 220 := by omega
        generalize (120 :: (r.take 8).flatMap hexB) = tx at *
        clear htl
        generalize decD a.toNat = dg at HNM HLN ha8
        have k1 : bsOf l ++ bsOf dg = bsOf (l ++ dg) := bsOf_cat _ _
        have k2 : bsOf (l ++ dg) ++ (⟨#[32]⟩ : ByteArray) = bsOf (l ++ (dg ++ [32])) := by rw [← List.append_assoc]; exact bsOf_cat _ [32]
        have k3 : bsOf (l ++ (dg ++ [32])) ++ bsOf tx = bsOf (l ++ (dg ++ 32 :: tx)) := by rw [bsOf_cat]; simp
        have k4 : bsOf (l ++ (dg ++ 32 :: tx)) ++ (⟨#[10]⟩ : ByteArray) = bsOf (l ++ (dg ++ 32 :: (tx ++ [10]))) := by rw [show (⟨#[10]⟩ : ByteArray) = bsOf [10] from rfl, bsOf_cat]; simp
        have q1 : ¬ 9223372036854775807 < (bsOf l).size + (bsOf dg).size := by rw [bsOf_size, bsOf_size]; omega
        have q2 : ¬ 9223372036854775807 < (bsOf (l ++ dg)).size + 1 := by rw [bsOf_size, List.length_append]; omega
        have q3 : ¬ 9223372036854775807 < (bsOf (l ++ (dg ++ [32]))).size + (bsOf tx).size := by rw [bsOf_size, bsOf_size, List.length_append, List.length_append, List.length_singleton]; omega
        have q4 : ¬ 9223372036854775807 < (bsOf (l ++ (dg ++ 32 :: tx))).size + 1 := by rw [bsOf_size, List.length_append, List.length_append, List.length_cons]; omega
        have HL2 : Hid ((l ++ (dg ++ 32 :: (tx ++ [10]))).length + 400 * (r.drop 8).length ≤ 100000000) := Lib.hid (by simp only [List.length_append, List.length_cons, List.length_nil]; omega)
        have HE2 : Hid (codeOf at0 b = (l ++ (dg ++ 32 :: (tx ++ [10]))) ++ codeOf ((a + 8) % 4294967296) (r.drop 8)) := Lib.hid (by rw [HE.out, HNR.out, HLN.out]; simp)
        have HM : Hid ((r.drop 8).length < r.length ∧ (r.drop 8).length ≤ 100000) := Lib.hid (by omega)
        clear HE HNR HLN hlen
        go_wp2_with fail
        refine (HNM.out _).mono ?_
        rintro e w6 ⟨rfl, hB6⟩
        have HB6 := Lib.hid (HB5.out.trans (hB6.mono HB5.out.size))
        clear hB6
        go_wp2
        go_roundw
        case rel => exact ⟨(a + 8) % 4294967296, r.drop 8, _, rfl, by rw [HDR.out], rfl, by omega, by omega, HE2.out, HL2.out, HM.out.2, HB6.out⟩
        case measure =>
          rw [HDR.out]
          simp only [bsOf_size]
          exact HM.out.1
      | some x =>
        have hio : insOf (r.take 8) = x := by unfold insOf; rw [hd]; rfl
        obtain ⟨hok, hxb⟩ := decI_ok hd
        rw [hd, hio] at HD
        rw [hd] at HLN
        simp only [] at HLN
        rw [show erI (some x).isSome 7 = 0 from rfl] at HD
        have hlt := toldL_len (imm := decD x.imm.toNat) hxb
        have hli := (decD_len (u := x.imm.toNat) (by have := hxb.2.2.2.2; omega)).2
        have HIN := Lib.hid (fun W => rInsn33 x W hxb)
        rw [hok] at HIN
        simp only [if_true] at HIN
        generalize toldL x (decD x.imm.toNat) = tx at HIN HLN hlt
        have htx : tx.length ≤ 220 := by omega
        clear hlt hli
        obtain ⟨xo, xd, xa, xc, xi⟩ := x
        unfold insV at HD HIN
        simp only [] at HD HIN
        clear hd hio hIB hok hxb
        go_wp2_with fail
        rw [HEX.out]
        refine HD.out.mono ?_
        rintro e w2 ⟨rfl, hB2⟩
        have HB2 := Lib.hid (HB.out.trans (hB2.mono HB.out.size))
        clear hB2
        go_upto_region 5 with fail
        have HB3 := Lib.hid (HB2.out.alloc HB2.out.size (.cells #[.int .u8 xo, .int .u8 xd, .int .u8 xa, .int .u8 xc, .int .u32 xi] 24))
        have hx3 := new_block w2 (.cells #[.int .u8 xo, .int .u8 xd, .int .u8 xa, .int .u8 xc, .int .u32 xi] 24)
        generalize (w2.alloc (.cells #[.int .u8 xo, .int .u8 xd, .int .u8 xa, .int .u8 xc, .int .u32 xi] 24)) = w3 at *
        have hxl := (Array.getElem?_eq_some_iff.1 hx3).1
        generalize w2.heap.size = xb at *
        go_wp2_with fail
        rw [HEX.out]
        refine (HBY.out _).mono ?_
        rintro e w4 ⟨rfl, hB4⟩
        have HB4 := Lib.hid (HB3.out.trans (hB4.mono HB3.out.size))
        have z0 : w4.cell? ⟨xb, 0, none⟩ = some (.int .u8 xo) := cell_keep hB4 hxl (Lib.cell_of_heap hx3 0)
        have z1 : w4.cell? ⟨xb, 1, none⟩ = some (.int .u8 xd) := cell_keep hB4 hxl (Lib.cell_of_heap hx3 1)
        have z2 : w4.cell? ⟨xb, 2, none⟩ = some (.int .u8 xa) := cell_keep hB4 hxl (Lib.cell_of_heap hx3 2)
        have z3 : w4.cell? ⟨xb, 3, none⟩ = some (.int .u8 xc) := cell_keep hB4 hxl (Lib.cell_of_heap hx3 3)
        have z4 : w4.cell? ⟨xb, 4, none⟩ = some (.int .u32 xi) := cell_keep hB4 hxl (Lib.cell_of_heap hx3 4)
        clear hB4 hx3
        go_wp2_with fail
        refine (HIN.out _).mono ?_
        rintro e w5 ⟨rfl, hB5⟩
        have HB5 := Lib.hid (HB4.out.trans (hB5.mono HB4.out.size))
        clear hB5 z0 z1 z2 z3 z4 htl
        generalize decD a.toNat = dg at HNM HLN ha8
        have k1 : bsOf l ++ bsOf dg = bsOf (l ++ dg) := bsOf_cat _ _
        have k2 : bsOf (l ++ dg) ++ (⟨#[32]⟩ : ByteArray) = bsOf (l ++ (dg ++ [32])) := by rw [← List.append_assoc]; exact bsOf_cat _ [32]
        have k3 : bsOf (l ++ (dg ++ [32])) ++ bsOf tx = bsOf (l ++ (dg ++ 32 :: tx)) := by rw [bsOf_cat]; simp
        have k4 : bsOf (l ++ (dg ++ 32 :: tx)) ++ (⟨#[10]⟩ : ByteArray) = bsOf (l ++ (dg ++ 32 :: (tx ++ [10]))) := by rw [show (⟨#[10]⟩ : ByteArray) = bsOf [10] from rfl, bsOf_cat]; simp
        have q1 : ¬ 9223372036854775807 < (bsOf l).size + (bsOf dg).size := by rw [bsOf_size, bsOf_size]; omega
        have q2 : ¬ 9223372036854775807 < (bsOf (l ++ dg)).size + 1 := by rw [bsOf_size, List.length_append]; omega
        have q3 : ¬ 9223372036854775807 < (bsOf (l ++ (dg ++ [32]))).size + (bsOf tx).size := by rw [bsOf_size, bsOf_size, List.length_append, List.length_append, List.length_singleton]; omega
        have q4 : ¬ 9223372036854775807 < (bsOf (l ++ (dg ++ 32 :: tx))).size + 1 := by rw [bsOf_size, List.length_append, List.length_append, List.length_cons]; omega
        have HL2 : Hid ((l ++ (dg ++ 32 :: (tx ++ [10]))).length + 400 * (r.drop 8).length ≤ 100000000) := Lib.hid (by simp only [List.length_append, List.length_cons, List.length_nil]; omega)
        have HE2 : Hid (codeOf at0 b = (l ++ (dg ++ 32 :: (tx ++ [10]))) ++ codeOf ((a + 8) % 4294967296) (r.drop 8)) := Lib.hid (by rw [HE.out, HNR.out, HLN.out]; simp)
        have HM : Hid ((r.drop 8).length < r.length ∧ (r.drop 8).length ≤ 100000) := Lib.hid (by omega)
        clear HE HNR HLN hlen
        go_wp2_with fail
        refine (HNM.out _).mono ?_
        rintro e w6 ⟨rfl, hB6⟩
        have HB6 := Lib.hid (HB5.out.trans (hB6.mono HB5.out.size))
        clear hB6
        go_wp2
        go_roundw
        case rel => exact ⟨(a + 8) % 4294967296, r.drop 8, _, rfl, by rw [HDR.out], rfl, by omega, by omega, HE2.out, HL2.out, HM.out.2, HB6.out⟩
        case measure =>
          rw [HDR.out]
          simp only [bsOf_size]
          exact HM.out.1
end Go.Proofs.YtoonkfhphbojcaaGreatDoor
