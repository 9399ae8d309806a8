/- The walk of aediculeref15.Fill. The walks of aediculeref18's perm, closed and filled. -/
import Derived.Test.YtdjgkmpjhpnkeaaGreatDoorBd09
import Derived.Test.YtdjgkmpjhpnkeaaGreatDoorBd24
import Derived.Test.YtdjgkmpjhpnkeaaGreatDoorBd27
import Derived.BigQuiet
import Derived.Test.YtdjgkmpjhpnkeaaGreatDoorBd26
import Derived.Test.YtdjgkmpjhpnkeaaGreatDoorBd18
namespace Go.Proofs.YtdjgkmpjhpnkeaaGreatDoor
open Go.RowKit
theorem ByteRow.set {w : World} {g : Nat} {l : BL} (h : ByteRow w g l) (j : Nat) (v : Int) (h0 : 0 ≤ v) (h1 : v < 256) : ByteRow (w.setCell ⟨g, j, none⟩ (.int .u8 v)) g (l.set j (UInt8.ofNat v.toNat)) := by
  obtain ⟨T, h⟩ := h
  refine ⟨T, ?_⟩
  have e := heap_setCell_same w g j _ _ (.int .u8 v) h
  rw [e]
  congr 2
  apply Array.ext'
  simp [Lib.byteCells, List.map_set]
  rw [show max v 0 % 256 = v by omega]
theorem putB_snoc {b s : BL} {o : Nat} {x : UInt8} (h : o + s.length < b.length) : (putB b s o).set (o + s.length) x = putB b (s ++ [x]) o := by
  unfold putB
  have e1 : (b.take o ++ s).length = o + s.length := by rw [List.length_append, List.length_take]; omega
  rw [List.set_append_right _ _ (by rw [e1]; omega), e1, Nat.sub_self, List.drop_eq_getElem_cons h, List.set_cons_zero, List.length_append, List.length_singleton]
  simp [Nat.add_assoc]
theorem putB_nil (b : BL) (o : Nat) : putB b [] o = b := by simp [putB]
theorem take_snocB (s : ByteArray) (k : Nat) (h : k < s.size) : s.data.toList.take (k + 1) = s.data.toList.take k ++ [UInt8.ofNat (Int.toNat (s[k].toNat : Int))] := by
  have e : UInt8.ofNat (Int.toNat (s[k].toNat : Int)) = s[k] := by rw [Int.toNat_natCast]; simp
  rw [e, List.take_succ_eq_append_getElem (by simpa using h)]; rfl
theorem new_blk15 (w : World) (o : Obj) : (w.alloc o).heap[w.heap.size]? = some o := by
  show (w.heap.push o)[w.heap.size]? = _
  simp
/-- the symbol that is filled, in its box -/
def FSym (w : World) (b : Nat) (s : GSym) (vr vn : Value) : Prop := w.heap[b]? = some (.cells #[.string s.name, .int .u8 s.bind, .int .u8 s.kind, .int .u32 s.size, .string s.bytes, vr, vn] 72 (0, 0))
theorem FSym.kb {w w' : World} {b g : Nat} {s : GSym} {vr vn : Value} (h : FSym w b s vr vn) (hk : KB (fun k => k = g) w w') (hne : b ≠ g) : FSym w' b s vr vn :=
  (hk.block b (Array.getElem?_eq_some_iff.1 h).1 hne).trans h
set_option maxHeartbeats 4000000 in
set_option maxRecDepth 100000 in
theorem rfill_any (s : GSym) (vr vn av : Value) (addrs : List Int) (w : World) (h : SymIn w s vr vn) (hb : s.bytes.size < 4294967296) (ha : RowAt 1 NumR w av addrs) :
    Calls Tryz.prog 166 #[.agg #[.string s.name, .int .u8 s.bind, .int .u8 s.kind, .int .u32 s.size, .string s.bytes, vr, vn], av] w fun e w' =>
      e = .returned (.tuple #[.string (fillR s addrs).1, .int .i64 (fillR s addrs).2]) ∧ Below w.heap.size w w' := by
  have HS := Lib.hid h
  have HA := Lib.hid ha
  obtain ⟨pa, ca, ba, oa, rfl, -, hamax, -, -⟩ := ha
  obtain ⟨p1, q1, p2, q2, rfl, rfl⟩ := h.shape
  clear h
  have HB0 : Hid (Below w.heap.size w (w.alloc (.cells #[.string s.name, .int .u8 s.bind, .int .u8 s.kind, .int .u32 s.size, .string s.bytes, .slice p1 s.rels.length q1, .slice p2 s.notes.length q2] 72))) := alloc_old w _
  have HX := Lib.hid (refSym_any s _ _ _ (HS.out.keep HB0.out))
  rw [← symOkP_eq hb] at HX
  have HF0 : Hid (FSym (w.alloc (.cells #[.string s.name, .int .u8 s.bind, .int .u8 s.kind, .int .u32 s.size, .string s.bytes, .slice p1 s.rels.length q1, .slice p2 s.notes.length q2] 72)) w.heap.size s (.slice p1 s.rels.length q1) (.slice p2 s.notes.length q2)) := new_blk15 w _
  have HZ0 : Hid (w.heap.size < (w.alloc (.cells #[.string s.name, .int .u8 s.bind, .int .u8 s.kind, .int .u32 s.size, .string s.bytes, .slice p1 s.rels.length q1, .slice p2 s.notes.length q2] 72)).heap.size) := by rw [Hid]; simp
  cases hs : symOkP s with
  | false =>
    rw [hs] at HX
    have HE := Lib.hid (fillR_bad (addrs := addrs) hs)
    clear hs HF0 HZ0
    go_enter Tryz.func166, Tryz.ntmps166
    go_wp2_with fail
    refine HX.out.mono ?_
    rintro e w1 ⟨rfl, hB⟩
    go_wp2_with fail
    go_ret2
    rw [HE.out]
    exact ⟨rfl, HB0.out.trans (hB.mono HB0.out.size)⟩
  | true =>
    rw [hs] at HX
    go_enter Tryz.func166, Tryz.ntmps166
    go_wp2_with fail
    generalize w.alloc (.cells #[.string s.name, .int .u8 s.bind, .int .u8 s.kind, .int .u32 s.size, .string s.bytes, .slice p1 s.rels.length q1, .slice p2 s.notes.length q2] 72) = w0 at *
    refine HX.out.mono ?_
    rintro e w1 ⟨rfl, hB⟩
    have HB1 : Hid (Below w.heap.size w w1) := HB0.out.trans (hB.mono HB0.out.size)
    have HF1 : Hid (FSym w1 w.heap.size s (.slice p1 s.rels.length q1) (.slice p2 s.notes.length q2)) := (hB.block _ HZ0.out).trans HF0.out
    have HZ1 : Hid (w.heap.size < w1.heap.size) := Nat.lt_of_lt_of_le HZ0.out hB.size
    clear hB HB0 HX HF0 HZ0
    have c5 := Lib.cell_of_heap HF1.out 5
    by_cases hlen : addrs.length = s.rels.length
    · have HY := Lib.hid (fillR_yes hs hlen)
      obtain ⟨f1, f2, f3, f4, f5⟩ := symOk_fits hs hb
      have HZL := Lib.hid (bytes0_length f1)
      have HF5 := Lib.hid f5; clear f5
      clear hs
      obtain ⟨n, hn⟩ : ∃ n : Nat, s.size = n := ⟨s.size.toNat, by omega⟩
      have HZ : Hid (bytes0 s = putB (List.replicate n 0) s.bytes.data.toList 0) := by rw [bytes_over]; unfold bytes0; rw [hn]; rfl
      have hmk : ∀ w : World, (Instr.makeSlice 130 (.int .u32 (n : Int)) (.int .u32 (n : Int))).run Tryz.prog w = .ok (.slice (some ⟨w.heap.size, 0, none⟩) n n) (w.alloc (.cells (madeCells #[.int .u8 0] n) 5)) := fun w =>
        run_make_row' 130 5 (.int .u8 0) 1 Tryz.underlying130 info_byte rfl .u32 .u32 n (by omega) (by omega) w
      have c3 := Lib.cell_of_heap HF1.out 3
      have hd : (addrs.length != s.rels.length) = false := by simpa using hlen
      have hd2 : ((addrs.length : Int) != (s.rels.length : Int)) = false := by simp; omega
      go_wp2_with fail
      have HRW0 : Hid (ByteRow (w1.alloc (.cells (madeCells #[.int .u8 0] n) 5)) w1.heap.size (List.replicate n 0)) := ⟨5, by rw [← madeBytes]; exact new_blk15 w1 _⟩
      have HB2 : Hid (Below w.heap.size w (w1.alloc (.cells (madeCells #[.int .u8 0] n) 5))) := HB1.out.alloc HB1.out.size _
      have HF2 : Hid (FSym (w1.alloc (.cells (madeCells #[.int .u8 0] n) 5)) w.heap.size s (.slice p1 s.rels.length q1) (.slice p2 s.notes.length q2)) := ((alloc_old w1 _).block _ HZ1.out).trans HF1.out
      have HGW : Hid (w.heap.size < w1.heap.size) := HZ1.out
      have HG2 : Hid (w1.heap.size < (w1.alloc (.cells (madeCells #[.int .u8 0] n) 5)).heap.size) := by rw [Hid]; simp
      clear hmk c3 c5 HF1 HB1 HZ1
      generalize w1.alloc (.cells (madeCells #[.int .u8 0] n) 5) = w2 at *
      generalize w1.heap.size = g at *
      have hsz2 : s.bytes.size ≤ n := by omega
      have hn8 : n ≤ 8192 := by omega
      have hn1 : 1 ≤ n := by omega
      generalize hz0 : bytes0 s = bz at *
      clear hz0
      rw [hn] at HZL
      simp only [Int.toNat_natCast] at HZL
      obtain ⟨sn, sb, sk, ss, sy, sr, st⟩ := s
      simp only [] at hn hsz2 HF2 HZ HZL HF5 HY hlen f1 f2 f3 f4 hd hd2 hb
      subst hn
      clear hd hd2 f1 f2 f3
      go_loopw [7] (fun v7 wr => ∃ i : Nat, i ≤ sy.size ∧ v7 = .int .i64 i ∧ ByteRow wr g (putB (List.replicate n 0) (sy.data.toList.take i) 0) ∧ KB (fun k => k = g) w2 wr) (fun v7 _ => sy.size - (intOf v7).toNat)
      case atStart => exact ⟨0, Nat.zero_le _, by go_num, by rw [List.take_zero, putB_nil]; exact HRW0.out, KB.refl _ _⟩
      case round =>
        obtain ⟨i, hi, rfl, hrow, hkb⟩ := hrel
        have HRW := Lib.hid hrow
        have HK := Lib.hid hkb
        have hf := HF2.out.kb hkb (Nat.ne_of_lt HGW.out)
        have c4 := Lib.cell_of_heap hf 4
        have hpl : (putB (List.replicate n 0) (sy.data.toList.take i) 0).length = n := by rw [putB_length (by simp; omega)]; simp
        clear hrow hkb
        by_cases hlt : i < sy.size
        · have hcl := HRW.out.cell i (by omega)
          have hfz := HRW.out.frozen i
          generalize (putB (List.replicate n 0) (sy.data.toList.take i) 0)[i].toNat = o9 at hcl
          have HST : Hid (ByteRow (wr.setCell ⟨g, i, none⟩ (.int .u8 (sy[i].toNat : Int))) g (putB (List.replicate n 0) (sy.data.toList.take (i + 1)) 0)) := by
            have h1 := HRW.out.set i (sy[i].toNat : Int) (by omega) (by have := sy[i].toNat_lt; omega)
            have h2 := putB_snoc (b := List.replicate n 0) (s := sy.data.toList.take i) (o := 0) (x := UInt8.ofNat (Int.toNat (sy[i].toNat : Int))) (by simp; omega)
            have h3 : 0 + (sy.data.toList.take i).length = i := by simp; omega
            rw [h3] at h2
            rw [h2, ← take_snocB sy i hlt] at h1
            exact h1
          have HK2 : Hid (KB (fun k => k = g) w2 (wr.setCell ⟨g, i, none⟩ (.int .u8 (sy[i].toNat : Int)))) := HK.out.setCell (.inl rfl) _
          clear hpl hf
          go_wp2_with fail
          go_roundw
          case rel => exact ⟨i + 1, by omega, by go_num, HST.out, HK2.out⟩
          case measure => simp [intOf]; omega
        · have HRW2 : Hid (ByteRow wr g bz) := by
            have h1 := HRW.out
            rw [List.take_of_length_le (by simp; omega), ← HZ.out] at h1
            exact h1
          clear hpl hf HRW HRW0
          go_wp2_with fail
          clear hi hlt c4
          go_loopw [8] (fun v8 wq => ∃ (k : Nat) (b : BL), v8 = .int .i64 k ∧ k ≤ sr.length ∧ b.length = n ∧ ByteRow wq g b ∧ fillL b (sr.drop k) (addrs.drop k) = fillL bz sr addrs ∧ KB (fun k => k = g) w2 wq) (fun v8 _ => sr.length - (intOf v8).toNat)
          case atStart => exact ⟨0, bz, by go_num, Nat.zero_le _, HZL.out, HRW2.out, rfl, HK.out⟩
          case round =>
            clear HRW2 HK
            obtain ⟨k, b, rfl, hk, hbl, hrow, hgo, hkb⟩ := hrel
            have HRW := Lib.hid hrow
            have HK := Lib.hid hkb
            have HG := Lib.hid hgo
            have hf := HF2.out.kb hkb (Nat.ne_of_lt HGW.out)
            have HBW : Hid (Below w.heap.size w wr) := HB2.out.trans (hkb.below HB2.out.size (fun j hj e => by have := HGW.out; omega))
            have hzs : w.heap.size < wr.heap.size := Nat.lt_of_lt_of_le (Nat.lt_trans HGW.out HG2.out) hkb.size
            have c5 := Lib.cell_of_heap hf 5
            clear hrow hgo hkb hf
            by_cases hlt : k < sr.length
            · have HR := Lib.hid (HS.out.keep HBW.out).1
              have HAk := Lib.hid (HA.out.keep numR_keeps HBW.out)
              obtain ⟨p1', q1', br, orr, he1, -, -, hp1, hcells⟩ := HR.out
              cases he1
              obtain rfl := hp1 (by simp only []; omega)
              obtain ⟨pa', ca', bra, ora, he2, -, -, hp2, hcells2⟩ := HAk.out
              cases he2
              obtain rfl := hp2 (by omega)
              obtain ⟨r0, r1, r2, r3, r4, r5, r6, r7, r8⟩ := hcells k hlt
              have hlta : k < addrs.length := by omega
              obtain ⟨a0, a1, a2, a3⟩ := hcells2 k hlta
              have HSTEP := Lib.hid (fillL_step (s := ⟨sn, sb, sk, n, sy, sr, st⟩) (b := b) hlt hlta rfl rfl)
              obtain ⟨x1, x2, x3⟩ := HF5.out sr[k] (List.getElem_mem hlt)
              clear hcells hcells2 hp1 hp2
              simp only [] at r0 r1 r2 r3 r4 r5 r6 r7 r8 HSTEP
              generalize hxk : sr[k] = x at r0 r1 r2 r3 r4 r5 r6 r7 r8 HSTEP x1 x2 x3
              generalize addrs[k] = av at a0 a1 a2 a3 HSTEP
              obtain ⟨xo, xk, xn, xa⟩ := x
              simp only [] at r0 r1 r2 r3 r4 r5 r6 r7 r8 HSTEP x1 x2 x3
              obtain ⟨o, rfl⟩ : ∃ o : Nat, xo = o := ⟨xo.toNat, by omega⟩
              have HXO : Hid (sr[k].off = (o : Int)) := by rw [hxk]; rfl
              clear hxk
              rw [HG.out] at HSTEP
              have hwv : IntKind.u32.wrap (av + xa) = fillV ⟨o, xk, xn, xa⟩ av := by rw [IntKind.wrap_u32]; rfl
              have hv0 : 0 ≤ fillV ⟨o, xk, xn, xa⟩ av := by unfold fillV; omega
              have hv1 : fillV ⟨o, xk, xn, xa⟩ av ≤ 4294967295 := by unfold fillV; omega
              generalize fillV ⟨o, xk, xn, xa⟩ av = fv at hwv hv0 hv1 HSTEP
              rw [Nat.mul_one] at a1
              have hsum : IntKind.u32.wrap (av + xa) = fv := hwv
              by_cases hov : xk = 2 ∧ 65536 ≤ fv
              · obtain ⟨rfl, hv5⟩ := hov
                rw [if_pos ⟨rfl, hv5⟩] at HSTEP
                have hd1 : decide (65535 < fv) = true := by simp; omega
                go_wp2_with fail
                go_quiet (fail)
                go_wp2_with fail
                refine (refWidth_any _ _).mono ?_
                rintro e w3 ⟨rfl, rfl⟩
                rw [show widthOf 2 = 2 from rfl]
                go_wp2_with fail
                go_ret2
                rw [HY.out, HSTEP.out]
                exact ⟨rfl, below_drewN HBW.out _⟩
              · rw [if_neg hov] at HSTEP
                obtain ⟨wd, hwd, hwi, hk2, hfit⟩ : ∃ wd : Nat, (widthOf xk).toNat = wd ∧ widthOf xk = wd ∧ ((wd : Int) = 2 → fv < 65536) ∧ o + wd ≤ b.length := by
                  rcases x1 with rfl | rfl
                  · refine ⟨4, rfl, rfl, by omega, ?_⟩
                    simp only [widthOf] at x3; simp at x3; omega
                  · refine ⟨2, rfl, rfl, by omega, ?_⟩
                    simp only [widthOf] at x3; simp at x3; omega
                rw [hwd] at HSTEP
                simp only [Int.toNat_natCast] at HSTEP
                have hw4 : wd = 2 ∨ wd = 4 := by rcases x1 with rfl | rfl <;> simp [widthOf] at hwi <;> omega
                clear hov hwd x1 x2 x3
                go_wp2_with fail
                go_quiet (fail)
                go_wp2_with fail
                refine (refWidth_any _ _).mono ?_
                rintro e w3 ⟨rfl, rfl⟩
                rw [hwi]
                clear hwi
                have HRW3 : Hid (ByteRow (wr.drewN nq) g b) := HRW.out.congr rfl
                have HK3 : Hid (KB (fun k => k = g) w2 (wr.drewN nq)) := HK.out.drewN nq
                have hsum2 : 65536 ≤ fv ∨ fv ≤ 65535 := by omega
                have HNX : Hid (ByteRow (wr.drewN nq) g (putB b (leB 0 fv) o)) := by
                  rw [show leB 0 fv = [] from rfl, putB_nil]; exact HRW3.out
                clear hwv hsum HRW HRW3 HK c5 hzs r0 r1 r2 r3 r4 a0 a1 HBW HR HAk
                generalize wr.drewN nq = w3 at *
                have HLN : Hid (∀ i, i ≤ wd → (putB b (leB i fv) o).length = n) := fun i hi => by rw [putB_length (by rw [leB_length]; omega), hbl]
                have HEND : Hid (fillL (putB b (leB wd fv) o) (sr.drop (k + 1)) (addrs.drop (k + 1)) = fillL bz sr addrs) := HSTEP.out.symm
                rcases hw4 with h2 | h2
                case' inl =>
                  have e2 : ((wd : Int) == 2) = true := by simp; omega
                  have e3 : decide (65535 < fv) = false := by simp; omega
                  go_wp2_with fail
                  clear e2 e3
                case' inr =>
                  have e2 : ((wd : Int) == 2) = false := by simp; omega
                  go_wp2_with fail
                  clear e2
                all_goals
                  go_loopw [9, 11] (fun v9 v11 wq => ∃ i : Nat, i ≤ wd ∧ v9 = .int .u32 (dv i fv) ∧ v11 = .int .i64 i ∧ ByteRow wq g (putB b (leB i fv) o) ∧ KB (fun k => k = g) w2 wq) (fun _ v11 _ => wd - (intOf v11).toNat)
                  case atStart => exact ⟨0, by omega, by go_num, by go_num, HNX.out, HK3.out⟩
                  case round =>
                    clear HNX HK3
                    obtain ⟨i, hi, rfl, rfl, hrow, hkb⟩ := hrel
                    have HRW := Lib.hid hrow
                    have HK := Lib.hid hkb
                    by_cases hli : i < wd
                    · have hf := HF2.out.kb hkb (Nat.ne_of_lt HGW.out)
                      have HBW : Hid (Below w.heap.size w wr) := HB2.out.trans (hkb.below HB2.out.size (fun j hj e => by have := HGW.out; omega))
                      have c5 := Lib.cell_of_heap hf 5
                      obtain ⟨p1', q1', br2, orr2, he1, -, -, hp1, hcells⟩ := (HS.out.keep HBW.out).1
                      cases he1
                      cases hp1 (by simp only []; omega)
                      obtain ⟨r0, r1, -⟩ := hcells k hlt
                      simp only [] at r0 r1
                      rw [HXO.out] at r1
                      have hpl := HLN.out i hi
                      have hcl := HRW.out.cell (o + i) (by omega)
                      have hfz := HRW.out.frozen (o + i)
                      generalize (putB b (leB i fv) o)[o + i].toNat = o9 at hcl
                      have hdv := dv_bd i fv hv0
                      have HD := Lib.hid (dv_succ i fv)
                      have HST : Hid (ByteRow (wr.setCell ⟨g, o + i, none⟩ (.int .u8 (dv i fv % 256))) g (putB b (leB (i + 1) fv) o)) := by
                        have h1 := HRW.out.set (o + i) (dv i fv % 256) (by omega) (by omega)
                        have h2 := putB_snoc (b := b) (s := leB i fv) (o := o) (x := UInt8.ofNat (Int.toNat (dv i fv % 256))) (by rw [leB_length]; omega)
                        rw [leB_length] at h2
                        rw [h2, ← leB_snoc] at h1
                        exact h1
                      have HK2 : Hid (KB (fun k => k = g) w2 (wr.setCell ⟨g, o + i, none⟩ (.int .u8 (dv i fv % 256)))) := HK.out.setCell (.inl rfl) _
                      clear hrow hkb hf hcells hp1 hpl
                      generalize dv i fv = d at *
                      go_wp2_with fail
                      go_roundw
                      case rel => exact ⟨i + 1, by omega, by rw [HD.out], by go_num, HST.out, HK2.out⟩
                      case measure => simp [intOf]; omega
                    · obtain rfl : i = wd := by omega
                      have HPB := Lib.hid (HLN.out i hi)
                      clear hrow hkb
                      go_wp2_with fail
                      go_roundw
                      case rel => exact ⟨k + 1, _, by go_num, by omega, HPB.out, HRW.out, HEND.out, HK.out⟩
                      case measure => simp [intOf]; omega
            · have hcv := run_bytes_of_row HRW.out 130 9 5 0 b.length b.length Tryz.underlying130 Tryz.underlying5 Tryz.underlying9 (by omega)
              rw [List.drop_zero, List.take_length, hbl] at hcv
              have HE := Lib.hid (fillL_end (s := ⟨sn, sb, sk, n, sy, sr, st⟩) (addrs := addrs) (b := b) hlt)
              go_wp2_with fail
              go_ret2
              have e := HE.out
              rw [HY.out, ← HG.out, e]
              exact ⟨rfl, HBW.out⟩
    · have hd : (addrs.length != s.rels.length) = true := by simpa using hlen
      have hd2 : ((addrs.length : Int) != (s.rels.length : Int)) = true := by simp; omega
      have HE := Lib.hid (fillR_len hlen)
      clear hlen
      go_wp2_with fail
      go_ret2
      rw [HE.out]
      exact ⟨rfl, HB1.out⟩
end Go.Proofs.YtdjgkmpjhpnkeaaGreatDoor
namespace Go.Proofs.YtdjgkmpjhpnkeaaGreatDoor
open Go.RowKit Go.Maps Go.WideMaps
theorem rperm_any (k : Int) (w : World) (hk : k = 1 ∨ k = 3 ∨ k = 2) :
    Calls Tryz.prog 69 #[.int .u8 k] w fun e w' => e = .returned (.int .u8 (permK k)) ∧ Below w.heap.size w w' := by
  rcases hk with rfl | rfl | rfl
  all_goals
    go_enter Tryz.func69, Tryz.ntmps69
    go_wp2
    go_ret
    exact ⟨rfl, Below.refl _ _⟩
theorem outB_yes {ps : List GP} {rl : List (Nat × Nat)} {k : Nat} {q : Nat × Nat} (h : k < rl.length) (hq : rl[k] = q) (hi : inG ps (toG q) = false) : outB ps rl = true := by
  unfold outB
  rw [List.any_eq_true]
  exact ⟨q, hq ▸ List.getElem_mem h, by simp [hi]⟩
theorem outB_no {ps : List GP} {rl : List (Nat × Nat)} {k : Nat} (h : ¬ k < rl.length) (hi : (rl.take k).all (fun q => inG ps (toG q)) = true) : outB ps rl = false := by
  rw [List.take_of_length_le (by omega)] at hi
  unfold outB
  rw [List.any_eq_false]
  intro q hq
  simp [List.all_eq_true.1 hi q hq]
set_option maxRecDepth 100000 in
set_option maxHeartbeats 2000000 in
theorem rclosed_any (v : Value) (l : List GObj) (pv : Value) (ps : List GP) (m : GP) (w : World) (h : ObjsAt w v l) (hps : RowAt 2 PlcR w pv ps) (hs : SameR l) :
    Calls Tryz.prog 64 #[v, .agg #[.int .i64 m.1, .int .i64 m.2], pv] w fun e w' => e = .returned (.bool (closedB l ps m)) ∧ Below w.heap.size w w' := by
  obtain ⟨m1, m2⟩ := m
  simp only []
  have HO := Lib.hid h
  have HPS := Lib.hid hps
  have HSR := Lib.hid hs; clear hs
  obtain ⟨qv, cv, hv⟩ : ∃ (p : Option Addr) (c : Nat), v = .slice p l.length c := by obtain ⟨p, cap, b, o, rfl, _⟩ := h; exact ⟨p, cap, rfl⟩
  obtain ⟨pq, cq, bq, oq, rfl, hcq, hmq, hpq, -⟩ := hps
  have HPQ := Lib.hid hpq; clear hpq
  subst hv
  clear h
  generalize hW : (w.alloc (.cells #[.int .i64 m1, .int .i64 m2] 63)) = w1
  have HB1 : Hid (Below w.heap.size w w1) := by subst hW; exact alloc_old w _
  have n1 : w1.cell? ⟨w.heap.size, 0, none⟩ = some (.int .i64 m1) := by subst hW; simp [go_sem]
  have n2 : w1.cell? ⟨w.heap.size, 1, none⟩ = some (.int .i64 m2) := by subst hW; simp [go_sem]
  have HC := Lib.hid (has18_any _ ps (m1, m2) w1 (HPS.out.keep plcR_keeps HB1.out))
  have HBI : Hid (inG ps (m1, m2) = inG ps (m1, m2)) := rfl
  generalize hbi : inG ps (m1, m2) = bi at HC HBI
  have HBJ := Lib.hid hbi; clear hbi HBI
  go_enter Tryz.func64, Tryz.ntmps64
  go_wp2_with fail
  try rw [hW]
  clear hW
  go_wp2_with fail
  clear n1 n2
  refine HC.out.mono ?_
  rintro e w4 ⟨rfl, hB4⟩
  have HB4 : Hid (Below w.heap.size w w4) := HB1.out.trans (hB4.mono HB1.out.size)
  clear hB4 HB1 HC
  cases bi with
  | false =>
    go_wp2
    go_ret
    exact ⟨by rw [closedB, HBJ.out]; rfl, HB4.out⟩
  | true =>
    go_wp2
    go_loopw [7] (fun i wr => ∃ k : Nat, k ≤ ps.length ∧ i = .int .i64 k ∧ (ps.take k).all (closedP l ps) = true ∧ Below w.heap.size w wr) (fun i _ => ps.length - (intOf i).toNat)
    case atStart => exact ⟨0, Nat.zero_le _, rfl, rfl, HB4.out⟩
    case round =>
      obtain ⟨k, hk, rfl, hall, hbel⟩ := hrel
      have HA := Lib.hid hall; clear hall
      have HB := Lib.hid hbel; clear hbel
      by_cases hlt : k < ps.length
      · obtain rfl := HPQ.out (by omega)
        obtain ⟨p', cap', b', o', he, -, -, hp', hc'⟩ := HPS.out.keep plcR_keeps HB.out
        cases he
        cases hp' (by omega)
        obtain ⟨g0, g1, g2⟩ := hc' k hlt
        generalize hxk : ps[k] = x at g1 g2
        obtain ⟨x1, x2⟩ := x
        simp only [] at g1 g2
        have HX := Lib.hid hxk; clear hxk hp' hc'
        have hq : Hid (closedP l ps (x1, x2) = (decide ((refsV (beginR l) l x1 x2).2.2 = 0) && !outB ps (refsV (beginR l) l x1 x2).1)) := rfl
        have HCON := Lib.hid (refRefs_any (.slice qv l.length cv) l x1 x2 wr (HO.out.keep HB.out))
        rw [HSR.out.beg] at HCON
        generalize refsV (beginR l) l x1 x2 = rv at hq HCON
        obtain ⟨rl, rn, rc⟩ := rv
        simp only [] at hq HCON
        unfold RefsPost at HCON
        go_wp2_with fail
        refine HCON.out.mono ?_
        rintro e w6 ⟨vo, rfl, hrow, hB⟩
        have HB6 : Hid (Below w.heap.size w w6) := HB.out.trans (hB.mono HB.out.size)
        have HROW := Lib.hid hrow
        obtain ⟨pr, cr, br, orr, rfl, -, hmr, hpr, -⟩ := hrow
        have HPR := Lib.hid hpr; clear hpr
        clear HCON hB g0 g1 g2
        by_cases hrc : rc = 0
        · subst hrc
          obtain ⟨wz, hwz⟩ : ∃ wz : World, wz = wr := ⟨_, rfl⟩
          go_wp2
          go_loopw [11] (fun i wy => ∃ j : Nat, j ≤ rl.length ∧ i = .int .i64 j ∧ (rl.take j).all (fun q => inG ps (toG q)) = true ∧ Below w6.heap.size w6 wy) (fun i _ => rl.length - (intOf i).toNat)
          case atStart => exact ⟨0, Nat.zero_le _, rfl, rfl, Below.refl _ _⟩
          case round =>
            obtain ⟨j, hj, rfl, halj, hbej⟩ := hrel
            have HAJ := Lib.hid halj; clear halj
            have HBJ2 := Lib.hid hbej; clear hbej
            have HBY : Hid (Below w.heap.size w wr) := HB6.out.trans (HBJ2.out.mono HB6.out.size)
            by_cases hlj : j < rl.length
            · obtain rfl := HPR.out (by omega)
              obtain ⟨p', cap', b', o', he, -, -, hp', hc'⟩ := HROW.out.keep placeR_keeps HBJ2.out
              cases he
              cases hp' (by omega)
              obtain ⟨g0, g1, g2⟩ := hc' j hlj
              generalize hqj : rl[j] = q at g1 g2
              obtain ⟨q1, q2⟩ := q
              simp only [] at g1 g2
              have HQ := Lib.hid hqj; clear hqj hp' hc'
              have HH := Lib.hid (has18_any _ ps (toG (q1, q2)) wr (HPS.out.keep plcR_keeps HBY.out))
              have HIN : Hid (inG ps (toG (q1, q2)) = inG ps (toG (q1, q2))) := rfl
              generalize hin : inG ps (toG (q1, q2)) = bin at HH HIN
              have HIN2 := Lib.hid hin; clear hin HIN
              unfold toG at HH
              simp only [] at HH
              cases bin with
              | false =>
                go_wp2_with fail
                refine HH.out.mono ?_
                rintro e w8 ⟨rfl, hB8⟩
                go_wp2
                go_ret
                exact ⟨(closedB_no hlt HX.out (by rw [hq.out, outB_yes hlj HQ.out HIN2.out]; rfl)).symm ▸ rfl, HBY.out.trans (hB8.mono HBY.out.size)⟩
              | true =>
                go_wp2_with fail
                refine HH.out.mono ?_
                rintro e w8 ⟨rfl, hB8⟩
                go_wp2
                go_roundw
                case rel => exact ⟨j + 1, by omega, by go_num, take_all_snoc hlj HQ.out HAJ.out HIN2.out, HBJ2.out.trans (hB8.mono HBJ2.out.size)⟩
                case measure => simp [intOf]; omega
            · have HN := Lib.hid (outB_no hlj HAJ.out)
              go_wp2
              go_roundw
              case rel => exact ⟨k + 1, by omega, by go_num, take_all_snoc hlt HX.out HA.out (by rw [hq.out, HN.out]; rfl), HBY.out⟩
              case measure => simp [intOf]; omega
        · have b1 : (rc != 0) = true := by simpa using hrc
          have HN : Hid (closedP l ps (x1, x2) = false) := by rw [Hid, hq.out]; simp [hrc]
          clear hrc
          go_wp2
          go_ret
          exact ⟨(closedB_no hlt HX.out HN.out).symm ▸ rfl, HB6.out⟩
      · have HE : Hid (closedB l ps (m1, m2) = true) := by rw [Hid, closedB, HBJ.out, all_end hlt HA.out]; rfl
        go_wp2
        go_ret
        exact ⟨HE.out.symm ▸ rfl, HB.out⟩
set_option maxRecDepth 100000 in
set_option maxHeartbeats 4000000 in
theorem rfilled_any (v av : Value) (l : List GObj) (wh : List GAddr) (p : GP) (s : GSym) (w : World) (h : ObjsAt w v l) (ha : RowAt 3 AddrR w av wh)
    (hs : symAt l p = some s) (hb : s.bytes.size < 4294967296) (hrl : (refsV (beginR l) l p.1 p.2).1.length ≤ 100000) (hsr : SameR l) :
    Calls Tryz.prog 66 #[v, av, .agg #[.int .i64 p.1, .int .i64 p.2]] w fun e w' =>
      e = .returned (.tuple #[.string (filledR l wh p s).1, .int .i64 (filledR l wh p s).2]) ∧ Below w.heap.size w w' := by
  have HRF : Hid (∀ W, Below w.heap.size w W → Calls Tryz.prog 163 #[v, .agg #[.int .i64 p.1, .int .i64 p.2]] W (RefsPost W (refsV (beginR l) l p.1 p.2).1 (refsV (beginR l) l p.1 p.2).2.1 (refsV (beginR l) l p.1 p.2).2.2)) := fun W hB => by
    have := refRefs_any v l p.1 p.2 W (h.keep hB)
    rw [hsr.beg] at this; exact this
  have HFI : Hid (filledR l wh p s = fillR s (addrsOf wh (refsV (beginR l) l p.1 p.2).1)) := rfl
  have HH := Lib.hid h
  have HAD := Lib.hid ha
  have HS := Lib.hid hs
  have HBS := Lib.hid hb; clear hb
  clear hsr
  generalize refsV (beginR l) l p.1 p.2 = rv at HRF HFI hrl
  obtain ⟨rl, rn, rc⟩ := rv
  simp only [] at HRF HFI hrl
  obtain ⟨an, bn, han, hbn, rfl, hsy⟩ := symAt_some hs
  obtain ⟨pv, cv, hv⟩ : ∃ (pv : Option Addr) (cv : Nat), v = .slice pv l.length cv := by obtain ⟨p, cap, b, o, rfl, _⟩ := h; exact ⟨p, cap, rfl⟩
  obtain ⟨pa, ca, hav⟩ : ∃ (pa : Option Addr) (ca : Nat), av = .slice pa wh.length ca := by obtain ⟨p, cap, b, o, rfl, _⟩ := ha; exact ⟨p, cap, rfl⟩
  subst hv hav
  simp only [] at HRF
  clear h ha hs
  have n0 : (w.alloc (.cells #[.int .i64 an, .int .i64 bn] 63)).cell? ⟨w.heap.size, 0, none⟩ = some (.int .i64 an) := by simp [go_sem]
  have n1 : (w.alloc (.cells #[.int .i64 an, .int .i64 bn] 63)).cell? ⟨w.heap.size, 1, none⟩ = some (.int .i64 bn) := by simp [go_sem]
  generalize hW : (w.alloc (.cells #[.int .i64 an, .int .i64 bn] 63)) = w1 at n0 n1
  have z1 : w1.heap.size = w.heap.size + 1 := by subst hW; simp
  have HB1 : Hid (Below w.heap.size w w1) := by subst hW; exact alloc_old w _
  go_enter Tryz.func66, Tryz.ntmps66
  go_wp2_with fail
  try rw [hW]
  clear hW
  go_wp2_with fail
  refine (HRF.out _ HB1.out).mono ?_
  unfold RefsPost
  rintro e wc ⟨vo, rfl, hrow, hBc⟩
  have HBC : Hid (Below w.heap.size w wc) := HB1.out.trans (hBc.mono (by omega))
  replace n0 := cell_keep hBc (by omega) n0
  replace n1 := cell_keep hBc (by omega) n1
  have hzc : w.heap.size < wc.heap.size := by have := hBc.size; omega
  obtain ⟨pr, cr, br, orr, rfl, -, -, hpr, hrr⟩ := hrow
  have HPR := Lib.hid hpr; clear hpr
  have HRR := Lib.hid hrr; clear hrr
  clear hBc HRF
  go_wp2
  obtain ⟨iU, s0, s1, s2, s3⟩ := info_parts info_u32
  have HI := Lib.hid (And.intro s0 (And.intro s1 (And.intro s2 s3)))
  clear s0 s1 s2 s3
  go_loopw [11, 12] (fun v9 v26 wr => ∃ k : Nat, v26 = .int .i64 k ∧ k ≤ rl.length ∧ wr.ownsRow wc.heap.size 27 1 v9 k (cellsU .u32 (addrsOf wh (rl.take k))) ∧ Below w.heap.size w wr ∧ Below wc.heap.size wc wr) (fun v9 v26 _ => rl.length - (intOf v26).toNat)
  case atStart => exact ⟨0, by go_num, Nat.zero_le _, World.ownsRow_nil _ _ _ _, HBC.out, Below.refl _ _⟩
  case round =>
    obtain ⟨k, rfl, hk, hu, hB, hBr⟩ := hrel
    have HU := Lib.hid hu
    have HB := Lib.hid hB; clear hB
    have HBR := Lib.hid hBr; clear hBr
    obtain ⟨pu, cu, rfl⟩ := own_shape hu
    clear hu
    have m0 := cell_keep HBR.out hzc n0
    have m1 := cell_keep HBR.out hzc n1
    have hzr : w.heap.size < wr.heap.size := size_keep HBR.out hzc
    have hcr := HBR.out.size
    by_cases hlt : k < rl.length
    · obtain rfl := HPR.out (by omega)
      obtain ⟨g0, g1, g2⟩ := placeR_keeps _ _ _ _ _ HBR.out (HRR.out k hlt)
      generalize hqq : rl[k] = q at g1 g2
      have HQ := Lib.hid hqq; clear hqq
      obtain ⟨qa, qb⟩ := q
      simp only [] at g1 g2
      have HLF : Hid (Calls Tryz.prog 68 #[.slice pa wh.length ca, .agg #[.int .i64 qa, .int .i64 qb]] wr fun e w' => e = .returned (.tuple #[.int .u32 (layFind wh (qa, qb)).1, .bool (layFind wh (qa, qb)).2]) ∧ Below wr.heap.size wr w') :=
        refFind14_any _ wh (qa, qb) wr (HAD.out.keep addrR_keeps HB.out)
      have HSN : Hid (addrsOf wh (rl.take (k + 1)) = addrsOf wh (rl.take k) ++ [(layFind wh (qa, qb)).1]) := addrsOf_snoc hlt HQ.out
      generalize layFind wh (qa, qb) = lf at HLF HSN
      obtain ⟨la, lb⟩ := lf
      simp only [] at HLF HSN
      go_wp2_with fail
      refine HLF.out.mono ?_
      rintro e w4 ⟨rfl, hB4⟩
      have HU4 := Lib.hid (own_congr HU.out fun q hq => hB4.block q (HU.out.lt q hq).2)
      have HB4 := Lib.hid hB4
      have hz4 : wr.heap.size ≤ w4.heap.size := hB4.size
      clear hB4 HLF m0 m1
      go_wp2_with (at_builtin; refine wpList_append_own _ rfl _ _ 264 rfl wc.heap.size 27 iU _ 1 4 Tryz.underlying264 HI.out.1 HI.out.2.1 HI.out.2.2.1 HI.out.2.2.2 rfl (by decide) _ k (cellsU .u32 (addrsOf wh (rl.take k))) rfl ?c0 _ 1 1 [.int .u32 la] rfl rfl ?c1 one_u32 ?c3 ?c4 ?c5 ?_)
      case c0 => exact HU4.out.alloc _
      case c1 => exact one_new (by simp [go_sem])
      case c3 => unfold maxLen; omega
      case c4 => omega
      case c5 => simp; omega
      intro v' w' hown3 hgrow3 _
      have HO3 : Hid (w'.ownsRow wc.heap.size 27 1 v' (k + 1) (cellsU .u32 (addrsOf wh (rl.take (k + 1))))) := by
        have e : cellsU .u32 (addrsOf wh (rl.take (k + 1))) = cellsU .u32 (addrsOf wh (rl.take k)) ++ [.int .u32 la] := by rw [HSN.out]; simp [cellsU]
        rw [Hid, e]; exact hown3
      have hlast : Below wc.heap.size wr w' := (((HB4.out.mono hcr).alloc (by omega) _).grown hgrow3 (by simp; omega) (fun q e => (HU4.out.lt q e).1))
      have HL := Lib.hid hlast
      clear hown3 hgrow3 hlast
      have hwc := HBC.out.size
      go_wp2
      go_roundw
      case rel => exact ⟨k + 1, by go_num, by omega, HO3.out, HB.out.trans (HL.out.mono (by omega)), HBR.out.trans HL.out⟩
      case measure => simp [intOf]; omega
    · obtain rfl : k = rl.length := by omega
      have hke : rl.take rl.length = rl := List.take_length
      rw [hke] at HU
      have hls : (addrsOf wh rl).length = rl.length := addrsOf_len _ _
      have hrow : RowAt 1 NumR wr (.slice pu rl.length cu) (addrsOf wh rl) := urow_num (base := wc.heap.size) (by unfold URow; rw [hls]; exact HU.out) (by rw [addrsOf_len]; omega) (fun x hx => by
        simp only [addrsOf, List.mem_map] at hx
        obtain ⟨q, -, rfl⟩ := hx
        exact layFind_num HAD.out _)
      have HNU := Lib.hid hrow
      obtain ⟨pT, capT, bT, oT, heT, -, -, hpT, hcT⟩ := HH.out.keep HB.out
      cases heT
      obtain rfl := hpT (by omega)
      obtain ⟨vs, e0, e1, e2, ⟨pS, capS, bS, oS, rfl, hcapS, hmaxS, hpS, hcS⟩, -⟩ := hcT an han
      obtain rfl := hpS (by omega)
      obtain ⟨vr, vn, s0, s1, s2, s3, s4, s5, s6, s7, hin⟩ := hcS bn hbn
      obtain ⟨p1, q1, p2, q2, rfl, rfl⟩ := hin.shape
      have hnb : bn < l[an].syms.length := hbn
      have hy : l[an].syms[bn] = s := hsy
      rw [hy] at s1 s2 s3 s4 s5 s6 s7 hin
      clear hcT hpT hcS hpS e1 hy hrow hls hke
      generalize l[an].syms.length = nS at e2 hnb hcapS hmaxS
      have HIN := Lib.hid hin
      have HFC : Hid (∀ x : BW wr, Calls Tryz.prog 166 #[.agg #[.string s.name, .int .u8 s.bind, .int .u8 s.kind, .int .u32 s.size, .string s.bytes, .slice p1 s.rels.length q1, .slice p2 s.notes.length q2], .slice pu rl.length cu] x.u fun e w' => e = .returned (.tuple #[.string (fillR s (addrsOf wh rl)).1, .int .i64 (fillR s (addrsOf wh rl)).2]) ∧ ∃ y : BW wr, w' = y.u) :=
        fun x => calls_below (rfill_any s _ _ _ (addrsOf wh rl) x.u (SymIn.keep x.b HIN.out) HBS.out (HNU.out.keep numR_keeps x.b))
      generalize fillR s (addrsOf wh rl) = fr at HFC HFI
      obtain ⟨yn, yb, yk, ys, yy, yr, yt⟩ := s
      simp only [] at s1 s2 s3 s4 s5 s6 s7 HFC
      clear hin
      have c0 := bw_cell hzr m0
      have c1 := bw_cell hzr m1
      have c2 := bw_cell e0 e2
      have d1 := bw_cell s0 s1
      have d2 := bw_cell s0 s2
      have d3 := bw_cell s0 s3
      have d4 := bw_cell s0 s4
      have d5 := bw_cell s0 s5
      have d6 := bw_cell s0 s6
      have d7 := bw_cell s0 s7
      go_wp2
      refine wp_region_below (by kernel_rfl) (by kernel_rfl) ?_
      repeat (first | go_big_quiet_skip | quiet_step ((go_at_call 166; exact HFC.out _)))
      refine wpQuiet_nil ?_
      rintro w4 hx4; have hB4 : Below wr.heap.size wr w4 := bw_of hx4; clear hx4
      clear c0 c1 c2 d1 d2 d3 d4 d5 d6 d7
      go_wp2
      go_ret2
      rw [HFI.out]
      exact ⟨rfl, HB.out.trans (hB4.mono HB.out.size)⟩
end Go.Proofs.YtdjgkmpjhpnkeaaGreatDoor
