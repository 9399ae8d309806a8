/- The walks of reloc.begin, at, put and Fill. The walk of reloc.Fill. A row of integers of one's own under slices.Sort and slices.Compact. No program in sight but its types. A region that only reads, and whose callees make memory but change nothing that was there: one walk in the order of the text. No program in sight. The walks of slices.Contains and slices.ContainsFunc at places, and of link's closure. -/
import Derived.Test.YtdjgkmpjhpnkeaaGreatDoorBd08
import Derived.Deep.OwnRows
import Derived.Test.YtdjgkmpjhpnkeaaGreatDoorBd04
import Derived.Test.YtdjgkmpjhpnkeaaGreatDoorBd03
import Derived.Lib.Builder
import Derived.Lib.SlicesCompact
import Derived.Sort.Row
import Derived.Sort.Walk13
import Derived.Deep.QuietTactic
import Derived.BigQuiet
import Derived.WalkKit
import Derived.Test.YtdjgkmpjhpnkeaaGreatDoorBd07
namespace Go.Proofs.YtdjgkmpjhpnkeaaGreatDoor
open Go.RowKit
/-- a filling under way: its box, its bytes -/
structure FillSt (w : World) (B fb gb : Nat) (s : GSym) (vr vn : Value) (l : BL) : Prop where
  bx : ∃ T, w.heap[fb]? = some (.cells #[.string s.name, .int .u8 s.bind, .int .u8 s.kind, .int .u32 s.size, .string s.bytes, vr, vn, .slice (some ⟨gb, 0, none⟩) l.length l.length] T (0, 0))
  row : ByteRow w gb l
  fle : B ≤ fb
  gle : B ≤ gb
  ne : fb ≠ gb
theorem madeBytes (n : Nat) : madeCells #[.int .u8 0] n = (Lib.byteCells (List.replicate n 0)).toArray := by
  apply Array.ext
  · simp [madeCells, Lib.byteCells]
  · intro i h1 h2
    simp [madeCells, Lib.byteCells, Nat.mod_one]
theorem byteRow_new (w1 : World) (l : BL) (T : TypeId) (o : Obj) : ByteRow ((w1.alloc (.cells (Lib.byteCells l).toArray T)).alloc o).drew w1.heap.size l :=
  ⟨T, by show ((w1.heap.push (.cells (Lib.byteCells l).toArray T)).push o)[w1.heap.size]? = _; simp [Array.getElem?_push]⟩
theorem box_new (w1 : World) (o o2 : Obj) : ((w1.alloc o2).alloc o).drew.heap[w1.heap.size + 1]? = some o := by
  show ((w1.heap.push o2).push o)[w1.heap.size + 1]? = _
  rw [show w1.heap.size + 1 = (w1.heap.push o2).size by simp, Array.getElem?_push_size]
theorem below_new2 (w1 : World) (o o2 : Obj) : Below w1.heap.size w1 ((w1.alloc o2).alloc o).drew := ((alloc_old w1 o2).trans ((alloc_old _ o).mono (by simp))).drew
theorem bytes_over {sy : ByteArray} {n : Nat} : putB (List.replicate n 0) sy.data.toList 0 = sy.data.toList ++ List.replicate (n - sy.size) 0 := by
  simp [putB, List.drop_replicate]
set_option maxHeartbeats 1000000 in
set_option maxRecDepth 100000 in
theorem begin15_any (s : GSym) (vr vn : Value) (w : World) (h : SymIn w s vr vn) (hb : s.bytes.size < 4294967296) :
    Calls Tryz.prog 279 #[.agg #[.string s.name, .int .u8 s.bind, .int .u8 s.kind, .int .u32 s.size, .string s.bytes, vr, vn], .string s.bytes] w fun e w' =>
      Below w.heap.size w w' ∧ ((symOkP s = false ∧ e = .returned (.tuple #[.pointer none, .int .i64 2])) ∨
        (symOkP s = true ∧ ∃ fb gb, e = .returned (.tuple #[.pointer (some ⟨fb, 0, none⟩), .int .i64 0]) ∧ FillSt w' w.heap.size fb gb s vr vn (bytes0 s))) := by
  have HM := Lib.hid (objSym_any s vr vn _ (SymIn.keep (alloc_old w (.cells #[.string s.name, .int .u8 s.bind, .int .u8 s.kind, .int .u32 s.size, .string s.bytes, vr, vn] 72)) h))
  obtain ⟨p1, q1, p2, q2, rfl, rfl⟩ := h.shape
  cases hs : symOkP s with
  | false =>
    rw [hs] at HM
    clear hs h
    obtain ⟨sn, sb, sk, ss, sy, sr, st⟩ := s
    simp only [] at HM ⊢
    go_enter Tryz.func279, Tryz.ntmps279
    go_wp2_with fail
    refine HM.out.mono ?_
    rintro e w1 ⟨rfl, hB⟩
    clear HM
    go_wp2
    go_ret2
    exact ⟨(alloc_old w _).trans (hB.mono (by simp)), .inl ⟨by simp, rfl⟩⟩
  | true =>
    rw [hs] at HM
    obtain ⟨f1, f2, f3, f4, f5⟩ := symOk_fits hs hb
    have HL := Lib.hid (bytes0_length f1)
    clear f4 f5 hs h
    obtain ⟨n, hn⟩ : ∃ n : Nat, s.size = n := ⟨s.size.toNat, by omega⟩
    have HZ : Hid (bytes0 s = s.bytes.data.toList ++ List.replicate (n - s.bytes.size) 0) := by unfold bytes0; rw [hn]; rfl
    generalize bytes0 s = bz at HZ HL ⊢
    obtain ⟨sn, sb, sk, ss, sy, sr, st⟩ := s
    simp only [] at hn f1 f2 f3 HM HZ HL ⊢
    subst hn
    have hmk : ∀ w : World, (Instr.makeSlice 130 (.int .u32 (n : Int)) (.int .u32 (n : Int))).run Tryz.prog w = .ok (.slice (some ⟨w.heap.size, 0, none⟩) n n) (w.alloc (.cells (madeCells #[.int .u8 0] n) 5)) := fun w =>
      run_make_row' 130 5 (.int .u8 0) 1 Tryz.underlying130 info_byte rfl .u32 .u32 n (by omega) (by omega) w
    go_enter Tryz.func279, Tryz.ntmps279
    go_wp2_with fail
    refine HM.out.mono ?_
    rintro e w1 ⟨rfl, hB⟩
    clear HM
    obtain ⟨hc, hf⟩ := bcell hB
    have hz : w.heap.size < w1.heap.size := by have := hB.size; simp at this; omega
    have HB : Hid (Below w.heap.size w w1) := (alloc_old w _).trans (hB.mono (by simp))
    clear hB
    go_wp2
    go_region
    have hbr := byteRow_new w1 (List.replicate n 0) 5 (.cells #[.string sn, .int .u8 sb, .int .u8 sk, .int .u32 (n : Int), .string sy, .slice p1 sr.length q1, .slice p2 st.length q2, .slice (some ⟨w1.heap.size, 0, none⟩) n n] 372)
    rw [← madeBytes] at hbr
    obtain ⟨W, hrun, hrow, hkb⟩ := hbr.copy 130 9 3 5 0 n n sy Tryz.underlying130 (by kernel_rfl) (by omega) (by simp; omega)
    have HR := Lib.hid hrow; clear hrow hbr
    have HK := Lib.hid hkb; clear hkb
    go_wp2
    go_ret2
    have hz2 : (((w1.alloc (.cells (madeCells #[.int .u8 0] n) 5)).alloc (.cells #[.string sn, .int .u8 sb, .int .u8 sk, .int .u32 (n : Int), .string sy, .slice p1 sr.length q1, .slice p2 st.length q2, .slice (some ⟨w1.heap.size, 0, none⟩) n n] 372)).drew).heap.size = w1.heap.size + 2 := by simp [World.drew]
    refine ⟨HB.out.trans (((below_new2 w1 _ _).trans (HK.out.below (by rw [hz2]; omega) (fun k hk => by omega))).mono HB.out.size), .inr ⟨trivial, w1.heap.size + 1, w1.heap.size, rfl, ?_⟩⟩
    have hrow := HR.out
    rw [bytes_over, ← HZ.out] at hrow
    have hll : bz.length = n := by have := HL.out; simpa using this
    refine ⟨⟨372, ?_⟩, hrow, by omega, by omega, by omega⟩
    rw [HK.out.block _ (by rw [hz2]; omega) (by omega), box_new, hll]
theorem FillSt.fbox {w : World} {B fb gb : Nat} {s : GSym} {vr vn : Value} {l : BL} (h : FillSt w B fb gb s vr vn l) :
    fb < w.heap.size ∧ w.cell? ⟨fb, 5, none⟩ = some vr ∧ w.cell? ⟨fb, 7, none⟩ = some (.slice (some ⟨gb, 0, none⟩) l.length l.length) ∧ (∀ j, w.frozen? ⟨fb, j, none⟩ = false) := by
  obtain ⟨T, hb⟩ := h.bx
  exact ⟨(Array.getElem?_eq_some_iff.1 hb).1, Lib.cell_of_heap hb 5, Lib.cell_of_heap hb 7, fun j => Lib.frozen_of_heap hb _⟩
theorem FillSt.keep {w w' : World} {B fb gb : Nat} {s : GSym} {vr vn : Value} {l : BL} (h : FillSt w B fb gb s vr vn l) (hb : Below w.heap.size w w') : FillSt w' B fb gb s vr vn l := by
  obtain ⟨T, hx⟩ := h.bx
  exact ⟨⟨T, (hb.block _ (Array.getElem?_eq_some_iff.1 hx).1).trans hx⟩, h.row.below hb, h.fle, h.gle, h.ne⟩
set_option maxHeartbeats 1000000 in
set_option maxRecDepth 100000 in
theorem at15_any (B fb gb : Nat) (s : GSym) (vr vn : Value) (l : BL) (o : Nat) (kd : Int) (nm : ByteArray) (ad : Int) (wd : Nat) (w : World) (h : FillSt w B fb gb s vr vn l) (hk : (kd = 1 ∧ wd = 4) ∨ (kd = 2 ∧ wd = 2)) (hf : o + wd ≤ l.length) (hl : l.length ≤ 8192) :
    Calls Tryz.prog 311 #[.pointer (some ⟨fb, 0, none⟩), .agg #[.int .u32 (o : Int), .int .u8 kd, .string nm, .int .u32 ad]] w fun e w' =>
      e = .returned (.slice (some ⟨gb, o, none⟩) wd wd) ∧ Below w.heap.size w w' := by
  obtain ⟨hfb, hc5, hc7, hfz⟩ := h.fbox
  clear h hc5
  have hw4 : IntKind.u32.wrap ((o : Int) + 4) = ((o + 4 : Nat) : Int) := by rw [IntKind.wrap_u32]; omega
  have hw2 : IntKind.u32.wrap ((o : Int) + 2) = ((o + 2 : Nat) : Int) := by rw [IntKind.wrap_u32]; omega
  have h7 := cell_keep (alloc_old w (.cells #[.int .u32 (o : Int), .int .u8 kd, .string nm, .int .u32 ad] 211)) hfb hc7
  rcases hk with ⟨rfl, rfl⟩ | ⟨rfl, rfl⟩
  all_goals
    go_enter Tryz.func311, Tryz.ntmps311
    go_wp2
    go_region
    go_wp2_with fail
    go_ret
    exact ⟨by simp, (alloc_old w _).drew⟩
theorem FillSt.below {w : World} {B fb gb : Nat} {s : GSym} {vr vn : Value} {l : BL} {w' : World} {l' : BL} (h : FillSt w B fb gb s vr vn l) (hl : l'.length = l.length) (hk : KB (fun k => k = gb) w w') (hr : ByteRow w' gb l') :
    FillSt w' B fb gb s vr vn l' := by
  obtain ⟨T, hx⟩ := h.bx
  refine ⟨⟨T, ?_⟩, hr, h.fle, h.gle, h.ne⟩
  rw [hl, hk.block _ (Array.getElem?_eq_some_iff.1 hx).1 h.ne]
  exact hx
set_option maxHeartbeats 1000000 in
set_option maxRecDepth 100000 in
theorem put15_over (B fb gb : Nat) (s : GSym) (vr vn : Value) (l : BL) (o : Nat) (nm : ByteArray) (ad v : Int) (w : World) (h : FillSt w B fb gb s vr vn l) (hf : o + 2 ≤ l.length) (hl : l.length ≤ 8192) (hv : 65536 ≤ v) (hv2 : v ≤ 4294967295) :
    Calls Tryz.prog 280 #[.pointer (some ⟨fb, 0, none⟩), .agg #[.int .u32 (o : Int), .int .u8 2, .string nm, .int .u32 ad], .int .u32 v] w fun e w' =>
      e = .returned (.int .i64 150) ∧ Below w.heap.size w w' := by
  have HA := Lib.hid (at15_any B fb gb s vr vn l o 2 nm ad 2 _ (h.keep (alloc_old w (.cells #[.int .u32 (o : Int), .int .u8 2, .string nm, .int .u32 ad] 211))) (.inr ⟨rfl, rfl⟩) hf hl)
  clear h
  go_enter Tryz.func280, Tryz.ntmps280
  go_wp2_with fail
  refine HA.out.mono ?_
  rintro e w1 ⟨rfl, hB⟩
  clear HA
  have hd : (v / 65536 != 0) = true := by simp; omega
  go_wp2_with fail
  go_ret
  exact ⟨rfl, (alloc_old w _).trans (hB.mono (by simp))⟩
set_option maxHeartbeats 1000000 in
set_option maxRecDepth 100000 in
theorem put15_any (B fb gb : Nat) (s : GSym) (vr vn : Value) (l : BL) (o : Nat) (kd : Int) (nm : ByteArray) (ad : Int) (wd : Nat) (v : Int) (w : World) (h : FillSt w B fb gb s vr vn l) (hk : (kd = 1 ∧ wd = 4) ∨ (kd = 2 ∧ wd = 2 ∧ v < 65536)) (hf : o + wd ≤ l.length) (hl : l.length ≤ 8192) (hv : 0 ≤ v) (hv2 : v ≤ 4294967295) :
    Calls Tryz.prog 280 #[.pointer (some ⟨fb, 0, none⟩), .agg #[.int .u32 (o : Int), .int .u8 kd, .string nm, .int .u32 ad], .int .u32 v] w fun e w' =>
      e = .returned (.int .i64 0) ∧ Below B w w' ∧ FillSt w' B fb gb s vr vn (putB l (leB wd v) o) := by
  have HH := Lib.hid h
  have hkk : (kd = 1 ∧ wd = 4) ∨ (kd = 2 ∧ wd = 2) := by omega
  have HA := Lib.hid (at15_any B fb gb s vr vn l o kd nm ad wd _ (h.keep (alloc_old w (.cells #[.int .u32 (o : Int), .int .u8 kd, .string nm, .int .u32 ad] 211))) hkk hf hl)
  have hBw : B ≤ w.heap.size := by have := h.gle; have := h.row.lt; omega
  clear h hkk
  have HB0 : Hid (Below w.heap.size w (w.alloc (.cells #[.int .u32 (o : Int), .int .u8 kd, .string nm, .int .u32 ad] 211))) := alloc_old w _
  rcases hk with ⟨rfl, rfl⟩ | ⟨rfl, rfl, h16⟩
  · go_enter Tryz.func280, Tryz.ntmps280
    go_wp2_with fail
    refine HA.out.mono ?_
    rintro e w1 ⟨rfl, hB⟩
    clear HA
    have HB1 : Hid (Below w.heap.size w w1) := HB0.out.trans (hB.mono (by simp))
    clear hB HB0
    go_wp2_with (go_at_call 181; refine (wput4 v _ hv (by omega)).mono ?_; rintro e w2 ⟨rfl, hB2⟩; have HF := Lib.hid (HH.out.keep (HB1.out.trans (hB2.mono HB1.out.size))); have HB2 : Hid (Below w.heap.size w w2) := HB1.out.trans (hB2.mono HB1.out.size); clear hB2; obtain ⟨W, hrun, hrow, hkb⟩ := HF.out.row.copy 130 9 3 5 o 4 4 (bsOf (leB 4 v)) Tryz.underlying130 (by kernel_rfl) (by simp [bsOf_size, leB_length]) (by simp [bsOf_size, leB_length]; omega); have HR := Lib.hid hrow; have HK := Lib.hid hkb; clear hrow hkb)
    go_ret
    exact ⟨rfl, ((HB2.out.mono hBw).trans (HK.out.below (by have := HB2.out.size; omega) (fun k hk e => by have := HH.out.gle; omega))), HF.out.below (putB_length (by simp [leB_length]; omega)) HK.out HR.out⟩
  · have hd : (v / 65536 != 0) = false := by simp; omega
    go_enter Tryz.func280, Tryz.ntmps280
    go_wp2_with fail
    refine HA.out.mono ?_
    rintro e w1 ⟨rfl, hB⟩
    clear HA
    have HB1 : Hid (Below w.heap.size w w1) := HB0.out.trans (hB.mono (by simp))
    clear hB HB0
    go_wp2_with (go_at_call 181; refine (wput2 v _ hv h16).mono ?_; rintro e w2 ⟨rfl, hB2⟩; have HF := Lib.hid (HH.out.keep (HB1.out.trans (hB2.mono HB1.out.size))); have HB2 : Hid (Below w.heap.size w w2) := HB1.out.trans (hB2.mono HB1.out.size); clear hB2; obtain ⟨W, hrun, hrow, hkb⟩ := HF.out.row.copy 130 9 3 5 o 2 2 (bsOf (leB 2 v)) Tryz.underlying130 (by kernel_rfl) (by simp [bsOf_size, leB_length]) (by simp [bsOf_size, leB_length]; omega); have HR := Lib.hid hrow; have HK := Lib.hid hkb; clear hrow hkb)
    go_ret
    exact ⟨rfl, ((HB2.out.mono hBw).trans (HK.out.below (by have := HB2.out.size; omega) (fun k hk e => by have := HH.out.gle; omega))), HF.out.below (putB_length (by simp [leB_length]; omega)) HK.out HR.out⟩
end Go.Proofs.YtdjgkmpjhpnkeaaGreatDoor
namespace Go.Proofs.YtdjgkmpjhpnkeaaGreatDoor
open Go.RowKit
def NumR (w : World) (b o : Nat) (x : Int) : Prop := b < w.heap.size ∧ w.cell? ⟨b, o, none⟩ = some (.int .u32 x) ∧ 0 ≤ x ∧ x ≤ 4294967295
theorem numR_keeps : Keeps NumR := fun _ _ _ _ _ hb ⟨h0, h1, r⟩ => ⟨size_keep hb h0, cell_keep hb h0 h1, r⟩
set_option maxHeartbeats 2000000 in
set_option maxRecDepth 100000 in
theorem fill_any (s : GSym) (vr vn av : Value) (addrs : List Int) (w : World) (h : SymIn w s vr vn) (hb : s.bytes.size < 4294967296) (ha : RowAt 1 NumR w av addrs) :
    Calls Tryz.prog 229 #[.agg #[.string s.name, .int .u8 s.bind, .int .u8 s.kind, .int .u32 s.size, .string s.bytes, vr, vn], av] w fun e w' =>
      e = .returned (.tuple #[.string (fillR s addrs).1, .int .i64 (fillR s addrs).2]) ∧ Below w.heap.size w w' := by
  have HX := Lib.hid (begin15_any s vr vn _ (SymIn.keep (alloc_old w (.cells #[.string s.name, .int .u8 s.bind, .int .u8 s.kind, .int .u32 s.size, .string s.bytes, vr, vn] 72)) h) hb)
  have HS := Lib.hid h
  have HA := Lib.hid ha
  obtain ⟨pa, ca, ba, oa, rfl, -, hamax, -, -⟩ := ha
  obtain ⟨p1, q1, p2, q2, rfl, rfl⟩ := h.shape
  clear h
  have HB0 : Hid (Below w.heap.size w (w.alloc (.cells #[.string s.name, .int .u8 s.bind, .int .u8 s.kind, .int .u32 s.size, .string s.bytes, .slice p1 s.rels.length q1, .slice p2 s.notes.length q2] 72))) := alloc_old w _
  go_enter Tryz.func229, Tryz.ntmps229
  go_wp2_with fail
  refine HX.out.mono ?_
  rintro e w1 ⟨hB, ⟨hs, rfl⟩ | ⟨hs, fb, gb, rfl, hst⟩⟩
  · go_wp2
    go_ret2
    rw [fillR_bad hs]
    exact ⟨rfl, HB0.out.trans (hB.mono (by simp))⟩
  · have HB1 : Hid (Below w.heap.size w w1) := HB0.out.trans (hB.mono (by simp))
    have HFS : Hid (FillSt w1 w.heap.size fb gb s (.slice p1 s.rels.length q1) (.slice p2 s.notes.length q2) (bytes0 s)) := ⟨hst.bx, hst.row, by have := hst.fle; simp at this; omega, by have := hst.gle; simp at this; omega, hst.ne⟩
    clear hst hB HX HB0
    obtain ⟨hfb, hc5, hc7, hfz⟩ := HFS.out.fbox
    by_cases hlen : addrs.length = s.rels.length
    · have HY := Lib.hid (fillR_yes hs hlen)
      obtain ⟨f1, f2, f3, f4, f5⟩ := symOk_fits hs hb
      have HZL := Lib.hid (bytes0_length f1)
      have HF5 := Lib.hid f5; clear f5
      clear hs
      generalize bytes0 s = bz at HY HFS HZL hc7
      have hd : (addrs.length != s.rels.length) = false := by simpa using hlen
      go_wp2
      go_loopw [36] (fun v0 wr => ∃ (k : Nat) (b : BL), v0 = .int .i64 k ∧ k ≤ s.rels.length ∧ b.length = bz.length ∧ FillSt wr w.heap.size fb gb s (.slice p1 s.rels.length q1) (.slice p2 s.notes.length q2) b ∧ fillL b (s.rels.drop k) (addrs.drop k) = fillL bz s.rels addrs ∧ Below w.heap.size w wr) (fun v0 _ => s.rels.length - (intOf v0).toNat)
      case atStart => exact ⟨0, bz, by go_num, Nat.zero_le _, rfl, HFS.out, by simp, HB1.out⟩
      case round =>
        obtain ⟨k, b, rfl, hk, hbl, hst, hgo, hB⟩ := hrel
        have HG := Lib.hid hgo; clear hgo
        have HBL := Lib.hid hbl; clear hbl
        have HB : Hid (Below w.heap.size w wr) := hB; clear hB
        have HST := Lib.hid hst; clear hst
        obtain ⟨hfb2, hr5, hr7, hrz⟩ := HST.out.fbox
        by_cases hlt : k < s.rels.length
        · have HR := Lib.hid (HS.out.keep HB.out).1
          have HAk := Lib.hid (HA.out.keep numR_keeps HB.out)
          obtain ⟨p1', q1', br, orr, he1, -, -, hp1, hcells⟩ := HR.out
          cases he1
          obtain rfl := hp1 (by omega)
          obtain ⟨pa', ca', bra, ora, he2, -, -, hp2, hcells2⟩ := HAk.out
          cases he2
          obtain rfl := hp2 (by omega)
          obtain ⟨r0, r1, r2, r3, r4, r5, r6, r7, r8⟩ := hcells k hlt
          have hlta : k < addrs.length := by omega
          obtain ⟨a0, a1, a2, a3⟩ := hcells2 k hlta
          have HSTEP := Lib.hid (fillL_step (b := b) hlt hlta rfl rfl)
          obtain ⟨x1, x2, x3⟩ := HF5.out s.rels[k] (List.getElem_mem hlt)
          clear hcells hcells2 hp1 hp2
          generalize s.rels[k] = x at r0 r1 r2 r3 r4 r5 r6 r7 r8 HSTEP x1 x2 x3
          generalize addrs[k] = av at a0 a1 a2 a3 HSTEP
          obtain ⟨xo, xk, xn, xa⟩ := x
          simp only [] at r0 r1 r2 r3 r4 r5 r6 r7 r8 HSTEP x1 x2 x3
          obtain ⟨o, rfl⟩ : ∃ o : Nat, xo = o := ⟨xo.toNat, by omega⟩
          rw [HG.out] at HSTEP
          have hwv : IntKind.u32.wrap (av + xa) = fillV ⟨o, xk, xn, xa⟩ av := by rw [IntKind.wrap_u32]; rfl
          have hv0 : 0 ≤ fillV ⟨o, xk, xn, xa⟩ av := by unfold fillV; omega
          have hv1 : fillV ⟨o, xk, xn, xa⟩ av ≤ 4294967295 := by unfold fillV; omega
          generalize fillV ⟨o, xk, xn, xa⟩ av = fv at hwv hv0 hv1 HSTEP
          have HBx : Hid (Below wr.heap.size wr (wr.alloc (.cells #[.int .u32 (o : Int), .int .u8 xk, .string xn, .int .u32 xa] 211))) := alloc_old wr _
          rw [Nat.mul_one] at a1
          have a1' := cell_keep HBx.out a0 a1
          have HSTx := Lib.hid (HST.out.keep HBx.out)
          by_cases hov : xk = 2 ∧ 65536 ≤ fv
          · obtain ⟨rfl, hv5⟩ := hov
            rw [if_pos ⟨rfl, hv5⟩] at HSTEP
            have hfit : o + 2 ≤ b.length := by have := HZL.out; have := HBL.out; simp only [widthOf] at x3; simp at x3; omega
            have hbl8 : b.length ≤ 8192 := by have := HZL.out; have := HBL.out; omega
            go_wp2_with fail
            go_region_with ((go_at_call 280; refine (put15_over w.heap.size fb gb s _ _ b o xn xa fv _ (FillSt.keep HSTx.out (by go_grown)) hfit hbl8 hv5 hv1).mono ?_; rintro e w3 ⟨rfl, hB3⟩))
            all_goals
              go_wp2_with fail
              go_ret2
              rw [HY.out, HSTEP.out]
              exact ⟨rfl, HB.out.trans ((HBx.out.drew.trans (hB3.mono (by simp))).mono HB.out.size)⟩
          · rw [if_neg hov] at HSTEP
            obtain ⟨wd, hwd, hk2, hfit⟩ : ∃ wd : Nat, (widthOf xk).toNat = wd ∧ ((xk = 1 ∧ wd = 4) ∨ (xk = 2 ∧ wd = 2 ∧ fv < 65536)) ∧ o + wd ≤ b.length := by
              have := HZL.out; have := HBL.out
              rcases x1 with rfl | rfl
              · refine ⟨4, rfl, .inl ⟨rfl, rfl⟩, ?_⟩
                simp only [widthOf] at x3; simp at x3; omega
              · refine ⟨2, rfl, .inr ⟨rfl, rfl, by omega⟩, ?_⟩
                simp only [widthOf] at x3; simp at x3; omega
            rw [hwd] at HSTEP
            simp only [Int.toNat_natCast] at HSTEP
            have hbl8 : b.length ≤ 8192 := by have := HZL.out; have := HBL.out; omega
            have HPL := Lib.hid (putB_length (b := b) (s := leB wd fv) (o := o) (by simp [leB_length]; omega))
            clear hov hwd x1 x2 x3
            go_wp2_with fail
            go_region_with ((go_at_call 280; refine (put15_any w.heap.size fb gb s _ _ b o xk xn xa wd fv _ (FillSt.keep HSTx.out (by go_grown)) hk2 hfit hbl8 hv0 hv1).mono ?_; rintro e w3 ⟨rfl, hB3, hF3⟩))
            all_goals
              go_wp2_with fail
              go_roundw
              case rel => exact ⟨k + 1, _, by go_num, by omega, HPL.out.trans HBL.out, hF3, HSTEP.out.symm, HB.out.trans ((HBx.out.drew.mono HB.out.size).trans hB3)⟩
              case measure => simp [intOf]; omega
        · have hcv := run_bytes_of_row HST.out.row 130 9 5 0 b.length b.length Tryz.underlying130 Tryz.underlying5 Tryz.underlying9 (by omega)
          rw [List.drop_zero, List.take_length] at hcv
          have HE := Lib.hid (fillL_end (addrs := addrs) (b := b) hlt)
          go_wp2
          go_ret2
          rw [HY.out, ← HG.out, HE.out]
          exact ⟨rfl, HB.out⟩
    · have hd : (addrs.length != s.rels.length) = true := by simpa using hlen
      go_wp2
      go_ret2
      rw [fillR_len hlen]
      exact ⟨rfl, HB1.out⟩
end Go.Proofs.YtdjgkmpjhpnkeaaGreatDoor
namespace Go.Proofs.YtdjgkmpjhpnkeaaGreatDoor
open Go.RowKit Go.Sort Go.Lib
variable {K : IntKind} {e : TypeId}
def cellsU (K : IntKind) (l : List Int) : List Value := l.map (.int K)
def URow (K : IntKind) (e : TypeId) (base : Nat) (w : World) (v : Value) (l : List Int) : Prop := w.ownsRow base e 1 v l.length (cellsU K l)
theorem cellsU_length (l : List Int) : (cellsU K l).length = l.length := by simp [cellsU]
theorem URow.holds {base : Nat} {w : World} {l : List Int} {g cap : Nat} (h : URow K e base w (.slice (some ⟨g, 0, none⟩) l.length cap) l) : Holds (Value.int K) w g 0 l.toArray := by
  intro j hj
  have hj' : j < l.length := by simpa using hj
  have h1 : (cellsU K l)[j]? = some (.int K l[j]) := by simp [cellsU, hj']
  have h2 := World.ownsRow.cells h (g := g) rfl j _ h1
  rw [show ((⟨g, 0, none⟩ : Addr).add j) = ⟨g, j, none⟩ by unfold Addr.add; by_cases hz : j = 0 <;> simp [hz]] at h2
  refine ⟨by rw [Nat.zero_add]; simpa [hj'] using h2, ?_⟩
  rcases h.2 with ⟨h3, -⟩ | ⟨g', cap', cur, h3, -, h4, -⟩
  · cases h3
  · cases h3; exact Lib.frozen_of_heap h4 _
theorem putRow_block {w : World} {g n : Nat} {D : Array Int} {os : Array Obj} {cur : Array Value} (h : w.heap[g]? = some (.cells cur e (0, 0))) :
    (grow (putRow (Value.int K) (Sort.ahead w n) g 0 D) os).heap[g]? = some (.cells (putCells (Value.int K) 0 D cur) e (0, 0)) := by
  have hlt := (Array.getElem?_eq_some_iff.1 h).1
  unfold putRow grow mapBlock Sort.ahead
  rw [Array.getElem?_append_left (by simpa using hlt), Array.getElem?_modify]
  simp only [if_true]
  rw [h]
  rfl
theorem putRow_far {w : World} {g n : Nat} {D : Array Int} {os : Array Obj} {k : Nat} (hk : k < w.heap.size) (hne : k ≠ g) : (grow (putRow (Value.int K) (Sort.ahead w n) g 0 D) os).heap[k]? = w.heap[k]? := by
  unfold putRow grow mapBlock Sort.ahead
  rw [Array.getElem?_append_left (by simpa using hk), Array.getElem?_modify, if_neg (fun e => hne e.symm)]
theorem putRow_size {w : World} {g n : Nat} {D : Array Int} {os : Array Obj} : w.heap.size ≤ (grow (putRow (Value.int K) (Sort.ahead w n) g 0 D) os).heap.size := by
  unfold putRow grow mapBlock Sort.ahead
  simp
/-- the row behind the writing: its first part -/
theorem URow.put {base : Nat} {w : World} {l D l' : List Int} {g cap n : Nat} {os : Array Obj} (h : URow K e base w (.slice (some ⟨g, 0, none⟩) l.length cap) l) (hD : D.length = l.length) (hl : l' = D.take l'.length) :
    URow K e base (grow (putRow (Value.int K) (Sort.ahead w n) g 0 D.toArray) os) (.slice (some ⟨g, 0, none⟩) l'.length cap) l' := by
  have hle : l'.length ≤ D.length := by
    have := congrArg List.length hl
    rw [List.length_take] at this; omega
  refine ⟨by rw [cellsU_length]; omega, ?_⟩
  rcases h.2 with ⟨h3, -⟩ | ⟨g', cap', cur, h3, hb, h4, h5, h6, h7, h8⟩
  · cases h3
  · cases h3
    refine .inr ⟨g, cap, putCells (Value.int K) 0 D.toArray cur, rfl, hb, putRow_block h4, by omega, h6, by simp [putCells, h7], ?_⟩
    apply List.ext_getElem?
    intro t
    by_cases ht : t < l'.length
    · have hc : t < cur.size := by omega
      have ht2 : t < D.length := by omega
      have e1 : l'[t]? = some D[t] := by rw [hl, List.getElem?_take, if_pos (by omega)]; simp [ht2]
      rw [List.getElem?_take, if_pos (by omega)]
      simp [putCells, hc, cellsU, e1, ht2]
    · rw [List.getElem?_eq_none (by simp; omega), List.getElem?_eq_none (by rw [cellsU_length]; omega)]
theorem putRow_kb {w : World} {g n : Nat} {D : Array Int} {os : Array Obj} {cap m : Nat} : KB (fun k => (Value.slice (some ⟨g, 0, none⟩) m cap).ownBlock = some k) w (grow (putRow (Value.int K) (Sort.ahead w n) g 0 D) os) :=
  ⟨rfl, rfl, rfl, putRow_size, fun k hk hne => putRow_far hk fun e => hne (by rw [e]; rfl)⟩
end Go.Proofs.YtdjgkmpjhpnkeaaGreatDoor
namespace Go.Proofs.YtdjgkmpjhpnkeaaGreatDoor
open Go.RowKit
/-- a world that keeps all that w has -/
structure BW (w : World) where
  u : World
  b : Below w.heap.size w u
instance (w : World) : Nonempty (BW w) := ⟨⟨w, Below.refl _ _⟩⟩
instance (w : World) : Inhabited (BW w) := ⟨⟨w, Below.refl _ _⟩⟩
theorem wp_region_below {P : Program} {id : Nat} {Q : Exit → Act → World → Prop} {a : Act} {w : World} {l : List Oper} (hm : P.follows .mixedOrders = true) (hB : Region.lexB .any l.toArray = true)
    (h : wpQuiet P l.toArray (fun w' => ∃ x : BW w, w' = x.u) (fun a' => ∀ w', (∃ x : BW w, w' = x.u) → Q .normal a' w') l a) : (Code.region id l.toArray true).wp P Q a w :=
  wp_region_quiet (C := fun w' => ∃ x : BW w, w' = x.u) hm hB ⟨⟨_, (Below.refl _ _).drew⟩, rfl⟩ (by simpa using h)
/-- a callee that makes memory, in a world of the class -/
theorem calls_below {P : Program} {f : FuncId} {args : Array Value} {w : World} {v : Value} {x : BW w}
    (h : Calls P f args x.u fun e w' => e = .returned v ∧ Below x.u.heap.size x.u w') : Calls P f args x.u fun e w'' => e = .returned v ∧ ∃ y : BW w, w'' = y.u :=
  h.mono fun _ w' ⟨he, hb⟩ => ⟨he, ⟨w', x.b.trans (hb.mono x.b.size)⟩, rfl⟩
theorem bw_of {w w' : World} (h : ∃ x : BW w, w' = x.u) : Below w.heap.size w w' := by obtain ⟨x, rfl⟩ := h; exact x.b
theorem bw_cell {w : World} {b o : Nat} {v : Value} (h0 : b < w.heap.size) (h : w.cell? ⟨b, o, none⟩ = some v) : ∀ x : BW w, x.u.cell? ⟨b, o, none⟩ = some v := fun x => by
  rw [x.b.cell (p := ⟨b, o, none⟩) h0]; exact h
end Go.Proofs.YtdjgkmpjhpnkeaaGreatDoor
namespace Go.Proofs.YtdjgkmpjhpnkeaaGreatDoor
open Go.RowKit Go.Maps Go.WideMaps
def eqG (q x : GP) : Bool := decide (q.1 = x.1) && decide (q.2 = x.2)
theorem eqG_iff {q x : GP} : eqG q x = true ↔ q = x := by
  obtain ⟨a, b⟩ := q; obtain ⟨c, d⟩ := x
  simp [eqG]
def inG (ps : List GP) (q : GP) : Bool := ps.any (eqG q)
theorem inG_iff {ps : List GP} {q : GP} : inG ps q = true ↔ q ∈ ps := by
  unfold inG
  rw [List.any_eq_true]
  constructor
  · rintro ⟨x, hx, h⟩; rw [eqG_iff.1 h]; exact hx
  · intro h; exact ⟨q, h, eqG_iff.2 rfl⟩
theorem idxA_geq {α : Type} {p : α → Bool} {l : List α} : decide (0 ≤ idxA (l.findIdx? p)) = l.any p := by
  cases h : l.findIdx? p with
  | none =>
    rw [List.findIdx?_eq_none_iff] at h
    have : l.any p = false := by rw [List.any_eq_false]; intro x hx; simpa using h x hx
    rw [this]; rfl
  | some k =>
    obtain ⟨hk, hp, -⟩ := List.findIdx?_eq_some_iff_getElem.1 h
    have : l.any p = true := List.any_eq_true.2 ⟨_, List.getElem_mem hk, hp⟩
    rw [this]; simp [idxA]
set_option maxHeartbeats 400000 in
theorem indexPlc_any (v : Value) (ps : List GP) (q : GP) (w : World) (h : RowAt 2 PlcR w v ps) :
    Calls Tryz.prog 227 #[v, .agg #[.int .i64 q.1, .int .i64 q.2]] w fun e w' => e = .returned (.int .i64 (idxA (ps.findIdx? (eqG q)))) ∧ Below w.heap.size w w' := by
  obtain ⟨q1, q2⟩ := q
  simp only []
  obtain ⟨pp, cap, b, o, rfl, hcap, hmax, hp, hc⟩ := h
  have HC := Lib.hid hc; clear hc
  have HP := Lib.hid hp; clear hp
  go_enter Tryz.func227, Tryz.ntmps227
  go_wp2
  go_loopw [8] (fun i wr => ∃ k : Nat, k ≤ ps.length ∧ i = .int .i64 k ∧ (ps.take k).all (fun x => !eqG (q1, q2) x) = true ∧ Below w.heap.size w wr ∧ w.heap.size < wr.heap.size ∧ wr.cell? ⟨w.heap.size, 0, none⟩ = some (.int .i64 q1) ∧ wr.cell? ⟨w.heap.size, 1, none⟩ = some (.int .i64 q2)) (fun i _ => ps.length - (intOf i).toNat)
  case atStart => exact ⟨0, Nat.zero_le _, rfl, rfl, alloc_old w _, by simp, by simp [go_sem], by simp [go_sem]⟩
  case round =>
    obtain ⟨k, hk, rfl, hall, hbel, hz, n0, n1⟩ := hrel
    have HA := Lib.hid hall; clear hall
    have HB := Lib.hid hbel; clear hbel
    by_cases hlt : k < ps.length
    · obtain rfl := HP.out (by omega)
      obtain ⟨g0, g1, g2⟩ := plcR_keeps _ _ _ _ _ HB.out (HC.out k hlt)
      generalize hx : ps[k] = x at g1 g2
      obtain ⟨x1, x2⟩ := x
      simp only [] at g1 g2
      have HX := Lib.hid hx; clear hx
      by_cases e1 : q1 = x1
      · subst e1
        by_cases e2 : q2 = x2
        · subst e2
          have hyes : Hid (eqG (q1, q2) (q1, q2) = true) := by rw [Hid]; simp [eqG]
          go_wp2
          go_region
          all_goals
            go_wp2_with fail
            go_ret
            exact ⟨ret_int (by rw [findIdx_some hlt HX.out hyes.out HA.out]; rfl), HB.out.drew⟩
        · have hno : Hid (eqG (q1, q2) (q1, x2) = false) := by rw [Hid]; simp [eqG, e2]
          go_wp2
          go_region
          all_goals
            go_wp2_with fail
            go_roundw
            case rel => exact ⟨k + 1, by omega, by go_num, take_all_snoc hlt HX.out HA.out (by simpa using hno.out), HB.out.drew, by simpa using hz, by simpa [go_sem] using n0, by simpa [go_sem] using n1⟩
            case measure => simp [intOf]; omega
      · have hno : Hid (eqG (q1, q2) (x1, x2) = false) := by rw [Hid]; simp [eqG, e1]
        go_wp2
        go_region
        all_goals
          go_wp2_with fail
          go_roundw
          case rel => exact ⟨k + 1, by omega, by go_num, take_all_snoc hlt HX.out HA.out (by simpa using hno.out), HB.out.drew, by simpa using hz, by simpa [go_sem] using n0, by simpa [go_sem] using n1⟩
          case measure => simp [intOf]; omega
    · go_wp2
      go_ret
      exact ⟨ret_int (by rw [findIdx_none (all_end hlt HA.out)]; rfl), HB.out⟩
set_option maxHeartbeats 400000 in
theorem containsPlc_any (v : Value) (ps : List GP) (q : GP) (w : World) (h : RowAt 2 PlcR w v ps) :
    Calls Tryz.prog 148 #[v, .agg #[.int .i64 q.1, .int .i64 q.2]] w fun e w' => e = .returned (.bool (inG ps q)) ∧ Below w.heap.size w w' := by
  have HI := Lib.hid (indexPlc_any v ps q (w.alloc (.cells #[.int .i64 q.1, .int .i64 q.2] 63)) (RowAt.keep plcR_keeps (alloc_old w _) h))
  have hE : decide (0 ≤ idxA (ps.findIdx? (eqG q))) = inG ps q := idxA_geq
  generalize idxA (ps.findIdx? (eqG q)) = n at hE HI
  have HE := Lib.hid hE; clear hE
  obtain ⟨q1, q2⟩ := q
  obtain ⟨pp, cap, b, o, rfl, -⟩ := h
  go_enter Tryz.func148, Tryz.ntmps148
  go_wp2_with (go_at_call 227; refine HI.out.mono ?_; rintro e w1 ⟨rfl, hB1⟩)
  go_ret
  exact ⟨ret_bool (by rw [← HE.out]), (alloc_old w _).trans (hB1.mono (by simp))⟩
set_option maxHeartbeats 400000 in
theorem closed1_any (q : GP) (nb xb : Nat) (v : Value) (ps : List GP) (w : World) (h : RowAt 2 PlcR w v ps) (hnb : nb < w.heap.size) (hn : w.cell? ⟨nb, 0, none⟩ = some (.pointer (some ⟨xb, 0, none⟩))) (hx : xb < w.heap.size) (hx8 : w.cell? ⟨xb, 8, none⟩ = some v) :
    Calls Tryz.prog 151 #[.agg #[.int .i64 q.1, .int .i64 q.2], .pointer (some ⟨nb, 0, none⟩)] w fun e w' => e = .returned (.bool (!inG ps q)) ∧ Below w.heap.size w w' := by
  have HCON : Hid (∀ x : BW (w.alloc (.cells #[.int .i64 q.1, .int .i64 q.2] 63)), Calls Tryz.prog 148 #[v, .agg #[.int .i64 q.1, .int .i64 q.2]] x.u fun e w' => e = .returned (.bool (inG ps q)) ∧ ∃ y : BW (w.alloc (.cells #[.int .i64 q.1, .int .i64 q.2] 63)), w' = y.u) :=
    fun x => calls_below (containsPlc_any v ps q x.u ((h.keep plcR_keeps (alloc_old w _)).keep plcR_keeps x.b))
  generalize inG ps q = bq at HCON
  obtain ⟨q1, q2⟩ := q
  obtain ⟨pp, cap, b, o, rfl, -⟩ := h
  simp only [] at *
  have hBw := alloc_old w (.cells #[.int .i64 q1, .int .i64 q2] 63)
  have n0 : (w.alloc (.cells #[.int .i64 q1, .int .i64 q2] 63)).cell? ⟨w.heap.size, 0, none⟩ = some (.int .i64 q1) := by simp [go_sem]
  have n1 : (w.alloc (.cells #[.int .i64 q1, .int .i64 q2] 63)).cell? ⟨w.heap.size, 1, none⟩ = some (.int .i64 q2) := by simp [go_sem]
  have m0 := cell_keep hBw hnb hn
  have m1 := cell_keep hBw hx hx8
  have HB0 : Hid (Below w.heap.size w (w.alloc (.cells #[.int .i64 q1, .int .i64 q2] 63))) := hBw
  have hz : (w.alloc (.cells #[.int .i64 q1, .int .i64 q2] 63)).heap.size = w.heap.size + 1 := by simp
  go_enter Tryz.func151, Tryz.ntmps151
  go_wp2
  generalize w.alloc (.cells #[.int .i64 q1, .int .i64 q2] 63) = w1 at *
  have c0 := bw_cell (by omega) n0
  have c1 := bw_cell (by omega) n1
  have c2 := bw_cell (by omega) m0
  have c3 := bw_cell (by omega) m1
  refine wp_region_below rfl (by kernel_rfl) ?_
  repeat (first | go_big_quiet_skip | quiet_step ((go_at_call 148; exact HCON.out _)))
  refine wpQuiet_nil ?_
  rintro w4 hx4; have hB4 : Below w1.heap.size w1 w4 := bw_of hx4; clear hx4
  clear c0 c1 c2 c3
  go_wp2
  go_ret
  exact ⟨rfl, HB0.out.trans (hB4.mono (by omega))⟩
def toG (p : Nat × Nat) : GP := ((p.1 : Int), (p.2 : Int))
set_option maxHeartbeats 400000 in
theorem indexFPlc_any (v : Value) (qs : List (Nat × Nat)) (pv : Value) (ps : List GP) (nb xb : Nat) (w : World) (h : RowAt 2 PlaceR w v qs) (hps : RowAt 2 PlcR w pv ps) (hnb : nb < w.heap.size) (hn : w.cell? ⟨nb, 0, none⟩ = some (.pointer (some ⟨xb, 0, none⟩))) (hx : xb < w.heap.size) (hx8 : w.cell? ⟨xb, 8, none⟩ = some pv) :
    Calls Tryz.prog 228 #[v, .func (.func 151) #[] #[.pointer (some ⟨nb, 0, none⟩)]] w fun e w' => e = .returned (.int .i64 (idxA (qs.findIdx? (fun q => !inG ps (toG q))))) ∧ Below w.heap.size w w' := by
  obtain ⟨pp, cap, b, o, rfl, hcap, hmax, hp, hc⟩ := h
  have HC := Lib.hid hc; clear hc
  have HP := Lib.hid hp; clear hp
  have HPS := Lib.hid hps; clear hps
  have HN := Lib.hid hn; clear hn
  have HX8 := Lib.hid hx8; clear hx8
  go_enter Tryz.func228, Tryz.ntmps228
  go_wp2
  go_loopw [8] (fun i wr => ∃ k : Nat, k ≤ qs.length ∧ i = .int .i64 k ∧ (qs.take k).all (fun q => !(!inG ps (toG q))) = true ∧ Below w.heap.size w wr) (fun i _ => qs.length - (intOf i).toNat)
  case atStart => exact ⟨0, Nat.zero_le _, rfl, rfl, Below.refl _ _⟩
  case round =>
    obtain ⟨k, hk, rfl, hall, hbel⟩ := hrel
    have HA := Lib.hid hall; clear hall
    have HB := Lib.hid hbel; clear hbel
    by_cases hlt : k < qs.length
    · obtain rfl := HP.out (by omega)
      obtain ⟨g0, g1, g2⟩ := placeR_keeps _ _ _ _ _ HB.out (HC.out k hlt)
      have HCON := Lib.hid (closed1_any (toG qs[k]) nb xb pv ps wr (HPS.out.keep plcR_keeps HB.out) (size_keep HB.out hnb) (cell_keep HB.out hnb HN.out) (size_keep HB.out hx) (cell_keep HB.out hx HX8.out))
      unfold toG at HCON
      generalize hx : qs[k] = x at g1 g2 HCON
      obtain ⟨x1, x2⟩ := x
      simp only [] at g1 g2 HCON
      have HX := Lib.hid hx; clear hx
      generalize hbq : (!inG ps (↑x1, ↑x2)) = bq at HCON
      have HBQ := Lib.hid hbq; clear hbq
      go_wp2_with (go_at_call 151; refine HCON.out.mono ?_; rintro e w' ⟨rfl, hB⟩)
      · have hyes : bq = true := by assumption
        go_ret
        exact ⟨ret_int (by rw [findIdx_some hlt HX.out (by rw [← hyes, ← HBQ.out]; rfl) HA.out]; rfl), HB.out.trans (hB.mono HB.out.size)⟩
      · have hno : bq = false := by assumption
        go_roundw
        case rel => exact ⟨k + 1, by omega, by go_num, take_all_snoc hlt HX.out HA.out (by rw [show (!inG ps (toG (x1, x2))) = bq from HBQ.out, hno]; rfl), HB.out.trans (hB.mono HB.out.size)⟩
        case measure => simp [intOf]; omega
    · go_wp2
      go_ret
      exact ⟨ret_int (by rw [findIdx_none (all_end hlt HA.out)]; rfl), HB.out⟩
def outB (ps : List GP) (qs : List (Nat × Nat)) : Bool := qs.any (fun q => !inG ps (toG q))
set_option maxHeartbeats 400000 in
theorem containsFPlc_any (v : Value) (qs : List (Nat × Nat)) (pv : Value) (ps : List GP) (nb xb : Nat) (w : World) (h : RowAt 2 PlaceR w v qs) (hps : RowAt 2 PlcR w pv ps) (hnb : nb < w.heap.size) (hn : w.cell? ⟨nb, 0, none⟩ = some (.pointer (some ⟨xb, 0, none⟩))) (hx : xb < w.heap.size) (hx8 : w.cell? ⟨xb, 8, none⟩ = some pv) :
    Calls Tryz.prog 150 #[v, .func (.func 151) #[] #[.pointer (some ⟨nb, 0, none⟩)]] w fun e w' => e = .returned (.bool (outB ps qs)) ∧ Below w.heap.size w w' := by
  have HI := Lib.hid (indexFPlc_any v qs pv ps nb xb w h hps hnb hn hx hx8)
  have hE : decide (0 ≤ idxA (qs.findIdx? (fun q => !inG ps (toG q)))) = outB ps qs := idxA_geq
  generalize idxA (qs.findIdx? (fun q => !inG ps (toG q))) = n at hE HI
  have HE := Lib.hid hE; clear hE
  obtain ⟨pp, cap, b, o, rfl, -⟩ := h
  clear hn hx8 hps
  go_enter Tryz.func150, Tryz.ntmps150
  go_wp2_with (go_at_call 228; refine HI.out.mono ?_; rintro e w1 ⟨rfl, hB1⟩)
  go_ret
  exact ⟨ret_bool (by rw [← HE.out]), hB1⟩
end Go.Proofs.YtdjgkmpjhpnkeaaGreatDoor
