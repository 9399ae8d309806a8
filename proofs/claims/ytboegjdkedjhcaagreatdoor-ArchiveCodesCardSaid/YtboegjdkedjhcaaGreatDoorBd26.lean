/- The walk of link's sym. The walk of obj.Sym. The walks of reloc.begin, at, put and Fill. The walk of reloc.Fill. Fields of a symbol as a value. -/
import Derived.Test.YtboegjdkedjhcaaGreatDoorBd22
import Derived.Test.YtboegjdkedjhcaaGreatDoorBd02
import Derived.Test.YtboegjdkedjhcaaGreatDoorBd07
import Derived.WalkSmall
import Derived.Test.YtboegjdkedjhcaaGreatDoorBd18
import Derived.Test.YtboegjdkedjhcaaGreatDoorBd10
import Derived.Deep.OwnRows
namespace Go.Proofs.YtboegjdkedjhcaaGreatDoor
open Go.RowKit Go.Maps Go.WideMaps
def SymLPost (w : World) (s : GSym) (e : Ending) (w' : World) : Prop := (∃ vr vn, e = .returned (symV s vr vn) ∧ SymIn w' s vr vn) ∧ Below w.heap.size w w'
set_option maxRecDepth 100000 in
set_option maxHeartbeats 1000000 in
theorem linkSym_at (xb : Nat) (v : Value) (l : List GObj) (a b : Nat) (w : World) (h : ObjsAt w v l) (hx : xb < w.heap.size) (hx7 : w.cell? ⟨xb, 7, none⟩ = some v) (ha : a < l.length) (hb : b < l[a].syms.length) :
    Calls Tryz.prog 117 #[.pointer (some ⟨xb, 0, none⟩), .agg #[.int .i64 a, .int .i64 b]] w (SymLPost w l[a].syms[b]) := by
  obtain ⟨p, cap, bb, o, rfl, hcap, hmax, hp, hc⟩ := h
  obtain rfl := hp (by omega)
  obtain ⟨vs, g0, g1, g2, ⟨pS, capS, bS, oS, rfl, hcapS, hmaxS, hpS, hcS⟩, -⟩ := hc a ha
  obtain rfl := hpS (by omega)
  obtain ⟨vr, vn, s0, s1, s2, s3, s4, s5, s6, s7, hin⟩ := hcS b hb
  obtain ⟨p1, q1, p2, q2, rfl, rfl⟩ := hin.shape
  have hnb : b < l[a].syms.length := hb
  generalize hy : l[a].syms[b] = y at s1 s2 s3 s4 s5 s6 s7 hin ⊢
  clear hc hp hcS hpS g1 hy
  generalize l[a].syms.length = nS at g2 hnb hcapS hmaxS hb
  obtain ⟨yn, yb, yk, ys, yy, yr, yt⟩ := y
  simp only [] at s1 s2 s3 s4 s5 s6 s7 hin ⊢
  have HIN := Lib.hid hin; clear hin
  go_enter Tryz.func117, Tryz.ntmps117
  go_wp2
  generalize hw1 : ((w.alloc (.cells #[.int .i64 a, .int .i64 b] 185)).alloc (.cells #[.string ⟨#[]⟩, .int .u8 0, .int .u8 0, .int .u32 0, .string ⟨#[]⟩, .slice none 0 0, .slice none 0 0] 55)) = w1
  have HB1 : Hid (Below w.heap.size w w1) := by subst hw1; exact (alloc_old w _).alloc (by simp) _
  have z1 : w.heap.size + 1 < w1.heap.size := by subst hw1; simp
  have r0 : w1.cell? ⟨w.heap.size, 0, none⟩ = some (.int .i64 a) := by subst hw1; simp [go_sem]
  have r1 : w1.cell? ⟨w.heap.size, 1, none⟩ = some (.int .i64 b) := by subst hw1; simp [go_sem]
  have t0 : w1.cell? ⟨w.heap.size + 1, 0, none⟩ = some (.string ⟨#[]⟩) := by subst hw1; simp [go_sem]
  have t1 : w1.cell? ⟨w.heap.size + 1, 1, none⟩ = some (.int .u8 0) := by subst hw1; simp [go_sem]
  have t2 : w1.cell? ⟨w.heap.size + 1, 2, none⟩ = some (.int .u8 0) := by subst hw1; simp [go_sem]
  have t3 : w1.cell? ⟨w.heap.size + 1, 3, none⟩ = some (.int .u32 0) := by subst hw1; simp [go_sem]
  have t4 : w1.cell? ⟨w.heap.size + 1, 4, none⟩ = some (.string ⟨#[]⟩) := by subst hw1; simp [go_sem]
  have t5 : w1.cell? ⟨w.heap.size + 1, 5, none⟩ = some (.slice none 0 0) := by subst hw1; simp [go_sem]
  have t6 : w1.cell? ⟨w.heap.size + 1, 6, none⟩ = some (.slice none 0 0) := by subst hw1; simp [go_sem]
  have u : ∀ j, w1.frozen? ⟨w.heap.size + 1, j, none⟩ = false := by intro j; subst hw1; simp [go_sem]
  have u0 := u 0; have u1 := u 1; have u2 := u 2; have u3 := u 3; have u4 := u 4; have u5 := u 5; have u6 := u 6
  clear u hw1
  replace hx7 := cell_keep HB1.out hx hx7
  replace g2 := cell_keep HB1.out g0 g2
  replace s1 := cell_keep HB1.out s0 s1
  replace s2 := cell_keep HB1.out s0 s2
  replace s3 := cell_keep HB1.out s0 s3
  replace s4 := cell_keep HB1.out s0 s4
  replace s5 := cell_keep HB1.out s0 s5
  replace s6 := cell_keep HB1.out s0 s6
  replace s7 := cell_keep HB1.out s0 s7
  go_still_tail 13, (by kernel_rfl)
  change wpList _ _ _ _ _ w1.drew
  go_wp2
  refine bodyPost_ret (v := symV ⟨yn, yb, yk, ys, yy, yr, yt⟩ (.slice p1 yr.length q1) (.slice p2 yt.length q2)) (by simp [results, Tryz.results117, go_sem, symV, *]) rfl ?_
  have hfin : Below w.heap.size w (((((((w1.setCell ⟨w.heap.size + 1, 0, none⟩ (.string yn)).setCell ⟨w.heap.size + 1, 1, none⟩ (.int .u8 yb)).setCell ⟨w.heap.size + 1, 2, none⟩ (.int .u8 yk)).setCell ⟨w.heap.size + 1, 3, none⟩ (.int .u32 ys)).setCell ⟨w.heap.size + 1, 4, none⟩ (.string yy)).setCell ⟨w.heap.size + 1, 5, none⟩ (.slice p1 yr.length q1)).setCell ⟨w.heap.size + 1, 6, none⟩ (.slice p2 yt.length q2)) :=
    ((((((HB1.out.setCell (by simp) _).setCell (by simp) _).setCell (by simp) _).setCell (by simp) _).setCell (by simp) _).setCell (by simp) _).setCell (by simp) _
  exact ⟨⟨_, _, rfl, SymIn.keep hfin.drew HIN.out⟩, hfin.drew⟩
theorem linkSym_any (xb : Nat) (v : Value) (l : List GObj) (p : GP) (s : GSym) (w : World) (h : ObjsAt w v l) (hx : xb < w.heap.size) (hx7 : w.cell? ⟨xb, 7, none⟩ = some v) (hs : symAt l p = some s) :
    Calls Tryz.prog 117 #[.pointer (some ⟨xb, 0, none⟩), .agg #[.int .i64 p.1, .int .i64 p.2]] w (SymLPost w s) := by
  obtain ⟨a, b, ha, hb, rfl, rfl⟩ := symAt_some hs
  exact linkSym_at xb v l a b w h hx hx7 ha hb
end Go.Proofs.YtboegjdkedjhcaaGreatDoor
namespace Go.Proofs.YtboegjdkedjhcaaGreatDoor
open Go.RowKit
set_option maxHeartbeats 400000 in
theorem objSym_any (s : GSym) (vr vn : Value) (w : World) (h : SymIn w s vr vn) :
    Calls Tryz.prog 237 #[.agg #[.string s.name, .int .u8 s.bind, .int .u8 s.kind, .int .u32 s.size, .string s.bytes, vr, vn]] w fun e w' => e = .returned (.int .i64 (errB (symOkP s))) ∧ Below w.heap.size w w' := by
  have HM := Lib.hid (symMay_any s vr vn _ (SymIn.keep (alloc_old w (.cells #[.string s.name, .int .u8 s.bind, .int .u8 s.kind, .int .u32 s.size, .string s.bytes, vr, vn] 55)) h))
  obtain ⟨p1, q1, p2, q2, rfl, rfl⟩ := h.shape
  clear h
  obtain ⟨sn, sb, sk, ss, sy, sr, st⟩ := s
  simp only [] at HM ⊢
  go_enter Tryz.func237, Tryz.ntmps237
  go_wp2_with fail
  refine HM.out.mono ?_
  rintro e w1 ⟨rfl, hB⟩
  have HB : Hid (Below w.heap.size w w1) := (alloc_old w _).trans (hB.mono (by simp))
  clear hB HM
  go_wp2_with (go_at_call 75; refine (told_any _ _).mono ?_; rintro e w1 ⟨rfl, rfl⟩)
  go_ret
  exact ⟨rfl, HB.out⟩
end Go.Proofs.YtboegjdkedjhcaaGreatDoor
namespace Go.Proofs.YtboegjdkedjhcaaGreatDoor
open Go.RowKit
/-- a filling under way: its box, its bytes -/
structure FillSt (w : World) (B fb gb : Nat) (s : GSym) (vr vn : Value) (l : BL) : Prop where
  bx : ∃ T, w.heap[fb]? = some (.cells #[.string s.name, .int .u8 s.bind, .int .u8 s.kind, .int .u32 s.size, .string s.bytes, vr, vn, .slice (some ⟨gb, 0, none⟩) l.length l.length] T (0, 0))
  row : ByteRow w gb l
  fle : B ≤ fb
  gle : B ≤ gb
  ne : fb ≠ gb
theorem madeBytes (n : Nat) : madeCells #[.int .u8 0] n = (Lib.byteCells (List.replicate n 0)).toArray := by
  apply Array.ext
  · simp [madeCells, Lib.byteCells]
  · intro i h1 h2
    simp [madeCells, Lib.byteCells, Nat.mod_one]
theorem byteRow_new (w1 : World) (l : BL) (T : TypeId) (o : Obj) : ByteRow ((w1.alloc (.cells (Lib.byteCells l).toArray T)).alloc o).drew w1.heap.size l :=
  ⟨T, by show ((w1.heap.push (.cells (Lib.byteCells l).toArray T)).push o)[w1.heap.size]? = _; simp [Array.getElem?_push]⟩
theorem box_new (w1 : World) (o o2 : Obj) : ((w1.alloc o2).alloc o).drew.heap[w1.heap.size + 1]? = some o := by
  show ((w1.heap.push o2).push o)[w1.heap.size + 1]? = _
  rw [show w1.heap.size + 1 = (w1.heap.push o2).size by simp, Array.getElem?_push_size]
theorem below_new2 (w1 : World) (o o2 : Obj) : Below w1.heap.size w1 ((w1.alloc o2).alloc o).drew := ((alloc_old w1 o2).trans ((alloc_old _ o).mono (by simp))).drew
theorem bytes_over {sy : ByteArray} {n : Nat} : putB (List.replicate n 0) sy.data.toList 0 = sy.data.toList ++ List.replicate (n - sy.size) 0 := by
  simp [putB, List.drop_replicate]
set_option maxHeartbeats 1000000 in
set_option maxRecDepth 100000 in
theorem begin15_any (s : GSym) (vr vn : Value) (w : World) (h : SymIn w s vr vn) (hb : s.bytes.size < 4294967296) :
    Calls Tryz.prog 228 #[.agg #[.string s.name, .int .u8 s.bind, .int .u8 s.kind, .int .u32 s.size, .string s.bytes, vr, vn], .string s.bytes] w fun e w' =>
      Below w.heap.size w w' ∧ ((symOkP s = false ∧ e = .returned (.tuple #[.pointer none, .int .i64 2])) ∨
        (symOkP s = true ∧ ∃ fb gb, e = .returned (.tuple #[.pointer (some ⟨fb, 0, none⟩), .int .i64 0]) ∧ FillSt w' w.heap.size fb gb s vr vn (bytes0 s))) := by
  have HM := Lib.hid (objSym_any s vr vn _ (SymIn.keep (alloc_old w (.cells #[.string s.name, .int .u8 s.bind, .int .u8 s.kind, .int .u32 s.size, .string s.bytes, vr, vn] 55)) h))
  obtain ⟨p1, q1, p2, q2, rfl, rfl⟩ := h.shape
  cases hs : symOkP s with
  | false =>
    rw [hs] at HM
    clear hs h
    obtain ⟨sn, sb, sk, ss, sy, sr, st⟩ := s
    simp only [] at HM ⊢
    go_enter Tryz.func228, Tryz.ntmps228
    go_wp2_with fail
    refine HM.out.mono ?_
    rintro e w1 ⟨rfl, hB⟩
    clear HM
    go_wp2
    go_ret2
    exact ⟨(alloc_old w _).trans (hB.mono (by simp)), .inl ⟨by simp, rfl⟩⟩
  | true =>
    rw [hs] at HM
    obtain ⟨f1, f2, f3, f4, f5⟩ := symOk_fits hs hb
    have HL := Lib.hid (bytes0_length f1)
    clear f4 f5 hs h
    obtain ⟨n, hn⟩ : ∃ n : Nat, s.size = n := ⟨s.size.toNat, by omega⟩
    have HZ : Hid (bytes0 s = s.bytes.data.toList ++ List.replicate (n - s.bytes.size) 0) := by unfold bytes0; rw [hn]; rfl
    generalize bytes0 s = bz at HZ HL ⊢
    obtain ⟨sn, sb, sk, ss, sy, sr, st⟩ := s
    simp only [] at hn f1 f2 f3 HM HZ HL ⊢
    subst hn
    have hmk : ∀ w : World, (Instr.makeSlice 81 (.int .u32 (n : Int)) (.int .u32 (n : Int))).run Tryz.prog w = .ok (.slice (some ⟨w.heap.size, 0, none⟩) n n) (w.alloc (.cells (madeCells #[.int .u8 0] n) 5)) := fun w =>
      run_make_row' 81 5 (.int .u8 0) 1 Tryz.underlying81 info_byte rfl .u32 .u32 n (by omega) (by omega) w
    go_enter Tryz.func228, Tryz.ntmps228
    go_wp2_with fail
    refine HM.out.mono ?_
    rintro e w1 ⟨rfl, hB⟩
    clear HM
    obtain ⟨hc, hf⟩ := bcell hB
    have hz : w.heap.size < w1.heap.size := by have := hB.size; simp at this; omega
    have HB : Hid (Below w.heap.size w w1) := (alloc_old w _).trans (hB.mono (by simp))
    clear hB
    go_wp2
    go_region
    have hbr := byteRow_new w1 (List.replicate n 0) 5 (.cells #[.string sn, .int .u8 sb, .int .u8 sk, .int .u32 (n : Int), .string sy, .slice p1 sr.length q1, .slice p2 st.length q2, .slice (some ⟨w1.heap.size, 0, none⟩) n n] 337)
    rw [← madeBytes] at hbr
    obtain ⟨W, hrun, hrow, hkb⟩ := hbr.copy 81 9 3 5 0 n n sy Tryz.underlying81 (by kernel_rfl) (by omega) (by simp; omega)
    have HR := Lib.hid hrow; clear hrow hbr
    have HK := Lib.hid hkb; clear hkb
    go_wp2
    go_ret2
    have hz2 : (((w1.alloc (.cells (madeCells #[.int .u8 0] n) 5)).alloc (.cells #[.string sn, .int .u8 sb, .int .u8 sk, .int .u32 (n : Int), .string sy, .slice p1 sr.length q1, .slice p2 st.length q2, .slice (some ⟨w1.heap.size, 0, none⟩) n n] 337)).drew).heap.size = w1.heap.size + 2 := by simp [World.drew]
    refine ⟨HB.out.trans (((below_new2 w1 _ _).trans (HK.out.below (by rw [hz2]; omega) (fun k hk => by omega))).mono HB.out.size), .inr ⟨trivial, w1.heap.size + 1, w1.heap.size, rfl, ?_⟩⟩
    have hrow := HR.out
    rw [bytes_over, ← HZ.out] at hrow
    have hll : bz.length = n := by have := HL.out; simpa using this
    refine ⟨⟨337, ?_⟩, hrow, by omega, by omega, by omega⟩
    rw [HK.out.block _ (by rw [hz2]; omega) (by omega), box_new, hll]
theorem FillSt.fbox {w : World} {B fb gb : Nat} {s : GSym} {vr vn : Value} {l : BL} (h : FillSt w B fb gb s vr vn l) :
    fb < w.heap.size ∧ w.cell? ⟨fb, 5, none⟩ = some vr ∧ w.cell? ⟨fb, 7, none⟩ = some (.slice (some ⟨gb, 0, none⟩) l.length l.length) ∧ (∀ j, w.frozen? ⟨fb, j, none⟩ = false) := by
  obtain ⟨T, hb⟩ := h.bx
  exact ⟨(Array.getElem?_eq_some_iff.1 hb).1, Lib.cell_of_heap hb 5, Lib.cell_of_heap hb 7, fun j => Lib.frozen_of_heap hb _⟩
theorem FillSt.keep {w w' : World} {B fb gb : Nat} {s : GSym} {vr vn : Value} {l : BL} (h : FillSt w B fb gb s vr vn l) (hb : Below w.heap.size w w') : FillSt w' B fb gb s vr vn l := by
  obtain ⟨T, hx⟩ := h.bx
  exact ⟨⟨T, (hb.block _ (Array.getElem?_eq_some_iff.1 hx).1).trans hx⟩, h.row.below hb, h.fle, h.gle, h.ne⟩
set_option maxHeartbeats 1000000 in
set_option maxRecDepth 100000 in
theorem at15_any (B fb gb : Nat) (s : GSym) (vr vn : Value) (l : BL) (o : Nat) (kd : Int) (nm : ByteArray) (ad : Int) (wd : Nat) (w : World) (h : FillSt w B fb gb s vr vn l) (hk : (kd = 1 ∧ wd = 4) ∨ (kd = 2 ∧ wd = 2)) (hf : o + wd ≤ l.length) (hl : l.length ≤ 8192) :
    Calls Tryz.prog 238 #[.pointer (some ⟨fb, 0, none⟩), .agg #[.int .u32 (o : Int), .int .u8 kd, .string nm, .int .u32 ad]] w fun e w' =>
      e = .returned (.slice (some ⟨gb, o, none⟩) wd wd) ∧ Below w.heap.size w w' := by
  obtain ⟨hfb, hc5, hc7, hfz⟩ := h.fbox
  clear h hc5
  have hw4 : IntKind.u32.wrap ((o : Int) + 4) = ((o + 4 : Nat) : Int) := by rw [IntKind.wrap_u32]; omega
  have hw2 : IntKind.u32.wrap ((o : Int) + 2) = ((o + 2 : Nat) : Int) := by rw [IntKind.wrap_u32]; omega
  have h7 := cell_keep (alloc_old w (.cells #[.int .u32 (o : Int), .int .u8 kd, .string nm, .int .u32 ad] 133)) hfb hc7
  rcases hk with ⟨rfl, rfl⟩ | ⟨rfl, rfl⟩
  all_goals
    go_enter Tryz.func238, Tryz.ntmps238
    go_wp2
    go_region
    go_wp2_with fail
    go_ret
    exact ⟨by simp, (alloc_old w _).drew⟩
theorem FillSt.below {w : World} {B fb gb : Nat} {s : GSym} {vr vn : Value} {l : BL} {w' : World} {l' : BL} (h : FillSt w B fb gb s vr vn l) (hl : l'.length = l.length) (hk : KB (fun k => k = gb) w w') (hr : ByteRow w' gb l') :
    FillSt w' B fb gb s vr vn l' := by
  obtain ⟨T, hx⟩ := h.bx
  refine ⟨⟨T, ?_⟩, hr, h.fle, h.gle, h.ne⟩
  rw [hl, hk.block _ (Array.getElem?_eq_some_iff.1 hx).1 h.ne]
  exact hx
set_option maxHeartbeats 1000000 in
set_option maxRecDepth 100000 in
theorem put15_over (B fb gb : Nat) (s : GSym) (vr vn : Value) (l : BL) (o : Nat) (nm : ByteArray) (ad v : Int) (w : World) (h : FillSt w B fb gb s vr vn l) (hf : o + 2 ≤ l.length) (hl : l.length ≤ 8192) (hv : 65536 ≤ v) (hv2 : v ≤ 4294967295) :
    Calls Tryz.prog 229 #[.pointer (some ⟨fb, 0, none⟩), .agg #[.int .u32 (o : Int), .int .u8 2, .string nm, .int .u32 ad], .int .u32 v] w fun e w' =>
      e = .returned (.int .i64 150) ∧ Below w.heap.size w w' := by
  have HA := Lib.hid (at15_any B fb gb s vr vn l o 2 nm ad 2 _ (h.keep (alloc_old w (.cells #[.int .u32 (o : Int), .int .u8 2, .string nm, .int .u32 ad] 133))) (.inr ⟨rfl, rfl⟩) hf hl)
  clear h
  go_enter Tryz.func229, Tryz.ntmps229
  go_wp2_with fail
  refine HA.out.mono ?_
  rintro e w1 ⟨rfl, hB⟩
  clear HA
  have hd : (v / 65536 != 0) = true := by simp; omega
  go_wp2_with fail
  go_ret
  exact ⟨rfl, (alloc_old w _).trans (hB.mono (by simp))⟩
set_option maxHeartbeats 1000000 in
set_option maxRecDepth 100000 in
theorem put15_any (B fb gb : Nat) (s : GSym) (vr vn : Value) (l : BL) (o : Nat) (kd : Int) (nm : ByteArray) (ad : Int) (wd : Nat) (v : Int) (w : World) (h : FillSt w B fb gb s vr vn l) (hk : (kd = 1 ∧ wd = 4) ∨ (kd = 2 ∧ wd = 2 ∧ v < 65536)) (hf : o + wd ≤ l.length) (hl : l.length ≤ 8192) (hv : 0 ≤ v) (hv2 : v ≤ 4294967295) :
    Calls Tryz.prog 229 #[.pointer (some ⟨fb, 0, none⟩), .agg #[.int .u32 (o : Int), .int .u8 kd, .string nm, .int .u32 ad], .int .u32 v] w fun e w' =>
      e = .returned (.int .i64 0) ∧ Below B w w' ∧ FillSt w' B fb gb s vr vn (putB l (leB wd v) o) := by
  have HH := Lib.hid h
  have hkk : (kd = 1 ∧ wd = 4) ∨ (kd = 2 ∧ wd = 2) := by omega
  have HA := Lib.hid (at15_any B fb gb s vr vn l o kd nm ad wd _ (h.keep (alloc_old w (.cells #[.int .u32 (o : Int), .int .u8 kd, .string nm, .int .u32 ad] 133))) hkk hf hl)
  have hBw : B ≤ w.heap.size := by have := h.gle; have := h.row.lt; omega
  clear h hkk
  have HB0 : Hid (Below w.heap.size w (w.alloc (.cells #[.int .u32 (o : Int), .int .u8 kd, .string nm, .int .u32 ad] 133))) := alloc_old w _
  rcases hk with ⟨rfl, rfl⟩ | ⟨rfl, rfl, h16⟩
  · go_enter Tryz.func229, Tryz.ntmps229
    go_wp2_with fail
    refine HA.out.mono ?_
    rintro e w1 ⟨rfl, hB⟩
    clear HA
    have HB1 : Hid (Below w.heap.size w w1) := HB0.out.trans (hB.mono (by simp))
    clear hB HB0
    go_wp2_with (go_at_call 78; refine (wput4 v _ hv (by omega)).mono ?_; rintro e w2 ⟨rfl, hB2⟩; have HF := Lib.hid (HH.out.keep (HB1.out.trans (hB2.mono HB1.out.size))); have HB2 : Hid (Below w.heap.size w w2) := HB1.out.trans (hB2.mono HB1.out.size); clear hB2; obtain ⟨W, hrun, hrow, hkb⟩ := HF.out.row.copy 81 9 3 5 o 4 4 (bsOf (leB 4 v)) Tryz.underlying81 (by kernel_rfl) (by simp [bsOf_size, leB_length]) (by simp [bsOf_size, leB_length]; omega); have HR := Lib.hid hrow; have HK := Lib.hid hkb; clear hrow hkb)
    go_ret
    exact ⟨rfl, ((HB2.out.mono hBw).trans (HK.out.below (by have := HB2.out.size; omega) (fun k hk e => by have := HH.out.gle; omega))), HF.out.below (putB_length (by simp [leB_length]; omega)) HK.out HR.out⟩
  · have hd : (v / 65536 != 0) = false := by simp; omega
    go_enter Tryz.func229, Tryz.ntmps229
    go_wp2_with fail
    refine HA.out.mono ?_
    rintro e w1 ⟨rfl, hB⟩
    clear HA
    have HB1 : Hid (Below w.heap.size w w1) := HB0.out.trans (hB.mono (by simp))
    clear hB HB0
    go_wp2_with (go_at_call 78; refine (wput2 v _ hv h16).mono ?_; rintro e w2 ⟨rfl, hB2⟩; have HF := Lib.hid (HH.out.keep (HB1.out.trans (hB2.mono HB1.out.size))); have HB2 : Hid (Below w.heap.size w w2) := HB1.out.trans (hB2.mono HB1.out.size); clear hB2; obtain ⟨W, hrun, hrow, hkb⟩ := HF.out.row.copy 81 9 3 5 o 2 2 (bsOf (leB 2 v)) Tryz.underlying81 (by kernel_rfl) (by simp [bsOf_size, leB_length]) (by simp [bsOf_size, leB_length]; omega); have HR := Lib.hid hrow; have HK := Lib.hid hkb; clear hrow hkb)
    go_ret
    exact ⟨rfl, ((HB2.out.mono hBw).trans (HK.out.below (by have := HB2.out.size; omega) (fun k hk e => by have := HH.out.gle; omega))), HF.out.below (putB_length (by simp [leB_length]; omega)) HK.out HR.out⟩
end Go.Proofs.YtboegjdkedjhcaaGreatDoor
namespace Go.Proofs.YtboegjdkedjhcaaGreatDoor
open Go.RowKit
def NumR (w : World) (b o : Nat) (x : Int) : Prop := b < w.heap.size ∧ w.cell? ⟨b, o, none⟩ = some (.int .u32 x) ∧ 0 ≤ x ∧ x ≤ 4294967295
theorem numR_keeps : Keeps NumR := fun _ _ _ _ _ hb ⟨h0, h1, r⟩ => ⟨size_keep hb h0, cell_keep hb h0 h1, r⟩
set_option maxHeartbeats 2000000 in
set_option maxRecDepth 100000 in
theorem fill_any (s : GSym) (vr vn av : Value) (addrs : List Int) (w : World) (h : SymIn w s vr vn) (hb : s.bytes.size < 4294967296) (ha : RowAt 1 NumR w av addrs) :
    Calls Tryz.prog 207 #[.agg #[.string s.name, .int .u8 s.bind, .int .u8 s.kind, .int .u32 s.size, .string s.bytes, vr, vn], av] w fun e w' =>
      e = .returned (.tuple #[.string (fillR s addrs).1, .int .i64 (fillR s addrs).2]) ∧ Below w.heap.size w w' := by
  have HX := Lib.hid (begin15_any s vr vn _ (SymIn.keep (alloc_old w (.cells #[.string s.name, .int .u8 s.bind, .int .u8 s.kind, .int .u32 s.size, .string s.bytes, vr, vn] 55)) h) hb)
  have HS := Lib.hid h
  have HA := Lib.hid ha
  obtain ⟨pa, ca, ba, oa, rfl, -, hamax, -, -⟩ := ha
  obtain ⟨p1, q1, p2, q2, rfl, rfl⟩ := h.shape
  clear h
  have HB0 : Hid (Below w.heap.size w (w.alloc (.cells #[.string s.name, .int .u8 s.bind, .int .u8 s.kind, .int .u32 s.size, .string s.bytes, .slice p1 s.rels.length q1, .slice p2 s.notes.length q2] 55))) := alloc_old w _
  go_enter Tryz.func207, Tryz.ntmps207
  go_wp2_with fail
  refine HX.out.mono ?_
  rintro e w1 ⟨hB, ⟨hs, rfl⟩ | ⟨hs, fb, gb, rfl, hst⟩⟩
  · go_wp2
    go_ret2
    rw [fillR_bad hs]
    exact ⟨rfl, HB0.out.trans (hB.mono (by simp))⟩
  · have HB1 : Hid (Below w.heap.size w w1) := HB0.out.trans (hB.mono (by simp))
    have HFS : Hid (FillSt w1 w.heap.size fb gb s (.slice p1 s.rels.length q1) (.slice p2 s.notes.length q2) (bytes0 s)) := ⟨hst.bx, hst.row, by have := hst.fle; simp at this; omega, by have := hst.gle; simp at this; omega, hst.ne⟩
    clear hst hB HX HB0
    obtain ⟨hfb, hc5, hc7, hfz⟩ := HFS.out.fbox
    by_cases hlen : addrs.length = s.rels.length
    · have HY := Lib.hid (fillR_yes hs hlen)
      obtain ⟨f1, f2, f3, f4, f5⟩ := symOk_fits hs hb
      have HZL := Lib.hid (bytes0_length f1)
      have HF5 := Lib.hid f5; clear f5
      clear hs
      generalize bytes0 s = bz at HY HFS HZL hc7
      have hd : (addrs.length != s.rels.length) = false := by simpa using hlen
      go_wp2
      go_loopw [36] (fun v0 wr => ∃ (k : Nat) (b : BL), v0 = .int .i64 k ∧ k ≤ s.rels.length ∧ b.length = bz.length ∧ FillSt wr w.heap.size fb gb s (.slice p1 s.rels.length q1) (.slice p2 s.notes.length q2) b ∧ fillL b (s.rels.drop k) (addrs.drop k) = fillL bz s.rels addrs ∧ Below w.heap.size w wr) (fun v0 _ => s.rels.length - (intOf v0).toNat)
      case atStart => exact ⟨0, bz, by go_num, Nat.zero_le _, rfl, HFS.out, by simp, HB1.out⟩
      case round =>
        obtain ⟨k, b, rfl, hk, hbl, hst, hgo, hB⟩ := hrel
        have HG := Lib.hid hgo; clear hgo
        have HBL := Lib.hid hbl; clear hbl
        have HB : Hid (Below w.heap.size w wr) := hB; clear hB
        have HST := Lib.hid hst; clear hst
        obtain ⟨hfb2, hr5, hr7, hrz⟩ := HST.out.fbox
        by_cases hlt : k < s.rels.length
        · have HR := Lib.hid (HS.out.keep HB.out).1
          have HAk := Lib.hid (HA.out.keep numR_keeps HB.out)
          obtain ⟨p1', q1', br, orr, he1, -, -, hp1, hcells⟩ := HR.out
          cases he1
          obtain rfl := hp1 (by omega)
          obtain ⟨pa', ca', bra, ora, he2, -, -, hp2, hcells2⟩ := HAk.out
          cases he2
          obtain rfl := hp2 (by omega)
          obtain ⟨r0, r1, r2, r3, r4, r5, r6, r7, r8⟩ := hcells k hlt
          have hlta : k < addrs.length := by omega
          obtain ⟨a0, a1, a2, a3⟩ := hcells2 k hlta
          have HSTEP := Lib.hid (fillL_step (b := b) hlt hlta rfl rfl)
          obtain ⟨x1, x2, x3⟩ := HF5.out s.rels[k] (List.getElem_mem hlt)
          clear hcells hcells2 hp1 hp2
          generalize s.rels[k] = x at r0 r1 r2 r3 r4 r5 r6 r7 r8 HSTEP x1 x2 x3
          generalize addrs[k] = av at a0 a1 a2 a3 HSTEP
          obtain ⟨xo, xk, xn, xa⟩ := x
          simp only [] at r0 r1 r2 r3 r4 r5 r6 r7 r8 HSTEP x1 x2 x3
          obtain ⟨o, rfl⟩ : ∃ o : Nat, xo = o := ⟨xo.toNat, by omega⟩
          rw [HG.out] at HSTEP
          have hwv : IntKind.u32.wrap (av + xa) = fillV ⟨o, xk, xn, xa⟩ av := by rw [IntKind.wrap_u32]; rfl
          have hv0 : 0 ≤ fillV ⟨o, xk, xn, xa⟩ av := by unfold fillV; omega
          have hv1 : fillV ⟨o, xk, xn, xa⟩ av ≤ 4294967295 := by unfold fillV; omega
          generalize fillV ⟨o, xk, xn, xa⟩ av = fv at hwv hv0 hv1 HSTEP
          have HBx : Hid (Below wr.heap.size wr (wr.alloc (.cells #[.int .u32 (o : Int), .int .u8 xk, .string xn, .int .u32 xa] 133))) := alloc_old wr _
          rw [Nat.mul_one] at a1
          have a1' := cell_keep HBx.out a0 a1
          have HSTx := Lib.hid (HST.out.keep HBx.out)
          by_cases hov : xk = 2 ∧ 65536 ≤ fv
          · obtain ⟨rfl, hv5⟩ := hov
            rw [if_pos ⟨rfl, hv5⟩] at HSTEP
            have hfit : o + 2 ≤ b.length := by have := HZL.out; have := HBL.out; simp only [widthOf] at x3; simp at x3; omega
            have hbl8 : b.length ≤ 8192 := by have := HZL.out; have := HBL.out; omega
            go_wp2_with fail
            go_region_with ((go_at_call 229; refine (put15_over w.heap.size fb gb s _ _ b o xn xa fv _ (FillSt.keep HSTx.out (by go_grown)) hfit hbl8 hv5 hv1).mono ?_; rintro e w3 ⟨rfl, hB3⟩))
            all_goals
              go_wp2_with fail
              go_ret2
              rw [HY.out, HSTEP.out]
              exact ⟨rfl, HB.out.trans ((HBx.out.drew.trans (hB3.mono (by simp))).mono HB.out.size)⟩
          · rw [if_neg hov] at HSTEP
            obtain ⟨wd, hwd, hk2, hfit⟩ : ∃ wd : Nat, (widthOf xk).toNat = wd ∧ ((xk = 1 ∧ wd = 4) ∨ (xk = 2 ∧ wd = 2 ∧ fv < 65536)) ∧ o + wd ≤ b.length := by
              have := HZL.out; have := HBL.out
              rcases x1 with rfl | rfl
              · refine ⟨4, rfl, .inl ⟨rfl, rfl⟩, ?_⟩
                simp only [widthOf] at x3; simp at x3; omega
              · refine ⟨2, rfl, .inr ⟨rfl, rfl, by omega⟩, ?_⟩
                simp only [widthOf] at x3; simp at x3; omega
            rw [hwd] at HSTEP
            simp only [Int.toNat_natCast] at HSTEP
            have hbl8 : b.length ≤ 8192 := by have := HZL.out; have := HBL.out; omega
            have HPL := Lib.hid (putB_length (b := b) (s := leB wd fv) (o := o) (by simp [leB_length]; omega))
            clear hov hwd x1 x2 x3
            go_wp2_with fail
            go_region_with ((go_at_call 229; refine (put15_any w.heap.size fb gb s _ _ b o xk xn xa wd fv _ (FillSt.keep HSTx.out (by go_grown)) hk2 hfit hbl8 hv0 hv1).mono ?_; rintro e w3 ⟨rfl, hB3, hF3⟩))
            all_goals
              go_wp2_with fail
              go_roundw
              case rel => exact ⟨k + 1, _, by go_num, by omega, HPL.out.trans HBL.out, hF3, HSTEP.out.symm, HB.out.trans ((HBx.out.drew.mono HB.out.size).trans hB3)⟩
              case measure => simp [intOf]; omega
        · have hcv := run_bytes_of_row HST.out.row 81 9 5 0 b.length b.length Tryz.underlying81 Tryz.underlying5 Tryz.underlying9 (by omega)
          rw [List.drop_zero, List.take_length] at hcv
          have HE := Lib.hid (fillL_end (addrs := addrs) (b := b) hlt)
          go_wp2
          go_ret2
          rw [HY.out, ← HG.out, HE.out]
          exact ⟨rfl, HB.out⟩
    · have hd : (addrs.length != s.rels.length) = true := by simpa using hlen
      go_wp2
      go_ret2
      rw [fillR_len hlen]
      exact ⟨rfl, HB1.out⟩
end Go.Proofs.YtboegjdkedjhcaaGreatDoor
namespace Go.Proofs.YtboegjdkedjhcaaGreatDoor
open Go.RowKit
theorem field_name (n y : ByteArray) (a b c : Int) (vr vn : Value) (w : World) : (Instr.field 55 (.agg #[.string n, .int .u8 a, .int .u8 b, .int .u32 c, .string y, vr, vn]) 0).run Tryz.prog w = .ok (.string n) w := by
  simp [Instr.field, asAgg, run_underlying Tryz.underlying55, part, go_sem]
theorem field_kind (n y : ByteArray) (a b c : Int) (vr vn : Value) (w : World) : (Instr.field 55 (.agg #[.string n, .int .u8 a, .int .u8 b, .int .u32 c, .string y, vr, vn]) 2).run Tryz.prog w = .ok (.int .u8 b) w := by
  simp [Instr.field, asAgg, run_underlying Tryz.underlying55, part, go_sem]
theorem field_notes (n y : ByteArray) (a b c : Int) (vr vn : Value) (w : World) : (Instr.field 55 (.agg #[.string n, .int .u8 a, .int .u8 b, .int .u32 c, .string y, vr, vn]) 6).run Tryz.prog w = .ok vn w := by
  simp [Instr.field, asAgg, run_underlying Tryz.underlying55, part, go_sem]
end Go.Proofs.YtboegjdkedjhcaaGreatDoor
