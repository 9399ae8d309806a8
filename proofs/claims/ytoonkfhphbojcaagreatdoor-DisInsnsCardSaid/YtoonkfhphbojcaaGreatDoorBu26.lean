/- The walks of obj.Sym, asm.name and dis.name. Lines of code as data; the walk of asm.may. The walk of insn.Encode, at any instruction. -/
import Derived.Test.YtoonkfhphbojcaaGreatDoorBu22
import Derived.Test.YtoonkfhphbojcaaGreatDoorBu19
import Derived.Test.YtoonkfhphbojcaaGreatDoorBu24
import Derived.Test.YtoonkfhphbojcaaGreatDoorBu12
namespace Go.Proofs.YtoonkfhphbojcaaGreatDoor
open Go.RowKit Go.Maps
theorem objSym_any (s : GSym) (vr vn : Value) (w : World) (h : SymIn w s vr vn) :
    Calls Tryz.prog 65 #[.agg #[.string s.name, .int .u8 s.bind, .int .u8 s.kind, .int .u32 s.size, .string s.bytes, vr, vn]] w fun e w' => e = .returned (.int .i64 (errB (symOkP s))) ∧ Below w.heap.size w w' := by
  obtain ⟨p1, c1, p2, c2, rfl, rfl⟩ := h.shape
  have HCON := Lib.hid (symMay_any s _ _ _ (h.keep (alloc_old w (.cells #[.string s.name, .int .u8 s.bind, .int .u8 s.kind, .int .u32 s.size, .string s.bytes, .slice p1 s.rels.length c1, .slice p2 s.notes.length c2] 52)))); clear h
  go_enter Tryz.func65, Tryz.ntmps65
  go_wp2_with (first | (go_at_call 112; refine HCON.out.mono ?_; rintro e w1 ⟨rfl, hB⟩) | (go_at_call 109; refine (told_any _ _).mono ?_; rintro e w1 ⟨rfl, rfl⟩))
  go_ret
  exact ⟨rfl, (alloc_old w _).trans (hB.mono (by simp))⟩
theorem bs_nil33 (l : BL) : (bsOf l).toList.isEmpty = decide (l = []) := by
  rw [ByteArray.toList_eq, bsOf_list]
  cases l <;> rfl
/-- nothing, or a name -/
def nameOk (s : BL) : Bool := decide (s = []) || isName (bsOf s)
theorem row_none {α : Type} (k : Nat) (R : World → Nat → Nat → α → Prop) (w : World) : RowAt k R w (.slice none 0 0) [] := ⟨none, 0, 0, 0, rfl, Nat.le_refl _, by simp, fun h => by simp at h, fun i h => by simp at h⟩
theorem asmName33 (s : BL) (w : World) (hs : s.length ≤ 100000000) : Calls Tryz.prog 175 #[.string (bsOf s)] w fun e w' => e = .returned (.bool (nameOk s)) ∧ Below w.heap.size w w' := by
  have HS := Lib.hid (objSym_any ⟨bsOf s, 0, 2, 1, ⟨#[]⟩, [], []⟩ (.slice none 0 0) (.slice none 0 0) w ⟨row_none _ _ _, row_none _ _ _, by simp, by simp, by simp, by show (bsOf s).size ≤ _; rw [bsOf_size]; omega, Nat.zero_le _⟩)
  have HE : Hid (symOkP ⟨bsOf s, 0, 2, 1, ⟨#[]⟩, [], []⟩ = isName (bsOf s)) := Lib.hid (by
    simp [symOkP, sizedOk, sizedB, placesOk, relsGo, show len32 ⟨#[]⟩ = 0 from rfl])
  simp only [] at HS
  rw [HE.out] at HS
  clear HE
  have hne := bs_nil33 s
  have HN : Hid (nameOk s = (decide (s = []) || isName (bsOf s))) := Lib.hid rfl
  generalize decide (s = []) = bb at *
  generalize isName (bsOf s) = b at *
  have hs2 : (bsOf s).size = s.length := bsOf_size s
  go_enter Tryz.func175, Tryz.ntmps175
  cases bb with
  | true =>
    go_wp2
    go_ret
    exact ⟨by rw [HN.out]; rfl, Below.refl _ _⟩
  | false =>
    go_wp2_with fail
    refine HS.out.mono ?_
    rintro e w2 ⟨rfl, hB⟩
    cases b with
    | true =>
      rw [show errB true = 0 from rfl]
      go_wp2
      go_ret
      exact ⟨by rw [HN.out]; rfl, hB⟩
    | false =>
      rw [show errB false = 2 from rfl]
      go_wp2
      go_ret
      exact ⟨by rw [HN.out]; rfl, hB⟩
theorem disName33 (s : BL) (w : World) (hs : s.length ≤ 100000000) : Calls Tryz.prog 51 #[.string (bsOf s)] w fun e w' => e = .returned (.bool (nameOk s)) ∧ Below w.heap.size w w' := by
  have HS := Lib.hid (objCheck_any ⟨bsOf s, []⟩ (.slice none 0 0) w ⟨row_none _ _ _, by show (bsOf s).size ≤ _; rw [bsOf_size]; omega⟩)
  have HE : Hid (mayP ⟨bsOf s, []⟩ = isName (bsOf s)) := Lib.hid (by simp [mayP, symsGo])
  simp only [] at HS
  rw [HE.out] at HS
  clear HE
  have hne := bs_nil33 s
  have HN : Hid (nameOk s = (decide (s = []) || isName (bsOf s))) := Lib.hid rfl
  generalize decide (s = []) = bb at *
  generalize isName (bsOf s) = b at *
  have hs2 : (bsOf s).size = s.length := bsOf_size s
  go_enter Tryz.func51, Tryz.ntmps51
  cases bb with
  | true =>
    go_wp2
    go_ret
    exact ⟨by rw [HN.out]; rfl, Below.refl _ _⟩
  | false =>
    go_wp2_with fail
    refine HS.out.mono ?_
    rintro e w2 ⟨rfl, hB⟩
    cases b with
    | true =>
      rw [show errB true = 0 from rfl]
      go_wp2
      go_ret
      exact ⟨by rw [HN.out]; rfl, hB⟩
    | false =>
      rw [show errB false = 2 from rfl]
      go_wp2
      go_ret
      exact ⟨by rw [HN.out]; rfl, hB⟩
end Go.Proofs.YtoonkfhphbojcaaGreatDoor
namespace Go.Proofs.YtoonkfhphbojcaaGreatDoor
open Go.RowKit Go.Maps
/-- a line: a label, an instruction, where it goes to, or a name -/
structure GLine where
  label : BL
  x : GIns
  dest : BL
  name : BL
def lineA (l : GLine) : Array Value := #[.string (bsOf l.label), .int .u8 l.x.op, .int .u8 l.x.d, .int .u8 l.x.a, .int .u8 l.x.b, .int .u32 l.x.imm, .string (bsOf l.dest), .string (bsOf l.name)]
def lineV (l : GLine) : Value := .agg (lineA l)
structure LineB (l : GLine) : Prop where
  x : InsB l.x
  label : l.label.length ≤ 1000000
  dest : l.dest.length ≤ 1000000
  name : l.name.length ≤ 1000000
/-- an instruction without its number -/
def noImm (x : GIns) : GIns := ⟨x.op, x.d, x.a, x.b, 0⟩
/-- whether a line may be, its label too -/
def lnMay (l : GLine) : Bool := !(!decide (l.dest = []) && !decide (l.name = [])) && nameOk l.label && nameOk l.dest && nameOk l.name && (if decide (l.dest = []) && decide (l.name = []) then insOk l.x else decide (useOf l.x.op ≠ 0) && bitOf (useOf l.x.op) 8 && insOk (noImm l.x))
theorem nameOk_len {s : BL} (h : nameOk s = true) : s.length ≤ 32 := by
  unfold nameOk at h
  simp only [Bool.or_eq_true, decide_eq_true_eq] at h
  rcases h with rfl | h
  · simp
  · unfold isName at h
    simp only [Bool.and_eq_true, decide_eq_true_eq] at h
    have := h.2
    rwa [bsOf_size] at this
def LnAt (b : Nat) (l : GLine) (w : World) : Prop := w.heap[b]? = some (.cells (lineA l) 59 (0, 0))
theorem LnAt.lt {b : Nat} {l : GLine} {w : World} (h : LnAt b l w) : b < w.heap.size := (Array.getElem?_eq_some_iff.1 h).1
theorem LnAt.keep {b : Nat} {l : GLine} {w w' : World} (h : LnAt b l w) (hb : Below w.heap.size w w') : LnAt b l w' := (hb.block b h.lt).trans h
theorem LnAt.cell {b : Nat} {l : GLine} {w : World} (h : LnAt b l w) (j : Nat) : w.cell? ⟨b, j, none⟩ = (lineA l)[j]? := Lib.cell_of_heap h j
end Go.Proofs.YtoonkfhphbojcaaGreatDoor
namespace Go.Proofs.YtoonkfhphbojcaaGreatDoor
open Go.RowKit Go.Maps
theorem conv4b (l : BL) (W : World) (g : Nat) (hc : ∀ j (hj : j < l.length), W.cell? ⟨g, j, none⟩ = some (.int .u8 (l[j].toNat : Int))) : (convert 79 9 (.slice (some ⟨g, 0, none⟩) l.length 4)).run Tryz.prog W = .ok (.string (bsOf l)) W :=
  run_convert_bytes_back (P := Tryz.prog) W 79 9 5 ⟨g, 0, none⟩ 4 l Tryz.underlying79 Tryz.underlying5 Tryz.underlying9 (fun j hj => by rw [add_at, Nat.zero_add]; exact hc j hj)
theorem or16 : ∀ d a : Fin 16, bits BinOp.or .u8 (d.val : Int) (16 * (a.val : Int)) = (d.val : Int) + 16 * (a.val : Int) := by decide +kernel
def encE (x : GIns) : Ending := if insOk x then .returned (.tuple #[.string (bsOf (encL x)), .int .i64 0]) else .returned (.tuple #[.string ⟨#[]⟩, .int .i64 2])
set_option maxHeartbeats 2000000 in
set_option maxRecDepth 20000 in
theorem insEnc33 (x : GIns) (w : World) (hx : InsB x) : Calls Tryz.prog 160 #[insV x] w fun e w' => e = encE x ∧ Below w.heap.size w w' := by
  have HC := Lib.hid (fun W => insCheck_any x W hx)
  obtain ⟨op, d, a, b, imm⟩ := x
  obtain ⟨⟨o0, o1⟩, ⟨d0, d1⟩, ⟨a0, a1⟩, ⟨b0', b1'⟩, ⟨i0, i1⟩⟩ := hx
  have HR := Lib.hid (fun h : insOk ⟨op, d, a, b, imm⟩ = true => insOk_regs h)
  have HE : Hid (encE ⟨op, d, a, b, imm⟩ = if insOk ⟨op, d, a, b, imm⟩ then .returned (.tuple #[.string (bsOf (encL ⟨op, d, a, b, imm⟩)), .int .i64 0]) else .returned (.tuple #[.string ⟨#[]⟩, .int .i64 2])) := Lib.hid rfl
  have HL : Hid (encL ⟨op, d, a, b, imm⟩ = [UInt8.ofNat op.toNat, UInt8.ofNat (d + 16 * a).toNat, UInt8.ofNat b.toNat, 0] ++ leB 4 imm) := Lib.hid rfl
  generalize encL ⟨op, d, a, b, imm⟩ = EL at HE HL
  generalize insOk ⟨op, d, a, b, imm⟩ = ok at HC HR HE
  generalize encE ⟨op, d, a, b, imm⟩ = EE at HE ⊢
  unfold insV at HC ⊢
  simp only [] at HC d0 d1 a0 a1 b0' b1' i0 i1 o0 o1 HR ⊢
  have HW := Lib.hid (fun W => wput4 imm W (by omega) (by omega))
  have HB1 : Hid (Below w.heap.size w (w.alloc (.cells #[.int .u8 op, .int .u8 d, .int .u8 a, .int .u8 b, .int .u32 imm] 24))) := alloc_old w _
  have hX1 := new_block w (.cells #[.int .u8 op, .int .u8 d, .int .u8 a, .int .u8 b, .int .u32 imm] 24)
  go_enter Tryz.func160, Tryz.ntmps160
  go_upto_region 1 with fail
  generalize (w.alloc (.cells #[.int .u8 op, .int .u8 d, .int .u8 a, .int .u8 b, .int .u32 imm] 24)) = w1 at *
  have b0 : w1.cell? ⟨w.heap.size, 0, none⟩ = some (.int .u8 op) := Lib.cell_of_heap hX1 0
  have b1 : w1.cell? ⟨w.heap.size, 1, none⟩ = some (.int .u8 d) := Lib.cell_of_heap hX1 1
  have b2 : w1.cell? ⟨w.heap.size, 2, none⟩ = some (.int .u8 a) := Lib.cell_of_heap hX1 2
  have b3 : w1.cell? ⟨w.heap.size, 3, none⟩ = some (.int .u8 b) := Lib.cell_of_heap hX1 3
  have b4 : w1.cell? ⟨w.heap.size, 4, none⟩ = some (.int .u32 imm) := Lib.cell_of_heap hX1 4
  have hz1 : w.heap.size < w1.heap.size := (Array.getElem?_eq_some_iff.1 hX1).1
  clear hX1
  go_wp2_with fail
  refine (HC.out _).mono ?_
  rintro e w2 ⟨rfl, hB⟩
  replace b0 := cell_keep hB hz1 b0
  replace b1 := cell_keep hB hz1 b1
  replace b2 := cell_keep hB hz1 b2
  replace b3 := cell_keep hB hz1 b3
  replace b4 := cell_keep hB hz1 b4
  have HB2 : Hid (Below w.heap.size w w2) := HB1.out.trans (hB.mono HB1.out.size)
  have hz2 : w.heap.size < w2.heap.size := by have := hB.size; omega
  clear hB HB1 hz1 HC
  cases ok with
  | false =>
    rw [show erI false 2 = 2 from rfl]
    go_wp2
    go_ret2
    exact ⟨by rw [HE.out]; rfl, HB2.out⟩
  | true =>
    rw [show erI true 2 = 0 from rfl]
    obtain ⟨hr1, hr2, hr3⟩ := HR.out rfl
    go_wp2_with fail
    refine (HW.out _).mono ?_
    rintro e w3 ⟨rfl, hB⟩
    replace b0 := cell_keep hB hz2 b0
    replace b1 := cell_keep hB hz2 b1
    replace b2 := cell_keep hB hz2 b2
    replace b3 := cell_keep hB hz2 b3
    have HB3 : Hid (Below w.heap.size w w3) := HB2.out.trans (hB.mono HB2.out.size)
    clear hB HB2 b4
    have hcv := conv4b [UInt8.ofNat op.toNat, UInt8.ofNat (d + 16 * a).toNat, UInt8.ofNat b.toNat, 0] (w3.alloc (.cells #[.int .u8 op, .int .u8 (d + 16 * a), .int .u8 b, .int .u8 0] 5)) w3.heap.size (fun j hj => by
      match j, hj with
      | 0, _ => simp [go_sem]; omega
      | 1, _ => simp [go_sem]; omega
      | 2, _ => simp [go_sem]; omega
      | 3, _ => simp [go_sem])
    have hor : bits BinOp.or IntKind.u8 d (a * 16) = d + 16 * a := by
      rw [Int.mul_comm a 16]
      have := or16 ⟨d.toNat, by omega⟩ ⟨a.toNat, by omega⟩
      simp only [Int.toNat_of_nonneg d0, Int.toNat_of_nonneg a0] at this
      exact this
    have r3 : a * 16 % 256 = a * 16 := by omega
    have HS : Hid (¬ 9223372036854775807 < (bsOf [UInt8.ofNat op.toNat, UInt8.ofNat (d + 16 * a).toNat, UInt8.ofNat b.toNat, 0]).size + (bsOf (leB 4 imm)).size) := Lib.hid (by rw [bsOf_size, bsOf_size, leB_length]; simp)
    have HEE : Hid (bsOf [UInt8.ofNat op.toNat, UInt8.ofNat (d + 16 * a).toNat, UInt8.ofNat b.toNat, 0] ++ bsOf (leB 4 imm) = bsOf EL) := Lib.hid (by rw [bsOf_app, HL.out]; rfl)
    have hs := HS.out
    have he := HEE.out
    simp only [List.length_cons, List.length_nil, Nat.zero_add, Nat.reduceAdd] at hcv
    generalize bsOf [UInt8.ofNat op.toNat, UInt8.ofNat (d + 16 * a).toNat, UInt8.ofNat b.toNat, 0] = S0 at hs he hcv
    generalize bsOf (leB 4 imm) = S1 at hs he
    have HE2 := Lib.hid he; clear he
    have HB4 : Hid (Below w.heap.size w (w3.alloc (.cells #[.int .u8 op, .int .u8 (d + 16 * a), .int .u8 b, .int .u8 0] 5))) := HB3.out.alloc HB3.out.size _
    clear HS HEE
    go_wp2
    go_ret2
    exact ⟨by rw [HE.out, ← HE2.out]; rfl, HB4.out⟩
end Go.Proofs.YtoonkfhphbojcaaGreatDoor
