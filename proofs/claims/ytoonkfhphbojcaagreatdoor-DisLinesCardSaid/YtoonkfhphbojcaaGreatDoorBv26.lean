/- The walk of insn.Encode, at any instruction. asm.Make in plain words, at no notes. -/
import Derived.Test.YtoonkfhphbojcaaGreatDoorBv25
import Derived.Test.YtoonkfhphbojcaaGreatDoorBv23
import Derived.Test.YtoonkfhphbojcaaGreatDoorBv09
import Derived.Test.YtoonkfhphbojcaaGreatDoorBv04
namespace Go.Proofs.YtoonkfhphbojcaaGreatDoor
open Go.RowKit Go.Maps
theorem conv4b (l : BL) (W : World) (g : Nat) (hc : ∀ j (hj : j < l.length), W.cell? ⟨g, j, none⟩ = some (.int .u8 (l[j].toNat : Int))) : (convert 79 9 (.slice (some ⟨g, 0, none⟩) l.length 4)).run Tryz.prog W = .ok (.string (bsOf l)) W :=
  run_convert_bytes_back (P := Tryz.prog) W 79 9 5 ⟨g, 0, none⟩ 4 l Tryz.underlying79 Tryz.underlying5 Tryz.underlying9 (fun j hj => by rw [add_at, Nat.zero_add]; exact hc j hj)
theorem or16 : ∀ d a : Fin 16, bits BinOp.or .u8 (d.val : Int) (16 * (a.val : Int)) = (d.val : Int) + 16 * (a.val : Int) := by decide +kernel
def encE (x : GIns) : Ending := if insOk x then .returned (.tuple #[.string (bsOf (encL x)), .int .i64 0]) else .returned (.tuple #[.string ⟨#[]⟩, .int .i64 2])
set_option maxHeartbeats 2000000 in
set_option maxRecDepth 20000 in
theorem insEnc33 (x : GIns) (w : World) (hx : InsB x) : Calls Tryz.prog 160 #[insV x] w fun e w' => e = encE x ∧ Below w.heap.size w w' := by
  have HC := Lib.hid (fun W => insCheck_any x W hx)
  obtain ⟨op, d, a, b, imm⟩ := x
  obtain ⟨⟨o0, o1⟩, ⟨d0, d1⟩, ⟨a0, a1⟩, ⟨b0', b1'⟩, ⟨i0, i1⟩⟩ := hx
  have HR := Lib.hid (fun h : insOk ⟨op, d, a, b, imm⟩ = true => insOk_regs h)
  have HE : Hid (encE ⟨op, d, a, b, imm⟩ = if insOk ⟨op, d, a, b, imm⟩ then .returned (.tuple #[.string (bsOf (encL ⟨op, d, a, b, imm⟩)), .int .i64 0]) else .returned (.tuple #[.string ⟨#[]⟩, .int .i64 2])) := Lib.hid rfl
  have HL : Hid (encL ⟨op, d, a, b, imm⟩ = [UInt8.ofNat op.toNat, UInt8.ofNat (d + 16 * a).toNat, UInt8.ofNat b.toNat, 0] ++ leB 4 imm) := Lib.hid rfl
  generalize encL ⟨op, d, a, b, imm⟩ = EL at HE HL
  generalize insOk ⟨op, d, a, b, imm⟩ = ok at HC HR HE
  generalize encE ⟨op, d, a, b, imm⟩ = EE at HE ⊢
  unfold insV at HC ⊢
  simp only [] at HC d0 d1 a0 a1 b0' b1' i0 i1 o0 o1 HR ⊢
  have HW := Lib.hid (fun W => wput4 imm W (by omega) (by omega))
  have HB1 : Hid (Below w.heap.size w (w.alloc (.cells #[.int .u8 op, .int .u8 d, .int .u8 a, .int .u8 b, .int .u32 imm] 24))) := alloc_old w _
  have hX1 := new_block w (.cells #[.int .u8 op, .int .u8 d, .int .u8 a, .int .u8 b, .int .u32 imm] 24)
  go_enter Tryz.func160, Tryz.ntmps160
  go_upto_region 1 with fail
  generalize (w.alloc (.cells #[.int .u8 op, .int .u8 d, .int .u8 a, .int .u8 b, .int .u32 imm] 24)) = w1 at *
  have b0 : w1.cell? ⟨w.heap.size, 0, none⟩ = some (.int .u8 op) := Lib.cell_of_heap hX1 0
  have b1 : w1.cell? ⟨w.heap.size, 1, none⟩ = some (.int .u8 d) := Lib.cell_of_heap hX1 1
  have b2 : w1.cell? ⟨w.heap.size, 2, none⟩ = some (.int .u8 a) := Lib.cell_of_heap hX1 2
  have b3 : w1.cell? ⟨w.heap.size, 3, none⟩ = some (.int .u8 b) := Lib.cell_of_heap hX1 3
  have b4 : w1.cell? ⟨w.heap.size, 4, none⟩ = some (.int .u32 imm) := Lib.cell_of_heap hX1 4
  have hz1 : w.heap.size < w1.heap.size := (Array.getElem?_eq_some_iff.1 hX1).1
  clear hX1
  go_wp2_with fail
  refine (HC.out _).mono ?_
  rintro e w2 ⟨rfl, hB⟩
  replace b0 := cell_keep hB hz1 b0
  replace b1 := cell_keep hB hz1 b1
  replace b2 := cell_keep hB hz1 b2
  replace b3 := cell_keep hB hz1 b3
  replace b4 := cell_keep hB hz1 b4
  have HB2 : Hid (Below w.heap.size w w2) := HB1.out.trans (hB.mono HB1.out.size)
  have hz2 : w.heap.size < w2.heap.size := by have := hB.size; omega
  clear hB HB1 hz1 HC
  cases ok with
  | false =>
    rw [show erI false 2 = 2 from rfl]
    go_wp2
    go_ret2
    exact ⟨by rw [HE.out]; rfl, HB2.out⟩
  | true =>
    rw [show erI true 2 = 0 from rfl]
    obtain ⟨hr1, hr2, hr3⟩ := HR.out rfl
    go_wp2_with fail
    refine (HW.out _).mono ?_
    rintro e w3 ⟨rfl, hB⟩
    replace b0 := cell_keep hB hz2 b0
    replace b1 := cell_keep hB hz2 b1
    replace b2 := cell_keep hB hz2 b2
    replace b3 := cell_keep hB hz2 b3
    have HB3 : Hid (Below w.heap.size w w3) := HB2.out.trans (hB.mono HB2.out.size)
    clear hB HB2 b4
    have hcv := conv4b [UInt8.ofNat op.toNat, UInt8.ofNat (d + 16 * a).toNat, UInt8.ofNat b.toNat, 0] (w3.alloc (.cells #[.int .u8 op, .int .u8 (d + 16 * a), .int .u8 b, .int .u8 0] 5)) w3.heap.size (fun j hj => by
      match j, hj with
      | 0, _ => simp [go_sem]; omega
      | 1, _ => simp [go_sem]; omega
      | 2, _ => simp [go_sem]; omega
      | 3, _ => simp [go_sem])
    have hor : bits BinOp.or IntKind.u8 d (a * 16) = d + 16 * a := by
      rw [Int.mul_comm a 16]
      have := or16 ⟨d.toNat, by omega⟩ ⟨a.toNat, by omega⟩
      simp only [Int.toNat_of_nonneg d0, Int.toNat_of_nonneg a0] at this
      exact this
    have r3 : a * 16 % 256 = a * 16 := by omega
    have HS : Hid (¬ 9223372036854775807 < (bsOf [UInt8.ofNat op.toNat, UInt8.ofNat (d + 16 * a).toNat, UInt8.ofNat b.toNat, 0]).size + (bsOf (leB 4 imm)).size) := Lib.hid (by rw [bsOf_size, bsOf_size, leB_length]; simp)
    have HEE : Hid (bsOf [UInt8.ofNat op.toNat, UInt8.ofNat (d + 16 * a).toNat, UInt8.ofNat b.toNat, 0] ++ bsOf (leB 4 imm) = bsOf EL) := Lib.hid (by rw [bsOf_app, HL.out]; rfl)
    have hs := HS.out
    have he := HEE.out
    simp only [List.length_cons, List.length_nil, Nat.zero_add, Nat.reduceAdd] at hcv
    generalize bsOf [UInt8.ofNat op.toNat, UInt8.ofNat (d + 16 * a).toNat, UInt8.ofNat b.toNat, 0] = S0 at hs he hcv
    generalize bsOf (leB 4 imm) = S1 at hs he
    have HE2 := Lib.hid he; clear he
    have HB4 : Hid (Below w.heap.size w (w3.alloc (.cells #[.int .u8 op, .int .u8 (d + 16 * a), .int .u8 b, .int .u8 0] 5))) := HB3.out.alloc HB3.out.size _
    clear HS HEE
    go_wp2
    go_ret2
    exact ⟨by rw [HE.out, ← HE2.out]; rfl, HB4.out⟩
end Go.Proofs.YtoonkfhphbojcaaGreatDoor
namespace Go.Proofs.YtoonkfhphbojcaaGreatDoor
/-- the labels' lines; none: two lines have one label -/
def labGo : List GLine → Nat → (BL → Option Nat) → Option (BL → Option Nat)
  | [], _, M => some M
  | x :: t, k, M => if x.label = [] then labGo t (k + 1) M else if (M x.label).isSome then none else labGo t (k + 1) (fun s => if s = x.label then some k else M s)
/-- a line's places and bytes -/
def lay1 (own : ByteArray) (M : BL → Option Nat) (x : GLine) (rels : List GRel) (bytes : BL) : Option (List GRel × BL) :=
  if x.dest = [] then
    if x.name = [] then some (rels, bytes ++ encL x.x)
    else some (rels ++ [⟨(bytes.length : Int) + 4, 1, bsOf x.name, x.x.imm⟩], bytes ++ encL (noImm x.x))
  else match M x.dest with
    | none => none
    | some k => some (rels ++ [⟨(bytes.length : Int) + 4, 1, own, 8 * (k : Int)⟩], bytes ++ encL (noImm x.x))
def layAll (own : ByteArray) (M : BL → Option Nat) : List GLine → List GRel → BL → Option (List GRel × BL)
  | [], rels, bytes => some (rels, bytes)
  | x :: t, rels, bytes => match lay1 own M x rels bytes with
    | none => none
    | some p => layAll own M t p.1 p.2
def symZ : GSym := ⟨⟨#[]⟩, 0, 0, 0, ⟨#[]⟩, [], []⟩
/-- the symbol, and why there is none -/
def makeR (own : ByteArray) (bind : Int) (l : List GLine) : GSym × Int :=
  if 1024 < l.length then (symZ, 5)
  else if l.any (fun x => !lnMay x) then (symZ, 2)
  else match labGo l 0 (fun _ => none) with
    | none => (symZ, 9)
    | some M => match layAll own M l [] [] with
      | none => (symZ, 3)
      | some (rels, bytes) => if symOkP ⟨own, bind, 1, (l.length : Int) * 8, bsOf bytes, rels, []⟩ then (⟨own, bind, 1, (l.length : Int) * 8, bsOf bytes, rels, []⟩, 0) else (symZ, 2)
theorem encL_len (x : GIns) : (encL x).length = 8 := by simp [encL, leB_length]
/-- the line that dis.check makes -/
def checkLn (x : GLine) : GLine := { x with label := x.dest }
/-- whether a line may be told -/
def tellMay (x : GLine) : Bool := lnMay (checkLn x) && (decide (x.dest = []) || decide (x.x.imm = 0))
theorem size_bs (s : BL) : ((bsOf s).size : Int) = (s.length : Int) := by rw [bsOf_size]
theorem makeR_one (x : GLine) (hx : LineB x) : decide ((makeR (bsOf [120]) 0 [checkLn x]).2 = 0) = lnMay (checkLn x) := by
  unfold makeR
  rw [if_neg (by simp)]
  cases hm : lnMay (checkLn x) with
  | false => simp [hm]
  | true =>
    rw [if_neg (by simp [hm])]
    obtain ⟨label, y, dest, name⟩ := x
    have hnl : (bsOf name).size = name.length := bsOf_size name
    unfold lnMay checkLn at hm
    simp only [Bool.and_eq_true] at hm
    obtain ⟨⟨⟨⟨h1, h2⟩, h3⟩, h4⟩, h5⟩ := hm
    unfold checkLn
    simp only [labGo, layAll, lay1]
    have e8 := fun z => encL_len z
    by_cases hd : dest = []
    · subst hd
      simp only [↓reduceIte]
      by_cases hn : name = []
      · subst hn
        simp only [↓reduceIte]
        rw [if_pos (by
          simp [symOkP, sizedOk, sizedB, placesOk, relsGo, len32, bsOf_size, e8]
          decide)]
        rfl
      · simp only [hn, ↓reduceIte]
        have hN : isName (bsOf name) = true := by
          unfold nameOk at h4
          simpa [hn] using h4
        rw [if_pos (by
          simp [symOkP, sizedOk, sizedB, placesOk, relsGo, len32, bsOf_size, e8, hN, widthOf]
          decide)]
        rfl
    · have hn : name = [] := by
        by_cases hn : name = []
        · exact hn
        · simp [hd, hn] at h1
      subst hn
      simp only [hd, ↓reduceIte, Option.isSome_none, Bool.false_eq_true]
      rw [if_pos (by
        simp [symOkP, sizedOk, sizedB, placesOk, relsGo, len32, bsOf_size, e8, widthOf]
        decide)]
      rfl
end Go.Proofs.YtoonkfhphbojcaaGreatDoor
