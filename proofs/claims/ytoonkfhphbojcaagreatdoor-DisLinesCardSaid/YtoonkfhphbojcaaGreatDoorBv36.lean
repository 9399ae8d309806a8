/- The walk of asm.Make, at no notes. -/
import Derived.Test.YtoonkfhphbojcaaGreatDoorBv30
import Derived.Test.YtoonkfhphbojcaaGreatDoorBv34
namespace Go.Proofs.YtoonkfhphbojcaaGreatDoor
open Go.RowKit Go.Maps Go.WideMaps
theorem cloneNil33 (w : World) : Calls Tryz.prog 140 #[.slice none 0 0] w fun e w' => e = .returned (.slice none 0 0) ∧ w' = w :=
  Go.Proofs.AnyE.slices_Clone_nil Tryz.cloneNotes 0 0 w
theorem set_same {α : Type} {c : Array α} {i : Nat} {v : α} (h : c[i]? = some v) : c.setIfInBounds i v = c := by
  obtain ⟨hi, hv⟩ := Array.getElem?_eq_some_iff.1 h
  apply Array.ext (by simp)
  intro j h1 h2
  rw [Array.getElem_setIfInBounds (by simpa using h1)]
  split
  · rename_i e; subst e; exact hv.symm
  · rfl
/-- the same value stored once more -/
theorem setCell_self {w : World} {b i : Nat} {v : Value} (h : w.cell? ⟨b, i, none⟩ = some v) : w.setCell ⟨b, i, none⟩ v = w := by
  unfold World.cell? at h
  unfold World.setCell
  simp only [Option.isSome_none, Bool.false_eq_true, if_false] at h ⊢
  have e : w.heap.modify b (fun x => match x with
      | .cells c elem frozen => .cells (c.setIfInBounds i v) elem frozen
      | o => o) = w.heap := by
    apply Array.ext (by simp)
    intro j h1 h2
    rw [Array.getElem_modify]
    split
    · rename_i e
      subst e
      have hj : w.heap[b]? = some w.heap[b] := Array.getElem?_eq_getElem h2
      rw [hj] at h
      generalize w.heap[b] = o at h
      cases o with
      | cells c t fz => simp only [] at h ⊢; rw [set_same h]
      | _ => rfl
    · rfl
  exact congrArg (fun h => ({ w with heap := h } : World)) e
theorem labGo_le : ∀ (l : List GLine) (k : Nat) (M M' : BL → Option Nat), labGo l k M = some M' → (∀ s j, M s = some j → j < k) → ∀ s j, M' s = some j → j < k + l.length
  | [], k, M, M', h, hM, s, j, hj => by
    simp only [labGo, Option.some.injEq] at h
    subst h
    have := hM s j hj
    simpa using this
  | x :: t, k, M, M', h, hM, s, j, hj => by
    unfold labGo at h
    split at h
    · have := labGo_le t (k + 1) M M' h (fun s j hj => by have := hM s j hj; omega) s j hj
      simp only [List.length_cons]; omega
    · split at h
      · cases h
      · have := labGo_le t (k + 1) _ M' h (fun s j hj => by
          by_cases e : s = x.label
          · rw [if_pos e] at hj; cases hj; omega
          · rw [if_neg e] at hj; have := hM s j hj; omega) s j hj
        simp only [List.length_cons]; omega
/-- a place that a line may have -/
def RelOk33 (x : GRel) : Prop := (0 ≤ x.off ∧ x.off ≤ 4294967295) ∧ (0 ≤ x.kind ∧ x.kind ≤ 255) ∧ (0 ≤ x.add ∧ x.add ≤ 4294967295) ∧ x.name.size ≤ 140737488355328
theorem lay1_ok {own : ByteArray} {M : BL → Option Nat} {x : GLine} {rels : List GRel} {bytes : BL} {p : List GRel × BL} (h : lay1 own M x rels bytes = some p) (hx : LineB x) (ho : own.size ≤ 1000000) (hM : ∀ s k, M s = some k → k ≤ 1024) (hb : bytes.length ≤ 100000) (hr : ∀ y ∈ rels, RelOk33 y) :
    p.2.length = bytes.length + 8 ∧ p.1.length ≤ rels.length + 1 ∧ ∀ y ∈ p.1, RelOk33 y := by
  have e8 := encL_len
  unfold lay1 at h
  split at h
  · split at h
    · cases h
      exact ⟨by simp [e8], by simp, hr⟩
    · cases h
      refine ⟨by simp [e8], by simp, fun y hy => ?_⟩
      simp only [List.mem_append, List.mem_singleton] at hy
      rcases hy with hy | rfl
      · exact hr y hy
      · refine ⟨by simp only []; omega, by simp, hx.x.2.2.2.2, ?_⟩
        show (bsOf x.name).size ≤ _
        rw [bsOf_size]; have := hx.name; omega
  · cases hk : M x.dest with
    | none => rw [hk] at h; cases h
    | some k =>
      rw [hk] at h
      cases h
      refine ⟨by simp [e8], by simp, fun y hy => ?_⟩
      simp only [List.mem_append, List.mem_singleton] at hy
      have := hM _ _ hk
      rcases hy with hy | rfl
      · exact hr y hy
      · exact ⟨by simp only []; omega, by simp, by simp only []; omega, by simp only []; omega⟩
theorem rels_row33 {w : World} {v : Value} {base : Nat} {e : TypeId} {l : List GRel} (h : w.ownsRow base e 4 v l.length (l.flatMap relCells)) (hl : l.length ≤ 140737488355328) (hb : ∀ y ∈ l, RelOk33 y) : RowAt 4 RelR w v l :=
  owned_row relCells_len h hl fun g o i hi hg hc => by
    obtain ⟨h1, h2, h3, h4⟩ := hb _ (List.getElem_mem hi)
    exact ⟨hg, hc 0 _ (by omega) rfl, hc 1 _ (by omega) rfl, hc 2 _ (by omega) rfl, hc 3 _ (by omega) rfl, h1, h2, h3, h4⟩
def symVal (s : GSym) (vr : Value) : Value := .agg #[.string s.name, .int .u8 s.bind, .int .u8 s.kind, .int .u32 s.size, .string s.bytes, vr, .slice none 0 0]
def MakePost (r : GSym × Int) (w : World) (e : Ending) (w' : World) : Prop :=
  ∃ vr, e = .returned (.tuple #[symVal r.1 vr, .int .i64 r.2]) ∧ w'.ownsRow (w.heap.size + 1) 101 4 vr r.1.rels.length (r.1.rels.flatMap relCells) ∧ Below w.heap.size w w'
theorem make_err (n : Int) {w w' : World} (hb : Below w.heap.size w w') : MakePost (symZ, n) w (.returned (.tuple #[.agg #[.string ⟨#[]⟩, .int .u8 0, .int .u8 0, .int .u32 0, .string ⟨#[]⟩, .slice none 0 0, .slice none 0 0], .int .i64 n])) w' :=
  ⟨.slice none 0 0, rfl, World.ownsRow_nil _ _ _ _, hb⟩
def zSymA : Array Value := #[.string ⟨#[]⟩, .int .u8 0, .int .u8 0, .int .u32 0, .string ⟨#[]⟩, .slice none 0 0, .slice none 0 0]
set_option maxHeartbeats 4000000 in
set_option maxRecDepth 100000 in
theorem make33 (own : ByteArray) (bind : Int) (l : List GLine) (vl : Value) (w : World) (hl : RowAt 8 LineR w vl l) (ho : own.size ≤ 1000000) (hbi : 0 ≤ bind ∧ bind ≤ 255) :
    Calls Tryz.prog 103 #[.string own, .int .u8 bind, .slice none 0 0, vl] w (MakePost (makeR own bind l) w) := by
  have HL := Lib.hid hl
  have HW := Lib.hid (alloc_old w (.cells zSymA 52))
  have hZ := new_block w (.cells zSymA 52)
  have HBI := Lib.hid hbi
  have HRD : Hid (makeR own bind l = if 1024 < l.length then (symZ, (5 : Int))
    else if l.any (fun x => !lnMay x) then (symZ, 2)
    else match labGo l 0 (fun _ => none) with
      | none => (symZ, 9)
      | some M => match layAll own M l [] [] with
        | none => (symZ, 3)
        | some (rels, bytes) => if symOkP ⟨own, bind, 1, (l.length : Int) * 8, bsOf bytes, rels, []⟩ then (⟨own, bind, 1, (l.length : Int) * 8, bsOf bytes, rels, []⟩, (0 : Int)) else (symZ, 2)) := Lib.hid rfl
  generalize makeR own bind l = res at HRD ⊢
  obtain ⟨p, cap, b, o, rfl, hcap, hmax, hp, hc⟩ := hl
  clear hp hc hbi
  go_enter Tryz.func103, Tryz.ntmps103
  go_upto_region 1 with fail
  unfold zSymA at hZ HW
  generalize hwz : (w.alloc (.cells #[.string ⟨#[]⟩, .int .u8 0, .int .u8 0, .int .u32 0, .string ⟨#[]⟩, .slice none 0 0, .slice none 0 0] 52)) = wz at *
  have HSZ : Hid (wz.heap.size = w.heap.size + 1) := Lib.hid (by rw [← hwz]; simp)
  clear hwz
  have HZ := Lib.hid hZ; clear hZ
  have z0 : wz.cell? ⟨w.heap.size, 0, none⟩ = some (.string ⟨#[]⟩) := Lib.cell_of_heap HZ.out 0
  have f0 := Lib.frozen_of_heap HZ.out 0
  have z1 : wz.cell? ⟨w.heap.size, 1, none⟩ = some (.int .u8 0) := Lib.cell_of_heap HZ.out 1
  have f1 := Lib.frozen_of_heap HZ.out 1
  have z2 : wz.cell? ⟨w.heap.size, 2, none⟩ = some (.int .u8 0) := Lib.cell_of_heap HZ.out 2
  have f2 := Lib.frozen_of_heap HZ.out 2
  have z3 : wz.cell? ⟨w.heap.size, 3, none⟩ = some (.int .u32 0) := Lib.cell_of_heap HZ.out 3
  have f3 := Lib.frozen_of_heap HZ.out 3
  have z4 : wz.cell? ⟨w.heap.size, 4, none⟩ = some (.string ⟨#[]⟩) := Lib.cell_of_heap HZ.out 4
  have f4 := Lib.frozen_of_heap HZ.out 4
  have z5 : wz.cell? ⟨w.heap.size, 5, none⟩ = some (.slice none 0 0) := Lib.cell_of_heap HZ.out 5
  have f5 := Lib.frozen_of_heap HZ.out 5
  have z6 : wz.cell? ⟨w.heap.size, 6, none⟩ = some (.slice none 0 0) := Lib.cell_of_heap HZ.out 6
  have f6 := Lib.frozen_of_heap HZ.out 6
  by_cases h1024 : 1024 < l.length
  · have HR : Hid (res = (symZ, 5)) := Lib.hid (by rw [HRD.out, if_pos h1024])
    have q : (1024 : Int) < (l.length : Int) := by omega
    clear HRD HL
    go_wp2
    have s0 := setCell_self z0
    have s1 := setCell_self z1
    have s2 := setCell_self z2
    have s3 := setCell_self z3
    have s4 := setCell_self z4
    have s5 := setCell_self z5
    have s6 := setCell_self z6
    simp only [s0, s1, s2, s3, s4, s5, s6]
    refine bodyPost_ret (v := .tuple #[.agg #[.string ⟨#[]⟩, .int .u8 0, .int .u8 0, .int .u32 0, .string ⟨#[]⟩, .slice none 0 0, .slice none 0 0], .int .i64 5]) (by simp [results, Tryz.results103, go_sem, z0, z1, z2, z3, z4, z5, z6]) rfl ?_
    rw [HR.out]
    exact make_err 5 HW.out
  have hlen : l.length ≤ 1024 := by omega
  have q : ¬ (1024 : Int) < (l.length : Int) := by omega
  rw [Hid, if_neg h1024] at HRD
  replace HRD := Lib.hid HRD
  have HLZ := Lib.hid (HL.out.keep lineR_keeps HW.out)
  have hzz : wz.heap.size = w.heap.size + 1 := HSZ.out
  go_upto_region 3 with fail
  go_upto_if 21 with (go_at_call 137; refine (containsL_any _ l _ HLZ.out).mono ?_; rintro e w1 ⟨rfl, hB1⟩)
  have HB1 := Lib.hid hB1; clear hB1
  have HSZ2 := Lib.hid HZ.out
  have hZ1 := (HB1.out.block w.heap.size (by omega)).trans HZ.out
  have HW1 := Lib.hid (HW.out.trans (HB1.out.mono HW.out.size))
  clear HZ z0 z1 z2 z3 z4 z5 z6 f0 f1 f2 f3 f4 f5 f6
  have HZ := Lib.hid hZ1
  have z0 : w1.cell? ⟨w.heap.size, 0, none⟩ = some (.string ⟨#[]⟩) := Lib.cell_of_heap HZ.out 0
  have f0 := Lib.frozen_of_heap HZ.out 0
  have z1 : w1.cell? ⟨w.heap.size, 1, none⟩ = some (.int .u8 0) := Lib.cell_of_heap HZ.out 1
  have f1 := Lib.frozen_of_heap HZ.out 1
  have z2 : w1.cell? ⟨w.heap.size, 2, none⟩ = some (.int .u8 0) := Lib.cell_of_heap HZ.out 2
  have f2 := Lib.frozen_of_heap HZ.out 2
  have z3 : w1.cell? ⟨w.heap.size, 3, none⟩ = some (.int .u32 0) := Lib.cell_of_heap HZ.out 3
  have f3 := Lib.frozen_of_heap HZ.out 3
  have z4 : w1.cell? ⟨w.heap.size, 4, none⟩ = some (.string ⟨#[]⟩) := Lib.cell_of_heap HZ.out 4
  have f4 := Lib.frozen_of_heap HZ.out 4
  have z5 : w1.cell? ⟨w.heap.size, 5, none⟩ = some (.slice none 0 0) := Lib.cell_of_heap HZ.out 5
  have f5 := Lib.frozen_of_heap HZ.out 5
  have z6 : w1.cell? ⟨w.heap.size, 6, none⟩ = some (.slice none 0 0) := Lib.cell_of_heap HZ.out 6
  have f6 := Lib.frozen_of_heap HZ.out 6
  clear hZ1
  cases hany : l.any (fun x => !lnMay x) with
  | true =>
    have HR : Hid (res = (symZ, 2)) := Lib.hid (by rw [HRD.out, if_pos hany])
    clear HRD HL HLZ hany
    go_wp2
    have s0 := setCell_self z0
    have s1 := setCell_self z1
    have s2 := setCell_self z2
    have s3 := setCell_self z3
    have s4 := setCell_self z4
    have s5 := setCell_self z5
    have s6 := setCell_self z6
    simp only [s0, s1, s2, s3, s4, s5, s6]
    refine bodyPost_ret (v := .tuple #[.agg #[.string ⟨#[]⟩, .int .u8 0, .int .u8 0, .int .u32 0, .string ⟨#[]⟩, .slice none 0 0, .slice none 0 0], .int .i64 2]) (by simp [results, Tryz.results103, go_sem, z0, z1, z2, z3, z4, z5, z6]) rfl ?_
    rw [HR.out]
    exact make_err 2 HW1.out
  | false =>
    rw [Hid, if_neg (by rw [hany]; simp)] at HRD
    replace HRD := Lib.hid HRD
    have HMAY : Hid (∀ x ∈ l, lnMay x = true) := Lib.hid (by simpa using hany)
    clear hany
    have hmm := @run_makeMap Tryz.prog
    have q2 : ((l.length : Int) * 8) % 4294967296 = 8 * (l.length : Int) := by omega
    have q3 : (l.length : Int) % 4294967296 = (l.length : Int) := by omega
    go_upto_region 6 with (go_at_call 140; refine (cloneNil33 _).mono ?_; rintro e w2 ⟨rfl, rfl⟩)
    have HMP := Lib.hid ((MapFn.made Tryz.prog 9 w2).alloc (.cells (mkA own bind ((l.length : Int) * 8) [] (.slice none 0 0) w2.heap.size) 196))
    have hbox := new_block (w2.alloc (.map #[] 0)) (.cells (mkA own bind ((l.length : Int) * 8) [] (.slice none 0 0) w2.heap.size) 196)
    have HB3 := Lib.hid ((HB1.out.alloc HB1.out.size (.map #[] 0)).alloc (by have := HB1.out.size; simp; omega) (.cells (mkA own bind ((l.length : Int) * 8) [] (.slice none 0 0) w2.heap.size) 196))
    have hm2 : wz.heap.size ≤ w2.heap.size := HB1.out.size
    have e3 : (w2.alloc (.map #[] 0)).heap.size = w2.heap.size + 1 := by simp
    rw [e3] at hbox
    have hne : w2.heap.size + 1 ≠ w2.heap.size := by omega
    obtain ⟨mb, hmb⟩ : ∃ mb, mb = w2.heap.size + 1 := ⟨_, rfl⟩
    have hmw : wz.heap.size ≤ mb := by omega
    obtain ⟨gb, hgb⟩ : ∃ gb, gb = w2.heap.size := ⟨_, rfl⟩
    rw [← hmb] at hbox hne ⊢
    rw [← hgb] at hbox HMP hne hm2 HB3 ⊢
    unfold mkA at HMP hbox HB3
    rw [show bsOf [] = ⟨#[]⟩ from rfl] at HMP hbox HB3
    generalize hw3 : ((w2.alloc (.map #[] 0)).alloc (.cells #[.string own, .int .u8 bind, .int .u8 1, .int .u32 ((l.length : Int) * 8), .string ⟨#[]⟩, .slice none 0 0, .slice none 0 0, .map (some gb)] 196)) = w3 at *
    have hbox2 := hbox
    have hm7 : w3.cell? ⟨mb, 7, none⟩ = some (.map (some gb)) := Lib.cell_of_heap hbox 7
    have hml : mb < w3.heap.size := (Array.getElem?_eq_some_iff.1 hbox).1
    have HBX := Lib.hid hbox2
    have hZ3 := (HB3.out.block w.heap.size (by omega)).trans (HSZ2.out)
    have HW3 := Lib.hid (HW.out.trans (HB3.out.mono HW.out.size))
    clear hbox hbox2 hmm hw3 e3 q2 q3 hmb
    clear HZ z0 z1 z2 z3 z4 z5 z6 f0 f1 f2 f3 f4 f5 f6
    go_wp2_with fail
    refine (label33 l _ mb gb wz w3 HLZ.out HB3.out hm2 hne hml hm7 HMP.out hlen).mono ?_
    rintro e w4 ⟨hkb, hpost⟩
    have hrg : w.heap.size ≠ gb := by omega
    have hr3 : w.heap.size < w3.heap.size := by have := HB3.out.size; omega
    have hZ4 := (hkb.block w.heap.size hr3 hrg).trans hZ3
    have HB4 := Lib.hid (HB3.out.trans (hkb.below (B := wz.heap.size) HB3.out.size (fun k hk e => by omega)))
    have HW4 := Lib.hid (HW.out.trans (HB4.out.mono HW.out.size))
    have HBX4 := Lib.hid ((hkb.block mb hml hne).trans HBX.out)
    clear hZ3 HBX hkb hml hm7 HMP hr3 HB3 HW3
    have HZ := Lib.hid hZ4
    have z0 : w4.cell? ⟨w.heap.size, 0, none⟩ = some (.string ⟨#[]⟩) := Lib.cell_of_heap HZ.out 0
    have f0 := Lib.frozen_of_heap HZ.out 0
    have z1 : w4.cell? ⟨w.heap.size, 1, none⟩ = some (.int .u8 0) := Lib.cell_of_heap HZ.out 1
    have f1 := Lib.frozen_of_heap HZ.out 1
    have z2 : w4.cell? ⟨w.heap.size, 2, none⟩ = some (.int .u8 0) := Lib.cell_of_heap HZ.out 2
    have f2 := Lib.frozen_of_heap HZ.out 2
    have z3 : w4.cell? ⟨w.heap.size, 3, none⟩ = some (.int .u32 0) := Lib.cell_of_heap HZ.out 3
    have f3 := Lib.frozen_of_heap HZ.out 3
    have z4 : w4.cell? ⟨w.heap.size, 4, none⟩ = some (.string ⟨#[]⟩) := Lib.cell_of_heap HZ.out 4
    have f4 := Lib.frozen_of_heap HZ.out 4
    have z5 : w4.cell? ⟨w.heap.size, 5, none⟩ = some (.slice none 0 0) := Lib.cell_of_heap HZ.out 5
    have f5 := Lib.frozen_of_heap HZ.out 5
    have z6 : w4.cell? ⟨w.heap.size, 6, none⟩ = some (.slice none 0 0) := Lib.cell_of_heap HZ.out 6
    have f6 := Lib.frozen_of_heap HZ.out 6
    clear hZ4
    rcases hpost with ⟨hno, rfl⟩ | ⟨M, n, hyes, rfl, hmp, hnl⟩
    · have HR : Hid (res = (symZ, 9)) := Lib.hid (by rw [HRD.out, hno])
      clear HRD HL HLZ hno HMAY
      go_wp2
      have s0 := setCell_self z0
      have s1 := setCell_self z1
      have s2 := setCell_self z2
      have s3 := setCell_self z3
      have s4 := setCell_self z4
      have s5 := setCell_self z5
      have s6 := setCell_self z6
      simp only [s0, s1, s2, s3, s4, s5, s6]
      refine bodyPost_ret (v := .tuple #[.agg #[.string ⟨#[]⟩, .int .u8 0, .int .u8 0, .int .u32 0, .string ⟨#[]⟩, .slice none 0 0, .slice none 0 0], .int .i64 9]) (by simp [results, Tryz.results103, go_sem, z0, z1, z2, z3, z4, z5, z6]) rfl ?_
      rw [HR.out]
      exact make_err 9 HW4.out
    rw [Hid, hyes] at HRD
    simp only [] at HRD
    replace HRD := Lib.hid HRD
    have HML : Hid (∀ s k, M s = some k → k ≤ 1024) := Lib.hid (fun s k hk => by have := labGo_le l 0 _ M hyes (fun _ _ h => by cases h) s k hk; omega)
    have HST : Hid (MkSt wz mb gb own bind ((l.length : Int) * 8) M (.slice none 0 0) [] [] w4) := Lib.hid ⟨HBX4.out, World.ownsRow_nil _ _ _ _, ⟨n, hmp⟩, HB4.out, hmw⟩
    clear hyes hmp hnl HBX4 n
    clear HZ z0 z1 z2 z3 z4 z5 z6 f0 f1 f2 f3 f4 f5 f6
    have HLP := Lib.hid HLZ.out
    obtain ⟨p', cap', b', o', hsl, -, -, hp, hc⟩ := HLZ.out
    cases hsl
    have HP := Lib.hid hp
    have HC := Lib.hid hc
    clear hp hc HLZ
    go_wp2
    go_loopw [44] (fun v44 wr => ∃ (k : Nat) (v : Value) (rels : List GRel) (bytes : BL), k ≤ l.length ∧ v44 = .int .i64 k ∧ MkSt wz mb gb own bind ((l.length : Int) * 8) M v rels bytes wr ∧ layAll own M (l.drop k) rels bytes = layAll own M l [] [] ∧ bytes.length = 8 * k ∧ rels.length ≤ k ∧ ∀ y ∈ rels, RelOk33 y) (fun v44 _ => l.length - (intOf v44).toNat)
    case atStart => exact ⟨0, _, [], [], Nat.zero_le _, rfl, HST.out, rfl, rfl, Nat.zero_le _, by simp⟩
    case round =>
      obtain ⟨k, v, rels, bytes, hk, rfl, hst, hgo, hbl, hrl, hok⟩ := hrel
      have HSTR := Lib.hid hst
      have HGO := Lib.hid hgo
      have HOKR := Lib.hid hok
      have hZr := (hst.bel.block w.heap.size (by omega)).trans HSZ2.out
      have HWR := Lib.hid (HW.out.trans (hst.bel.mono HW.out.size))
      clear hst hgo hok
      by_cases hlt : k < l.length
      · obtain rfl := HP.out (by omega)
        obtain ⟨hb0, y0, y1, y2, y3, y4, y5, y6, y7, hlb⟩ := lineR_keeps _ _ _ _ _ HSTR.out.bel (HC.out k hlt)
        have HGO2 : Hid (layAll own M l [] [] = match lay1 own M l[k] rels bytes with | none => none | some p => layAll own M (l.drop (k + 1)) p.1 p.2) := Lib.hid (by rw [← HGO.out, List.drop_eq_getElem_cons hlt]; rfl)
        have HLK := Lib.hid (fun W (hW : Below wr.heap.size wr W) => lay33 l[k] W (HSTR.out.keep hW) hlb (HMAY.out _ (List.getElem_mem hlt)) HML.out (by omega) (by omega))
        have HL1O := Lib.hid (fun (p : List GRel × BL) (hpp : lay1 own M l[k] rels bytes = some p) => lay1_ok (own := own) (M := M) (x := l[k]) (rels := rels) (bytes := bytes) (p := p) hpp hlb ho HML.out (by omega) HOKR.out)
        generalize l[k] = x at *
        clear hlb
        generalize hr1 : lay1 own M x rels bytes = r1 at *
        clear hr1
        obtain ⟨xl, ⟨op, xd, xa, xb, xi⟩, dd, nn⟩ := x
        unfold lineV lineA at HLK
        simp only [] at y0 y1 y2 y3 y4 y5 y6 y7 HLK
        generalize bsOf xl = SL at *
        generalize bsOf dd = SD at *
        generalize bsOf nn = SN at *
        go_wp2_with fail
        refine (HLK.out _ (alloc_old wr _)).mono ?_
        rintro e w5 hpost
        cases r1 with
        | none =>
          obtain ⟨rfl, hbel⟩ := hpost
          have HR : Hid (res = (symZ, 3)) := Lib.hid (by rw [HRD.out, HGO2.out])
          have hZ5 := (hbel.block w.heap.size (by omega)).trans HSZ2.out
          have HW5 := Lib.hid (HW.out.trans (hbel.mono HW.out.size))
          have HZ := Lib.hid hZ5
          have z0 : w5.cell? ⟨w.heap.size, 0, none⟩ = some (.string ⟨#[]⟩) := Lib.cell_of_heap HZ.out 0
          have f0 := Lib.frozen_of_heap HZ.out 0
          have z1 : w5.cell? ⟨w.heap.size, 1, none⟩ = some (.int .u8 0) := Lib.cell_of_heap HZ.out 1
          have f1 := Lib.frozen_of_heap HZ.out 1
          have z2 : w5.cell? ⟨w.heap.size, 2, none⟩ = some (.int .u8 0) := Lib.cell_of_heap HZ.out 2
          have f2 := Lib.frozen_of_heap HZ.out 2
          have z3 : w5.cell? ⟨w.heap.size, 3, none⟩ = some (.int .u32 0) := Lib.cell_of_heap HZ.out 3
          have f3 := Lib.frozen_of_heap HZ.out 3
          have z4 : w5.cell? ⟨w.heap.size, 4, none⟩ = some (.string ⟨#[]⟩) := Lib.cell_of_heap HZ.out 4
          have f4 := Lib.frozen_of_heap HZ.out 4
          have z5 : w5.cell? ⟨w.heap.size, 5, none⟩ = some (.slice none 0 0) := Lib.cell_of_heap HZ.out 5
          have f5 := Lib.frozen_of_heap HZ.out 5
          have z6 : w5.cell? ⟨w.heap.size, 6, none⟩ = some (.slice none 0 0) := Lib.cell_of_heap HZ.out 6
          have f6 := Lib.frozen_of_heap HZ.out 6
          clear hZ5 hZr hbel HRD HGO2 HGO HLK HL1O HSTR y0 y1 y2 y3 y4 y5 y6 y7 HL HMAY HP HC HST
          go_wp2
          have s0 := setCell_self z0
          have s1 := setCell_self z1
          have s2 := setCell_self z2
          have s3 := setCell_self z3
          have s4 := setCell_self z4
          have s5 := setCell_self z5
          have s6 := setCell_self z6
          simp only [s0, s1, s2, s3, s4, s5, s6]
          refine bodyPost_ret (v := .tuple #[.agg #[.string ⟨#[]⟩, .int .u8 0, .int .u8 0, .int .u32 0, .string ⟨#[]⟩, .slice none 0 0, .slice none 0 0], .int .i64 3]) (by simp [results, Tryz.results103, go_sem, z0, z1, z2, z3, z4, z5, z6]) rfl ?_
          rw [HR.out]
          exact make_err 3 HW5.out
        | some r1 =>
          obtain ⟨rfl, v5, hst5⟩ := hpost
          obtain ⟨u1, u2, u3⟩ := HL1O.out r1 rfl
          have HST5 := Lib.hid hst5
          have HU := Lib.hid u3
          have HG5 : Hid (layAll own M (l.drop (k + 1)) r1.1 r1.2 = layAll own M l [] []) := Lib.hid (by rw [HGO2.out])
          clear hst5 u3 hZr HLK HL1O HSTR y0 y1 y2 y3 y4 y5 y6 y7
          go_wp2
          go_roundw
          case rel => exact ⟨k + 1, v5, r1.1, r1.2, by omega, by go_num, HST5.out, HG5.out, by omega, by omega, HU.out⟩
          case measure => simp [intOf]; omega
      · obtain rfl : k = l.length := by omega
        rw [Hid, List.drop_of_length_le (Nat.le_refl _)] at HGO
        have HRS : Hid (res = if symOkP ⟨own, bind, 1, (l.length : Int) * 8, bsOf bytes, rels, []⟩ then (⟨own, bind, 1, (l.length : Int) * 8, bsOf bytes, rels, []⟩, (0 : Int)) else (symZ, 2)) := Lib.hid (by rw [HRD.out, ← HGO]; rfl)
        clear HGO HRD
        obtain ⟨pv, cv, rfl⟩ := own_shape HSTR.out.row
        have hbs : (bsOf bytes).size = bytes.length := bsOf_size bytes
        have HSI : Hid (∀ W, Below wr.heap.size wr W → SymIn W ⟨own, bind, 1, (l.length : Int) * 8, bsOf bytes, rels, []⟩ (.slice pv rels.length cv) (.slice none 0 0)) := Lib.hid fun W hW => ⟨(rels_row33 HSTR.out.row (by omega) HOKR.out).keep relR_keeps hW, row_none _ _ _, HBI.out, by simp, ⟨by simp only []; omega, by simp only []; omega⟩, by show own.size ≤ _; omega, by show (bsOf bytes).size ≤ _; omega⟩
        have HCK := Lib.hid (fun W (hW : Below wr.heap.size wr W) => objSym_any ⟨own, bind, 1, (l.length : Int) * 8, bsOf bytes, rels, []⟩ _ _ W (HSI.out W hW))
        generalize hsk : symOkP ⟨own, bind, 1, (l.length : Int) * 8, bsOf bytes, rels, []⟩ = ok at *
        clear hsk
        simp only [] at HCK
        have y0 := Lib.cell_of_heap HSTR.out.box 0
        have y1 := Lib.cell_of_heap HSTR.out.box 1
        have y2 := Lib.cell_of_heap HSTR.out.box 2
        have y3 := Lib.cell_of_heap HSTR.out.box 3
        have y4 := Lib.cell_of_heap HSTR.out.box 4
        have y5 := Lib.cell_of_heap HSTR.out.box 5
        have y6 := Lib.cell_of_heap HSTR.out.box 6
        unfold mkA at y0 y1 y2 y3 y4 y5 y6
        simp only [List.getElem?_toArray, List.getElem?_cons_zero, List.getElem?_cons_succ] at y0 y1 y2 y3 y4 y5 y6
        have HRW := Lib.hid HSTR.out.row
        have HBR := Lib.hid HSTR.out.bel
        have hmr := HSTR.out.lt
        generalize bsOf bytes = SB at *
        go_wp2_with fail
        refine (HCK.out _ (Below.refl _ _)).mono ?_
        rintro e w6 ⟨rfl, hB6⟩
        have HB6 := Lib.hid hB6
        have hZ6 := (hB6.block w.heap.size (by have := HBR.out.size; omega)).trans hZr
        have HW6 := Lib.hid (HWR.out.trans (hB6.mono HWR.out.size))
        replace y0 := cell_keep hB6 hmr y0
        replace y1 := cell_keep hB6 hmr y1
        replace y2 := cell_keep hB6 hmr y2
        replace y3 := cell_keep hB6 hmr y3
        replace y4 := cell_keep hB6 hmr y4
        replace y5 := cell_keep hB6 hmr y5
        replace y6 := cell_keep hB6 hmr y6
        have HZ := Lib.hid hZ6
        have z0 : w6.cell? ⟨w.heap.size, 0, none⟩ = some (.string ⟨#[]⟩) := Lib.cell_of_heap HZ.out 0
        have f0 := Lib.frozen_of_heap HZ.out 0
        have z1 : w6.cell? ⟨w.heap.size, 1, none⟩ = some (.int .u8 0) := Lib.cell_of_heap HZ.out 1
        have f1 := Lib.frozen_of_heap HZ.out 1
        have z2 : w6.cell? ⟨w.heap.size, 2, none⟩ = some (.int .u8 0) := Lib.cell_of_heap HZ.out 2
        have f2 := Lib.frozen_of_heap HZ.out 2
        have z3 : w6.cell? ⟨w.heap.size, 3, none⟩ = some (.int .u32 0) := Lib.cell_of_heap HZ.out 3
        have f3 := Lib.frozen_of_heap HZ.out 3
        have z4 : w6.cell? ⟨w.heap.size, 4, none⟩ = some (.string ⟨#[]⟩) := Lib.cell_of_heap HZ.out 4
        have f4 := Lib.frozen_of_heap HZ.out 4
        have z5 : w6.cell? ⟨w.heap.size, 5, none⟩ = some (.slice none 0 0) := Lib.cell_of_heap HZ.out 5
        have f5 := Lib.frozen_of_heap HZ.out 5
        have z6 : w6.cell? ⟨w.heap.size, 6, none⟩ = some (.slice none 0 0) := Lib.cell_of_heap HZ.out 6
        have f6 := Lib.frozen_of_heap HZ.out 6
        clear hZr hB6 HSTR HCK HSI
        cases ok with
        | false =>
          have HR : Hid (res = (symZ, 2)) := Lib.hid (by rw [HRS.out, if_neg (by simp)])
          rw [show errB false = 2 from rfl]
          clear HRS hZ6
          go_wp2
          have s0 := setCell_self z0
          have s1 := setCell_self z1
          have s2 := setCell_self z2
          have s3 := setCell_self z3
          have s4 := setCell_self z4
          have s5 := setCell_self z5
          have s6 := setCell_self z6
          simp only [s0, s1, s2, s3, s4, s5, s6]
          refine bodyPost_ret (v := .tuple #[.agg #[.string ⟨#[]⟩, .int .u8 0, .int .u8 0, .int .u32 0, .string ⟨#[]⟩, .slice none 0 0, .slice none 0 0], .int .i64 2]) (by simp [results, Tryz.results103, go_sem, z0, z1, z2, z3, z4, z5, z6]) rfl ?_
          rw [HR.out]
          exact make_err 2 HW6.out
        | true =>
          have HR : Hid (res = (⟨own, bind, 1, (l.length : Int) * 8, SB, rels, []⟩, (0 : Int))) := Lib.hid (by rw [HRS.out, if_pos rfl])
          rw [show errB true = 0 from rfl]
          clear HRS
          have hZ7 := (set33 (set33 (set33 (set33 (set33 (set33 (set33 hZ6 0 (.string own)) 1 (.int .u8 bind)) 2 (.int .u8 1)) 3 (.int .u32 ((l.length : Int) * 8))) 4 (.string SB)) 5 (.slice pv rels.length cv)) 6 (.slice none 0 0))
          have HB7 := Lib.hid ((((((((HW6.out.setCell (p := ⟨w.heap.size, 0, none⟩) (Nat.le_refl _) (.string own)).setCell (p := ⟨w.heap.size, 1, none⟩) (Nat.le_refl _) (.int .u8 bind)).setCell (p := ⟨w.heap.size, 2, none⟩) (Nat.le_refl _) (.int .u8 1)).setCell (p := ⟨w.heap.size, 3, none⟩) (Nat.le_refl _) (.int .u32 ((l.length : Int) * 8))).setCell (p := ⟨w.heap.size, 4, none⟩) (Nat.le_refl _) (.string SB)).setCell (p := ⟨w.heap.size, 5, none⟩) (Nat.le_refl _) (.slice pv rels.length cv)).setCell (p := ⟨w.heap.size, 6, none⟩) (Nat.le_refl _) (.slice none 0 0)))
          have HO6 : Hid (w6.ownsRow wz.heap.size 101 4 (.slice pv rels.length cv) rels.length (rels.flatMap relCells)) := Lib.hid (own_congr HRW.out fun g hg => HB6.out.block g (World.ownsRow.lt HRW.out g hg).2)
          have hox : ∀ (W : World) j u, W.ownsRow wz.heap.size 101 4 (.slice pv rels.length cv) rels.length (rels.flatMap relCells) → (W.setCell ⟨w.heap.size, j, none⟩ u).ownsRow wz.heap.size 101 4 (.slice pv rels.length cv) rels.length (rels.flatMap relCells) := fun W j u h => own_congr h fun g hg => Below.heap_setCell _ _ _ _ (fun e => by have := (World.ownsRow.lt h g hg).1; simp at e; omega)
          have HO7 := Lib.hid (hox _ 6 (.slice none 0 0) (hox _ 5 (.slice pv rels.length cv) (hox _ 4 (.string SB) (hox _ 3 (.int .u32 ((l.length : Int) * 8)) (hox _ 2 (.int .u8 1) (hox _ 1 (.int .u8 bind) (hox _ 0 (.string own) HO6.out)))))))
          clear hox HO6
          go_wp2
          generalize (((((((w6.setCell ⟨w.heap.size, 0, none⟩ (.string own)).setCell ⟨w.heap.size, 1, none⟩ (.int .u8 bind)).setCell ⟨w.heap.size, 2, none⟩ (.int .u8 1)).setCell ⟨w.heap.size, 3, none⟩ (.int .u32 ((l.length : Int) * 8))).setCell ⟨w.heap.size, 4, none⟩ (.string SB)).setCell ⟨w.heap.size, 5, none⟩ (.slice pv rels.length cv)).setCell ⟨w.heap.size, 6, none⟩ (.slice none 0 0)) = w7 at *
          clear z0 z1 z2 z3 z4 z5 z6 f0 f1 f2 f3 f4 f5 f6 hZ6
          have z0 : w7.cell? ⟨w.heap.size, 0, none⟩ = some (.string own) := Lib.cell_of_heap hZ7 0
          have z1 : w7.cell? ⟨w.heap.size, 1, none⟩ = some (.int .u8 bind) := Lib.cell_of_heap hZ7 1
          have z2 : w7.cell? ⟨w.heap.size, 2, none⟩ = some (.int .u8 1) := Lib.cell_of_heap hZ7 2
          have z3 : w7.cell? ⟨w.heap.size, 3, none⟩ = some (.int .u32 ((l.length : Int) * 8)) := Lib.cell_of_heap hZ7 3
          have z4 : w7.cell? ⟨w.heap.size, 4, none⟩ = some (.string SB) := Lib.cell_of_heap hZ7 4
          have z5 : w7.cell? ⟨w.heap.size, 5, none⟩ = some (.slice pv rels.length cv) := Lib.cell_of_heap hZ7 5
          have z6 : w7.cell? ⟨w.heap.size, 6, none⟩ = some (.slice none 0 0) := Lib.cell_of_heap hZ7 6
          refine bodyPost_ret (v := .tuple #[.agg #[.string own, .int .u8 bind, .int .u8 1, .int .u32 ((l.length : Int) * 8), .string SB, .slice pv rels.length cv, .slice none 0 0], .int .i64 0]) (by simp [results, Tryz.results103, go_sem, z0, z1, z2, z3, z4, z5, z6]) rfl ?_
          rw [HR.out]
          exact ⟨_, rfl, by rw [← hzz]; exact HO7.out, HB7.out⟩
end Go.Proofs.YtoonkfhphbojcaaGreatDoor
