/- What joins a law's contract to its card, for every law. What stands behind a text that is an instruction: its words; the document's ReadInsn answers as dis.ReadInsn does. No walk. -/
import Derived.Test.YtoonkfhphbojcaaGreatDoorRows
import Derived.Test.YtoonkfhphbojcaaGreatDoorBu31
import Derived.Deep.DeepHandedRow
import Derived.Lay
import Derived.LaidMore
import Derived.Stop.Joined
import Derived.Carry
import Derived.Lib.SmallJoins
import Derived.Test.YtoonkfhphbojcaaGreatDoorBu25
namespace Go.Proofs.YtoonkfhphbojcaaGreatDoor
open Go.ChangeShapes Go.WideShapes Go.ChangeAt Go.RowKit
open Go.ChangeMaps (open_string)
theorem own : ownKnob Tryz.prog.godebug = none := by kernel_rfl
theorem laidOut : laidOutB Tryz.prog = true := by kernel_rfl
/-- a law's post: it answers true and keeps all that there was -/
theorem law_post {H : Type} {enc : TypeId × Value → H} {f : Func} {s : ChangeSpec} {W W' : World} {args : Array Value} {ds : List (DataW H)} {before : List MemPlace}
    (hres : f.resultTypes.toList = [4]) (hvars : s.vars = []) (hr : (f.params.toList.all fun t => Tryz.prog.readableRec t && decide (t < Tryz.prog.types.size)) = true)
    (hW : DataW.Whole enc Tryz.prog f.params.toList s.vars false W args.toList ds [] before) (hs : s.fn H (ds ++ []) = { results := [.lit (.bool true)], args := ds }) (hb : Below W.heap.size W W') :
    s.post enc Tryz.prog f false true false false W args (.bool true) W' := by
  have hlt : ∀ x ∈ before, x.block < W.heap.size := fun x hx => hW.lt x hx
  have hW0 := hW
  obtain ⟨p, q, hA, hV, rfl, -, -⟩ := hW0
  refine ⟨ds, [], p ++ q, [], p, q, hW, ?_, ?_, ?_, hb.frame _, fun h => by cases h⟩
  · rw [hs, hres]
    have : f.resultTypes.size = 1 := by rw [← Array.length_toList, hres]; rfl
    rw [this]
    exact ⟨[], [], shut_bool Tryz.underlying4 true, rfl, rfl⟩
  · rw [hs]
    exact trodAll_below laidOut hb hr hA (fun x hx => hlt x (List.mem_append.2 (.inl hx)))
  · rw [hs, hvars]
    rw [hvars] at hV
    exact hV
end Go.Proofs.YtoonkfhphbojcaaGreatDoor
namespace Go.Proofs.YtoonkfhphbojcaaGreatDoor
open Go.RowKit Go.Maps
def joinW (c : UInt8) : List BL → BL
  | [] => []
  | [p] => p
  | p :: q :: r => p ++ c :: joinW c (q :: r)
theorem join_cut (c : UInt8) : ∀ s : BL, joinW c (cutAt c s) = s
  | [] => rfl
  | x :: r => by
    have ih := join_cut c r
    unfold cutAt
    split
    · rename_i h
      subst h
      cases hc : cutAt x r with
      | nil => exact absurd hc (cutAt_ne x r)
      | cons p q => rw [joinW, ← hc, ih]; rfl
    · split
      · rename_i hc; exact absurd hc (cutAt_ne c r)
      · rename_i p q hc
        rw [hc] at ih
        cases q with
        | nil => simp only [joinW] at ih ⊢; rw [ih]
        | cons y z => simp only [joinW] at ih ⊢; rw [← ih]; rfl
/-- the words of an instruction's text -/
def wordsOf (x : GIns) (imm : BL) : List BL := nameL x.op :: ((if bitOf (useOf x.op) 1 then [114 :: decD x.d.toNat] else []) ++ ((if bitOf (useOf x.op) 2 then [114 :: decD x.a.toNat] else []) ++ ((if bitOf (useOf x.op) 4 then [114 :: decD x.b.toNat] else []) ++ (if bitOf (useOf x.op) 8 then [imm] else []))))
theorem told_join (x : GIns) (imm : BL) : toldL x imm = joinW 32 (wordsOf x imm) := by
  unfold toldL wordsOf
  cases bitOf (useOf x.op) 1 <;> cases bitOf (useOf x.op) 2 <;> cases bitOf (useOf x.op) 4 <;> cases bitOf (useOf x.op) 8 <;> simp [joinW]
theorem regL_some {w : BL} {d : Nat} (h : regL w = some d) : w = 114 :: decD d ∧ d < 16 := by
  unfold regL at h
  split at h
  · split at h
    · rename_i v hv
      split at h
      · rename_i h16
        cases h
        exact ⟨by rw [((numL_iff _ _).1 hv).1], h16⟩
      · cases h
    · cases h
  · cases h
/-- what is said of what parsed answers -/
structure ParsOk (x : GIns) (imm : BL) (ps : List BL) : Prop where
  words : ps = wordsOf x imm
  use : useOf x.op ≠ 0
  op : 1 ≤ x.op ∧ x.op ≤ 50
  d : 0 ≤ x.d ∧ x.d < 16 ∧ (bitOf (useOf x.op) 1 = false → x.d = 0)
  a : 0 ≤ x.a ∧ x.a < 16 ∧ (bitOf (useOf x.op) 2 = false → x.a = 0)
  b : 0 ≤ x.b ∧ x.b < 16 ∧ (bitOf (useOf x.op) 4 = false → x.b = 0)
  num : x.imm = 0
  imm : bitOf (useOf x.op) 8 = false → imm = []
theorem list1 {l : List BL} (h : 1 = l.length) : l = [l.getD 0 []] := by
  match l, h with
  | [a], _ => rfl
theorem list2 {l : List BL} (h : 2 = l.length) : l = [l.getD 0 [], l.getD 1 []] := by
  match l, h with
  | [a, b], _ => rfl
theorem list3 {l : List BL} (h : 3 = l.length) : l = [l.getD 0 [], l.getD 1 [], l.getD 2 []] := by
  match l, h with
  | [a, b, c], _ => rfl
theorem list4 {l : List BL} (h : 4 = l.length) : l = [l.getD 0 [], l.getD 1 [], l.getD 2 [], l.getD 3 []] := by
  match l, h with
  | [a, b, c, d], _ => rfl
theorem list5 {l : List BL} (h : 5 = l.length) : l = [l.getD 0 [], l.getD 1 [], l.getD 2 [], l.getD 3 [], l.getD 4 []] := by
  match l, h with
  | [a, b, c, d, e], _ => rfl
theorem takeL_f {ps : List BL} {j : Nat} : takeL false ps j = some ([114, 48], j) := rfl
theorem takeL_t {ps : List BL} {j : Nat} {p : BL × Nat} (h : takeL true ps j = some p) : p = (ps.getD j [], j + 1) := by
  unfold takeL at h
  simp only [if_true] at h
  split at h
  · cases h; rfl
  · cases h
theorem parsedW_ok {ps : List BL} {x : GIns} {imm : BL} (h : parsedW ps = some (x, imm)) : ParsOk x imm ps := by
  unfold parsedW at h
  split at h
  · cases h
  rename_i op ho
  have hop := opOf_bd ho
  obtain ⟨hu, hn⟩ := (opOf_iff _ _ hop.1 hop.2).1 ho
  split at h
  · cases h
  rename_i wd j1 h1
  split at h
  · cases h
  rename_i d hd
  split at h
  · cases h
  rename_i wa j2 h2
  split at h
  · cases h
  rename_i a ha
  split at h
  · cases h
  rename_i wb j3 h3
  split at h
  · cases h
  rename_i b hb
  split at h
  · cases h
  rename_i im j4 h4
  split at h
  · rename_i hl
    cases h
    obtain ⟨rd, rd16⟩ := regL_some hd
    obtain ⟨ra, ra16⟩ := regL_some ha
    obtain ⟨rb, rb16⟩ := regL_some hb
    have z48 : ∀ {v : Nat}, ([114, 48] : BL) = 114 :: decD v → v < 16 → v = 0 := by
      intro v hv h16
      have : regL [114, 48] = some v := by
        unfold regL
        have hnl : numL [48] = some v := (numL_iff _ _).2 ⟨by simpa using hv, by omega⟩
        simp only [hnl, if_pos h16]
      rw [regL_114] at this
      cases this; rfl
    refine ⟨?_, hu, hop, ⟨by simp, by simp; omega, ?_⟩, ⟨by simp, by simp; omega, ?_⟩, ⟨by simp, by simp; omega, ?_⟩, rfl, ?_⟩
    · show ps = wordsOf ⟨op, d, a, b, 0⟩ imm
      unfold wordsOf
      simp only [Int.toNat_natCast]
      rw [hn, ← rd, ← ra, ← rb]
      clear hd ha hb ra rb rd ra16 rb16 rd16 hn ho hop hu z48
      generalize bitOf (useOf op) 1 = c1 at *
      generalize bitOf (useOf op) 2 = c2 at *
      generalize bitOf (useOf op) 4 = c3 at *
      generalize bitOf (useOf op) 8 = c4 at *
      cases c1
      all_goals first | (have e := takeL_t h1; cases e) | cases h1
      all_goals cases c2
      all_goals first | (have e := takeL_t h2; cases e) | cases h2
      all_goals cases c3
      all_goals first | (have e := takeL_t h3; cases e) | cases h3
      all_goals cases c4
      all_goals first | (have e := takeL_t h4; cases e) | cases h4
      all_goals first | exact list1 hl | exact list2 hl | exact list3 hl | exact list4 hl | exact list5 hl
    · intro hc
      rw [hc, takeL_f] at h1
      cases h1
      show ((d : Nat) : Int) = 0
      exact_mod_cast z48 rd rd16
    · intro hc
      rw [hc, takeL_f] at h2
      cases h2
      show ((a : Nat) : Int) = 0
      exact_mod_cast z48 ra ra16
    · intro hc
      rw [hc, takeL_f] at h3
      cases h3
      show ((b : Nat) : Int) = 0
      exact_mod_cast z48 rb rb16
    · intro hc
      rw [hc] at h4
      simp at h4
      exact h4.1
  · cases h
/-- the number laid in, if there is one -/
def readX (r : GIns × BL × Bool) : GIns × Bool := if r.2.1 = [] then (r.1, r.2.2) else (⟨r.1.op, r.1.d, r.1.a, r.1.b, (numR r.2.1).1⟩, r.2.2 && (numR r.2.1).2)
/-- what the document's ReadInsn answers -/
def readInsnR (s : BL) : Option GIns := if (readX (parsedR (cutAt 32 s))).2 && insOk (readX (parsedR (cutAt 32 s))).1 && decide (toldL (readX (parsedR (cutAt 32 s))).1 (decD (readX (parsedR (cutAt 32 s))).1.imm.toNat) = s) then some (readX (parsedR (cutAt 32 s))).1 else none
theorem ParsOk.insOk {x : GIns} {imm : BL} {ps : List BL} (h : ParsOk x imm ps) (v : Int) (hv : bitOf (useOf x.op) 8 = false → v = 0) : insOk ⟨x.op, x.d, x.a, x.b, v⟩ = true := by
  obtain ⟨-, hu, -, ⟨d0, d1, d2⟩, ⟨a0, a1, a2⟩, ⟨b0, b1, b2⟩, -, -⟩ := h
  have hr : ∀ (n : Int) (c : Bool), n < 16 → (c = false → n = 0) → regOk n c = true := by
    intro n c h1 h2
    unfold regOk
    cases c with
    | false => simp [h2 rfl]
    | true => simp [h1]
  unfold Go.Proofs.YtoonkfhphbojcaaGreatDoor.insOk
  simp only [hr _ _ d1 d2, hr _ _ a1 a2, hr _ _ b1 b2, hu, Bool.and_true, ne_eq, not_false_eq_true, decide_true]
  cases hc : bitOf (useOf x.op) 8 with
  | true => rfl
  | false => simp [hv hc]
theorem ParsOk.told {x : GIns} {imm : BL} {s : BL} (h : ParsOk x imm (cutAt 32 s)) : toldL x imm = s := by
  rw [told_join, ← h.words, join_cut]
theorem told_imm (x : GIns) (v : Int) (imm : BL) : toldL ⟨x.op, x.d, x.a, x.b, v⟩ imm = toldL x imm := rfl
theorem told_off {x : GIns} (h : bitOf (useOf x.op) 8 = false) (i j : BL) : toldL x i = toldL x j := by
  unfold toldL; rw [h]; rfl
theorem told_inj {x : GIns} (h : bitOf (useOf x.op) 8 = true) {i j : BL} (he : toldL x i = toldL x j) : i = j := by
  unfold toldL at he
  rw [h] at he
  simpa using he
theorem numL_nil : numL [] = none := by
  cases hn : numL [] with
  | none => rfl
  | some v => exact absurd ((numL_iff _ _).1 hn).1.symm (decD_ne v)
theorem ins_eta (x : GIns) (h : x.imm = 0) : x = ⟨x.op, x.d, x.a, x.b, 0⟩ := by cases x; simp at h; simp [h]
theorem readInsn_same (s : BL) : readInsnR s = readInsnL s := by
  have hw := parsedW_R (cutAt 32 s)
  unfold readInsnR readInsnL
  rw [hw]
  cases hb : (parsedR (cutAt 32 s)).2.2 with
  | false =>
    have : (readX (parsedR (cutAt 32 s))).2 = false := by unfold readX; split <;> simp [hb]
    simp [this]
  | true =>
    rw [hb, if_pos rfl] at hw
    have hk := parsedW_ok hw
    generalize parsedR (cutAt 32 s) = r at hb hk ⊢
    obtain ⟨x, imm, c⟩ := r
    simp only [] at hb hk ⊢
    subst hb
    have htold := hk.told
    simp only [if_true]
    cases h8 : bitOf (useOf x.op) 8 with
    | false =>
      have him := hk.imm h8
      subst him
      have hok := hk.insOk 0 (fun _ => rfl)
      rw [← ins_eta x hk.num] at hok
      have ht : toldL x (decD x.imm.toNat) = s := by rw [← htold]; exact told_off h8 _ _
      simp [readX, hok, ht]
    | true =>
      by_cases him : imm = []
      · subst him
        have ht : ¬ toldL x (decD x.imm.toNat) = s := by
          rw [← htold]
          exact fun he => decD_ne _ (told_inj h8 he)
        simp [readX, ht, numL_nil]
      · have hn := numL_R imm
        cases hn2 : (numR imm).2 with
        | false =>
          rw [hn2] at hn
          simp only [Bool.false_eq_true, if_false] at hn
          simp [readX, him, hn2, hn]
        | true =>
          rw [hn2, if_pos rfl] at hn
          have hdec := ((numL_iff _ _).1 hn).1
          have hok := hk.insOk ((numR imm).1 : Int) (fun h => by rw [h8] at h; cases h)
          have ht : toldL ⟨x.op, x.d, x.a, x.b, ((numR imm).1 : Int)⟩ (decD (numR imm).1) = s := by rw [← hdec, told_imm]; exact htold
          simp only [readX, him, if_false, hn2, Bool.and_true, hok, Int.toNat_natCast, ht, decide_true, if_true, hn]
end Go.Proofs.YtoonkfhphbojcaaGreatDoor
