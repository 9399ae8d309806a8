/- What the document's parsed answers, as a Lean function; it answers as dis.parsed does. No walk. What stands behind a text that is an instruction: its words; the document's ReadInsn answers as dis.ReadInsn does. No walk. Words joined are cut as they were; an instruction's text is parsed as what it was told of; strings.Cut in plain words. No walk. Lines of code told and read, in plain words (dis). No walk. -/
import Derived.Test.YtoonkfhphbojcaaGreatDoorBv24
import Derived.Test.YtoonkfhphbojcaaGreatDoorBv22
import Derived.Test.YtoonkfhphbojcaaGreatDoorBv23
import Derived.Test.YtoonkfhphbojcaaGreatDoorBv25
import Derived.Test.YtoonkfhphbojcaaGreatDoorBv26
namespace Go.Proofs.YtoonkfhphbojcaaGreatDoor
open Go.RowKit Go.Maps
theorem op_use : ∀ p ∈ opL, useOf p.1 ≠ 0 ∧ nameL p.1 = p.2 ∧ (1 ≤ p.1 ∧ p.1 ≤ 50) := by decide +kernel
theorem name_op : ∀ k : Nat, k < 51 → useOf (k : Int) ≠ 0 → opOf (nameL (k : Int)) = some (k : Int) := by decide +kernel
theorem opOf_iff (l : BL) (op : Int) (h1 : 1 ≤ op) (h2 : op ≤ 50) : opOf l = some op ↔ useOf op ≠ 0 ∧ nameL op = l := by
  constructor
  · intro h
    unfold opOf at h
    cases hf : opL.find? fun p => decide (l = p.2) with
    | none => rw [hf] at h; cases h
    | some p =>
      rw [hf] at h
      cases h
      have hm := op_use p (List.mem_of_find?_eq_some hf)
      have he := List.find?_some hf
      simp only [decide_eq_true_eq] at he
      exact ⟨hm.1, hm.2.1.trans he.symm⟩
  · rintro ⟨hu, rfl⟩
    obtain ⟨k, rfl⟩ : ∃ k : Nat, op = k := ⟨op.toNat, by omega⟩
    exact name_op k (by omega) hu
theorem opOf_bd {l : BL} {op : Int} (h : opOf l = some op) : 1 ≤ op ∧ op ≤ 50 := by
  unfold opOf at h
  cases hf : opL.find? fun p => decide (l = p.2) with
  | none => rw [hf] at h; cases h
  | some p => rw [hf] at h; cases h; exact (op_use p (List.mem_of_find?_eq_some hf)).2.2
/-- bit k of what an op uses -/
def ubit (op : Int) (k : Nat) : Bool := bitOf (useOf op) (2 ^ k)
def setR (x : GIns) (imm wd : BL) : Nat → GIns × BL
  | 0 => (⟨x.op, regR wd, x.a, x.b, x.imm⟩, imm)
  | 1 => (⟨x.op, x.d, regR wd, x.b, x.imm⟩, imm)
  | 2 => (⟨x.op, x.d, x.a, regR wd, x.imm⟩, imm)
  | _ => (x, wd)
/-- the instruction, what stands in the place of its number, and the next word, behind k of the four -/
def stR (op : Int) (ps : List BL) : Nat → Option ((GIns × BL) × Nat)
  | 0 => some ((⟨op, 0, 0, 0, 0⟩, []), 1)
  | k + 1 => match stR op ps k with
    | none => none
    | some (xi, j) => if ubit op k then if j < ps.length then some (setR xi.1 xi.2 (ps.getD j []) k, j + 1) else none else some (xi, j)
def parsedR (ps : List BL) : GIns × BL × Bool := match opOf (ps.getD 0 []) with
  | none => (ins0, [], false)
  | some op => match stR op ps 4 with
    | none => (ins0, [], false)
    | some ((x, imm), j) => (x, imm, decide (j = ps.length) && decide (x.d < 16) && decide (x.a < 16) && decide (x.b < 16))
theorem regL_114 : regL [114, 48] = some 0 := by decide +kernel
theorem pars_all (op : Int) (b1 b2 b3 b4 : Bool) (ps : List BL) :
    (match takeL b1 ps 1 with
      | none => none
      | some (wd, j1) => match regL wd with
        | none => none
        | some d => match takeL b2 ps j1 with
          | none => none
          | some (wa, j2) => match regL wa with
            | none => none
            | some a => match takeL b3 ps j2 with
              | none => none
              | some (wb, j3) => match regL wb with
                | none => none
                | some b => match (if b4 then takeL true ps j3 else some ([], j3)) with
                  | none => none
                  | some (imm, j4) => if j4 = ps.length then some ((⟨op, d, a, b, 0⟩ : GIns), imm) else none) =
    (let st1 : Option ((GIns × BL) × Nat) := if b1 then if 1 < ps.length then some (setR ⟨op, 0, 0, 0, 0⟩ [] (ps.getD 1 []) 0, 2) else none else some ((⟨op, 0, 0, 0, 0⟩, []), 1)
     let st2 : Option ((GIns × BL) × Nat) := match st1 with
      | none => none
      | some (xi, j) => if b2 then if j < ps.length then some (setR xi.1 xi.2 (ps.getD j []) 1, j + 1) else none else some (xi, j)
     let st3 : Option ((GIns × BL) × Nat) := match st2 with
      | none => none
      | some (xi, j) => if b3 then if j < ps.length then some (setR xi.1 xi.2 (ps.getD j []) 2, j + 1) else none else some (xi, j)
     let st4 : Option ((GIns × BL) × Nat) := match st3 with
      | none => none
      | some (xi, j) => if b4 then if j < ps.length then some (setR xi.1 xi.2 (ps.getD j []) 3, j + 1) else none else some (xi, j)
     let r : GIns × BL × Bool := match st4 with
      | none => (ins0, [], false)
      | some ((x, imm), j) => (x, imm, decide (j = ps.length) && decide (x.d < 16) && decide (x.a < 16) && decide (x.b < 16))
     if r.2.2 then some (r.1, r.2.1) else none) := by
  have hr : ∀ w, ((regR w : Int) < 16 ∧ regL w = some (regR w)) ∨ (¬ (regR w : Int) < 16 ∧ regL w = none) := fun w => by
    rw [regL_R w]
    by_cases h : regR w < 16
    · exact .inl ⟨by omega, if_pos h⟩
    · exact .inr ⟨by omega, if_neg h⟩
  have h1 := hr (ps.getD 1 [])
  have h2 := hr (ps.getD 2 [])
  have h3 := hr (ps.getD 3 [])
  clear hr
  simp only [List.getD_eq_getElem?_getD] at *
  have hn : (¬ 1 < ps.length ∧ ¬ 2 < ps.length ∧ ¬ 3 < ps.length ∧ ¬ 4 < ps.length) ∨ (1 < ps.length ∧ ¬ 2 < ps.length ∧ ¬ 3 < ps.length ∧ ¬ 4 < ps.length) ∨ (1 < ps.length ∧ 2 < ps.length ∧ ¬ 3 < ps.length ∧ ¬ 4 < ps.length) ∨ (1 < ps.length ∧ 2 < ps.length ∧ 3 < ps.length ∧ ¬ 4 < ps.length) ∨ (1 < ps.length ∧ 2 < ps.length ∧ 3 < ps.length ∧ 4 < ps.length) := by omega
  cases b1 <;> cases b2 <;> cases b3 <;> cases b4 <;> simp only [takeL, List.getD_eq_getElem?_getD, regL_114, if_true, Bool.false_eq_true, if_false, setR]
  all_goals
    rcases hn with ⟨n1, n2, n3, n4⟩ | ⟨n1, n2, n3, n4⟩ | ⟨n1, n2, n3, n4⟩ | ⟨n1, n2, n3, n4⟩ | ⟨n1, n2, n3, n4⟩
    all_goals try simp only [n1, n2, n3, n4, if_true, if_false]
    all_goals try rfl
    all_goals rcases h1 with ⟨a1, c1⟩ | ⟨a1, c1⟩
    all_goals try simp only [c1]
    all_goals rcases h2 with ⟨a2, c2⟩ | ⟨a2, c2⟩
    all_goals try simp only [c2]
    all_goals rcases h3 with ⟨a3, c3⟩ | ⟨a3, c3⟩
    all_goals try simp only [c3]
    all_goals simp [a1, a2, a3]
theorem parsedW_R (ps : List BL) : parsedW ps = if (parsedR ps).2.2 then some ((parsedR ps).1, (parsedR ps).2.1) else none := by
  unfold parsedW parsedR
  cases ho : opOf (ps.getD 0 []) with
  | none => rfl
  | some op => exact pars_all op (ubit op 0) (ubit op 1) (ubit op 2) (ubit op 3) ps
end Go.Proofs.YtoonkfhphbojcaaGreatDoor
namespace Go.Proofs.YtoonkfhphbojcaaGreatDoor
open Go.RowKit Go.Maps
def joinW (c : UInt8) : List BL → BL
  | [] => []
  | [p] => p
  | p :: q :: r => p ++ c :: joinW c (q :: r)
theorem join_cut (c : UInt8) : ∀ s : BL, joinW c (cutAt c s) = s
  | [] => rfl
  | x :: r => by
    have ih := join_cut c r
    unfold cutAt
    split
    · rename_i h
      subst h
      cases hc : cutAt x r with
      | nil => exact absurd hc (cutAt_ne x r)
      | cons p q => rw [joinW, ← hc, ih]; rfl
    · split
      · rename_i hc; exact absurd hc (cutAt_ne c r)
      · rename_i p q hc
        rw [hc] at ih
        cases q with
        | nil => simp only [joinW] at ih ⊢; rw [ih]
        | cons y z => simp only [joinW] at ih ⊢; rw [← ih]; rfl
/-- the words of an instruction's text -/
def wordsOf (x : GIns) (imm : BL) : List BL := nameL x.op :: ((if bitOf (useOf x.op) 1 then [114 :: decD x.d.toNat] else []) ++ ((if bitOf (useOf x.op) 2 then [114 :: decD x.a.toNat] else []) ++ ((if bitOf (useOf x.op) 4 then [114 :: decD x.b.toNat] else []) ++ (if bitOf (useOf x.op) 8 then [imm] else []))))
theorem told_join (x : GIns) (imm : BL) : toldL x imm = joinW 32 (wordsOf x imm) := by
  unfold toldL wordsOf
  cases bitOf (useOf x.op) 1 <;> cases bitOf (useOf x.op) 2 <;> cases bitOf (useOf x.op) 4 <;> cases bitOf (useOf x.op) 8 <;> simp [joinW]
theorem regL_some {w : BL} {d : Nat} (h : regL w = some d) : w = 114 :: decD d ∧ d < 16 := by
  unfold regL at h
  split at h
  · split at h
    · rename_i v hv
      split at h
      · rename_i h16
        cases h
        exact ⟨by rw [((numL_iff _ _).1 hv).1], h16⟩
      · cases h
    · cases h
  · cases h
/-- what is said of what parsed answers -/
structure ParsOk (x : GIns) (imm : BL) (ps : List BL) : Prop where
  words : ps = wordsOf x imm
  use : useOf x.op ≠ 0
  op : 1 ≤ x.op ∧ x.op ≤ 50
  d : 0 ≤ x.d ∧ x.d < 16 ∧ (bitOf (useOf x.op) 1 = false → x.d = 0)
  a : 0 ≤ x.a ∧ x.a < 16 ∧ (bitOf (useOf x.op) 2 = false → x.a = 0)
  b : 0 ≤ x.b ∧ x.b < 16 ∧ (bitOf (useOf x.op) 4 = false → x.b = 0)
  num : x.imm = 0
  imm : bitOf (useOf x.op) 8 = false → imm = []
theorem list1 {l : List BL} (h : 1 = l.length) : l = [l.getD 0 []] := by
  match l, h with
  | [a], _ => rfl
theorem list2 {l : List BL} (h : 2 = l.length) : l = [l.getD 0 [], l.getD 1 []] := by
  match l, h with
  | [a, b], _ => rfl
theorem list3 {l : List BL} (h : 3 = l.length) : l = [l.getD 0 [], l.getD 1 [], l.getD 2 []] := by
  match l, h with
  | [a, b, c], _ => rfl
theorem list4 {l : List BL} (h : 4 = l.length) : l = [l.getD 0 [], l.getD 1 [], l.getD 2 [], l.getD 3 []] := by
  match l, h with
  | [a, b, c, d], _ => rfl
theorem list5 {l : List BL} (h : 5 = l.length) : l = [l.getD 0 [], l.getD 1 [], l.getD 2 [], l.getD 3 [], l.getD 4 []] := by
  match l, h with
  | [a, b, c, d, e], _ => rfl
theorem takeL_f {ps : List BL} {j : Nat} : takeL false ps j = some ([114, 48], j) := rfl
theorem takeL_t {ps : List BL} {j : Nat} {p : BL × Nat} (h : takeL true ps j = some p) : p = (ps.getD j [], j + 1) := by
  unfold takeL at h
  simp only [if_true] at h
  split at h
  · cases h; rfl
  · cases h
theorem parsedW_ok {ps : List BL} {x : GIns} {imm : BL} (h : parsedW ps = some (x, imm)) : ParsOk x imm ps := by
  unfold parsedW at h
  split at h
  · cases h
  rename_i op ho
  have hop := opOf_bd ho
  obtain ⟨hu, hn⟩ := (opOf_iff _ _ hop.1 hop.2).1 ho
  split at h
  · cases h
  rename_i wd j1 h1
  split at h
  · cases h
  rename_i d hd
  split at h
  · cases h
  rename_i wa j2 h2
  split at h
  · cases h
  rename_i a ha
  split at h
  · cases h
  rename_i wb j3 h3
  split at h
  · cases h
  rename_i b hb
  split at h
  · cases h
  rename_i im j4 h4
  split at h
  · rename_i hl
    cases h
    obtain ⟨rd, rd16⟩ := regL_some hd
    obtain ⟨ra, ra16⟩ := regL_some ha
    obtain ⟨rb, rb16⟩ := regL_some hb
    have z48 : ∀ {v : Nat}, ([114, 48] : BL) = 114 :: decD v → v < 16 → v = 0 := by
      intro v hv h16
      have : regL [114, 48] = some v := by
        unfold regL
        have hnl : numL [48] = some v := (numL_iff _ _).2 ⟨by simpa using hv, by omega⟩
        simp only [hnl, if_pos h16]
      rw [regL_114] at this
      cases this; rfl
    refine ⟨?_, hu, hop, ⟨by simp, by simp; omega, ?_⟩, ⟨by simp, by simp; omega, ?_⟩, ⟨by simp, by simp; omega, ?_⟩, rfl, ?_⟩
    · show ps = wordsOf ⟨op, d, a, b, 0⟩ imm
      unfold wordsOf
      simp only [Int.toNat_natCast]
      rw [hn, ← rd, ← ra, ← rb]
      clear hd ha hb ra rb rd ra16 rb16 rd16 hn ho hop hu z48
      generalize bitOf (useOf op) 1 = c1 at *
      generalize bitOf (useOf op) 2 = c2 at *
      generalize bitOf (useOf op) 4 = c3 at *
      generalize bitOf (useOf op) 8 = c4 at *
      cases c1
      all_goals first | (have e := takeL_t h1; cases e) | cases h1
      all_goals cases c2
      all_goals first | (have e := takeL_t h2; cases e) | cases h2
      all_goals cases c3
      all_goals first | (have e := takeL_t h3; cases e) | cases h3
      all_goals cases c4
      all_goals first | (have e := takeL_t h4; cases e) | cases h4
      all_goals first | exact list1 hl | exact list2 hl | exact list3 hl | exact list4 hl | exact list5 hl
    · intro hc
      rw [hc, takeL_f] at h1
      cases h1
      show ((d : Nat) : Int) = 0
      exact_mod_cast z48 rd rd16
    · intro hc
      rw [hc, takeL_f] at h2
      cases h2
      show ((a : Nat) : Int) = 0
      exact_mod_cast z48 ra ra16
    · intro hc
      rw [hc, takeL_f] at h3
      cases h3
      show ((b : Nat) : Int) = 0
      exact_mod_cast z48 rb rb16
    · intro hc
      rw [hc] at h4
      simp at h4
      exact h4.1
  · cases h
/-- the number laid in, if there is one -/
def readX (r : GIns × BL × Bool) : GIns × Bool := if r.2.1 = [] then (r.1, r.2.2) else (⟨r.1.op, r.1.d, r.1.a, r.1.b, (numR r.2.1).1⟩, r.2.2 && (numR r.2.1).2)
/-- what the document's ReadInsn answers -/
def readInsnR (s : BL) : Option GIns := if (readX (parsedR (cutAt 32 s))).2 && insOk (readX (parsedR (cutAt 32 s))).1 && decide (toldL (readX (parsedR (cutAt 32 s))).1 (decD (readX (parsedR (cutAt 32 s))).1.imm.toNat) = s) then some (readX (parsedR (cutAt 32 s))).1 else none
theorem ParsOk.insOk {x : GIns} {imm : BL} {ps : List BL} (h : ParsOk x imm ps) (v : Int) (hv : bitOf (useOf x.op) 8 = false → v = 0) : insOk ⟨x.op, x.d, x.a, x.b, v⟩ = true := by
  obtain ⟨-, hu, -, ⟨d0, d1, d2⟩, ⟨a0, a1, a2⟩, ⟨b0, b1, b2⟩, -, -⟩ := h
  have hr : ∀ (n : Int) (c : Bool), n < 16 → (c = false → n = 0) → regOk n c = true := by
    intro n c h1 h2
    unfold regOk
    cases c with
    | false => simp [h2 rfl]
    | true => simp [h1]
  unfold Go.Proofs.YtoonkfhphbojcaaGreatDoor.insOk
  simp only [hr _ _ d1 d2, hr _ _ a1 a2, hr _ _ b1 b2, hu, Bool.and_true, ne_eq, not_false_eq_true, decide_true]
  cases hc : bitOf (useOf x.op) 8 with
  | true => rfl
  | false => simp [hv hc]
theorem ParsOk.told {x : GIns} {imm : BL} {s : BL} (h : ParsOk x imm (cutAt 32 s)) : toldL x imm = s := by
  rw [told_join, ← h.words, join_cut]
theorem told_imm (x : GIns) (v : Int) (imm : BL) : toldL ⟨x.op, x.d, x.a, x.b, v⟩ imm = toldL x imm := rfl
theorem told_off {x : GIns} (h : bitOf (useOf x.op) 8 = false) (i j : BL) : toldL x i = toldL x j := by
  unfold toldL; rw [h]; rfl
theorem told_inj {x : GIns} (h : bitOf (useOf x.op) 8 = true) {i j : BL} (he : toldL x i = toldL x j) : i = j := by
  unfold toldL at he
  rw [h] at he
  simpa using he
theorem numL_nil : numL [] = none := by
  cases hn : numL [] with
  | none => rfl
  | some v => exact absurd ((numL_iff _ _).1 hn).1.symm (decD_ne v)
theorem ins_eta (x : GIns) (h : x.imm = 0) : x = ⟨x.op, x.d, x.a, x.b, 0⟩ := by cases x; simp at h; simp [h]
theorem readInsn_same (s : BL) : readInsnR s = readInsnL s := by
  have hw := parsedW_R (cutAt 32 s)
  unfold readInsnR readInsnL
  rw [hw]
  cases hb : (parsedR (cutAt 32 s)).2.2 with
  | false =>
    have : (readX (parsedR (cutAt 32 s))).2 = false := by unfold readX; split <;> simp [hb]
    simp [this]
  | true =>
    rw [hb, if_pos rfl] at hw
    have hk := parsedW_ok hw
    generalize parsedR (cutAt 32 s) = r at hb hk ⊢
    obtain ⟨x, imm, c⟩ := r
    simp only [] at hb hk ⊢
    subst hb
    have htold := hk.told
    simp only [if_true]
    cases h8 : bitOf (useOf x.op) 8 with
    | false =>
      have him := hk.imm h8
      subst him
      have hok := hk.insOk 0 (fun _ => rfl)
      rw [← ins_eta x hk.num] at hok
      have ht : toldL x (decD x.imm.toNat) = s := by rw [← htold]; exact told_off h8 _ _
      simp [readX, hok, ht]
    | true =>
      by_cases him : imm = []
      · subst him
        have ht : ¬ toldL x (decD x.imm.toNat) = s := by
          rw [← htold]
          exact fun he => decD_ne _ (told_inj h8 he)
        simp [readX, ht, numL_nil]
      · have hn := numL_R imm
        cases hn2 : (numR imm).2 with
        | false =>
          rw [hn2] at hn
          simp only [Bool.false_eq_true, if_false] at hn
          simp [readX, him, hn2, hn]
        | true =>
          rw [hn2, if_pos rfl] at hn
          have hdec := ((numL_iff _ _).1 hn).1
          have hok := hk.insOk ((numR imm).1 : Int) (fun h => by rw [h8] at h; cases h)
          have ht : toldL ⟨x.op, x.d, x.a, x.b, ((numR imm).1 : Int)⟩ (decD (numR imm).1) = s := by rw [← hdec, told_imm]; exact htold
          simp only [readX, him, if_false, hn2, Bool.and_true, hok, Int.toNat_natCast, ht, decide_true, if_true, hn]
end Go.Proofs.YtoonkfhphbojcaaGreatDoor
namespace Go.Proofs.YtoonkfhphbojcaaGreatDoor
open Go.RowKit Go.Maps
theorem cut_none (c : UInt8) : ∀ s : BL, c ∉ s → cutAt c s = [s]
  | [], _ => rfl
  | x :: r, h => by
    have h1 : x ≠ c := fun e => h (by simp [e])
    have h2 : c ∉ r := fun e => h (by simp [e])
    unfold cutAt
    rw [if_neg h1, cut_none c r h2]
theorem cut_app (c : UInt8) : ∀ p r : BL, c ∉ p → cutAt c (p ++ c :: r) = p :: cutAt c r
  | [], r, _ => by simp [cutAt]
  | x :: p, r, h => by
    have h1 : x ≠ c := fun e => h (by simp [e])
    have h2 : c ∉ p := fun e => h (by simp [e])
    rw [List.cons_append, cutAt, if_neg h1, cut_app c p r h2]
theorem cut_join (c : UInt8) : ∀ ws : List BL, ws ≠ [] → (∀ p ∈ ws, c ∉ p) → cutAt c (joinW c ws) = ws
  | [], h, _ => absurd rfl h
  | [p], _, h => by rw [joinW]; exact cut_none c p (h p (by simp))
  | p :: q :: r, _, h => by
    rw [joinW, cut_app c p _ (h p (by simp)), cut_join c (q :: r) (by simp) (fun t ht => h t (by simp [ht]))]
theorem regL_dec {n : Int} (h0 : 0 ≤ n) (h : n < 16) : regL (114 :: decD n.toNat) = some n.toNat := by
  unfold regL
  have hnl : numL (decD n.toNat) = some n.toNat := (numL_iff _ _).2 ⟨rfl, by omega⟩
  simp only [hnl, if_pos (show n.toNat < 16 by omega)]
theorem use_op {op : Int} (h : useOf op ≠ 0) : 1 ≤ op ∧ op ≤ 50 := by
  unfold useOf at h
  simp only [opTwo, opMem] at h
  repeat' split at h
  all_goals first | omega | (simp at *; omega)
theorem regOk_off {n : Int} (h : regOk n false = true) : n = 0 := by simpa [regOk] using h
theorem parsed_words (x : GIns) (imm : BL) (hx : InsB x) (hok : insOk x = true) : parsedW (wordsOf x imm) = some (⟨x.op, x.d, x.a, x.b, 0⟩, if bitOf (useOf x.op) 8 then imm else []) := by
  obtain ⟨op, d, a, b, v⟩ := x
  obtain ⟨-, ⟨d0, -⟩, ⟨a0, -⟩, ⟨b0, -⟩, -⟩ := hx
  unfold insOk at hok
  simp only [Bool.and_eq_true, decide_eq_true_eq] at hok d0 a0 b0
  obtain ⟨⟨⟨⟨hu, h1⟩, h2⟩, h3⟩, -⟩ := hok
  have hop := use_op hu
  have ho : opOf (nameL op) = some op := (opOf_iff _ _ hop.1 hop.2).2 ⟨hu, rfl⟩
  have r1 := regL_dec d0 (regOk_lt h1)
  have r2 := regL_dec a0 (regOk_lt h2)
  have r3 := regL_dec b0 (regOk_lt h3)
  unfold parsedW wordsOf
  simp only [List.getD_cons_zero, ho]
  clear ho hop hu
  generalize nameL op = nm
  generalize bitOf (useOf op) 1 = c1 at *
  generalize bitOf (useOf op) 2 = c2 at *
  generalize bitOf (useOf op) 4 = c3 at *
  generalize bitOf (useOf op) 8 = c4 at *
  cases c1
  all_goals first | (have e1 := regOk_off h1; subst e1) | skip
  all_goals cases c2
  all_goals first | (have e2 := regOk_off h2; subst e2) | skip
  all_goals cases c3
  all_goals first | (have e3 := regOk_off h3; subst e3) | skip
  all_goals cases c4
  all_goals simp [takeL, regL_114, r1, r2, r3, Int.toNat_of_nonneg d0, Int.toNat_of_nonneg a0, Int.toNat_of_nonneg b0]
theorem nameL_mem (a : Int) : ∀ c ∈ nameL a, 97 ≤ c.toNat ∧ c.toNat ≤ 122 := by
  have hA : ∀ p ∈ opL, ∀ c ∈ p.2, 97 ≤ c.toNat ∧ c.toNat ≤ 122 := by decide +kernel
  unfold nameL
  cases h : opL.find? fun p => decide (a = p.1) with
  | none => simp
  | some p => exact hA p (List.mem_of_find?_eq_some h)
theorem decD_mem : ∀ (n : Nat), ∀ c ∈ decD n, 48 ≤ c.toNat ∧ c.toNat ≤ 57 := by
  intro n
  unfold decD
  induction n using Nat.strongRecOn with
  | _ n ih =>
    rw [Lib.decDigits]
    split
    · intro c hc
      simp at hc
      subst hc
      simp
      omega
    · intro c hc
      simp at hc
      rcases hc with hc | hc
      · exact ih (n / 10) (by omega) c hc
      · subst hc
        simp
        omega
theorem dec_not {c : UInt8} (h : c.toNat < 48 ∨ 57 < c.toNat) (n : Nat) : c ∉ decD n := fun hc => by have := decD_mem n c hc; omega
theorem nameL_not {c : UInt8} (h : c.toNat < 97 ∨ 122 < c.toNat) (a : Int) : c ∉ nameL a := fun hc => by have := nameL_mem a c hc; omega
theorem words_not {c : UInt8} (h : c.toNat < 48 ∨ 57 < c.toNat ∧ c.toNat < 97 ∨ 122 < c.toNat) (x : GIns) (imm : BL) (hi : bitOf (useOf x.op) 8 = true → c ∉ imm) : ∀ p ∈ wordsOf x imm, c ∉ p := by
  have h1 : ∀ n, c ∉ decD n := fun n => dec_not (by omega) n
  have h2 : c ∉ nameL x.op := nameL_not (by omega) x.op
  have h3 : c ≠ 114 := fun e => by rw [e] at h; simp at h
  intro p hp
  unfold wordsOf at hp
  simp only [List.mem_cons, List.mem_append] at hp
  have h4 : ∀ n, c ∉ (114 :: decD n : BL) := fun n hn => by
    rcases List.mem_cons.1 hn with e | e
    · exact h3 e
    · exact h1 n e
  rcases hp with rfl | hp | hp | hp | hp
  · exact h2
  · split at hp
    · simp at hp; subst hp; exact h4 _
    · simp at hp
  · split at hp
    · simp at hp; subst hp; exact h4 _
    · simp at hp
  · split at hp
    · simp at hp; subst hp; exact h4 _
    · simp at hp
  · split at hp
    · rename_i h8
      simp at hp; subst hp; exact hi h8
    · simp at hp
theorem join_not {c d : UInt8} (hd : c ≠ d) : ∀ ws : List BL, (∀ p ∈ ws, c ∉ p) → c ∉ joinW d ws
  | [], _ => by simp [joinW]
  | [p], h => by rw [joinW]; exact h p (by simp)
  | p :: q :: r, h => by
    rw [joinW]
    have := join_not hd (q :: r) (fun t ht => h t (by simp [ht]))
    simp only [List.mem_append, List.mem_cons, not_or]
    exact ⟨h p (by simp), hd, this⟩
theorem told_not {c : UInt8} (h : c.toNat < 48 ∨ 57 < c.toNat ∧ c.toNat < 97 ∨ 122 < c.toNat) (h32 : c ≠ 32) (x : GIns) (imm : BL) (hi : bitOf (useOf x.op) 8 = true → c ∉ imm) : c ∉ toldL x imm := by
  rw [told_join]
  exact join_not h32 _ (words_not h x imm hi)
theorem parsed_told (x : GIns) (imm : BL) (hx : InsB x) (hok : insOk x = true) (hi : bitOf (useOf x.op) 8 = true → (32 : UInt8) ∉ imm) : parsedW (cutAt 32 (toldL x imm)) = some (⟨x.op, x.d, x.a, x.b, 0⟩, if bitOf (useOf x.op) 8 then imm else []) := by
  rw [told_join, cut_join 32 _ (by simp [wordsOf]) (words_not (by simp) x imm hi)]
  exact parsed_words x imm hx hok
/-- strings.Cut -/
theorem lcut_hit (a sep b : BL) (c : UInt8) (t : BL) (hs : sep = c :: t) (ha : c ∉ a) : Lib.cut (a ++ sep ++ b) sep = (a, b, true) := by
  have hi : Lib.index (a ++ sep ++ b) sep = (a.length : Int) := by
    refine Lib.index_first (by simp) ?_ (fun j hj => ?_)
    · unfold Lib.occAt
      rw [List.append_assoc, List.drop_left]
      rw [List.isPrefixOf_iff_prefix]
      exact ⟨b, rfl⟩
    · cases ho : Lib.occAt (a ++ sep ++ b) sep j with
      | false => rfl
      | true =>
        have := Lib.occAt_head hs ho
        rw [List.append_assoc, List.getElem?_append_left hj, List.getElem?_eq_getElem hj] at this
        exact absurd (by rw [← Option.some.inj this]; exact List.getElem_mem hj) ha
  unfold Lib.cut
  rw [hi, if_pos (by omega), Int.toNat_natCast]
  rw [List.append_assoc, List.take_left, ← List.append_assoc]
  congr 1
  congr 1
  rw [show a.length + sep.length = (a ++ sep).length by simp, List.drop_left]
theorem lcut_miss (s sep : BL) (c : UInt8) (t : BL) (hs : sep = c :: t) (ha : c ∉ s) : Lib.cut s sep = (s, [], false) := by
  have hi : Lib.index s sep = -1 := Lib.index_none fun j _ => by
    cases ho : Lib.occAt s sep j with
    | false => rfl
    | true =>
      have := Lib.occAt_head hs ho
      exact absurd (List.mem_of_getElem? this) ha
  unfold Lib.cut
  rw [hi, if_neg (by omega)]
theorem lcut_back {s sep a b : BL} (h : Lib.cut s sep = (a, b, true)) : s = a ++ sep ++ b := by
  unfold Lib.cut at h
  split at h
  · rename_i h0
    rcases Lib.index_spec s sep with ⟨h1, -⟩ | ⟨i, h1, h2, h3, -⟩
    · omega
    · rw [h1, Int.toNat_natCast] at h
      cases h
      unfold Lib.occAt at h3
      rw [List.isPrefixOf_iff_prefix] at h3
      obtain ⟨r, hr⟩ := h3
      conv => lhs; rw [← List.take_append_drop i s]
      rw [List.append_assoc]
      congr 1
      rw [← hr, ← List.drop_drop, ← hr, List.drop_left]
  · cases h
theorem lcut_len (s sep : BL) : (Lib.cut s sep).1.length ≤ s.length ∧ (Lib.cut s sep).2.1.length ≤ s.length := by
  unfold Lib.cut
  split
  · exact ⟨by simp; omega, by simp⟩
  · simp
end Go.Proofs.YtoonkfhphbojcaaGreatDoor
namespace Go.Proofs.YtoonkfhphbojcaaGreatDoor
open Go.RowKit Go.Maps
/-- what stands in the place of a number -/
def placeL (x : GLine) : BL := if x.dest = [] then (if x.name = [] then decD x.x.imm.toNat else 64 :: (x.name ++ 43 :: decD x.x.imm.toNat)) else 62 :: x.dest
def lineL (x : GLine) : BL := (if x.label = [] then [] else x.label ++ [58, 32]) ++ toldL x.x (placeL x)
/-- may a line be told? -/
def lineOk (x : GLine) : Bool := nameOk x.label && tellMay x
def linesL (l : List GLine) : Option BL := if l.all lineOk then some (l.flatMap fun x => lineL x ++ [10]) else none
/-- the label, and what stands behind it -/
def restOf (s : BL) : Option (BL × BL) := if (Lib.cut s [58, 32]).2.2 then (if (Lib.cut s [58, 32]).1 = [] then none else some ((Lib.cut s [58, 32]).1, (Lib.cut s [58, 32]).2.1)) else some ([], s)
/-- where a line goes to, its number, its name -/
def immOf (op : Int) : BL → Option (BL × Nat × BL)
  | 62 :: t => if t = [] then none else some (t, 0, [])
  | 64 :: at_ => if (Lib.cut at_ [43]).2.2 = true ∧ (Lib.cut at_ [43]).1 ≠ [] then (numL (Lib.cut at_ [43]).2.1).map fun k => ([], k, (Lib.cut at_ [43]).1) else none
  | imm => if bitOf (useOf op) 8 then (numL imm).map fun k => ([], k, []) else some ([], 0, [])
def lineOf (label : BL) (x : GIns) (r : BL × Nat × BL) : GLine := ⟨label, ⟨x.op, x.d, x.a, x.b, (r.2.1 : Int)⟩, r.1, r.2.2⟩
def okLn (x : GLine) : Option GLine := if lineOk x then some x else none
def readLineL (s : BL) : Option GLine :=
  (restOf s).bind fun p => (parsedW (cutAt 32 p.2)).bind fun q => (immOf q.1.op q.2).bind fun r => okLn (lineOf p.1 q.1 r)
theorem nameOk_not {s : BL} (h : nameOk s = true) {c : UInt8} (hc : nameByte c = false) : c ∉ s := by
  unfold nameOk at h
  simp only [Bool.or_eq_true, decide_eq_true_eq] at h
  rcases h with rfl | h
  · simp
  · unfold isName at h
    simp only [Bool.and_eq_true, List.all_eq_true] at h
    intro hm
    have h1 := h.1.1 c (by rw [bsOf_list]; exact hm)
    rw [hc] at h1; cases h1
theorem lnMay_parts {x : GLine} (h : lnMay x = true) : (x.dest = [] ∨ x.name = []) ∧ nameOk x.label = true ∧ nameOk x.dest = true ∧ nameOk x.name = true ∧ (x.dest = [] ∧ x.name = [] ∧ insOk x.x = true ∨ (x.dest ≠ [] ∨ x.name ≠ []) ∧ bitOf (useOf x.x.op) 8 = true ∧ insOk (noImm x.x) = true) := by
  unfold lnMay at h
  simp only [Bool.and_eq_true] at h
  obtain ⟨⟨⟨⟨h1, h2⟩, h3⟩, h4⟩, h5⟩ := h
  refine ⟨?_, h2, h3, h4, ?_⟩
  · by_cases hd : x.dest = []
    · exact .inl hd
    · by_cases hn : x.name = []
      · exact .inr hn
      · simp [hd, hn] at h1
  · by_cases hd : x.dest = []
    · by_cases hn : x.name = []
      · simp [hd, hn] at h5
        exact .inl ⟨hd, hn, h5⟩
      · simp [hd, hn] at h5
        exact .inr ⟨.inr hn, h5.1.2, h5.2⟩
    · simp [hd] at h5
      exact .inr ⟨.inl hd, h5.1.2, h5.2⟩
theorem tellMay_parts {x : GLine} (h : tellMay x = true) : (x.dest = [] ∨ x.name = []) ∧ (x.dest = [] ∨ x.x.imm = 0) ∧ nameOk x.dest = true ∧ nameOk x.name = true ∧ (x.dest = [] ∧ x.name = [] ∧ insOk x.x = true ∨ (x.dest ≠ [] ∨ x.name ≠ []) ∧ bitOf (useOf x.x.op) 8 = true ∧ insOk (noImm x.x) = true) := by
  unfold tellMay at h
  simp only [Bool.and_eq_true, Bool.or_eq_true, decide_eq_true_eq] at h
  obtain ⟨h1, h2⟩ := h
  have h3 := lnMay_parts h1
  exact ⟨h3.1, h2, h3.2.2.1, h3.2.2.2.1, h3.2.2.2.2⟩
theorem insOk_no {x : GIns} (h : insOk x = true) : insOk (noImm x) = true := by
  unfold insOk at h ⊢
  simp only [noImm]
  simp only [Bool.and_eq_true] at h ⊢
  exact ⟨h.1, by simp⟩
theorem restOf_label {l r : BL} (hl : nameOk l = true) (h0 : l ≠ []) : restOf (l ++ [58, 32] ++ r) = some (l, r) := by
  have h := lcut_hit l [58, 32] r 58 [32] rfl (nameOk_not hl (by decide))
  unfold restOf
  rw [h]
  simp [h0]
theorem restOf_none {r : BL} (h : (58 : UInt8) ∉ r) : restOf r = some ([], r) := by
  have h := lcut_miss r [58, 32] 58 [32] rfl h
  unfold restOf
  rw [h]
  simp
theorem immOf_dest (op : Int) {t : BL} (h : t ≠ []) : immOf op (62 :: t) = some (t, 0, []) := by simp [immOf, h]
theorem immOf_name (op : Int) {n : BL} (hn : nameOk n = true) (h0 : n ≠ []) {k : Nat} (hk : k < 4294967296) : immOf op (64 :: (n ++ 43 :: decD k)) = some ([], k, n) := by
  have h := lcut_hit n [43] (decD k) 43 [] rfl (nameOk_not hn (by decide))
  rw [show n ++ [43] ++ decD k = n ++ 43 :: decD k by simp] at h
  simp only [immOf]
  rw [h]
  simp [h0, (numL_iff (decD k) k).2 ⟨rfl, hk⟩]
theorem immOf_num (op : Int) (h8 : bitOf (useOf op) 8 = true) {k : Nat} (hk : k < 4294967296) : immOf op (decD k) = some ([], k, []) := by
  have hn := (numL_iff (decD k) k).2 ⟨rfl, hk⟩
  have hm := decD_mem k
  unfold immOf
  split
  · rename_i he; rw [he] at hm; have := hm 62 (by simp); simp at this
  · rename_i he; rw [he] at hm; have := hm 64 (by simp); simp at this
  · rw [if_pos h8, hn]; rfl
theorem immOf_off (op : Int) (h8 : bitOf (useOf op) 8 = false) : immOf op [] = some ([], 0, []) := by
  simp [immOf, h8]
theorem placeL_not {x : GLine} (h : tellMay x = true) {c : UInt8} (hc : nameByte c = false) (h2 : c.toNat < 43) : c ∉ placeL x := by
  obtain ⟨-, -, h3, h4, -⟩ := tellMay_parts h
  have hd : c ∉ decD x.x.imm.toNat := dec_not (by omega) _
  have h62 : c ≠ 62 := fun e => by rw [e] at h2; simp at h2
  have h64 : c ≠ 64 := fun e => by rw [e] at h2; simp at h2
  have h43 : c ≠ 43 := fun e => by rw [e] at h2; simp at h2
  have hn := nameOk_not h4 hc
  have ht := nameOk_not h3 hc
  unfold placeL
  split
  · split
    · exact hd
    · simp only [List.mem_cons, List.mem_append, not_or]
      exact ⟨h64, hn, h43, hd⟩
  · simp only [List.mem_cons, not_or]
    exact ⟨h62, ht⟩
theorem placeL_58 {x : GLine} (h : tellMay x = true) : (58 : UInt8) ∉ placeL x := by
  obtain ⟨-, -, h3, h4, -⟩ := tellMay_parts h
  have hd : (58 : UInt8) ∉ decD x.x.imm.toNat := dec_not (by simp) _
  have hn := nameOk_not h4 (c := 58) (by decide)
  have ht := nameOk_not h3 (c := 58) (by decide)
  unfold placeL
  split
  · split
    · exact hd
    · simp only [List.mem_cons, List.mem_append, not_or]
      exact ⟨by decide, hn, by decide, hd⟩
  · simp only [List.mem_cons, not_or]
    exact ⟨by decide, ht⟩
theorem placeL_10 {x : GLine} (h : tellMay x = true) : (10 : UInt8) ∉ placeL x := placeL_not h (by decide) (by decide)
theorem placeL_32 {x : GLine} (h : tellMay x = true) : (32 : UInt8) ∉ placeL x := placeL_not h (by decide) (by decide)
/-- a line's text, behind its label, read -/
theorem parsed_line {x : GLine} (hx : LineB x) (h : tellMay x = true) : ∃ imm, parsedW (cutAt 32 (toldL x.x (placeL x))) = some (noImm x.x, imm) ∧ imm = (if bitOf (useOf x.x.op) 8 then placeL x else []) ∧ immOf x.x.op imm = some (x.dest, x.x.imm.toNat, x.name) := by
  obtain ⟨h1, h2, h3, h4, h5⟩ := tellMay_parts h
  have hb : InsB (noImm x.x) := ⟨hx.x.1, hx.x.2.1, hx.x.2.2.1, hx.x.2.2.2.1, by simp [noImm]⟩
  have hok : insOk (noImm x.x) = true := by
    rcases h5 with ⟨-, -, h5⟩ | ⟨-, -, h5⟩
    · exact insOk_no h5
    · exact h5
  have hp := parsed_told (noImm x.x) (placeL x) hb hok (fun _ => placeL_32 h)
  have hi0 : 0 ≤ x.x.imm ∧ x.x.imm ≤ 4294967295 := hx.x.2.2.2.2
  refine ⟨_, hp, rfl, ?_⟩
  show immOf x.x.op (if bitOf (useOf x.x.op) 8 then placeL x else []) = _
  rcases h5 with ⟨hd, hn, h5⟩ | ⟨hdn, h8, -⟩
  · cases h8 : bitOf (useOf x.x.op) 8 with
    | true =>
      rw [if_pos rfl, hd, hn]
      unfold placeL
      rw [if_pos hd, if_pos hn]
      exact immOf_num _ h8 (by omega)
    | false =>
      rw [if_neg (by simp), immOf_off _ h8, hd, hn]
      unfold insOk at h5
      simp [h8] at h5
      rw [h5.2]; rfl
  · rw [h8, if_pos rfl]
    by_cases hd : x.dest = []
    · have hn : x.name ≠ [] := by
        rcases hdn with e | e
        · exact absurd hd e
        · exact e
      unfold placeL
      rw [if_pos hd, if_neg hn, hd]
      exact immOf_name _ h4 hn (by omega)
    · have hn : x.name = [] := by
        rcases h1 with e | e
        · exact absurd e hd
        · exact e
      have hi : x.x.imm = 0 := by
        rcases h2 with e | e
        · exact absurd e hd
        · exact e
      unfold placeL
      rw [if_neg hd, immOf_dest _ hd, hi, hn]; rfl
theorem told_58 {x : GLine} (h : tellMay x = true) : (58 : UInt8) ∉ toldL x.x (placeL x) := told_not (by simp) (by simp) _ _ (fun _ => placeL_58 h)
theorem lineL_rest {x : GLine} (h : lineOk x = true) : restOf (lineL x) = some (x.label, toldL x.x (placeL x)) := by
  unfold lineOk at h
  simp only [Bool.and_eq_true] at h
  unfold lineL
  by_cases hl : x.label = []
  · rw [if_pos hl, List.nil_append, hl]
    exact restOf_none (told_58 h.2)
  · rw [if_neg hl]
    exact restOf_label h.1 hl
theorem lineOf_eta (x : GLine) (h : 0 ≤ x.x.imm) : lineOf x.label (noImm x.x) (x.dest, x.x.imm.toNat, x.name) = x := by
  obtain ⟨l, ⟨op, d, a, b, i⟩, dd, n⟩ := x
  simp only [lineOf, noImm] at h ⊢
  rw [Int.toNat_of_nonneg h]
/-- what was told is read as itself -/
theorem readLine_told {x : GLine} (hx : LineB x) (h : lineOk x = true) : readLineL (lineL x) = some x := by
  have ht : tellMay x = true := by unfold lineOk at h; simp only [Bool.and_eq_true] at h; exact h.2
  obtain ⟨imm, hp, -, hi⟩ := parsed_line hx ht
  unfold readLineL
  rw [lineL_rest h]
  simp only [Option.bind_some, hp]
  rw [show (noImm x.x).op = x.x.op from rfl, hi]
  simp only [Option.bind_some]
  rw [lineOf_eta x hx.x.2.2.2.2.1]
  unfold okLn
  rw [if_pos h]
theorem restOf_back {s : BL} {p : BL × BL} (h : restOf s = some p) : s = (if p.1 = [] then [] else p.1 ++ [58, 32]) ++ p.2 := by
  unfold restOf at h
  split at h
  · rename_i hc
    split at h
    · cases h
    · rename_i h0
      cases h
      rw [if_neg h0]
      exact lcut_back (sep := [58, 32]) (by rw [← hc])
  · cases h; rfl
/-- what was read is told as the text that it was -/
theorem immOf_back {op : Int} {imm : BL} {r : BL × Nat × BL} (h : immOf op imm = some r) (h8 : bitOf (useOf op) 8 = false → imm = []) (x : GIns) (hx : x.op = op) (label : BL) :
    toldL x imm = toldL (lineOf label x r).x (placeL (lineOf label x r)) ∧ r.2.1 < 4294967296 ∧ (r.1 ≠ [] → r.2.2 = []) ∧ (r.1 ≠ [] → r.2.1 = 0) ∧ (bitOf (useOf op) 8 = false → r = ([], 0, [])) ∧ r.1.length ≤ imm.length ∧ r.2.2.length ≤ imm.length := by
  unfold immOf at h
  split at h
  · rename_i t0
    have h8' : bitOf (useOf op) 8 = true := by
      cases hb : bitOf (useOf op) 8 with
      | true => rfl
      | false => have := h8 hb; cases this
    split at h
    · cases h
    · rename_i h0
      cases h
      refine ⟨?_, by simp, fun _ => rfl, fun _ => rfl, fun e => (by rw [h8'] at e; cases e), by simp, by simp⟩
      show toldL x (62 :: t0) = toldL x (placeL (lineOf label x (t0, 0, [])))
      unfold placeL lineOf
      rw [if_neg h0]
  · rename_i at_
    have h8' : bitOf (useOf op) 8 = true := by
      cases hb : bitOf (useOf op) 8 with
      | true => rfl
      | false => have := h8 hb; cases this
    split at h
    · rename_i hc
      obtain ⟨hc, h0⟩ := hc
      have hb := lcut_back (s := at_) (sep := [43]) (a := (Lib.cut at_ [43]).1) (b := (Lib.cut at_ [43]).2.1) (by rw [← hc])
      have hle := lcut_len at_ [43]
      generalize Lib.cut at_ [43] = q at *
      obtain ⟨n, t, c⟩ := q
      simp only [] at *
      cases hn : numL t with
      | none => rw [hn] at h; cases h
      | some k =>
        rw [hn] at h
        cases h
        obtain ⟨ht, hk⟩ := (numL_iff _ _).1 hn
        refine ⟨?_, hk, fun e => absurd rfl e, fun e => absurd rfl e, fun e => (by rw [h8'] at e; cases e), by simp, by simp; omega⟩
        show toldL x (64 :: at_) = toldL x (placeL (lineOf label x ([], k, n)))
        unfold placeL lineOf
        simp only [if_true, h0, if_false, Int.toNat_natCast]
        rw [hb, ht]
        simp
    · cases h
  · split at h
    · rename_i h8'
      cases hn : numL imm with
      | none => rw [hn] at h; cases h
      | some k =>
        rw [hn] at h
        cases h
        obtain ⟨ht, hk⟩ := (numL_iff _ _).1 hn
        refine ⟨?_, hk, fun e => absurd rfl e, fun e => absurd rfl e, fun e => (by rw [h8'] at e; cases e), by simp, by simp⟩
        show toldL x imm = toldL x (placeL (lineOf label x ([], k, [])))
        unfold placeL lineOf
        simp only [if_true, Int.toNat_natCast]
        rw [ht]
    · rename_i h8'
      have h8f : bitOf (useOf op) 8 = false := by simpa using h8'
      cases h
      refine ⟨?_, by simp, fun e => absurd rfl e, fun e => absurd rfl e, fun _ => rfl, by simp, by simp⟩
      exact told_off (by rw [hx]; exact h8f) _ _
theorem readLine_back {s : BL} {x : GLine} (h : readLineL s = some x) : lineL x = s ∧ lineOk x = true := by
  unfold readLineL at h
  cases hr : restOf s with
  | none => rw [hr] at h; cases h
  | some p =>
    rw [hr] at h
    simp only [Option.bind_some] at h
    cases hp : parsedW (cutAt 32 p.2) with
    | none => rw [hp] at h; cases h
    | some q =>
      rw [hp] at h
      simp only [Option.bind_some] at h
      have hk := parsedW_ok (x := q.1) (imm := q.2) hp
      cases hi : immOf q.1.op q.2 with
      | none => rw [hi] at h; cases h
      | some r =>
        rw [hi] at h
        simp only [Option.bind_some] at h
        unfold okLn at h
        split at h
        · rename_i hok
          cases h
          refine ⟨?_, hok⟩
          obtain ⟨ht, -⟩ := immOf_back hi hk.imm q.1 rfl p.1
          unfold lineL
          rw [← ht, hk.told]
          exact (restOf_back hr).symm
        · cases h
end Go.Proofs.YtoonkfhphbojcaaGreatDoor
