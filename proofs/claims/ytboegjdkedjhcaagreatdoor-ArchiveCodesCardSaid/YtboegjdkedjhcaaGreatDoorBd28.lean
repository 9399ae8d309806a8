/- What is pulled, in plain words. No program in sight. The walk of aediculelaw35.sym. The chapter's example of layer 35, in plain words. No program in sight. The chapter's example of layer 35: closed facts. No program in sight. The walk of archive.Pull. -/
import Derived.Test.YtboegjdkedjhcaaGreatDoorBd24
import Derived.Deep.QuietTactic
import Derived.WalkKit
import Derived.Lib.Hide
import Derived.Test.YtboegjdkedjhcaaGreatDoorRows
import Derived.Test.YtboegjdkedjhcaaGreatDoorBd08
import Derived.Test.YtboegjdkedjhcaaGreatDoorBd09
import Derived.Test.YtboegjdkedjhcaaGreatDoorBd07
import Derived.Test.YtboegjdkedjhcaaGreatDoorBd19
namespace Go.Proofs.YtboegjdkedjhcaaGreatDoor
/-- does an object refer to a name? -/
def refO (o : GObj) (n : List UInt8) : Bool := o.syms.any fun s => s.rels.any fun r => r.name.data.toList == n
/-- the members that are in -/
def selGo (I : Nat → Bool) : Nat → List GObj → List GObj
  | _, [] => []
  | k, o :: r => (if I k = true then [o] else []) ++ selGo I (k + 1) r
theorem selGo_app (I : Nat → Bool) : ∀ (l r : List GObj) (k : Nat), selGo I k (l ++ r) = selGo I k l ++ selGo I (k + l.length) r
  | [], r, k => by simp [selGo]
  | o :: l, r, k => by
    have ih := selGo_app I l r (k + 1)
    simp only [List.cons_append, selGo, ih, List.append_assoc, List.length_cons]
    rw [show k + 1 + l.length = k + (l.length + 1) by omega]
theorem selGo_snoc {I : Nat → Bool} {l : List GObj} {k : Nat} {x : GObj} (h : k < l.length) (hx : l[k] = x) : selGo I 0 (l.take (k + 1)) = selGo I 0 (l.take k) ++ if I k = true then [x] else [] := by
  rw [List.take_succ_eq_append_getElem h, hx, selGo_app]
  simp only [selGo, List.append_nil, List.length_take, Nat.zero_add]
  rw [Nat.min_eq_left (by omega)]
theorem selGo_len (I : Nat → Bool) : ∀ (l : List GObj) (k : Nat), (selGo I k l).length ≤ l.length
  | [], k => by simp [selGo]
  | o :: r, k => by
    have ih := selGo_len I r (k + 1)
    simp only [selGo, List.length_append, List.length_cons]
    split <;> simp <;> omega
theorem mem_selGo {I : Nat → Bool} : ∀ {l : List GObj} {a : Nat} {x : GObj}, x ∈ selGo I a l ↔ ∃ (k : Nat) (h : k < l.length), I (a + k) = true ∧ l[k] = x
  | [], a, x => by simp [selGo]
  | o :: r, a, x => by
    rw [selGo, List.mem_append, mem_selGo (l := r)]
    constructor
    · rintro (h1 | ⟨k, hk, h1, h2⟩)
      · split at h1
        · rename_i hi
          obtain rfl : x = o := by simpa using h1
          exact ⟨0, by simp, hi, rfl⟩
        · cases h1
      · exact ⟨k + 1, by simpa using hk, by rw [show a + (k + 1) = a + 1 + k by omega]; exact h1, by simpa using h2⟩
    · rintro ⟨k, hk, h1, h2⟩
      match k, hk, h1, h2 with
      | 0, hk, h1, h2 => exact .inl (by rw [if_pos (by simpa using h1)]; simpa using h2.symm)
      | k + 1, hk, h1, h2 => exact .inr ⟨k, by simpa using hk, by rw [show a + 1 + k = a + (k + 1) by omega]; exact h1, by simpa using h2⟩
/-- a member that is in is needed: it has a name that is the entry, or that another object refers to -/
def NeedOf0 (nm : List UInt8) (lb ms : List GObj) (I : Nat → Bool) (k : Nat) : Prop :=
  ∃ (h : k < ms.length), ∃ s ∈ ms[k].syms, s.bind ≠ 0 ∧ (s.name.data.toList = nm ∨ (∃ o ∈ lb, refO o s.name.data.toList = true) ∨ ∃ (j : Nat) (hj : j < ms.length), j ≠ k ∧ I j = true ∧ refO ms[j] s.name.data.toList = true)
/-- something is wanting of the base alone that a member has -/
def Wants0 (nm : List UInt8) (lb ms : List GObj) : Prop := ∃ n ∈ wantsRaw (defB lb) nm lb, ∃ o ∈ ms, defS o.syms n = true
def NeedOf (nm : List UInt8) (lb ms : List GObj) (I : Nat → Bool) (k : Nat) : Prop := Wants0 nm lb ms ∧ NeedOf0 nm lb ms I k
theorem NeedOf.mono {nm : List UInt8} {lb ms : List GObj} {I I' : Nat → Bool} {k : Nat} (h : NeedOf nm lb ms I k) (hi : ∀ j, I j = true → I' j = true) : NeedOf nm lb ms I' k := by
  obtain ⟨hw, h0, s, hs, h1, h2⟩ := h
  refine ⟨hw, h0, s, hs, h1, ?_⟩
  rcases h2 with h2 | h2 | ⟨j, hj, h3, h4, h5⟩
  · exact .inl h2
  · exact .inr (.inl h2)
  · exact .inr (.inr ⟨j, hj, h3, hi j h4, h5⟩)
/-- what a pull ends with -/
structure PullOk (nm : List UInt8) (lb ms : List GObj) (I : Nat → Bool) : Prop where
  stop : ∀ n ∈ wantsRaw (defB (lb ++ selGo I 0 ms)) nm (lb ++ selGo I 0 ms), ∀ o ∈ ms, defS o.syms n = false
  need : ∀ k, I k = true → NeedOf nm lb ms I k
/-- objects that are just these ones -/
def InSet (lb ms objs : List GObj) (I : Nat → Bool) : Prop := ∀ o, o ∈ objs ↔ o ∈ lb ∨ ∃ (k : Nat) (h : k < ms.length), I k = true ∧ ms[k] = o
theorem inSet_sel (lb ms : List GObj) (I : Nat → Bool) : InSet lb ms (lb ++ selGo I 0 ms) I := fun o => by
  rw [List.mem_append, mem_selGo]
  constructor
  · rintro (h | ⟨k, hk, h1, h2⟩)
    · exact .inl h
    · exact .inr ⟨k, hk, by simpa using h1, h2⟩
  · rintro (h | ⟨k, hk, h1, h2⟩)
    · exact .inl h
    · exact .inr ⟨k, hk, by simpa using h1, h2⟩
theorem defB_true {l : List GObj} {n : List UInt8} : defB l n = true ↔ ∃ o ∈ l, defS o.syms n = true := by simp [defB]
theorem defB_same {a b : List GObj} (h : ∀ o, o ∈ a ↔ o ∈ b) : defB a = defB b := by
  funext n
  rw [Bool.eq_iff_iff, defB_true, defB_true]
  exact ⟨fun ⟨o, h1, h2⟩ => ⟨o, (h o).1 h1, h2⟩, fun ⟨o, h1, h2⟩ => ⟨o, (h o).2 h1, h2⟩⟩
theorem mem_wantsO {F : List UInt8 → Bool} {l : List GObj} {n : List UInt8} : n ∈ wantsO F l ↔ ∃ o ∈ l, ∃ s ∈ o.syms, ∃ r ∈ s.rels, wantR F o.syms r = true ∧ r.name.data.toList = n := by
  simp only [wantsO, wantsS, wantsL, List.mem_flatMap, List.mem_map, List.mem_filter]
  constructor
  · rintro ⟨o, h1, s, h2, r, ⟨h3, h4⟩, h5⟩; exact ⟨o, h1, s, h2, r, h3, h4, h5⟩
  · rintro ⟨o, h1, s, h2, r, h3, h4, h5⟩; exact ⟨o, h1, s, h2, r, ⟨h3, h4⟩, h5⟩
theorem mem_wantsRaw_same {a b : List GObj} (h : ∀ o, o ∈ a ↔ o ∈ b) (nm n : List UInt8) : n ∈ wantsRaw (defB a) nm a ↔ n ∈ wantsRaw (defB b) nm b := by
  rw [defB_same h]
  simp only [wantsRaw, List.mem_append, mem_wantsO]
  constructor
  · rintro (h1 | ⟨o, h2, h3⟩)
    · exact .inl h1
    · exact .inr ⟨o, (h o).1 h2, h3⟩
  · rintro (h1 | ⟨o, h2, h3⟩)
    · exact .inl h1
    · exact .inr ⟨o, (h o).2 h2, h3⟩
/-- a name that is wanting is not defined, and is the entry or an object's -/
theorem wants_of {l : List GObj} {nm n : List UInt8} (h : n ∈ wantsRaw (defB l) nm l) : defB l n = false ∧ (n = nm ∨ ∃ o ∈ l, refO o n = true) := by
  rw [wantsRaw, List.mem_append, mem_wantsO] at h
  rcases h with h | ⟨o, h1, s, h2, r, h3, h4, rfl⟩
  · unfold wantsE at h
    split at h
    · cases h
    · rename_i hd
      obtain rfl : n = nm := by simpa using h
      exact ⟨by simpa using hd, .inl rfl⟩
  · simp only [wantR, Bool.and_eq_true, Bool.not_eq_true'] at h4
    refine ⟨h4.1, .inr ⟨o, h1, ?_⟩⟩
    simp only [refO, List.any_eq_true]
    exact ⟨s, h2, r, h3, by simp⟩
theorem mem_sortT {l : List (List UInt8)} {n : List UInt8} : n ∈ sortT l ↔ n ∈ l := List.mem_mergeSort
theorem mem_onceT {l : List (List UInt8)} {n : List UInt8} : n ∈ onceT l ↔ n ∈ l := by
  unfold onceT Lib.compact Lib.compactUpTo
  rw [List.mem_map]
  constructor
  · rintro ⟨j, hj, rfl⟩
    have hj2 := List.mem_range.1 (List.mem_filter.1 hj).1
    rw [getElem!_pos _ j (by simpa using hj2)]
    simp
  · intro hn
    have hex : ∃ j, ∃ (h : j < l.length), l[j] = n := by obtain ⟨j, hj, e⟩ := List.mem_iff_getElem.1 hn; exact ⟨j, hj, e⟩
    have hmin : ∃ j, (∃ (h : j < l.length), l[j] = n) ∧ ∀ i, i < j → ¬ ∃ (h : i < l.length), l[i] = n := by
      obtain ⟨j, hj⟩ := hex
      induction j using Nat.strongRecOn with
      | _ j ih =>
        by_cases h : ∃ i, i < j ∧ ∃ (h : i < l.length), l[i] = n
        · obtain ⟨i, hi, h2⟩ := h
          exact ih i hi h2
        · exact ⟨j, hj, fun i hi h2 => h ⟨i, hi, h2⟩⟩
    obtain ⟨j, ⟨hj, e⟩, hm⟩ := hmin
    refine ⟨j, List.mem_filter.2 ⟨List.mem_range.2 hj, ?_⟩, ?_⟩
    · unfold Lib.keeps
      by_cases h0 : j = 0
      · simp [h0]
      · have hj1 : j - 1 < l.length := by omega
        have h3 : l[j - 1] ≠ n := fun h => hm (j - 1) (by omega) ⟨hj1, h⟩
        rw [getElem!_pos l.toArray j (by simpa using hj), getElem!_pos l.toArray (j - 1) (by simpa using hj1)]
        simp [h0, e]
        intro h4
        first | exact absurd h4 h3 | exact absurd h4.symm h3
    · rw [getElem!_pos _ j (by simpa using hj)]; simpa using e
/-- where no best one is out, none is wanting -/
theorem pull_stop {nm : List UInt8} {lb ms objs : List GObj} {I : Nat → Bool} {G : List UInt8 → Option GEnt} (hS : InSet lb ms objs I) (hG : BestOf (entsFrom 0 ms) G)
    (hw : ∀ n ∈ onceT (sortT (wantsRaw (defB objs) nm objs)), G n = none ∨ ∃ x, G n = some x ∧ I x.mem = true) : ∀ n ∈ wantsRaw (defB (lb ++ selGo I 0 ms)) nm (lb ++ selGo I 0 ms), ∀ o ∈ ms, defS o.syms n = false := by
  intro n hn o ho
  have hsame : ∀ o, o ∈ lb ++ selGo I 0 ms ↔ o ∈ objs := fun o => (inSet_sel lb ms I o).trans (hS o).symm
  have hn2 := (mem_wantsRaw_same hsame nm n).1 hn
  cases hd : defS o.syms n with
  | false => rfl
  | true =>
    exfalso
    simp only [defS, List.any_eq_true, Bool.and_eq_true, bne_iff_ne, ne_eq, beq_iff_eq] at hd
    obtain ⟨s, hs, hb, rfl⟩ := hd
    obtain ⟨k, hk, rfl⟩ := List.mem_iff_getElem.1 ho
    have hx := hG.2 ⟨s.name, k, s.bind⟩ (mem_entsFrom.2 ⟨k, hk, s, hs, hb, by simp⟩)
    simp only [] at hx
    rcases hw _ (mem_onceT.2 (mem_sortT.2 hn2)) with h1 | ⟨x, h1, h2⟩
    · rw [h1] at hx; cases hx
    · obtain ⟨h3, h4⟩ := hG.1 _ _ h1
      obtain ⟨q, hq, s', hs', hb', rfl⟩ := mem_entsFrom.1 h3
      simp only [Nat.zero_add] at h2 h4
      have h5 : ms[q] ∈ objs := (hS _).2 (.inr ⟨q, hq, h2, rfl⟩)
      have h6 : defB objs s.name.data.toList = true := defB_true.2 ⟨_, h5, by
        simp only [defS, List.any_eq_true, Bool.and_eq_true, bne_iff_ne, ne_eq, beq_iff_eq]
        exact ⟨s', hs', hb', h4⟩⟩
      rw [(wants_of hn2).1] at h6; cases h6
/-- the best one of a name that is wanting is needed -/
theorem pull_need {nm n : List UInt8} {lb ms objs : List GObj} {I : Nat → Bool} {G : List UInt8 → Option GEnt} {x : GEnt} (hS : InSet lb ms objs I) (hN : ∀ k, I k = true → NeedOf nm lb ms I k) (hG : BestOf (entsFrom 0 ms) G) (hn : n ∈ onceT (sortT (wantsRaw (defB objs) nm objs))) (hx : G n = some x) (hi : I x.mem = false) :
    x.mem < ms.length ∧ NeedOf nm lb ms I x.mem := by
  obtain ⟨h3, h4⟩ := hG.1 _ _ hx
  obtain ⟨q, hq, s, hs, hb, rfl⟩ := mem_entsFrom.1 h3
  simp only [Nat.zero_add] at *
  have hn2 := mem_sortT.1 (mem_onceT.1 hn)
  obtain ⟨-, h5⟩ := wants_of hn2
  refine ⟨hq, ?_, hq, s, hs, hb, ?_⟩
  · by_cases hE : ∃ k, I k = true
    · obtain ⟨k, hk⟩ := hE
      exact (hN k hk).1
    · refine ⟨n, (mem_wantsRaw_same (fun o => ?_) nm n).1 hn2, _, List.getElem_mem hq, ?_⟩
      · exact (hS o).trans ⟨fun h => h.elim id fun ⟨k, _, h2, _⟩ => absurd ⟨k, h2⟩ hE, .inl⟩
      · simp only [defS, List.any_eq_true, Bool.and_eq_true, bne_iff_ne, ne_eq, beq_iff_eq]
        exact ⟨s, hs, hb, h4⟩
  rw [h4]
  rcases h5 with h5 | ⟨o, ho, h5⟩
  · exact .inl h5
  · rcases (hS o).1 ho with h6 | ⟨j, hj, h6, rfl⟩
    · exact .inr (.inl ⟨o, h6, h5⟩)
    · exact .inr (.inr ⟨j, hj, fun e => (by rw [e, hi] at h6; cases h6), h6, h5⟩)
end Go.Proofs.YtboegjdkedjhcaaGreatDoor
namespace Go.Proofs.YtboegjdkedjhcaaGreatDoor
open Go.RowKit Go.Maps
def eight35 : ByteArray := ⟨#[49, 50, 51, 52, 53, 54, 55, 56]⟩
/-- a symbol of the small archive -/
def gsym35 (kind : Int) (nm : ByteArray) (rels : List GRel) : GSym := ⟨nm, 1, kind, 8, eight35, rels, []⟩
/-- a symbol as a value -/
def SymV (w : World) (s : GSym) (v : Value) : Prop := ∃ vr vn, v = .agg #[.string s.name, .int .u8 s.bind, .int .u8 s.kind, .int .u32 s.size, .string s.bytes, vr, vn] ∧ SymIn w s vr vn
def Sym35 (s : GSym) (w : World) (e : Ending) (w' : World) : Prop := (∃ v, e = .returned v ∧ SymV w' s v) ∧ Below w.heap.size w w'
theorem Sym35.mk {s : GSym} {w w' : World} {v : Value} (h : SymV w' s v) (hB : Below w.heap.size w w') : Sym35 s w (.returned v) w' := ⟨⟨v, rfl, h⟩, hB⟩
set_option maxRecDepth 100000 in
set_option maxHeartbeats 2000000 in
theorem sym35_none (kind : Int) (nm : ByteArray) (hk : 0 ≤ kind ∧ kind ≤ 255) (hn : nm.size ≤ 140737488355328) (w : World) :
    Calls Tryz.prog 73 #[.int .u8 kind, .string nm, .string ⟨#[]⟩] w (Sym35 (gsym35 kind nm []) w) := by
  go_enter Tryz.func73, Tryz.ntmps73
  go_wp2
  refine bodyPost_ret (v := .agg #[.string nm, .int .u8 1, .int .u8 kind, .int .u32 8, .string eight35, .slice none 0 0, .slice none 0 0]) (by simp [results, Tryz.results73, go_sem, eight35]) rfl ?_
  exact Sym35.mk ⟨_, _, rfl, rowAt_nil, rowAt_nil, by simp [gsym35], hk, by simp [gsym35], hn, by simp [gsym35]; decide⟩ ((alloc_old w _).alloc (by simp) _)
set_option maxRecDepth 100000 in
set_option maxHeartbeats 2000000 in
theorem sym35_one (kind : Int) (nm ref : ByteArray) (hr0 : ref.toList ≠ []) (hk : 0 ≤ kind ∧ kind ≤ 255) (hn : nm.size ≤ 140737488355328) (hr : ref.size ≤ 140737488355328) (w : World) :
    Calls Tryz.prog 73 #[.int .u8 kind, .string nm, .string ref] w (Sym35 (gsym35 kind nm [⟨4, 1, ref, 0⟩]) w) := by
  have hq : (ref.toList == ([] : List UInt8)) = false := by simpa using hr0
  go_enter Tryz.func73, Tryz.ntmps73
  go_wp2
  refine bodyPost_ret (v := .agg #[.string nm, .int .u8 1, .int .u8 kind, .int .u32 8, .string eight35, .slice (some ⟨w.heap.size + 1 + 1, 0, none⟩) 1 1, .slice none 0 0]) (by simp [results, Tryz.results73, go_sem, eight35]) rfl ?_
  refine Sym35.mk ⟨_, _, rfl, rowAt_one ⟨by simp, by simp [go_sem], by simp [go_sem], by simp [go_sem], by simp [go_sem], by simp, by simp, by simp, hr⟩ (by omega), rowAt_nil, by simp [gsym35], hk, by simp [gsym35], hn, by simp [gsym35]; decide⟩ (((alloc_old w _).alloc (by simp) _).alloc (by simp; omega) _)
/-- a world kept but for one block that holds no number -/
structure Far (g : Nat) (w w' : World) : Prop where
  size : w.heap.size ≤ w'.heap.size
  cell : ∀ b o, b ≠ g → b < w.heap.size → w'.cell? ⟨b, o, none⟩ = w.cell? ⟨b, o, none⟩
  noint : ∀ o K n, w.cell? ⟨g, o, none⟩ ≠ some (.int K n)
theorem Far.rel {g : Nat} {w w' : World} (h : Far g w w') {b o : Nat} {x : GRel} (hx : RelR w b o x) : RelR w' b o x := by
  obtain ⟨h0, h1, h2, h3, h4, r⟩ := hx
  have hb : b ≠ g := fun e => h.noint _ _ _ (e ▸ h1)
  exact ⟨Nat.lt_of_lt_of_le h0 h.size, (h.cell _ _ hb h0).trans h1, (h.cell _ _ hb h0).trans h2, (h.cell _ _ hb h0).trans h3, (h.cell _ _ hb h0).trans h4, r⟩
theorem Far.note {g : Nat} {w w' : World} (h : Far g w w') {b o : Nat} {x : GNote} (hx : NoteR w b o x) : NoteR w' b o x := by
  obtain ⟨h0, h1, h2, h3, r⟩ := hx
  have hb : b ≠ g := fun e => h.noint _ _ _ (e ▸ h1)
  exact ⟨Nat.lt_of_lt_of_le h0 h.size, (h.cell _ _ hb h0).trans h1, (h.cell _ _ hb h0).trans h2, (h.cell _ _ hb h0).trans h3, r⟩
theorem Far.row {α : Type} {k : Nat} {R : World → Nat → Nat → α → Prop} {w w' : World} {v : Value} {l : List α} (hR : ∀ b o x, R w b o x → R w' b o x) (h : RowAt k R w v l) : RowAt k R w' v l := by
  obtain ⟨p, cap, b, o, h1, h2, h3, h4, h5⟩ := h
  exact ⟨p, cap, b, o, h1, h2, h3, h4, fun i hi => hR _ _ _ (h5 i hi)⟩
theorem Far.sym {g : Nat} {w w' : World} (h : Far g w w') {b o : Nat} {x : GSym} (hx : SymR w b o x) : SymR w' b o x := by
  obtain ⟨vr, vn, h0, h1, h2, h3, h4, h5, h6, h7, r1, r2, r⟩ := hx
  have hb : b ≠ g := fun e => h.noint _ _ _ (e ▸ h2)
  exact ⟨vr, vn, Nat.lt_of_lt_of_le h0 h.size, (h.cell _ _ hb h0).trans h1, (h.cell _ _ hb h0).trans h2, (h.cell _ _ hb h0).trans h3, (h.cell _ _ hb h0).trans h4, (h.cell _ _ hb h0).trans h5, (h.cell _ _ hb h0).trans h6, (h.cell _ _ hb h0).trans h7,
    Far.row (fun _ _ _ => h.rel) r1, Far.row (fun _ _ _ => h.note) r2, r⟩
theorem Far.obj {g : Nat} {w w' : World} (h : Far g w w') {x : GObj} {v : Value} (hx : ObjIn w x v) : ObjIn w' x v := ⟨Far.row (fun _ _ _ => h.sym) hx.1, hx.2⟩
def lib35 : ByteArray := ⟨#[108, 105, 98]⟩
def base35 : List GObj := [⟨⟨#[111]⟩, [gsym35 1 ⟨#[109, 97, 105, 110]⟩ [⟨4, 1, ⟨#[102]⟩, 0⟩]]⟩]
def mems35 : List GObj := [⟨⟨#[97]⟩, [gsym35 1 ⟨#[102]⟩ [⟨4, 1, ⟨#[103]⟩, 0⟩]]⟩, ⟨⟨#[98]⟩, [gsym35 2 ⟨#[103]⟩ []]⟩, ⟨⟨#[99]⟩, [gsym35 2 ⟨#[104]⟩ []]⟩]
def Three35 (w : World) (e : Ending) (w' : World) : Prop := (∃ b c, e = .returned (.tuple #[.slice (some ⟨b, 0, none⟩) 1 1, .agg #[.string lib35, .slice (some ⟨c, 0, none⟩) 3 3]]) ∧ ObjsAt w' (.slice (some ⟨b, 0, none⟩) 1 1) base35 ∧ ObjsAt w' (.slice (some ⟨c, 0, none⟩) 3 3) mems35) ∧ Below w.heap.size w w'
/-- an object of one symbol, in a block of its own -/
def ObC (W : World) (b c : Nat) (n : ByteArray) (s : GSym) : Prop :=
  b < W.heap.size ∧ W.cell? ⟨b, 0, none⟩ = some (.string n) ∧ W.cell? ⟨b, 1, none⟩ = some (.slice (some ⟨c, 0, none⟩) 1 1) ∧ ObjIn W ⟨n, [s]⟩ (.slice (some ⟨c, 0, none⟩) 1 1)
theorem ObC.keep {w w' : World} {b c : Nat} {n : ByteArray} {s : GSym} (hb : Below w.heap.size w w') (h : ObC w b c n s) : ObC w' b c n s :=
  ⟨size_keep hb h.1, cell_keep hb h.1 h.2.1, cell_keep hb h.1 h.2.2.1, h.2.2.2.1.keep symR_keeps hb, h.2.2.2.2⟩
theorem obc_new {w : World} {s : GSym} {vr vn : Value} (n : ByteArray) (hn : n.size ≤ 140737488355328) (h : SymIn w s vr vn) :
    ObC ((w.alloc (.cells #[.string s.name, .int .u8 s.bind, .int .u8 s.kind, .int .u32 s.size, .string s.bytes, vr, vn] 55)).alloc (.cells #[.string n, .slice (some ⟨w.heap.size, 0, none⟩) 1 1] 50)) (w.heap.size + 1) w.heap.size n s := by
  have hB := (alloc_old w (.cells #[.string s.name, .int .u8 s.bind, .int .u8 s.kind, .int .u32 s.size, .string s.bytes, vr, vn] 55)).alloc (by simp) (.cells #[.string n, .slice (some ⟨w.heap.size, 0, none⟩) 1 1] 50)
  exact ⟨by simp, by simp [go_sem], by simp [go_sem], rowAt_one ⟨vr, vn, by simp; omega, by simp [go_sem], by simp [go_sem], by simp [go_sem], by simp [go_sem], by simp [go_sem], by simp [go_sem], by simp [go_sem],
    ⟨h.1.keep relR_keeps hB, h.2.1.keep noteR_keeps hB, h.2.2⟩⟩ (by omega), hn⟩
theorem noint_new (w : World) (o : Nat) (K : IntKind) (n : Int) : (w.alloc (.cells #[.string ⟨#[]⟩, .slice none 0 0] 24)).cell? ⟨w.heap.size, o, none⟩ ≠ some (.int K n) := by
  match o with
  | 0 => simp [go_sem]
  | 1 => simp [go_sem]
  | o + 2 => simp [go_sem]
set_option maxRecDepth 100000 in
set_option maxHeartbeats 2000000 in
theorem three35_any (w : World) : Calls Tryz.prog 27 #[] w (Three35 w) := by
  go_enter Tryz.func27, Tryz.ntmps27
  go_wp2_with fail
  obtain ⟨x0, hx0⟩ : ∃ x0, x0 = w.alloc (.cells #[.string ⟨#[]⟩, .slice none 0 0] 24) := ⟨_, rfl⟩
  rw [← hx0]
  have hR : x0.heap.size = w.heap.size + 1 ∧ x0.cell? ⟨w.heap.size, 0, none⟩ = some (.string ⟨#[]⟩) ∧ x0.cell? ⟨w.heap.size, 1, none⟩ = some (.slice none 0 0) ∧ Below w.heap.size w x0 ∧ x0.frozen? ⟨w.heap.size, 0, none⟩ = false ∧ x0.frozen? ⟨w.heap.size, 1, none⟩ = false ∧ (∀ o K n, x0.cell? ⟨w.heap.size, o, none⟩ ≠ some (.int K n)) := by
    subst hx0; exact ⟨by simp, by simp [go_sem], by simp [go_sem], alloc_old w _, by simp [go_sem], by simp [go_sem], noint_new w⟩
  have HR := Lib.hid hR
  have y0 : w.heap.size < x0.heap.size := by have := hR.1; omega
  clear hR hx0
  refine (sym35_one 1 ⟨#[109, 97, 105, 110]⟩ ⟨#[102]⟩ (by decide +kernel) (by omega) (by decide) (by decide) _).mono ?_
  rintro e w1 ⟨⟨v1, rfl, vr1, vn1, rfl, hs1⟩, hB1⟩
  have HN1 := Lib.hid (obc_new ⟨#[111]⟩ (by decide) hs1)
  have HB1 := Lib.hid hB1
  clear hs1 hB1
  go_wp2_with fail
  generalize hW1 : World.alloc (World.alloc w1 _) _ = x1
  have O1 : Hid (ObC x1 (w1.heap.size + 1) w1.heap.size ⟨#[111]⟩ (gsym35 1 ⟨#[109, 97, 105, 110]⟩ [⟨4, 1, ⟨#[102]⟩, 0⟩])) := by subst hW1; exact HN1.out
  have B1 : Hid (Below x0.heap.size x0 x1) := by subst hW1; exact (HB1.out.alloc HB1.out.size _).alloc (by have := HB1.out.size; simp; omega) _
  have z1 : w.heap.size < w1.heap.size := by have := HB1.out.size; omega
  have y1 : w.heap.size < x1.heap.size := by have := B1.out.size; omega
  clear hW1 HN1 HB1
  refine (sym35_one 1 ⟨#[102]⟩ ⟨#[103]⟩ (by decide +kernel) (by omega) (by decide) (by decide) _).mono ?_
  rintro e w2 ⟨⟨v2, rfl, vr2, vn2, rfl, hs2⟩, hB2⟩
  have HN2 := Lib.hid (obc_new ⟨#[97]⟩ (by decide) hs2)
  have HB2 := Lib.hid hB2
  clear hs2 hB2
  go_wp2_with fail
  generalize hW2 : World.alloc (World.alloc w2 _) _ = x2
  have O2 : Hid (ObC x2 (w2.heap.size + 1) w2.heap.size ⟨#[97]⟩ (gsym35 1 ⟨#[102]⟩ [⟨4, 1, ⟨#[103]⟩, 0⟩])) := by subst hW2; exact HN2.out
  have B2 : Hid (Below x1.heap.size x1 x2) := by subst hW2; exact (HB2.out.alloc HB2.out.size _).alloc (by have := HB2.out.size; simp; omega) _
  have z2 : w.heap.size < w2.heap.size := by have := HB2.out.size; omega
  have y2 : w.heap.size < x2.heap.size := by have := B2.out.size; omega
  clear hW2 HN2 HB2
  refine (sym35_none 2 ⟨#[103]⟩ (by omega) (by decide) _).mono ?_
  rintro e w3 ⟨⟨v3, rfl, vr3, vn3, rfl, hs3⟩, hB3⟩
  have HN3 := Lib.hid (obc_new ⟨#[98]⟩ (by decide) hs3)
  have HB3 := Lib.hid hB3
  clear hs3 hB3
  go_wp2_with fail
  generalize hW3 : World.alloc (World.alloc w3 _) _ = x3
  have O3 : Hid (ObC x3 (w3.heap.size + 1) w3.heap.size ⟨#[98]⟩ (gsym35 2 ⟨#[103]⟩ [])) := by subst hW3; exact HN3.out
  have B3 : Hid (Below x2.heap.size x2 x3) := by subst hW3; exact (HB3.out.alloc HB3.out.size _).alloc (by have := HB3.out.size; simp; omega) _
  have z3 : w.heap.size < w3.heap.size := by have := HB3.out.size; omega
  have y3 : w.heap.size < x3.heap.size := by have := B3.out.size; omega
  clear hW3 HN3 HB3
  refine (sym35_none 2 ⟨#[104]⟩ (by omega) (by decide) _).mono ?_
  rintro e w4 ⟨⟨v4, rfl, vr4, vn4, rfl, hs4⟩, hB4⟩
  have HN4 := Lib.hid (obc_new ⟨#[99]⟩ (by decide) hs4)
  have HB4 := Lib.hid hB4
  clear hs4 hB4
  go_wp2_with fail
  generalize hW4 : World.alloc (World.alloc w4 _) _ = x4
  have O4 : Hid (ObC x4 (w4.heap.size + 1) w4.heap.size ⟨#[99]⟩ (gsym35 2 ⟨#[104]⟩ [])) := by subst hW4; exact HN4.out
  have B4 : Hid (Below x3.heap.size x3 x4) := by subst hW4; exact (HB4.out.alloc HB4.out.size _).alloc (by have := HB4.out.size; simp; omega) _
  have z4 : w.heap.size < w4.heap.size := by have := HB4.out.size; omega
  have y4 : w.heap.size < x4.heap.size := by have := B4.out.size; omega
  clear hW4 HN4 HB4
  have C4 : Hid (Below x0.heap.size x0 x4) := ((B1.out.trans (B2.out.mono B1.out.size)).trans (B3.out.mono (Nat.le_trans B1.out.size B2.out.size))).trans (B4.out.mono (Nat.le_trans B1.out.size (Nat.le_trans B2.out.size B3.out.size)))
  have k0 := cell_keep C4.out (by have := HR.out.1; omega) HR.out.2.1
  have k1 := cell_keep C4.out (by have := HR.out.1; omega) HR.out.2.2.1
  have P2 := Lib.hid ((O2.out.keep B3.out).keep B4.out)
  have P3 := Lib.hid (O3.out.keep B4.out)
  have P1 := Lib.hid (((O1.out.keep B2.out).keep B3.out).keep B4.out)
  obtain ⟨a0, a1, a2, -⟩ := P2.out
  obtain ⟨b0, b1, b2, -⟩ := P3.out
  obtain ⟨c0, c1, c2, -⟩ := O4.out
  have f0 : x4.frozen? ⟨w.heap.size, 0, none⟩ = false := ((bcell C4.out).2 _ _ y0).trans HR.out.2.2.2.2.1
  have f1 : x4.frozen? ⟨w.heap.size, 1, none⟩ = false := ((bcell C4.out).2 _ _ y0).trans HR.out.2.2.2.2.2.1
  have NI : Hid (∀ o K n, x4.cell? ⟨w.heap.size, o, none⟩ ≠ some (.int K n)) := fun o K n => by rw [(bcell C4.out).1 _ _ y0]; exact HR.out.2.2.2.2.2.2 o K n
  have hne2 : w.heap.size ≠ w2.heap.size + 1 := by omega
  have hne3 : w.heap.size ≠ w3.heap.size + 1 := by omega
  have hne4 : w.heap.size ≠ w4.heap.size + 1 := by omega
  clear B1 B2 B3 B4 O1 O2 O3 y0 y1 y2 y3 z2 z3 z4
  go_region
  go_wp2
  refine bodyPost_ret (v := .tuple #[.slice (some ⟨w1.heap.size + 1, 0, none⟩) 1 1, .agg #[.string lib35, .slice (some ⟨x4.heap.size, 0, none⟩) 3 3]]) (by simp [results, Tryz.results27, go_sem, lib35, k0, k1, y4]) rfl ?_
  generalize hW : World.drew _ = wF
  have hF : Far w.heap.size x4 wF := ⟨by subst hW; simp, fun b o hb hlt => by
    subst hW
    show (World.alloc _ _).cell? _ = _
    rw [(bcell (alloc_old _ _)).1 b o (by simpa using hlt), World.cell?_setCell_far _ _ _ _ (Ne.symm hb), World.cell?_setCell_far _ _ _ _ (Ne.symm hb)], NI.out⟩
  have hB : Below w.heap.size w wF := by
    have h0 : Below w.heap.size w x4 := HR.out.2.2.2.1.trans (C4.out.mono (by have := HR.out.1; omega))
    subst hW
    exact below_drewN (((h0.setCell (by simp) _).setCell (by simp) _).alloc (by simp; omega) _) 1
  have q : ∀ j u, (#[.string ⟨#[97]⟩, .slice (some ⟨w2.heap.size, 0, none⟩) 1 1, .string ⟨#[98]⟩, .slice (some ⟨w3.heap.size, 0, none⟩) 1 1, .string ⟨#[99]⟩, .slice (some ⟨w4.heap.size, 0, none⟩) 1 1] : Array Value)[j]? = some u → wF.cell? ⟨x4.heap.size, j, none⟩ = some u := by
    subst hW
    intro j u hu
    match j, hu with
    | 0, hu => cases hu; simp [go_sem]
    | 1, hu => cases hu; simp [go_sem]
    | 2, hu => cases hu; simp [go_sem]
    | 3, hu => cases hu; simp [go_sem]
    | 4, hu => cases hu; simp [go_sem]
    | 5, hu => cases hu; simp [go_sem]
  have hz : x4.heap.size < wF.heap.size := by subst hW; simp
  have hne1 : w1.heap.size + 1 ≠ w.heap.size := by omega
  clear hW
  obtain ⟨p0, p1, p2, p3⟩ := P1.out
  refine ⟨⟨_, _, rfl, rowAt_one ⟨_, Nat.lt_of_lt_of_le p0 hF.size, (hF.cell _ _ hne1 p0).trans p1, (hF.cell _ _ hne1 p0).trans p2, hF.obj p3⟩ (by omega), ?_⟩, hB⟩
  exact rowAt_three ⟨_, hz, q 0 _ rfl, q 1 _ rfl, hF.obj P2.out.2.2.2⟩ ⟨_, hz, q 2 _ rfl, q 3 _ rfl, hF.obj P3.out.2.2.2⟩ ⟨_, hz, q 4 _ rfl, q 5 _ rfl, hF.obj O4.out.2.2.2⟩ (by omega)
end Go.Proofs.YtboegjdkedjhcaaGreatDoor
namespace Go.Proofs.YtboegjdkedjhcaaGreatDoor
def m35 : List UInt8 := [109, 97, 105, 110]
def oa35 : GObj := ⟨⟨#[97]⟩, [gsym35 1 ⟨#[102]⟩ [⟨4, 1, ⟨#[103]⟩, 0⟩]]⟩
def ob35 : GObj := ⟨⟨#[98]⟩, [gsym35 2 ⟨#[103]⟩ []]⟩
def oc35 : GObj := ⟨⟨#[99]⟩, [gsym35 2 ⟨#[104]⟩ []]⟩
def sel3 (a b c : Bool) : List GObj := (if a = true then [oa35] else []) ++ ((if b = true then [ob35] else []) ++ ((if c = true then [oc35] else []) ++ []))
theorem selGo3 (I : Nat → Bool) : selGo I 0 mems35 = sel3 (I 0) (I 1) (I 2) := rfl
theorem stop35 : ∀ a b c : Bool, (∀ n ∈ wantsRaw (defB (base35 ++ sel3 a b c)) m35 (base35 ++ sel3 a b c), ∀ o ∈ [oa35, ob35, oc35], defS o.syms n = false) → a = true ∧ b = true := by
  decide +kernel
theorem need35 (I : Nat → Bool) : ¬ NeedOf m35 base35 mems35 I 2 := by
  rintro ⟨-, h, s, hs, hb, hn⟩
  obtain rfl : s = gsym35 2 ⟨#[104]⟩ [] := List.mem_singleton.1 hs
  rcases hn with hn | ⟨o, ho, hr⟩ | ⟨j, hj, -, -, hr⟩
  · revert hn; decide +kernel
  · obtain rfl := List.mem_singleton.1 ho
    revert hr; decide +kernel
  · have : ∀ (j : Nat) (hj : j < 3), refO ([oa35, ob35, oc35][j]) [104] = false := by decide +kernel
    have h2 : refO ([oa35, ob35, oc35][j]'hj) [104] = true := hr
    rw [this j hj] at h2; cases h2
/-- what is pulled is the first and the second member -/
theorem sel35 {I : Nat → Bool} (h : PullOk m35 base35 mems35 I) : selGo I 0 mems35 = [oa35, ob35] := by
  have h1 := stop35 (I 0) (I 1) (I 2) (by have := h.stop; rw [selGo3] at this; exact this)
  have h2 : I 2 = false := by
    cases h3 : I 2 with
    | false => rfl
    | true => exact absurd (h.need 2 h3) (need35 I)
  rw [selGo3, h1.1, h1.2, h2]; rfl
end Go.Proofs.YtboegjdkedjhcaaGreatDoor
namespace Go.Proofs.YtboegjdkedjhcaaGreatDoor
def arc35 : GArc := ⟨lib35, mems35⟩
theorem arc35_ok : arcOk arc35 = true := by decide +kernel
theorem base35_may : base35.all mayP = true := by decide +kernel
theorem mayL35 : mayL base35 = base35 := by kernel_rfl
theorem wants35 : wantsRaw (defB base35) m35 base35 = [[102]] := by decide +kernel
theorem wanting35 : onceT (sortT (wantsRaw (defB (mayL base35)) m35 (mayL base35))) = [[102]] := by
  rw [mayL35, wants35, sortT, List.mergeSort_singleton]; rfl
theorem memsOf35 : memsOf [arc35] = mems35 := by kernel_rfl
theorem ents35 : (entsFrom 0 (memsOf [arc35])).length = 3 := by decide +kernel
theorem enc35_x : arcGet (encArc arc35 ++ [120]) = none := by decide +kernel
theorem enc35 : arcGet (encArc arc35) = some arc35 := by kernel_rfl
theorem empty35 : arcOk ⟨⟨#[]⟩, []⟩ = false := by decide +kernel
end Go.Proofs.YtboegjdkedjhcaaGreatDoor
namespace Go.Proofs.YtboegjdkedjhcaaGreatDoor
open Go.RowKit Go.Maps Go.WideMaps
set_option maxRecDepth 100000 in
set_option maxHeartbeats 1000000 in
theorem clone_any (w0 : World) (v : Value) (l : List GObj) (w : World) (h : ObjsAt w0 v l) (hb0 : Below w0.heap.size w0 w) (hl : l.length ≤ 100000) :
    Calls Tryz.prog 61 #[v] w fun e w' => ∃ vo ts, e = .returned vo ∧ OwnObsB w.heap.size w0 w' vo ts ∧ ts.map (·.1) = l ∧ Below w.heap.size w w' := by
  obtain ⟨p, cap, b, o, ts, rfl, hts, hcap, hmax, hp, hin, hc⟩ := objs_pairs2 h
  have htl : Hid (ts.length = l.length) := by rw [Hid, ← hts, List.length_map]
  have HTS := Lib.hid hts
  have HIN := Lib.hid hin
  have HPP : Hid (0 < l.length → p = some ⟨b, o, none⟩) := fun h0 => (hp h0).1
  have HCC : Hid (0 < l.length → ∀ j u, (ts.flatMap obCells)[j]? = some u → w.cell? ((⟨b, o, none⟩ : Addr).add j) = some u) := fun h0 j u hj => by
    have h1 := hc j u hj
    rw [add_at] at h1 ⊢
    exact cell_keep hb0 (hp h0).2 h1
  obtain ⟨iO, s0, s1, s2, s3⟩ := info_parts info_obj
  have HI := Lib.hid (And.intro s0 (And.intro s1 (And.intro s2 s3)))
  clear s0 s1 s2 s3 h hts hp hc hin hb0
  have q22 : ∀ (w : World) (a : Option Addr) (n c n' c' : Nat), (binOp .eql 22 (.slice a n c) (.slice none n' c')).run Tryz.prog w = .ok (.bool a.isNone) w := fun w a n c n' c' => Lib.run_eql_slice_nil w _ _ a n c n' c' Tryz.underlying22
  cases p with
  | none =>
    have h0 : l.length = 0 := by
      by_cases h0 : 0 < l.length
      · cases HPP.out h0
      · omega
    obtain rfl : l = [] := List.eq_nil_of_length_eq_zero h0
    obtain rfl : ts = [] := List.eq_nil_of_length_eq_zero (by rw [htl.out]; rfl)
    clear htl HPP HCC
    go_enter Tryz.func61, Tryz.ntmps61
    go_wp2
    go_ret
    exact ⟨_, [], rfl, OwnObsB.nil _ _ _, rfl, Below.refl _ _⟩
  | some a =>
    have HM : Hid ((w.alloc (.cells #[] 50)).ownsRow w.heap.size 50 2 (.slice (some ⟨w.heap.size, 0, none⟩) 0 0) 0 []) := World.ownsRow_made w #[] 0 (Nat.le_refl _) (by unfold maxLen; omega) rfl
    have HCA : Hid (0 < l.length → ∀ j u, (ts.flatMap obCells)[j]? = some u → (w.alloc (.cells #[] 50)).cell? ((⟨b, o, none⟩ : Addr).add j) = some u) := fun h0 j u hj => by
      have h1 := HCC.out h0 j u hj
      rw [add_at] at h1 ⊢
      have h2 : b < w.heap.size := by
        by_cases h3 : b < w.heap.size
        · exact h3
        · rw [World.cell?, Array.getElem?_eq_none (by simpa using h3)] at h1; cases h1
      exact cell_keep (alloc_old w _) h2 h1
    go_enter Tryz.func61, Tryz.ntmps61
    go_wp2_with (at_builtin; refine wpList_append_src rfl _ _ 22 rfl w.heap.size 50 iO _ 2 40 Tryz.underlying22 HI.out.1 HI.out.2.1 HI.out.2.2.1 HI.out.2.2.2 rfl (by decide) (.slice (some ⟨w.heap.size, 0, none⟩) 0 0) 0 [] rfl HM.out (some a) l.length cap b o (ts.flatMap obCells) rfl HPP.out (by rw [flat_len obCells_len, htl.out]) HCA.out (obs_one HIN.out) (by unfold maxLen; omega) (by omega) (by simp) ?_)
    intro v' w' hown hgrow
    have HO3 : Hid (OwnObsB w.heap.size w0 w' v' ts) := ⟨by rw [htl.out]; simpa using hown, HIN.out⟩
    have HBF : Hid (Below w.heap.size w w') := (alloc_old w _).grown hgrow (by simp) (fun q e => by cases e; exact Nat.le_refl _)
    obtain ⟨pw3, cw3, rfl⟩ := own_shape hown
    clear hown hgrow
    go_wp2
    go_ret
    exact ⟨_, ts, rfl, HO3.out, HTS.out, HBF.out⟩
theorem inF_get (I : Nat → Bool) (k : Nat) : (inF I k).getD (.bool false) = .bool (I k) := by unfold inF; cases I k <;> rfl
open Classical in
/-- what the table says of a member -/
noncomputable def inW (ib : Nat) (w : World) (k : Nat) : Bool := decide (∃ (ni : Nat) (I : Nat → Bool), MapKFn intE w ib ni (inF I) ∧ I k = true)
theorem in_look {w : World} {ib ni k : Nat} {I : Nat → Bool} (h : MapKFn intE w ib ni (inF I)) (hk : k ≤ 9223372036854775807) : (Instr.lookup 117 (.map (some ib)) (.int .i64 k) false).run Tryz.prog w = .ok (.bool (I k)) w := by
  have := h.look (a := k) intKeyed Tryz.underlying117 (zeroB w) hk
  rw [inF_get] at this; exact this
open Classical in
theorem inW_eq {w : World} {ib ni k : Nat} {I : Nat → Bool} (h : MapKFn intE w ib ni (inF I)) (hk : k ≤ 9223372036854775807) : inW ib w k = I k := by
  unfold inW
  cases hi : I k with
  | true => exact decide_eq_true ⟨ni, I, h, hi⟩
  | false =>
    refine decide_eq_false ?_
    rintro ⟨n2, I2, h2, hi2⟩
    have e1 := in_look h hk
    have e2 := in_look h2 hk
    rw [e1] at e2
    rw [hi, hi2] at e2
    cases e2
def cnI (n : Nat) (I : Nat → Bool) : Nat := (List.range n).countP I
noncomputable def leftW (ib n : Nat) (w : World) : Nat := n - cnI n (inW ib w)
theorem leftW_eq {w : World} {ib ni n : Nat} {I : Nat → Bool} (h : MapKFn intE w ib ni (inF I)) (hn : n ≤ 1000000) : leftW ib n w = n - cnI n I := by
  unfold leftW cnI
  congr 1
  refine List.countP_congr fun k hk => ?_
  rw [inW_eq h (by have := List.mem_range.1 hk; omega)]
theorem cnI_le (n : Nat) (I : Nat → Bool) : cnI n I ≤ n := by
  have := List.countP_le_length (p := I) (l := List.range n)
  rw [List.length_range] at this; exact this
def updI (I : Nat → Bool) (m k : Nat) : Bool := I k || k == m
theorem inF_upd (I : Nat → Bool) (m : Nat) : (fun x => if x = m then some (Value.bool true) else inF I x) = inF (updI I m) := by
  funext x
  unfold inF updI
  by_cases h : x = m <;> simp [h]
theorem cnI_upd : ∀ (n : Nat) {I : Nat → Bool} {m : Nat}, m < n → I m = false → cnI n (updI I m) = cnI n I + 1
  | 0, I, m, h, _ => by omega
  | n + 1, I, m, h, hi => by
    unfold cnI
    rw [List.range_succ, List.countP_append, List.countP_append]
    by_cases e : m = n
    · subst e
      have h1 : (List.range m).countP (updI I m) = (List.range m).countP I := List.countP_congr fun k hk => by
        have := List.mem_range.1 hk
        have h2 : (k == m) = false := by simp; omega
        simp [updI, h2]
      rw [h1]
      simp [updI, hi]
    · have ih := cnI_upd n (I := I) (m := m) (by omega) hi
      unfold cnI at ih
      rw [ih]
      have h2 : (n == m) = false := by simp; omega
      simp [updI, List.countP_cons, h2]
      omega
theorem inSet_more {lb ms objs new : List GObj} {I I' : Nat → Bool} {M : List Nat} (h : InSet lb ms objs I) (hI : ∀ k, I' k = (I k || decide (k ∈ M))) (hM : ∀ o, o ∈ new ↔ ∃ (k : Nat) (hk : k < ms.length), k ∈ M ∧ ms[k] = o) : InSet lb ms (objs ++ new) I' := fun o => by
  rw [List.mem_append, h o, hM o]
  constructor
  · rintro ((h1 | ⟨k, hk, h1, h2⟩) | ⟨k, hk, h1, h2⟩)
    · exact .inl h1
    · exact .inr ⟨k, hk, by rw [hI, h1]; rfl, h2⟩
    · exact .inr ⟨k, hk, by rw [hI]; simp [h1], h2⟩
  · rintro (h1 | ⟨k, hk, h1, h2⟩)
    · exact .inl (.inl h1)
    · rw [hI, Bool.or_eq_true, decide_eq_true_eq] at h1
      rcases h1 with h1 | h1
      · exact .inl (.inr ⟨k, hk, h1, h2⟩)
      · exact .inr ⟨k, hk, h1, h2⟩
/-- a row of other things is written -/
theorem PullSt.byRow {w0 : World} {pb sb mb bb ib : Nat} {va v : Value} {us ts : List (GObj × Value)} {nb : Nat} {G : List UInt8 → Option GEnt} {ni : Nat} {I : Nat → Bool} {w w' : World} (h : PullSt w0 pb sb mb bb ib va v us ts nb G ni I w)
    {B : Nat} {k n : Nat} {r : Value} {xs : List Value} (hr : w.ownsRow B 3 k r n xs) (hB : w0.heap.size ≤ B) (hk : KB (fun q => r.ownBlock = some q) w w') : PullSt w0 pb sb mb bb ib va v us ts nb G ni I w' where
  box := (hk.block _ h.lt (own_ne_box hr h.box (by decide))).trans h.box
  scope := ⟨(hk.block _ (ScopeSt.lt h.scope) (own_ne_box hr h.scope.box (by decide))).trans h.scope.box, h.scope.row.congr fun g hg => hk.block g (h.scope.row.row.lt g hg).2 (fun e => own_ne hr h.scope.row.row (by decide) e hg),
    h.scope.map.kept (hk.block _ h.scope.map.lt (own_ne_map hr h.scope.map)), h.scope.sbl, h.scope.mbl, h.scope.blw.trans (hk.below h.scope.blw.size (fun q hq e => by have := (World.ownsRow.lt hr q e).1; omega))⟩
  all := h.all.congr fun g hg => hk.block g (h.all.row.lt g hg).2 (fun e => own_ne hr h.all.row (by decide) e hg)
  best := h.best.kept (hk.block _ h.best.lt (own_ne_map hr h.best))
  inm := h.inm.kept (hk.block _ h.inm.lt (own_ne_mapK hr h.inm))
  pbl := h.pbl
  bbl := h.bbl
  ibl := h.ibl
  bm := h.bm
  im := h.im
  bi := h.bi
  av := h.av
def pullOkB (lb : List GObj) (l : List GArc) : Bool := decide (lb.length ≤ 16) && decide (l.length ≤ 8) && lb.all mayP && l.all arcOk
def PullPost (w : World) (nm : List UInt8) (lb ms : List GObj) (e : Ending) (w' : World) : Prop :=
  ∃ I, PullOk nm lb ms I ∧ (16 < (lb ++ selGo I 0 ms).length ∧ e = .returned (.tuple #[.slice none 0 0, .int .i64 4]) ∨ (lb ++ selGo I 0 ms).length ≤ 16 ∧ ∃ vo, e = .returned (.tuple #[vo, .int .i64 0]) ∧ ObjsAt w' vo (lb ++ selGo I 0 ms)) ∧ Below w.heap.size w w'
theorem any_not {α : Type} (l : List α) (p : α → Bool) : (l.any fun o => !p o) = !l.all p := by induction l <;> simp_all
end Go.Proofs.YtboegjdkedjhcaaGreatDoor
