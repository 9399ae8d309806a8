/- Manifests of notes: what may be, and which covers which (layer 11), in plain words. No program in sight. Manifests note by note, as the document has them (layer 11), in plain words: the same as gathered. No program in sight. -/
import Derived.Test.YtdjgkmpjhpnkeaaGreatDoorBd18
namespace Go.Proofs.YtdjgkmpjhpnkeaaGreatDoor
open Go.Lib
/-- what a gatherer has, another one has -/
structure GLe (g h : Gat) : Prop where
  pg : g.pages ≤ h.pages
  bl : ∀ i : Nat, (g.blocks[i]?.getD 0) ≤ (h.blocks[i]?.getD 0)
  po : ∀ p ∈ g.ports, p ∈ h.ports
  co : g.cons = true → h.cons = true
def NoteIn (x : GNote) (h : Gat) : Prop :=
  (x.kind = 1 → x.n ≤ h.pages) ∧ (x.kind = 2 → x.m ≤ (h.blocks[x.n.toNat]?.getD 0)) ∧ (x.kind = 3 → x.n ∈ h.ports) ∧ (x.kind ≠ 1 → x.kind ≠ 2 → x.kind ≠ 3 → h.cons = true)
theorem GLe.refl (g : Gat) : GLe g g := ⟨Int.le_refl _, fun _ => Int.le_refl _, fun _ h => h, fun h => h⟩
theorem GLe.trans {a b c : Gat} (h : GLe a b) (k : GLe b c) : GLe a c := ⟨Int.le_trans h.pg k.pg, fun i => Int.le_trans (h.bl i) (k.bl i), fun p hp => k.po p (h.po p hp), fun e => k.co (h.co e)⟩
theorem NoteIn.mono {x : GNote} {g h : Gat} (hx : NoteIn x g) (k : GLe g h) : NoteIn x h :=
  ⟨fun e => Int.le_trans (hx.1 e) k.pg, fun e => Int.le_trans (hx.2.1 e) (k.bl _), fun e => k.po _ (hx.2.2.1 e), fun a b c => k.co (hx.2.2.2 a b c)⟩
theorem set_getD (l : List Int) (i j : Nat) (v : Int) : ((l.set i v)[j]?.getD 0) = if i = j ∧ j < l.length then v else (l[j]?.getD 0) := by
  rw [List.getElem?_set]
  by_cases h : i = j
  · subst h
    by_cases h2 : i < l.length
    · simp [h2]
    · simp [h2]
  · simp [h]
theorem gatNote_ge (g : Gat) (x : GNote) : GLe g (gatNote g x) := by
  unfold gatNote
  split
  · exact ⟨by simp only []; omega, fun _ => Int.le_refl _, fun _ h => h, fun h => h⟩
  · split
    · refine ⟨Int.le_refl _, fun i => ?_, fun _ h => h, fun h => h⟩
      simp only []
      rw [set_getD]
      split
      · rename_i h; rw [h.1]; omega
      · exact Int.le_refl _
    · split
      · exact ⟨Int.le_refl _, fun _ => Int.le_refl _, fun p h => List.mem_append_left _ h, fun h => h⟩
      · exact ⟨Int.le_refl _, fun _ => Int.le_refl _, fun _ h => h, fun _ => rfl⟩
theorem gatNote_in {g : Gat} {x : GNote} (hb : g.blocks.length = 16) (hx : noteOk x = true) (h0 : 0 ≤ x.n) : NoteIn x (gatNote g x) := by
  rcases noteOk_kinds hx with ⟨e, h1, h2⟩ | ⟨e, h1, h2, h3⟩ | ⟨e, h1, h2, h3⟩ | ⟨e, h1, h2⟩
  · refine ⟨fun _ => ?_, fun h => by omega, fun h => by omega, fun h => absurd e h⟩
    unfold gatNote; rw [if_pos e]; simp only []; omega
  · refine ⟨fun h => by omega, fun _ => ?_, fun h => by omega, fun _ h => absurd e h⟩
    unfold gatNote; rw [if_neg (by omega), if_pos e]; simp only []
    rw [set_getD, if_pos ⟨rfl, by omega⟩]; omega
  · refine ⟨fun h => by omega, fun h => by omega, fun _ => ?_, fun _ _ h => absurd e h⟩
    unfold gatNote; rw [if_neg (by omega), if_neg (by omega), if_pos e]; simp
  · refine ⟨fun h => by omega, fun h => by omega, fun h => by omega, fun _ _ _ => ?_⟩
    unfold gatNote; rw [if_neg (by omega), if_neg (by omega), if_neg (by omega)]
theorem gatNote_le {g h : Gat} {x : GNote} (hg : GLe g h) (hx : NoteIn x h) : GLe (gatNote g x) h := by
  unfold gatNote
  split
  · rename_i e
    exact ⟨by have := hx.1 e; have := hg.pg; simp only []; omega, hg.bl, hg.po, hg.co⟩
  · rename_i e1
    split
    · rename_i e
      refine ⟨hg.pg, fun i => ?_, hg.po, hg.co⟩
      simp only []
      rw [set_getD]
      split
      · rename_i hi
        have h1 := hg.bl i
        have h2 := hx.2.1 e
        rw [hi.1] at h2 ⊢
        omega
      · exact hg.bl i
    · rename_i e2
      split
      · rename_i e
        refine ⟨hg.pg, hg.bl, fun p hp => ?_, hg.co⟩
        rcases List.mem_append.1 hp with hp | hp
        · exact hg.po p hp
        · obtain rfl := List.mem_singleton.1 hp
          exact hx.2.2.1 e
      · rename_i e3
        exact ⟨hg.pg, hg.bl, hg.po, fun _ => hx.2.2.2 e1 e2 e3⟩
theorem foldG_ge : ∀ (l : List GNote) (g : Gat), GLe g (l.foldl gatNote g)
  | [], g => GLe.refl g
  | x :: r, g => (gatNote_ge g x).trans (foldG_ge r _)
theorem gatNote_bl (g : Gat) (x : GNote) : (gatNote g x).blocks.length = g.blocks.length := by
  unfold gatNote
  repeat' split
  all_goals simp
theorem foldG_in : ∀ (l : List GNote) (g : Gat), g.blocks.length = 16 → l.all noteOk = true → (∀ x ∈ l, 0 ≤ x.n) → ∀ x ∈ l, NoteIn x (l.foldl gatNote g)
  | [], _, _, _, _, x, hx => by cases hx
  | y :: r, g, hb, hk, h0, x, hx => by
    rw [List.all_cons, Bool.and_eq_true] at hk
    rcases List.mem_cons.1 hx with rfl | hx
    · exact (gatNote_in hb hk.1 (h0 x List.mem_cons_self)).mono (foldG_ge r _)
    · exact foldG_in r _ (by rw [gatNote_bl]; exact hb) hk.2 (fun z hz => h0 z (List.mem_cons_of_mem _ hz)) x hx
theorem foldG_le : ∀ (l : List GNote) (g h : Gat), GLe g h → (∀ x ∈ l, NoteIn x h) → GLe (l.foldl gatNote g) h
  | [], _, _, hg, _ => hg
  | x :: r, _, _, hg, hx => foldG_le r _ _ (gatNote_le hg (hx x List.mem_cons_self)) fun y hy => hx y (List.mem_cons_of_mem _ hy)
theorem gatL_sub {a b : List GNote} (hs : ∀ x ∈ a, x ∈ b) (hb : b.all noteOk = true) (h0 : ∀ x ∈ b, 0 ≤ x.n) : GLe (gatL a) (gatL b) :=
  foldG_le a gat0 _ (foldG_ge b gat0) fun x hx => foldG_in b gat0 rfl hb h0 x (hs x hx)
theorem exts_mem : ∀ (k : Nat) (l : List Int) (y : Int × Int), y ∈ extsFrom k l ↔ ∃ i, l[i]? = some y.2 ∧ y.1 = ((k + i : Nat) : Int) ∧ 0 < y.2
  | k, [], y => by simp [extsFrom]
  | k, n :: r, y => by
    have ih := exts_mem (k + 1) r y
    have hr : y ∈ extsFrom (k + 1) r ↔ ∃ i, (n :: r)[i + 1]? = some y.2 ∧ y.1 = ((k + (i + 1) : Nat) : Int) ∧ 0 < y.2 := by
      rw [ih]
      constructor
      · rintro ⟨i, h1, h2, h3⟩; exact ⟨i, by simpa using h1, by omega, h3⟩
      · rintro ⟨i, h1, h2, h3⟩; exact ⟨i, by simpa using h1, by omega, h3⟩
    rw [extsFrom]
    by_cases hn : 0 < n
    · rw [if_pos hn, List.mem_cons, hr]
      constructor
      · rintro (rfl | ⟨i, h⟩)
        · exact ⟨0, rfl, by simp, hn⟩
        · exact ⟨i + 1, h⟩
      · rintro ⟨i, h1, h2, h3⟩
        match i, h1, h2 with
        | 0, h1, h2 =>
          left
          have e : n = y.2 := by simpa using h1
          exact Prod.ext (by simpa using h2) e.symm
        | i + 1, h1, h2 => exact .inr ⟨i, h1, h2, h3⟩
    · rw [if_neg hn, hr]
      constructor
      · rintro ⟨i, h⟩; exact ⟨i + 1, h⟩
      · rintro ⟨i, h1, h2, h3⟩
        match i, h1, h2 with
        | 0, h1, h2 =>
          have e : n = y.2 := by simpa using h1
          omega
        | i + 1, h1, h2 => exact ⟨i, h1, h2, h3⟩
theorem exts_up : ∀ (k : Nat) (l : List Int), (extsFrom k l).Pairwise fun x y => x.1 < y.1
  | k, [] => List.Pairwise.nil
  | k, n :: r => by
    rw [extsFrom]
    split
    · refine List.pairwise_cons.2 ⟨fun y hy => ?_, exts_up (k + 1) r⟩
      obtain ⟨i, -, h2, -⟩ := (exts_mem _ _ _).1 hy
      simp only []
      omega
    · exact exts_up (k + 1) r
theorem once_up {l : List Int} (h : l.Pairwise (· ≤ ·)) : (onceI l).Pairwise (· < ·) := by
  unfold onceI compact compactUpTo
  rw [List.pairwise_map, List.pairwise_filter]
  have hr := List.pairwise_lt_range (n := l.length)
  rw [List.pairwise_iff_getElem] at hr ⊢
  intro i j hi hj hij _ hk
  have h1 := hr i j hi hj hij
  simp only [List.getElem_range] at h1 hk ⊢
  have hjl : j < l.length := by simpa using hj
  have e : ∀ a (ha : a < l.length), l.toArray[a]! = l[a] := fun a ha => by simp [ha]
  rw [e i (by omega), e j hjl]
  unfold keeps at hk
  rw [e j hjl, e (j - 1) (by omega)] at hk
  simp only [decide_eq_true_eq] at hk
  have hp := List.pairwise_iff_getElem.1 h
  have hne : l[j] ≠ l[j - 1] := by
    rcases hk with hk | hk
    · omega
    · exact hk
  have h2 := hp (j - 1) j (by omega) hjl (by omega)
  have h3 : l[i] ≤ l[j - 1] := by
    rcases Nat.lt_or_eq_of_le (show i ≤ j - 1 by omega) with h4 | h4
    · exact hp i (j - 1) (by omega) (by omega) h4
    · exact Int.le_of_eq (by congr 1)
  omega
theorem once_all (l : List Int) : ∀ x ∈ l, x ∈ onceI l := by
  have key : ∀ j (h : j < l.length), l[j] ∈ onceI l := by
    intro j
    induction j with
    | zero =>
      intro h
      unfold onceI compact compactUpTo
      exact List.mem_map.2 ⟨0, List.mem_filter.2 ⟨List.mem_range.2 h, keeps_lt_one _ 0 (by omega)⟩, by simp [h]⟩
    | succ j ih =>
      intro h
      by_cases he : l[j + 1] = l[j]
      · rw [he]; exact ih (by omega)
      · unfold onceI compact compactUpTo
        refine List.mem_map.2 ⟨j + 1, List.mem_filter.2 ⟨List.mem_range.2 h, keeps_pos ?_⟩, by simp [h]⟩
        have h2 : j < l.length := by omega
        simpa [h, h2] using he
  intro x hx
  obtain ⟨i, hi, rfl⟩ := List.getElem_of_mem hx
  exact key i hi
theorem sortI_up (l : List Int) : (sortI l).Pairwise (· ≤ ·) := by
  unfold sortI
  have := List.pairwise_mergeSort (le := fun x y : Int => decide (x ≤ y)) (by intro a b c; simp only [decide_eq_true_eq]; omega) (by intro a b; simp only [Bool.or_eq_true, decide_eq_true_eq]; omega) l
  simpa using this
/-- a manifest that may be -/
structure ManFit (m : GMan) : Prop where
  ok : ManOk m
  eu : ∀ k (h : k + 1 < m.exts.length), m.exts[k].1 < m.exts[k + 1].1
  pu : ∀ k (h : k + 1 < m.ports.length), m.ports[k] < m.ports[k + 1]
theorem man0_fit : ManFit man0 := ⟨man0_ok, fun k h => absurd h (by simp [man0]), fun k h => absurd h (by simp [man0])⟩
theorem gatMan_fit {g : Gat} (hg : GatOk g) (hn : ¬ 16 < (gatMan g).ports.length) : ManFit (gatMan g) := by
  have h0 := gatEnd_ok hg
  unfold gatEnd at h0
  rw [if_neg hn] at h0
  refine ⟨h0, fun k h => ?_, fun k h => ?_⟩
  · exact List.pairwise_iff_getElem.1 (exts_up 0 g.blocks) k (k + 1) (by show k < (extsFrom 0 g.blocks).length; have : k + 1 < (extsFrom 0 g.blocks).length := h; omega) h (by omega)
  · exact List.pairwise_iff_getElem.1 (once_up (sortI_up g.ports)) k (k + 1) (by show k < (onceI (sortI g.ports)).length; have : k + 1 < (onceI (sortI g.ports)).length := h; omega) h (by omega)
theorem demandR_zero {l : List GNote} (h : (demandR l).2 = 0) : l.all noteOk = true ∧ ¬ 16 < (gatMan (gatL l)).ports.length ∧ (demandR l).1 = gatMan (gatL l) := by
  unfold demandR at h ⊢
  by_cases hk : l.all noteOk = true
  · rw [if_pos hk] at h ⊢
    unfold gatEnd at h ⊢
    by_cases h16 : 16 < (gatMan (gatAll l)).ports.length
    · rw [if_pos h16] at h; simp at h
    · rw [if_neg h16]; exact ⟨hk, h16, rfl⟩
  · rw [if_neg hk] at h; simp at h
theorem demandR_fit {l : List GNote} (h0 : ∀ x ∈ l, 0 ≤ x.n) (h : (demandR l).2 = 0) : ManFit (demandR l).1 := by
  obtain ⟨h1, h2, h3⟩ := demandR_zero h
  rw [h3]
  exact gatMan_fit (gatL_ok h1 h0).1 h2
/-- the program's covers -/
def coversR (m : GMan) (x : GNote) : Bool :=
  if x.kind = 1 then decide (x.n ≤ m.pages) else if x.kind = 2 then m.exts.any (fun e => decide (e.1 = x.n) && decide (x.m ≤ e.2)) else if x.kind = 3 then m.ports.any (fun p => decide (p = x.n)) else m.cons
/-- the notes that a manifest is of -/
def notesR (m : GMan) : List GNote :=
  (if 0 < m.pages then [⟨1, m.pages, 0⟩] else []) ++ m.exts.map (fun e => ⟨2, e.1, e.2⟩) ++ m.ports.map (fun p => ⟨3, p, 0⟩) ++ (if m.cons = true then [⟨4, 0, 0⟩] else [])
theorem covers_le {g h : Gat} (hg : GatOk g) (hh : GatOk h) (hle : GLe g h) : ∀ x ∈ notesR (gatMan g), coversR (gatMan h) x = true := by
  intro x hx
  unfold notesR at hx
  simp only [List.mem_append] at hx
  rcases hx with ((hx | hx) | hx) | hx
  · split at hx
    · obtain rfl := List.mem_singleton.1 hx
      have := hle.pg
      unfold coversR
      rw [if_pos rfl]
      exact decide_eq_true this
    · cases hx
  · obtain ⟨e, he, rfl⟩ := List.mem_map.1 hx
    obtain ⟨i, h1, h2, h3⟩ := (exts_mem _ _ _).1 he
    have hil := (List.getElem?_eq_some_iff.1 h1).1
    have h16 := hg.n
    have hbl := hle.bl i
    rw [h1] at hbl
    have hih : i < h.blocks.length := by rw [hh.n]; omega
    have hget : h.blocks[i]? = some h.blocks[i] := List.getElem?_eq_getElem hih
    rw [hget] at hbl
    simp only [Option.getD_some] at hbl
    unfold coversR
    simp only []
    rw [if_neg (by decide), if_pos trivial, List.any_eq_true]
    exact ⟨(e.1, h.blocks[i]), (exts_mem _ _ _).2 ⟨i, hget, h2, by simp only []; omega⟩, by simp; omega⟩
  · obtain ⟨p, hp, rfl⟩ := List.mem_map.1 hx
    have h1 := once_mem _ p hp
    rw [sortI, List.mem_mergeSort] at h1
    have h2 : p ∈ (gatMan h).ports := once_all _ p (by rw [sortI, List.mem_mergeSort]; exact hle.po p h1)
    unfold coversR
    simp only []
    rw [if_neg (by decide), if_neg (by decide), if_pos trivial, List.any_eq_true]
    exact ⟨p, h2, by simp⟩
  · split at hx
    · rename_i hc
      obtain rfl := List.mem_singleton.1 hx
      unfold coversR
      simp only []
      rw [if_neg (by decide), if_neg (by decide), if_neg (by decide)]
      exact hle.co hc
    · cases hx
theorem demand_covers {a b : List GNote} (hs : ∀ x ∈ a, x ∈ b) (h0 : ∀ x ∈ b, 0 ≤ x.n) (ha : (demandR a).2 = 0) (hb : (demandR b).2 = 0) : ∀ x ∈ notesR (demandR a).1, coversR (demandR b).1 x = true := by
  obtain ⟨a1, -, a3⟩ := demandR_zero ha
  obtain ⟨b1, -, b3⟩ := demandR_zero hb
  rw [a3, b3]
  exact covers_le (gatL_ok a1 fun x hx => h0 x (hs x hx)).1 (gatL_ok b1 h0).1 (gatL_sub hs b1 h0)
end Go.Proofs.YtdjgkmpjhpnkeaaGreatDoor
namespace Go.Proofs.YtdjgkmpjhpnkeaaGreatDoor
/-- a port into a row that rises, once -/
def portI : List Int → Int → List Int
  | [], p => [p]
  | x :: r, p => if x < p then x :: portI r p else if x = p then x :: r else p :: x :: r
theorem portI_at : ∀ (l : List Int) (p : Int) (k : Nat), k ≤ l.length → (∀ j (h : j < l.length), j < k → l[j] < p) → (∀ h : k < l.length, ¬ l[k] < p) → portI l p = if l[k]? = some p then l else l.take k ++ p :: l.drop k
  | [], p, k, hk, _, _ => by
    obtain rfl : k = 0 := by simpa using hk
    simp [portI]
  | x :: r, p, 0, _, _, h2 => by
    have h0 := h2 (by simp)
    simp only [List.getElem_cons_zero] at h0
    simp only [portI, List.getElem?_cons_zero, Option.some.injEq, List.take_zero, List.nil_append, List.drop_zero]
    rw [if_neg h0]
  | x :: r, p, k + 1, hk, h1, h2 => by
    have h0 := h1 0 (by simp) (by omega)
    simp only [List.getElem_cons_zero] at h0
    have ih := portI_at r p k (by simpa using hk) (fun j hj hjk => by have := h1 (j + 1) (by simpa using hj) (by omega); simpa using this) (fun h => by have := h2 (by simpa using h); simpa using this)
    simp only [portI, List.getElem?_cons_succ, List.take_succ_cons, List.drop_succ_cons, List.cons_append]
    rw [if_pos h0, ih]
    split <;> rfl
theorem portI_mem : ∀ (l : List Int) (p x : Int), x ∈ portI l p ↔ x ∈ l ∨ x = p
  | [], p, x => by simp [portI]
  | y :: r, p, x => by
    rw [portI]
    split
    · rw [List.mem_cons, portI_mem r p x, List.mem_cons]; exact or_assoc.symm
    · split
      · rename_i h; subst h
        rw [List.mem_cons]
        constructor
        · intro h; exact .inl h
        · rintro (h | h)
          · exact h
          · exact .inl h
      · rw [List.mem_cons (b := p)]; exact or_comm
theorem portI_up : ∀ (l : List Int) (p : Int), l.Pairwise (· < ·) → (portI l p).Pairwise (· < ·)
  | [], p, _ => List.pairwise_singleton _ _
  | y :: r, p, h => by
    have h' := List.pairwise_cons.1 h
    rw [portI]
    split
    · rename_i h0
      refine List.pairwise_cons.2 ⟨fun z hz => ?_, portI_up r p h'.2⟩
      rcases (portI_mem r p z).1 hz with hz | rfl
      · exact h'.1 z hz
      · exact h0
    · split
      · exact h
      · refine List.pairwise_cons.2 ⟨fun z hz => ?_, h⟩
        rcases List.mem_cons.1 hz with rfl | hz
        · omega
        · have := h'.1 z hz; omega
theorem up_eq : ∀ (a b : List Int), a.Pairwise (· < ·) → b.Pairwise (· < ·) → (∀ x, x ∈ a ↔ x ∈ b) → a = b
  | [], [], _, _, _ => rfl
  | [], y :: s, _, _, h => by have := (h y).2 (by simp); cases this
  | x :: r, [], _, _, h => by have := (h x).1 (by simp); cases this
  | x :: r, y :: s, ha, hb, h => by
    have ha' := List.pairwise_cons.1 ha
    have hb' := List.pairwise_cons.1 hb
    have e : x = y := by
      rcases List.mem_cons.1 ((h x).1 (by simp)) with h1 | h1
      · exact h1
      · rcases List.mem_cons.1 ((h y).2 (by simp)) with h2 | h2
        · exact h2.symm
        · have := hb'.1 x h1; have := ha'.1 y h2; omega
    subst e
    congr 1
    refine up_eq r s ha'.2 hb'.2 fun z => ?_
    have hz := h z
    rw [List.mem_cons, List.mem_cons] at hz
    constructor
    · intro h1
      rcases hz.1 (.inr h1) with rfl | h2
      · have := ha'.1 z h1; omega
      · exact h2
    · intro h1
      rcases hz.2 (.inr h1) with rfl | h2
      · have := hb'.1 z h1; omega
      · exact h2
/-- an extent into a row that rises, with the greatest number of blocks -/
def extI : List (Int × Int) → Int × Int → List (Int × Int)
  | [], x => [x]
  | y :: r, x => if y.1 < x.1 then y :: extI r x else if y.1 = x.1 then (x.1, max x.2 y.2) :: r else x :: y :: r
theorem extI_at : ∀ (l : List (Int × Int)) (x : Int × Int) (k : Nat), k ≤ l.length → (∀ j (h : j < l.length), j < k → l[j].1 < x.1) → (∀ h : k < l.length, ¬ l[k].1 < x.1) →
    extI l x = match l[k]? with | some y => (if y.1 = x.1 then l.take k ++ (x.1, max x.2 y.2) :: l.drop (k + 1) else l.take k ++ x :: l.drop k) | none => l.take k ++ x :: l.drop k
  | [], x, k, hk, _, _ => by
    obtain rfl : k = 0 := by simpa using hk
    simp [extI]
  | y :: r, x, 0, _, _, h2 => by
    have h0 := h2 (by simp)
    simp only [List.getElem_cons_zero] at h0
    simp only [extI, List.getElem?_cons_zero, List.take_zero, List.nil_append, List.drop_zero, List.drop_succ_cons]
    rw [if_neg h0]
  | y :: r, x, k + 1, hk, h1, h2 => by
    have h0 := h1 0 (by simp) (by omega)
    simp only [List.getElem_cons_zero] at h0
    have ih := extI_at r x k (by simpa using hk) (fun j hj hjk => by have := h1 (j + 1) (by simpa using hj) (by omega); simpa using this) (fun h => by have := h2 (by simpa using h); simpa using this)
    simp only [extI, List.getElem?_cons_succ, List.take_succ_cons, List.drop_succ_cons, List.cons_append]
    rw [if_pos h0, ih]
    split
    · split <;> rfl
    · rfl
theorem extsFrom_ge : ∀ (l : List Int) (k : Nat) (x : Int × Int), x ∈ extsFrom k l → (k : Int) ≤ x.1
  | [], _, _, h => by simp [extsFrom] at h
  | b :: r, k, x, h => by
    rw [extsFrom] at h
    split at h
    · rcases List.mem_cons.1 h with rfl | h
      · exact Int.le_refl _
      · have := extsFrom_ge r (k + 1) x h; omega
    · have := extsFrom_ge r (k + 1) x h; omega
theorem extI_front {l : List (Int × Int)} {x : Int × Int} (h : ∀ y ∈ l, x.1 < y.1) : extI l x = x :: l := by
  cases l with
  | nil => rfl
  | cons y r =>
    have := h y (by simp)
    rw [extI, if_neg (by omega), if_neg (by omega)]
theorem exts_set : ∀ (l : List Int) (k n : Nat) (m : Int), n < l.length → (∀ x ∈ l, 0 ≤ x) → 1 ≤ m → extsFrom k (l.set n (max (l[n]?.getD 0) m)) = extI (extsFrom k l) (((k + n : Nat) : Int), m)
  | [], _, n, _, h, _, _ => by simp at h
  | b :: r, k, 0, m, _, hb, hm => by
    have h0 := hb b (by simp)
    have hge := extsFrom_ge r (k + 1)
    simp only [List.set_cons_zero, List.getElem?_cons_zero, Option.getD_some, Nat.add_zero, extsFrom]
    rw [if_pos (by omega)]
    by_cases hp : 0 < b
    · rw [if_pos hp, extI, if_neg (by simp), if_pos rfl, Int.max_comm]
    · rw [if_neg hp, extI_front (fun y hy => by have := hge y hy; simp only []; omega), show max b m = m by omega]
  | b :: r, k, n + 1, m, h, hb, hm => by
    have ih := exts_set r (k + 1) n m (by simpa using h) (fun x hx => hb x (by simp [hx])) hm
    simp only [List.set_cons_succ, List.getElem?_cons_succ, extsFrom]
    rw [ih, show k + 1 + n = k + (n + 1) by omega]
    by_cases hp : 0 < b
    · rw [if_pos hp, if_pos hp, extI, if_pos (by simp only []; omega)]
    · rw [if_neg hp, if_neg hp]
def manAdd (m : GMan) (x : GNote) : GMan :=
  if x.kind = 1 then { m with pages := max m.pages x.n }
  else if x.kind = 2 then { m with exts := extI m.exts (x.n, x.m) }
  else if x.kind = 3 then { m with ports := portI m.ports (x.n % 65536) }
  else { m with cons := true }
def manAll (l : List GNote) : GMan := l.foldl manAdd man0
theorem sortI_mem (l : List Int) (x : Int) : x ∈ sortI l ↔ x ∈ l := (List.mergeSort_perm l _).mem_iff
theorem once_iff (l : List Int) (x : Int) : x ∈ onceI l ↔ x ∈ l := ⟨once_mem l x, once_all l x⟩
theorem ports_snoc (l : List Int) (p : Int) : onceI (sortI (l ++ [p])) = portI (onceI (sortI l)) p := by
  refine up_eq _ _ (once_up (sortI_up _)) (portI_up _ _ (once_up (sortI_up _))) fun x => ?_
  rw [portI_mem, once_iff, once_iff, sortI_mem, sortI_mem, List.mem_append, List.mem_singleton]
theorem gatMan_add {g : Gat} {x : GNote} (h : GatOk g) (hx : noteOk x = true) (h0 : 0 ≤ x.n) : gatMan (gatNote g x) = manAdd (gatMan g) x := by
  rcases noteOk_kinds hx with ⟨e, h1, h2⟩ | ⟨e, h1, h2, h3⟩ | ⟨e, h1, h2, h3⟩ | ⟨e, h1, h2⟩
  · unfold gatNote manAdd
    rw [if_pos e, if_pos e]; rfl
  · unfold gatNote manAdd
    rw [if_neg (by omega), if_pos e, if_neg (by omega), if_pos e]
    have hs := exts_set g.blocks 0 x.n.toNat x.m (by rw [h.n]; omega) (fun y hy => (h.b y hy).1) h2
    unfold gatMan
    simp only []
    rw [hs, Nat.zero_add, Int.toNat_of_nonneg h0]
  · unfold gatNote manAdd
    rw [if_neg (by omega), if_neg (by omega), if_pos e, if_neg (by omega), if_neg (by omega), if_pos e]
    unfold gatMan
    simp only []
    rw [ports_snoc, Int.emod_eq_of_lt h0 (by omega)]
  · unfold gatNote manAdd
    rw [if_neg (by omega), if_neg (by omega), if_neg (by omega), if_neg (by omega), if_neg (by omega), if_neg (by omega)]; rfl
theorem man_fold : ∀ (l : List GNote) (g : Gat), GatOk g → l.all noteOk = true → (∀ x ∈ l, 0 ≤ x.n) → gatMan (l.foldl gatNote g) = l.foldl manAdd (gatMan g)
  | [], _, _, _, _ => rfl
  | x :: r, g, hg, ha, hn => by
    simp only [List.all_cons, Bool.and_eq_true] at ha
    rw [List.foldl_cons, List.foldl_cons, ← gatMan_add hg ha.1 (hn x (by simp))]
    exact man_fold r _ (gatNote_ok hg ha.1 (hn x (by simp))) ha.2 (fun y hy => hn y (by simp [hy]))
theorem gatMan0 : gatMan gat0 = man0 := by
  have h1 : extsFrom 0 (List.replicate 16 (0 : Int)) = [] := by decide +kernel
  have h2 : onceI (sortI []) = [] := by unfold sortI; rw [List.mergeSort_nil]; rfl
  unfold gatMan gat0 man0
  simp only []
  rw [h1, h2]
/-- the manifest of notes, note by note -/
def manOf (l : List GNote) : GMan × Int := if l.all noteOk = true then (if 16 < (manAll l).ports.length then (man0, 4) else (manAll l, 0)) else (man0, 2)
theorem manOf_eq {l : List GNote} (h0 : ∀ x ∈ l, 0 ≤ x.n) : manOf l = demandR l := by
  unfold manOf demandR
  split
  · rename_i h
    have e : gatMan (gatAll l) = manAll l := by
      unfold gatAll manAll
      rw [man_fold l gat0 gat0_ok h h0, gatMan0]
    unfold gatEnd
    rw [e]
  · rfl
theorem portI_len (l : List Int) (p : Int) : (portI l p).length ≤ l.length + 1 := by
  induction l with
  | nil => simp [portI]
  | cons y r ih =>
    rw [portI]
    split
    · simp; omega
    · split <;> simp
theorem extI_len (l : List (Int × Int)) (x : Int × Int) : (extI l x).length ≤ l.length + 1 := by
  induction l with
  | nil => simp [extI]
  | cons y r ih =>
    rw [extI]
    split
    · simp; omega
    · split <;> simp
theorem manAdd_len (m : GMan) (x : GNote) : (manAdd m x).exts.length ≤ m.exts.length + 1 ∧ (manAdd m x).ports.length ≤ m.ports.length + 1 := by
  unfold manAdd
  split
  · exact ⟨Nat.le_succ _, Nat.le_succ _⟩
  · split
    · exact ⟨extI_len _ _, Nat.le_succ _⟩
    · split
      · exact ⟨Nat.le_succ _, portI_len _ _⟩
      · exact ⟨Nat.le_succ _, Nat.le_succ _⟩
theorem manAll_len : ∀ (l : List GNote) (m : GMan), (l.foldl manAdd m).exts.length ≤ m.exts.length + l.length ∧ (l.foldl manAdd m).ports.length ≤ m.ports.length + l.length
  | [], _ => ⟨by simp, by simp⟩
  | x :: r, m => by
    have h1 := manAdd_len m x
    have h2 := manAll_len r (manAdd m x)
    simp only [List.foldl_cons, List.length_cons]
    omega
end Go.Proofs.YtdjgkmpjhpnkeaaGreatDoor
