/- Manifests of notes: what may be, and which covers which (layer 11), in plain words. No program in sight. The walk of demand.Check, at a manifest that may be. The walk of demand.Check, at a manifest that may be: the function itself. The walk of image.Check, at an image that may be. The walk of image.Check, at an image that may be: the function itself. -/
import Derived.Test.YtabnacdjcefgnaaGreatDoorBd18
import Derived.Test.YtabnacdjcefgnaaGreatDoorEqLay
import Derived.Test.YtabnacdjcefgnaaGreatDoorBd09
namespace Go.Proofs.YtabnacdjcefgnaaGreatDoor
open Go.Lib
/-- what a gatherer has, another one has -/
structure GLe (g h : Gat) : Prop where
  pg : g.pages ≤ h.pages
  bl : ∀ i : Nat, (g.blocks[i]?.getD 0) ≤ (h.blocks[i]?.getD 0)
  po : ∀ p ∈ g.ports, p ∈ h.ports
  co : g.cons = true → h.cons = true
def NoteIn (x : GNote) (h : Gat) : Prop :=
  (x.kind = 1 → x.n ≤ h.pages) ∧ (x.kind = 2 → x.m ≤ (h.blocks[x.n.toNat]?.getD 0)) ∧ (x.kind = 3 → x.n ∈ h.ports) ∧ (x.kind ≠ 1 → x.kind ≠ 2 → x.kind ≠ 3 → h.cons = true)
theorem GLe.refl (g : Gat) : GLe g g := ⟨Int.le_refl _, fun _ => Int.le_refl _, fun _ h => h, fun h => h⟩
theorem GLe.trans {a b c : Gat} (h : GLe a b) (k : GLe b c) : GLe a c := ⟨Int.le_trans h.pg k.pg, fun i => Int.le_trans (h.bl i) (k.bl i), fun p hp => k.po p (h.po p hp), fun e => k.co (h.co e)⟩
theorem NoteIn.mono {x : GNote} {g h : Gat} (hx : NoteIn x g) (k : GLe g h) : NoteIn x h :=
  ⟨fun e => Int.le_trans (hx.1 e) k.pg, fun e => Int.le_trans (hx.2.1 e) (k.bl _), fun e => k.po _ (hx.2.2.1 e), fun a b c => k.co (hx.2.2.2 a b c)⟩
theorem set_getD (l : List Int) (i j : Nat) (v : Int) : ((l.set i v)[j]?.getD 0) = if i = j ∧ j < l.length then v else (l[j]?.getD 0) := by
  rw [List.getElem?_set]
  by_cases h : i = j
  · subst h
    by_cases h2 : i < l.length
    · simp [h2]
    · simp [h2]
  · simp [h]
theorem gatNote_ge (g : Gat) (x : GNote) : GLe g (gatNote g x) := by
  unfold gatNote
  split
  · exact ⟨by simp only []; omega, fun _ => Int.le_refl _, fun _ h => h, fun h => h⟩
  · split
    · refine ⟨Int.le_refl _, fun i => ?_, fun _ h => h, fun h => h⟩
      simp only []
      rw [set_getD]
      split
      · rename_i h; rw [h.1]; omega
      · exact Int.le_refl _
    · split
      · exact ⟨Int.le_refl _, fun _ => Int.le_refl _, fun p h => List.mem_append_left _ h, fun h => h⟩
      · exact ⟨Int.le_refl _, fun _ => Int.le_refl _, fun _ h => h, fun _ => rfl⟩
theorem gatNote_in {g : Gat} {x : GNote} (hb : g.blocks.length = 16) (hx : noteOk x = true) (h0 : 0 ≤ x.n) : NoteIn x (gatNote g x) := by
  rcases noteOk_kinds hx with ⟨e, h1, h2⟩ | ⟨e, h1, h2, h3⟩ | ⟨e, h1, h2, h3⟩ | ⟨e, h1, h2⟩
  · refine ⟨fun _ => ?_, fun h => by omega, fun h => by omega, fun h => absurd e h⟩
    unfold gatNote; rw [if_pos e]; simp only []; omega
  · refine ⟨fun h => by omega, fun _ => ?_, fun h => by omega, fun _ h => absurd e h⟩
    unfold gatNote; rw [if_neg (by omega), if_pos e]; simp only []
    rw [set_getD, if_pos ⟨rfl, by omega⟩]; omega
  · refine ⟨fun h => by omega, fun h => by omega, fun _ => ?_, fun _ _ h => absurd e h⟩
    unfold gatNote; rw [if_neg (by omega), if_neg (by omega), if_pos e]; simp
  · refine ⟨fun h => by omega, fun h => by omega, fun h => by omega, fun _ _ _ => ?_⟩
    unfold gatNote; rw [if_neg (by omega), if_neg (by omega), if_neg (by omega)]
theorem gatNote_le {g h : Gat} {x : GNote} (hg : GLe g h) (hx : NoteIn x h) : GLe (gatNote g x) h := by
  unfold gatNote
  split
  · rename_i e
    exact ⟨by have := hx.1 e; have := hg.pg; simp only []; omega, hg.bl, hg.po, hg.co⟩
  · rename_i e1
    split
    · rename_i e
      refine ⟨hg.pg, fun i => ?_, hg.po, hg.co⟩
      simp only []
      rw [set_getD]
      split
      · rename_i hi
        have h1 := hg.bl i
        have h2 := hx.2.1 e
        rw [hi.1] at h2 ⊢
        omega
      · exact hg.bl i
    · rename_i e2
      split
      · rename_i e
        refine ⟨hg.pg, hg.bl, fun p hp => ?_, hg.co⟩
        rcases List.mem_append.1 hp with hp | hp
        · exact hg.po p hp
        · obtain rfl := List.mem_singleton.1 hp
          exact hx.2.2.1 e
      · rename_i e3
        exact ⟨hg.pg, hg.bl, hg.po, fun _ => hx.2.2.2 e1 e2 e3⟩
theorem foldG_ge : ∀ (l : List GNote) (g : Gat), GLe g (l.foldl gatNote g)
  | [], g => GLe.refl g
  | x :: r, g => (gatNote_ge g x).trans (foldG_ge r _)
theorem gatNote_bl (g : Gat) (x : GNote) : (gatNote g x).blocks.length = g.blocks.length := by
  unfold gatNote
  repeat' split
  all_goals simp
theorem foldG_in : ∀ (l : List GNote) (g : Gat), g.blocks.length = 16 → l.all noteOk = true → (∀ x ∈ l, 0 ≤ x.n) → ∀ x ∈ l, NoteIn x (l.foldl gatNote g)
  | [], _, _, _, _, x, hx => by cases hx
  | y :: r, g, hb, hk, h0, x, hx => by
    rw [List.all_cons, Bool.and_eq_true] at hk
    rcases List.mem_cons.1 hx with rfl | hx
    · exact (gatNote_in hb hk.1 (h0 x List.mem_cons_self)).mono (foldG_ge r _)
    · exact foldG_in r _ (by rw [gatNote_bl]; exact hb) hk.2 (fun z hz => h0 z (List.mem_cons_of_mem _ hz)) x hx
theorem foldG_le : ∀ (l : List GNote) (g h : Gat), GLe g h → (∀ x ∈ l, NoteIn x h) → GLe (l.foldl gatNote g) h
  | [], _, _, hg, _ => hg
  | x :: r, _, _, hg, hx => foldG_le r _ _ (gatNote_le hg (hx x List.mem_cons_self)) fun y hy => hx y (List.mem_cons_of_mem _ hy)
theorem gatL_sub {a b : List GNote} (hs : ∀ x ∈ a, x ∈ b) (hb : b.all noteOk = true) (h0 : ∀ x ∈ b, 0 ≤ x.n) : GLe (gatL a) (gatL b) :=
  foldG_le a gat0 _ (foldG_ge b gat0) fun x hx => foldG_in b gat0 rfl hb h0 x (hs x hx)
theorem exts_mem : ∀ (k : Nat) (l : List Int) (y : Int × Int), y ∈ extsFrom k l ↔ ∃ i, l[i]? = some y.2 ∧ y.1 = ((k + i : Nat) : Int) ∧ 0 < y.2
  | k, [], y => by simp [extsFrom]
  | k, n :: r, y => by
    have ih := exts_mem (k + 1) r y
    have hr : y ∈ extsFrom (k + 1) r ↔ ∃ i, (n :: r)[i + 1]? = some y.2 ∧ y.1 = ((k + (i + 1) : Nat) : Int) ∧ 0 < y.2 := by
      rw [ih]
      constructor
      · rintro ⟨i, h1, h2, h3⟩; exact ⟨i, by simpa using h1, by omega, h3⟩
      · rintro ⟨i, h1, h2, h3⟩; exact ⟨i, by simpa using h1, by omega, h3⟩
    rw [extsFrom]
    by_cases hn : 0 < n
    · rw [if_pos hn, List.mem_cons, hr]
      constructor
      · rintro (rfl | ⟨i, h⟩)
        · exact ⟨0, rfl, by simp, hn⟩
        · exact ⟨i + 1, h⟩
      · rintro ⟨i, h1, h2, h3⟩
        match i, h1, h2 with
        | 0, h1, h2 =>
          left
          have e : n = y.2 := by simpa using h1
          exact Prod.ext (by simpa using h2) e.symm
        | i + 1, h1, h2 => exact .inr ⟨i, h1, h2, h3⟩
    · rw [if_neg hn, hr]
      constructor
      · rintro ⟨i, h⟩; exact ⟨i + 1, h⟩
      · rintro ⟨i, h1, h2, h3⟩
        match i, h1, h2 with
        | 0, h1, h2 =>
          have e : n = y.2 := by simpa using h1
          omega
        | i + 1, h1, h2 => exact ⟨i, h1, h2, h3⟩
theorem exts_up : ∀ (k : Nat) (l : List Int), (extsFrom k l).Pairwise fun x y => x.1 < y.1
  | k, [] => List.Pairwise.nil
  | k, n :: r => by
    rw [extsFrom]
    split
    · refine List.pairwise_cons.2 ⟨fun y hy => ?_, exts_up (k + 1) r⟩
      obtain ⟨i, -, h2, -⟩ := (exts_mem _ _ _).1 hy
      simp only []
      omega
    · exact exts_up (k + 1) r
theorem once_up {l : List Int} (h : l.Pairwise (· ≤ ·)) : (onceI l).Pairwise (· < ·) := by
  unfold onceI compact compactUpTo
  rw [List.pairwise_map, List.pairwise_filter]
  have hr := List.pairwise_lt_range (n := l.length)
  rw [List.pairwise_iff_getElem] at hr ⊢
  intro i j hi hj hij _ hk
  have h1 := hr i j hi hj hij
  simp only [List.getElem_range] at h1 hk ⊢
  have hjl : j < l.length := by simpa using hj
  have e : ∀ a (ha : a < l.length), l.toArray[a]! = l[a] := fun a ha => by simp [ha]
  rw [e i (by omega), e j hjl]
  unfold keeps at hk
  rw [e j hjl, e (j - 1) (by omega)] at hk
  simp only [decide_eq_true_eq] at hk
  have hp := List.pairwise_iff_getElem.1 h
  have hne : l[j] ≠ l[j - 1] := by
    rcases hk with hk | hk
    · omega
    · exact hk
  have h2 := hp (j - 1) j (by omega) hjl (by omega)
  have h3 : l[i] ≤ l[j - 1] := by
    rcases Nat.lt_or_eq_of_le (show i ≤ j - 1 by omega) with h4 | h4
    · exact hp i (j - 1) (by omega) (by omega) h4
    · exact Int.le_of_eq (by congr 1)
  omega
theorem once_all (l : List Int) : ∀ x ∈ l, x ∈ onceI l := by
  have key : ∀ j (h : j < l.length), l[j] ∈ onceI l := by
    intro j
    induction j with
    | zero =>
      intro h
      unfold onceI compact compactUpTo
      exact List.mem_map.2 ⟨0, List.mem_filter.2 ⟨List.mem_range.2 h, keeps_lt_one _ 0 (by omega)⟩, by simp [h]⟩
    | succ j ih =>
      intro h
      by_cases he : l[j + 1] = l[j]
      · rw [he]; exact ih (by omega)
      · unfold onceI compact compactUpTo
        refine List.mem_map.2 ⟨j + 1, List.mem_filter.2 ⟨List.mem_range.2 h, keeps_pos ?_⟩, by simp [h]⟩
        have h2 : j < l.length := by omega
        simpa [h, h2] using he
  intro x hx
  obtain ⟨i, hi, rfl⟩ := List.getElem_of_mem hx
  exact key i hi
theorem sortI_up (l : List Int) : (sortI l).Pairwise (· ≤ ·) := by
  unfold sortI
  have := List.pairwise_mergeSort (le := fun x y : Int => decide (x ≤ y)) (by intro a b c; simp only [decide_eq_true_eq]; omega) (by intro a b; simp only [Bool.or_eq_true, decide_eq_true_eq]; omega) l
  simpa using this
/-- a manifest that may be -/
structure ManFit (m : GMan) : Prop where
  ok : ManOk m
  eu : ∀ k (h : k + 1 < m.exts.length), m.exts[k].1 < m.exts[k + 1].1
  pu : ∀ k (h : k + 1 < m.ports.length), m.ports[k] < m.ports[k + 1]
theorem man0_fit : ManFit man0 := ⟨man0_ok, fun k h => absurd h (by simp [man0]), fun k h => absurd h (by simp [man0])⟩
theorem gatMan_fit {g : Gat} (hg : GatOk g) (hn : ¬ 16 < (gatMan g).ports.length) : ManFit (gatMan g) := by
  have h0 := gatEnd_ok hg
  unfold gatEnd at h0
  rw [if_neg hn] at h0
  refine ⟨h0, fun k h => ?_, fun k h => ?_⟩
  · exact List.pairwise_iff_getElem.1 (exts_up 0 g.blocks) k (k + 1) (by show k < (extsFrom 0 g.blocks).length; have : k + 1 < (extsFrom 0 g.blocks).length := h; omega) h (by omega)
  · exact List.pairwise_iff_getElem.1 (once_up (sortI_up g.ports)) k (k + 1) (by show k < (onceI (sortI g.ports)).length; have : k + 1 < (onceI (sortI g.ports)).length := h; omega) h (by omega)
theorem demandR_zero {l : List GNote} (h : (demandR l).2 = 0) : l.all noteOk = true ∧ ¬ 16 < (gatMan (gatL l)).ports.length ∧ (demandR l).1 = gatMan (gatL l) := by
  unfold demandR at h ⊢
  by_cases hk : l.all noteOk = true
  · rw [if_pos hk] at h ⊢
    unfold gatEnd at h ⊢
    by_cases h16 : 16 < (gatMan (gatAll l)).ports.length
    · rw [if_pos h16] at h; simp at h
    · rw [if_neg h16]; exact ⟨hk, h16, rfl⟩
  · rw [if_neg hk] at h; simp at h
theorem demandR_fit {l : List GNote} (h0 : ∀ x ∈ l, 0 ≤ x.n) (h : (demandR l).2 = 0) : ManFit (demandR l).1 := by
  obtain ⟨h1, h2, h3⟩ := demandR_zero h
  rw [h3]
  exact gatMan_fit (gatL_ok h1 h0).1 h2
/-- the program's covers -/
def coversR (m : GMan) (x : GNote) : Bool :=
  if x.kind = 1 then decide (x.n ≤ m.pages) else if x.kind = 2 then m.exts.any (fun e => decide (e.1 = x.n) && decide (x.m ≤ e.2)) else if x.kind = 3 then m.ports.any (fun p => decide (p = x.n)) else m.cons
/-- the notes that a manifest is of -/
def notesR (m : GMan) : List GNote :=
  (if 0 < m.pages then [⟨1, m.pages, 0⟩] else []) ++ m.exts.map (fun e => ⟨2, e.1, e.2⟩) ++ m.ports.map (fun p => ⟨3, p, 0⟩) ++ (if m.cons = true then [⟨4, 0, 0⟩] else [])
theorem covers_le {g h : Gat} (hg : GatOk g) (hh : GatOk h) (hle : GLe g h) : ∀ x ∈ notesR (gatMan g), coversR (gatMan h) x = true := by
  intro x hx
  unfold notesR at hx
  simp only [List.mem_append] at hx
  rcases hx with ((hx | hx) | hx) | hx
  · split at hx
    · obtain rfl := List.mem_singleton.1 hx
      have := hle.pg
      unfold coversR
      rw [if_pos rfl]
      exact decide_eq_true this
    · cases hx
  · obtain ⟨e, he, rfl⟩ := List.mem_map.1 hx
    obtain ⟨i, h1, h2, h3⟩ := (exts_mem _ _ _).1 he
    have hil := (List.getElem?_eq_some_iff.1 h1).1
    have h16 := hg.n
    have hbl := hle.bl i
    rw [h1] at hbl
    have hih : i < h.blocks.length := by rw [hh.n]; omega
    have hget : h.blocks[i]? = some h.blocks[i] := List.getElem?_eq_getElem hih
    rw [hget] at hbl
    simp only [Option.getD_some] at hbl
    unfold coversR
    simp only []
    rw [if_neg (by decide), if_pos trivial, List.any_eq_true]
    exact ⟨(e.1, h.blocks[i]), (exts_mem _ _ _).2 ⟨i, hget, h2, by simp only []; omega⟩, by simp; omega⟩
  · obtain ⟨p, hp, rfl⟩ := List.mem_map.1 hx
    have h1 := once_mem _ p hp
    rw [sortI, List.mem_mergeSort] at h1
    have h2 : p ∈ (gatMan h).ports := once_all _ p (by rw [sortI, List.mem_mergeSort]; exact hle.po p h1)
    unfold coversR
    simp only []
    rw [if_neg (by decide), if_neg (by decide), if_pos trivial, List.any_eq_true]
    exact ⟨p, h2, by simp⟩
  · split at hx
    · rename_i hc
      obtain rfl := List.mem_singleton.1 hx
      unfold coversR
      simp only []
      rw [if_neg (by decide), if_neg (by decide), if_neg (by decide)]
      exact hle.co hc
    · cases hx
theorem demand_covers {a b : List GNote} (hs : ∀ x ∈ a, x ∈ b) (h0 : ∀ x ∈ b, 0 ≤ x.n) (ha : (demandR a).2 = 0) (hb : (demandR b).2 = 0) : ∀ x ∈ notesR (demandR a).1, coversR (demandR b).1 x = true := by
  obtain ⟨a1, -, a3⟩ := demandR_zero ha
  obtain ⟨b1, -, b3⟩ := demandR_zero hb
  rw [a3, b3]
  exact covers_le (gatL_ok a1 fun x hx => h0 x (hs x hx)).1 (gatL_ok b1 h0).1 (gatL_sub hs b1 h0)
end Go.Proofs.YtabnacdjcefgnaaGreatDoor
namespace Go.Proofs.YtabnacdjcefgnaaGreatDoor
open Go.RowKit Go.Maps Go.Shelf
def extV (x : Int × Int) : List Value := [.int .u32 x.1, .int .u32 x.2]
def extBad (x : Int × Int) : Bool := decide (16 ≤ x.1) || decide (x.2 < 1) || decide (1024 < x.2)
set_option maxHeartbeats 400000 in
theorem chk1_any (x : Int × Int) (w : World) : Calls Tryz.prog 113 #[.agg #[.int .u32 x.1, .int .u32 x.2]] w fun e w' => e = .returned (.bool (extBad x)) ∧ Below w.heap.size w w' := by
  obtain ⟨a, b⟩ := x
  simp only []
  by_cases h1 : 16 ≤ a
  · go_enter Tryz.func113, Tryz.ntmps113
    go_wp2
    go_ret
    exact ⟨ret_bool (by simp [extBad, h1]), alloc_old w _⟩
  · by_cases h2 : b < 1
    · go_enter Tryz.func113, Tryz.ntmps113
      go_wp2
      go_ret
      exact ⟨ret_bool (by simp [extBad, h2]), alloc_old w _⟩
    · by_cases h3 : 1024 < b
      · go_enter Tryz.func113, Tryz.ntmps113
        go_wp2
        go_ret
        exact ⟨ret_bool (by simp [extBad, h3]), alloc_old w _⟩
      · go_enter Tryz.func113, Tryz.ntmps113
        go_wp2
        go_ret
        exact ⟨ret_bool (by simp [extBad, h1, h2, h3]), alloc_old w _⟩
set_option maxHeartbeats 400000 in
theorem chk2_any (x y : Int × Int) (w : World) : Calls Tryz.prog 115 #[.agg #[.int .u32 x.1, .int .u32 x.2], .agg #[.int .u32 y.1, .int .u32 y.2]] w fun e w' => e = .returned (.bool (decide (x.1 < y.1))) ∧ Below w.heap.size w w' := by
  obtain ⟨a, b⟩ := x
  obtain ⟨c, d⟩ := y
  simp only []
  go_enter Tryz.func115, Tryz.ntmps115
  go_wp2
  go_ret
  exact ⟨rfl, (alloc_old w _).alloc (by simp) _⟩
set_option maxHeartbeats 400000 in
theorem chk3_any (x y : Int) (w : World) : Calls Tryz.prog 117 #[.int .u16 x, .int .u16 y] w fun e w' => e = .returned (.bool (decide (x < y))) ∧ Below w.heap.size w w' := by
  go_enter Tryz.func117, Tryz.ntmps117
  go_wp2
  go_ret
  exact ⟨rfl, Below.refl _ _⟩
set_option maxHeartbeats 1000000 in
theorem risesE_any (v : Value) (l : List (Int × Int)) (w : World) (h : RowAt 2 ExtR w v l) (hu : ∀ k (h : k + 1 < l.length), l[k].1 < l[k + 1].1) :
    Calls Tryz.prog 114 #[v, .func (.func 115) #[] #[]] w fun e w' => e = .returned (.bool true) ∧ Below w.heap.size w w' := by
  obtain ⟨p, cap, b, o, rfl, hcap, hmax, hp, hc⟩ := h
  have HC := Lib.hid hc; clear hc
  have HP := Lib.hid hp; clear hp
  have HUP := Lib.hid hu; clear hu
  go_enter Tryz.func114, Tryz.ntmps114
  go_wp2
  go_loopw [9] (fun v0 wr => ∃ k : Nat, v0 = .int .i64 k ∧ k ≤ l.length ∧ Below w.heap.size w wr) (fun v0 _ => l.length - (intOf v0).toNat)
  case atStart => exact ⟨0, by go_num, Nat.zero_le _, Below.refl _ _⟩
  case round =>
    obtain ⟨k, rfl, hk, hB⟩ := hrel
    have HB := Lib.hid hB; clear hB
    by_cases hlt0 : k + 1 < l.length
    · obtain rfl := HP.out (by omega)
      obtain ⟨k1, hke⟩ : ∃ k1, k1 = k + 1 := ⟨_, rfl⟩
      have hlt : k1 < l.length := by omega
      have hkl : k < l.length := by omega
      obtain ⟨g0, g1, g2, -⟩ := extR_keeps _ _ _ _ _ HB.out (HC.out k hkl)
      obtain ⟨f0, f1, f2, -⟩ := extR_keeps _ _ _ _ _ HB.out (HC.out k1 hlt)
      have HCL : Hid (∀ x : BW wr, Calls Tryz.prog 115 #[.agg #[.int .u32 l[k].1, .int .u32 l[k].2], .agg #[.int .u32 l[k1].1, .int .u32 l[k1].2]] x.u fun e w' => e = .returned (.bool true) ∧ ∃ y : BW wr, w' = y.u) := fun x => calls_below (by
        have := chk2_any l[k] l[k1] x.u
        have h2 : l[k].1 < l[k1].1 := by subst hke; exact HUP.out k hlt
        rw [decide_eq_true h2] at this
        exact this)
      have hk1 : (k : Int) < (l.length : Int) - 1 := by omega
      have hwr : IntKind.i64.wrap ((k : Int) + 1) = (k1 : Int) := by rw [IntWalk.i64_in _ (by omega)]; omega
      have HKE := Lib.hid hke; clear hke hlt0
      generalize l[k] = x at g1 g2 HCL
      generalize l[k1] = y at f1 f2 HCL
      obtain ⟨x1, x2⟩ := x
      obtain ⟨y1, y2⟩ := y
      simp only [] at g1 g2 f1 f2 HCL
      have c0 := bw_cell g0 g1
      have c1 := bw_cell g0 g2
      have c2 := bw_cell f0 f1
      have c3 := bw_cell f0 f2
      go_wp2
      refine wp_region_below rfl (by kernel_rfl) ?_
      repeat (first | go_big_quiet_skip | quiet_step ((go_at_call 115; exact HCL.out _)))
      refine wpQuiet_nil ?_
      rintro w4 hx4; have hB4 : Below wr.heap.size wr w4 := bw_of hx4; clear hx4
      clear c0 c1 c2 c3 hwr
      go_wp2
      go_roundw
      case rel => exact ⟨k + 1, by go_num, by omega, HB.out.trans (hB4.mono HB.out.size)⟩
      case measure => simp [intOf]; omega
    · have hk1 : ¬ (k : Int) < (l.length : Int) - 1 := by omega
      go_wp2
      go_ret
      exact ⟨rfl, HB.out⟩
set_option maxHeartbeats 1000000 in
theorem risesP_any (v : Value) (l : List Int) (w : World) (h : RowAt 1 PortR w v l) (hu : ∀ k (h : k + 1 < l.length), l[k] < l[k + 1]) :
    Calls Tryz.prog 116 #[v, .func (.func 117) #[] #[]] w fun e w' => e = .returned (.bool true) ∧ Below w.heap.size w w' := by
  obtain ⟨p, cap, b, o, rfl, hcap, hmax, hp, hc⟩ := h
  have HC := Lib.hid hc; clear hc
  have HP := Lib.hid hp; clear hp
  have HUP := Lib.hid hu; clear hu
  go_enter Tryz.func116, Tryz.ntmps116
  go_wp2
  go_loopw [9] (fun v0 wr => ∃ k : Nat, v0 = .int .i64 k ∧ k ≤ l.length ∧ Below w.heap.size w wr) (fun v0 _ => l.length - (intOf v0).toNat)
  case atStart => exact ⟨0, by go_num, Nat.zero_le _, Below.refl _ _⟩
  case round =>
    obtain ⟨k, rfl, hk, hB⟩ := hrel
    have HB := Lib.hid hB; clear hB
    by_cases hlt0 : k + 1 < l.length
    · obtain rfl := HP.out (by omega)
      obtain ⟨k1, hke⟩ : ∃ k1, k1 = k + 1 := ⟨_, rfl⟩
      have hlt : k1 < l.length := by omega
      have hkl : k < l.length := by omega
      obtain ⟨g0, g1, -⟩ := portR_keeps _ _ _ _ _ HB.out (HC.out k hkl)
      obtain ⟨f0, f1, -⟩ := portR_keeps _ _ _ _ _ HB.out (HC.out k1 hlt)
      have HCL : Hid (∀ x : BW wr, Calls Tryz.prog 117 #[.int .u16 l[k], .int .u16 l[k1]] x.u fun e w' => e = .returned (.bool true) ∧ ∃ y : BW wr, w' = y.u) := fun x => calls_below (by
        have := chk3_any l[k] l[k1] x.u
        have h2 : l[k] < l[k1] := by subst hke; exact HUP.out k hlt
        rw [decide_eq_true h2] at this
        exact this)
      have hk1 : (k : Int) < (l.length : Int) - 1 := by omega
      have hwr : IntKind.i64.wrap ((k : Int) + 1) = (k1 : Int) := by rw [IntWalk.i64_in _ (by omega)]; omega
      have HKE := Lib.hid hke; clear hke hlt0
      generalize l[k] = x at g1 HCL
      generalize l[k1] = y at f1 HCL
      rw [Nat.mul_one] at g1 f1
      have c0 := bw_cell g0 g1
      have c2 := bw_cell f0 f1
      go_wp2
      refine wp_region_below rfl (by kernel_rfl) ?_
      repeat (first | go_big_quiet_skip | quiet_step ((go_at_call 117; exact HCL.out _)))
      refine wpQuiet_nil ?_
      rintro w4 hx4; have hB4 : Below wr.heap.size wr w4 := bw_of hx4; clear hx4
      clear c0 c2 hwr
      go_wp2
      go_roundw
      case rel => exact ⟨k + 1, by go_num, by omega, HB.out.trans (hB4.mono HB.out.size)⟩
      case measure => simp [intOf]; omega
    · have hk1 : ¬ (k : Int) < (l.length : Int) - 1 := by omega
      go_wp2
      go_ret
      exact ⟨rfl, HB.out⟩
set_option maxHeartbeats 400000 in
theorem indexE_nil (a : Option Addr) (c : Nat) (fv : Value) (w : World) : Calls Tryz.prog 152 #[.slice a 0 c, fv] w fun e w' => e = .returned (.int .i64 (-1)) ∧ w' = w := by
  go_enter Tryz.func152, Tryz.ntmps152
  go_wp2
  go_loopw [8] (fun i wr => i = .int .i64 0 ∧ wr = w) (fun _ _ => 0)
  case atStart => exact ⟨rfl, rfl⟩
  case round =>
    obtain ⟨rfl, rfl⟩ := hrel
    go_wp2
    go_ret
    exact ⟨rfl, rfl⟩
set_option maxHeartbeats 400000 in
theorem containsE_nil (a : Option Addr) (c : Nat) (fv : Value) (w : World) : Calls Tryz.prog 112 #[.slice a 0 c, fv] w fun e w' => e = .returned (.bool false) ∧ w' = w := by
  have HI := Lib.hid (indexE_nil a c fv w)
  go_enter Tryz.func112, Tryz.ntmps112
  go_wp2_with (go_at_call 152; refine HI.out.mono ?_; rintro e w1 ⟨rfl, rfl⟩)
  go_ret
  exact ⟨rfl, rfl⟩
theorem containsE_any (v : Value) (l : List (Int × Int)) (w : World) (p : Int × Int → Bool) (g : FuncId) (lb : Array Value) (eg : ∀ args w, (callFunc g args).run Tryz.prog w = .ok (.enter g args) w) (h : RowAt 2 ExtR w v l)
    (hp : ∀ (W : World) (x : Int × Int), Below w.heap.size w W → Calls Tryz.prog g (#[.agg #[.int .u32 x.1, .int .u32 x.2]] ++ lb) W fun e w' => e = .returned (.bool (p x)) ∧ Below w.heap.size w w') :
    Calls Tryz.prog 112 #[v, .func (.func g) #[] lb] w fun e w' => e = .returned (.bool (l.any p)) ∧ Below w.heap.size w w' := by
  obtain ⟨pp, cap, b, o, rfl, hcap, hmax, hpp, hc⟩ := h
  by_cases h0 : l.length = 0
  · obtain rfl : l = [] := List.eq_nil_of_length_eq_zero h0
    refine (containsE_nil pp cap _ w).mono ?_
    rintro e w' ⟨rfl, rfl⟩
    exact ⟨rfl, Below.refl _ _⟩
  · obtain rfl := hpp (by omega)
    have hb := (hc 0 (by omega)).1
    have := Go.Proofs.AnyQ.slices_ContainsFunc Tryz.containsFuncExtent 2 Tryz.isAgg146 Tryz.sizeOf146 extV (fun _ => rfl) p g lb eg b o l.length cap l w hp (Nat.le_refl _) (by omega) hb (fun j hj i v hv => by
      have e : l[j]! = l[j] := by simp [hj]
      rw [e] at hv
      have hr := hc j hj
      match i, hv with
      | 0, hv => cases hv; exact hr.2.1
      | 1, hv => cases hv; exact hr.2.2.1)
    rw [List.take_length] at this
    exact this
theorem contains16_any (v : Value) (l : List Int) (x : Int) (w : World) (h : RowAt 1 PortR w v l) :
    Calls Tryz.prog 118 #[v, .int .u16 x] w fun e w' => e = .returned (.bool (l.any fun y => decide (x = y))) ∧ w' = w := by
  obtain ⟨pp, cap, b, o, rfl, hcap, hmax, hpp, hc⟩ := h
  by_cases h0 : l.length = 0
  · obtain rfl : l = [] := List.eq_nil_of_length_eq_zero h0
    exact Go.Proofs.AnyE.slices_Contains_empty Tryz.contains16 pp cap _ w
  · obtain rfl := hpp (by omega)
    have := Go.Proofs.AnyE.slices_Contains Tryz.contains16 (Value.int .u16) (fun x y => decide (x = y)) (EqlAt.intD _ _ .u16) b o l.length cap l x w (Nat.le_refl _) (by omega) (fun j hj => by
      have e : l[j]! = l[j] := by simp [hj]
      rw [e]
      have hr := (hc j hj).2.1
      simpa using hr)
    rw [List.take_length] at this
    exact this
end Go.Proofs.YtabnacdjcefgnaaGreatDoor
namespace Go.Proofs.YtabnacdjcefgnaaGreatDoor
open Go.RowKit Go.Maps Go.Shelf
theorem eg1 : ∀ args w, (callFunc 113 args).run Tryz.prog w = .ok (.enter 113 args) w := enters_of Tryz.func113 (by kernel_rfl) rfl
set_option maxHeartbeats 1000000 in
theorem manCheck_any (m : GMan) (ve vp : Value) (w : World) (h : ManAt w m ve vp) (hf : ManFit m) :
    Calls Tryz.prog 61 #[.agg #[.int .u32 m.pages, ve, vp, .bool m.cons]] w fun e w' => e = .returned (.int .i64 0) ∧ Below w.heap.size w w' := by
  obtain ⟨mp, me, mq, mc⟩ := m
  obtain ⟨⟨hpg, hex, hel, hpo, hpl⟩, heu, hpu⟩ := hf
  simp only [] at *
  obtain ⟨he, hq, hp0, hp1⟩ := h
  simp only [] at he hq
  have hbad : me.any extBad = false := List.any_eq_false.2 fun x hx => by
    have := hex x hx
    simp [extBad]; omega
  have hno0 : (mq.any fun y => decide ((0 : Int) = y)) = false := List.any_eq_false.2 fun x hx => by
    have := hpo x hx
    simp; omega
  have H1 : Hid (∀ W, Below w.heap.size w W → Calls Tryz.prog 112 #[ve, .func (.func 113) #[] #[]] W fun e w' => e = .returned (.bool false) ∧ Below W.heap.size W w') := fun W hW => by
    have := containsE_any ve me W extBad 113 #[] eg1 (he.keep extR_keeps hW) (fun W' x hb => (chk1_any x W').mono fun _ _ ⟨e, hB⟩ => ⟨e, hb.trans (hB.mono hb.size)⟩)
    rw [hbad] at this
    exact this
  have H2 : Hid (∀ W, Below w.heap.size w W → Calls Tryz.prog 114 #[ve, .func (.func 115) #[] #[]] W fun e w' => e = .returned (.bool true) ∧ Below W.heap.size W w') := fun W hW => risesE_any ve me W (he.keep extR_keeps hW) heu
  have H3 : Hid (∀ W, Below w.heap.size w W → Calls Tryz.prog 116 #[vp, .func (.func 117) #[] #[]] W fun e w' => e = .returned (.bool true) ∧ Below W.heap.size W w') := fun W hW => risesP_any vp mq W (hq.keep portR_keeps hW) hpu
  have H4 : Hid (∀ W, Below w.heap.size w W → Calls Tryz.prog 118 #[vp, .int .u16 0] W fun e w' => e = .returned (.bool false) ∧ w' = W) := fun W hW => by
    have := contains16_any vp mq 0 W (hq.keep portR_keeps hW)
    rw [hno0] at this
    exact this
  obtain ⟨p1, c1, b1, o1, rfl, -⟩ := he
  obtain ⟨p2, c2, b2, o2, rfl, -⟩ := hq
  clear heu hpu hex hpo hbad hno0
  generalize hW0 : (w.alloc (.cells #[.int .u32 mp, .slice p1 me.length c1, .slice p2 mq.length c2, .bool mc] 31)) = w1
  have HB1 : Hid (Below w.heap.size w w1) := by subst hW0; exact alloc_old w _
  have hz : w.heap.size < w1.heap.size := by subst hW0; simp
  have HN : Hid (w1.heap[w.heap.size]? = some (.cells #[.int .u32 mp, .slice p1 me.length c1, .slice p2 mq.length c2, .bool mc] 31 (0, 0))) := by subst hW0; exact new_block w _
  have a0 := Lib.cell_of_heap HN.out 0
  have a1 := Lib.cell_of_heap HN.out 1
  have a2 := Lib.cell_of_heap HN.out 2
  go_enter Tryz.func61, Tryz.ntmps61
  go_wp2_with fail
  try rw [hW0]
  clear hW0
  go_wp2_with fail
  refine (H1.out _ HB1.out).mono ?_
  rintro e w2 ⟨rfl, hB2⟩
  have HB2 : Hid (Below w1.heap.size w1 w2) := hB2
  have b1 := cell_keep hB2 hz a1
  have b2 := cell_keep hB2 hz a2
  have b0 := cell_keep hB2 hz a0
  clear a0 a1 a2 hB2
  go_wp2_with fail
  refine (H2.out _ (HB1.out.trans (HB2.out.mono (by omega)))).mono ?_
  rintro e w3 ⟨rfl, hB3⟩
  have HB3 : Hid (Below w1.heap.size w1 w3) := HB2.out.trans (hB3.mono HB2.out.size)
  have d2 := cell_keep hB3 (by have := HB2.out.size; omega) b2
  have d0 := cell_keep hB3 (by have := HB2.out.size; omega) b0
  clear b0 b1 b2 hB3
  go_wp2_with fail
  refine (H3.out _ (HB1.out.trans (HB3.out.mono (by omega)))).mono ?_
  rintro e w4 ⟨rfl, hB4⟩
  have HB4 : Hid (Below w1.heap.size w1 w4) := HB3.out.trans (hB4.mono HB3.out.size)
  have f2 := cell_keep hB4 (by have := HB3.out.size; omega) d2
  have f0 := cell_keep hB4 (by have := HB3.out.size; omega) d0
  clear d0 d2 hB4
  go_wp2_with fail
  refine (H4.out _ (HB1.out.trans (HB4.out.mono (by omega)))).mono ?_
  rintro e w5 ⟨rfl, rfl⟩
  go_wp2
  go_ret
  exact ⟨rfl, HB1.out.trans (HB4.out.mono (by omega))⟩
end Go.Proofs.YtabnacdjcefgnaaGreatDoor
namespace Go.Proofs.YtabnacdjcefgnaaGreatDoor
open Go.RowKit Go.Maps Go.Shelf
/-- a segment's end, and where the next one may begin -/
def segEnd (s : GSeg) : Int := s.addr + s.bytes.size
def freeAt (l : List GSeg) : Nat → Int
  | 0 => 256
  | k + 1 => match l[k]? with | some s => (segEnd s + 255) / 256 * 256 | none => 256
def begB (e : Int) (s : GSeg) : Bool := decide (s.perm = 5) && decide (s.addr ≤ e) && decide (e + 8 ≤ segEnd s)
structure ImgFit (x : GLink) : Prop where
  man : ManFit x.man
  n1 : 1 ≤ x.segs.length
  n2 : x.segs.length ≤ 8
  e8 : x.entry % 8 = 0
  sg : ∀ k (h : k < x.segs.length), (x.segs[k].perm = 1 ∨ x.segs[k].perm = 3 ∨ x.segs[k].perm = 5) ∧ x.segs[k].addr % 256 = 0 ∧ freeAt x.segs k ≤ x.segs[k].addr ∧ 1 ≤ x.segs[k].bytes.size ∧ segEnd x.segs[k] ≤ 131072
  bg : x.segs.any (begB x.entry) = true
theorem contains8_any (b o n c : Nat) (l : List Int) (x : Int) (w : World) (h : ∀ j, j < l.length → w.cell? ⟨b, o + j, none⟩ = some (.int .u8 l[j]!)) (hn : n = l.length) (hl : l.length ≤ 100) :
    Calls Tryz.prog 119 #[.slice (some ⟨b, o, none⟩) n c, .int .u8 x] w fun e w' => e = .returned (.bool (l.any fun y => decide (x = y))) ∧ w' = w := by
  subst hn
  have := Go.Proofs.AnyE.slices_Contains Tryz.contains8 (Value.int .u8) (fun x y => decide (x = y)) (EqlAt.intD _ _ .u8) b o l.length c l x w (Nat.le_refl _) (by omega) h
  rw [List.take_length] at this
  exact this
set_option maxHeartbeats 400000 in
theorem perms_any (p : Int) (w : World) : Calls Tryz.prog 62 #[.int .u8 p] w fun e w' => e = .returned (.bool (decide (p = 1) || (decide (p = 3) || decide (p = 5)))) ∧ Below w.heap.size w w' := by
  have HC := Lib.hid (contains8_any w.heap.size 0 3 3 [1, 3, 5] p (w.alloc (.cells #[.int .u8 1, .int .u8 3, .int .u8 5] 5)) (fun j hj => by
    match j, hj with
    | 0, _ => simp [go_sem]
    | 1, _ => simp [go_sem]
    | 2, _ => simp [go_sem]) rfl (by simp))
  go_enter Tryz.func62, Tryz.ntmps62
  go_wp2_with fail
  refine HC.out.mono ?_
  rintro e w2 ⟨rfl, rfl⟩
  go_wp2
  go_ret
  exact ⟨ret_bool (by simp), alloc_old w _⟩
set_option maxHeartbeats 400000 in
theorem iend_any (a p : Int) (s : ByteArray) (w : World) (h0 : 0 ≤ a) (h1 : a ≤ 4294967295) (hs : s.size ≤ 140737488355328) : Calls Tryz.prog 63 #[.agg #[.int .u32 a, .int .u8 p, .string s]] w fun e w' => e = .returned (.int .u64 (a + s.size)) ∧ Below w.heap.size w w' := by
  have w1 : IntKind.u64.wrap a = a := IntWalk.u64_in _ (by omega)
  have w2 : IntKind.u64.wrap (s.size : Int) = (s.size : Int) := IntWalk.u64_in _ (by omega)
  have w3 : IntKind.u64.wrap (a + s.size) = a + s.size := IntWalk.u64_in _ (by omega)
  go_enter Tryz.func63, Tryz.ntmps63
  go_wp2
  go_ret
  exact ⟨rfl, alloc_old w _⟩
end Go.Proofs.YtabnacdjcefgnaaGreatDoor
namespace Go.Proofs.YtabnacdjcefgnaaGreatDoor
open Go.RowKit Go.Maps Go.Shelf
theorem freeAt_succ {l : List GSeg} {k : Nat} (h : k < l.length) : freeAt l (k + 1) = (segEnd l[k] + 255) / 256 * 256 := by
  show (match l[k]? with | some s => (segEnd s + 255) / 256 * 256 | none => 256) = _
  rw [List.getElem?_eq_getElem h]
theorem any_take_snoc {α : Type} {l : List α} {p : α → Bool} {k : Nat} {x : α} (h : k < l.length) (hx : l[k] = x) : (l.take (k + 1)).any p = ((l.take k).any p || p x) := by
  rw [List.take_succ_eq_append_getElem h, hx]; simp
set_option maxHeartbeats 4000000 in
set_option maxRecDepth 100000 in
theorem imgCheck_any (x : GLink) (ve vp vs va : Value) (w : World) (h : LinkAt w x ve vp vs va) (hf : ImgFit x) :
    Calls Tryz.prog 24 #[.agg #[.int .u32 x.man.pages, ve, vp, .bool x.man.cons, .int .u32 x.entry, vs]] w fun e w' => e = .returned (.int .i64 0) ∧ Below w.heap.size w w' := by
  have H1 : Hid (∀ W, Below w.heap.size w W → Calls Tryz.prog 61 #[.agg #[.int .u32 x.man.pages, ve, vp, .bool x.man.cons]] W fun e w' => e = .returned (.int .i64 0) ∧ Below W.heap.size W w') := fun W hW => manCheck_any x.man ve vp W (h.1.keep hW) hf.man
  obtain ⟨⟨⟨p1, c1, _, _, rfl, -⟩, ⟨p2, c2, _, _, rfl, -⟩, -⟩, ⟨p3, c3, b3, o3, rfl, -, -, hp3, hc3⟩, -, hen0, hen1⟩ := h
  obtain ⟨⟨mp, me, mq, mc⟩, en, sg, wa⟩ := x
  obtain ⟨-, hn1, hn2, he8, hsg, hbg⟩ := hf
  simp only [] at *
  have HC := Lib.hid hc3; clear hc3
  have HP := Lib.hid hp3; clear hp3
  have HSG := Lib.hid hsg; clear hsg
  have HBG := Lib.hid hbg; clear hbg
  have hr8 : en.tmod 8 = 0 := by rw [Int.tmod_eq_emod_of_nonneg hen0]; exact he8
  generalize hW : (w.alloc (.cells #[.int .u32 mp, .slice p1 me.length c1, .slice p2 mq.length c2, .bool mc, .int .u32 en, .slice p3 sg.length c3] 34)) = w1
  have HB1 : Hid (Below w.heap.size w w1) := by subst hW; exact alloc_old w _
  have HM : Hid (w1.heap[w.heap.size]? = some (.cells #[.int .u32 mp, .slice p1 me.length c1, .slice p2 mq.length c2, .bool mc, .int .u32 en, .slice p3 sg.length c3] 34 (0, 0))) := by subst hW; exact new_block w _
  have hz1 : w1.heap.size = w.heap.size + 1 := by subst hW; simp
  have a0 := Lib.cell_of_heap HM.out 0
  have a1 := Lib.cell_of_heap HM.out 1
  have a2 := Lib.cell_of_heap HM.out 2
  have a3 := Lib.cell_of_heap HM.out 3
  subst hW
  go_enter Tryz.func24, Tryz.ntmps24
  go_wp2_with fail
  refine (H1.out _ HB1.out).mono ?_
  rintro e w2 ⟨rfl, hB2⟩
  have HM2 := Lib.hid ((hB2.block _ (by omega)).trans HM.out)
  have HB2 : Hid (Below w.heap.size w w2) := HB1.out.trans (hB2.mono HB1.out.size)
  have hz2 : w.heap.size < w2.heap.size := by have := hB2.size; omega
  clear a0 a1 a2 a3 hB2 hz1 HB1 HM
  have a4 := Lib.cell_of_heap HM2.out 4
  have a5 := Lib.cell_of_heap HM2.out 5
  have hl1 : ¬ ((sg.length : Int) < 1) := by omega
  have hl2 : ¬ ((8 : Int) < (sg.length : Int)) := by omega
  go_wp2_with fail
  go_loopw [3, 4, 32] (fun v3 v4 v32 wr => ∃ k : Nat, v32 = .int .i64 k ∧ k ≤ sg.length ∧ v3 = .int .u64 (freeAt sg k) ∧ v4 = .bool ((sg.take k).any (begB en)) ∧ Below w2.heap.size w2 wr) (fun _ _ v32 _ => sg.length - (intOf v32).toNat)
  case atStart => exact ⟨0, by go_num, Nat.zero_le _, rfl, rfl, Below.refl _ _⟩
  case round =>
    obtain ⟨k, rfl, hk, rfl, rfl, hB⟩ := hrel
    have HB := Lib.hid hB
    have HBO : Hid (Below w.heap.size w wr) := HB2.out.trans (hB.mono (by omega))
    have HMR := Lib.hid ((hB.block _ hz2).trans HM2.out)
    have hzr : w.heap.size < wr.heap.size := by have := hB.size; omega
    clear hB a4 a5
    by_cases hlt : k < sg.length
    · obtain rfl := HP.out (by omega)
      obtain ⟨g0, g1, g2, g3, g4, g5, g6⟩ := segR_keeps _ _ _ _ _ HBO.out (HC.out k hlt)
      obtain ⟨s1, s2, s3, s4, s5⟩ := HSG.out k hlt
      have HFR := Lib.hid (freeAt_succ hlt)
      generalize hxk : sg[k] = x at g1 g2 g3 g4 g5 g6 s1 s2 s3 s4 s5 HFR
      have HX := Lib.hid hxk; clear hxk
      have HAN := Lib.hid (any_take_snoc (p := begB en) hlt HX.out)
      obtain ⟨xa, xp, xb⟩ := x
      simp only [segEnd] at g1 g2 g3 g4 g5 g6 s1 s2 s3 s4 s5 HFR
      generalize hfr : freeAt sg k = fr at s3
      generalize hbe : (sg.take k).any (begB en) = be at HAN
      have HPM := Lib.hid (perms_any xp (wr.alloc (.cells #[.int .u32 xa, .int .u8 xp, .string xb] 81)))
      have hpt : (decide (xp = 1) || (decide (xp = 3) || decide (xp = 5))) = true := by rcases s1 with rfl | rfl | rfl <;> rfl
      rw [hpt] at HPM
      clear hpt
      go_wp2_with fail
      refine HPM.out.mono ?_
      rintro e w4 ⟨rfl, hB4⟩
      have q0 := cell_keep hB4 (by simp) (show (wr.alloc (.cells #[.int .u32 xa, .int .u8 xp, .string xb] 81)).cell? ⟨wr.heap.size, 0, none⟩ = some (.int .u32 xa) by simp [go_sem])
      have q1 := cell_keep hB4 (by simp) (show (wr.alloc (.cells #[.int .u32 xa, .int .u8 xp, .string xb] 81)).cell? ⟨wr.heap.size, 1, none⟩ = some (.int .u8 xp) by simp [go_sem])
      have q2 := cell_keep hB4 (by simp) (show (wr.alloc (.cells #[.int .u32 xa, .int .u8 xp, .string xb] 81)).cell? ⟨wr.heap.size, 2, none⟩ = some (.string xb) by simp [go_sem])
      have HB4 : Hid (Below wr.heap.size wr w4) := (alloc_old wr _).trans (hB4.mono (by simp))
      have hz4 : wr.heap.size < w4.heap.size := by have := hB4.size; simp at this; omega
      clear HPM hB4 g1 g2 g3
      have r1 : xa.tmod 256 = 0 := by rw [Int.tmod_eq_emod_of_nonneg g4.1]; exact s2
      have r2 : IntKind.u64.wrap xa = xa := IntWalk.u64_in _ (by omega)
      have r3 : ¬ xa < fr := by omega
      have r4 : xb.toList.isEmpty = false := by
        cases hxb : xb.toList with
        | nil => exact absurd hxb (toList_not_nil s4)
        | cons a b => rfl
      have HEN := Lib.hid (iend_any xa xp xb w4 g4.1 g4.2 g6)
      generalize hE : xa + (xb.size : Int) = E at s5 HFR HEN
      have r5 : ¬ 131072 < E := by omega
      go_wp2_with fail
      refine HEN.out.mono ?_
      rintro e w5 ⟨rfl, hB5⟩
      have HEN2 := Lib.hid (iend_any xa xp xb w5 g4.1 g4.2 g6)
      rw [hE] at HEN2
      replace q0 := cell_keep hB5 hz4 q0
      replace q1 := cell_keep hB5 hz4 q1
      replace q2 := cell_keep hB5 hz4 q2
      have HB5 : Hid (Below wr.heap.size wr w5) := HB4.out.trans (hB5.mono (by omega))
      have hz5 : wr.heap.size < w5.heap.size := by have := hB5.size; omega
      clear HEN hB5 HB4 hz4
      go_wp2_with fail
      refine HEN2.out.mono ?_
      rintro e w6 ⟨rfl, hB6⟩
      replace q0 := cell_keep hB6 hz5 q0
      replace q1 := cell_keep hB6 hz5 q1
      replace q2 := cell_keep hB6 hz5 q2
      have HB6 : Hid (Below wr.heap.size wr w6) := HB5.out.trans (hB6.mono (by omega))
      have hz6 : wr.heap.size < w6.heap.size := by have := hB6.size; omega
      have a4 := cell_keep HB6.out hzr (Lib.cell_of_heap HMR.out 4)
      clear HEN2 hB6 HB5 hz5 r1 r3 r4
      have hE0 : 0 ≤ E := by omega
      have u1 : IntKind.u64.wrap (E + 256) = E + 256 := IntWalk.u64_in _ (by omega)
      have u2 : IntKind.u64.wrap (E + 256 - 1) = E + 255 := by rw [IntWalk.u64_in _ (by omega)]; omega
      have u3 : (E + 255).tdiv 256 = (E + 255) / 256 := Int.tdiv_eq_ediv_of_nonneg (by omega)
      have u4 : IntKind.u64.wrap ((E + 255) / 256) = (E + 255) / 256 := IntWalk.u64_in _ (by omega)
      have u5 : IntKind.u64.wrap ((E + 255) / 256 * 256) = (E + 255) / 256 * 256 := IntWalk.u64_in _ (by omega)
      have hcs : be = true ∨ (be = false ∧ (xp = 1 ∨ xp = 3)) ∨ (be = false ∧ xp = 5 ∧ Hid (decide (xa ≤ en) = false)) ∨ (be = false ∧ xp = 5 ∧ Hid (decide (xa ≤ en) = true) ∧ Hid (decide (en + 8 ≤ E) = false)) ∨ (be = false ∧ xp = 5 ∧ Hid (decide (xa ≤ en) = true) ∧ Hid (decide (en + 8 ≤ E) = true)) := by
        cases be with
        | true => exact .inl rfl
        | false =>
          rcases s1 with h | h | h
          · exact .inr (.inl ⟨rfl, .inl h⟩)
          · exact .inr (.inl ⟨rfl, .inr h⟩)
          · by_cases h1 : xa ≤ en
            · by_cases h2 : en + 8 ≤ E
              · exact .inr (.inr (.inr (.inr ⟨rfl, h, decide_eq_true h1, decide_eq_true h2⟩)))
              · exact .inr (.inr (.inr (.inl ⟨rfl, h, decide_eq_true h1, decide_eq_false h2⟩)))
            · exact .inr (.inr (.inl ⟨rfl, h, decide_eq_false h1⟩))
      have HG4 := Lib.hid (And.intro g4.1 (And.intro g4.2 g6))
      have v1 : IntKind.u64.wrap en = en := IntWalk.u64_in _ (by omega)
      have v2 : IntKind.u64.wrap (en + 8) = en + 8 := IntWalk.u64_in _ (by omega)
      have HE := Lib.hid hE; clear hE s1
      have b0 := bw_cell hz6 q0
      have b1 := bw_cell hz6 q1
      have b2 := bw_cell hz6 q2
      have b4 := bw_cell (show w.heap.size < w6.heap.size by omega) a4
      have HCL : Hid (∀ z : BW w6, Calls Tryz.prog 63 #[.agg #[.int .u32 xa, .int .u8 xp, .string xb]] z.u fun e w' => e = .returned (.int .u64 E) ∧ ∃ y : BW w6, w' = y.u) := fun z => calls_below (by
        have := iend_any xa xp xb z.u HG4.out.1 HG4.out.2.1 HG4.out.2.2
        rw [HE.out] at this
        exact this)
      clear g4 g5 g6 s2 s3 s4 s5 q0 q1 q2 a4
      have k1 : bits BinOp.and IntKind.u8 1 4 = 0 := by decide +kernel
      have k3 : bits BinOp.and IntKind.u8 3 4 = 0 := by decide +kernel
      have k5 : bits BinOp.and IntKind.u8 5 4 = 4 := by decide +kernel
      rcases hcs with rfl | ⟨rfl, rfl | rfl⟩ | ⟨rfl, rfl, y1⟩ | ⟨rfl, rfl, y1, y2⟩ | ⟨rfl, rfl, y1, y2⟩
      all_goals
        go_wp2_with fail
        try (have z1 := y1.out)
        try (have z2 := y2.out)
        refine wp_region_below rfl (by kernel_rfl) ?_
        repeat (first | go_big_quiet_skip | quiet_step ((go_at_call 63; exact HCL.out _)))
        refine wpQuiet_nil ?_
        rintro w7 hx7; have hB7 : Below w6.heap.size w6 w7 := bw_of hx7; clear hx7
        clear b0 b1 b2 b4 HCL k1 k3 k5
        go_wp2
        go_roundw
        case rel =>
          refine ⟨k + 1, by go_num, by omega, ?_, ?_, HB.out.trans ((HB6.out.trans (hB7.mono HB6.out.size)).mono HB.out.size)⟩
          · rw [HFR.out]
          · rw [HAN.out]
            try (have z1 := y1.out)
            try (have z2 := y2.out)
            simp [begB, segEnd, HE.out, *]
        case measure => simp [intOf]; omega
    · obtain rfl : k = sg.length := by omega
      have hbe := HBG.out
      rw [List.take_length, hbe]
      go_wp2
      go_ret
      exact ⟨rfl, HBO.out⟩
end Go.Proofs.YtabnacdjcefgnaaGreatDoor
