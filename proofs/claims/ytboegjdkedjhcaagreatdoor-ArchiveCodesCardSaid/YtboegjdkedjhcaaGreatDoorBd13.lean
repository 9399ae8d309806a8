/- Which symbols are needed, in plain Lean. No program in sight. What is left where only some symbols stay, in plain Lean. No program in sight. What is kept where only the kept symbols stay, in plain Lean. No program in sight. The kept symbols, where nothing else is left, in plain Lean. No program in sight. The kept symbols in the order of the objects, in plain Lean. No program in sight. slices.Sort at []string: where it stands in this program, and its contract. slices.Sort and slices.Compact at a row of texts of one's own: what comes out is each text once. A region that draws its order: the operations that only read are taken first, the others come up one by one; what the reads rest on is kept till all of them must be done. No program in sight. -/
import Derived.Test.YtboegjdkedjhcaaGreatDoorBd02
import Derived.Sort.EveryDepth
import Derived.Shelf.SortM.AssemblysIn
import Derived.Shelf.SortM.SortNone
import Derived.Test.YtboegjdkedjhcaaGreatDoorProg
import Derived.Test.YtboegjdkedjhcaaGreatDoorBd12
import Derived.Test.YtboegjdkedjhcaaGreatDoorEqLay
import Derived.Lib.Hide
import Derived.Deep.Quiet
import Derived.Deep.QuietTactic
import Derived.StillTail
import Derived.OrdersHeld
import Derived.WalkKit
import Derived.Deep.RegionHeld3
namespace Go.Proofs.YtboegjdkedjhcaaGreatDoor
abbrev PP := Nat × Nat
def plt (a b : PP) : Prop := a.1 < b.1 ∨ (a.1 = b.1 ∧ a.2 < b.2)
/-- p refers to q -/
def knowsP (l : List GObj) (p q : PP) : Prop := ∃ x ∈ relsAt l p.1 p.2, findR l p.1 x.name.data.toList = some q
inductive Reach (l : List GObj) (p : PP) : PP → Prop
  | refl : Reach l p p
  | step {x y : PP} : Reach l p x → knowsP l x y → Reach l p y
/-- what is kept: in order, just what is reached -/
def KeptOf (l : List GObj) (p : PP) (K : List PP) : Prop := K.Pairwise plt ∧ ∀ x, x ∈ K ↔ Reach l p x
/-- a search under way: what was found, with what it was found from; closed ahead of n -/
structure Goes (l : List GObj) (p : PP) (L : List PP) (F : PP → Option PP) (n : Nat) : Prop where
  head : L[0]? = some p
  nd : L.Nodup
  dom : ∀ x, (F x).isSome = true ↔ x ∈ L
  par : ∀ i (h : i < L.length), (i = 0 ∧ F L[i] = some p) ∨ ∃ j, ∃ hj : j < i, F L[i] = some L[j] ∧ knowsP l L[j] L[i]
  closed : ∀ i (h : i < L.length), i < n → ∀ q, knowsP l L[i] q → q ∈ L
def updF (F : PP → Option PP) (q y : PP) : PP → Option PP := fun x => if x = q then some y else F x
theorem Goes.start (l : List GObj) (p : PP) : Goes l p [p] (updF (fun _ => none) p p) 0 where
  head := rfl
  nd := List.nodup_cons.2 ⟨by simp, List.nodup_nil⟩
  dom x := by unfold updF; by_cases h : x = p <;> simp [h]
  par i h := by
    obtain rfl : i = 0 := by simp at h; omega
    exact .inl ⟨rfl, by simp [updF]⟩
  closed i h hn := by omega
theorem Goes.put {l : List GObj} {p q : PP} {L : List PP} {F : PP → Option PP} {n i : Nat} (g : Goes l p L F n) (hn0 : n ≤ L.length) (hi : i < L.length) (hk : knowsP l L[i] q) (hq : F q = none) : Goes l p (L ++ [q]) (updF F q L[i]) n where
  head := by
    have h := g.head
    have h0 : 0 < L.length := by omega
    rw [List.getElem?_append_left h0]; exact h
  nd := by
    rw [List.nodup_append]
    refine ⟨g.nd, List.nodup_cons.2 ⟨by simp, List.nodup_nil⟩, fun a ha b hb => ?_⟩
    simp only [List.mem_singleton] at hb
    subst hb
    rintro rfl
    have := (g.dom a).2 ha
    rw [hq] at this; cases this
  dom x := by
    unfold updF
    by_cases h : x = q
    · subst h; simp
    · have := g.dom x
      simp [h, this]
  par k h := by
    have hqn : q ∉ L := fun hm => by have := (g.dom q).2 hm; rw [hq] at this; cases this
    by_cases hkl : k < L.length
    · have hne : L[k] ≠ q := fun e => hqn (e ▸ List.getElem_mem hkl)
      have e1 : (L ++ [q])[k] = L[k] := List.getElem_append_left hkl
      rw [e1]
      rcases g.par k hkl with ⟨h1, h2⟩ | ⟨j, hj, h1, h2⟩
      · exact .inl ⟨h1, by simp only [updF, if_neg hne]; exact h2⟩
      · refine .inr ⟨j, hj, ?_⟩
        have e2 : (L ++ [q])[j] = L[j] := List.getElem_append_left (by omega)
        rw [e2]
        exact ⟨by simp only [updF, if_neg hne]; exact h1, h2⟩
    · have e0 : k = L.length := by simp at h; omega
      subst e0
      have e1 : (L ++ [q])[L.length] = q := by simp
      rw [e1]
      refine .inr ⟨i, hi, ?_⟩
      have e2 : (L ++ [q])[i] = L[i] := List.getElem_append_left hi
      rw [e2]
      exact ⟨by simp [updF], hk⟩
  closed k h hn y hy := by
    by_cases hkl : k < L.length
    · rw [List.getElem_append_left hkl] at hy
      exact List.mem_append.2 (.inl (g.closed k hkl hn y hy))
    · simp at h; omega
theorem Goes.reach {l : List GObj} {p : PP} {L : List PP} {F : PP → Option PP} {n : Nat} (g : Goes l p L F n) : ∀ i (h : i < L.length), Reach l p L[i] := by
  intro i
  induction i using Nat.strongRecOn with
  | ind i ih =>
    intro h
    rcases g.par i h with ⟨h1, h2⟩ | ⟨j, hj, h1, h2⟩
    · subst h1
      have := g.head
      rw [List.getElem?_eq_getElem h] at this
      rw [Option.some.inj this]; exact .refl
    · exact .step (ih j hj (by omega)) h2
theorem Goes.done {l : List GObj} {p : PP} {L : List PP} {F : PP → Option PP} {n : Nat} (g : Goes l p L F n) (hn : L.length ≤ n) (x : PP) : x ∈ L ↔ Reach l p x := by
  constructor
  · intro h
    obtain ⟨i, hi, rfl⟩ := List.mem_iff_getElem.1 h
    exact g.reach i hi
  · intro h
    induction h with
    | refl =>
      have := g.head
      exact List.mem_of_getElem? this
    | step _ k ih =>
      obtain ⟨i, hi, rfl⟩ := List.mem_iff_getElem.1 ih
      exact g.closed i hi (by omega) _ k
/-- a symbol that is found is one, and is local or wins -/
theorem firstBy_hit {fl : List Spot} {n : List UInt8} {b : Int} {q : PP} (h : firstBy fl n b = some q) : ∃ x ∈ fl, hits n b x = true ∧ q = (x.obj, x.sym) := by
  unfold firstBy at h
  obtain ⟨x, hx, rfl⟩ := Option.map_eq_some_iff.1 h
  exact ⟨x, List.mem_of_find?_eq_some hx, List.find?_some hx, rfl⟩
theorem hits_name {n : List UInt8} {b : Int} {x : Spot} (h : hits n b x = true) : x.it.name.data.toList = n ∧ x.it.bind = b := by
  simp only [hits, Bool.and_eq_true, beq_iff_eq, decide_eq_true_eq] at h; exact h
theorem findR_spot {l : List GObj} {i : Int} {n : List UInt8} {q : PP} (h : findR l i n = some q) : ∃ x ∈ flat l, q = (x.obj, x.sym) ∧ x.it.name.data.toList = n ∧ ((x.it.bind = 0 ∧ 0 ≤ i ∧ x.obj = i.toNat) ∨ winnerIn (flat l) n = some q) := by
  unfold findR at h
  by_cases hi : 0 ≤ i
  · rw [if_pos hi] at h
    cases hl : localAt l i.toNat n with
    | some p =>
      rw [hl] at h
      obtain rfl := Option.some.inj h
      unfold localAt at hl
      cases ho : l[i.toNat]? with
      | none => rw [ho] at hl; cases hl
      | some o =>
        rw [ho] at hl
        obtain ⟨k, hk, rfl⟩ := Option.map_eq_some_iff.1 hl
        obtain ⟨hkl, h1, -⟩ := List.findIdx?_eq_some_iff_getElem.1 hk
        simp only [isLocal, Bool.and_eq_true, beq_iff_eq, decide_eq_true_eq] at h1
        exact ⟨⟨i.toNat, k, o.syms[k]⟩, mem_flat ho (List.getElem?_eq_getElem hkl), rfl, h1.1, .inl ⟨h1.2, hi, rfl⟩⟩
    | none =>
      rw [hl] at h
      have hw := h
      unfold winnerIn at h
      cases h1 : firstBy (flat l) n 1 with
      | some p =>
        simp only [h1] at h
        obtain ⟨x, hx, hh, e⟩ := firstBy_hit (h1.trans h)
        exact ⟨x, hx, e, (hits_name hh).1, .inr hw⟩
      | none =>
        simp only [h1] at h
        obtain ⟨x, hx, hh, e⟩ := firstBy_hit h
        exact ⟨x, hx, e, (hits_name hh).1, .inr hw⟩
  · rw [if_neg hi] at h
    have hw := h
    simp only [] at h hw
    unfold winnerIn at h
    cases h1 : firstBy (flat l) n 1 with
    | some p =>
      simp only [h1] at h
      obtain ⟨x, hx, hh, e⟩ := firstBy_hit (h1.trans h)
      exact ⟨x, hx, e, (hits_name hh).1, .inr hw⟩
    | none =>
      simp only [h1] at h
      obtain ⟨x, hx, hh, e⟩ := firstBy_hit h
      exact ⟨x, hx, e, (hits_name hh).1, .inr hw⟩
end Go.Proofs.YtboegjdkedjhcaaGreatDoor
namespace Go.Proofs.YtboegjdkedjhcaaGreatDoor
end Go.Proofs.YtboegjdkedjhcaaGreatDoor
namespace Go.Proofs.YtboegjdkedjhcaaGreatDoor
end Go.Proofs.YtboegjdkedjhcaaGreatDoor
namespace Go.Proofs.YtboegjdkedjhcaaGreatDoor
theorem plt_irrefl (a : PP) : ¬ plt a a := by unfold plt; omega
theorem plt_asymm {a b : PP} (h : plt a b) : ¬ plt b a := by unfold plt at *; omega
theorem pw_eq : ∀ (K K' : List PP), K.Pairwise plt → K'.Pairwise plt → (∀ x, x ∈ K ↔ x ∈ K') → K = K'
  | [], [], _, _, _ => rfl
  | [], b :: K', _, _, h => by have := (h b).2 List.mem_cons_self; cases this
  | a :: K, [], _, _, h => by have := (h a).1 List.mem_cons_self; cases this
  | a :: K, b :: K', h1, h2, h => by
    obtain ⟨a1, a2⟩ := List.pairwise_cons.1 h1
    obtain ⟨b1, b2⟩ := List.pairwise_cons.1 h2
    have hab : a = b := by
      rcases List.mem_cons.1 ((h a).1 List.mem_cons_self) with e | e
      · exact e
      · rcases List.mem_cons.1 ((h b).2 List.mem_cons_self) with e' | e'
        · exact e'.symm
        · exact absurd (a1 b e') (plt_asymm (b1 a e))
    subst hab
    rw [pw_eq K K' a2 b2 fun x => ⟨fun hx => ?_, fun hx => ?_⟩]
    · rcases List.mem_cons.1 ((h x).1 (List.mem_cons_of_mem _ hx)) with e | e
      · exact absurd (e ▸ a1 x hx) (plt_irrefl _)
      · exact e
    · rcases List.mem_cons.1 ((h x).2 (List.mem_cons_of_mem _ hx)) with e | e
      · exact absurd (e ▸ b1 x hx) (plt_irrefl _)
      · exact e
theorem KeptOf.eq {l : List GObj} {p : PP} {K K' : List PP} (h : KeptOf l p K) (h' : KeptOf l p K') : K = K' := pw_eq K K' h.1 h'.1 fun x => (h.2 x).trans (h'.2 x).symm
def validP (l : List GObj) (p : PP) : Prop := ∃ o s, l[p.1]? = some o ∧ o.syms[p.2]? = some s
theorem findR_valid {l : List GObj} {i : Int} {n : List UInt8} {q : PP} (h : findR l i n = some q) : validP l q := by
  obtain ⟨x, hx, rfl, -⟩ := findR_spot h
  obtain ⟨o, h1, h2⟩ := flat_mem hx
  exact ⟨o, _, h1, h2⟩
theorem Reach.valid {l : List GObj} {p x : PP} (hp : validP l p) (h : Reach l p x) : validP l x := by
  cases h with
  | refl => exact hp
  | step _ k => obtain ⟨_, _, hf⟩ := k; exact findR_valid hf
end Go.Proofs.YtboegjdkedjhcaaGreatDoor
namespace Go.Proofs.YtboegjdkedjhcaaGreatDoor
end Go.Proofs.YtboegjdkedjhcaaGreatDoor
namespace Go.Proofs.YtboegjdkedjhcaaGreatDoor
open Go.Shelf Go.Sort Go.RowKit
def sort_str_ren : Go.Shelf.Ren := ⟨fun | 6 => 101 | 8 => 105 | 9 => 132 | 19 => 141 | 20 => 142 | 21 => 178 | 22 => 179 | 23 => 180 | 24 => 181 | 25 => 182 | 26 => 183 | 27 => 184 | 28 => 185 | 29 => 186 | 31 => 188 | 32 => 189 | 36 => 221 | 37 => 222 | 38 => 223 | 39 => 106 | 41 => 235 | n => n, fun | 0 => 0 | 3 => 3 | 4 => 4 | 5 => 5 | 9 => 9 | 26 => 44 | 27 => 44 | 29 => 9 | 32 => 182 | 35 => 229 | 36 => 230 | 41 => 234 | 44 => 51 | 46 => 214 | 53 => 289 | 57 => 293 | 63 => 328 | 64 => 329 | n => n, fun | n => n⟩
theorem sort_str_lays : SlLaysM.n6 Tryz.prog sort_str_ren := {
  mixed := by kernel_rfl
  f6 := ⟨Tryz.f101.name, by decide, Tryz.func101.trans (congrArg some (by kernel_rfl))⟩
  f8 := Tryz.func105.trans (congrArg some (by kernel_rfl))
  f9 := ⟨Tryz.f132.name, by decide, Tryz.func132.trans (congrArg some (by kernel_rfl))⟩
  f19 := Tryz.func141.trans (congrArg some (by kernel_rfl))
  f20 := Tryz.func142.trans (congrArg some (by kernel_rfl))
  f21 := ⟨Tryz.f178.name, by decide, Tryz.func178.trans (congrArg some (by kernel_rfl))⟩
  f22 := ⟨Tryz.f179.name, by decide, Tryz.func179.trans (congrArg some (by kernel_rfl))⟩
  f23 := ⟨Tryz.f180.name, by decide, Tryz.func180.trans (congrArg some (by kernel_rfl))⟩
  f24 := ⟨Tryz.f181.name, by decide, Tryz.func181.trans (congrArg some (by kernel_rfl))⟩
  f25 := ⟨Tryz.f182.name, by decide, Tryz.func182.trans (congrArg some (by kernel_rfl))⟩
  f26 := ⟨Tryz.f183.name, by decide, Tryz.func183.trans (congrArg some (by kernel_rfl))⟩
  f27 := ⟨Tryz.f184.name, by decide, Tryz.func184.trans (congrArg some (by kernel_rfl))⟩
  f28 := ⟨Tryz.f185.name, by decide, Tryz.func185.trans (congrArg some (by kernel_rfl))⟩
  f29 := ⟨Tryz.f186.name, by decide, Tryz.func186.trans (congrArg some (by kernel_rfl))⟩
  f31 := Tryz.func188.trans (congrArg some (by kernel_rfl))
  f32 := Tryz.func189.trans (congrArg some (by kernel_rfl))
  f36 := ⟨Tryz.f221.name, by decide, Tryz.func221.trans (congrArg some (by kernel_rfl))⟩
  f37 := ⟨Tryz.f222.name, by decide, Tryz.func222.trans (congrArg some (by kernel_rfl))⟩
  f38 := ⟨Tryz.f223.name, by decide, Tryz.func223.trans (congrArg some (by kernel_rfl))⟩
  f39 := ⟨Tryz.f106.name, by decide, Tryz.func106.trans (congrArg some (by kernel_rfl))⟩
  f41 := ⟨Tryz.f235.name, by decide, Tryz.func235.trans (congrArg some (by kernel_rfl))⟩
  t0 := Tryz.underlying0
  a0 := Tryz.isAgg0
  z0 := Tryz.sizeOf0
  v0 := Tryz.zeroValue0
  t3 := Tryz.underlying3
  a3 := Tryz.isAgg3
  z3 := Tryz.sizeOf3
  v3 := Tryz.zeroValue3
  t4 := Tryz.underlying4
  a4 := Tryz.isAgg4
  z4 := Tryz.sizeOf4
  v4 := Tryz.zeroValue4
  t5 := Tryz.underlying5
  a5 := Tryz.isAgg5
  z5 := Tryz.sizeOf5
  v5 := Tryz.zeroValue5
  t9 := Tryz.underlying9
  a9 := Tryz.isAgg9
  z9 := Tryz.sizeOf9
  v9 := Tryz.zeroValue9
  t26 := Tryz.underlying44
  a26 := Tryz.isAgg44
  z26 := Tryz.sizeOf44
  v26 := Tryz.zeroValue44
  t27 := Tryz.underlying44
  a27 := Tryz.isAgg44
  z27 := Tryz.sizeOf44
  v27 := Tryz.zeroValue44
  t29 := Tryz.underlying9
  a29 := Tryz.isAgg9
  z29 := Tryz.sizeOf9
  v29 := Tryz.zeroValue9
  t32 := Tryz.underlying182
  a32 := Tryz.isAgg182
  z32 := Tryz.sizeOf182
  v32 := Tryz.zeroValue182
  t35 := Tryz.underlying229
  a35 := Tryz.isAgg229
  z35 := Tryz.sizeOf229
  v35 := Tryz.zeroValue229
  t36 := Tryz.underlying230
  a36 := Tryz.isAgg230
  z36 := Tryz.sizeOf230
  v36 := Tryz.zeroValue230
  t41 := Tryz.underlying234
  a41 := Tryz.isAgg234
  z41 := Tryz.sizeOf234
  v41 := Tryz.zeroValue234
  t44 := Tryz.underlying51
  a44 := Tryz.isAgg51
  z44 := Tryz.sizeOf51
  v44 := Tryz.zeroValue51
  t46 := Tryz.underlying214
  a46 := Tryz.isAgg214
  z46 := Tryz.sizeOf214
  v46 := Tryz.zeroValue214
  t53 := Tryz.underlying289
  a53 := Tryz.isAgg289
  z53 := Tryz.sizeOf289
  v53 := Tryz.zeroValue289
  t57 := Tryz.underlying293
  a57 := Tryz.isAgg293
  z57 := Tryz.sizeOf293
  v57 := Tryz.zeroValue293
  t63 := Tryz.underlying328
  a63 := Tryz.isAgg328
  z63 := Tryz.sizeOf328
  v63 := Tryz.zeroValue328
  t64 := Tryz.underlying329
  a64 := Tryz.isAgg329
  z64 := Tryz.sizeOf329
  v64 := Tryz.zeroValue329
}
theorem sort_str_any (blk off cap : Nat) (ss : List (List UInt8)) (w : World) (hH : Holds encStr w blk off ss.toArray) (hblk : blk < w.heap.size) (hsz : ss.length < 4611686018427387904) :
    Calls Tryz.prog 101 #[.slice (some ⟨blk, off, none⟩) ss.length cap] w fun e w' =>
      e = .returned (.tuple #[]) ∧ ∃ n os, w' = grow (putRow encStr (Sort.ahead w n) blk off (ss.mergeSort fun x y => decide (x ≤ y)).toArray) os :=
  calls_of_every_depth fun D => AnySM.slices_Sort_string_in sort_str_lays D blk off cap ss w hH hblk hsz
theorem sort_str_none (p : Option Addr) (cap : Nat) (w : World) : Calls Tryz.prog 101 #[.slice p 0 cap] w fun e w' => e = .returned (.tuple #[]) ∧ w' = w :=
  calls_of_every_depth fun D => AnySM.slices_Sort_string_none_in sort_str_lays D p cap w
end Go.Proofs.YtboegjdkedjhcaaGreatDoor
namespace Go.Proofs.YtboegjdkedjhcaaGreatDoor
open Go.RowKit Go.Sort Go.Lib Go.Shelf
def sortT (l : List (List UInt8)) : List (List UInt8) := l.mergeSort fun x y => decide (x ≤ y)
def onceT (l : List (List UInt8)) : List (List UInt8) := Lib.compact l
theorem sortT_length (l : List (List UInt8)) : (sortT l).length = l.length := by simp [sortT]
theorem eqlT (P : Program) (T : TypeId) : EqlAt P T encStr (fun x y => decide (x = y)) :=
  ⟨fun x y w => by rw [show encStr x = Value.string ⟨x.toArray⟩ from rfl, show encStr y = Value.string ⟨y.toArray⟩ from rfl, (EqlAt.string P T).1]; simp only [ByteArray.toList_eq]; by_cases h : x = y <;> simp [h],
   fun op a b x y => (EqlAt.string P T).2 op a b ⟨x.toArray⟩ ⟨y.toArray⟩⟩
theorem neqT (P : Program) (T : TypeId) : NeqAt P T encStr (fun x y => decide (x = y)) :=
  ⟨fun x y w => by rw [show encStr x = Value.string ⟨x.toArray⟩ from rfl, show encStr y = Value.string ⟨y.toArray⟩ from rfl, (NeqAt.string P T).1]; simp only [ByteArray.toList_eq]; by_cases h : x = y <;> simp [h],
   fun op a b x y => (NeqAt.string P T).2 op a b ⟨x.toArray⟩ ⟨y.toArray⟩⟩
theorem sortStr_row (base : Nat) (v : Value) (l : List (List UInt8)) (w : World) (h : ERow encStr 9 base w v l) (hl : l.length ≤ 1000000000) :
    Calls Tryz.prog 101 #[v] w fun e w' => e = .returned (.tuple #[]) ∧ ERow encStr 9 base w' v (sortT l) ∧ KB (fun k => v.ownBlock = some k) w w' := by
  by_cases h0 : l.length = 0
  · obtain ⟨p, c, rfl⟩ := own_shape h
    obtain rfl : l = [] := List.eq_nil_of_length_eq_zero h0
    refine (sort_str_none p c w).mono ?_
    rintro e w' ⟨rfl, rfl⟩
    exact ⟨rfl, by simpa [sortT] using h, KB.refl _ _⟩
  · obtain ⟨g, cap, rfl, hbg, hgl⟩ := World.ownsRow.form h (by omega)
    refine (sort_str_any g 0 cap l w h.holds hgl (by omega)).mono ?_
    rintro e w' ⟨rfl, n, os, rfl⟩
    have hp := ERow.put (n := n) (os := os) h (sortT_length l) (l' := sortT l) (by rw [List.take_length])
    rw [sortT_length] at hp
    exact ⟨rfl, hp, putRowE_kb⟩
theorem compactUpToT_le (d : Array (List UInt8)) : (compactUpTo d d.size).length ≤ d.size := by
  unfold compactUpTo
  rw [List.length_map]
  exact Nat.le_trans (List.length_filter_le _ _) (by simp)
set_option maxRecDepth 100000 in
theorem compactStr_row (base : Nat) (v : Value) (l : List (List UInt8)) (w : World) (h : ERow encStr 9 base w v l) (hl : l.length ≤ 1000000000) :
    Calls Tryz.prog 102 #[v] w fun e w' => ∃ v', e = .returned v' ∧ ERow encStr 9 base w' v' (onceT l) ∧ v'.ownBlock = v.ownBlock ∧ KB (fun k => v.ownBlock = some k) w w' := by
  by_cases h0 : l.length = 0
  · obtain ⟨p, c, rfl⟩ := own_shape h
    obtain rfl : l = [] := List.eq_nil_of_length_eq_zero h0
    have HH := Lib.hid h; clear h
    go_enter Tryz.func102, Tryz.ntmps102
    go_wp2
    go_ret
    exact ⟨_, rfl, HH.out, rfl, KB.refl _ _⟩
  · obtain ⟨g, cap, rfl, hbg, hgl⟩ := World.ownsRow.form h (by omega)
    have hsz : l.toArray.size = l.length := by simp
    have hcap : l.length ≤ cap := by
      rcases h.2 with ⟨h3, -⟩ | ⟨g', cap', cur, h3, -, -, h5, -⟩
      · cases h3
      · cases h3; exact h5
    have hcon := Go.Proofs.AnyE.slices_Compact Tryz.compactStr encStr (fun _ => rfl) (eqlT _ _) (neqT _ _) [] Tryz.zeroValue9 g 0 cap l.toArray w h.holds (by rw [hsz]; omega) (by rw [hsz]; exact hcap)
    change Calls Tryz.prog 102 _ _ _ at hcon
    have hle := compactUpToT_le l.toArray
    have he : compactUpTo l.toArray l.toArray.size = onceT l := by rw [hsz]; rfl
    rw [he, hsz] at hcon
    rw [he, hsz] at hle
    refine hcon.mono ?_
    rintro e w' ⟨rfl, n, rfl⟩
    have hp := ERow.put (n := n) (os := #[]) (D := onceT l ++ List.replicate (l.length - (onceT l).length) []) (l' := onceT l) h (by simp; omega) (by rw [List.take_append_of_le_length (Nat.le_refl _), List.take_length])
    have hk := putRowE_kb (enc := encStr) (w := w) (g := g) (n := n) (D := (onceT l ++ List.replicate (l.length - (onceT l).length) []).toArray) (os := #[]) (cap := cap) (m := l.length)
    rw [grow_empty] at hp hk
    exact ⟨_, rfl, hp, rfl, hk⟩
end Go.Proofs.YtboegjdkedjhcaaGreatDoor
namespace Go.Proofs.YtboegjdkedjhcaaGreatDoor
open Go.RowKit
structure HW (S : World → Prop) where
  u : World
  h : S u
section
variable {P : Program} {ops : Array Oper} {Q : Exit → Act → World → Prop} {md : Region.Mode} {S : World → Prop} {t : Nat}
/-- whichever comes up: S holds behind it as long as number t has not come up -/
def wpAnyT (P : Program) (md : Region.Mode) (ops : Array Oper) (Q : Exit → Act → World → Prop) (S : World → Prop) (t : Nat) : Nat → Array Bool → Act → World → Prop
  | 0, listed, a, w => Region.ready md ops listed = [] ∧ Q .normal a w
  | fuel + 1, listed, a, w =>
    (Region.ready md ops listed = [] → Q .normal a w) ∧
    ∀ i ∈ Region.ready md ops listed, wpOp P ops Q i (fun a' w' => ((listed.setIfInBounds i true).getD t true = false → S w') ∧ wpAnyT P md ops Q S t fuel (listed.setIfInBounds i true) a' w') a w
theorem wpAny_of_T : ∀ (fuel : Nat) (listed : Array Bool) (a : Act) (w : World), wpAnyT P md ops Q S t fuel listed a w → wpAny P md ops Q fuel listed a w
  | 0, _, _, _, h => h
  | fuel + 1, _, _, _, h => ⟨h.1, fun i hi => wpOp_mono (fun a' w' h' => wpAny_of_T fuel _ a' w' h'.2) (h.2 i hi)⟩
theorem wpAnyT_first {i : Nat} {oi : Oper} {v : Value} (hi : ops[i]? = some oi) (hsel : ∀ (j : Nat) (o : Oper) cs b, ops[j]? = some o → o.op ≠ .select cs b)
    (hQ : ∀ c a w, Q (.panic c) (a.put oi.dst v) w → Q (.panic c) a w) (hwt : Region.waitsFor md ops t i = true) (hti : t ≠ i) :
    ∀ (fuel : Nat) (listed : Array Bool) (a : Act) (w : World),
      (∀ j oj, ops[j]? = some oj → j ≠ i → listed.getD j true = false → (∀ e ∈ oj.after, Region.binds md e = true → e.on ≠ i) → oi.apart ops oj = true) →
      i ∈ Region.ready md ops listed → listed.getD t true = false → YieldsIf P ops S oi v a → S w →
      wpAnyT P md ops Q S t fuel (listed.setIfInBounds i true) (a.put oi.dst v) w → wpAnyT P md ops Q S t (fuel + 1) listed a w := by
  intro fuel
  induction fuel with
  | zero =>
    intro listed a w _ hr _ hy hS H
    refine ⟨fun h => (by rw [h] at hr; cases hr), fun j hj => ?_⟩
    by_cases hji : j = i
    · subst hji; exact hy.wpOp hi hS ⟨fun _ => hS, H⟩
    · have := ready_mono hj hji
      rw [H.1] at this
      cases this
  | succ fuel ih =>
    intro listed a w hfree hr ht hy hS H
    refine ⟨fun h => (by rw [h] at hr; cases hr), fun j hj => ?_⟩
    by_cases hji : j = i
    · subst hji; exact hy.wpOp hi hS ⟨fun _ => hS, H⟩
    · have h1 := H.2 j (ready_mono hj hji)
      obtain ⟨hjun, oj, hoj, hall⟩ := mem_ready.1 hj
      have hnot : ∀ e ∈ oj.after, Region.binds md e = true → e.on ≠ i := fun e he hb heq => by
        have h1 := hall e he hb
        have h0 := (mem_ready.1 hr).1
        rw [heq, getD_both h0] at h1
        cases h1
      have hjt : j ≠ t := fun e => by
        obtain ⟨ot, hot, e2, he2, hb2, hon⟩ := Region.waitsFor_spec hwt
        have : ot = oj := Option.some.inj (hot.symm.trans (e ▸ hoj))
        exact hnot e2 (this ▸ he2) hb2 hon
      have h2 := wpOp_putIf hoj (hfree j oj hoj hji hjun hnot) (fun cs b => hsel i oi cs b hi) (fun cs b => hsel j oj cs b hoj) hQ hy h1
      have hfree' : ∀ k ok, ops[k]? = some ok → k ≠ i → (listed.setIfInBounds j true).getD k true = false →
          (∀ e ∈ ok.after, Region.binds md e = true → e.on ≠ i) → oi.apart ops ok = true := fun k ok hk hki hun hno => by
        refine hfree k ok hk hki ?_ hno
        by_cases hjk : j = k
        · subst hjk; exact hjun
        · rw [getD_set_ne true hjk] at hun; exact hun
      have ht' : (listed.setIfInBounds j true).getD t true = false := by rw [getD_set_ne true hjt]; exact ht
      refine wpOp_mono (fun a' w' h3 => ?_) h2
      have hS' : S w' := h3.2.1 (by rw [getD_set_ne true hjt, getD_set_ne true (Ne.symm hti)]; exact ht)
      refine ⟨fun _ => hS', ih (listed.setIfInBounds j true) a' w' hfree' (ready_mono hr (Ne.symm hji)) ht' h3.1 hS' ?_⟩
      rw [Array.setIfInBounds_comm _ _ hji]
      exact h3.2.2
/-- the reads, one by one -/
def wpReads (P : Program) (ops : Array Oper) (S : World → Prop) (Q : Act → Prop) : List Oper → Act → Prop
  | [], a => Q a
  | o :: rest, a => if Region.wanted o (yielded ops a.tmps) then ∃ v, (∀ x : HW S, (execOp a.eval o).run P x.u = .ok (.value v) x.u) ∧ wpReads P ops S Q rest (a.put o.dst v) else wpReads P ops S Q rest (a.put o.dst undef)
theorem wpReads_nil {Q : Act → Prop} {a : Act} (h : Q a) : wpReads P ops S Q [] a := h
theorem wpReads_step {Q : Act → Prop} {a : Act} {o : Oper} {rest : List Oper}
    (h : ∀ K : Act → Prop, (∀ a, wpReads P ops S Q rest a → K a) → if Region.wanted o (yielded ops a.tmps) then ∃ v, (∀ x : HW S, (execOp a.eval o).run P x.u = .ok (.value v) x.u) ∧ K (a.put o.dst v) else K (a.put o.dst undef)) : wpReads P ops S Q (o :: rest) a :=
  h _ (fun _ h => h)
/-- the others: behind those ahead of number t S is shown anew -/
def wpTurns (P : Program) (ops : Array Oper) (Q : Exit → Act → World → Prop) (S : World → Prop) (post : List Oper) : List Oper → Act → World → Prop
  | [], a, w => wpList P ops Q post a w
  | o :: rest, a, w => if Region.wanted o (yielded ops a.tmps) then o.wp P a w (fun a' w' => S w' ∧ wpTurns P ops Q S post rest a' w') Q else S w ∧ wpTurns P ops Q S post rest (a.put o.dst undef) w
theorem wpTurns_nil {post : List Oper} {a : Act} {w : World} (h : wpList P ops Q post a w) : wpTurns P ops Q S post [] a w := h
theorem wpTurns_step {post : List Oper} {a : Act} {w : World} {o : Oper} {rest : List Oper}
    (h : ∀ K : Act → World → Prop, (∀ a w, S w → wpTurns P ops Q S post rest a w → K a w) → if Region.wanted o (yielded ops a.tmps) = true then Oper.wp P o a w K Q else K (a.put o.dst undef) w) : wpTurns P ops Q S post (o :: rest) a w := by
  have := h (fun a w => S w ∧ wpTurns P ops Q S post rest a w) (fun _ _ h1 h2 => ⟨h1, h2⟩)
  exact this
def getAll (ops : Array Oper) (l : List Nat) : List Oper := l.filterMap fun i => ops[i]?
def Region.seqL (md : Region.Mode) (ops : Array Oper) : List Nat → Array Bool → Bool
  | [], listed => (Region.ready md ops listed).isEmpty
  | k :: r, listed => decide (Region.ready md ops listed = [k]) && Region.seqL md ops r (listed.setIfInBounds k true)
/-- the others' order, number t being the first of the last ones -/
def Region.preL (md : Region.Mode) (ops : Array Oper) (t : Nat) (post : List Nat) : List Nat → Array Bool → Bool
  | [], listed => Region.seqL md ops (t :: post) listed
  | k :: r, listed => decide (Region.ready md ops listed = [k]) && decide (k ≠ t) && Region.preL md ops t post r (listed.setIfInBounds k true)
def Region.headL (md : Region.Mode) (ops : Array Oper) (t : Nat) (pre post : List Nat) : List Nat → Array Bool → Bool
  | [], listed => Region.preL md ops t post pre listed
  | k :: r, listed => (Region.ready md ops listed).contains k && Region.free md ops listed k && Region.waitsFor md ops t k && decide (t ≠ k) && Region.headL md ops t pre post r (listed.setIfInBounds k true)
def Region.leadB (md : Region.Mode) (ops : Array Oper) (hs pre : List Nat) (t : Nat) (post : List Nat) : Bool :=
  Region.noSelect ops && decide (t < ops.size) && decide (hs.length + pre.length + (post.length + 1) = ops.size) && Region.headL md ops t pre post hs (Array.replicate ops.size false)
theorem ready_at {k : Nat} {listed : Array Bool} (h : Region.ready md ops listed = [k]) : ∃ o, ops[k]? = some o := by
  have : k ∈ Region.ready md ops listed := by rw [h]; simp
  obtain ⟨-, o, ho, -⟩ := mem_ready.1 this
  exact ⟨o, ho⟩
theorem getD_stays {listed : Array Bool} {i t : Nat} (h : listed.getD t true = true) : (listed.setIfInBounds i true).getD t true = true := by
  by_cases hit : i = t
  · subst hit
    rcases Nat.lt_or_ge i listed.size with h' | h'
    · simp [h']
    · simp
  · rw [getD_set_ne true hit]; exact h
theorem wpAnyT_seq : ∀ (l : List Nat) (listed : Array Bool) (a : Act) (w : World), listed.getD t true = true →
    Region.seqL md ops l listed = true → wpList P ops Q (getAll ops l) a w → wpAnyT P md ops Q S t l.length listed a w
  | [], _, _, _, _, hB, h => ⟨by simpa [Region.seqL] using hB, h⟩
  | k :: l, listed, a, w, ht, hB, h => by
    simp only [Region.seqL, Bool.and_eq_true, decide_eq_true_eq] at hB
    obtain ⟨o, ho⟩ := ready_at hB.1
    have e : getAll ops (k :: l) = o :: getAll ops l := by simp [getAll, ho]
    rw [e] at h
    refine ⟨fun h1 => (by rw [hB.1] at h1; cases h1), fun i hi => ?_⟩
    rw [hB.1] at hi
    obtain rfl : i = k := by simpa using hi
    have hw : wpOp P ops Q i (wpList P ops Q (getAll ops l)) a w := by unfold wpOp; simp only [ho]; exact h
    have ht' := getD_stays (i := i) ht
    exact wpOp_mono (fun a' w' h' => ⟨fun h0 => (by rw [ht'] at h0; cases h0), wpAnyT_seq l _ a' w' ht' hB.2 h'⟩) hw
theorem getD_now {listed : Array Bool} {t : Nat} : (listed.setIfInBounds t true).getD t true = true := by
  rcases Nat.lt_or_ge t listed.size with h' | h'
  · simp [h']
  · simp
theorem wpAnyT_pre {post : List Nat} : ∀ (l : List Nat) (listed : Array Bool) (a : Act) (w : World),
    Region.preL md ops t post l listed = true → wpTurns P ops Q S (getAll ops (t :: post)) (getAll ops l) a w → wpAnyT P md ops Q S t (l.length + (post.length + 1)) listed a w
  | [], listed, a, w, hB, h => by
    simp only [Region.preL, Region.seqL, Bool.and_eq_true, decide_eq_true_eq] at hB
    obtain ⟨o, ho⟩ := ready_at hB.1
    have e : getAll ops (t :: post) = o :: getAll ops post := by simp [getAll, ho]
    have h' : wpList P ops Q (o :: getAll ops post) a w := by rw [← e]; exact h
    rw [show ([] : List Nat).length + (post.length + 1) = post.length + 1 by simp]
    refine ⟨fun h1 => (by rw [hB.1] at h1; cases h1), fun i hi => ?_⟩
    rw [hB.1] at hi
    obtain rfl : i = t := by simpa using hi
    have hw : wpOp P ops Q i (wpList P ops Q (getAll ops post)) a w := by unfold wpOp; simp only [ho]; exact h'
    have ht' : (listed.setIfInBounds i true).getD i true = true := getD_now
    exact wpOp_mono (fun a' w' h' => ⟨fun h0 => (by rw [ht'] at h0; cases h0), wpAnyT_seq post _ a' w' ht' hB.2 h'⟩) hw
  | k :: l, listed, a, w, hB, h => by
    simp only [Region.preL, Bool.and_eq_true, decide_eq_true_eq] at hB
    obtain ⟨⟨hr, hkt⟩, hB'⟩ := hB
    obtain ⟨o, ho⟩ := ready_at hr
    have e : getAll ops (k :: l) = o :: getAll ops l := by simp [getAll, ho]
    rw [e] at h
    rw [show (k :: l).length + (post.length + 1) = l.length + (post.length + 1) + 1 by simp; omega]
    refine ⟨fun h1 => (by rw [hr] at h1; cases h1), fun i hi => ?_⟩
    rw [hr] at hi
    obtain rfl : i = k := by simpa using hi
    have hw : wpOp P ops Q i (fun a' w' => S w' ∧ wpTurns P ops Q S (getAll ops (t :: post)) (getAll ops l) a' w') a w := by
      unfold wpOp; simp only [ho]
      unfold wpTurns at h
      split at h
      · rename_i hwn; simp only [hwn, if_true]; exact .inl h
      · rename_i hwn; simp only [hwn]; exact h
    exact wpOp_mono (fun a' w' h' => ⟨fun _ => h'.1, wpAnyT_pre l _ a' w' hB' h'.2⟩) hw
theorem wpAnyT_head {pre post : List Nat} (hsel : Region.noSelect ops = true) (hQ : ∀ c a d v w, Q (.panic c) (Act.put a d v) w → Q (.panic c) a w) (w : World) (hS : S w) : ∀ (l : List Nat) (listed : Array Bool) (a : Act), listed.getD t true = false →
    Region.headL md ops t pre post l listed = true → wpReads P ops S (fun a' => wpTurns P ops Q S (getAll ops (t :: post)) (getAll ops pre) a' w) (getAll ops l) a → wpAnyT P md ops Q S t (l.length + (pre.length + (post.length + 1))) listed a w
  | [], listed, a, _, hB, h => by
    rw [show ([] : List Nat).length + (pre.length + (post.length + 1)) = pre.length + (post.length + 1) by simp]
    exact wpAnyT_pre pre listed a w hB h
  | k :: l, listed, a, ht, hB, h => by
    simp only [Region.headL, Bool.and_eq_true, decide_eq_true_eq] at hB
    obtain ⟨⟨⟨⟨hr, hf⟩, hwt⟩, htk⟩, hB'⟩ := hB
    have hr' : k ∈ Region.ready md ops listed := by simpa using hr
    obtain ⟨-, o, ho, -⟩ := mem_ready.1 hr'
    have e : getAll ops (k :: l) = o :: getAll ops l := by simp [getAll, ho]
    rw [e] at h
    rw [show (k :: l).length + (pre.length + (post.length + 1)) = l.length + (pre.length + (post.length + 1)) + 1 by simp; omega]
    have ht' : (listed.setIfInBounds k true).getD t true = false := by rw [getD_set_ne true (Ne.symm htk)]; exact ht
    unfold wpReads at h
    split at h
    · rename_i hwn
      obtain ⟨v, hv, hn⟩ := h
      exact wpAnyT_first ho (Region.noSelect_spec hsel) (fun c a w => hQ c a _ _ w) hwt htk _ listed a w (Region.free_spec ho hf) hr' ht (.inl ⟨hwn, fun w hw => hv ⟨w, hw⟩⟩) hS
        (wpAnyT_head hsel hQ w hS l _ _ ht' hB' hn)
    · rename_i hwn
      exact wpAnyT_first ho (Region.noSelect_spec hsel) (fun c a w => hQ c a _ _ w) hwt htk _ listed a w (Region.free_spec ho hf) hr' ht (.inr ⟨by simpa using hwn, rfl⟩) hS
        (wpAnyT_head hsel hQ w hS l _ _ ht' hB' h)
theorem wp_region_lead {id : Nat} {a : Act} {w : World} {l : List Oper} (S : World → Prop) (hs pre : List Nat) (t : Nat) (post : List Nat) (hm : P.follows .mixedOrders = true) (hB : Region.leadB .any l.toArray hs pre t post = true)
    (hQ : ∀ c a d v w, Q (.panic c) (Act.put a d v) w → Q (.panic c) a w) (hS : S w.drew)
    (h : wpReads P l.toArray S (fun a' => wpTurns P l.toArray Q S (getAll l.toArray (t :: post)) (getAll l.toArray pre) a' w.drew) (getAll l.toArray hs) a) : (Code.region id l.toArray true).wp P Q a w := by
  simp only [Region.leadB, Bool.and_eq_true, decide_eq_true_eq] at hB
  obtain ⟨⟨⟨hsel, ht⟩, hlen⟩, hB'⟩ := hB
  refine wp_region_any hm (wpAny_of_T (S := S) (t := t) _ _ _ _ ?_)
  have := wpAnyT_head hsel hQ w.drew hS hs _ a (getD_in (by simpa using ht) (getD_replicate_false _ _)) hB' h
  rw [← Nat.add_assoc, hlen] at this
  exact this
/-- what becomes of an operation: a read; one that comes up in turn; one behind number t -/
inductive Ph
  | r
  | u
  | p
def pickR : List Ph → List Oper → List Oper
  | .r :: m, o :: l => o :: pickR m l
  | .u :: m, _ :: l => pickR m l
  | .p :: m, _ :: l => pickR m l
  | _, _ => []
def pickU : List Ph → List Oper → List Oper
  | .r :: m, _ :: l => pickU m l
  | .u :: m, o :: l => o :: pickU m l
  | .p :: m, _ :: l => pickU m l
  | _, _ => []
def pickP : List Ph → List Oper → List Oper
  | .r :: m, _ :: l => pickP m l
  | .u :: m, _ :: l => pickP m l
  | .p :: m, o :: l => o :: pickP m l
  | _, _ => []
def idxR : List Ph → Nat → List Nat
  | .r :: m, i => i :: idxR m (i + 1)
  | .u :: m, i => idxR m (i + 1)
  | .p :: m, i => idxR m (i + 1)
  | [], _ => []
def idxU : List Ph → Nat → List Nat
  | .r :: m, i => idxU m (i + 1)
  | .u :: m, i => i :: idxU m (i + 1)
  | .p :: m, i => idxU m (i + 1)
  | [], _ => []
def idxP : List Ph → Nat → List Nat
  | .r :: m, i => idxP m (i + 1)
  | .u :: m, i => idxP m (i + 1)
  | .p :: m, i => i :: idxP m (i + 1)
  | [], _ => []
theorem at_tail {ops : Array Oper} {o : Oper} {l : List Oper} {i : Nat} (h : ∀ j, (o :: l)[j]? = ops[i + j]?) : ∀ j, l[j]? = ops[i + 1 + j]? := fun j => by
  have := h (j + 1)
  rw [show i + (j + 1) = i + 1 + j by omega] at this
  simpa using this
theorem getAll_R : ∀ (m : List Ph) (l : List Oper) (i : Nat), (∀ j, l[j]? = ops[i + j]?) → m.length = l.length → getAll ops (idxR m i) = pickR m l
  | [], l, i, _, _ => by cases l <;> rfl
  | .r :: m, o :: l, i, h, hl => by
    have h0 : ops[i]? = some o := by simpa using (h 0).symm
    have ih := getAll_R m l (i + 1) (at_tail h) (by simpa using hl)
    simp only [idxR, pickR, ← ih, getAll, List.filterMap_cons, h0]
  | .u :: m, o :: l, i, h, hl => getAll_R m l (i + 1) (at_tail h) (by simpa using hl)
  | .p :: m, o :: l, i, h, hl => getAll_R m l (i + 1) (at_tail h) (by simpa using hl)
theorem getAll_U : ∀ (m : List Ph) (l : List Oper) (i : Nat), (∀ j, l[j]? = ops[i + j]?) → m.length = l.length → getAll ops (idxU m i) = pickU m l
  | [], l, i, _, _ => by cases l <;> rfl
  | .u :: m, o :: l, i, h, hl => by
    have h0 : ops[i]? = some o := by simpa using (h 0).symm
    have ih := getAll_U m l (i + 1) (at_tail h) (by simpa using hl)
    simp only [idxU, pickU, ← ih, getAll, List.filterMap_cons, h0]
  | .r :: m, o :: l, i, h, hl => getAll_U m l (i + 1) (at_tail h) (by simpa using hl)
  | .p :: m, o :: l, i, h, hl => getAll_U m l (i + 1) (at_tail h) (by simpa using hl)
theorem getAll_P : ∀ (m : List Ph) (l : List Oper) (i : Nat), (∀ j, l[j]? = ops[i + j]?) → m.length = l.length → getAll ops (idxP m i) = pickP m l
  | [], l, i, _, _ => by cases l <;> rfl
  | .p :: m, o :: l, i, h, hl => by
    have h0 : ops[i]? = some o := by simpa using (h 0).symm
    have ih := getAll_P m l (i + 1) (at_tail h) (by simpa using hl)
    simp only [idxP, pickP, ← ih, getAll, List.filterMap_cons, h0]
  | .r :: m, o :: l, i, h, hl => getAll_P m l (i + 1) (at_tail h) (by simpa using hl)
  | .u :: m, o :: l, i, h, hl => getAll_P m l (i + 1) (at_tail h) (by simpa using hl)
def Region.marksB (md : Region.Mode) (l : List Oper) (m : List Ph) : Bool :=
  decide (m.length = l.length) && (match idxP m 0 with | [] => false | t :: post => Region.leadB md l.toArray (idxR m 0) (idxU m 0) t post)
/-- the region's law, its operations marked -/
theorem wp_region_marksQ {id : Nat} {a : Act} {w : World} {l : List Oper} (S : World → Prop) (m : List Ph) (hm : P.follows .mixedOrders = true) (hB : Region.marksB .any l m = true)
    (hQ : ∀ c a d v w, Q (.panic c) (Act.put a d v) w → Q (.panic c) a w) (hS : S w.drew)
    (h : wpReads P l.toArray S (fun a' => wpTurns P l.toArray Q S (pickP m l) (pickU m l) a' w.drew) (pickR m l) a) : (Code.region id l.toArray true).wp P Q a w := by
  simp only [Region.marksB, Bool.and_eq_true, decide_eq_true_eq] at hB
  obtain ⟨hl, hB⟩ := hB
  have hz : ∀ j, l[j]? = l.toArray[0 + j]? := fun j => by simp
  cases hp : idxP m 0 with
  | nil => rw [hp] at hB; cases hB
  | cons t post =>
    rw [hp] at hB
    refine wp_region_lead S (idxR m 0) (idxU m 0) t post hm hB hQ hS ?_
    rw [← hp, getAll_R m l 0 hz hl, getAll_U m l 0 hz hl, getAll_P m l 0 hz hl]
    exact h
/-- the same, where no panic comes up -/
theorem wp_region_marks {id : Nat} {a : Act} {w : World} {l : List Oper} (S : World → Prop) (m : List Ph) (hm : P.follows .mixedOrders = true) (hB : Region.marksB .any l m = true) (hS : S w.drew)
    (h : wpReads P l.toArray S (fun a' => wpTurns P l.toArray (NoPanic Q) S (pickP m l) (pickU m l) a' w.drew) (pickR m l) a) : (Code.region id l.toArray true).wp P Q a w :=
  wp_region_noPanic (wp_region_marksQ S m hm hB (fun _ _ _ _ _ h => h) hS h)
end
end Go.Proofs.YtboegjdkedjhcaaGreatDoor
