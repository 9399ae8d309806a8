/- append from a row that may be empty, as one step of a region that draws its order. No program in sight. slices.Sort at []uint32: where it stands in this program, and its contract. slices.Sort at a row of uint32 of one's own. An image's flow, as a search with a stack and marks finds it. No program in sight. -/
import Derived.Test.YtghopakbefageaaGreatBt01
import Derived.Test.YtghopakbefageaaGreatBt14
import Derived.Test.YtghopakbefageaaGreatBt17
import Derived.Test.YtghopakbefageaaGreatProg
import Derived.Test.YtghopakbefageaaGreatBt21
import Derived.Test.YtghopakbefageaaGreatBt24
namespace Go.Proofs.YtghopakbefageaaGreat
open Go.RowKit
theorem step_append_src {P : Program} {ops : Array Oper} {o : Oper} {a : Act} {w : World} {K : Act → World → Prop} {Q : Exit → Act → World → Prop} {E : Prop}
    (hg : o.guard = none) (s x : Operand) (t : TypeId) (hop : o.op = Op.call { callee := Callee.builtin Builtin.append, args := #[s, x], argTypes := #[t, t] })
    (base : Nat) (e : TypeId) (i : TypeInfo) (z : Value) (size bytes : Nat) (h1 : P.underlying t = some (.slice e)) (h2 : P.info? e = some i) (h3 : i.zero = some z) (h4 : i.size = size) (h5 : i.bytes = bytes) (h6 : z.cells.size = size) (h7 : 0 < size)
    (v : Value) (n : Nat) (xs : List Value) (hs : a.eval s = v) (hown : w.ownsRow base e size v n xs)
    (p : Option Addr) (m c b off : Nat) (news : List Value) (hx : a.eval x = .slice p m c) (hp : 0 < m → p = some ⟨b, off, none⟩) (hn : news.length = m * size) (hc : 0 < m → ∀ j u, news[j]? = some u → w.cell? ((⟨b, off, none⟩ : Addr).add j) = some u) (h1c : ∀ u ∈ news, u.oneCell' = true)
    (b1 : n + m ≤ maxLen) (b2 : (n + m) * bytes ≤ 140737488355328) (hbase : base ≤ w.heap.size)
    (hK : ∀ v' w', w'.ownsRow base e size v' (n + m) (xs ++ news) → w.grownBy w' v.ownBlock → K (a.put o.dst v') w') :
    if Region.wanted o (yielded ops a.tmps) = true then Oper.wp P o a w K Q else E := by
  have hw : Region.wanted o (yielded ops a.tmps) = true := by simp [Region.wanted, hg]
  rw [if_pos hw]
  by_cases h0 : m = 0
  · subst h0
    have hrun := run_append_own_empty (P := P) (w := w) base t o.type e i size h1 h2 v n xs hown p c
    have hnn : news = [] := List.eq_nil_of_length_eq_zero (by rw [hn, Nat.zero_mul])
    subst hnn
    unfold Oper.wp
    simp [execOp, hop, resolve, invoke, builtin, hs, hx, hrun, Result.andThen]
    exact hK _ _ (by simpa using hown) (World.grownBy.refl w _)
  · obtain rfl := hp (by omega)
    obtain ⟨v', w', hrun, r1, r2, r3, r4⟩ := run_append_own_at (P := P) w base t o.type e i z size bytes h1 h2 h3 h4 h5 h6 h7 v n xs hown _ m c news hn (hc (by omega)) h1c b1 b2 hbase
    unfold Oper.wp
    simp [execOp, hop, resolve, invoke, builtin, hs, hx, hrun, Result.andThen]
    exact hK v' w' r1 r2
end Go.Proofs.YtghopakbefageaaGreat
namespace Go.Proofs.YtghopakbefageaaGreat
open Go.Shelf Go.Sort Go.RowKit
def sort_u32_ren : Go.Shelf.Ren := ⟨fun | 5 => 28 | 7 => 52 | 8 => 53 | 10 => 72 | 11 => 73 | 12 => 74 | 13 => 75 | 14 => 76 | 15 => 77 | 16 => 78 | 17 => 79 | 18 => 80 | 19 => 81 | 20 => 82 | 30 => 96 | 31 => 97 | 32 => 98 | 33 => 99 | 34 => 100 | 35 => 101 | 40 => 108 | n => n, fun | 0 => 0 | 3 => 3 | 4 => 4 | 5 => 5 | 9 => 9 | 22 => 38 | 23 => 38 | 25 => 22 | 32 => 94 | 35 => 123 | 36 => 124 | 41 => 129 | 44 => 22 | 46 => 112 | 53 => 146 | 57 => 150 | 63 => 162 | 64 => 163 | n => n, fun | n => n⟩
theorem sort_u32_lays : LaysU .u32 Tryz.prog sort_u32_ren := {
  mixed := by kernel_rfl
  f5 := ⟨Tryz.f28.name, by decide, Tryz.func28.trans (congrArg some (by kernel_rfl))⟩
  f7 := ⟨Tryz.f52.name, by decide, Tryz.func52.trans (congrArg some (by kernel_rfl))⟩
  f8 := Tryz.func53.trans (congrArg some (by kernel_rfl))
  f10 := ⟨Tryz.f72.name, by decide, Tryz.func72.trans (congrArg some (by kernel_rfl))⟩
  f11 := ⟨Tryz.f73.name, by decide, Tryz.func73.trans (congrArg some (by kernel_rfl))⟩
  f12 := ⟨Tryz.f74.name, by decide, Tryz.func74.trans (congrArg some (by kernel_rfl))⟩
  f13 := ⟨Tryz.f75.name, by decide, Tryz.func75.trans (congrArg some (by kernel_rfl))⟩
  f14 := ⟨Tryz.f76.name, by decide, Tryz.func76.trans (congrArg some (by kernel_rfl))⟩
  f15 := ⟨Tryz.f77.name, by decide, Tryz.func77.trans (congrArg some (by kernel_rfl))⟩
  f16 := ⟨Tryz.f78.name, by decide, Tryz.func78.trans (congrArg some (by kernel_rfl))⟩
  f17 := ⟨Tryz.f79.name, by decide, Tryz.func79.trans (congrArg some (by kernel_rfl))⟩
  f18 := ⟨Tryz.f80.name, by decide, Tryz.func80.trans (congrArg some (by kernel_rfl))⟩
  f19 := Tryz.func81.trans (congrArg some (by kernel_rfl))
  f20 := Tryz.func82.trans (congrArg some (by kernel_rfl))
  f30 := ⟨Tryz.f96.name, by decide, Tryz.func96.trans (congrArg some (by kernel_rfl))⟩
  f31 := Tryz.func97.trans (congrArg some (by kernel_rfl))
  f32 := Tryz.func98.trans (congrArg some (by kernel_rfl))
  f33 := ⟨Tryz.f99.name, by decide, Tryz.func99.trans (congrArg some (by kernel_rfl))⟩
  f34 := ⟨Tryz.f100.name, by decide, Tryz.func100.trans (congrArg some (by kernel_rfl))⟩
  f35 := ⟨Tryz.f101.name, by decide, Tryz.func101.trans (congrArg some (by kernel_rfl))⟩
  f40 := ⟨Tryz.f108.name, by decide, Tryz.func108.trans (congrArg some (by kernel_rfl))⟩
  t0 := Tryz.underlying0
  a0 := Tryz.isAgg0
  z0 := Tryz.sizeOf0
  v0 := Tryz.zeroValue0
  t3 := Tryz.underlying3
  a3 := Tryz.isAgg3
  z3 := Tryz.sizeOf3
  v3 := Tryz.zeroValue3
  t4 := Tryz.underlying4
  a4 := Tryz.isAgg4
  z4 := Tryz.sizeOf4
  v4 := Tryz.zeroValue4
  t5 := Tryz.underlying5
  a5 := Tryz.isAgg5
  z5 := Tryz.sizeOf5
  v5 := Tryz.zeroValue5
  t9 := Tryz.underlying9
  a9 := Tryz.isAgg9
  z9 := Tryz.sizeOf9
  v9 := Tryz.zeroValue9
  t22 := Tryz.underlying38
  a22 := Tryz.isAgg38
  z22 := Tryz.sizeOf38
  v22 := Tryz.zeroValue38
  t23 := Tryz.underlying38
  a23 := Tryz.isAgg38
  z23 := Tryz.sizeOf38
  v23 := Tryz.zeroValue38
  t25 := Tryz.underlying22
  a25 := Tryz.isAgg22
  z25 := Tryz.sizeOf22
  v25 := Tryz.zeroValue22
  t32 := Tryz.underlying94
  a32 := Tryz.isAgg94
  z32 := Tryz.sizeOf94
  v32 := Tryz.zeroValue94
  t35 := Tryz.underlying123
  a35 := Tryz.isAgg123
  z35 := Tryz.sizeOf123
  v35 := Tryz.zeroValue123
  t36 := Tryz.underlying124
  a36 := Tryz.isAgg124
  z36 := Tryz.sizeOf124
  v36 := Tryz.zeroValue124
  t41 := Tryz.underlying129
  a41 := Tryz.isAgg129
  z41 := Tryz.sizeOf129
  v41 := Tryz.zeroValue129
  t44 := Tryz.underlying22
  a44 := Tryz.isAgg22
  z44 := Tryz.sizeOf22
  v44 := Tryz.zeroValue22
  t46 := Tryz.underlying112
  a46 := Tryz.isAgg112
  z46 := Tryz.sizeOf112
  v46 := Tryz.zeroValue112
  t53 := Tryz.underlying146
  a53 := Tryz.isAgg146
  z53 := Tryz.sizeOf146
  v53 := Tryz.zeroValue146
  t57 := Tryz.underlying150
  a57 := Tryz.isAgg150
  z57 := Tryz.sizeOf150
  v57 := Tryz.zeroValue150
  t63 := Tryz.underlying162
  a63 := Tryz.isAgg162
  z63 := Tryz.sizeOf162
  v63 := Tryz.zeroValue162
  t64 := Tryz.underlying163
  a64 := Tryz.isAgg163
  z64 := Tryz.sizeOf163
  v64 := Tryz.zeroValue163
}
theorem sort_u32_any (blk off cap : Nat) (zs : List Int) (w : World) (hH : Holds (Value.int .u32) w blk off zs.toArray) (hblk : blk < w.heap.size) (hsz : zs.length < 4611686018427387904) :
    Calls Tryz.prog 28 #[.slice (some ⟨blk, off, none⟩) zs.length cap] w fun e w' =>
      e = .returned (.tuple #[]) ∧ ∃ n os, w' = grow (putRow (Value.int .u32) (Sort.ahead w n) blk off (zs.mergeSort fun x y => decide (x ≤ y)).toArray) os :=
  sortU_any sort_u32_lays blk off cap zs w hH hblk hsz
theorem sort_u32_none (p : Option Addr) (cap : Nat) (w : World) : Calls Tryz.prog 28 #[.slice p 0 cap] w fun e w' => e = .returned (.tuple #[]) ∧ w' = w :=
  sortU_none sort_u32_lays p cap w
end Go.Proofs.YtghopakbefageaaGreat
namespace Go.Proofs.YtghopakbefageaaGreat
open Go.RowKit Go.Sort Go.Lib
theorem s32_all (l : List Int) : S32 l := fun base v w h hl => by
  by_cases h0 : l.length = 0
  · obtain ⟨p, c, rfl⟩ := own_shape h
    obtain rfl : l = [] := List.eq_nil_of_length_eq_zero h0
    refine (sort_u32_none p c w).mono ?_
    rintro e w' ⟨rfl, rfl⟩
    exact ⟨rfl, by simpa [sortI] using h, KB.refl _ _⟩
  · obtain ⟨g, cap, rfl, hbg, hgl⟩ := World.ownsRow.form h (by omega)
    refine (sort_u32_any g 0 cap l w h.holds hgl (by omega)).mono ?_
    rintro e w' ⟨rfl, n, os, rfl⟩
    have hp := URow.put (n := n) (os := os) h (sortI_length l) (l' := sortI l) (by rw [List.take_length])
    rw [sortI_length] at hp
    exact ⟨rfl, hp, putRow_kb⟩
end Go.Proofs.YtghopakbefageaaGreat
namespace Go.Proofs.YtghopakbefageaaGreat
/-- what `at` tells -/
def AtIs (L : List GLn) (a r : Int) : Prop := (r = -1 ∧ hasA L a = false) ∨ ∃ k : Nat, ∃ h : k < L.length, r = k ∧ L[k].addr = a
structure Dfs (L : List GLn) (e : Int) (S : List Int) (M : List Bool) (P : List Int) : Prop where
  ml : M.length = L.length
  stk : ∀ r ∈ S, r = -1 ∨ ∃ k : Nat, ∃ h : k < L.length, r = k ∧ FlowR L e L[k].addr
  mrk : ∀ k (h : k < L.length), M[k]? = some true → FlowR L e L[k].addr
  cl : ∀ k (h : k < L.length), M[k]? = some true → ∀ b ∈ behindL L[k], hasA L b = true → (∃ j : Nat, ∃ h : j < L.length, L[j].addr = b ∧ (M[j]? = some true ∨ (j : Int) ∈ S)) ∨ b ∈ P
  ent : hasA L e = true → ∃ j : Nat, ∃ h : j < L.length, L[j].addr = e ∧ (M[j]? = some true ∨ (j : Int) ∈ S)
  pnd : ∀ b ∈ P, hasA L b = true → FlowR L e b
theorem Dfs.start {L : List GLn} {e r : Int} (h : AtIs L e r) : Dfs L e [r] (List.replicate L.length false) [] := by
  refine ⟨by simp, fun q hq => ?_, fun k hk hm => ?_, fun k hk hm => ?_, fun he => ?_, fun b hb => by cases hb⟩
  · simp at hq; subst hq
    rcases h with ⟨h1, -⟩ | ⟨k, hk, rfl, he⟩
    · exact .inl h1
    · exact .inr ⟨k, hk, rfl, by rw [he]; exact .refl⟩
  · simp [hk] at hm
  · simp [hk] at hm
  · rcases h with ⟨-, h1⟩ | ⟨k, hk, rfl, h2⟩
    · rw [he] at h1; cases h1
    · exact ⟨k, hk, h2, .inr (by simp)⟩
theorem Dfs.skip {L : List GLn} {e r : Int} {S : List Int} {M : List Bool} {P : List Int} (h : Dfs L e (S ++ [r]) M P) (hr : r = -1 ∨ ∃ k : Nat, r = k ∧ M[k]? = some true) : Dfs L e S M P := by
  have key : ∀ j : Nat, M[j]? = some true ∨ (j : Int) ∈ S ++ [r] → M[j]? = some true ∨ (j : Int) ∈ S := by
    rintro j (h1 | h1)
    · exact .inl h1
    · rcases List.mem_append.1 h1 with h1 | h1
      · exact .inr h1
      · simp at h1
        rcases hr with rfl | ⟨k, rfl, hk⟩
        · omega
        · have : j = k := by omega
          subst this; exact .inl hk
  refine ⟨h.ml, fun q hq => h.stk q (List.mem_append_left _ hq), h.mrk, fun k hk hm b hb hh => ?_, fun he => ?_, h.pnd⟩
  · rcases h.cl k hk hm b hb hh with ⟨j, hj, h1, h2⟩ | h1
    · exact .inl ⟨j, hj, h1, key j h2⟩
    · exact .inr h1
  · obtain ⟨j, hj, h1, h2⟩ := h.ent he
    exact ⟨j, hj, h1, key j h2⟩
theorem set_get {M : List Bool} {k j : Nat} (hk : k < M.length) : (M.set k true)[j]? = some true ↔ (j = k ∨ M[j]? = some true) := by
  rw [List.getElem?_set]
  by_cases e : k = j
  · subst e; simp [hk]
  · have : ¬ j = k := fun e' => e e'.symm
    simp [e, this]
theorem Dfs.mark {L : List GLn} {e : Int} {k : Nat} {S : List Int} {M : List Bool} (h : Dfs L e (S ++ [(k : Int)]) M []) (hk : k < L.length) : Dfs L e S (M.set k true) (behindL L[k]) := by
  have hkm : k < M.length := by rw [h.ml]; exact hk
  have hf : FlowR L e L[k].addr := by
    rcases h.stk k (by simp) with h1 | ⟨j, hj, h1, h2⟩
    · omega
    · have : j = k := by omega
      subst this; exact h2
  have key : ∀ j : Nat, M[j]? = some true ∨ (j : Int) ∈ S ++ [(k : Int)] → (M.set k true)[j]? = some true ∨ (j : Int) ∈ S := by
    rintro j (h1 | h1)
    · exact .inl ((set_get hkm).2 (.inr h1))
    · rcases List.mem_append.1 h1 with h1 | h1
      · exact .inr h1
      · simp at h1
        exact .inl ((set_get hkm).2 (.inl (by omega)))
  refine ⟨by simp [h.ml], fun q hq => h.stk q (List.mem_append_left _ hq), fun j hj hm => ?_, fun j hj hm b hb hh => ?_, fun he => ?_, fun b hb hh => ?_⟩
  · rcases (set_get hkm).1 hm with rfl | hm
    · exact hf
    · exact h.mrk j hj hm
  · rcases (set_get hkm).1 hm with rfl | hm
    · exact .inr hb
    · rcases h.cl j hj hm b hb hh with ⟨i, hi, h1, h2⟩ | h1
      · exact .inl ⟨i, hi, h1, key i h2⟩
      · cases h1
  · obtain ⟨j, hj, h1, h2⟩ := h.ent he
    exact ⟨j, hj, h1, key j h2⟩
  · exact hf.step ⟨hh, L[k], List.getElem_mem hk, rfl, hb⟩
theorem Dfs.push {L : List GLn} {e r b : Int} {S : List Int} {M : List Bool} {P : List Int} (h : Dfs L e S M (b :: P)) (hr : AtIs L b r) : Dfs L e (S ++ [r]) M P := by
  have key : ∀ j : Nat, M[j]? = some true ∨ (j : Int) ∈ S → M[j]? = some true ∨ (j : Int) ∈ S ++ [r] := by
    rintro j (h1 | h1)
    · exact .inl h1
    · exact .inr (List.mem_append_left _ h1)
  refine ⟨h.ml, fun q hq => ?_, h.mrk, fun k hk hm c hc hh => ?_, fun he => ?_, fun c hc hh => h.pnd c (by simp [hc]) hh⟩
  · rcases List.mem_append.1 hq with hq | hq
    · exact h.stk q hq
    · simp at hq; subst hq
      rcases hr with ⟨h1, -⟩ | ⟨k, hk, rfl, h2⟩
      · exact .inl h1
      · exact .inr ⟨k, hk, rfl, by rw [h2]; exact h.pnd b (by simp) (hasA_mem.2 ⟨L[k], List.getElem_mem hk, h2⟩)⟩
  · rcases h.cl k hk hm c hc hh with ⟨i, hi, h1, h2⟩ | h1
    · exact .inl ⟨i, hi, h1, key i h2⟩
    · rcases List.mem_cons.1 h1 with rfl | h1
      · rcases hr with ⟨-, h2⟩ | ⟨j, hj, rfl, h2⟩
        · rw [hh] at h2; cases h2
        · exact .inl ⟨j, hj, h2, .inr (by simp)⟩
      · exact .inr h1
  · obtain ⟨j, hj, h1, h2⟩ := h.ent he
    exact ⟨j, hj, h1, key j h2⟩
theorem Dfs.all {L : List GLn} {e : Int} {M : List Bool} (hu : L.Pairwise fun a b => a.addr < b.addr) (h : Dfs L e [] M []) (he : hasA L e = true) : ∀ a, InFlow L e a ↔ ∃ k : Nat, ∃ hk : k < L.length, M[k]? = some true ∧ L[k].addr = a := by
  intro a
  constructor
  · rintro ⟨-, hr⟩
    induction hr with
    | refl =>
      obtain ⟨j, hj, h1, h2⟩ := h.ent he
      exact ⟨j, hj, h2.resolve_right (by simp), h1⟩
    | step h1 h2 ih =>
      obtain ⟨k, hk, hm, hka⟩ := ih
      obtain ⟨hh, y, hy, hya, hb⟩ := h2
      have e1 : L[k] = y := by
        have q1 := findA_mem hu hy
        have q2 := findA_mem hu (List.getElem_mem hk)
        rw [hka] at q2
        rw [hya, q2] at q1
        exact Option.some.inj q1
      rcases h.cl k hk hm _ (by rw [e1]; exact hb) hh with ⟨j, hj, k1, k2⟩ | k1
      · exact ⟨j, hj, k2.resolve_right (by simp), k1⟩
      · cases k1
  · rintro ⟨k, hk, hm, rfl⟩
    exact ⟨he, h.mrk k hk hm⟩
/-- those that are marked, in order -/
def outF : List GLn → List Bool → List Int
  | y :: L, b :: M => (if b = true then [y.addr] else []) ++ outF L M
  | _, _ => []
theorem outF_sub : ∀ (L : List GLn) (M : List Bool), (outF L M).Sublist (L.map fun y => y.addr)
  | [], _ => by simp [outF]
  | y :: L, [] => by simp [outF]
  | y :: L, b :: M => by
    have ih := outF_sub L M
    unfold outF
    rw [List.map_cons]
    split
    · exact ih.cons_cons _
    · exact ih.cons _
theorem outF_take : ∀ (L : List GLn) (M : List Bool) (k : Nat) (h1 : k < L.length) (h2 : k < M.length), outF (L.take (k + 1)) (M.take (k + 1)) = outF (L.take k) (M.take k) ++ (if M[k] = true then [L[k].addr] else [])
  | y :: L, b :: M, 0, _, _ => by simp [outF]
  | y :: L, b :: M, k + 1, h1, h2 => by
    have ih := outF_take L M k (by simpa using h1) (by simpa using h2)
    simp only [List.take_succ_cons, outF, List.getElem_cons_succ, List.append_assoc] at ih ⊢
    rw [ih]
theorem outF_mem : ∀ (L : List GLn) (M : List Bool) (a : Int), M.length = L.length → (a ∈ outF L M ↔ ∃ k : Nat, ∃ hk : k < L.length, M[k]? = some true ∧ L[k].addr = a)
  | [], M, a, h => by simp [outF]
  | y :: L, [], a, h => by simp at h
  | y :: L, b :: M, a, h => by
    have ih := outF_mem L M a (by simpa using h)
    unfold outF
    rw [List.mem_append, ih]
    constructor
    · rintro (h1 | ⟨k, hk, h1, h2⟩)
      · split at h1
        · rename_i hb
          simp at h1
          exact ⟨0, by simp, by simp [hb], by simp [h1]⟩
        · cases h1
      · exact ⟨k + 1, by simpa using hk, by simpa using h1, by simpa using h2⟩
    · rintro ⟨k, hk, h1, h2⟩
      cases k with
      | zero =>
        simp at h1 h2
        left
        rw [if_pos h1]
        simp [h2]
      | succ k => exact .inr ⟨k, by simpa using hk, by simpa using h1, by simpa using h2⟩
theorem outF_flow {L : List GLn} {e : Int} {M : List Bool} (hu : L.Pairwise fun a b => a.addr < b.addr) (h : Dfs L e [] M []) (he : L = [] ∨ hasA L e = true) : FlowIs L e (outF L M) := by
  refine ⟨((List.pairwise_map (f := fun y : GLn => y.addr) (R := (· < ·))).2 hu).sublist (outF_sub L M), fun a => ?_⟩
  rw [outF_mem L M a h.ml]
  rcases he with rfl | he
  · constructor
    · rintro ⟨k, hk, -⟩; simp at hk
    · rintro ⟨h1, -⟩; cases h1
  · exact (h.all hu he a).symm
end Go.Proofs.YtghopakbefageaaGreat
