/- What demand.Check calls: its closures, slices.ContainsFunc at extents, slices.Contains at ports. The walk of demand.Check, at any manifest. Numbers put into a row that rises, one by one: as sorted, each once. No program in sight. Which images may be, as the document's answer asks it (layers 11, 16): the same as XPlain36's. No program in sight. x[:k], x[k:] of a slice. A region that draws its order, what its reads rest on being kept by every operation: reads may be taken first wherever they are ready. No program in sight. -/
import Derived.Test.YtghopakbefageaaGreatBt16
import Derived.Test.YtghopakbefageaaGreatProg
import Derived.Test.YtghopakbefageaaGreatEqLay
import Derived.Test.YtghopakbefageaaGreatBt01
import Derived.Lib.Hide
import Derived.LoopTactic
import Derived.Test.YtghopakbefageaaGreatBt18
import Derived.Test.YtghopakbefageaaGreatBt14
import Derived.Test.YtghopakbefageaaGreatBt07
namespace Go.Proofs.YtghopakbefageaaGreat
open Go.RowKit Go.Maps Go.Shelf
def extV (x : Int × Int) : List Value := [.int .u32 x.1, .int .u32 x.2]
def extBad (x : Int × Int) : Bool := decide (16 ≤ x.1) || decide (x.2 < 1) || decide (1024 < x.2)
set_option maxHeartbeats 400000 in
theorem chk1_any (x : Int × Int) (w : World) : Calls Tryz.prog 86 #[.agg #[.int .u32 x.1, .int .u32 x.2]] w fun e w' => e = .returned (.bool (extBad x)) ∧ Below w.heap.size w w' := by
  obtain ⟨a, b⟩ := x
  simp only []
  by_cases h1 : 16 ≤ a
  · go_enter Tryz.func86, Tryz.ntmps86
    go_wp2
    go_ret
    exact ⟨ret_bool (by simp [extBad, h1]), alloc_old w _⟩
  · by_cases h2 : b < 1
    · go_enter Tryz.func86, Tryz.ntmps86
      go_wp2
      go_ret
      exact ⟨ret_bool (by simp [extBad, h2]), alloc_old w _⟩
    · by_cases h3 : 1024 < b
      · go_enter Tryz.func86, Tryz.ntmps86
        go_wp2
        go_ret
        exact ⟨ret_bool (by simp [extBad, h3]), alloc_old w _⟩
      · go_enter Tryz.func86, Tryz.ntmps86
        go_wp2
        go_ret
        exact ⟨ret_bool (by simp [extBad, h1, h2, h3]), alloc_old w _⟩
set_option maxHeartbeats 400000 in
theorem chk2_any (x y : Int × Int) (w : World) : Calls Tryz.prog 88 #[.agg #[.int .u32 x.1, .int .u32 x.2], .agg #[.int .u32 y.1, .int .u32 y.2]] w fun e w' => e = .returned (.bool (decide (x.1 < y.1))) ∧ Below w.heap.size w w' := by
  obtain ⟨a, b⟩ := x
  obtain ⟨c, d⟩ := y
  simp only []
  go_enter Tryz.func88, Tryz.ntmps88
  go_wp2
  go_ret
  exact ⟨rfl, (alloc_old w _).alloc (by simp) _⟩
set_option maxHeartbeats 400000 in
theorem chk3_any (x y : Int) (w : World) : Calls Tryz.prog 90 #[.int .u16 x, .int .u16 y] w fun e w' => e = .returned (.bool (decide (x < y))) ∧ Below w.heap.size w w' := by
  go_enter Tryz.func90, Tryz.ntmps90
  go_wp2
  go_ret
  exact ⟨rfl, Below.refl _ _⟩
set_option maxHeartbeats 400000 in
theorem indexE_nil (a : Option Addr) (c : Nat) (fv : Value) (w : World) : Calls Tryz.prog 104 #[.slice a 0 c, fv] w fun e w' => e = .returned (.int .i64 (-1)) ∧ w' = w := by
  go_enter Tryz.func104, Tryz.ntmps104
  go_wp2
  go_loopw [8] (fun i wr => i = .int .i64 0 ∧ wr = w) (fun _ _ => 0)
  case atStart => exact ⟨rfl, rfl⟩
  case round =>
    obtain ⟨rfl, rfl⟩ := hrel
    go_wp2
    go_ret
    exact ⟨rfl, rfl⟩
set_option maxHeartbeats 400000 in
theorem containsE_nil (a : Option Addr) (c : Nat) (fv : Value) (w : World) : Calls Tryz.prog 85 #[.slice a 0 c, fv] w fun e w' => e = .returned (.bool false) ∧ w' = w := by
  have HI := Lib.hid (indexE_nil a c fv w)
  go_enter Tryz.func85, Tryz.ntmps85
  go_wp2_with (go_at_call 104; refine HI.out.mono ?_; rintro e w1 ⟨rfl, rfl⟩)
  go_ret
  exact ⟨rfl, rfl⟩
theorem containsE_any (v : Value) (l : List (Int × Int)) (w : World) (p : Int × Int → Bool) (g : FuncId) (lb : Array Value) (eg : ∀ args w, (callFunc g args).run Tryz.prog w = .ok (.enter g args) w) (h : RowAt 2 ExtR w v l)
    (hp : ∀ (W : World) (x : Int × Int), Below w.heap.size w W → Calls Tryz.prog g (#[.agg #[.int .u32 x.1, .int .u32 x.2]] ++ lb) W fun e w' => e = .returned (.bool (p x)) ∧ Below w.heap.size w w') :
    Calls Tryz.prog 85 #[v, .func (.func g) #[] lb] w fun e w' => e = .returned (.bool (l.any p)) ∧ Below w.heap.size w w' := by
  obtain ⟨pp, cap, b, o, rfl, hcap, hmax, hpp, hc⟩ := h
  by_cases h0 : l.length = 0
  · obtain rfl : l = [] := List.eq_nil_of_length_eq_zero h0
    refine (containsE_nil pp cap _ w).mono ?_
    rintro e w' ⟨rfl, rfl⟩
    exact ⟨rfl, Below.refl _ _⟩
  · obtain rfl := hpp (by omega)
    have hb := (hc 0 (by omega)).1
    have := Go.Proofs.AnyQ.slices_ContainsFunc Tryz.containsFuncExtent 2 Tryz.isAgg100 Tryz.sizeOf100 extV (fun _ => rfl) p g lb eg b o l.length cap l w hp (Nat.le_refl _) (by omega) hb (fun j hj i v hv => by
      have e : l[j]! = l[j] := by simp [hj]
      rw [e] at hv
      have hr := hc j hj
      match i, hv with
      | 0, hv => cases hv; exact hr.2.1
      | 1, hv => cases hv; exact hr.2.2.1)
    rw [List.take_length] at this
    exact this
theorem contains16_any (v : Value) (l : List Int) (x : Int) (w : World) (h : RowAt 1 PortR w v l) :
    Calls Tryz.prog 91 #[v, .int .u16 x] w fun e w' => e = .returned (.bool (l.any fun y => decide (x = y))) ∧ w' = w := by
  obtain ⟨pp, cap, b, o, rfl, hcap, hmax, hpp, hc⟩ := h
  by_cases h0 : l.length = 0
  · obtain rfl : l = [] := List.eq_nil_of_length_eq_zero h0
    exact Go.Proofs.AnyE.slices_Contains_empty Tryz.contains16 pp cap _ w
  · obtain rfl := hpp (by omega)
    have := Go.Proofs.AnyE.slices_Contains Tryz.contains16 (Value.int .u16) (fun x y => decide (x = y)) (EqlAt.intD _ _ .u16) b o l.length cap l x w (Nat.le_refl _) (by omega) (fun j hj => by
      have e : l[j]! = l[j] := by simp [hj]
      rw [e]
      have hr := (hc j hj).2.1
      simpa using hr)
    rw [List.take_length] at this
    exact this
end Go.Proofs.YtghopakbefageaaGreat
namespace Go.Proofs.YtghopakbefageaaGreat
open Go.RowKit Go.Maps Go.Shelf
theorem riseE_at : ∀ (l : List (Int × Int)), riseE l = true ↔ ∀ k (h : k + 1 < l.length), l[k].1 < l[k + 1].1
  | [] => by simp [riseE]
  | [a] => by simp [riseE]
  | a :: b :: r => by
    have ih := riseE_at (b :: r)
    rw [riseE, Bool.and_eq_true, decide_eq_true_eq, ih]
    constructor
    · rintro ⟨h1, h2⟩ k hk
      match k with
      | 0 => exact h1
      | k + 1 => exact h2 k (by simpa using hk)
    · intro h
      exact ⟨h 0 (by simp), fun k hk => h (k + 1) (by simpa using hk)⟩
theorem riseP_at : ∀ (l : List Int), riseP l = true ↔ ∀ k (h : k + 1 < l.length), l[k] < l[k + 1]
  | [] => by simp [riseP]
  | [a] => by simp [riseP]
  | a :: b :: r => by
    have ih := riseP_at (b :: r)
    rw [riseP, Bool.and_eq_true, decide_eq_true_eq, ih]
    constructor
    · rintro ⟨h1, h2⟩ k hk
      match k with
      | 0 => exact h1
      | k + 1 => exact h2 k (by simpa using hk)
    · intro h
      exact ⟨h 0 (by simp), fun k hk => h (k + 1) (by simpa using hk)⟩
set_option maxHeartbeats 1000000 in
theorem risesE36 (v : Value) (l : List (Int × Int)) (w : World) (h : RowAt 2 ExtR w v l) :
    Calls Tryz.prog 87 #[v, .func (.func 88) #[] #[]] w fun e w' => e = .returned (.bool (riseE l)) ∧ Below w.heap.size w w' := by
  obtain ⟨p, cap, b, o, rfl, hcap, hmax, hp, hc⟩ := h
  have HC := Lib.hid hc; clear hc
  have HP := Lib.hid hp; clear hp
  have HR := Lib.hid (riseE_at l)
  go_enter Tryz.func87, Tryz.ntmps87
  go_wp2
  go_loopw [9] (fun v0 wr => ∃ k : Nat, v0 = .int .i64 k ∧ k ≤ l.length ∧ (∀ j (h : j + 1 < l.length), j < k → l[j].1 < l[j + 1].1) ∧ Below w.heap.size w wr) (fun v0 _ => l.length - (intOf v0).toNat)
  case atStart => exact ⟨0, by go_num, Nat.zero_le _, fun _ _ h => absurd h (by omega), Below.refl _ _⟩
  case round =>
    obtain ⟨k, rfl, hk, hu, hB⟩ := hrel
    have HB := Lib.hid hB; clear hB
    have HU := Lib.hid hu; clear hu
    by_cases hlt0 : k + 1 < l.length
    · obtain rfl := HP.out (by omega)
      obtain ⟨k1, hke⟩ : ∃ k1, k1 = k + 1 := ⟨_, rfl⟩
      have hlt : k1 < l.length := by omega
      have hkl : k < l.length := by omega
      obtain ⟨g0, g1, g2, -⟩ := extR_keeps _ _ _ _ _ HB.out (HC.out k hkl)
      obtain ⟨f0, f1, f2, -⟩ := extR_keeps _ _ _ _ _ HB.out (HC.out k1 hlt)
      have HCL : Hid (∀ x : BW wr, Calls Tryz.prog 88 #[.agg #[.int .u32 l[k].1, .int .u32 l[k].2], .agg #[.int .u32 l[k1].1, .int .u32 l[k1].2]] x.u fun e w' => e = .returned (.bool (decide (l[k].1 < l[k1].1))) ∧ ∃ y : BW wr, w' = y.u) := fun x => calls_below (chk2_any l[k] l[k1] x.u)
      have hk1 : (k : Int) < (l.length : Int) - 1 := by omega
      have hwr : IntKind.i64.wrap ((k : Int) + 1) = (k1 : Int) := by rw [IntWalk.i64_in _ (by omega)]; omega
      have HUP : Hid (∀ b, decide (l[k].1 < l[k1].1) = b → (b = true → ∀ j (h : j + 1 < l.length), j < k + 1 → l[j].1 < l[j + 1].1) ∧ (b = false → riseE l = false)) := fun b hb => by
        subst hb
        constructor
        · intro h j hj hjk
          by_cases hjk2 : j < k
          · exact HU.out j hj hjk2
          · obtain rfl : j = k := by omega
            subst hke; exact of_decide_eq_true h
        · intro h
          rw [Bool.eq_false_iff]
          intro hr
          have := HR.out.1 hr k (by omega)
          subst hke
          exact of_decide_eq_false h this
      have HKE := Lib.hid hke; clear hke hlt0
      generalize hbq : decide (l[k].1 < l[k1].1) = bq at HCL
      obtain ⟨HY, HN⟩ := HUP.out bq hbq
      have HY' := Lib.hid HY; clear HY
      have HN' := Lib.hid HN; clear HN hbq HUP
      generalize l[k] = x at g1 g2 HCL
      generalize l[k1] = y at f1 f2 HCL
      obtain ⟨x1, x2⟩ := x
      obtain ⟨y1, y2⟩ := y
      simp only [] at g1 g2 f1 f2 HCL
      have c0 := bw_cell g0 g1
      have c1 := bw_cell g0 g2
      have c2 := bw_cell f0 f1
      have c3 := bw_cell f0 f2
      go_wp2
      refine wp_region_below rfl (by kernel_rfl) ?_
      repeat (first | go_big_quiet_skip | quiet_step ((go_at_call 88; exact HCL.out _)))
      refine wpQuiet_nil ?_
      rintro w4 hx4; have hB4 : Below wr.heap.size wr w4 := bw_of hx4; clear hx4
      clear c0 c1 c2 c3 hwr
      cases bq with
      | true =>
        go_wp2
        go_roundw
        case rel => exact ⟨k + 1, by go_num, by omega, HY'.out (by simp), HB.out.trans (hB4.mono HB.out.size)⟩
        case measure => simp [intOf]; omega
      | false =>
        go_wp2
        go_ret
        exact ⟨by rw [HN'.out (by simp)]; rfl, HB.out.trans (hB4.mono HB.out.size)⟩
    · have hk1 : ¬ (k : Int) < (l.length : Int) - 1 := by omega
      go_wp2
      go_ret
      exact ⟨by rw [HR.out.2 fun j hj => HU.out j hj (by omega)]; rfl, HB.out⟩
set_option maxHeartbeats 1000000 in
theorem risesP36 (v : Value) (l : List Int) (w : World) (h : RowAt 1 PortR w v l) :
    Calls Tryz.prog 89 #[v, .func (.func 90) #[] #[]] w fun e w' => e = .returned (.bool (riseP l)) ∧ Below w.heap.size w w' := by
  obtain ⟨p, cap, b, o, rfl, hcap, hmax, hp, hc⟩ := h
  have HC := Lib.hid hc; clear hc
  have HP := Lib.hid hp; clear hp
  have HR := Lib.hid (riseP_at l)
  go_enter Tryz.func89, Tryz.ntmps89
  go_wp2
  go_loopw [9] (fun v0 wr => ∃ k : Nat, v0 = .int .i64 k ∧ k ≤ l.length ∧ (∀ j (h : j + 1 < l.length), j < k → l[j] < l[j + 1]) ∧ Below w.heap.size w wr) (fun v0 _ => l.length - (intOf v0).toNat)
  case atStart => exact ⟨0, by go_num, Nat.zero_le _, fun _ _ h => absurd h (by omega), Below.refl _ _⟩
  case round =>
    obtain ⟨k, rfl, hk, hu, hB⟩ := hrel
    have HB := Lib.hid hB; clear hB
    have HU := Lib.hid hu; clear hu
    by_cases hlt0 : k + 1 < l.length
    · obtain rfl := HP.out (by omega)
      obtain ⟨k1, hke⟩ : ∃ k1, k1 = k + 1 := ⟨_, rfl⟩
      have hlt : k1 < l.length := by omega
      have hkl : k < l.length := by omega
      obtain ⟨g0, g1, -⟩ := portR_keeps _ _ _ _ _ HB.out (HC.out k hkl)
      obtain ⟨f0, f1, -⟩ := portR_keeps _ _ _ _ _ HB.out (HC.out k1 hlt)
      have HCL : Hid (∀ x : BW wr, Calls Tryz.prog 90 #[.int .u16 l[k], .int .u16 l[k1]] x.u fun e w' => e = .returned (.bool (decide (l[k] < l[k1]))) ∧ ∃ y : BW wr, w' = y.u) := fun x => calls_below (chk3_any l[k] l[k1] x.u)
      have hk1 : (k : Int) < (l.length : Int) - 1 := by omega
      have hwr : IntKind.i64.wrap ((k : Int) + 1) = (k1 : Int) := by rw [IntWalk.i64_in _ (by omega)]; omega
      have HUP : Hid (∀ b, decide (l[k] < l[k1]) = b → (b = true → ∀ j (h : j + 1 < l.length), j < k + 1 → l[j] < l[j + 1]) ∧ (b = false → riseP l = false)) := fun b hb => by
        subst hb
        constructor
        · intro h j hj hjk
          by_cases hjk2 : j < k
          · exact HU.out j hj hjk2
          · obtain rfl : j = k := by omega
            subst hke; exact of_decide_eq_true h
        · intro h
          rw [Bool.eq_false_iff]
          intro hr
          have := HR.out.1 hr k (by omega)
          subst hke
          exact of_decide_eq_false h this
      have HKE := Lib.hid hke; clear hke hlt0
      generalize hbq : decide (l[k] < l[k1]) = bq at HCL
      obtain ⟨HY, HN⟩ := HUP.out bq hbq
      have HY' := Lib.hid HY; clear HY
      have HN' := Lib.hid HN; clear HN hbq HUP
      generalize l[k] = x at g1 HCL
      generalize l[k1] = y at f1 HCL
      rw [Nat.mul_one] at g1 f1
      have c0 := bw_cell g0 g1
      have c2 := bw_cell f0 f1
      go_wp2
      refine wp_region_below rfl (by kernel_rfl) ?_
      repeat (first | go_big_quiet_skip | quiet_step ((go_at_call 90; exact HCL.out _)))
      refine wpQuiet_nil ?_
      rintro w4 hx4; have hB4 : Below wr.heap.size wr w4 := bw_of hx4; clear hx4
      clear c0 c2 hwr
      cases bq with
      | true =>
        go_wp2
        go_roundw
        case rel => exact ⟨k + 1, by go_num, by omega, HY'.out (by simp), HB.out.trans (hB4.mono HB.out.size)⟩
        case measure => simp [intOf]; omega
      | false =>
        go_wp2
        go_ret
        exact ⟨by rw [HN'.out (by simp)]; rfl, HB.out.trans (hB4.mono HB.out.size)⟩
    · have hk1 : ¬ (k : Int) < (l.length : Int) - 1 := by omega
      go_wp2
      go_ret
      exact ⟨by rw [HR.out.2 fun j hj => HU.out j hj (by omega)]; rfl, HB.out⟩
end Go.Proofs.YtghopakbefageaaGreat
namespace Go.Proofs.YtghopakbefageaaGreat
open Go.Lib
theorem once_mem (l : List Int) : ∀ x ∈ onceI l, x ∈ l := by
  intro x hx
  unfold onceI Lib.compact Lib.compactUpTo at hx
  obtain ⟨j, hj, rfl⟩ := List.mem_map.1 hx
  have hj' : j < l.length := List.mem_range.1 (List.mem_filter.1 hj).1
  have e : l.toArray[j]! = l[j] := by simp [hj']
  rw [e]
  exact List.getElem_mem hj'
theorem once_up {l : List Int} (h : l.Pairwise (· ≤ ·)) : (onceI l).Pairwise (· < ·) := by
  unfold onceI compact compactUpTo
  rw [List.pairwise_map, List.pairwise_filter]
  have hr := List.pairwise_lt_range (n := l.length)
  rw [List.pairwise_iff_getElem] at hr ⊢
  intro i j hi hj hij _ hk
  have h1 := hr i j hi hj hij
  simp only [List.getElem_range] at h1 hk ⊢
  have hjl : j < l.length := by simpa using hj
  have e : ∀ a (ha : a < l.length), l.toArray[a]! = l[a] := fun a ha => by simp [ha]
  rw [e i (by omega), e j hjl]
  unfold keeps at hk
  rw [e j hjl, e (j - 1) (by omega)] at hk
  simp only [decide_eq_true_eq] at hk
  have hp := List.pairwise_iff_getElem.1 h
  have hne : l[j] ≠ l[j - 1] := by
    rcases hk with hk | hk
    · omega
    · exact hk
  have h2 := hp (j - 1) j (by omega) hjl (by omega)
  have h3 : l[i] ≤ l[j - 1] := by
    rcases Nat.lt_or_eq_of_le (show i ≤ j - 1 by omega) with h4 | h4
    · exact hp i (j - 1) (by omega) (by omega) h4
    · exact Int.le_of_eq (by congr 1)
  omega
theorem once_all (l : List Int) : ∀ x ∈ l, x ∈ onceI l := by
  have key : ∀ j (h : j < l.length), l[j] ∈ onceI l := by
    intro j
    induction j with
    | zero =>
      intro h
      unfold onceI compact compactUpTo
      exact List.mem_map.2 ⟨0, List.mem_filter.2 ⟨List.mem_range.2 h, keeps_lt_one _ 0 (by omega)⟩, by simp [h]⟩
    | succ j ih =>
      intro h
      by_cases he : l[j + 1] = l[j]
      · rw [he]; exact ih (by omega)
      · unfold onceI compact compactUpTo
        refine List.mem_map.2 ⟨j + 1, List.mem_filter.2 ⟨List.mem_range.2 h, keeps_pos ?_⟩, by simp [h]⟩
        have h2 : j < l.length := by omega
        simpa [h, h2] using he
  intro x hx
  obtain ⟨i, hi, rfl⟩ := List.getElem_of_mem hx
  exact key i hi
theorem sortI_up (l : List Int) : (sortI l).Pairwise (· ≤ ·) := by
  unfold sortI
  have := List.pairwise_mergeSort (le := fun x y : Int => decide (x ≤ y)) (by intro a b c; simp only [decide_eq_true_eq]; omega) (by intro a b; simp only [Bool.or_eq_true, decide_eq_true_eq]; omega) l
  simpa using this
theorem sortI_mem (l : List Int) (x : Int) : x ∈ sortI l ↔ x ∈ l := (List.mergeSort_perm l _).mem_iff
theorem once_iff (l : List Int) (x : Int) : x ∈ onceI l ↔ x ∈ l := ⟨once_mem l x, once_all l x⟩
/-- a port into a row that rises, once -/
def portI : List Int → Int → List Int
  | [], p => [p]
  | x :: r, p => if x < p then x :: portI r p else if x = p then x :: r else p :: x :: r
theorem portI_at : ∀ (l : List Int) (p : Int) (k : Nat), k ≤ l.length → (∀ j (h : j < l.length), j < k → l[j] < p) → (∀ h : k < l.length, ¬ l[k] < p) → portI l p = if l[k]? = some p then l else l.take k ++ p :: l.drop k
  | [], p, k, hk, _, _ => by
    obtain rfl : k = 0 := by simpa using hk
    simp [portI]
  | x :: r, p, 0, _, _, h2 => by
    have h0 := h2 (by simp)
    simp only [List.getElem_cons_zero] at h0
    simp only [portI, List.getElem?_cons_zero, Option.some.injEq, List.take_zero, List.nil_append, List.drop_zero]
    rw [if_neg h0]
  | x :: r, p, k + 1, hk, h1, h2 => by
    have h0 := h1 0 (by simp) (by omega)
    simp only [List.getElem_cons_zero] at h0
    have ih := portI_at r p k (by simpa using hk) (fun j hj hjk => by have := h1 (j + 1) (by simpa using hj) (by omega); simpa using this) (fun h => by have := h2 (by simpa using h); simpa using this)
    simp only [portI, List.getElem?_cons_succ, List.take_succ_cons, List.drop_succ_cons, List.cons_append]
    rw [if_pos h0, ih]
    split <;> rfl
theorem portI_mem : ∀ (l : List Int) (p x : Int), x ∈ portI l p ↔ x ∈ l ∨ x = p
  | [], p, x => by simp [portI]
  | y :: r, p, x => by
    rw [portI]
    split
    · rw [List.mem_cons, portI_mem r p x, List.mem_cons]; exact or_assoc.symm
    · split
      · rename_i h; subst h
        rw [List.mem_cons]
        constructor
        · intro h; exact .inl h
        · rintro (h | h)
          · exact h
          · exact .inl h
      · rw [List.mem_cons (b := p)]; exact or_comm
theorem portI_up : ∀ (l : List Int) (p : Int), l.Pairwise (· < ·) → (portI l p).Pairwise (· < ·)
  | [], p, _ => List.pairwise_singleton _ _
  | y :: r, p, h => by
    have h' := List.pairwise_cons.1 h
    rw [portI]
    split
    · rename_i h0
      refine List.pairwise_cons.2 ⟨fun z hz => ?_, portI_up r p h'.2⟩
      rcases (portI_mem r p z).1 hz with hz | rfl
      · exact h'.1 z hz
      · exact h0
    · split
      · exact h
      · refine List.pairwise_cons.2 ⟨fun z hz => ?_, h⟩
        rcases List.mem_cons.1 hz with rfl | hz
        · omega
        · have := h'.1 z hz; omega
theorem up_eq : ∀ (a b : List Int), a.Pairwise (· < ·) → b.Pairwise (· < ·) → (∀ x, x ∈ a ↔ x ∈ b) → a = b
  | [], [], _, _, _ => rfl
  | [], y :: s, _, _, h => by have := (h y).2 (by simp); cases this
  | x :: r, [], _, _, h => by have := (h x).1 (by simp); cases this
  | x :: r, y :: s, ha, hb, h => by
    have ha' := List.pairwise_cons.1 ha
    have hb' := List.pairwise_cons.1 hb
    have e : x = y := by
      rcases List.mem_cons.1 ((h x).1 (by simp)) with h1 | h1
      · exact h1
      · rcases List.mem_cons.1 ((h y).2 (by simp)) with h2 | h2
        · exact h2.symm
        · have := hb'.1 x h1; have := ha'.1 y h2; omega
    subst e
    congr 1
    refine up_eq r s ha'.2 hb'.2 fun z => ?_
    have hz := h z
    rw [List.mem_cons, List.mem_cons] at hz
    constructor
    · intro h1
      rcases hz.1 (.inr h1) with rfl | h2
      · have := ha'.1 z h1; omega
      · exact h2
    · intro h1
      rcases hz.2 (.inr h1) with rfl | h2
      · have := hb'.1 z h1; omega
      · exact h2
theorem ports_snoc (l : List Int) (p : Int) : onceI (sortI (l ++ [p])) = portI (onceI (sortI l)) p := by
  refine up_eq _ _ (once_up (sortI_up _)) (portI_up _ _ (once_up (sortI_up _))) fun x => ?_
  rw [portI_mem, once_iff, once_iff, sortI_mem, sortI_mem, List.mem_append, List.mem_singleton]
theorem portI_len (l : List Int) (p : Int) : (portI l p).length ≤ l.length + 1 := by
  induction l with
  | nil => simp [portI]
  | cons y r ih =>
    rw [portI]
    split
    · simp; omega
    · split <;> simp
theorem once_len (l : List Int) : (onceI l).length ≤ l.length := by
  unfold onceI compact compactUpTo
  rw [List.length_map]
  exact Nat.le_trans (List.length_filter_le _ _) (by simp)
end Go.Proofs.YtghopakbefageaaGreat
namespace Go.Proofs.YtghopakbefageaaGreat
def rSegB (s : GSeg) : Bool := permOk s.perm && decide (s.addr % 256 = 0) && decide (256 ≤ s.addr) && decide (s.addr < 131072) && decide (1 ≤ s.bytes.size) && decide ((s.bytes.size : Int) ≤ 131072 - s.addr)
/-- the beginning of a segment's last page -/
def lastOf (s : GSeg) : Int := s.addr + 256 * (((s.bytes.size - 1) / 256 : Nat) : Int)
def rSegsGo : Int → List GSeg → Bool
  | _, [] => true
  | last, s :: r => rSegB s && decide (last < s.addr) && rSegsGo (lastOf s) r
/-- how the two running numbers hang together -/
def LastFree (last free : Int) : Prop := (last = -1 ∧ free = 256) ∨ (free = last + 256 ∧ last % 256 = 0 ∧ 256 ≤ last)
theorem rSeg_step {last free : Int} (h : LastFree last free) (s : GSeg) : (rSegB s && decide (last < s.addr)) = segOkP free s ∧ (segOkP free s = true → LastFree (lastOf s) (roundP (endOf s))) := by
  obtain ⟨a, p, b⟩ := s
  unfold rSegB segOkP endOf
  simp only []
  constructor
  · rw [Bool.eq_iff_iff]
    simp only [Bool.and_eq_true, decide_eq_true_eq]
    constructor
    · rintro ⟨⟨⟨⟨⟨⟨h1, h2⟩, h3⟩, h4⟩, h5⟩, h6⟩, h7⟩
      exact ⟨⟨⟨⟨h1, h2⟩, by rcases h with ⟨rfl, rfl⟩ | ⟨rfl, h8, h9⟩ <;> omega⟩, h5⟩, by omega⟩
    · rintro ⟨⟨⟨⟨h1, h2⟩, h3⟩, h4⟩, h5⟩
      refine ⟨⟨⟨⟨⟨⟨h1, h2⟩, ?_⟩, by omega⟩, h4⟩, by omega⟩, ?_⟩ <;> rcases h with ⟨rfl, rfl⟩ | ⟨rfl, h8, h9⟩ <;> omega
  · simp only [Bool.and_eq_true, decide_eq_true_eq]
    rintro ⟨⟨⟨⟨h1, h2⟩, h3⟩, h4⟩, h5⟩
    right
    unfold lastOf roundP
    simp only []
    have hb : 256 ≤ a := by rcases h with ⟨rfl, rfl⟩ | ⟨rfl, h8, h9⟩ <;> omega
    omega
theorem rSegsGo_eq : ∀ (l : List GSeg) (last free : Int), LastFree last free → rSegsGo last l = segsOkGo free l
  | [], _, _, _ => rfl
  | s :: r, last, free, h => by
    obtain ⟨h1, h2⟩ := rSeg_step h s
    rw [rSegsGo, segsOkGo, h1]
    cases hs : segOkP free s with
    | false => rfl
    | true => rw [rSegsGo_eq r _ _ (h2 hs)]
def rImgB (x : GImg) : Bool := rSegsGo (-1) x.segs && (manOkB x.man && decide (1 ≤ x.segs.length) && decide (x.segs.length ≤ 8) && (x.segs.any (begP x.entry) && decide (x.entry % 8 = 0)))
theorem rImg_eq (x : GImg) : rImgB x = imgOkB x := by
  unfold rImgB imgOkB
  rw [rSegsGo_eq _ (-1) 256 (.inl ⟨rfl, rfl⟩)]
  generalize segsOkGo 256 x.segs = a
  generalize manOkB x.man = b
  generalize decide (1 ≤ x.segs.length) = c
  generalize decide (x.segs.length ≤ 8) = d
  generalize x.segs.any (begP x.entry) = e
  generalize decide (x.entry % 8 = 0) = f
  revert a b c d e f
  decide
end Go.Proofs.YtghopakbefageaaGreat
namespace Go.Proofs.YtghopakbefageaaGreat
open Go.RowKit
/-- x[:k] -/
theorem slice_pre {P : Program} (t e : TypeId) (pv : Option Addr) (len cap k s : Nat) (ht : P.underlying t = some (.slice e)) (hs : ∀ w, (sizeOf e).run P w = .ok s w) (h : k ≤ cap) (w : World) :
    (Instr.slice t (.slice pv len cap) none (some (.int .i64 (k : Int))) none).run P w = .ok (.slice pv k cap) w := by
  have he : P.elem t = e := by simp [Program.elem, ht]
  rw [run_slice_h w t pv len cap (by rw [he]; exact ht) .i64 k (by omega) (by omega), he, hs]
  simp [Result.andThen, sliced]
  cases pv <;> simp [Addr.add]
/-- x[k:] -/
theorem slice_suf {P : Program} (t e : TypeId) (pv : Option Addr) (len cap k s : Nat) (ht : P.underlying t = some (.slice e)) (hs : ∀ w, (sizeOf e).run P w = .ok s w) (h : k ≤ len) (hc : len ≤ cap) :
    ∃ q, (∀ w, (Instr.slice t (.slice pv len cap) (some (.int .i64 (k : Int))) none none).run P w = .ok (.slice q (len - k) (cap - k)) w) ∧ ∀ b o, k < len → pv = some ⟨b, o, none⟩ → q = some ⟨b, o + k * s, none⟩ := by
  have he : P.elem t = e := by simp [Program.elem, ht]
  refine ⟨if cap = k then pv else pv.map (·.add (k * s)), fun w => ?_, fun b o hk hp => ?_⟩
  · rw [run_slice_l w t pv len cap (by rw [he]; exact ht) .i64 k (by omega) (by omega), he, hs]
    simp [Result.andThen, sliced]
  · subst hp
    rw [if_neg (by omega), Option.map_some, add_at]
end Go.Proofs.YtghopakbefageaaGreat
namespace Go.Proofs.YtghopakbefageaaGreat
open Go.RowKit
section
variable {P : Program} {ops : Array Oper} {Q : Exit → Act → World → Prop} {md : Region.Mode} {S : World → Prop}
/-- whichever comes up: S holds behind it -/
def wpAnyS (P : Program) (md : Region.Mode) (ops : Array Oper) (Q : Exit → Act → World → Prop) (S : World → Prop) : Nat → Array Bool → Act → World → Prop
  | 0, listed, a, w => Region.ready md ops listed = [] ∧ Q .normal a w
  | fuel + 1, listed, a, w =>
    (Region.ready md ops listed = [] → Q .normal a w) ∧
    ∀ i ∈ Region.ready md ops listed, wpOp P ops Q i (fun a' w' => S w' ∧ wpAnyS P md ops Q S fuel (listed.setIfInBounds i true) a' w') a w
theorem wpAny_of_S : ∀ (fuel : Nat) (listed : Array Bool) (a : Act) (w : World), wpAnyS P md ops Q S fuel listed a w → wpAny P md ops Q fuel listed a w
  | 0, _, _, _, h => h
  | fuel + 1, _, _, _, h => ⟨h.1, fun i hi => wpOp_mono (fun a' w' h' => wpAny_of_S fuel _ a' w' h'.2) (h.2 i hi)⟩
theorem wpAnyS_first {i : Nat} {oi : Oper} {v : Value} (hi : ops[i]? = some oi) (hsel : ∀ (j : Nat) (o : Oper) cs b, ops[j]? = some o → o.op ≠ .select cs b)
    (hQ : ∀ c a w, Q (.panic c) (a.put oi.dst v) w → Q (.panic c) a w) :
    ∀ (fuel : Nat) (listed : Array Bool) (a : Act) (w : World),
      (∀ j oj, ops[j]? = some oj → j ≠ i → listed.getD j true = false → (∀ e ∈ oj.after, Region.binds md e = true → e.on ≠ i) → oi.apart ops oj = true) →
      i ∈ Region.ready md ops listed → YieldsIf P ops S oi v a → S w →
      wpAnyS P md ops Q S fuel (listed.setIfInBounds i true) (a.put oi.dst v) w → wpAnyS P md ops Q S (fuel + 1) listed a w := by
  intro fuel
  induction fuel with
  | zero =>
    intro listed a w _ hr hy hS H
    refine ⟨fun h => (by rw [h] at hr; cases hr), fun j hj => ?_⟩
    by_cases hji : j = i
    · subst hji; exact hy.wpOp hi hS ⟨hS, H⟩
    · have := ready_mono hj hji
      rw [H.1] at this
      cases this
  | succ fuel ih =>
    intro listed a w hfree hr hy hS H
    refine ⟨fun h => (by rw [h] at hr; cases hr), fun j hj => ?_⟩
    by_cases hji : j = i
    · subst hji; exact hy.wpOp hi hS ⟨hS, H⟩
    · have h1 := H.2 j (ready_mono hj hji)
      obtain ⟨hjun, oj, hoj, hall⟩ := mem_ready.1 hj
      have hnot : ∀ e ∈ oj.after, Region.binds md e = true → e.on ≠ i := fun e he hb heq => by
        have h1 := hall e he hb
        have h0 := (mem_ready.1 hr).1
        rw [heq, getD_both h0] at h1
        cases h1
      have h2 := wpOp_putIf hoj (hfree j oj hoj hji hjun hnot) (fun cs b => hsel i oi cs b hi) (fun cs b => hsel j oj cs b hoj) hQ hy h1
      have hfree' : ∀ k ok, ops[k]? = some ok → k ≠ i → (listed.setIfInBounds j true).getD k true = false →
          (∀ e ∈ ok.after, Region.binds md e = true → e.on ≠ i) → oi.apart ops ok = true := fun k ok hk hki hun hno => by
        refine hfree k ok hk hki ?_ hno
        by_cases hjk : j = k
        · subst hjk; exact hjun
        · rw [getD_set_ne true hjk] at hun; exact hun
      refine wpOp_mono (fun a' w' h3 => ?_) h2
      refine ⟨h3.2.1, ih (listed.setIfInBounds j true) a' w' hfree' (ready_mono hr (Ne.symm hji)) h3.1 h3.2.1 ?_⟩
      rw [Array.setIfInBounds_comm _ _ hji]
      exact h3.2.2
def Region.headS (md : Region.Mode) (ops : Array Oper) : List Nat → Array Bool → Bool
  | [], _ => true
  | k :: r, listed => (Region.ready md ops listed).contains k && Region.free md ops listed k && Region.headS md ops r (listed.setIfInBounds k true)
theorem wpAnyS_heads {n : Nat} (hsel : Region.noSelect ops = true) (hQ : ∀ c a d v w, Q (.panic c) (Act.put a d v) w → Q (.panic c) a w) (w : World) (hS : S w) : ∀ (l : List Nat) (listed : Array Bool) (a : Act),
    Region.headS md ops l listed = true → wpReads P ops S (fun a' => wpAnyS P md ops Q S n (setsT l listed) a' w) (getAll ops l) a → wpAnyS P md ops Q S (l.length + n) listed a w
  | [], listed, a, hB, h => by simpa [setsT, getAll, wpReads] using h
  | k :: l, listed, a, hB, h => by
    simp only [Region.headS, Bool.and_eq_true] at hB
    obtain ⟨⟨hr, hf⟩, hB'⟩ := hB
    have hr' : k ∈ Region.ready md ops listed := by simpa using hr
    obtain ⟨-, o, ho, -⟩ := mem_ready.1 hr'
    have e : getAll ops (k :: l) = o :: getAll ops l := by simp [getAll, ho]
    rw [e] at h
    rw [show (k :: l).length + n = l.length + n + 1 by simp; omega]
    unfold wpReads at h
    split at h
    · rename_i hwn
      obtain ⟨v, hv, hn⟩ := h
      exact wpAnyS_first ho (Region.noSelect_spec hsel) (fun c a w => hQ c a _ _ w) _ listed a w (Region.free_spec ho hf) hr' (.inl ⟨hwn, fun w hw => hv ⟨w, hw⟩⟩) hS
        (wpAnyS_heads hsel hQ w hS l _ _ hB' hn)
    · rename_i hwn
      exact wpAnyS_first ho (Region.noSelect_spec hsel) (fun c a w => hQ c a _ _ w) _ listed a w (Region.free_spec ho hf) hr' (.inr ⟨by simpa using hwn, rfl⟩) hS
        (wpAnyS_heads hsel hQ w hS l _ _ hB' h)
/-- the reads hs are ready: they are taken now -/
theorem wpAnyS_take {n m : Nat} {l : List Oper} {listed : Array Bool} {a : Act} {w : World} (hs : List Nat) (hsel : Region.noSelect l.toArray = true) (hB : Region.headS md l.toArray hs listed = true) (hn : hs.length + n = m) {rs : List Oper} (hrs : getAll l.toArray hs = rs) {ls : Array Bool} (hls : setsT hs listed = ls) (hS : S w)
    (h : wpReads P l.toArray S (fun a' => wpAnyS P md l.toArray (NoPanic Q) S n ls a' w) rs a) : wpAnyS P md l.toArray (NoPanic Q) S m listed a w := by
  subst hrs; subst hls; subst hn
  exact wpAnyS_heads hsel (fun _ _ _ _ _ h => h) w hS hs listed a hB h
theorem wp_region_turn {id : Nat} {a : Act} {w : World} {l : List Oper} (S : World → Prop) (hm : P.follows .mixedOrders = true) {n : Nat} (hn : l.length = n) {ls : Array Bool} (hls : Array.replicate l.length false = ls)
    (h : wpAnyS P .any l.toArray (NoPanic Q) S n ls a w.drew) : (Code.region id l.toArray true).wp P Q a w := by
  subst hls; subst hn
  refine wp_region_noPanic ?_
  refine wp_region_any hm (wpAny_of_S (S := S) _ _ _ _ ?_)
  simpa using h
theorem wpAnyS_one {l : List Oper} {n i : Nat} {oi : Oper} {listed : Array Bool} {a : Act} {w : World} (hr : Region.ready md l.toArray listed = [i]) (hi : l[i]? = some oi)
    (h : ∀ K : Act → World → Prop, (∀ a w, S w → wpAnyS P md l.toArray Q S n (listed.setIfInBounds i true) a w → K a w) → if Region.wanted oi (yielded l.toArray a.tmps) = true then Oper.wp P oi a w K Q else K (a.put oi.dst undef) w) :
    wpAnyS P md l.toArray Q S (n + 1) listed a w := by
  refine ⟨fun h1 => (by rw [hr] at h1; cases h1), fun j hj => ?_⟩
  rw [hr] at hj
  obtain rfl : j = i := by simpa using hj
  have := h (fun a' w' => S w' ∧ wpAnyS P md l.toArray Q S n (listed.setIfInBounds j true) a' w') (fun _ _ h1 h2 => ⟨h1, h2⟩)
  unfold wpOp; simp only [List.getElem?_toArray, hi]; split at this; (· rename_i hw; rw [if_pos hw]; exact .inl this); (· rename_i hw; rw [if_neg hw]; exact this)
theorem wpAnyS_done {n : Nat} {listed : Array Bool} {a : Act} {w : World} (hr : Region.ready md ops listed = []) (h : Q .normal a w) : wpAnyS P md ops Q S n listed a w := by
  cases n with
  | zero => exact ⟨hr, h⟩
  | succ n => exact ⟨fun _ => h, by rw [hr]; simp⟩
end
/-- a call of a Go function, guarded or not, as one step of a region that draws -/
theorem step_callW {P : Program} {ops : Array Oper} {o : Oper} {a : Act} {w : World} {K : Act → World → Prop} {Q : Exit → Act → World → Prop} {E : Prop}
    (hw : Region.wanted o (yielded ops a.tmps) = true) (f : FuncId) (xs : Array Operand) (ats : Array TypeId) (hop : o.op = Op.call { callee := Callee.value (Operand.func f), args := xs, argTypes := ats })
    {fn : Func} (hf : P.funcs[f]? = some fn) (hn : (fn.name == "runtime.NumGoroutine") = false) (hb : fn.body.isNone = false)
    (vs : Array Value) (hv : xs.map a.eval = vs) {Post : Ending → World → Prop} (hC : Calls P f vs w Post) (hK : ∀ e w', Post e w' → ∃ v, e = .returned v ∧ K (a.put o.dst v) w') :
    if Region.wanted o (yielded ops a.tmps) = true then Oper.wp P o a w K Q else E := by
  rw [if_pos hw]
  obtain ⟨dst, op, ty, pos, after, guard⟩ := o
  simp only at hop
  subst hop; subst hv
  unfold Oper.wp
  rw [execOp_call_go]
  have e : (#[] ++ xs.map a.eval ++ #[] : Array Value) = xs.map a.eval := by simp
  rw [e, run_call_go hf hn hb, Oper.upon_enter]
  refine Calls.mono hC fun e w' hp => ?_
  obtain ⟨v, rfl, hk⟩ := hK e w' hp
  exact hk
/-- append onto a row of one's own from whatever row of cells, guarded or not, as one step of a region that draws -/
theorem step_append_srcW {P : Program} {ops : Array Oper} {o : Oper} {a : Act} {w : World} {K : Act → World → Prop} {Q : Exit → Act → World → Prop} {E : Prop}
    (hw : Region.wanted o (yielded ops a.tmps) = true) (s x : Operand) (t : TypeId)
    (hop : o.op = .call { callee := .builtin .append, args := #[s, x], argTypes := #[t, t] })
    (base : Nat) (e : TypeId) (i : TypeInfo) (z : Value) (size bytes : Nat) (ht : P.underlying t = some (.slice e)) (hi : P.info? e = some i) (hz : i.zero = some z)
    (hsize : i.size = size) (hby : i.bytes = bytes) (hzs : z.cells.size = size) (hsz : 0 < size) (v : Value) (n : Nat) (xs : List Value) (hs : a.eval s = v) (hown : w.ownsRow base e size v n xs)
    (p : Option Addr) (m c b off : Nat) (news : List Value) (hx : a.eval x = .slice p m c) (hp : 0 < m → p = some ⟨b, off, none⟩) (hl : news.length = m * size) (hnews : 0 < m → ∀ j u, news[j]? = some u → w.cell? ((⟨b, off, none⟩ : Addr).add j) = some u) (h1 : ∀ u ∈ news, u.oneCell' = true)
    (hm : n + m ≤ maxLen) (hbytes : (n + m) * bytes ≤ 140737488355328) (hbase : base ≤ w.heap.size)
    (hK : ∀ v' w', w'.ownsRow base e size v' (n + m) (xs ++ news) → w.grownBy w' v.ownBlock → K (a.put o.dst v') w') :
    if Region.wanted o (yielded ops a.tmps) = true then Oper.wp P o a w K Q else E := by
  rw [if_pos hw]
  by_cases h0 : m = 0
  · subst h0
    have hrun := run_append_own_empty (P := P) (w := w) base t o.type e i size ht hi v n xs hown p c
    have hn : news = [] := List.eq_nil_of_length_eq_zero (by rw [hl, Nat.zero_mul])
    subst hn
    unfold Oper.wp
    simp [execOp, hop, resolve, invoke, builtin, hs, hx, hrun, Result.andThen]
    exact hK _ _ (by simpa using hown) (World.grownBy.refl w _)
  · obtain rfl := hp (by omega)
    obtain ⟨v', w', hrun, r1, r2, -, -⟩ := run_append_own_at (P := P) w base t o.type e i z size bytes ht hi hz hsize hby hzs hsz v n xs hown _ m c news hl (hnews (by omega)) h1 hm hbytes hbase
    unfold Oper.wp
    simp [execOp, hop, resolve, invoke, builtin, hs, hx, hrun, Result.andThen]
    exact hK v' w' r1 r2
end Go.Proofs.YtghopakbefageaaGreat
