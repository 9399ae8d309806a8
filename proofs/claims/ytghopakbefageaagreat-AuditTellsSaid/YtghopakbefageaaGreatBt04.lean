/- Arguments opened: rows and fields, whatever the program. No program in sight. What joins a law's contract to its card, for every law. slices.Sort at a row of integers of any kind: SortUA (the worked proofs at int64, turned to a kind K). -/
import Derived.Test.YtghopakbefageaaGreatBt02
import Derived.ProofKit
import Derived.Deep.Slices
import Derived.Deep.Fields
import Derived.SizedLaws
import Derived.OpenShut
import Derived.Test.YtghopakbefageaaGreatRows
import Derived.Deep.DeepHandedRow
import Derived.Lay
import Derived.LaidMore
import Derived.Stop.Joined
import Derived.Carry
import Derived.Lib.SmallJoins
import Derived.Shelf.SlLaysM
import Derived.Sort.WalkA
import Derived.OwnWalkIn
import Derived.TacticsInMore
import Derived.RegionIn
import Derived.LoopNIn
import Derived.LoopIn
import Derived.Sort.CutIn
import Derived.Sort.QuietIn
import Derived.Sort.AtCallIn
import Derived.Sort.BigQuietIn
import Derived.Shelf.RegionOpen
import Derived.Shelf.AbstractIn
import Derived.Test.YtghopakbefageaaGreatBt01
namespace Go.Proofs.YtghopakbefageaaGreat
open Go.ChangeShapes Go.WideShapes Go.ChangeAt Go.RowKit Go.Deep
section
variable {H : Type} {enc : TypeId × Value → H} {w : World} {base : Nat} {spare : Nat → Bool} {held : Bool}
def Small (P : Program) (t : TypeId) (d : DataW H) : Prop := (d.weights P t).all (· ≤ reachBytes) = true
theorem small_all {P : Program} {e : TypeId} : ∀ {l : List (DataW H)}, (DataW.weightsAll P e l).all (· ≤ reachBytes) = true → ∀ d ∈ l, Small P e d
  | [], _, d, hd => by cases hd
  | a :: r, h, d, hd => by
    simp only [DataW.weightsAll, List.all_append, Bool.and_eq_true] at h
    rcases List.mem_cons.1 hd with rfl | hd
    · exact h.1
    · exact small_all h.2 d hd
theorem small_each {P : Program} : ∀ {ts : List TypeId} {l : List (DataW H)}, (DataW.weightsEach P ts l).all (· ≤ reachBytes) = true → ∀ (j : Nat) (t : TypeId) (d : DataW H), ts[j]? = some t → l[j]? = some d → Small P t d := by
  intro ts l h j t d ht hd
  unfold Small
  rw [List.all_eq_true] at h ⊢
  exact fun n hn => h n (DataW.weights_mem_each ht hd n hn)
theorem add_eq (b o i : Nat) : (⟨b, o, none⟩ : Addr).add i = ⟨b, o + i, none⟩ := by
  unfold Addr.add
  by_cases h : i = 0 <;> simp [h]
theorem spot_none {a : Addr} {v : Value} (h : w.cell? a = some v) : a.spot = none := by
  unfold World.cell? at h
  split at h
  · split at h
    · cases h
    · rename_i hs; simpa using hs
  · cases h
theorem add_zero (a : Addr) : a.add 0 = a := by simp [Addr.add]
/-- a slice: if each of its elements is held as R says, the slice is a row of them -/
theorem open_row {α : Type} {P : Program} {t e : TypeId} {k : Nat} {R : World → Nat → Nat → α → Prop} (ht : P.underlying t = some (.slice e)) (hk : P.cellsOf e = k) (hk0 : 0 < k) (hby : 1 ≤ P.bytesOf e)
    (hel : ∀ (b o : Nat) (cs : List Value) (n : Nat) (d : DataW H × List MemPlace), b < w.heap.size → cs.length = k → (∀ j, j < k → w.cell? ⟨b, o + j, none⟩ = cs[j]?) → DataW.trod enc P w base spare held n e cs = some d → Small P e d.1 → ∃ y, R w b o y)
    {fuel : Nat} {cs : List Value} {x : DataW H × List MemPlace} (h : DataW.trod enc P w base spare held fuel t cs = some x) (hs : Small P t x.1) : ∃ v l, cs = [v] ∧ RowAt k R w v l := by
  subst hk
  rcases open_slice ht h with ⟨rfl, rfl⟩ | ⟨a, len, cap, m, n, D, Pl, rfl, hb, hl, hm, hmm, rfl, hi⟩
  · exact ⟨_, [], rfl, none, 0, 0, 0, rfl, Nat.le_refl _, by simp, fun h => by simp at h, fun i h => by simp at h⟩
  have hlm : len ≤ m := by rw [hmm]; split <;> omega
  unfold Small at hs
  simp only [DataW.weights, ht, List.all_cons, List.all_append, Bool.and_eq_true, decide_eq_true_eq, List.length_map, List.length_range] at hs
  obtain ⟨hs1, hs2, _⟩ := hs
  have hsz : ∀ i, i < len → Small P e (D i) := fun i hi => small_all hs2 (D i) (List.mem_map.2 ⟨i, List.mem_range.2 hi, rfl⟩)
  have hlen : len ≤ 140737488355328 := by
    have h1 : len ≤ (len + (m - len)) * P.bytesOf e := Nat.le_trans (by omega) (Nat.le_mul_of_pos_right _ hby)
    have := reachBytes_lt
    omega
  by_cases h0 : len = 0
  · subst h0
    exact ⟨_, [], rfl, some a, cap, 0, 0, rfl, hl, by simp, fun h => by simp at h, fun i h => by simp at h⟩
  obtain ⟨c0, hc0, _⟩ := hi 0 (by omega)
  obtain ⟨_, hcl0, hat0⟩ := World.cells?_some hc0
  have hsp : a.spot = none := by
    have h1 := hat0 0 hk0
    rw [Nat.zero_mul, add_zero, add_zero] at h1
    exact spot_none (h1.trans (List.getElem?_eq_getElem (by omega)))
  obtain ⟨b, o, sp⟩ := a
  simp only at hsp
  subst hsp
  have hblk : b < w.heap.size := by
    have h1 := hat0 0 hk0
    rw [Nat.zero_mul, add_zero, add_zero] at h1
    exact World.block_lt_of_cell? w ⟨b, o, none⟩ (h1.trans (List.getElem?_eq_getElem (by omega)))
  have hall : ∀ i : Fin len, ∃ y, R w b (o + i.val * P.cellsOf e) y := fun i => by
    obtain ⟨cs', hc, htr⟩ := hi i.val (by omega)
    obtain ⟨_, hcl, hat⟩ := World.cells?_some hc
    refine hel b _ cs' n _ hblk hcl (fun j hj => ?_) htr (hsz i.val i.isLt)
    have := hat j hj
    rwa [add_eq, add_eq] at this
  have hch := Classical.axiomOfChoice hall
  obtain ⟨f, hf⟩ := hch
  refine ⟨_, List.ofFn f, rfl, some ⟨b, o, none⟩, cap, b, o, by simp, by simpa using hl, by simpa using hlen, fun _ => rfl, fun i h => ?_⟩
  have := hf ⟨i, by simpa using h⟩
  simpa using this
theorem fst_of {x y : DataW H × List MemPlace} (h : some x = some y) : x.1 = y.1 := by cases h; rfl
/-- a struct of one-cell fields: its cells, and the reading of each -/
theorem open_fields {P : Program} {t : TypeId} {fs : Array Field} {n : Nat} {cs : List Value} {d : DataW H × List MemPlace} (ht : P.underlying t = some (.struct fs)) (hone : oneCellFields P fs = true)
    (h : DataW.trod enc P w base spare held n t cs = some d) (hs : Small P t d.1) (hlen : cs.length = fs.size) :
    ∃ m, ∀ (j : Nat) (f : Field), fs[j]? = some f → ∃ (v : Value) (y : DataW H × List MemPlace), cs[j]? = some v ∧ DataW.trod enc P w base spare held m f.type [v] = some y ∧ Small P f.type y.1 := by
  obtain ⟨xs, m, _, rfl, _, hxl, hf⟩ := DataW.trod_struct ht h
  unfold Small at hs
  simp only [DataW.weights, ht] at hs
  refine ⟨m, fun j f hj => ?_⟩
  obtain ⟨ho, hk⟩ := hone_of hone j f hj
  have hjl : j < fs.size := (Array.getElem?_eq_some_iff.1 hj).1
  have h1 := hf j f hj
  rw [ho, hk] at h1
  have hone' : (cs.drop j).take 1 = [cs[j]'(by omega)] := by rw [List.drop_eq_getElem_cons (by omega)]; rfl
  rw [hone', List.getElem?_eq_getElem (by omega)] at h1
  refine ⟨_, _, List.getElem?_eq_getElem (by omega), h1, ?_⟩
  refine small_each hs j f.type _ ?_ ?_
  · simp [hj]
  · simp [List.getElem?_eq_getElem (show j < xs.length by omega)]
theorem small_string {P : Program} {t : TypeId} {l : List UInt8} (h : Small (H := H) P t (.lit (.string l))) : l.length ≤ 140737488355328 := by
  unfold Small at h
  simp [DataW.weights] at h
  have := reachBytes_lt
  omega
theorem small_bytes {P : Program} {t : TypeId} {s : ByteArray} (h : Small (H := H) P t (.lit (.string s.data.toList))) : s.size ≤ 140737488355328 := by
  have := small_string h
  simpa using this
end
/-- arguments read as they did in a world that keeps all that there was -/
theorem trodAll_below {H : Type} {enc : TypeId × Value → H} {P : Program} (hl : laidOutB P = true) {W W' : World} (hb : Below W.heap.size W W') : ∀ {ts : List TypeId} {vs : List Value} {ds : List (DataW H)} {ps : List MemPlace},
    (ts.all fun t => P.readableRec t && decide (t < P.types.size)) = true → DataW.TrodAll enc P W 0 (fun _ => true) true ts vs ds ps → (∀ x ∈ ps, x.block < W.heap.size) →
    DataW.TrodAll enc P W' 0 (fun b => decide (b < W.heap.size)) true ts vs ds ps
  | [], [], [], ps, _, h, _ => h
  | t :: ts, v :: vs, d :: ds, ps, hr, h, hlt => by
    obtain ⟨p, q, h1, h2, rfl⟩ := h
    simp only [List.all_cons, Bool.and_eq_true, decide_eq_true_eq] at hr
    exact ⟨p, q, Below.trod hl hr.1.1 hr.1.2 h1 hb (fun x hx => hlt x (List.mem_append.2 (.inl hx))), trodAll_below hl hb (by simpa using hr.2) h2 (fun x hx => hlt x (List.mem_append.2 (.inr hx))), rfl⟩
  | [], _ :: _, _, _, _, h, _ => h.elim
  | [], [], _ :: _, _, _, h, _ => h.elim
  | _ :: _, [], _, _, _, h, _ => h.elim
  | _ :: _, _ :: _, [], _, _, h, _ => h.elim
theorem RowAt.split {α : Type} {k : Nat} {R : World → Nat → Nat → α → Prop} {B : α → Prop} {w : World} {v : Value} {l : List α} (h : RowAt k (fun w b o y => R w b o y ∧ B y) w v l) : RowAt k R w v l ∧ ∀ y ∈ l, B y := by
  obtain ⟨p, cap, b, o, h1, h2, h3, h4, h5⟩ := h
  refine ⟨⟨p, cap, b, o, h1, h2, h3, h4, fun i hi => (h5 i hi).1⟩, fun y hy => ?_⟩
  obtain ⟨i, hi, rfl⟩ := List.mem_iff_getElem.1 hy
  exact (h5 i hi).2
section
variable {H : Type} {enc : TypeId × Value → H} {w : World} {base : Nat} {spare : Nat → Bool} {held : Bool}
theorem slice_bytes {P : Program} {t e : TypeId} (ht : P.underlying t = some (.slice e)) {p : Option Addr} {n cap fuel : Nat} {x : DataW H × List MemPlace} (h : DataW.trod enc P w base spare held fuel t [.slice p n cap] = some x) (hs : Small P t x.1) : n * P.bytesOf e ≤ 140737488351232 := by
  rcases open_slice ht h with ⟨hcs, rfl⟩ | ⟨a, len, cap', m, n', D, Pl, hcs, hb, hl, hm, hmm, rfl, hi⟩
  · cases hcs; simp
  · cases hcs
    unfold Small at hs
    simp only [DataW.weights, ht, List.all_cons, List.all_append, Bool.and_eq_true, decide_eq_true_eq, List.length_map, List.length_range] at hs
    have h1 : n * P.bytesOf e ≤ (n + (m - n)) * P.bytesOf e := Nat.mul_le_mul_right _ (by omega)
    have h9 : reachBytes = 140737488351232 := rfl
    omega
theorem row_bytes {α : Type} {P : Program} {t e : TypeId} {k by' : Nat} {R : World → Nat → Nat → α → Prop} (ht : P.underlying t = some (.slice e)) (hby : P.bytesOf e = by') {v : Value} {l : List α} {fuel : Nat} {x : DataW H × List MemPlace}
    (h : DataW.trod enc P w base spare held fuel t [v] = some x) (hs : Small P t x.1) (hr : RowAt k R w v l) : l.length * by' ≤ 140737488351232 := by
  obtain ⟨p, cap, b, o, rfl, -⟩ := hr
  rw [← hby]
  exact slice_bytes ht h hs
end
end Go.Proofs.YtghopakbefageaaGreat
namespace Go.Proofs.YtghopakbefageaaGreat
open Go.ChangeShapes Go.WideShapes Go.ChangeAt Go.RowKit
open Go.ChangeMaps (open_string)
theorem own : ownKnob Tryz.prog.godebug = none := by kernel_rfl
theorem laidOut : laidOutB Tryz.prog = true := by kernel_rfl
/-- a law's post: it answers true and keeps all that there was -/
theorem law_post {H : Type} {enc : TypeId × Value → H} {f : Func} {s : ChangeSpec} {W W' : World} {args : Array Value} {ds : List (DataW H)} {before : List MemPlace}
    (hres : f.resultTypes.toList = [4]) (hvars : s.vars = []) (hr : (f.params.toList.all fun t => Tryz.prog.readableRec t && decide (t < Tryz.prog.types.size)) = true)
    (hW : DataW.Whole enc Tryz.prog f.params.toList s.vars false W args.toList ds [] before) (hs : s.fn H (ds ++ []) = { results := [.lit (.bool true)], args := ds }) (hb : Below W.heap.size W W') :
    s.post enc Tryz.prog f false true false false W args (.bool true) W' := by
  have hlt : ∀ x ∈ before, x.block < W.heap.size := fun x hx => hW.lt x hx
  have hW0 := hW
  obtain ⟨p, q, hA, hV, rfl, -, -⟩ := hW0
  refine ⟨ds, [], p ++ q, [], p, q, hW, ?_, ?_, ?_, hb.frame _, fun h => by cases h⟩
  · rw [hs, hres]
    have : f.resultTypes.size = 1 := by rw [← Array.length_toList, hres]; rfl
    rw [this]
    exact ⟨[], [], shut_bool Tryz.underlying4 true, rfl, rfl⟩
  · rw [hs]
    exact trodAll_below laidOut hb hr hA (fun x hx => hlt x (List.mem_append.2 (.inl hx)))
  · rw [hs, hvars]
    rw [hvars] at hV
    exact hV
end Go.Proofs.YtghopakbefageaaGreat
namespace Go.Proofs.YtghopakbefageaaGreat
open Go.Shelf Go.Sort Go.RowKit
variable {P : Program} {ρ : Ren} {K : IntKind}
open Go.RowKit Go.Sort
section
variable {α : Type} [Inhabited α] (lt : α → α → Bool)
end

section
variable {α : Type} [Inhabited α] (enc : α → Value)
end

set_option maxHeartbeats 32000000 in
set_option maxRecDepth 1000000 in
theorem AnyU.insertionSort_intIn (Ly : LaysU K P ρ) (D : Nat) (blk off cap a b : Nat) (d : Array Int) (w : World) (hH : Holds (Value.int K) w blk off d) (hab : a ≤ b) (hb : b ≤ d.size) (hsz : d.size < 4611686018427387904) :
    CallsIn (Fence.list [ρ.f 5, ρ.f 7, ρ.f 8, ρ.f 10, ρ.f 11, ρ.f 12, ρ.f 13, ρ.f 14, ρ.f 15, ρ.f 16, ρ.f 17, ρ.f 18, ρ.f 20, ρ.f 30, ρ.f 31, ρ.f 32, ρ.f 33, ρ.f 34, ρ.f 35, ρ.f 40] (some D)) 2 P (ρ.f 10) #[.slice (some ⟨blk, off, none⟩) d.size cap, .int .i64 a, .int .i64 b] w fun e w' =>
      e = .returned (.tuple #[]) ∧ ∃ n, w' = putRow (Value.int K) (Sort.ahead w n) blk off (Sort.insertionSort ltInt d a b) := by
  have mixed := Ly.mixed
  have t0 := Ly.t0; have a0 := Ly.a0; have z0 := Ly.z0; have v0 := Ly.v0; have t3 := Ly.t3; have a3 := Ly.a3; have z3 := Ly.z3; have v3 := Ly.v3; have t4 := Ly.t4; have a4 := Ly.a4; have z4 := Ly.z4; have v4 := Ly.v4; have t22 := Ly.t22; have a22 := Ly.a22; have z22 := Ly.z22; have v22 := Ly.v22; have t25 := Ly.t25; have a25 := Ly.a25; have z25 := Ly.z25; have v25 := Ly.v25
  have e216 : ∀ args w, (callFunc (ρ.f 16) args).run P w = .ok (.enter (ρ.f 16) args) w := Ly.f16.enters rfl
  obtain ⟨_, _, FG⟩ := Ly.f10
  gi_enter FG, SlBodyM.n10_ntmps ρ
  gi_wp2
  gi_loopw [6] (fun vi wr => ∃ (i n : Nat) (dk : Array Int), vi = .int .i64 i ∧ a < i ∧ i ≤ b + 1 ∧ dk.size = d.size ∧ wr = putRow (Value.int K) (Sort.ahead w n) blk off dk ∧
      insOuter ltInt a b i dk = insOuter ltInt a b (a + 1) d) (fun vi _ => b + 1 - (intOf vi).toNat)
  case atStart => exact ⟨a + 1, 0, d, by go_num, by omega, by omega, rfl, (putRow_self _ _ _ _ _ hH).symm, rfl⟩
  case round =>
    obtain ⟨i, n, dk, rfl, hai, hib, hsk, hwr, hO⟩ := hrel
    have HO : Hid (insOuter ltInt a b i dk = insOuter ltInt a b (a + 1) d) := hO
    clear hO
    gi_wp2
    · -- i < b: the inner loop
      gi_loopw [7] (fun vj wr2 => ∃ (j m : Nat) (dj : Array Int), vj = .int .i64 j ∧ a ≤ j ∧ j ≤ i ∧ dj.size = d.size ∧ wr2 = putRow (Value.int K) (Sort.ahead w m) blk off dj ∧
          insInner ltInt a j dj = insInner ltInt a i dk) (fun vj _ => (intOf vj).toNat)
      case atStart => exact ⟨i, n, dk, rfl, by omega, Nat.le_refl _, hsk, rfl, rfl⟩
      case round =>
        obtain ⟨j, m, dj, rfl, haj, hji, hsj, hw2, hI⟩ := hrel
        have hlt : i < b := by assumption
        obtain ⟨G, hG⟩ : ∃ G : Nat → Int, ∀ t, G t = dj[t]! := ⟨fun t => dj[t]!, fun _ => rfl⟩
        have hcw : ∀ t, t < d.size → wr.cell? ⟨blk, off + t, none⟩ = some (.int K (G t)) := fun t ht => by
          rw [hw2, hG]; exact cell?_putRow _ _ _ _ d dj (holds_ahead _ _ _ _ _ _ hH) hsj t (by omega)
        have hfw : ∀ t, t < d.size → wr.frozen? ⟨blk, off + t, none⟩ = false := fun t ht => by
          rw [hw2, frozen?_putRow]; exact ((holds_ahead _ _ m _ _ _ hH) t ht).2
        have HW : Hid (wr = putRow (Value.int K) (Sort.ahead w m) blk off dj) := hw2
        have HG : Hid (∀ t, G t = dj[t]!) := hG
        have HI : Hid (insInner ltInt a j dj = insInner ltInt a i dk) := hI
        clear hw2 hG hI hH
        have out : (j ≤ a ∨ ltInt dj[j]! dj[j - 1]! = false) → ∀ q, ∃ i' n' dk', Value.int .i64 ((i : Int) + 1) = .int .i64 (i' : Nat) ∧ a < i' ∧ i' ≤ b + 1 ∧ dk'.size = d.size ∧
            wr.drewN q = putRow (Value.int K) (Sort.ahead w n') blk off dk' ∧ insOuter ltInt a b i' dk' = insOuter ltInt a b (a + 1) d := fun hs q =>
          ⟨i + 1, m + q, dj, by go_num, by omega, by omega, hsj, by rw [HW.out]; exact putRow_drewN _ _ _ _ _ _ _,
            by rw [← HO.out, insOuter_go _ _ _ _ _ hlt, ← HI.out, insInner_stop _ _ _ _ hs]⟩
        have OUT : Hid _ := out
        clear out
        gi_wp2
        by_cases hja : a < j
        · gi_big_quiet_th_o (first | (gi_at_fn (ρ.f 16); refine CallsIn.quiet_of_same (AnyU.cmp_Less_intIn { Ly with } D _ _ _)))
          gi_wp2
          · -- Less: the swap, j--
            have hl : ltInt (G j) (G (j - 1)) = true := by assumption
            gi_region_o
            all_goals gi_wp2
            go_roundw
            case rel =>
              refine ⟨j - 1, m + (nq + 1), swp dj j (j - 1), by congr 1; omega, by omega, by omega, by rw [size_swp]; exact hsj, ?_, ?_⟩
              · rw [HW.out, HG.out, HG.out]
                exact swap_worldA _ w m (nq + 1) blk off dj j (j - 1) (by omega) (by omega)
              · rw [← HI.out, insInner_go ltInt a j dj hja (by rw [← HG.out, ← HG.out]; exact hl)]
            case measure => simp [intOf]; omega
          · -- not Less
            have hl : ltInt (G j) (G (j - 1)) = false := by assumption
            go_roundw
            case rel => exact OUT.out (Or.inr (by rw [← HG.out, ← HG.out]; exact hl)) nq
            case measure => simp [intOf]; omega
        · gi_big_quiet_th_o (first | (gi_at_fn (ρ.f 16); refine CallsIn.quiet_of_same (AnyU.cmp_Less_intIn { Ly with } D _ _ _)))
          gi_wp2
          go_roundw
          case rel => exact OUT.out (Or.inl (by omega)) nq
          case measure => simp [intOf]; omega
    · -- the outer loop is at its end
      have hge : ¬ i < b := by assumption
      go_end0
      exact ⟨rfl, n, by unfold Sort.insertionSort; rw [← HO.out, insOuter_stop _ _ _ _ _ hge]⟩
end Go.Proofs.YtghopakbefageaaGreat
