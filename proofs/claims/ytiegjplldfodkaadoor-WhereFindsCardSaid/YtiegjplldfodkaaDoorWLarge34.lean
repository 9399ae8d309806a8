/- The walk of aediculelaw34.Large, and append(nil, t...) of a table. -/
import Derived.Test.YtiegjplldfodkaaDoorTab34
import Derived.Test.YtiegjplldfodkaaDoorWRdg34
import Derived.WalkLawsBesides
import Derived.BigQuiet
import Derived.Maps.AppendAt
import Derived.Deep.Light
import Derived.Handy
namespace Go.Proofs.YtiegjplldfodkaaDoor
open Go.RowKit Go.Maps
theorem below_drewN {B : Nat} {a w : World} (h : Below B a w) (n : Nat) : Below B a (w.drewN n) := ⟨h.os, h.tape, h.output, h.size, h.block⟩
def LargePost (n : Nat) (w : World) (e : Ending) (w' : World) : Prop := ∃ b : Bool, e = .returned (.bool b) ∧ (b = false → n ≤ 1200) ∧ Below w.heap.size w w'
set_option maxRecDepth 100000 in
set_option maxHeartbeats 2000000 in
theorem large34_any (v : Value) (t : List GTs) (w : World) (h : TabAt w v t) :
    Calls Tryd.prog 5 #[v] w (LargePost t.length w) := by
  obtain ⟨p, cap, b, o, rfl, hcap, hmax, hp, hc⟩ := h
  have HC := Lib.hid hc; clear hc
  have HP := Lib.hid hp; clear hp
  go_enter Tryd.func5, Tryd.ntmps5
  go_wp2
  go_loopw [3, 4] (fun v3 v4 wr => ∃ (i : Nat) (n : Int), i ≤ t.length ∧ i ≤ 1200 ∧ v4 = .int .i64 i ∧ v3 = .int .i64 n ∧ ((t.length : Int) ≤ n ∧ n ≤ t.length + i * 4398046511104) ∧ Below w.heap.size w wr) (fun _ v4 _ => t.length - (intOf v4).toNat)
  case atStart => exact ⟨0, t.length, Nat.zero_le _, by omega, rfl, rfl, by omega, Below.refl _ _⟩
  case round =>
    obtain ⟨i, n, hi, hi40, rfl, rfl, hn, hbel⟩ := hrel
    have HB := Lib.hid hbel; clear hbel
    have hn0 := hn.1; have hn1 := hn.2; clear hn
    by_cases hlt : i < t.length ∧ i < 1200
    · obtain ⟨hlt1, hlt2⟩ := hlt
      obtain rfl := HP.out (by omega)
      obtain ⟨g0, g1, g2, -, -, -, hbd⟩ := tsR_keeps _ _ _ _ _ HB.out (HC.out i hlt1)
      obtain ⟨-, -, -, z1, z2⟩ := hbd
      generalize t[i].name = xn at g1 z1
      generalize t[i].object = xo at g2 z2
      have HN : Hid (n + ((xn.size : Int) + xo.size) / 64 ≤ t.length + ((i + 1 : Nat) : Int) * 4398046511104) := by rw [Hid]; omega
      have hq1 : IntKind.i64.wrap ((xn.size : Int) + xo.size) = (xn.size : Int) + xo.size := IntWalk.i64_in _ (by omega)
      have hq2 : IntKind.i64.wrap (n + ((xn.size : Int) + xo.size) / 64) = n + ((xn.size : Int) + xo.size) / 64 := IntWalk.i64_in _ (by omega)
      have hq0 : (t.length : Int) ≤ n + ((xn.size : Int) + xo.size) / 64 := by omega
      go_wp2_with fail
      go_quiet (fail)
      go_wp2
      go_roundw
      case rel => exact ⟨i + 1, _, by omega, by omega, by go_num, rfl, ⟨hq0, HN.out⟩, below_drewN HB.out _⟩
      case measure => simp [intOf]; omega
    · have HE : Hid (∀ b : Bool, b = decide (1200 < n) → LargePost t.length w (.returned (.bool b)) wr) := fun b hb => ⟨b, rfl, fun h => by
        have h2 := of_decide_eq_false (hb.symm.trans h)
        omega, HB.out⟩
      by_cases h1 : i < t.length
      · have h2 : ¬ i < 1200 := fun h => hlt ⟨h1, h⟩
        clear hlt
        go_wp2
        go_ret
        exact HE.out _ rfl
      · clear hlt
        go_wp2
        go_ret
        exact HE.out _ rfl
theorem info_tab : (Tryd.prog.info? 43).map (fun i => (i.zero, i.size, i.bytes)) = some (some (.agg #[.string ⟨#[]⟩, .string ⟨#[]⟩, .int .u32 0, .int .u32 0, .int .u8 0]), 5, 48) := by kernel_rfl
/-- append of no element onto nil -/
theorem run_append_none (w : World) (t ty e : TypeId) (i : TypeInfo) (ht : Tryd.prog.underlying t = some (.slice e)) (hi : Tryd.prog.info? e = some i) (c : Nat) :
    (Builtin.append_ #[t, t] ty #[.slice none 0 0, .slice none 0 c]).run Tryd.prog w = .ok (.slice none 0 0) w := by
  simp [Builtin.append_, run_underlying ht, sizeOf, typeInfo, hi, Builtin.lenOf, run_firstCells_none]
theorem copy_run (w : World) (p : Option Addr) (cap : Nat) (t : List GTs) (ty : TypeId) (h : TabAt w (.slice p t.length cap) t) (hl : t.length ≤ 1200) :
    ∃ v' w', (Builtin.append_ #[22, 22] ty #[.slice none 0 0, .slice p t.length cap]).run Tryd.prog w = .ok v' w' ∧ TabAt w' v' t ∧ Below w.heap.size w w' := by
  obtain ⟨iS, s0, s1, s2, s3⟩ := info_parts info_tab
  cases p with
  | none =>
    obtain ⟨p, cap', b, o, e', -, -, q1, -⟩ := id h
    injection e' with e1 e2 e3
    subst e1
    have h0 : t.length = 0 := by
      rcases Nat.eq_zero_or_pos t.length with h | h
      · exact h
      · exact absurd (q1 h) (by simp)
    rw [h0]
    refine ⟨_, _, run_append_none w _ ty _ iS Tryd.underlying22 s0 cap, ?_, Below.refl _ _⟩
    rw [List.eq_nil_of_length_eq_zero h0]
    exact rowAt_nil
  | some a =>
    have hbd := TabAt.bd h
    obtain ⟨p, cap', b, o, e', -, -, q1, q2⟩ := id h
    injection e' with e1 e2 e3
    subst e1; subst e3
    by_cases h0 : t.length = 0
    · obtain ⟨v', w', hrun, r1, r2, r3, r4⟩ := run_append_own_at (P := Tryd.prog) w w.heap.size 22 ty 43 iS _ 5 48 Tryd.underlying22 s0 s1 s2 s3 rfl (by decide) (.slice none 0 0) 0 [] (World.ownsRow_nil _ _ _ _) a t.length cap [] (by rw [h0]; rfl) (fun j u hj => by simp at hj) (fun u hu => by cases hu) (by unfold maxLen; omega) (by omega) (Nat.le_refl _)
      obtain rfl := List.eq_nil_of_length_eq_zero h0
      exact ⟨v', w', hrun, ts_back hbd (by simp) r1, (Below.refl _ _).grown r2 (Nat.le_refl _) (fun q e => by cases e)⟩
    · obtain rfl := Option.some.inj (q1 (by omega))
      obtain ⟨v', w', hrun, r1, r2, r3, r4⟩ := run_append_own_at (P := Tryd.prog) w w.heap.size 22 ty 43 iS _ 5 48 Tryd.underlying22 s0 s1 s2 s3 rfl (by decide) (.slice none 0 0) 0 [] (World.ownsRow_nil _ _ _ _) ⟨b, o, none⟩ t.length cap (t.flatMap tsCells) (flat_len tsCells_len t) (ts_news q2) tsCells_one (by unfold maxLen; omega) (by omega) (Nat.le_refl _)
      rw [Nat.zero_add, List.nil_append] at r1
      exact ⟨v', w', hrun, ts_back hbd (by omega) r1, (Below.refl _ _).grown r2 (Nat.le_refl _) (fun q e => by cases e)⟩
/-- append(nil, t...), as one step of a walk -/
theorem wpList_copyT {ops : Array Oper} {rest : List Oper} {o : Oper} {a : Act} {Q : Exit → Act → World → Prop} {w : World} (hgd : o.guard = none) (s x : Operand)
    (ho : o.op = .call { callee := .builtin .append, args := #[s, x], argTypes := #[22, 22] })
    (p : Option Addr) (cap : Nat) (t : List GTs) (hs : a.eval s = .slice none 0 0) (hx : a.eval x = .slice p t.length cap) (ht : TabAt w (.slice p t.length cap) t) (hl : t.length ≤ 1200)
    (h : ∀ v' w', TabAt w' v' t → Below w.heap.size w w' → wpList Tryd.prog ops Q rest (a.put o.dst v') w') : wpList Tryd.prog ops Q (o :: rest) a w := by
  refine wpList_plain hgd fun K hK => ?_
  obtain ⟨v', w', hr, h2, h3⟩ := copy_run w p cap t o.type ht hl
  unfold Oper.wp execOp
  simp only [ho, resolve, invoke, builtin, Sem.run_bind, Sem.run_pure, Result.andThen_ok, List.map_toArray, List.map_cons, List.map_nil, hs, hx, hr]
  exact hK _ _ (h v' w' h2 h3)
end Go.Proofs.YtiegjplldfodkaaDoor
