/- The walk of aediculeref11.May, at any manifest. -/
import Derived.Test.YtghopakbefageaaGreatBt23
import Derived.Test.YtghopakbefageaaGreatBt18
namespace Go.Proofs.YtghopakbefageaaGreat
open Go.RowKit Go.Maps
def PrefE (l : List (Int × Int)) (k : Nat) : Prop := ∀ j (h : j < l.length), j < k → extOk l[j] = true ∧ ∀ i (hi : i < l.length), i + 1 = j → l[i].1 < l[j].1
def PrefP (l : List Int) (k : Nat) : Prop := ∀ j (h : j < l.length), j < k → ¬ l[j] = 0 ∧ ∀ i (hi : i < l.length), i + 1 = j → l[i] < l[j]
theorem prefE_at (l : List (Int × Int)) : (l.all extOk && riseE l) = true ↔ PrefE l l.length := by
  rw [Bool.and_eq_true, List.all_eq_true, riseE_at]
  constructor
  · rintro ⟨h1, h2⟩ j hj _
    exact ⟨h1 _ (List.getElem_mem hj), fun i hi e => by subst e; exact h2 i hj⟩
  · intro h
    refine ⟨fun x hx => ?_, fun k hk => (h (k + 1) hk hk).2 k (by omega) rfl⟩
    obtain ⟨i, hi, rfl⟩ := List.mem_iff_getElem.1 hx
    exact (h i hi hi).1
theorem prefP_at (l : List Int) : (riseP l && !l.contains 0) = true ↔ PrefP l l.length := by
  rw [Bool.and_eq_true, riseP_at]
  constructor
  · rintro ⟨h1, h2⟩ j hj _
    refine ⟨fun e => ?_, fun i hi e => by subst e; exact h1 i hj⟩
    have : l.contains 0 = true := by simp; exact e ▸ List.getElem_mem hj
    rw [this] at h2; cases h2
  · intro h
    refine ⟨fun k hk => (h (k + 1) hk hk).2 k (by omega) rfl, ?_⟩
    cases hc : l.contains 0 with
    | false => rfl
    | true =>
      have hm : (0 : Int) ∈ l := by simpa using hc
      obtain ⟨i, hi, he⟩ := List.mem_iff_getElem.1 hm
      exact absurd he (h i hi hi).1
theorem manOk_split (m : GMan) : manOkB m = ((m.exts.all extOk && riseE m.exts) && (riseP m.ports && !m.ports.contains 0) && decide (m.ports.length ≤ 16) && decide (m.pages ≤ 1024)) := by
  unfold manOkB
  generalize m.exts.all extOk = a
  generalize riseE m.exts = b
  generalize riseP m.ports = c
  generalize m.ports.contains 0 = d
  generalize decide (m.ports.length ≤ 16) = e
  generalize decide (m.pages ≤ 1024) = f
  revert a b c d e f
  decide
theorem PrefE.next {l : List (Int × Int)} {k : Nat} (h : PrefE l k) (hk : k < l.length) (h1 : extOk l[k] = true) (h2 : ∀ i (hi : i < l.length), i + 1 = k → l[i].1 < l[k].1) : PrefE l (k + 1) := fun j hj hjk => by
  by_cases e : j = k
  · subst e; exact ⟨h1, h2⟩
  · exact h j hj (by omega)
theorem PrefP.next {l : List Int} {k : Nat} (h : PrefP l k) (hk : k < l.length) (h1 : ¬ l[k] = 0) (h2 : ∀ i (hi : i < l.length), i + 1 = k → l[i] < l[k]) : PrefP l (k + 1) := fun j hj hjk => by
  by_cases e : j = k
  · subst e; exact ⟨h1, h2⟩
  · exact h j hj (by omega)
set_option maxHeartbeats 8000000 in
set_option maxRecDepth 100000 in
theorem rman36 (m : GMan) (ve vp : Value) (w : World) (h : ManAt w m ve vp) :
    Calls Tryz.prog 68 #[.agg #[.int .u32 m.pages, ve, vp, .bool m.cons]] w fun e w' => e = .returned (.bool (manOkB m)) ∧ Below w.heap.size w w' := by
  have HOK := Lib.hid (manOk_split m)
  obtain ⟨mp, me, mq, mc⟩ := m
  obtain ⟨⟨p1, c1, b1, o1, rfl, -, hm1, hp1, hc1⟩, ⟨p2, c2, b2, o2, rfl, -, hm2, hp2, hc2⟩, hpg0, hpg1⟩ := h
  simp only [] at *
  have HE := Lib.hid (prefE_at me)
  have HQ := Lib.hid (prefP_at mq)
  have HC1 := Lib.hid hc1; clear hc1
  have HP1 := Lib.hid hp1; clear hp1
  have HC2 := Lib.hid hc2; clear hc2
  have HP2 := Lib.hid hp2; clear hp2
  generalize hW0 : (w.alloc (.cells #[.int .u32 mp, .slice p1 me.length c1, .slice p2 mq.length c2, .bool mc] 26)) = w1
  have HB1 : Hid (Below w.heap.size w w1) := by subst hW0; exact alloc_old w _
  have hz : w.heap.size < w1.heap.size := by subst hW0; simp
  have HN : Hid (w1.heap[w.heap.size]? = some (.cells #[.int .u32 mp, .slice p1 me.length c1, .slice p2 mq.length c2, .bool mc] 26 (0, 0))) := by subst hW0; exact new_block w _
  go_enter Tryz.func68, Tryz.ntmps68
  go_wp2_with fail
  try rw [hW0]
  clear hW0
  go_loopw [3] (fun v3 wr => ∃ k : Nat, v3 = .int .i64 k ∧ k ≤ me.length ∧ PrefE me k ∧ Below w1.heap.size w1 wr) (fun v3 _ => me.length - (intOf v3).toNat)
  case atStart => exact ⟨0, by go_num, Nat.zero_le _, fun _ _ h => absurd h (by omega), Below.refl _ _⟩
  case round =>
    obtain ⟨k, rfl, hk, hpre, hB⟩ := hrel
    have HPR := Lib.hid hpre; clear hpre
    have HB := Lib.hid hB
    have HBO : Hid (Below w.heap.size w wr) := HB1.out.trans (hB.mono (by omega))
    have HMR := Lib.hid ((hB.block _ hz).trans HN.out)
    have hzr : w.heap.size < wr.heap.size := by have := hB.size; omega
    clear hB
    have a1 := Lib.cell_of_heap HMR.out 1
    by_cases hlt : k < me.length
    · obtain rfl := HP1.out (by omega)
      obtain ⟨g0, g1, g2, g3, g4⟩ := extR_keeps _ _ _ _ _ HBO.out (HC1.out k hlt)
      have HNX := Lib.hid (fun h1 h2 => PrefE.next HPR.out hlt h1 h2)
      have HFL : Hid (∀ j (hj : j < me.length), ¬ (extOk me[j] = true ∧ ∀ i (hi : i < me.length), i + 1 = j → me[i].1 < me[j].1) → manOkB ⟨mp, me, mq, mc⟩ = false) := fun j hj hn => by
        rw [HOK.out]
        cases hh : (me.all extOk && riseE me) with
        | false => rfl
        | true => exact absurd (HE.out.1 hh j hj hj) hn
      have hfc : (extOk me[k] = true ∧ ¬ 16 ≤ me[k].1 ∧ ¬ me[k].2 < 1 ∧ ¬ 1024 < me[k].2) ∨ Hid (extOk me[k] = false ∧ 16 ≤ me[k].1) ∨ Hid (extOk me[k] = false ∧ ¬ 16 ≤ me[k].1 ∧ me[k].2 < 1) ∨ Hid (extOk me[k] = false ∧ ¬ 16 ≤ me[k].1 ∧ ¬ me[k].2 < 1 ∧ 1024 < me[k].2) := by
        unfold extOk
        by_cases h1 : 16 ≤ me[k].1
        · exact .inr (.inl ⟨by simp; omega, h1⟩)
        · by_cases h2 : me[k].2 < 1
          · exact .inr (.inr (.inl ⟨by simp; omega, h1, h2⟩))
          · by_cases h3 : 1024 < me[k].2
            · exact .inr (.inr (.inr ⟨by simp; omega, h1, h2, h3⟩))
            · exact .inl ⟨by simp; omega, h1, h2, h3⟩
      have HFK := Lib.hid (HFL.out k hlt)
      rcases hfc with ⟨hx, h1, h2, h3⟩ | h | h | h
      · cases k with
        | zero =>
          have HN2 : Hid (PrefE me 1) := HNX.out hx fun i hi e => by omega
          clear hx HFK HFL HNX
          generalize me[0] = x at g1 g2 g3 g4 h1 h2 h3
          obtain ⟨x1, x2⟩ := x
          simp only [Nat.zero_mul, Nat.add_zero] at g1 g2 g3 g4 h1 h2 h3
          have d1 : decide (16 ≤ x1) = false := decide_eq_false h1
          have d2 : decide (x2 < 1) = false := decide_eq_false h2
          have d3 : decide (1024 < x2) = false := decide_eq_false h3
          go_wp2
          have q0 : (wr.alloc (.cells #[.int .u32 x1, .int .u32 x2] 100)).cell? ⟨wr.heap.size, 0, none⟩ = some (.int .u32 x1) := by simp [go_sem]
          have q1 : (wr.alloc (.cells #[.int .u32 x1, .int .u32 x2] 100)).cell? ⟨wr.heap.size, 1, none⟩ = some (.int .u32 x2) := by simp [go_sem]
          go_quiet (fail)
          go_wp2
          go_roundw
          case rel => exact ⟨1, by go_num, by omega, HN2.out, below_drewN (HB.out.alloc HB.out.size _) _⟩
          case measure => simp [intOf]; omega
        | succ j =>
          have hjl : j < me.length := by omega
          obtain ⟨f0, f1, f2, f3, f4⟩ := extR_keeps _ _ _ _ _ HBO.out (HC1.out j hjl)
          have hcmp : Hid (PrefE me (j + 1 + 1) ∧ ¬ me[j + 1].1 ≤ me[j].1) ∨ Hid (manOkB ⟨mp, me, mq, mc⟩ = false ∧ me[j + 1].1 ≤ me[j].1) := by
            by_cases h5 : me[j].1 < me[j + 1].1
            · exact .inl ⟨HNX.out hx (fun i hi e => by have e2 : i = j := (by omega); subst e2; exact h5), by omega⟩
            · exact .inr ⟨HFK.out fun hh => h5 (hh.2 j hjl rfl), by omega⟩
          clear hx HFK HFL HNX
          generalize me[j + 1] = x at g1 g2 g3 g4 h1 h2 h3 hcmp
          generalize me[j] = y at f1 f2 f3 f4 hcmp
          obtain ⟨x1, x2⟩ := x
          obtain ⟨y1, y2⟩ := y
          simp only [] at g1 g2 g3 g4 h1 h2 h3 f1 f2 f3 f4 hcmp
          have d1 : decide (16 ≤ x1) = false := decide_eq_false h1
          have d2 : decide (x2 < 1) = false := decide_eq_false h2
          have d3 : decide (1024 < x2) = false := decide_eq_false h3
          have d4 : decide ((0 : Int) < ((j + 1 : Nat) : Int)) = true := by simp
          have d5 : IntKind.i64.wrap (((j + 1 : Nat) : Int) - 1) = (j : Int) := by rw [IntWalk.i64_in _ (by omega)]; omega
          have d6 : (((j + 1 : Nat) : Int) - 1) = (j : Int) := by omega
          have d7 : decide (0 < j + 1) = true := by simp
          rcases hcmp with h | h
          · obtain ⟨hp, h6⟩ := h.out
            have HN2 := Lib.hid hp; clear hp h
            have d8 : decide (x1 ≤ y1) = false := decide_eq_false h6
            go_wp2
            have q0 : (wr.alloc (.cells #[.int .u32 x1, .int .u32 x2] 100)).cell? ⟨wr.heap.size, 0, none⟩ = some (.int .u32 x1) := by simp [go_sem]
            have q1 : (wr.alloc (.cells #[.int .u32 x1, .int .u32 x2] 100)).cell? ⟨wr.heap.size, 1, none⟩ = some (.int .u32 x2) := by simp [go_sem]
            go_quiet (fail)
            go_wp2
            go_roundw
            case rel => exact ⟨j + 1 + 1, by go_num, by omega, HN2.out, below_drewN (HB.out.alloc HB.out.size _) _⟩
            case measure => simp [intOf]; omega
          · obtain ⟨hp, h6⟩ := h.out
            have HF := Lib.hid hp; clear hp h
            have d8 : decide (x1 ≤ y1) = true := decide_eq_true h6
            go_wp2
            have q0 : (wr.alloc (.cells #[.int .u32 x1, .int .u32 x2] 100)).cell? ⟨wr.heap.size, 0, none⟩ = some (.int .u32 x1) := by simp [go_sem]
            have q1 : (wr.alloc (.cells #[.int .u32 x1, .int .u32 x2] 100)).cell? ⟨wr.heap.size, 1, none⟩ = some (.int .u32 x2) := by simp [go_sem]
            go_quiet (fail)
            go_wp2
            go_ret
            exact ⟨by rw [HF.out]; rfl, below_drewN (HBO.out.alloc HBO.out.size _) _⟩
      · obtain ⟨hx, h1⟩ := h.out
        have HF : Hid (manOkB ⟨mp, me, mq, mc⟩ = false) := HFK.out fun hh => by rw [hx] at hh; cases hh.1
        clear hx HFK HFL HNX h
        generalize me[k] = x at g1 g2 g3 g4 h1
        obtain ⟨x1, x2⟩ := x
        simp only [] at g1 g2 g3 g4 h1
        have d1 : decide (16 ≤ x1) = true := decide_eq_true h1
        go_wp2
        have q0 : (wr.alloc (.cells #[.int .u32 x1, .int .u32 x2] 100)).cell? ⟨wr.heap.size, 0, none⟩ = some (.int .u32 x1) := by simp [go_sem]
        have q1 : (wr.alloc (.cells #[.int .u32 x1, .int .u32 x2] 100)).cell? ⟨wr.heap.size, 1, none⟩ = some (.int .u32 x2) := by simp [go_sem]
        go_quiet (fail)
        go_wp2
        go_ret
        exact ⟨by rw [HF.out]; rfl, below_drewN (HBO.out.alloc HBO.out.size _) _⟩
      · obtain ⟨hx, h1, h2⟩ := h.out
        have HF : Hid (manOkB ⟨mp, me, mq, mc⟩ = false) := HFK.out fun hh => by rw [hx] at hh; cases hh.1
        clear hx HFK HFL HNX h
        generalize me[k] = x at g1 g2 g3 g4 h1 h2
        obtain ⟨x1, x2⟩ := x
        simp only [] at g1 g2 g3 g4 h1 h2
        have d1 : decide (16 ≤ x1) = false := decide_eq_false h1
        have d2 : decide (x2 < 1) = true := decide_eq_true h2
        go_wp2
        have q0 : (wr.alloc (.cells #[.int .u32 x1, .int .u32 x2] 100)).cell? ⟨wr.heap.size, 0, none⟩ = some (.int .u32 x1) := by simp [go_sem]
        have q1 : (wr.alloc (.cells #[.int .u32 x1, .int .u32 x2] 100)).cell? ⟨wr.heap.size, 1, none⟩ = some (.int .u32 x2) := by simp [go_sem]
        go_quiet (fail)
        go_wp2
        go_ret
        exact ⟨by rw [HF.out]; rfl, below_drewN (HBO.out.alloc HBO.out.size _) _⟩
      · obtain ⟨hx, h1, h2, h3⟩ := h.out
        have HF : Hid (manOkB ⟨mp, me, mq, mc⟩ = false) := HFK.out fun hh => by rw [hx] at hh; cases hh.1
        clear hx HFK HFL HNX h
        generalize me[k] = x at g1 g2 g3 g4 h1 h2 h3
        obtain ⟨x1, x2⟩ := x
        simp only [] at g1 g2 g3 g4 h1 h2 h3
        have d1 : decide (16 ≤ x1) = false := decide_eq_false h1
        have d2 : decide (x2 < 1) = false := decide_eq_false h2
        have d3 : decide (1024 < x2) = true := decide_eq_true h3
        go_wp2
        have q0 : (wr.alloc (.cells #[.int .u32 x1, .int .u32 x2] 100)).cell? ⟨wr.heap.size, 0, none⟩ = some (.int .u32 x1) := by simp [go_sem]
        have q1 : (wr.alloc (.cells #[.int .u32 x1, .int .u32 x2] 100)).cell? ⟨wr.heap.size, 1, none⟩ = some (.int .u32 x2) := by simp [go_sem]
        go_quiet (fail)
        go_wp2
        go_ret
        exact ⟨by rw [HF.out]; rfl, below_drewN (HBO.out.alloc HBO.out.size _) _⟩
    · obtain rfl : k = me.length := by omega
      rw [HE.out.2 HPR.out, Bool.true_and] at HOK
      obtain ⟨wo, rfl⟩ : ∃ wo : World, wo = wr := ⟨_, rfl⟩
      clear HPR HE
      go_wp2_with fail
      clear a1
      go_loopw [5] (fun v5 wr => ∃ k : Nat, v5 = .int .i64 k ∧ k ≤ mq.length ∧ PrefP mq k ∧ Below wo.heap.size wo wr) (fun v5 _ => mq.length - (intOf v5).toNat)
      case atStart => exact ⟨0, by go_num, Nat.zero_le _, fun _ _ h => absurd h (by omega), Below.refl _ _⟩
      case round =>
        obtain ⟨k, rfl, hk, hpre, hB⟩ := hrel
        have HPR := Lib.hid hpre; clear hpre
        have HBQ := Lib.hid hB
        have HBR : Hid (Below w.heap.size w wr) := HBO.out.trans (hB.mono (by omega))
        have HMS := Lib.hid ((hB.block _ hzr).trans HMR.out)
        clear hB
        have a2 := Lib.cell_of_heap HMS.out 2
        have a0 := Lib.cell_of_heap HMS.out 0
        by_cases hlt : k < mq.length
        · obtain rfl := HP2.out (by omega)
          obtain ⟨g0, g1, g2, g3⟩ := portR_keeps _ _ _ _ _ HBR.out (HC2.out k hlt)
          have HNX := Lib.hid (fun h1 h2 => PrefP.next HPR.out hlt h1 h2)
          have HFK : Hid (¬ (¬ mq[k] = 0 ∧ ∀ i (hi : i < mq.length), i + 1 = k → mq[i] < mq[k]) → manOkB ⟨mp, me, mq, mc⟩ = false) := fun hn => by
            rw [HOK.out]
            cases hh : (riseP mq && !mq.contains 0) with
            | false => rfl
            | true => exact absurd (HQ.out.1 hh k hlt hlt) hn
          rw [Nat.mul_one] at g1
          by_cases h0 : mq[k] = 0
          · have HF : Hid (manOkB ⟨mp, me, mq, mc⟩ = false) := HFK.out fun hh => hh.1 h0
            rw [h0] at g1
            clear h0 HFK HNX
            go_wp2
            go_quiet (fail)
            go_wp2
            go_ret
            exact ⟨by rw [HF.out]; rfl, below_drewN HBR.out _⟩
          · cases k with
            | zero =>
              have HN2 : Hid (PrefP mq 1) := HNX.out h0 fun i hi e => by omega
              clear HNX HFK
              generalize mq[0] = x at g1 g2 g3 h0
              simp only [Nat.add_zero] at g1
              have d1 : (x == 0) = false := by simpa using h0
              go_wp2
              go_quiet (fail)
              go_wp2
              go_roundw
              case rel => exact ⟨1, by go_num, by omega, HN2.out, below_drewN HBQ.out _⟩
              case measure => simp [intOf]; omega
            | succ j =>
              have hjl : j < mq.length := by omega
              obtain ⟨f0, f1, f2, f3⟩ := portR_keeps _ _ _ _ _ HBR.out (HC2.out j hjl)
              rw [Nat.mul_one] at f1
              have hcmp : Hid (PrefP mq (j + 1 + 1) ∧ ¬ mq[j + 1] ≤ mq[j]) ∨ Hid (manOkB ⟨mp, me, mq, mc⟩ = false ∧ mq[j + 1] ≤ mq[j]) := by
                by_cases h5 : mq[j] < mq[j + 1]
                · exact .inl ⟨HNX.out h0 (fun i hi e => by have e2 : i = j := (by omega); subst e2; exact h5), by omega⟩
                · exact .inr ⟨HFK.out fun hh => h5 (hh.2 j hjl rfl), by omega⟩
              clear HFK HNX
              generalize mq[j + 1] = x at g1 g2 g3 h0 hcmp
              generalize mq[j] = y at f1 f2 f3 hcmp
              have d1 : (x == 0) = false := by simpa using h0
              have d4 : decide ((0 : Int) < ((j + 1 : Nat) : Int)) = true := by simp
              have d5 : IntKind.i64.wrap (((j + 1 : Nat) : Int) - 1) = (j : Int) := by rw [IntWalk.i64_in _ (by omega)]; omega
              have d6 : (((j + 1 : Nat) : Int) - 1) = (j : Int) := by omega
              have d7 : decide (0 < j + 1) = true := by simp
              rcases hcmp with h | h
              · obtain ⟨hp, h6⟩ := h.out
                have HN2 := Lib.hid hp; clear hp h
                have d8 : decide (x ≤ y) = false := decide_eq_false h6
                go_wp2
                go_quiet (fail)
                go_wp2
                go_roundw
                case rel => exact ⟨j + 1 + 1, by go_num, by omega, HN2.out, below_drewN HBQ.out _⟩
                case measure => simp [intOf]; omega
              · obtain ⟨hp, h6⟩ := h.out
                have HF := Lib.hid hp; clear hp h
                have d8 : decide (x ≤ y) = true := decide_eq_true h6
                go_wp2
                go_quiet (fail)
                go_wp2
                go_ret
                exact ⟨by rw [HF.out]; rfl, below_drewN HBR.out _⟩
        · obtain rfl : k = mq.length := by omega
          rw [HQ.out.2 HPR.out, Bool.true_and] at HOK
          clear HPR HQ
          by_cases h1 : mp ≤ 1024
          · by_cases h2 : mq.length ≤ 16
            · rw [decide_eq_true h1, decide_eq_true h2] at HOK
              have d2 : (mq.length : Int) ≤ 16 := by omega
              go_wp2
              go_ret
              exact ⟨by rw [HOK.out]; rfl, HBR.out⟩
            · rw [decide_eq_true h1, decide_eq_false h2] at HOK
              have d2 : ¬ (mq.length : Int) ≤ 16 := by omega
              go_wp2
              go_ret
              exact ⟨by rw [HOK.out]; rfl, HBR.out⟩
          · rw [decide_eq_false h1, Bool.and_false] at HOK
            go_wp2
            go_ret
            exact ⟨by rw [HOK.out]; rfl, HBR.out⟩
end Go.Proofs.YtghopakbefageaaGreat
