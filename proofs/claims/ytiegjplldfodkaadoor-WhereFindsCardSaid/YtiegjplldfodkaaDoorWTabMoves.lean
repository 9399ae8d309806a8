/- The walk of where.Moves. -/
import Derived.Test.YtiegjplldfodkaaDoorWTabOf
namespace Go.Proofs.YtiegjplldfodkaaDoor
open Go.RowKit
theorem info_mv : (Tryd.prog.info? 78).map (fun i => (i.zero, i.size, i.bytes)) = some (some (.agg #[.string ⟨#[]⟩, .string ⟨#[]⟩, .int .u32 0, .int .u32 0]), 4, 40) := by kernel_rfl
theorem new_four (w : World) (a b : ByteArray) (c d : Int) :
    ∀ j u, (mvCells ⟨a, b, c, d⟩)[j]? = some u → (w.alloc (.cells #[.string a, .string b, .int .u32 c, .int .u32 d] 78)).cell? ((⟨w.heap.size, 0, none⟩ : Addr).add j) = some u := by
  intro j u hu
  rw [add_at, Nat.zero_add]
  match j, hu with
  | 0, hu => cases hu; simp [go_sem]
  | 1, hu => cases hu; simp [go_sem]
  | 2, hu => cases hu; simp [go_sem]
  | 3, hu => cases hu; simp [go_sem]
theorem four_one (x : GMv) : ∀ u ∈ mvCells x, u.oneCell' = true := by
  intro u hu
  simp only [mvCells, List.mem_cons, List.not_mem_nil, or_false] at hu
  rcases hu with rfl | rfl | rfl | rfl <;> rfl
def mvF (b : List GTs) (s : GTs) : Bool := decide (ofT b s ≠ s.addr)
def mvG (a : List GTs) (s : GTs) : Bool := decide (ofT a s = 0)
def mv1 (b : List GTs) (s : GTs) : GMv := ⟨s.name, s.object, s.addr, ofT b s⟩
def mv2 (s : GTs) : GMv := ⟨s.name, s.object, 0, s.addr⟩
def movL (a b : List GTs) (i : Nat) : List GMv := ((a.take i).filter (mvF b)).map (mv1 b)
def movR (l : List GMv) (a b : List GTs) (i : Nat) : List GMv := l ++ ((b.take i).filter (mvG a)).map mv2
theorem movL_yes {a b : List GTs} {i : Nat} (h : i < a.length) (hf : mvF b a[i] = true) : movL a b (i + 1) = movL a b i ++ [mv1 b a[i]] := by
  simp only [movL]; rw [filter_yes h hf, List.map_append]; rfl
theorem movL_no {a b : List GTs} {i : Nat} (h : i < a.length) (hf : mvF b a[i] = false) : movL a b (i + 1) = movL a b i := by
  simp only [movL]; rw [filter_no h hf]
theorem movR_yes {l : List GMv} {a b : List GTs} {i : Nat} (h : i < b.length) (hf : mvG a b[i] = true) : movR l a b (i + 1) = movR l a b i ++ [mv2 b[i]] := by
  simp only [movR]; rw [filter_yes h hf, List.map_append, List.append_assoc]; rfl
theorem movR_no {l : List GMv} {a b : List GTs} {i : Nat} (h : i < b.length) (hf : mvG a b[i] = false) : movR l a b (i + 1) = movR l a b i := by
  simp only [movR]; rw [filter_no h hf]
theorem movL_len {a b : List GTs} {i : Nat} : (movL a b i).length ≤ i := by simp only [movL, List.length_map]; exact filter_len
theorem movR_len {l : List GMv} {a b : List GTs} {i : Nat} : (movR l a b i).length ≤ l.length + i := by simp only [movR, List.length_append, List.length_map]; have := filter_len (f := mvG a) (l := b) (i := i); omega
theorem moves_def {a b : List GTs} (h1 : tabOk a = true) (h2 : tabOk b = true) : movesOf a b = movR (movL a b a.length) a b b.length := by
  rw [movesOf, if_pos ⟨h1, h2⟩, movR, movL, List.take_length, List.take_length]; rfl
theorem moves_bad {a b : List GTs} (h : tabOk a = false ∨ tabOk b = false) : movesOf a b = [] := by
  rw [movesOf, if_neg]
  rintro ⟨h1, h2⟩
  rcases h with h | h
  · rw [h] at h1; cases h1
  · rw [h] at h2; cases h2
def MvPost (r : List GMv) (w : World) (e : Ending) (w' : World) : Prop := ∃ v, e = .returned v ∧ RowAt 4 MvR w' v r ∧ Below w.heap.size w w'
theorem tab_len {t : List GTs} (h : tabOk t = true) : t.length ≤ 1024 := by simp only [tabOk, Bool.and_eq_true, decide_eq_true_eq] at h; exact h.2
set_option maxRecDepth 100000 in
set_option maxHeartbeats 4000000 in
theorem whMoves_any (va vb : Value) (a b : List GTs) (w : World) (h : TabAt w va a) (h' : TabAt w vb b) :
    Calls Tryd.prog 20 #[va, vb] w (MvPost (movesOf a b) w) := by
  obtain ⟨pa, ca, _, _, rfl, -, hmaxa, -⟩ := id h
  obtain ⟨pb, cb, _, _, rfl, -, hmaxb, -⟩ := id h'
  have HA := Lib.hid h; have HBT := Lib.hid h'; clear h h'
  have HCA := Lib.hid (whCheck_any _ a w HA.out)
  have HCB := Lib.hid (fun (w' : World) (hb : Below w.heap.size w w') => whCheck_any _ b w' (TabAt.keep' hb HBT.out))
  by_cases hoa : tabOk a = true
  case neg =>
    have hoa' : tabOk a = false := by simpa using hoa
    rw [hoa'] at HCA
    simp only [errB, Bool.false_eq_true, if_false] at HCA
    have HR : Hid (movesOf a b = []) := moves_bad (.inl hoa')
    clear hoa hoa'
    go_enter Tryd.func20, Tryd.ntmps20
    go_wp2_with fail
    refine HCA.out.mono ?_
    rintro e w1 ⟨rfl, hB⟩
    clear HCA
    go_wp2
    go_ret
    rw [HR.out]
    exact ⟨_, rfl, rowAt_nil, hB⟩
  rw [hoa] at HCA
  simp only [errB, if_true] at HCA
  by_cases hob : tabOk b = true
  case neg =>
    have hob' : tabOk b = false := by simpa using hob
    rw [hob'] at HCB
    simp only [errB, Bool.false_eq_true, if_false] at HCB
    have HR : Hid (movesOf a b = []) := moves_bad (.inr hob')
    clear hoa hob hob'
    go_enter Tryd.func20, Tryd.ntmps20
    go_wp2_with fail
    refine HCA.out.mono ?_
    rintro e w1 ⟨rfl, hB⟩
    have HB := Lib.hid hB; clear hB HCA
    go_wp2_with fail
    refine (HCB.out _ HB.out).mono ?_
    rintro e w2 ⟨rfl, hB⟩
    clear HCB
    go_wp2
    go_ret
    rw [HR.out]
    exact ⟨_, rfl, rowAt_nil, HB.out.trans (hB.mono HB.out.size)⟩
  rw [hob] at HCB
  simp only [errB, if_true] at HCB
  have hla := tab_len hoa
  have hlb := tab_len hob
  have HR := Lib.hid (moves_def hoa hob)
  clear hoa hob
  obtain ⟨iS, s0, s1, s2, s3⟩ := info_parts info_mv
  have HI := Lib.hid (And.intro s0 (And.intro s1 (And.intro s2 s3)))
  clear s0 s1 s2 s3
  go_enter Tryd.func20, Tryd.ntmps20
  go_wp2_with fail
  refine HCA.out.mono ?_
  rintro e w1 ⟨rfl, hB⟩
  have HB0 := Lib.hid hB; clear hB HCA
  go_wp2_with fail
  refine (HCB.out _ HB0.out).mono ?_
  rintro e w2 ⟨rfl, hB⟩
  replace HB0 := Lib.hid (HB0.out.trans (hB.mono HB0.out.size))
  clear hB HCB
  go_wp2
  go_loopw [4, 20] (fun v4 v20 wr => ∃ i : Nat, i ≤ a.length ∧ v20 = .int .i64 i ∧ wr.ownsRow w.heap.size 78 4 v4 (movL a b i).length ((movL a b i).flatMap mvCells) ∧ Below w.heap.size w wr) (fun _ v20 _ => a.length - (intOf v20).toNat)
  case atStart => exact ⟨0, Nat.zero_le _, rfl, World.ownsRow_nil _ _ _ _, HB0.out⟩
  case round =>
    clear HB0
    obtain ⟨i, hi, rfl, hown, hbel⟩ := hrel
    have HO := Lib.hid hown; have HB := Lib.hid hbel
    clear hown hbel
    by_cases hlt : i < a.length
    · obtain ⟨p', cap', b', o', e', -, -, q1, q2⟩ := TabAt.keep' HB.out HA.out
      injection e' with e1 e2 e3
      subst e1; subst e3; clear e2
      obtain rfl := q1 (by omega)
      obtain ⟨g0, g1, g2, g3, g4, g5, -⟩ := q2 i hlt
      clear q1 q2
      have HFY : Hid (mvF b a[i] = true → movL a b (i + 1) = movL a b i ++ [mv1 b a[i]]) := movL_yes hlt
      have HFN : Hid (mvF b a[i] = false → movL a b (i + 1) = movL a b i) := movL_no hlt
      have hfl := movL_len (a := a) (b := b) (i := i)
      skip
      generalize movL a b i = ms at HO HFY HFN hfl
      generalize a[i] = x at g1 g2 g3 g4 g5 HFY HFN
      have HOF := Lib.hid (fun (w' : World) (hb : Below w.heap.size w w') => whOf_any _ b x w' (TabAt.keep' hb HBT.out))
      simp only [mvF, mv1] at HFY HFN
      unfold IntPost at HOF
      generalize ofT b x = c at HOF HFY HFN
      obtain ⟨xn, xo, xa, xs, xk⟩ := x
      simp only [] at g1 g2 g3 g4 g5 HOF HFY HFN
      go_upto_region 6 with fail
      have HX : Hid (TsBox (wr.alloc (.cells #[.string xn, .string xo, .int .u32 xa, .int .u32 xs, .int .u8 xk] 43)) wr.heap.size ⟨xn, xo, xa, xs, xk⟩) := TsBox.new wr ⟨xn, xo, xa, xs, xk⟩
      replace HO := Lib.hid (HO.out.alloc (.cells #[.string xn, .string xo, .int .u32 xa, .int .u32 xs, .int .u8 xk] 43))
      replace HB := Lib.hid (HB.out.alloc HB.out.size (.cells #[.string xn, .string xo, .int .u32 xa, .int .u32 xs, .int .u8 xk] 43))
      generalize wr.alloc (.cells #[.string xn, .string xo, .int .u32 xa, .int .u32 xs, .int .u8 xk] 43) = w2 at HX HO HB ⊢
      generalize wr.heap.size = xb at HX ⊢
      have x0 : w2.cell? ⟨xb, 0, none⟩ = some (.string xn) := Lib.cell_of_heap HX.out 0
      have x1 : w2.cell? ⟨xb, 1, none⟩ = some (.string xo) := Lib.cell_of_heap HX.out 1
      have x2 : w2.cell? ⟨xb, 2, none⟩ = some (.int .u32 xa) := Lib.cell_of_heap HX.out 2
      have x3 : w2.cell? ⟨xb, 3, none⟩ = some (.int .u32 xs) := Lib.cell_of_heap HX.out 3
      have x4 : w2.cell? ⟨xb, 4, none⟩ = some (.int .u8 xk) := Lib.cell_of_heap HX.out 4
      clear g0 g1 g2 g3 g4 g5
      go_wp2_with fail
      refine (HOF.out _ HB.out).mono ?_
      rintro e w3 ⟨rfl, hb⟩
      replace HX := Lib.hid (HX.out.keep hb)
      replace HO := Lib.hid (ownsRow_below hb HO.out)
      replace HB := Lib.hid (HB.out.trans (hb.mono HB.out.size))
      clear hb x0 x1 x2 x3 x4 HOF
      have x0 : w3.cell? ⟨xb, 0, none⟩ = some (.string xn) := Lib.cell_of_heap HX.out 0
      have x1 : w3.cell? ⟨xb, 1, none⟩ = some (.string xo) := Lib.cell_of_heap HX.out 1
      have x2 : w3.cell? ⟨xb, 2, none⟩ = some (.int .u32 xa) := Lib.cell_of_heap HX.out 2
      by_cases hc : c = xa
      · have HE := Lib.hid (HFN.out (by simpa using hc))
        have HO9 : Hid (w3.ownsRow w.heap.size 78 4 u4 (movL a b (i + 1)).length ((movL a b (i + 1)).flatMap mvCells)) := by rw [Hid, HE.out]; exact HO.out
        have t1 : (c != xa) = false := by simpa using hc
        clear hc HFY HFN
        go_wp2
        go_roundw
        case rel => exact ⟨i + 1, by omega, by go_num, HO9.out, HB.out⟩
        case measure => simp [intOf]; omega
      · have HE := Lib.hid (HFY.out (by simpa using hc))
        have t1 : (c != xa) = true := by simpa using hc
        clear hc HFY HFN
        have hz := HB.out.size
        obtain ⟨pv, cv, hv⟩ := own_shape HO.out
        subst hv
        go_wp2_with (at_builtin; refine wpList_append_own_at _ rfl _ _ 39 rfl w.heap.size 78 iS _ 4 40 Tryd.underlying39 HI.out.1 HI.out.2.1 HI.out.2.2.1 HI.out.2.2.2 rfl (by decide) _ ms.length (ms.flatMap mvCells) rfl (HO.out.alloc _) ⟨w3.heap.size, 0, none⟩ 1 1 (mvCells ⟨xn, xo, xa, c⟩) rfl rfl (new_four w3 _ _ _ _) (four_one _) (by unfold maxLen; omega) (by omega) (by simp; omega) ?_)
        intro v' w9 hown hgrow _ hv
        obtain ⟨pw, cw, rfl⟩ := own_shape hown
        have HB9 : Hid (Below w.heap.size w w9) := (HB.out.alloc hz _).grown hgrow (by simp; omega) (fun q e => (World.ownsRow.lt HO.out q e).1)
        have HO9 : Hid (w9.ownsRow w.heap.size 78 4 (.slice pw (ms.length + 1) cw) (movL a b (i + 1)).length ((movL a b (i + 1)).flatMap mvCells)) := by
          have e1 : (ms ++ [(⟨xn, xo, xa, c⟩ : GMv)]).flatMap mvCells = ms.flatMap mvCells ++ mvCells ⟨xn, xo, xa, c⟩ := by simp
          rw [Hid, HE.out, List.length_append, e1]; exact hown
        clear hown hgrow hv x0 x1 x2 HX HO
        go_wp2
        go_roundw
        case rel => exact ⟨i + 1, by omega, by go_num, HO9.out, HB9.out⟩
        case measure => simp [intOf]; omega
    · have HE : Hid (i = a.length) := by rw [Hid]; omega
      have HO2 : Hid (wr.ownsRow w.heap.size 78 4 u4 (movR (movL a b a.length) a b 0).length ((movR (movL a b a.length) a b 0).flatMap mvCells)) := by
        have e1 : movR (movL a b a.length) a b 0 = movL a b i := by rw [HE.out]; simp [movR]
        rw [Hid, e1]; exact HO.out
      obtain ⟨pv0, cv0, hv0⟩ := own_shape HO2.out
      clear HO HE
      subst hv0
      go_wp2
      clear hi hlt
      go_loopw [4, 45] (fun v4 v45 wr => ∃ i : Nat, i ≤ b.length ∧ v45 = .int .i64 i ∧ wr.ownsRow w.heap.size 78 4 v4 (movR (movL a b a.length) a b i).length ((movR (movL a b a.length) a b i).flatMap mvCells) ∧ Below w.heap.size w wr) (fun _ v45 _ => b.length - (intOf v45).toNat)
      case atStart => exact ⟨0, Nat.zero_le _, rfl, HO2.out, HB.out⟩
      case round =>
        clear HB HO2
        obtain ⟨i, hi, rfl, hown, hbel⟩ := hrel
        have HO := Lib.hid hown; have HB := Lib.hid hbel
        clear hown hbel
        by_cases hlt : i < b.length
        · obtain ⟨p', cap', b', o', e', -, -, q1, q2⟩ := TabAt.keep' HB.out HBT.out
          injection e' with e1 e2 e3
          subst e1; subst e3; clear e2
          obtain rfl := q1 (by omega)
          obtain ⟨g0, g1, g2, g3, g4, g5, -⟩ := q2 i hlt
          clear q1 q2
          have HFY : Hid (mvG a b[i] = true → movR (movL a b a.length) a b (i + 1) = movR (movL a b a.length) a b i ++ [mv2 b[i]]) := movR_yes hlt
          have HFN : Hid (mvG a b[i] = false → movR (movL a b a.length) a b (i + 1) = movR (movL a b a.length) a b i) := movR_no hlt
          have hfl := movR_len (l := movL a b a.length) (a := a) (b := b) (i := i)
          have hl0 := movL_len (a := a) (b := b) (i := a.length)
          generalize movR (movL a b a.length) a b i = ms at HO HFY HFN hfl
          generalize b[i] = x at g1 g2 g3 g4 g5 HFY HFN
          have HOF := Lib.hid (fun (w' : World) (hb : Below w.heap.size w w') => whOf_any _ a x w' (TabAt.keep' hb HA.out))
          simp only [mvG, mv2] at HFY HFN
          unfold IntPost at HOF
          generalize ofT a x = c at HOF HFY HFN
          obtain ⟨xn, xo, xa, xs, xk⟩ := x
          simp only [] at g1 g2 g3 g4 g5 HOF HFY HFN
          go_upto_region 13 with fail
          have HX : Hid (TsBox (wr.alloc (.cells #[.string xn, .string xo, .int .u32 xa, .int .u32 xs, .int .u8 xk] 43)) wr.heap.size ⟨xn, xo, xa, xs, xk⟩) := TsBox.new wr ⟨xn, xo, xa, xs, xk⟩
          replace HO := Lib.hid (HO.out.alloc (.cells #[.string xn, .string xo, .int .u32 xa, .int .u32 xs, .int .u8 xk] 43))
          replace HB := Lib.hid (HB.out.alloc HB.out.size (.cells #[.string xn, .string xo, .int .u32 xa, .int .u32 xs, .int .u8 xk] 43))
          generalize wr.alloc (.cells #[.string xn, .string xo, .int .u32 xa, .int .u32 xs, .int .u8 xk] 43) = w2 at HX HO HB ⊢
          generalize wr.heap.size = xb at HX ⊢
          have x0 : w2.cell? ⟨xb, 0, none⟩ = some (.string xn) := Lib.cell_of_heap HX.out 0
          have x1 : w2.cell? ⟨xb, 1, none⟩ = some (.string xo) := Lib.cell_of_heap HX.out 1
          have x2 : w2.cell? ⟨xb, 2, none⟩ = some (.int .u32 xa) := Lib.cell_of_heap HX.out 2
          have x3 : w2.cell? ⟨xb, 3, none⟩ = some (.int .u32 xs) := Lib.cell_of_heap HX.out 3
          have x4 : w2.cell? ⟨xb, 4, none⟩ = some (.int .u8 xk) := Lib.cell_of_heap HX.out 4
          clear g0 g1 g2 g3 g4 g5
          go_wp2_with fail
          refine (HOF.out _ HB.out).mono ?_
          rintro e w3 ⟨rfl, hb⟩
          replace HX := Lib.hid (HX.out.keep hb)
          replace HO := Lib.hid (ownsRow_below hb HO.out)
          replace HB := Lib.hid (HB.out.trans (hb.mono HB.out.size))
          clear hb x0 x1 x2 x3 x4 HOF
          have x0 : w3.cell? ⟨xb, 0, none⟩ = some (.string xn) := Lib.cell_of_heap HX.out 0
          have x1 : w3.cell? ⟨xb, 1, none⟩ = some (.string xo) := Lib.cell_of_heap HX.out 1
          have x2 : w3.cell? ⟨xb, 2, none⟩ = some (.int .u32 xa) := Lib.cell_of_heap HX.out 2
          by_cases hc : c = 0
          · have HE := Lib.hid (HFY.out (by simpa using hc))
            have t1 : (c == 0) = true := by simpa using hc
            clear hc HFY HFN
            have hz := HB.out.size
            obtain ⟨pv, cv, hv⟩ := own_shape HO.out
            subst hv
            go_wp2_with (at_builtin; refine wpList_append_own_at _ rfl _ _ 39 rfl w.heap.size 78 iS _ 4 40 Tryd.underlying39 HI.out.1 HI.out.2.1 HI.out.2.2.1 HI.out.2.2.2 rfl (by decide) _ ms.length (ms.flatMap mvCells) rfl (HO.out.alloc _) ⟨w3.heap.size, 0, none⟩ 1 1 (mvCells ⟨xn, xo, 0, xa⟩) rfl rfl (new_four w3 _ _ _ _) (four_one _) (by unfold maxLen; omega) (by omega) (by simp; omega) ?_)
            intro v' w9 hown hgrow _ hv
            obtain ⟨pw, cw, rfl⟩ := own_shape hown
            have HB9 : Hid (Below w.heap.size w w9) := (HB.out.alloc hz _).grown hgrow (by simp; omega) (fun q e => (World.ownsRow.lt HO.out q e).1)
            have HO9 : Hid (w9.ownsRow w.heap.size 78 4 (.slice pw (ms.length + 1) cw) (movR (movL a b a.length) a b (i + 1)).length ((movR (movL a b a.length) a b (i + 1)).flatMap mvCells)) := by
              have e1 : (ms ++ [(⟨xn, xo, 0, xa⟩ : GMv)]).flatMap mvCells = ms.flatMap mvCells ++ mvCells ⟨xn, xo, 0, xa⟩ := by simp
              rw [Hid, HE.out, List.length_append, e1]; exact hown
            clear hown hgrow hv x0 x1 x2 HX HO
            go_wp2
            go_roundw
            case rel => exact ⟨i + 1, by omega, by go_num, HO9.out, HB9.out⟩
            case measure => simp [intOf]; omega
          · have HE := Lib.hid (HFN.out (by simpa using hc))
            have HO9 : Hid (w3.ownsRow w.heap.size 78 4 u4 (movR (movL a b a.length) a b (i + 1)).length ((movR (movL a b a.length) a b (i + 1)).flatMap mvCells)) := by rw [Hid, HE.out]; exact HO.out
            have t1 : (c == 0) = false := by simpa using hc
            clear hc HFY HFN
            go_wp2
            go_roundw
            case rel => exact ⟨i + 1, by omega, by go_num, HO9.out, HB.out⟩
            case measure => simp [intOf]; omega
        · have HE : Hid (i = b.length) := by rw [Hid]; omega
          have ho := HO.out
          rw [HE.out] at ho
          obtain ⟨pv, cv, hv⟩ := own_shape ho
          subst hv
          have hl1 := movL_len (a := a) (b := b) (i := a.length)
          have hl2 := movR_len (l := movL a b a.length) (a := a) (b := b) (i := b.length)
          have HTA : Hid (RowAt 4 MvR wr (.slice pv (movR (movL a b a.length) a b b.length).length cv) (movR (movL a b a.length) a b b.length)) := mv_back (by omega) ho
          clear ho HO hl1 hl2
          rw [← HR.out] at HTA ⊢
          go_wp2
          go_ret
          exact ⟨_, rfl, HTA.out, HB.out⟩
end Go.Proofs.YtiegjplldfodkaaDoor
