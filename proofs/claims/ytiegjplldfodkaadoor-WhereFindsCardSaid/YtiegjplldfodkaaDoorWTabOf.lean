/- The walks of where.of and aediculeref34.of. -/
import Derived.Test.YtiegjplldfodkaaDoorWTabFind
import Derived.Test.YtiegjplldfodkaaDoorWTabNamed
namespace Go.Proofs.YtiegjplldfodkaaDoor
open Go.RowKit
def isOf (s x : GTs) : Bool := decide (x.name = s.name) && decide (x.object = s.object)
theorem ofT_def (t : List GTs) (s : GTs) : ofT t s = ((t.find? (isOf s)).map GTs.addr).getD 0 := rfl
theorem ofT_at {t : List GTs} {s : GTs} {i : Nat} (h : i < t.length) (h1 : isOf s t[i] = true) (h2 : ∀ j (hj : j < t.length), j < i → isOf s t[j] = false) : ofT t s = t[i].addr := by
  have : t.find? (isOf s) = some t[i] := by
    rw [List.find?_eq_some_iff_getElem]
    exact ⟨h1, i, h, rfl, fun j hj => by simp [h2 j (by omega) hj]⟩
  simp [ofT_def, this]
theorem ofT_none {t : List GTs} {s : GTs} (h : ∀ j (hj : j < t.length), isOf s t[j] = false) : ofT t s = 0 := by
  have : t.find? (isOf s) = none := by
    rw [List.find?_eq_none]
    intro x hx
    obtain ⟨j, hj, rfl⟩ := List.mem_iff_getElem.1 hx
    simp [h j hj]
  simp [ofT_def, this]
/-- a symbol's box -/
def TsBox (w : World) (sb : Nat) (s : GTs) : Prop := w.heap[sb]? = some (.cells #[.string s.name, .string s.object, .int .u32 s.addr, .int .u32 s.size, .int .u8 s.kind] 43 (0, 0))
theorem TsBox.keep {w w' : World} {sb : Nat} {s : GTs} (h : TsBox w sb s) (hb : Below w.heap.size w w') : TsBox w' sb s := (hb.block sb (Array.getElem?_eq_some_iff.1 h).1).trans h
theorem TsBox.new (w : World) (s : GTs) : TsBox (w.alloc (.cells #[.string s.name, .string s.object, .int .u32 s.addr, .int .u32 s.size, .int .u8 s.kind] 43)) w.heap.size s := heap_alloc_new w _
theorem beq_ne {a b : ByteArray} (h : ¬ a = b) : (a.toList == b.toList) = false := by simpa using toList_ne h
set_option maxHeartbeats 1000000 in
theorem of1_any (sb : Nat) (s x : GTs) (w : World) (h : TsBox w sb s) :
    Calls Tryd.prog 65 #[.agg #[.string x.name, .string x.object, .int .u32 x.addr, .int .u32 x.size, .int .u8 x.kind], .pointer (some ⟨sb, 0, none⟩)] w (IsB (isOf s x) w) := by
  have zs : sb < w.heap.size := (Array.getElem?_eq_some_iff.1 h).1
  have c0 : w.cell? ⟨sb, 0, none⟩ = some (.string s.name) := Lib.cell_of_heap h 0
  have c1 : w.cell? ⟨sb, 1, none⟩ = some (.string s.object) := Lib.cell_of_heap h 1
  clear h
  obtain ⟨sn, so, sa, ss, sk⟩ := s
  obtain ⟨xn, xo, xa, xs, xk⟩ := x
  simp only [isOf] at c0 c1 ⊢
  by_cases h1 : xn = sn
  case neg =>
    have hb := beq_ne h1
    have HR : Hid ((decide (xn = sn) && decide (xo = so)) = false) := by simp [Hid, h1]
    clear h1
    go_enter Tryd.func65, Tryd.ntmps65
    go_wp2
    go_ret
    rw [HR.out]
    exact ⟨rfl, alloc_old w _⟩
  subst h1
  by_cases h2 : xo = so
  case neg =>
    have hb := beq_ne h2
    have HR : Hid (¬ xo = so) := h2
    clear h2
    go_enter Tryd.func65, Tryd.ntmps65
    go_wp2
    go_ret
    show IsB _ w (.returned (.bool false)) _
    exact ⟨ret_bool (by simp [HR.out]), alloc_old w _⟩
  subst h2
  go_enter Tryd.func65, Tryd.ntmps65
  go_wp2
  go_ret
  show IsB _ w (.returned (.bool true)) _
  exact ⟨ret_bool (by simp), alloc_old w _⟩
def IdxPost (t : List GTs) (s : GTs) (w : World) (e : Ending) (w' : World) : Prop :=
  ((∃ (i : Nat) (h : i < t.length), e = .returned (.int .i64 i) ∧ isOf s t[i] = true ∧ ∀ j (hj : j < t.length), j < i → isOf s t[j] = false) ∨ (e = .returned (.int .i64 (-1)) ∧ ∀ j (hj : j < t.length), isOf s t[j] = false)) ∧ Below w.heap.size w w'
set_option maxRecDepth 100000 in
set_option maxHeartbeats 1000000 in
theorem idx_any (sb : Nat) (s : GTs) (v : Value) (t : List GTs) (w : World) (h : TabAt w v t) (hs : TsBox w sb s) :
    Calls Tryd.prog 64 #[v, .func (.func 65) #[] #[.pointer (some ⟨sb, 0, none⟩)]] w (IdxPost t s w) := by
  obtain ⟨p, cap, b, o, rfl, hcap, hmax, -⟩ := id h
  have H := Lib.hid h; clear h
  have HS := Lib.hid hs; clear hs
  go_enter Tryd.func64, Tryd.ntmps64
  go_wp2
  go_loopw [8] (fun v8 wr => ∃ i : Nat, i ≤ t.length ∧ v8 = .int .i64 i ∧ (∀ j (hj : j < t.length), j < i → isOf s t[j] = false) ∧ Below w.heap.size w wr) (fun v8 _ => t.length - (intOf v8).toNat)
  case atStart => exact ⟨0, Nat.zero_le _, rfl, fun j hj h => by omega, Below.refl _ _⟩
  case round =>
    obtain ⟨i, hi, rfl, hno, hbel⟩ := hrel
    have HNO := Lib.hid hno; have HB := Lib.hid hbel
    clear hno hbel
    by_cases hlt : i < t.length
    · obtain ⟨p', cap', b', o', e', -, -, q1, q2⟩ := TabAt.keep' HB.out H.out
      injection e' with e1 e2 e3
      subst e1; subst e3; clear e2
      obtain rfl := q1 (by omega)
      obtain ⟨g0, g1, g2, g3, g4, g5, -⟩ := q2 i hlt
      clear q1 q2
      have HNX : Hid (isOf s t[i] = false → ∀ j (hj : j < t.length), j < i + 1 → isOf s t[j] = false) := fun h j hj hji => by
        rcases Nat.lt_succ_iff_lt_or_eq.1 hji with h1 | h1
        · exact HNO.out j hj h1
        · subst h1; exact h
      have HYX : Hid (isOf s t[i] = true → ∃ (k : Nat) (h : k < t.length), k = i ∧ isOf s t[k] = true ∧ ∀ j (hj : j < t.length), j < k → isOf s t[j] = false) := fun h => ⟨i, hlt, rfl, h, HNO.out⟩
      have HC := Lib.hid (of1_any sb s t[i] wr (HS.out.keep HB.out))
      generalize t[i] = x at g1 g2 g3 g4 g5 HNX HYX HC
      unfold IsB at HC
      cases hx : isOf s x with
      | false =>
        rw [hx] at HC
        have HN := Lib.hid (HNX.out hx)
        clear HNX HYX hx
        obtain ⟨xn, xo, xa, xs, xk⟩ := x
        simp only [] at g1 g2 g3 g4 g5 HC
        go_wp2_with fail
        refine HC.out.mono ?_
        rintro e w2 ⟨rfl, hB⟩
        replace HB := Lib.hid (HB.out.trans (hB.mono HB.out.size))
        clear hB HC
        go_wp2
        go_roundw
        case rel => exact ⟨i + 1, by omega, by go_num, HN.out, HB.out⟩
        case measure => simp [intOf]; omega
      | true =>
        rw [hx] at HC
        have HY := Lib.hid (HYX.out hx)
        clear HNX HYX hx
        obtain ⟨xn, xo, xa, xs, xk⟩ := x
        simp only [] at g1 g2 g3 g4 g5 HC
        go_wp2_with fail
        refine HC.out.mono ?_
        rintro e w2 ⟨rfl, hB⟩
        replace HB := Lib.hid (HB.out.trans (hB.mono HB.out.size))
        clear hB HC
        go_wp2
        go_ret
        obtain ⟨k, hk, rfl, k1, k2⟩ := HY.out
        exact ⟨.inl ⟨k, hk, rfl, k1, k2⟩, HB.out⟩
    · have HN : Hid (∀ j (hj : j < t.length), isOf s t[j] = false) := fun j hj => HNO.out j hj (by omega)
      go_wp2
      go_ret
      exact ⟨.inr ⟨rfl, HN.out⟩, HB.out⟩
def IntPost (k : IntKind) (c : Int) (w : World) (e : Ending) (w' : World) : Prop := e = .returned (.int k c) ∧ Below w.heap.size w w'
set_option maxRecDepth 100000 in
set_option maxHeartbeats 1000000 in
theorem whOf_any (v : Value) (t : List GTs) (s : GTs) (w : World) (h : TabAt w v t) :
    Calls Tryd.prog 48 #[v, .agg #[.string s.name, .string s.object, .int .u32 s.addr, .int .u32 s.size, .int .u8 s.kind]] w (IntPost .u32 (ofT t s) w) := by
  have HI := Lib.hid (idx_any w.heap.size s v t _ (TabAt.keep' (alloc_old w _) h) (TsBox.new w s))
  have HBB := Lib.hid (alloc_old w (.cells #[.string s.name, .string s.object, .int .u32 s.addr, .int .u32 s.size, .int .u8 s.kind] 43))
  obtain ⟨p, cap, b, o, rfl, hcap, hmax, -⟩ := id h
  have H := Lib.hid h; clear h
  have HRS : Hid (∀ c, ofT t s = c → ofT t s = c) := fun _ h => h
  have HOA : Hid (∀ (i : Nat) (h : i < t.length), isOf s t[i] = true → (∀ j (hj : j < t.length), j < i → isOf s t[j] = false) → ofT t s = t[i].addr) := fun i h h1 h2 => ofT_at h h1 h2
  have HON : Hid ((∀ j (hj : j < t.length), isOf s t[j] = false) → ofT t s = 0) := fun h => ofT_none h
  clear HRS
  unfold IntPost
  generalize hw1 : w.alloc (.cells #[.string s.name, .string s.object, .int .u32 s.addr, .int .u32 s.size, .int .u8 s.kind] 43) = w1 at HI HBB
  obtain ⟨sn, so, sa, ss, sk⟩ := s
  simp only [] at hw1 ⊢
  have HW1 := Lib.hid hw1; clear hw1
  go_enter Tryd.func48, Tryd.ntmps48
  go_wp2_with fail
  rw [HW1.out]
  refine HI.out.mono ?_
  rintro e w2 ⟨hcase, hB⟩
  have HB : Hid (Below w.heap.size w w2) := HBB.out.trans (hB.mono HBB.out.size)
  clear hB HI HW1
  rcases hcase with ⟨i, hi, rfl, k1, k2⟩ | ⟨rfl, k2⟩
  · have HE := Lib.hid (HOA.out i hi k1 k2)
    clear HOA HON k1 k2
    obtain ⟨p', cap', b', o', e', -, -, q1, q2⟩ := TabAt.keep' HB.out H.out
    injection e' with e1 e2 e3
    subst e1; subst e3; clear e2
    obtain rfl := q1 (by omega)
    obtain ⟨g0, g1, g2, g3, g4, g5, -⟩ := q2 i hi
    clear q1 q2
    generalize t[i] = x at g1 g2 g3 g4 g5 HE
    obtain ⟨xn, xo, xa, xs, xk⟩ := x
    simp only [] at g1 g2 g3 g4 g5 HE
    go_wp2
    go_ret
    rw [HE.out]
    exact ⟨rfl, HB.out⟩
  · have HE := Lib.hid (HON.out k2)
    clear HOA HON k2
    go_wp2
    go_ret
    rw [HE.out]
    exact ⟨rfl, HB.out⟩
set_option maxRecDepth 100000 in
set_option maxHeartbeats 2000000 in
theorem refOf_any (v : Value) (t : List GTs) (s : GTs) (w : World) (h : TabAt w v t) :
    Calls Tryd.prog 49 #[v, .agg #[.string s.name, .string s.object, .int .u32 s.addr, .int .u32 s.size, .int .u8 s.kind]] w (IntPost .u32 (ofT t s) w) := by
  have HBX := Lib.hid (TsBox.new w s)
  have HBB := Lib.hid (alloc_old w (.cells #[.string s.name, .string s.object, .int .u32 s.addr, .int .u32 s.size, .int .u8 s.kind] 43))
  obtain ⟨p, cap, b, o, rfl, hcap, hmax, -⟩ := id h
  have H := Lib.hid h; clear h
  have HOA : Hid (∀ (i : Nat) (h : i < t.length), isOf s t[i] = true → (∀ j (hj : j < t.length), j < i → isOf s t[j] = false) → ofT t s = t[i].addr) := fun i h h1 h2 => ofT_at h h1 h2
  have HON : Hid ((∀ j (hj : j < t.length), isOf s t[j] = false) → ofT t s = 0) := fun h => ofT_none h
  unfold IntPost
  generalize hw1 : w.alloc (.cells #[.string s.name, .string s.object, .int .u32 s.addr, .int .u32 s.size, .int .u8 s.kind] 43) = w1 at HBX HBB
  obtain ⟨sn, so, sa, ss, sk⟩ := s
  simp only [] at hw1 ⊢
  have HW1 := Lib.hid hw1; clear hw1
  go_enter Tryd.func49, Tryd.ntmps49
  go_wp2
  rw [HW1.out]
  clear HW1
  generalize hsb : w.heap.size = sb at HBX
  have HSB := Lib.hid hsb; clear hsb
  go_loopw [5] (fun v5 wr => ∃ i : Nat, i ≤ t.length ∧ v5 = .int .i64 i ∧ (∀ j (hj : j < t.length), j < i → isOf ⟨sn, so, sa, ss, sk⟩ t[j] = false) ∧ Below w1.heap.size w1 wr) (fun v5 _ => t.length - (intOf v5).toNat)
  case atStart => exact ⟨0, Nat.zero_le _, rfl, fun j hj h => by omega, Below.refl _ _⟩
  case round =>
    obtain ⟨i, hi, rfl, hno, hbel⟩ := hrel
    have HNO := Lib.hid hno
    have HB : Hid (Below w.heap.size w wr) := HBB.out.trans (hbel.mono HBB.out.size)
    have HB1 := Lib.hid hbel
    clear hno hbel
    by_cases hlt : i < t.length
    · have kI : (i : Int) < (t.length : Int) := by omega
      have k0 : (0 : Int) ≤ (i : Int) := by omega
      obtain ⟨p', cap', b', o', e', -, -, q1, q2⟩ := TabAt.keep' HB.out H.out
      injection e' with e1 e2 e3
      subst e1; subst e3; clear e2
      obtain rfl := q1 (by omega)
      obtain ⟨g0, g1, g2, g3, g4, g5, -⟩ := q2 i hlt
      clear q1 q2
      have hbx := TsBox.keep HBX.out HB1.out
      have c0 : wr.cell? ⟨sb, 0, none⟩ = some (.string sn) := Lib.cell_of_heap hbx 0
      have c1 : wr.cell? ⟨sb, 1, none⟩ = some (.string so) := Lib.cell_of_heap hbx 1
      clear hbx
      have HNX : Hid (isOf ⟨sn, so, sa, ss, sk⟩ t[i] = false → ∀ j (hj : j < t.length), j < i + 1 → isOf ⟨sn, so, sa, ss, sk⟩ t[j] = false) := fun h j hj hji => by
        rcases Nat.lt_succ_iff_lt_or_eq.1 hji with h1 | h1
        · exact HNO.out j hj h1
        · subst h1; exact h
      have HYX : Hid (isOf ⟨sn, so, sa, ss, sk⟩ t[i] = true → ofT t ⟨sn, so, sa, ss, sk⟩ = t[i].addr) := fun h => HOA.out i hlt h HNO.out
      generalize t[i] = x at g1 g2 g3 g4 g5 HNX HYX
      obtain ⟨xn, xo, xa, xs, xk⟩ := x
      simp only [isOf] at g1 g2 g3 g4 g5 HNX HYX
      by_cases h1 : xn = sn
      case neg =>
        have hb := beq_ne h1
        have HN := Lib.hid (HNX.out (by simp [h1]))
        clear HNX HYX h1
        go_wp2
        go_quiet (fail)
        go_wp2
        go_roundw
        case rel => exact ⟨i + 1, by omega, by go_num, HN.out, below_drewN HB1.out _⟩
        case measure => simp [intOf]; omega
      subst h1
      by_cases h2 : xo = so
      case neg =>
        have hb := beq_ne h2
        have HN := Lib.hid (HNX.out (by simp [h2]))
        clear HNX HYX h2
        go_wp2
        go_quiet (fail)
        go_wp2
        go_roundw
        case rel => exact ⟨i + 1, by omega, by go_num, HN.out, below_drewN HB1.out _⟩
        case measure => simp [intOf]; omega
      subst h2
      have HE := Lib.hid (HYX.out (by simp))
      clear HNX HYX
      go_wp2
      go_quiet (fail)
      go_wp2
      go_ret
      rw [HE.out]
      exact ⟨rfl, below_drewN HB.out _⟩
    · have HE := Lib.hid (HON.out fun j hj => HNO.out j hj (by omega))
      go_wp2
      go_ret
      rw [HE.out]
      exact ⟨rfl, HB.out⟩
end Go.Proofs.YtiegjplldfodkaaDoor
