/- The walks of sort.Search, where.first and where.Find. -/
import Derived.Test.YtiegjplldfodkaaDoorWTabMay
import Derived.Test.YtiegjplldfodkaaDoorBelowReg
import Derived.Deep.RegionHeld3
import Derived.IntWalk
import Derived.WalkSmall
namespace Go.Proofs.YtiegjplldfodkaaDoor
open Go.RowKit
def IsB (b : Bool) (w : World) (e : Ending) (w' : World) : Prop := e = .returned (.bool b) ∧ Below w.heap.size w w'
set_option maxHeartbeats 1000000 in
theorem find1_any (ab : Nat) (a : Int) (n o : ByteArray) (xa xs xk : Int) (w : World) (h0 : ab < w.heap.size) (hc : w.cell? ⟨ab, 0, none⟩ = some (.int .u32 a)) :
    Calls Tryd.prog 43 #[.agg #[.string n, .string o, .int .u32 xa, .int .u32 xs, .int .u8 xk], .pointer (some ⟨ab, 0, none⟩)] w (IsB (decide (a < (xa + xs) % 4294967296)) w) := by
  have HEN := Lib.hid (fun w => end_any n o xa xs xk w)
  go_enter Tryd.func43, Tryd.ntmps43
  go_upto_region 1 with fail
  have HB : Hid (Below w.heap.size w (w.alloc (.cells #[.string n, .string o, .int .u32 xa, .int .u32 xs, .int .u8 xk] 43))) := alloc_old _ _
  have HX : Hid ((w.alloc (.cells #[.string n, .string o, .int .u32 xa, .int .u32 xs, .int .u8 xk] 43)).heap[w.heap.size]? = some (.cells #[.string n, .string o, .int .u32 xa, .int .u32 xs, .int .u8 xk] 43 (0, 0))) := heap_alloc_new w _
  generalize w.alloc (.cells #[.string n, .string o, .int .u32 xa, .int .u32 xs, .int .u8 xk] 43) = w1 at HB HX ⊢
  replace hc := cell_keep HB.out h0 hc
  replace h0 := size_keep HB.out h0
  generalize hxb : w.heap.size = xb at HX
  have zb : xb < w1.heap.size := (Array.getElem?_eq_some_iff.1 HX.out).1
  have y0 := bw_cell zb (Lib.cell_of_heap HX.out 0)
  have y1 := bw_cell zb (Lib.cell_of_heap HX.out 1)
  have y2 := bw_cell zb (Lib.cell_of_heap HX.out 2)
  have y3 := bw_cell zb (Lib.cell_of_heap HX.out 3)
  have y4 := bw_cell zb (Lib.cell_of_heap HX.out 4)
  have y5 := bw_cell h0 hc
  have HC : Hid (∀ x : BW w1, Calls Tryd.prog 44 #[.agg #[.string n, .string o, .int .u32 xa, .int .u32 xs, .int .u8 xk]] x.u fun e w' => e = .returned (.int .u32 ((xa + xs) % 4294967296)) ∧ ∃ y : BW w1, w' = y.u) := fun x => calls_below (HEN.out x.u)
  clear HEN
  generalize hen : (xa + xs) % 4294967296 = en at HC
  have HE := Lib.hid hen; clear hen
  refine wp_region_below (by kernel_rfl) (by kernel_rfl) ?_
  repeat (first | go_big_quiet_skip | quiet_step (((go_at_call 44; (with_reducible exact HC.out _)))))
  refine wpQuiet_nil ?_
  rintro w4 hx4; have hB4 := bw_of hx4; clear hx4
  clear HC y0 y1 y2 y3 y4 y5
  have HF : Hid (Below w.heap.size w w4) := HB.out.trans (hB4.mono HB.out.size)
  go_wp2
  go_ret
  obtain rfl := HE.out
  exact ⟨rfl, HF.out⟩
set_option maxRecDepth 100000 in
set_option maxHeartbeats 1000000 in
theorem first1_any (ib lb ab : Nat) (a : Int) (v : Value) (t : List GTs) (k : Nat) (w : World) (hk : k < t.length) (h : TabAt w v t) (h0 : ab < w.heap.size) (hc : w.cell? ⟨ab, 0, none⟩ = some (.int .u32 a))
    (hi : w.cell? ⟨ib, 0, none⟩ = some (.func (.func 43) #[] #[.pointer (some ⟨ab, 0, none⟩)])) (hl : w.cell? ⟨lb, 0, none⟩ = some v) :
    Calls Tryd.prog 62 #[.int .i64 k, .pointer (some ⟨ib, 0, none⟩), .pointer (some ⟨lb, 0, none⟩)] w (IsB (decide (a < endU t[k])) w) := by
  have zi : ib < w.heap.size := World.block_lt_of_cell? w ⟨ib, 0, none⟩ hi
  have zl : lb < w.heap.size := World.block_lt_of_cell? w ⟨lb, 0, none⟩ hl
  obtain ⟨p, cap, b, o, rfl, hcap, hmax, hp, hcc⟩ := h
  obtain rfl := hp (by omega)
  obtain ⟨g0, g1, g2, g3, g4, g5, -⟩ := hcc k hk
  clear hp hcc
  unfold endU
  generalize t[k] = x at g1 g2 g3 g4 g5 ⊢
  obtain ⟨xn, xo, xa, xs, xk⟩ := x
  simp only [] at g1 g2 g3 g4 g5 ⊢
  have y0 := bw_cell g0 g1
  have y1 := bw_cell g0 g2
  have y2 := bw_cell g0 g3
  have y3 := bw_cell g0 g4
  have y4 := bw_cell g0 g5
  have y5 := bw_cell zi hi
  have y6 := bw_cell zl hl
  have HF : Hid (∀ x : BW w, Calls Tryd.prog 43 #[.agg #[.string xn, .string xo, .int .u32 xa, .int .u32 xs, .int .u8 xk], .pointer (some ⟨ab, 0, none⟩)] x.u fun e w' => e = .returned (.bool (decide (a < (xa + xs) % 4294967296))) ∧ ∃ y : BW w, w' = y.u) := fun x => calls_below (find1_any ab a xn xo xa xs xk x.u (size_keep x.b h0) (cell_keep x.b h0 hc))
  generalize hen : decide (a < (xa + xs) % 4294967296) = en at HF
  have HE := Lib.hid hen; clear hen hc
  have kI : (k : Int) < (t.length : Int) := by omega
  have k0 : (0 : Int) ≤ (k : Int) := by omega
  go_enter Tryd.func62, Tryd.ntmps62
  go_upto_region 1 with fail
  refine wp_region_below (by kernel_rfl) (by kernel_rfl) ?_
  repeat (first | go_big_quiet_skip | quiet_step (((go_at_call 43; (with_reducible exact HF.out _)))))
  refine wpQuiet_nil ?_
  rintro w4 hx4; have hB4 := bw_of hx4; clear hx4
  clear HF y0 y1 y2 y3 y4 y5 y6
  go_wp2
  go_ret
  obtain rfl := HE.out
  exact ⟨rfl, hB4⟩
def endG (t : List GTs) (a : Int) (k : Nat) : Bool := (t[k]?.map fun x => decide (a < endU x)).getD false
theorem endG_at {t : List GTs} {a : Int} {k : Nat} (h : k < t.length) : endG t a k = decide (a < endU t[k]) := by simp [endG, List.getElem?_eq_getElem h]
def SearchPost (g : Nat → Bool) (n : Nat) (w : World) (e : Ending) (w' : World) : Prop := ∃ m : Nat, m ≤ n ∧ e = .returned (.int .i64 m) ∧ (∀ j, j + 1 = m → g j = false) ∧ (m < n → g m = true) ∧ Below w.heap.size w w'
set_option maxRecDepth 100000 in
set_option maxHeartbeats 1000000 in
theorem search_any (ib lb n : Nat) (g : Nat → Bool) (w : World) (hn : n ≤ 140737488355328)
    (HF : ∀ k, k < n → ∀ w', Below w.heap.size w w' → Calls Tryd.prog 62 #[.int .i64 k, .pointer (some ⟨ib, 0, none⟩), .pointer (some ⟨lb, 0, none⟩)] w' (IsB (g k) w')) :
    Calls Tryd.prog 61 #[.int .i64 n, .func (.func 62) #[] #[.pointer (some ⟨ib, 0, none⟩), .pointer (some ⟨lb, 0, none⟩)]] w (SearchPost g n w) := by
  have HF := Lib.hid HF
  go_enter Tryd.func61, Tryd.ntmps61
  go_wp2
  go_loopw [5, 6] (fun v5 v6 wr => ∃ i j : Nat, i ≤ j ∧ j ≤ n ∧ v5 = .int .i64 i ∧ v6 = .int .i64 j ∧ (∀ q, q + 1 = i → g q = false) ∧ (j < n → g j = true) ∧ Below w.heap.size w wr) (fun v5 v6 _ => (intOf v6 - intOf v5).toNat)
  case atStart => exact ⟨0, n, Nat.zero_le _, Nat.le_refl _, rfl, rfl, fun q h => by omega, fun h => by omega, Below.refl _ _⟩
  case round =>
    obtain ⟨i, j, hij, hjn, rfl, rfl, hi, hj, hbel⟩ := hrel
    have HI := Lib.hid hi; have HJ := Lib.hid hj; have HB := Lib.hid hbel
    clear hi hj hbel
    by_cases hlt : i < j
    · go_wp2_with fail
      have hm : ((i : Int) + (j : Int)) / 2 = (((i + j) / 2 : Nat) : Int) := by omega
      rw [hm]
      have m1 : (i + j) / 2 < j := by omega
      have m2 : i ≤ (i + j) / 2 := by omega
      generalize (i + j) / 2 = m at m1 m2
      clear hm
      refine (HF.out m (by omega) wr HB.out).mono ?_
      rintro e w2 ⟨rfl, hB⟩
      have HB2 := Lib.hid (HB.out.trans (hB.mono HB.out.size))
      clear hB
      cases hg : g m with
      | true =>
        have HG := Lib.hid hg; clear hg
        go_wp2
        go_roundw
        case rel => exact ⟨i, m, by omega, by omega, rfl, rfl, HI.out, fun _ => HG.out, HB2.out⟩
        case measure => simp [intOf]; omega
      | false =>
        have HG := Lib.hid hg; clear hg
        go_wp2
        go_roundw
        case rel => exact ⟨m + 1, j, by omega, by omega, by go_num, rfl, fun q hq => by obtain rfl : q = m := (by omega); exact HG.out, HJ.out, HB2.out⟩
        case measure => simp [intOf]; omega
    · have d : decide ((i : Int) < (j : Int)) = false := by simp; omega
      have d' : decide (i < j) = false := by simp; omega
      have HE : Hid (i = j) := by rw [Hid]; omega
      clear hlt
      go_wp2
      go_ret
      have he := HE.out
      exact ⟨i, by omega, rfl, HI.out, by rw [he]; exact HJ.out, HB.out⟩
set_option maxRecDepth 100000 in
set_option maxHeartbeats 1000000 in
theorem first_any (ab : Nat) (a : Int) (v : Value) (t : List GTs) (w : World) (h : TabAt w v t) (h0 : ab < w.heap.size) (hc : w.cell? ⟨ab, 0, none⟩ = some (.int .u32 a)) :
    Calls Tryd.prog 42 #[v, .func (.func 43) #[] #[.pointer (some ⟨ab, 0, none⟩)]] w (SearchPost (endG t a) t.length w) := by
  obtain ⟨p, cap, b, o, rfl, hcap, hmax, -⟩ := id h
  have HS := Lib.hid (fun (w1 : World) (ib lb : Nat) (hb : Below w.heap.size w w1) (hi : w1.cell? ⟨ib, 0, none⟩ = some (.func (.func 43) #[] #[.pointer (some ⟨ab, 0, none⟩)])) (hl : w1.cell? ⟨lb, 0, none⟩ = some (.slice p t.length cap)) =>
    search_any ib lb t.length (endG t a) w1 hmax (fun k hk w' hb' => by
      have zi : ib < w1.heap.size := World.block_lt_of_cell? w1 ⟨ib, 0, none⟩ hi
      have zl : lb < w1.heap.size := World.block_lt_of_cell? w1 ⟨lb, 0, none⟩ hl
      have hb2 : Below w.heap.size w w' := hb.trans (hb'.mono hb.size)
      have := first1_any ib lb ab a _ t k w' hk (TabAt.keep' hb2 h) (size_keep hb2 h0) (cell_keep hb2 h0 hc) (cell_keep hb' zi hi) (cell_keep hb' zl hl)
      rw [endG_at hk]; exact this))
  clear h hc
  generalize endG t a = g at HS ⊢
  go_enter Tryd.func42, Tryd.ntmps42
  go_wp2_with fail
  refine (HS.out _ _ _ ((alloc_old w _).alloc (by simp) _) (by simp [go_sem]) (by simp [go_sem])).mono ?_
  rintro e w2 ⟨m, hm, rfl, k1, k2, hB⟩
  have HK := Lib.hid (And.intro k1 k2)
  have HB : Hid (Below w.heap.size w w2) := ((alloc_old w _).alloc (by simp) _).trans (hB.mono (by simp; omega))
  clear k1 k2 hB HS
  go_wp2
  go_ret
  exact ⟨m, hm, rfl, HK.out.1, HK.out.2, HB.out⟩
def FindPost (r : Nat × Int × Bool) (w : World) (e : Ending) (w' : World) : Prop := e = .returned (.tuple #[.int .i64 r.1, .int .u32 r.2.1, .bool r.2.2]) ∧ Below w.heap.size w w'
theorem find_of {t : List GTs} {a : Int} {m : Nat} (hok : tabOk t = true) (hm : m ≤ t.length) (k1 : ∀ j, j + 1 = m → endG t a j = false) (k2 : m < t.length → endG t a m = true) :
    findT t a = if h : m < t.length then (if t[m].addr ≤ a then (m, a - t[m].addr, true) else (0, 0, false)) else (0, 0, false) := by
  have hgo := tabOk_go hok
  have hen : ∀ j (hj : j < t.length), endU t[j] = t[j].addr + t[j].size := fun j hj => by
    have := tabGo_at hgo j hj
    unfold endU; omega
  refine findT_first hok hm (fun h => ?_) fun h => ?_
  · have h1 := k1 (m - 1) (by omega)
    rw [endG_at (by omega), hen _ (by omega)] at h1
    simpa using h1
  · have h1 := k2 h
    rw [endG_at h, hen _ h] at h1
    simpa using h1
set_option maxRecDepth 100000 in
set_option maxHeartbeats 2000000 in
theorem whFind_any (v : Value) (t : List GTs) (a : Int) (w : World) (h : TabAt w v t) (ha : 0 ≤ a ∧ a ≤ 4294967295) :
    Calls Tryd.prog 13 #[v, .int .u32 a] w (FindPost (findT t a) w) := by
  obtain ⟨p, cap, b, o, rfl, hcap, hmax, -⟩ := id h
  have H := Lib.hid h; clear h
  go_enter Tryd.func13, Tryd.ntmps13
  go_upto_region 1 with fail
  have HB0 : Hid (Below w.heap.size w (w.alloc (.cells #[.int .u32 a] 33))) := alloc_old _ _
  have HX : Hid ((w.alloc (.cells #[.int .u32 a] 33)).heap[w.heap.size]? = some (.cells #[.int .u32 a] 33 (0, 0))) := heap_alloc_new w _
  generalize w.alloc (.cells #[.int .u32 a] 33) = w1 at HB0 HX ⊢
  have z1 : w.heap.size < w1.heap.size := (Array.getElem?_eq_some_iff.1 HX.out).1
  have HF := Lib.hid (first_any w.heap.size a _ t w1 (TabAt.keep' HB0.out H.out) z1 (Lib.cell_of_heap HX.out 0))
  go_wp2_with fail
  refine HF.out.mono ?_
  rintro e w2 ⟨m, hm, rfl, k1, k2, hB⟩
  have HK := Lib.hid (And.intro k1 k2)
  have z2 : w.heap.size < w2.heap.size := size_keep hB z1
  have c2 : w2.cell? ⟨w.heap.size, 0, none⟩ = some (.int .u32 a) := cell_keep hB z1 (Lib.cell_of_heap HX.out 0)
  have HB2 : Hid (Below w.heap.size w w2) := HB0.out.trans (hB.mono HB0.out.size)
  clear k1 k2 hB HF HX HB0
  have H2 := Lib.hid (TabAt.keep' HB2.out H.out)
  have HCK : Hid (∀ x : BW w2, Calls Tryd.prog 23 #[.slice p t.length cap] x.u fun e w' => e = .returned (.int .i64 (errB (tabOk t))) ∧ ∃ y : BW w2, w' = y.u) := fun x => calls_below (whCheck_any _ t x.u (TabAt.keep' x.b H2.out))
  have y0 := bw_cell z2 c2
  by_cases hok : tabOk t = true
  case neg =>
    have hok' : tabOk t = false := by simpa using hok
    rw [hok'] at HCK
    simp only [errB, Bool.false_eq_true, if_false] at HCK
    have HR : Hid (findT t a = (0, 0, false)) := findT_bad hok'
    clear hok hok'
    go_wp2_with fail
    refine wp_region_below (by kernel_rfl) (by kernel_rfl) ?_
    repeat (first | go_big_quiet_skip | quiet_step (((go_at_call 23; (with_reducible exact HCK.out _)))))
    refine wpQuiet_nil ?_
    rintro w4 hx4; have hB4 := bw_of hx4; clear hx4
    clear HCK y0
    go_wp2
    refine bodyPost_ret (v := .tuple #[.int .i64 0, .int .u32 0, .bool false]) (by simp [results, Tryd.results13, go_sem]) rfl ?_
    unfold FindPost
    rw [HR.out]
    exact ⟨rfl, HB2.out.trans (hB4.mono HB2.out.size)⟩
  rw [hok] at HCK
  simp only [errB, if_true] at HCK
  have HFO := Lib.hid (find_of hok hm HK.out.1 HK.out.2)
  have HAT := Lib.hid (tabGo_at (tabOk_go hok))
  clear hok HK
  by_cases hml : m < t.length
  case neg =>
    have hme : m = t.length := by omega
    have n1 : ((m : Int) == (t.length : Int)) = true := by simp; omega
    have n2 : (m == t.length) = true := by simpa using hme
    have HR := HFO.out
    rw [dif_neg hml] at HR
    replace HR := Lib.hid HR
    clear hml hme HFO
    go_wp2_with fail
    refine wp_region_below (by kernel_rfl) (by kernel_rfl) ?_
    repeat (first | go_big_quiet_skip | quiet_step (((go_at_call 23; (with_reducible exact HCK.out _)))))
    refine wpQuiet_nil ?_
    rintro w4 hx4; have hB4 := bw_of hx4; clear hx4
    clear HCK y0
    go_wp2
    refine bodyPost_ret (v := .tuple #[.int .i64 0, .int .u32 0, .bool false]) (by simp [results, Tryd.results13, go_sem]) rfl ?_
    unfold FindPost
    rw [HR.out]
    exact ⟨rfl, HB2.out.trans (hB4.mono HB2.out.size)⟩
  have HR := HFO.out
  rw [dif_pos hml] at HR
  replace HR := Lib.hid HR
  clear HFO
  have n1 : ((m : Int) == (t.length : Int)) = false := by simp; omega
  have n2 : (m == t.length) = false := by simp; omega
  have kI : (m : Int) < (t.length : Int) := by omega
  have k0 : (0 : Int) ≤ (m : Int) := by omega
  obtain ⟨p', cap', b', o', e', -, -, q1, q2⟩ := H2.out
  injection e' with e1 e2 e3
  subst e1; subst e3; clear e2
  obtain rfl := q1 (by omega)
  obtain ⟨g0, g1, g2, g3, g4, g5, r1, -⟩ := q2 m hml
  have hxa := (HAT.out m hml).1
  clear q1 q2
  generalize t[m] = x at g1 g2 g3 g4 g5 r1 hxa HR
  clear hml
  obtain ⟨xn, xo, xa, xs, xk⟩ := x
  simp only [] at g1 g2 g3 g4 g5 r1 hxa HR
  have y3 := bw_cell g0 g3
  by_cases hax : xa ≤ a
  · rw [if_pos hax] at HR
    have dlt : decide (a < xa) = false := by simpa using hax
    have hsub : IntKind.u32.wrap (a - xa) = a - xa := IntWalk.u32_in _ (by omega)
    have HSUB := Lib.hid hsub; clear hsub hax
    go_wp2_with fail
    refine wp_region_below (by kernel_rfl) (by kernel_rfl) ?_
    repeat (first | go_big_quiet_skip | quiet_step (((go_at_call 23; (with_reducible exact HCK.out _)))))
    refine wpQuiet_nil ?_
    rintro w4 hx4; have hB4 := bw_of hx4; clear hx4
    have HB4 := Lib.hid hB4; clear hB4
    have z4 : w.heap.size < w4.heap.size := size_keep HB4.out z2
    have c4 : w4.cell? ⟨w.heap.size, 0, none⟩ = some (.int .u32 a) := cell_keep HB4.out z2 c2
    have c5 := cell_keep HB4.out g0 g3
    clear HCK y0 y3
    have hsub := HSUB.out
    clear r1 hxa ha
    go_wp2
    go_quiet (fail)
    go_wp2
    refine bodyPost_ret (v := .tuple #[.int .i64 m, .int .u32 (a - xa), .bool true]) (by simp [results, Tryd.results13, go_sem]) rfl ?_
    unfold FindPost
    rw [HR.out]
    exact ⟨rfl, below_drewN (HB2.out.trans (HB4.out.mono HB2.out.size)) _⟩
  · rw [if_neg hax] at HR
    have dlt : decide (a < xa) = true := by simpa using hax
    clear hax
    go_wp2_with fail
    refine wp_region_below (by kernel_rfl) (by kernel_rfl) ?_
    repeat (first | go_big_quiet_skip | quiet_step (((go_at_call 23; (with_reducible exact HCK.out _)))))
    refine wpQuiet_nil ?_
    rintro w4 hx4; have hB4 := bw_of hx4; clear hx4
    clear HCK y0 y3
    go_wp2
    refine bodyPost_ret (v := .tuple #[.int .i64 0, .int .u32 0, .bool false]) (by simp [results, Tryd.results13, go_sem]) rfl ?_
    unfold FindPost
    rw [HR.out]
    exact ⟨rfl, HB2.out.trans (hB4.mono HB2.out.size)⟩
end Go.Proofs.YtiegjplldfodkaaDoor
