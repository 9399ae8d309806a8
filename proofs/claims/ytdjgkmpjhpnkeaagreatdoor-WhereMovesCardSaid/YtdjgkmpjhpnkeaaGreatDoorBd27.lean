/- The walks of sort.Search, where.first and where.Find. The walk of word.Get. The walks of pack.Reader's methods. -/
import Derived.Test.YtdjgkmpjhpnkeaaGreatDoorBd26
import Derived.Test.YtdjgkmpjhpnkeaaGreatDoorBd09
import Derived.Deep.RegionHeld3
import Derived.IntWalk
import Derived.WalkSmall
import Derived.Test.YtdjgkmpjhpnkeaaGreatDoorRows
import Derived.Test.YtdjgkmpjhpnkeaaGreatDoorBd03
import Derived.Lib.Hide
import Derived.Laws.BitsAllLaws
import Derived.Test.YtdjgkmpjhpnkeaaGreatDoorBd04
import Derived.Lib.Builder
import Derived.Lib.Strings
import Derived.BigQuiet
namespace Go.Proofs.YtdjgkmpjhpnkeaaGreatDoor
open Go.RowKit
def IsB (b : Bool) (w : World) (e : Ending) (w' : World) : Prop := e = .returned (.bool b) ∧ Below w.heap.size w w'
set_option maxHeartbeats 1000000 in
theorem tfind1_any (ab : Nat) (a : Int) (n o : ByteArray) (xa xs xk : Int) (w : World) (h0 : ab < w.heap.size) (hc : w.cell? ⟨ab, 0, none⟩ = some (.int .u32 a)) :
    Calls Tryz.prog 85 #[.agg #[.string n, .string o, .int .u32 xa, .int .u32 xs, .int .u8 xk], .pointer (some ⟨ab, 0, none⟩)] w (IsB (decide (a < (xa + xs) % 4294967296)) w) := by
  have HEN := Lib.hid (fun w => end_any n o xa xs xk w)
  go_enter Tryz.func85, Tryz.ntmps85
  go_upto_region 1 with fail
  have HB : Hid (Below w.heap.size w (w.alloc (.cells #[.string n, .string o, .int .u32 xa, .int .u32 xs, .int .u8 xk] 56))) := alloc_old _ _
  have HX : Hid ((w.alloc (.cells #[.string n, .string o, .int .u32 xa, .int .u32 xs, .int .u8 xk] 56)).heap[w.heap.size]? = some (.cells #[.string n, .string o, .int .u32 xa, .int .u32 xs, .int .u8 xk] 56 (0, 0))) := heap_alloc_new w _
  generalize w.alloc (.cells #[.string n, .string o, .int .u32 xa, .int .u32 xs, .int .u8 xk] 56) = w1 at HB HX ⊢
  replace hc := cell_keep HB.out h0 hc
  replace h0 := size_keep HB.out h0
  generalize hxb : w.heap.size = xb at HX
  have zb : xb < w1.heap.size := (Array.getElem?_eq_some_iff.1 HX.out).1
  have y0 := bw_cell zb (Lib.cell_of_heap HX.out 0)
  have y1 := bw_cell zb (Lib.cell_of_heap HX.out 1)
  have y2 := bw_cell zb (Lib.cell_of_heap HX.out 2)
  have y3 := bw_cell zb (Lib.cell_of_heap HX.out 3)
  have y4 := bw_cell zb (Lib.cell_of_heap HX.out 4)
  have y5 := bw_cell h0 hc
  have HC : Hid (∀ x : BW w1, Calls Tryz.prog 82 #[.agg #[.string n, .string o, .int .u32 xa, .int .u32 xs, .int .u8 xk]] x.u fun e w' => e = .returned (.int .u32 ((xa + xs) % 4294967296)) ∧ ∃ y : BW w1, w' = y.u) := fun x => calls_below (HEN.out x.u)
  clear HEN
  generalize hen : (xa + xs) % 4294967296 = en at HC
  have HE := Lib.hid hen; clear hen
  refine wp_region_below (by kernel_rfl) (by kernel_rfl) ?_
  repeat (first | go_big_quiet_skip | quiet_step (((go_at_call 82; (with_reducible exact HC.out _)))))
  refine wpQuiet_nil ?_
  rintro w4 hx4; have hB4 := bw_of hx4; clear hx4
  clear HC y0 y1 y2 y3 y4 y5
  have HF : Hid (Below w.heap.size w w4) := HB.out.trans (hB4.mono HB.out.size)
  go_wp2
  go_ret
  obtain rfl := HE.out
  exact ⟨rfl, HF.out⟩
set_option maxRecDepth 100000 in
set_option maxHeartbeats 1000000 in
theorem first1_any (ib lb ab : Nat) (a : Int) (v : Value) (t : List GTs) (k : Nat) (w : World) (hk : k < t.length) (h : TabAt w v t) (h0 : ab < w.heap.size) (hc : w.cell? ⟨ab, 0, none⟩ = some (.int .u32 a))
    (hi : w.cell? ⟨ib, 0, none⟩ = some (.func (.func 85) #[] #[.pointer (some ⟨ab, 0, none⟩)])) (hl : w.cell? ⟨lb, 0, none⟩ = some v) :
    Calls Tryz.prog 179 #[.int .i64 k, .pointer (some ⟨ib, 0, none⟩), .pointer (some ⟨lb, 0, none⟩)] w (IsB (decide (a < endU t[k])) w) := by
  have zi : ib < w.heap.size := World.block_lt_of_cell? w ⟨ib, 0, none⟩ hi
  have zl : lb < w.heap.size := World.block_lt_of_cell? w ⟨lb, 0, none⟩ hl
  obtain ⟨p, cap, b, o, rfl, hcap, hmax, hp, hcc⟩ := h
  obtain rfl := hp (by omega)
  obtain ⟨g0, g1, g2, g3, g4, g5, -⟩ := hcc k hk
  clear hp hcc
  unfold endU
  generalize t[k] = x at g1 g2 g3 g4 g5 ⊢
  obtain ⟨xn, xo, xa, xs, xk⟩ := x
  simp only [] at g1 g2 g3 g4 g5 ⊢
  have y0 := bw_cell g0 g1
  have y1 := bw_cell g0 g2
  have y2 := bw_cell g0 g3
  have y3 := bw_cell g0 g4
  have y4 := bw_cell g0 g5
  have y5 := bw_cell zi hi
  have y6 := bw_cell zl hl
  have HF : Hid (∀ x : BW w, Calls Tryz.prog 85 #[.agg #[.string xn, .string xo, .int .u32 xa, .int .u32 xs, .int .u8 xk], .pointer (some ⟨ab, 0, none⟩)] x.u fun e w' => e = .returned (.bool (decide (a < (xa + xs) % 4294967296))) ∧ ∃ y : BW w, w' = y.u) := fun x => calls_below (tfind1_any ab a xn xo xa xs xk x.u (size_keep x.b h0) (cell_keep x.b h0 hc))
  generalize hen : decide (a < (xa + xs) % 4294967296) = en at HF
  have HE := Lib.hid hen; clear hen hc
  have kI : (k : Int) < (t.length : Int) := by omega
  have k0 : (0 : Int) ≤ (k : Int) := by omega
  go_enter Tryz.func179, Tryz.ntmps179
  go_upto_region 1 with fail
  refine wp_region_below (by kernel_rfl) (by kernel_rfl) ?_
  repeat (first | go_big_quiet_skip | quiet_step (((go_at_call 85; (with_reducible exact HF.out _)))))
  refine wpQuiet_nil ?_
  rintro w4 hx4; have hB4 := bw_of hx4; clear hx4
  clear HF y0 y1 y2 y3 y4 y5 y6
  go_wp2
  go_ret
  obtain rfl := HE.out
  exact ⟨rfl, hB4⟩
def endG (t : List GTs) (a : Int) (k : Nat) : Bool := (t[k]?.map fun x => decide (a < endU x)).getD false
theorem endG_at {t : List GTs} {a : Int} {k : Nat} (h : k < t.length) : endG t a k = decide (a < endU t[k]) := by simp [endG, List.getElem?_eq_getElem h]
def SearchPost (g : Nat → Bool) (n : Nat) (w : World) (e : Ending) (w' : World) : Prop := ∃ m : Nat, m ≤ n ∧ e = .returned (.int .i64 m) ∧ (∀ j, j + 1 = m → g j = false) ∧ (m < n → g m = true) ∧ Below w.heap.size w w'
set_option maxRecDepth 100000 in
set_option maxHeartbeats 1000000 in
theorem search_any (ib lb n : Nat) (g : Nat → Bool) (w : World) (hn : n ≤ 140737488355328)
    (HF : ∀ k, k < n → ∀ w', Below w.heap.size w w' → Calls Tryz.prog 179 #[.int .i64 k, .pointer (some ⟨ib, 0, none⟩), .pointer (some ⟨lb, 0, none⟩)] w' (IsB (g k) w')) :
    Calls Tryz.prog 178 #[.int .i64 n, .func (.func 179) #[] #[.pointer (some ⟨ib, 0, none⟩), .pointer (some ⟨lb, 0, none⟩)]] w (SearchPost g n w) := by
  have HF := Lib.hid HF
  go_enter Tryz.func178, Tryz.ntmps178
  go_wp2
  go_loopw [5, 6] (fun v5 v6 wr => ∃ i j : Nat, i ≤ j ∧ j ≤ n ∧ v5 = .int .i64 i ∧ v6 = .int .i64 j ∧ (∀ q, q + 1 = i → g q = false) ∧ (j < n → g j = true) ∧ Below w.heap.size w wr) (fun v5 v6 _ => (intOf v6 - intOf v5).toNat)
  case atStart => exact ⟨0, n, Nat.zero_le _, Nat.le_refl _, rfl, rfl, fun q h => by omega, fun h => by omega, Below.refl _ _⟩
  case round =>
    obtain ⟨i, j, hij, hjn, rfl, rfl, hi, hj, hbel⟩ := hrel
    have HI := Lib.hid hi; have HJ := Lib.hid hj; have HB := Lib.hid hbel
    clear hi hj hbel
    by_cases hlt : i < j
    · go_wp2_with fail
      have hm : ((i : Int) + (j : Int)) / 2 = (((i + j) / 2 : Nat) : Int) := by omega
      rw [hm]
      have m1 : (i + j) / 2 < j := by omega
      have m2 : i ≤ (i + j) / 2 := by omega
      generalize (i + j) / 2 = m at m1 m2
      clear hm
      refine (HF.out m (by omega) wr HB.out).mono ?_
      rintro e w2 ⟨rfl, hB⟩
      have HB2 := Lib.hid (HB.out.trans (hB.mono HB.out.size))
      clear hB
      cases hg : g m with
      | true =>
        have HG := Lib.hid hg; clear hg
        go_wp2
        go_roundw
        case rel => exact ⟨i, m, by omega, by omega, rfl, rfl, HI.out, fun _ => HG.out, HB2.out⟩
        case measure => simp [intOf]; omega
      | false =>
        have HG := Lib.hid hg; clear hg
        go_wp2
        go_roundw
        case rel => exact ⟨m + 1, j, by omega, by omega, by go_num, rfl, fun q hq => by obtain rfl : q = m := (by omega); exact HG.out, HJ.out, HB2.out⟩
        case measure => simp [intOf]; omega
    · have d : decide ((i : Int) < (j : Int)) = false := by simp; omega
      have d' : decide (i < j) = false := by simp; omega
      have HE : Hid (i = j) := by rw [Hid]; omega
      clear hlt
      go_wp2
      go_ret
      have he := HE.out
      exact ⟨i, by omega, rfl, HI.out, by rw [he]; exact HJ.out, HB.out⟩
set_option maxRecDepth 100000 in
set_option maxHeartbeats 1000000 in
theorem first_any (ab : Nat) (a : Int) (v : Value) (t : List GTs) (w : World) (h : TabAt w v t) (h0 : ab < w.heap.size) (hc : w.cell? ⟨ab, 0, none⟩ = some (.int .u32 a)) :
    Calls Tryz.prog 84 #[v, .func (.func 85) #[] #[.pointer (some ⟨ab, 0, none⟩)]] w (SearchPost (endG t a) t.length w) := by
  obtain ⟨p, cap, b, o, rfl, hcap, hmax, -⟩ := id h
  have HS := Lib.hid (fun (w1 : World) (ib lb : Nat) (hb : Below w.heap.size w w1) (hi : w1.cell? ⟨ib, 0, none⟩ = some (.func (.func 85) #[] #[.pointer (some ⟨ab, 0, none⟩)])) (hl : w1.cell? ⟨lb, 0, none⟩ = some (.slice p t.length cap)) =>
    search_any ib lb t.length (endG t a) w1 hmax (fun k hk w' hb' => by
      have zi : ib < w1.heap.size := World.block_lt_of_cell? w1 ⟨ib, 0, none⟩ hi
      have zl : lb < w1.heap.size := World.block_lt_of_cell? w1 ⟨lb, 0, none⟩ hl
      have hb2 : Below w.heap.size w w' := hb.trans (hb'.mono hb.size)
      have := first1_any ib lb ab a _ t k w' hk (TabAt.keep' hb2 h) (size_keep hb2 h0) (cell_keep hb2 h0 hc) (cell_keep hb' zi hi) (cell_keep hb' zl hl)
      rw [endG_at hk]; exact this))
  clear h hc
  generalize endG t a = g at HS ⊢
  go_enter Tryz.func84, Tryz.ntmps84
  go_wp2_with fail
  refine (HS.out _ _ _ ((alloc_old w _).alloc (by simp) _) (by simp [go_sem]) (by simp [go_sem])).mono ?_
  rintro e w2 ⟨m, hm, rfl, k1, k2, hB⟩
  have HK := Lib.hid (And.intro k1 k2)
  have HB : Hid (Below w.heap.size w w2) := ((alloc_old w _).alloc (by simp) _).trans (hB.mono (by simp; omega))
  clear k1 k2 hB HS
  go_wp2
  go_ret
  exact ⟨m, hm, rfl, HK.out.1, HK.out.2, HB.out⟩
def FindPost (r : Nat × Int × Bool) (w : World) (e : Ending) (w' : World) : Prop := e = .returned (.tuple #[.int .i64 r.1, .int .u32 r.2.1, .bool r.2.2]) ∧ Below w.heap.size w w'
theorem find_of {t : List GTs} {a : Int} {m : Nat} (hok : tabOk t = true) (hm : m ≤ t.length) (k1 : ∀ j, j + 1 = m → endG t a j = false) (k2 : m < t.length → endG t a m = true) :
    findT t a = if h : m < t.length then (if t[m].addr ≤ a then (m, a - t[m].addr, true) else (0, 0, false)) else (0, 0, false) := by
  have hgo := tabOk_go hok
  have hen : ∀ j (hj : j < t.length), endU t[j] = t[j].addr + t[j].size := fun j hj => by
    have := tabGo_at hgo j hj
    unfold endU; omega
  refine findT_first hok hm (fun h => ?_) fun h => ?_
  · have h1 := k1 (m - 1) (by omega)
    rw [endG_at (by omega), hen _ (by omega)] at h1
    simpa using h1
  · have h1 := k2 h
    rw [endG_at h, hen _ h] at h1
    simpa using h1
set_option maxRecDepth 100000 in
set_option maxHeartbeats 2000000 in
theorem whFind_any (v : Value) (t : List GTs) (a : Int) (w : World) (h : TabAt w v t) (ha : 0 ≤ a ∧ a ≤ 4294967295) :
    Calls Tryz.prog 26 #[v, .int .u32 a] w (FindPost (findT t a) w) := by
  obtain ⟨p, cap, b, o, rfl, hcap, hmax, -⟩ := id h
  have H := Lib.hid h; clear h
  go_enter Tryz.func26, Tryz.ntmps26
  go_upto_region 1 with fail
  have HB0 : Hid (Below w.heap.size w (w.alloc (.cells #[.int .u32 a] 27))) := alloc_old _ _
  have HX : Hid ((w.alloc (.cells #[.int .u32 a] 27)).heap[w.heap.size]? = some (.cells #[.int .u32 a] 27 (0, 0))) := heap_alloc_new w _
  generalize w.alloc (.cells #[.int .u32 a] 27) = w1 at HB0 HX ⊢
  have z1 : w.heap.size < w1.heap.size := (Array.getElem?_eq_some_iff.1 HX.out).1
  have HF := Lib.hid (first_any w.heap.size a _ t w1 (TabAt.keep' HB0.out H.out) z1 (Lib.cell_of_heap HX.out 0))
  go_wp2_with fail
  refine HF.out.mono ?_
  rintro e w2 ⟨m, hm, rfl, k1, k2, hB⟩
  have HK := Lib.hid (And.intro k1 k2)
  have z2 : w.heap.size < w2.heap.size := size_keep hB z1
  have c2 : w2.cell? ⟨w.heap.size, 0, none⟩ = some (.int .u32 a) := cell_keep hB z1 (Lib.cell_of_heap HX.out 0)
  have HB2 : Hid (Below w.heap.size w w2) := HB0.out.trans (hB.mono HB0.out.size)
  clear k1 k2 hB HF HX HB0
  have H2 := Lib.hid (TabAt.keep' HB2.out H.out)
  have HCK : Hid (∀ x : BW w2, Calls Tryz.prog 24 #[.slice p t.length cap] x.u fun e w' => e = .returned (.int .i64 (errB (tabOk t))) ∧ ∃ y : BW w2, w' = y.u) := fun x => calls_below (whCheck_any _ t x.u (TabAt.keep' x.b H2.out))
  have y0 := bw_cell z2 c2
  by_cases hok : tabOk t = true
  case neg =>
    have hok' : tabOk t = false := by simpa using hok
    rw [hok'] at HCK
    simp only [errB, Bool.false_eq_true, if_false] at HCK
    have HR : Hid (findT t a = (0, 0, false)) := findT_bad hok'
    clear hok hok'
    go_wp2_with fail
    refine wp_region_below (by kernel_rfl) (by kernel_rfl) ?_
    repeat (first | go_big_quiet_skip | quiet_step (((go_at_call 24; (with_reducible exact HCK.out _)))))
    refine wpQuiet_nil ?_
    rintro w4 hx4; have hB4 := bw_of hx4; clear hx4
    clear HCK y0
    go_wp2
    refine bodyPost_ret (v := .tuple #[.int .i64 0, .int .u32 0, .bool false]) (by simp [results, Tryz.results26, go_sem]) rfl ?_
    unfold FindPost
    rw [HR.out]
    exact ⟨rfl, HB2.out.trans (hB4.mono HB2.out.size)⟩
  rw [hok] at HCK
  simp only [errB, if_true] at HCK
  have HFO := Lib.hid (find_of hok hm HK.out.1 HK.out.2)
  have HAT := Lib.hid (tabGo_at (tabOk_go hok))
  clear hok HK
  by_cases hml : m < t.length
  case neg =>
    have hme : m = t.length := by omega
    have n1 : ((m : Int) == (t.length : Int)) = true := by simp; omega
    have n2 : (m == t.length) = true := by simpa using hme
    have HR := HFO.out
    rw [dif_neg hml] at HR
    replace HR := Lib.hid HR
    clear hml hme HFO
    go_wp2_with fail
    refine wp_region_below (by kernel_rfl) (by kernel_rfl) ?_
    repeat (first | go_big_quiet_skip | quiet_step (((go_at_call 24; (with_reducible exact HCK.out _)))))
    refine wpQuiet_nil ?_
    rintro w4 hx4; have hB4 := bw_of hx4; clear hx4
    clear HCK y0
    go_wp2
    refine bodyPost_ret (v := .tuple #[.int .i64 0, .int .u32 0, .bool false]) (by simp [results, Tryz.results26, go_sem]) rfl ?_
    unfold FindPost
    rw [HR.out]
    exact ⟨rfl, HB2.out.trans (hB4.mono HB2.out.size)⟩
  have HR := HFO.out
  rw [dif_pos hml] at HR
  replace HR := Lib.hid HR
  clear HFO
  have n1 : ((m : Int) == (t.length : Int)) = false := by simp; omega
  have n2 : (m == t.length) = false := by simp; omega
  have kI : (m : Int) < (t.length : Int) := by omega
  have k0 : (0 : Int) ≤ (m : Int) := by omega
  obtain ⟨p', cap', b', o', e', -, -, q1, q2⟩ := H2.out
  injection e' with e1 e2 e3
  subst e1; subst e3; clear e2
  obtain rfl := q1 (by omega)
  obtain ⟨g0, g1, g2, g3, g4, g5, r1, -⟩ := q2 m hml
  have hxa := (HAT.out m hml).1
  clear q1 q2
  generalize t[m] = x at g1 g2 g3 g4 g5 r1 hxa HR
  clear hml
  obtain ⟨xn, xo, xa, xs, xk⟩ := x
  simp only [] at g1 g2 g3 g4 g5 r1 hxa HR
  have y3 := bw_cell g0 g3
  by_cases hax : xa ≤ a
  · rw [if_pos hax] at HR
    have dlt : decide (a < xa) = false := by simpa using hax
    have hsub : IntKind.u32.wrap (a - xa) = a - xa := IntWalk.u32_in _ (by omega)
    have HSUB := Lib.hid hsub; clear hsub hax
    go_wp2_with fail
    refine wp_region_below (by kernel_rfl) (by kernel_rfl) ?_
    repeat (first | go_big_quiet_skip | quiet_step (((go_at_call 24; (with_reducible exact HCK.out _)))))
    refine wpQuiet_nil ?_
    rintro w4 hx4; have hB4 := bw_of hx4; clear hx4
    have HB4 := Lib.hid hB4; clear hB4
    have z4 : w.heap.size < w4.heap.size := size_keep HB4.out z2
    have c4 : w4.cell? ⟨w.heap.size, 0, none⟩ = some (.int .u32 a) := cell_keep HB4.out z2 c2
    have c5 := cell_keep HB4.out g0 g3
    clear HCK y0 y3
    have hsub := HSUB.out
    clear r1 hxa ha
    go_wp2
    go_quiet (fail)
    go_wp2
    refine bodyPost_ret (v := .tuple #[.int .i64 m, .int .u32 (a - xa), .bool true]) (by simp [results, Tryz.results26, go_sem]) rfl ?_
    unfold FindPost
    rw [HR.out]
    exact ⟨rfl, below_drewN (HB2.out.trans (HB4.out.mono HB2.out.size)) _⟩
  · rw [if_neg hax] at HR
    have dlt : decide (a < xa) = true := by simpa using hax
    clear hax
    go_wp2_with fail
    refine wp_region_below (by kernel_rfl) (by kernel_rfl) ?_
    repeat (first | go_big_quiet_skip | quiet_step (((go_at_call 24; (with_reducible exact HCK.out _)))))
    refine wpQuiet_nil ?_
    rintro w4 hx4; have hB4 := bw_of hx4; clear hx4
    clear HCK y0 y3
    go_wp2
    refine bodyPost_ret (v := .tuple #[.int .i64 0, .int .u32 0, .bool false]) (by simp [results, Tryz.results26, go_sem]) rfl ?_
    unfold FindPost
    rw [HR.out]
    exact ⟨rfl, HB2.out.trans (hB4.mono HB2.out.size)⟩
end Go.Proofs.YtdjgkmpjhpnkeaaGreatDoor
namespace Go.Proofs.YtdjgkmpjhpnkeaaGreatDoor
open Go.RowKit
theorem leV_snoc : ∀ (l : BL) (b : UInt8), leV (l ++ [b]) = leV l + b.toNat * pow256 l.length
  | [], b => by simp [leV, pow256]
  | x :: r, b => by
    rw [List.cons_append, leV, leV_snoc r b, leV, List.length_cons, pow256]
    rw [Int.mul_add, ← Int.add_assoc, Int.mul_left_comm]
theorem or_shift (a b k : Nat) (h : a < 2 ^ k) : a ||| b <<< k = a + b * 2 ^ k := by
  rw [Nat.or_comm, Nat.shiftLeft_eq, Nat.mul_comm b, ← Nat.two_pow_add_eq_or_of_lt h, Nat.add_comm]
theorem pow256_eq : ∀ k : Nat, pow256 k = ((2 ^ (8 * k) : Nat) : Int)
  | 0 => rfl
  | k + 1 => by rw [pow256, pow256_eq k, show 8 * (k + 1) = 8 * k + 8 by omega, Nat.pow_add]; simp; omega
theorem or_byte (l : BL) (b : UInt8) (hl : l.length < 4) : bits .or .u32 (leV l) ((b.toNat : Int) % 4294967296 * 2 ^ (8 * l.length) % 4294967296) = leV (l ++ [b]) := by
  have hv := leV_bd l
  have hb := b.toNat_lt
  rw [leV_snoc, pow256_eq]
  rw [pow256_eq] at hv
  have hp : (2 ^ (8 * l.length) : Nat) ≤ 16777216 := by
    have := Nat.pow_le_pow_right (n := 2) (by omega) (show 8 * l.length ≤ 24 by omega)
    exact this
  have hm : b.toNat * 2 ^ (8 * l.length) < 4294967296 := by
    have := Nat.mul_le_mul (show b.toNat ≤ 255 by omega) hp
    omega
  obtain ⟨a, ha⟩ := Int.eq_ofNat_of_zero_le hv.1
  have e1 : ((b.toNat : Int) % 4294967296 * 2 ^ (8 * l.length) % 4294967296) = ((b.toNat * 2 ^ (8 * l.length) : Nat) : Int) := by
    rw [Int.emod_eq_of_lt (a := (b.toNat : Int)) (by omega) (by omega)]
    rw [show (b.toNat : Int) * 2 ^ (8 * l.length) = ((b.toNat * 2 ^ (8 * l.length) : Nat) : Int) by simp]
    exact Int.emod_eq_of_lt (by omega) (by omega)
  rw [e1, ha]
  rw [ha] at hv
  have ha2 : a < 2 ^ (8 * l.length) := by omega
  rw [u32_or_nat a _ (by omega) hm, ← Nat.shiftLeft_eq, or_shift a b.toNat _ ha2]
  simp
set_option maxHeartbeats 1000000 in
set_option maxRecDepth 100000 in
theorem wordGet_any (s : ByteArray) (w : World) (h1 : 1 ≤ s.size) (h4 : s.size ≤ 4) :
    Calls Tryz.prog 194 #[.string s] w fun e w' => e = .returned (.tuple #[.int .u32 (leV s.data.toList), .int .i64 0]) ∧ w = w' := by
  have d1 : decide ((s.size : Int) < 1) = false := by simp; omega
  have d4 : decide ((4 : Int) < (s.size : Int)) = false := by simp; omega
  have d4' : decide (4 < s.size) = false := by simp; omega
  go_enter Tryz.func194, Tryz.ntmps194
  go_wp2
  go_loopw [2, 15] (fun v2 v15 wr => ∃ k : Nat, k ≤ s.size ∧ v15 = .int .i64 k ∧ v2 = .int .u32 (leV (s.data.toList.take k)) ∧ w = wr) (fun _ v15 _ => s.size - (intOf v15).toNat)
  case atStart => exact ⟨0, Nat.zero_le _, rfl, rfl, rfl⟩
  case round =>
    obtain ⟨k, hk, rfl, rfl, rfl⟩ := hrel
    by_cases hlt : k < s.size
    · have HE : Hid (bits .or .u32 (leV (s.data.toList.take k)) ((s[k].toNat : Int) % 4294967296 * 2 ^ (8 * k) % 4294967296) = leV (s.data.toList.take (k + 1))) := by
        have hl : (s.data.toList.take k).length = k := by rw [List.length_take, len_list]; omega
        have := or_byte (s.data.toList.take k) s[k] (by omega)
        rw [hl] at this
        rw [Hid, this, List.take_succ_eq_append_getElem (by rw [len_list]; exact hlt)]
        rfl
      go_wp2
      exact ⟨⟨k + 1, by omega, by go_num, by rw [HE.out], trivial⟩, by simp [intOf]; omega⟩
    · have HT : Hid (s.data.toList.take k = s.data.toList) := List.take_of_length_le (by rw [len_list]; omega)
      rw [HT.out]
      go_wp2
      go_ret2
      exact ⟨rfl, rfl⟩
end Go.Proofs.YtdjgkmpjhpnkeaaGreatDoor
namespace Go.Proofs.YtdjgkmpjhpnkeaaGreatDoor
open Go.RowKit
/-- a reader: its text, where it is, its fault -/
def RdB (w : World) (rb : Nat) (s : ByteArray) (a : Nat) (f : Int) : Prop :=
  w.heap[rb]? = some (.cells #[.string s, .int .i64 a, .int .i64 f] 281 (0, 0)) ∧ a ≤ s.size ∧ s.size ≤ 140737488355328
theorem RdB.lt {w : World} {rb : Nat} {s : ByteArray} {a : Nat} {f : Int} (h : RdB w rb s a f) : rb < w.heap.size := (Array.getElem?_eq_some_iff.1 h.1).1
theorem RdB.congr {w w' : World} {rb : Nat} {s : ByteArray} {a : Nat} {f : Int} (h : RdB w rb s a f) (k : w'.heap[rb]? = w.heap[rb]?) : RdB w' rb s a f := ⟨k.trans h.1, h.2⟩
theorem RdB.set1 {w : World} {rb : Nat} {s : ByteArray} {a : Nat} {f : Int} (h : RdB w rb s a f) (a' : Nat) (ha : a' ≤ s.size) : RdB (w.setCell ⟨rb, 1, none⟩ (.int .i64 a')) rb s a' f := by
  refine ⟨?_, ha, h.2.2⟩
  simp [World.setCell, Array.getElem?_modify, h.1]
theorem RdB.set2 {w : World} {rb : Nat} {s : ByteArray} {a : Nat} {f : Int} (h : RdB w rb s a f) (f' : Int) : RdB (w.setCell ⟨rb, 2, none⟩ (.int .i64 f')) rb s a f' := by
  refine ⟨?_, h.2⟩
  simp [World.setCell, Array.getElem?_modify, h.1]
theorem RdB.c0 {w : World} {rb : Nat} {s : ByteArray} {a : Nat} {f : Int} (h : RdB w rb s a f) : w.cell? ⟨rb, 0, none⟩ = some (.string s) := Lib.cell_of_heap h.1 0
theorem RdB.c1 {w : World} {rb : Nat} {s : ByteArray} {a : Nat} {f : Int} (h : RdB w rb s a f) : w.cell? ⟨rb, 1, none⟩ = some (.int .i64 a) := Lib.cell_of_heap h.1 1
theorem RdB.c2 {w : World} {rb : Nat} {s : ByteArray} {a : Nat} {f : Int} (h : RdB w rb s a f) : w.cell? ⟨rb, 2, none⟩ = some (.int .i64 f) := Lib.cell_of_heap h.1 2
theorem RdB.fz {w : World} {rb : Nat} {s : ByteArray} {a : Nat} {f : Int} (h : RdB w rb s a f) (j : Nat) : w.frozen? ⟨rb, j, none⟩ = false := Lib.frozen_of_heap h.1 j
abbrev KR (rb : Nat) (w w' : World) : Prop := KB (fun g => g = rb) w w'
theorem KR.set {rb : Nat} {w w' : World} (h : KR rb w w') (j : Nat) (u : Value) : KR rb w (w'.setCell ⟨rb, j, none⟩ u) := KB.setCell h (.inl rfl) u
theorem KR.draw {rb : Nat} {w : World} (n : Nat) : KR rb w (w.drewN n) := (KB.refl _ w).drewN n
set_option maxHeartbeats 400000 in
theorem fault_any (rb : Nat) (s : ByteArray) (a : Nat) (f : Int) (w : World) (h : RdB w rb s a f) :
    Calls Tryz.prog 94 #[.pointer (some ⟨rb, 0, none⟩)] w fun e w' => e = .returned (.int .i64 f) ∧ w = w' := by
  have c := h.c2
  clear h
  go_enter Tryz.func94, Tryz.ntmps94
  go_wp2
  go_ret
  exact ⟨rfl, rfl⟩
set_option maxHeartbeats 400000 in
theorem left_any (rb : Nat) (s : ByteArray) (a : Nat) (f : Int) (w : World) (h : RdB w rb s a f) :
    Calls Tryz.prog 184 #[.pointer (some ⟨rb, 0, none⟩)] w fun e w' => e = .returned (.int .i64 ((s.size : Int) - a)) ∧ ∃ n, w' = w.drewN n := by
  have c := h.c0
  have c1 := h.c1
  have h1 := h.2.1
  have h2 := h.2.2
  have hw : IntKind.i64.wrap ((s.size : Int) - a) = (s.size : Int) - a := IntWalk.i64_in _ (by omega)
  clear h
  go_enter Tryz.func184, Tryz.ntmps184
  go_wp2
  go_quiet (fail)
  go_wp2
  go_ret
  exact ⟨rfl, _, rfl⟩
set_option maxHeartbeats 400000 in
theorem spoilt_any (rb : Nat) (s : ByteArray) (a : Nat) (f f' : Int) (w : World) (h : RdB w rb s a f) :
    Calls Tryz.prog 182 #[.pointer (some ⟨rb, 0, none⟩), .int .i64 f'] w fun e w' => e = .returned (.int .i64 f') ∧ w' = w.setCell ⟨rb, 2, none⟩ (.int .i64 f') := by
  have c := h.c2
  have cf := h.fz 2
  clear h
  go_enter Tryz.func182, Tryz.ntmps182
  go_wp2
  go_ret
  exact ⟨rfl, rfl⟩
set_option maxHeartbeats 400000 in
theorem new_any (s : ByteArray) (w : World) (hs : s.size ≤ 140737488355328) :
    Calls Tryz.prog 91 #[.string s] w fun e w' => e = .returned (.pointer (some ⟨w.heap.size, 0, none⟩)) ∧ RdB w' w.heap.size s 0 0 ∧ Below w.heap.size w w' := by
  go_enter Tryz.func91, Tryz.ntmps91
  go_wp2
  go_ret
  exact ⟨rfl, ⟨heap_alloc_new w _, Nat.zero_le _, hs⟩, alloc_old w _⟩
set_option maxHeartbeats 1000000 in
theorem take_no (rb : Nat) (s : ByteArray) (a n : Nat) (f : Int) (w : World) (h : RdB w rb s a f) (hn : s.size - a < n) :
    Calls Tryz.prog 183 #[.pointer (some ⟨rb, 0, none⟩), .int .i64 n] w fun e w' => e = .returned (.tuple #[.string ⟨#[]⟩, .int .i64 6]) ∧ RdB w' rb s a 6 ∧ KR rb w w' := by
  have H := Lib.hid h
  have HC := Lib.hid (left_any rb s a f w h)
  have h1 := h.2.1
  have h2 := h.2.2
  have d : decide ((s.size : Int) - a < (n : Int)) = true := by simp; omega
  clear h
  go_enter Tryz.func183, Tryz.ntmps183
  go_wp2_with fail
  refine HC.out.mono ?_
  rintro e w1 ⟨rfl, q, rfl⟩
  have HD : Hid (RdB (w.drewN q) rb s a f) := H.out.congr rfl
  have HS := Lib.hid (spoilt_any rb s a f 6 (w.drewN q) HD.out)
  go_wp2_with fail
  refine HS.out.mono ?_
  rintro e w2 ⟨rfl, rfl⟩
  have HE := Lib.hid (HD.out.set2 6)
  have HK : Hid (KR rb w ((w.drewN q).setCell ⟨rb, 2, none⟩ (.int .i64 6))) := (KR.draw q).set 2 _
  clear HS HC
  go_wp2
  go_ret2
  exact ⟨rfl, HE.out, HK.out⟩
set_option maxHeartbeats 1000000 in
theorem take_yes (rb : Nat) (s : ByteArray) (a n : Nat) (f : Int) (w : World) (h : RdB w rb s a f) (hn : a + n ≤ s.size) :
    Calls Tryz.prog 183 #[.pointer (some ⟨rb, 0, none⟩), .int .i64 n] w fun e w' => e = .returned (.tuple #[.string (s.extract a (a + n)), .int .i64 0]) ∧ RdB w' rb s (a + n) f ∧ KR rb w w' := by
  have H := Lib.hid h
  have HC := Lib.hid (left_any rb s a f w h)
  have h1 := h.2.1
  have h2 := h.2.2
  have d : decide ((s.size : Int) - a < (n : Int)) = false := by simp; omega
  clear h
  go_enter Tryz.func183, Tryz.ntmps183
  go_wp2_with fail
  refine HC.out.mono ?_
  rintro e w1 ⟨rfl, q, rfl⟩
  have HD : Hid (RdB (w.drewN q) rb s a f) := H.out.congr rfl
  generalize hwd : w.drewN q = wd at HD ⊢
  have HKD : Hid (KR rb w wd) := by subst hwd; exact KR.draw q
  clear hwd HC H
  have c1 := HD.out.c1
  have f1 := HD.out.fz 1
  go_wp2
  have HE := Lib.hid (HD.out.set1 (a + n) hn)
  have HK : Hid (KR rb w (wd.setCell ⟨rb, 1, none⟩ (.int .i64 ((a + n : Nat) : Int)))) := HKD.out.set 1 _
  clear c1 f1
  rw [show (a : Int) + (n : Int) = ((a + n : Nat) : Int) by omega]
  generalize wd.setCell ⟨rb, 1, none⟩ (.int .i64 ((a + n : Nat) : Int)) = w2 at HE HK ⊢
  have c0 := HE.out.c0
  have c1 := HE.out.c1
  have ha : a ≤ a + n := by omega
  have ha' : (a : Int) ≤ ((a + n : Nat) : Int) := by omega
  have hm' : ((a + n : Nat) : Int) ≤ (s.size : Int) := by omega
  have hw : IntKind.i64.wrap (((a + n : Nat) : Int) - (n : Int)) = (a : Int) := by rw [show ((a + n : Nat) : Int) - (n : Int) = (a : Int) by omega]; exact IntWalk.i64_in _ (by omega)
  generalize hm : a + n = m at *
  have HM := Lib.hid hm; clear hm
  go_quiet (fail)
  rename_i nq
  have HE2 : Hid (RdB (w2.drewN nq) rb s m f) := HE.out.congr rfl
  have HK2 : Hid (KR rb w (w2.drewN nq)) := KB.drewN HK.out nq
  clear hw
  go_wp2
  go_ret2
  obtain rfl := HM.out
  exact ⟨rfl, HE2.out, HK2.out⟩
/-- what is left, as the reader has it -/
def stOf (s : ByteArray) (a : Nat) (f : Int) : RS := if f = 0 then some (s.data.toList.drop a) else none
def RdS (w : World) (rb : Nat) (s : ByteArray) (st : RS) : Prop := ∃ a f, RdB w rb s a f ∧ st = stOf s a f
theorem RdS.congr {w w' : World} {rb : Nat} {s : ByteArray} {st : RS} (h : RdS w rb s st) (k : w'.heap[rb]? = w.heap[rb]?) : RdS w' rb s st := by
  obtain ⟨a, f, h1, h2⟩ := h; exact ⟨a, f, h1.congr k, h2⟩
theorem RdS.lt {w : World} {rb : Nat} {s : ByteArray} {st : RS} (h : RdS w rb s st) : rb < w.heap.size := by obtain ⟨a, f, h1, -⟩ := h; exact h1.lt
theorem stOf_spoilt {s : ByteArray} {a : Nat} {f : Int} (h : f ≠ 0) : stOf s a f = none := by simp [stOf, h]
theorem stOf_ok {s : ByteArray} {a : Nat} : stOf s a 0 = some (s.data.toList.drop a) := by simp [stOf]
theorem extract_bs (s : ByteArray) (a n : Nat) : s.extract a (a + n) = bsOf ((s.data.toList.drop a).take n) := by
  apply ByteArray.ext
  apply Array.toList_inj.1
  rw [Lib.extract_data, bsOf_list, show a + n - a = n by omega]
/-- a take that goes well, or not -/
theorem rTake_stOf {s : ByteArray} {a n : Nat} (ha : a ≤ s.size) : rTake n (stOf s a 0) = if a + n ≤ s.size then ((s.data.toList.drop a).take n, stOf s (a + n) 0) else ([], none) := by
  rw [stOf_ok, rTake]
  have hl : (s.data.toList.drop a).length = s.size - a := by rw [List.length_drop, len_list]
  by_cases h : a + n ≤ s.size
  · rw [if_pos (by omega), if_pos h, stOf_ok, List.drop_drop]
  · rw [if_neg (by omega), if_neg h]
/-- a fault, and whether something is left -/
def ErrSt (c : Int) (st : RS) : Prop := (c = 0 ∧ st.isSome = true) ∨ (c ≠ 0 ∧ st = none)
def TkPost (rb n : Nat) (s : ByteArray) (st : RS) (w : World) (e : Ending) (w' : World) : Prop := ∃ c, e = .returned (.tuple #[.string (bsOf (rTake n st).1), .int .i64 c]) ∧ ErrSt c (rTake n st).2 ∧ RdS w' rb s (rTake n st).2 ∧ KR rb w w'
def NmPost (rb n : Nat) (s : ByteArray) (st : RS) (w : World) (e : Ending) (w' : World) : Prop := ∃ c, e = .returned (.tuple #[.int .u32 (rNum n st).1, .int .i64 c]) ∧ ErrSt c (rNum n st).2 ∧ RdS w' rb s (rNum n st).2 ∧ KR rb w w'
def TxPost (rb : Nat) (s : ByteArray) (st : RS) (w : World) (e : Ending) (w' : World) : Prop := ∃ c, e = .returned (.tuple #[.string (rText st).1, .int .i64 c]) ∧ ErrSt c (rText st).2 ∧ RdS w' rb s (rText st).2 ∧ KR rb w w'
set_option maxHeartbeats 1000000 in
theorem rdTake_any (rb n : Nat) (s : ByteArray) (st : RS) (w : World) (h : RdS w rb s st) :
    Calls Tryz.prog 92 #[.pointer (some ⟨rb, 0, none⟩), .int .i64 n] w (TkPost rb n s st w) := by
  obtain ⟨a, f, hb, rfl⟩ := h
  have HB := Lib.hid hb
  have HF := Lib.hid (fault_any rb s a f w hb)
  have d0 : decide ((n : Int) < 0) = false := by simp
  by_cases hf : f = 0
  · subst hf
    have HT := Lib.hid (rTake_stOf (n := n) hb.2.1)
    by_cases hn2 : a + n ≤ s.size
    · have HC := Lib.hid (take_yes rb s a n 0 w hb hn2)
      rw [if_pos hn2] at HT
      clear hb
      go_enter Tryz.func92, Tryz.ntmps92
      go_wp2_with fail
      refine HF.out.mono ?_
      rintro e w1 ⟨rfl, rfl⟩
      go_wp2_with fail
      refine HC.out.mono ?_
      rintro e w2 ⟨rfl, h1, h2⟩
      have H1 := Lib.hid h1; have H2 := Lib.hid h2
      clear h1 h2 HC HF
      go_wp2
      go_ret2
      unfold TkPost
      rw [HT.out]
      exact ⟨0, by rw [extract_bs s a n]; rfl, .inl ⟨rfl, by rw [stOf_ok]; rfl⟩, ⟨_, _, H1.out, rfl⟩, H2.out⟩
    · have HC := Lib.hid (take_no rb s a n 0 w hb (by have := hb.2.1; omega))
      rw [if_neg hn2] at HT
      clear hb
      go_enter Tryz.func92, Tryz.ntmps92
      go_wp2_with fail
      refine HF.out.mono ?_
      rintro e w1 ⟨rfl, rfl⟩
      go_wp2_with fail
      refine HC.out.mono ?_
      rintro e w2 ⟨rfl, h1, h2⟩
      have H1 := Lib.hid h1; have H2 := Lib.hid h2
      clear h1 h2 HC HF
      go_wp2
      go_ret2
      unfold TkPost
      rw [HT.out]
      exact ⟨6, rfl, .inr ⟨by omega, rfl⟩, ⟨_, _, H1.out, (stOf_spoilt (by omega)).symm⟩, H2.out⟩
  · have HT : Hid (rTake n (stOf s a f) = ([], none)) := by rw [Hid, stOf_spoilt hf]; rfl
    have bf : (f != 0) = true := by simpa using hf
    have HFN := Lib.hid hf
    clear hb hf
    go_enter Tryz.func92, Tryz.ntmps92
    go_wp2_with fail
    refine HF.out.mono ?_
    rintro e w1 ⟨rfl, rfl⟩
    clear HF
    go_wp2
    go_ret2
    unfold TkPost
    rw [HT.out]
    exact ⟨f, rfl, .inr ⟨HFN.out, rfl⟩, ⟨_, _, HB.out, (stOf_spoilt HFN.out).symm⟩, KB.refl _ _⟩
theorem leV_nil : leV [] = 0 := rfl
set_option maxHeartbeats 1000000 in
theorem num_yes (rb n : Nat) (s : ByteArray) (a : Nat) (w : World) (hb : RdB w rb s a 0) (h1 : 1 ≤ n) (h4 : n ≤ 4) (hn : a + n ≤ s.size) :
    Calls Tryz.prog 108 #[.pointer (some ⟨rb, 0, none⟩), .int .i64 n] w fun e w' => e = .returned (.tuple #[.int .u32 (leV ((s.data.toList.drop a).take n)), .int .i64 0]) ∧ RdB w' rb s (a + n) 0 ∧ KR rb w w' := by
  have HF := Lib.hid (fault_any rb s a 0 w hb)
  have HC := Lib.hid (take_yes rb s a n 0 w hb hn)
  have d1 : decide ((n : Int) < 1) = false := by simp; omega
  have d4 : decide ((4 : Int) < (n : Int)) = false := by simp; omega
  have d4' : decide (4 < n) = false := by simp; omega
  have HZ : Hid ((s.extract a (a + n)).size = n) := by rw [Hid, extract_bs, bsOf_size, List.length_take, List.length_drop, len_list]; omega
  have HD : Hid ((s.extract a (a + n)).data.toList = (s.data.toList.drop a).take n) := by rw [Hid, extract_bs, bsOf_list]
  clear hb
  go_enter Tryz.func108, Tryz.ntmps108
  go_wp2_with fail
  refine HF.out.mono ?_
  rintro e w1 ⟨rfl, rfl⟩
  go_wp2_with fail
  refine HC.out.mono ?_
  rintro e w2 ⟨rfl, h1, h2⟩
  have H1 := Lib.hid h1; have H2 := Lib.hid h2
  clear h1 h2 HC HF
  have HG := Lib.hid (wordGet_any (s.extract a (a + n)) w2 (by rw [HZ.out]; omega) (by rw [HZ.out]; omega))
  rw [HD.out] at HG
  go_wp2_with fail
  refine HG.out.mono ?_
  rintro e w3 ⟨rfl, rfl⟩
  clear HG
  go_wp2
  go_ret2
  exact ⟨rfl, H1.out, H2.out⟩
set_option maxHeartbeats 1000000 in
theorem num_no (rb n : Nat) (s : ByteArray) (a : Nat) (w : World) (hb : RdB w rb s a 0) (h1 : 1 ≤ n) (h4 : n ≤ 4) (hn : ¬ a + n ≤ s.size) :
    Calls Tryz.prog 108 #[.pointer (some ⟨rb, 0, none⟩), .int .i64 n] w fun e w' => e = .returned (.tuple #[.int .u32 0, .int .i64 6]) ∧ RdB w' rb s a 6 ∧ KR rb w w' := by
  have HF := Lib.hid (fault_any rb s a 0 w hb)
  have HC := Lib.hid (take_no rb s a n 0 w hb (by have := hb.2.1; omega))
  have d1 : decide ((n : Int) < 1) = false := by simp; omega
  have d4 : decide ((4 : Int) < (n : Int)) = false := by simp; omega
  have d4' : decide (4 < n) = false := by simp; omega
  clear hb
  go_enter Tryz.func108, Tryz.ntmps108
  go_wp2_with fail
  refine HF.out.mono ?_
  rintro e w1 ⟨rfl, rfl⟩
  go_wp2_with fail
  refine HC.out.mono ?_
  rintro e w2 ⟨rfl, h1, h2⟩
  have H1 := Lib.hid h1; have H2 := Lib.hid h2
  clear h1 h2 HC HF
  go_wp2
  go_ret2
  exact ⟨rfl, H1.out, H2.out⟩
set_option maxHeartbeats 1000000 in
theorem num_bad (rb n : Nat) (s : ByteArray) (a : Nat) (f : Int) (w : World) (hb : RdB w rb s a f) (hf : f ≠ 0) :
    Calls Tryz.prog 108 #[.pointer (some ⟨rb, 0, none⟩), .int .i64 n] w fun e w' => e = .returned (.tuple #[.int .u32 0, .int .i64 f]) ∧ w = w' := by
  have HF := Lib.hid (fault_any rb s a f w hb)
  have bf : (f != 0) = true := by simpa using hf
  clear hb hf
  go_enter Tryz.func108, Tryz.ntmps108
  go_wp2_with fail
  refine HF.out.mono ?_
  rintro e w1 ⟨rfl, rfl⟩
  clear HF
  go_wp2
  go_ret2
  exact ⟨rfl, rfl⟩
theorem rdNum_any (rb n : Nat) (s : ByteArray) (st : RS) (w : World) (h : RdS w rb s st) (h1 : 1 ≤ n) (h4 : n ≤ 4) :
    Calls Tryz.prog 108 #[.pointer (some ⟨rb, 0, none⟩), .int .i64 n] w (NmPost rb n s st w) := by
  obtain ⟨a, f, hb, rfl⟩ := h
  by_cases hf : f = 0
  · subst hf
    have HT := rTake_stOf (n := n) hb.2.1
    by_cases hn : a + n ≤ s.size
    · rw [if_pos hn] at HT
      refine (num_yes rb n s a w hb h1 h4 hn).mono ?_
      rintro e w' ⟨rfl, k1, k2⟩
      exact ⟨0, by rw [rNum, HT], by rw [rNum, HT]; exact .inl ⟨rfl, by rw [stOf_ok]; rfl⟩, ⟨_, _, k1, by rw [rNum, HT]⟩, k2⟩
    · rw [if_neg hn] at HT
      refine (num_no rb n s a w hb h1 h4 hn).mono ?_
      rintro e w' ⟨rfl, k1, k2⟩
      exact ⟨6, by rw [rNum, HT]; rfl, by rw [rNum, HT]; exact .inr ⟨by omega, rfl⟩, ⟨_, _, k1, by rw [rNum, HT, stOf_spoilt (by omega)]⟩, k2⟩
  · have HT : rTake n (stOf s a f) = ([], none) := by rw [stOf_spoilt hf]; rfl
    refine (num_bad rb n s a f w hb hf).mono ?_
    rintro e w' ⟨rfl, rfl⟩
    exact ⟨f, by rw [rNum, HT]; rfl, by rw [rNum, HT]; exact .inr ⟨hf, rfl⟩, ⟨_, _, hb, by rw [rNum, HT, stOf_spoilt hf]⟩, KB.refl _ _⟩
theorem bsOf_nil : bsOf [] = ⟨#[]⟩ := rfl
set_option maxHeartbeats 2000000 in
theorem rdText_any (rb : Nat) (s : ByteArray) (st : RS) (w : World) (h : RdS w rb s st) :
    Calls Tryz.prog 107 #[.pointer (some ⟨rb, 0, none⟩)] w (TxPost rb s st w) := by
  obtain ⟨a, f, hb, rfl⟩ := h
  have HB := Lib.hid hb
  by_cases hf : f = 0
  · subst hf
    have ha := hb.2.1
    have hz := hb.2.2
    have HT := Lib.hid (rTake_stOf (n := 2) ha)
    by_cases hn : a + 2 ≤ s.size
    · have HN := Lib.hid (num_yes rb 2 s a w hb (by omega) (by omega) hn)
      rw [if_pos hn] at HT
      have HV := Lib.hid (leV_bd ((s.data.toList.drop a).take 2))
      have HL : Hid (((s.data.toList.drop a).take 2).length = 2) := by rw [Hid, List.length_take, List.length_drop, len_list]; omega
      have HX : Hid (rText (stOf s a 0) = (bsOf (rTake (leV ((s.data.toList.drop a).take 2)).toNat (stOf s (a + 2) 0)).1, (rTake (leV ((s.data.toList.drop a).take 2)).toNat (stOf s (a + 2) 0)).2)) := by
        unfold rText rNum; rw [Hid, HT.out]
      rw [HL.out, p2] at HV
      generalize leV ((s.data.toList.drop a).take 2) = lv at HN HV HX
      obtain ⟨hv0, hv1⟩ := HV.out
      obtain ⟨m, rfl⟩ := Int.eq_ofNat_of_zero_le hv0
      rw [Int.toNat_natCast] at HX
      have HT2 := Lib.hid (rTake_stOf (s := s) (a := a + 2) (n := m) hn)
      clear hb HT
      by_cases hm : a + 2 + m ≤ s.size
      · rw [if_pos hm] at HT2
        go_enter Tryz.func107, Tryz.ntmps107
        go_wp2_with fail
        refine HN.out.mono ?_
        rintro e w1 ⟨rfl, k1, k2⟩
        have HC := Lib.hid (take_yes rb s (a + 2) m 0 w1 k1 hm)
        have K2 := Lib.hid k2
        clear k1 k2 HN
        go_wp2_with fail
        refine HC.out.mono ?_
        rintro e w2 ⟨rfl, k3, k4⟩
        have K3 := Lib.hid k3; have K4 := Lib.hid k4
        clear k3 k4 HC
        go_wp2
        go_ret2
        unfold TxPost
        rw [HX.out, HT2.out]
        exact ⟨0, by rw [extract_bs]; rfl, .inl ⟨rfl, by simp only [stOf_ok]; rfl⟩, ⟨_, _, K3.out, rfl⟩, K2.out.trans K4.out⟩
      · rw [if_neg hm] at HT2
        go_enter Tryz.func107, Tryz.ntmps107
        go_wp2_with fail
        refine HN.out.mono ?_
        rintro e w1 ⟨rfl, k1, k2⟩
        have HC := Lib.hid (take_no rb s (a + 2) m 0 w1 k1 (by omega))
        have K2 := Lib.hid k2
        clear k1 k2 HN
        go_wp2_with fail
        refine HC.out.mono ?_
        rintro e w2 ⟨rfl, k3, k4⟩
        have K3 := Lib.hid k3; have K4 := Lib.hid k4
        have c1 := k3.c1
        have cf := k3.fz 1
        clear k3 k4 HC
        have hs1 : (a : Int) + 2 - 2 = (a : Int) := by omega
        go_wp2
        have HE := Lib.hid (K3.out.set1 a ha)
        clear c1 cf hs1
        go_ret2
        unfold TxPost
        rw [HX.out, HT2.out]
        exact ⟨6, rfl, .inr ⟨by omega, rfl⟩, ⟨_, _, HE.out, (stOf_spoilt (by omega)).symm⟩, KR.set (K2.out.trans K4.out) 1 _⟩
    · have HN := Lib.hid (num_no rb 2 s a w hb (by omega) (by omega) hn)
      rw [if_neg hn] at HT
      have HX : Hid (rText (stOf s a 0) = (bsOf [], none)) := by unfold rText rNum; rw [Hid, HT.out]; rfl
      clear hb HT
      go_enter Tryz.func107, Tryz.ntmps107
      go_wp2_with fail
      refine HN.out.mono ?_
      rintro e w1 ⟨rfl, k1, k2⟩
      have K1 := Lib.hid k1; have K2 := Lib.hid k2
      clear k1 k2 HN
      go_wp2
      go_ret2
      unfold TxPost
      rw [HX.out]
      exact ⟨6, rfl, .inr ⟨by omega, rfl⟩, ⟨_, _, K1.out, (stOf_spoilt (by omega)).symm⟩, K2.out⟩
  · have HN := Lib.hid (num_bad rb 2 s a f w hb hf)
    have HX : Hid (rText (stOf s a f) = (bsOf [], none)) := by rw [Hid, stOf_spoilt hf]; rfl
    have bf : (f != 0) = true := by simpa using hf
    have HFN := Lib.hid hf
    clear hb hf
    go_enter Tryz.func107, Tryz.ntmps107
    go_wp2_with fail
    refine HN.out.mono ?_
    rintro e w1 ⟨rfl, rfl⟩
    clear HN
    go_wp2
    go_ret2
    unfold TxPost
    rw [HX.out]
    exact ⟨f, rfl, .inr ⟨HFN.out, rfl⟩, ⟨_, _, HB.out, (stOf_spoilt HFN.out).symm⟩, KB.refl _ _⟩
def EdPost (rb : Nat) (st : RS) (w : World) (e : Ending) (w' : World) : Prop := ∃ c : Int, e = .returned (.int .i64 c) ∧ (c = 0 ↔ st = some []) ∧ KR rb w w'
set_option maxHeartbeats 1000000 in
theorem rdEnd_any (rb : Nat) (s : ByteArray) (st : RS) (w : World) (h : RdS w rb s st) :
    Calls Tryz.prog 96 #[.pointer (some ⟨rb, 0, none⟩)] w (EdPost rb st w) := by
  obtain ⟨a, f, hb, rfl⟩ := h
  have HB := Lib.hid hb
  have HF := Lib.hid (fault_any rb s a f w hb)
  by_cases hf : f = 0
  · subst hf
    have HL := Lib.hid (left_any rb s a 0 w hb)
    have ha := hb.2.1
    have hz := hb.2.2
    by_cases hl : a = s.size
    · have HE : Hid (stOf s a 0 = some []) := by rw [Hid, stOf_ok, List.drop_of_length_le (by rw [len_list]; omega)]
      have d : decide ((0 : Int) < (s.size : Int) - a) = false := by simp; omega
      have d' : decide (a < s.size) = false := by simp; omega
      clear hb hl
      go_enter Tryz.func96, Tryz.ntmps96
      go_wp2_with fail
      refine HF.out.mono ?_
      rintro e w1 ⟨rfl, rfl⟩
      go_wp2_with fail
      refine HL.out.mono ?_
      rintro e w2 ⟨rfl, q, rfl⟩
      clear HF HL
      go_wp2
      go_ret
      exact ⟨0, rfl, ⟨fun _ => HE.out, fun _ => rfl⟩, KR.draw q⟩
    · have HE : Hid (stOf s a 0 ≠ some []) := by
        rw [Hid, stOf_ok]; intro he
        have := congrArg List.length (Option.some.inj he)
        rw [List.length_drop, len_list] at this
        simp at this; omega
      have d : decide ((0 : Int) < (s.size : Int) - a) = true := by simp; omega
      have d' : decide (a < s.size) = true := by simp; omega
      clear hb hl
      go_enter Tryz.func96, Tryz.ntmps96
      go_wp2_with fail
      refine HF.out.mono ?_
      rintro e w1 ⟨rfl, rfl⟩
      go_wp2_with fail
      refine HL.out.mono ?_
      rintro e w2 ⟨rfl, q, rfl⟩
      have HD : Hid (RdB (w.drewN q) rb s a 0) := HB.out.congr rfl
      have HS := Lib.hid (spoilt_any rb s a 0 7 (w.drewN q) HD.out)
      clear HF HL
      go_wp2_with fail
      refine HS.out.mono ?_
      rintro e w3 ⟨rfl, rfl⟩
      clear HS
      go_wp2
      go_ret
      exact ⟨7, rfl, ⟨fun h => (by omega), fun h => absurd h HE.out⟩, (KR.draw q).set 2 _⟩
  · have HE : Hid (stOf s a f ≠ some []) := by rw [Hid, stOf_spoilt hf]; simp
    have bf : (f != 0) = true := by simpa using hf
    have HFN := Lib.hid hf
    clear hb hf
    go_enter Tryz.func96, Tryz.ntmps96
    go_wp2_with fail
    refine HF.out.mono ?_
    rintro e w1 ⟨rfl, rfl⟩
    clear HF
    go_wp2
    go_ret
    exact ⟨f, rfl, ⟨fun h => absurd h HFN.out, fun h => absurd h HE.out⟩, KB.refl _ _⟩
end Go.Proofs.YtdjgkmpjhpnkeaaGreatDoor
