/- The walk of demand.Check, at a manifest that may be. The walk of demand.Check, at a manifest that may be: the function itself. The walk of image.Check, at an image that may. -/
import Derived.Test.YtboegjdkedjhcaaGreatDoorBs31
import Derived.Test.YtboegjdkedjhcaaGreatDoorEqLay
import Derived.Test.YtboegjdkedjhcaaGreatDoorBs04
import Derived.Test.YtboegjdkedjhcaaGreatDoorBs26
import Derived.Test.YtboegjdkedjhcaaGreatDoorRows
import Derived.Test.YtboegjdkedjhcaaGreatDoorBs28
import Derived.Test.YtboegjdkedjhcaaGreatDoorBs30
namespace Go.Proofs.YtboegjdkedjhcaaGreatDoor
set_option maxRecDepth 100000
section
open Go.RowKit Go.Maps Go.Shelf
def extV (x : Int × Int) : List Value := [.int .u32 x.1, .int .u32 x.2]
def extBad (x : Int × Int) : Bool := decide (16 ≤ x.1) || decide (x.2 < 1) || decide (1024 < x.2)
set_option maxHeartbeats 400000 in
theorem chk1_any (x : Int × Int) (w : World) : Calls Tryz.prog 165 #[.agg #[.int .u32 x.1, .int .u32 x.2]] w fun e w' => e = .returned (.bool (extBad x)) ∧ Below w.heap.size w w' := by
 obtain ⟨a, b⟩ := x; simp only []
 by_cases h1 : 16 ≤ a
 ·go_enter Tryz.func165, Tryz.ntmps165; go_wp2; go_ret; exact ⟨ret_bool (by simp [extBad, h1]), alloc_old w _⟩
 ·by_cases h2 : b < 1
  ·go_enter Tryz.func165, Tryz.ntmps165; go_wp2; go_ret; exact ⟨ret_bool (by simp [extBad, h2]), alloc_old w _⟩
  ·by_cases h3 : 1024 < b
   ·go_enter Tryz.func165, Tryz.ntmps165; go_wp2; go_ret; exact ⟨ret_bool (by simp [extBad, h3]), alloc_old w _⟩
   ·go_enter Tryz.func165, Tryz.ntmps165; go_wp2; go_ret; exact ⟨ret_bool (by simp [extBad, h1, h2, h3]), alloc_old w _⟩
set_option maxHeartbeats 400000 in
theorem chk2_any (x y : Int × Int) (w : World) : Calls Tryz.prog 167 #[.agg #[.int .u32 x.1, .int .u32 x.2], .agg #[.int .u32 y.1, .int .u32 y.2]] w fun e w' => e = .returned (.bool (decide (x.1 < y.1))) ∧ Below w.heap.size w w' := by
 obtain ⟨a, b⟩ := x; obtain ⟨c, d⟩ := y; simp only []; go_enter Tryz.func167, Tryz.ntmps167; go_wp2; go_ret; exact ⟨rfl, (alloc_old w _).alloc (by simp) _⟩
set_option maxHeartbeats 400000 in
theorem chk3_any (x y : Int) (w : World) : Calls Tryz.prog 169 #[.int .u16 x, .int .u16 y] w fun e w' => e = .returned (.bool (decide (x < y))) ∧ Below w.heap.size w w' := by
 go_enter Tryz.func169, Tryz.ntmps169; go_wp2; go_ret; exact ⟨rfl, Below.refl _ _⟩
set_option maxHeartbeats 1000000 in
theorem risesE_any (v : Value) (l : List (Int × Int)) (w : World) (h : RowAt 2 ExtR w v l) (hu : ∀ k (h : k + 1 < l.length), l[k].1 < l[k + 1].1) :
 Calls Tryz.prog 166 #[v, .func (.func 167) #[] #[]] w fun e w' => e = .returned (.bool true) ∧ Below w.heap.size w w' := by
 obtain ⟨p, cap, b, o, rfl, hcap, hmax, hp, hc⟩ := h; have HC := Lib.hid hc; clear hc; have HP := Lib.hid hp; clear hp; have HUP := Lib.hid hu; clear hu; go_enter Tryz.func166, Tryz.ntmps166; go_wp2
 go_loopw [9] (fun v0 wr => ∃ k : Nat, v0 = .int .i64 k ∧ k ≤ l.length ∧ Below w.heap.size w wr) (fun v0 _ => l.length - (intOf v0).toNat)
 case atStart => exact ⟨0, by go_num, Nat.zero_le _, Below.refl _ _⟩
 case round =>
  obtain ⟨k, rfl, hk, hB⟩ := hrel; have HB := Lib.hid hB; clear hB
  by_cases hlt0 : k + 1 < l.length
  ·obtain rfl := HP.out (by omega)
   obtain ⟨k1, hke⟩ : ∃ k1, k1 = k + 1 := ⟨_, rfl⟩; have hlt : k1 < l.length := by omega
   have hkl : k < l.length := by omega
   obtain ⟨g0, g1, g2, -⟩ := extR_keeps _ _ _ _ _ HB.out (HC.out k hkl); obtain ⟨f0, f1, f2, -⟩ := extR_keeps _ _ _ _ _ HB.out (HC.out k1 hlt)
   have HCL : Hid (∀ x : BW wr, Calls Tryz.prog 167 #[.agg #[.int .u32 l[k].1, .int .u32 l[k].2], .agg #[.int .u32 l[k1].1, .int .u32 l[k1].2]] x.u fun e w' => e = .returned (.bool true) ∧ ∃ y : BW wr, w' = y.u) := fun x => calls_below (by
    have := chk2_any l[k] l[k1] x.u; have h2 : l[k].1 < l[k1].1 := by subst hke; exact HUP.out k hlt
    rw [decide_eq_true h2] at this; exact this)
   have hk1 : (k : Int) < (l.length : Int) - 1 := by omega
   have hwr : IntKind.i64.wrap ((k : Int) + 1) = (k1 : Int) := by rw [IntWalk.i64_in _ (by omega)]; omega
   have HKE := Lib.hid hke; clear hke hlt0; generalize l[k] = x at g1 g2 HCL; generalize l[k1] = y at f1 f2 HCL; obtain ⟨x1, x2⟩ := x; obtain ⟨y1, y2⟩ := y; simp only [] at g1 g2 f1 f2 HCL; have c0 := bw_cell g0 g1; have c1 := bw_cell g0 g2; have c2 := bw_cell f0 f1; have c3 := bw_cell f0 f2; go_wp2; refine wp_region_below rfl (by kernel_rfl) ?_
   repeat (first | go_big_quiet_skip | quiet_step ((go_at_call 167; exact HCL.out _)))
   refine wpQuiet_nil ?_; rintro w4 hx4; have hB4 : Below wr.heap.size wr w4 := bw_of hx4; clear hx4; clear c0 c1 c2 c3 hwr; go_wp2; go_roundw
   case rel => exact ⟨k + 1, by go_num, by omega, HB.out.trans (hB4.mono HB.out.size)⟩
   case measure => simp [intOf]; omega
  ·have hk1 : ¬ (k : Int) < (l.length : Int) - 1 := by omega
   go_wp2; go_ret; exact ⟨rfl, HB.out⟩
set_option maxHeartbeats 1000000 in
theorem risesP_any (v : Value) (l : List Int) (w : World) (h : RowAt 1 PortR w v l) (hu : ∀ k (h : k + 1 < l.length), l[k] < l[k + 1]) :
 Calls Tryz.prog 168 #[v, .func (.func 169) #[] #[]] w fun e w' => e = .returned (.bool true) ∧ Below w.heap.size w w' := by
 obtain ⟨p, cap, b, o, rfl, hcap, hmax, hp, hc⟩ := h; have HC := Lib.hid hc; clear hc; have HP := Lib.hid hp; clear hp; have HUP := Lib.hid hu; clear hu; go_enter Tryz.func168, Tryz.ntmps168; go_wp2
 go_loopw [9] (fun v0 wr => ∃ k : Nat, v0 = .int .i64 k ∧ k ≤ l.length ∧ Below w.heap.size w wr) (fun v0 _ => l.length - (intOf v0).toNat)
 case atStart => exact ⟨0, by go_num, Nat.zero_le _, Below.refl _ _⟩
 case round =>
  obtain ⟨k, rfl, hk, hB⟩ := hrel; have HB := Lib.hid hB; clear hB
  by_cases hlt0 : k + 1 < l.length
  ·obtain rfl := HP.out (by omega)
   obtain ⟨k1, hke⟩ : ∃ k1, k1 = k + 1 := ⟨_, rfl⟩; have hlt : k1 < l.length := by omega
   have hkl : k < l.length := by omega
   obtain ⟨g0, g1, -⟩ := portR_keeps _ _ _ _ _ HB.out (HC.out k hkl); obtain ⟨f0, f1, -⟩ := portR_keeps _ _ _ _ _ HB.out (HC.out k1 hlt)
   have HCL : Hid (∀ x : BW wr, Calls Tryz.prog 169 #[.int .u16 l[k], .int .u16 l[k1]] x.u fun e w' => e = .returned (.bool true) ∧ ∃ y : BW wr, w' = y.u) := fun x => calls_below (by
    have := chk3_any l[k] l[k1] x.u; have h2 : l[k] < l[k1] := by subst hke; exact HUP.out k hlt
    rw [decide_eq_true h2] at this; exact this)
   have hk1 : (k : Int) < (l.length : Int) - 1 := by omega
   have hwr : IntKind.i64.wrap ((k : Int) + 1) = (k1 : Int) := by rw [IntWalk.i64_in _ (by omega)]; omega
   have HKE := Lib.hid hke; clear hke hlt0; generalize l[k] = x at g1 HCL; generalize l[k1] = y at f1 HCL; rw [Nat.mul_one] at g1 f1; have c0 := bw_cell g0 g1; have c2 := bw_cell f0 f1; go_wp2; refine wp_region_below rfl (by kernel_rfl) ?_
   repeat (first | go_big_quiet_skip | quiet_step ((go_at_call 169; exact HCL.out _)))
   refine wpQuiet_nil ?_; rintro w4 hx4; have hB4 : Below wr.heap.size wr w4 := bw_of hx4; clear hx4; clear c0 c2 hwr; go_wp2; go_roundw
   case rel => exact ⟨k + 1, by go_num, by omega, HB.out.trans (hB4.mono HB.out.size)⟩
   case measure => simp [intOf]; omega
  ·have hk1 : ¬ (k : Int) < (l.length : Int) - 1 := by omega
   go_wp2; go_ret; exact ⟨rfl, HB.out⟩
set_option maxHeartbeats 400000 in
theorem indexE_nil (a : Option Addr) (c : Nat) (fv : Value) (w : World) : Calls Tryz.prog 210 #[.slice a 0 c, fv] w fun e w' => e = .returned (.int .i64 (-1)) ∧ w' = w := by
 go_enter Tryz.func210, Tryz.ntmps210; go_wp2
 go_loopw [8] (fun i wr => i = .int .i64 0 ∧ wr = w) (fun _ _ => 0)
 case atStart => exact ⟨rfl, rfl⟩
 case round =>
  obtain ⟨rfl, rfl⟩ := hrel; go_wp2; go_ret; exact ⟨rfl, rfl⟩
set_option maxHeartbeats 400000 in
theorem containsE_nil (a : Option Addr) (c : Nat) (fv : Value) (w : World) : Calls Tryz.prog 164 #[.slice a 0 c, fv] w fun e w' => e = .returned (.bool false) ∧ w' = w := by
 have HI := Lib.hid (indexE_nil a c fv w); go_enter Tryz.func164, Tryz.ntmps164; go_wp2_with (go_at_call 210; refine HI.out.mono ?_; rintro e w1 ⟨rfl, rfl⟩); go_ret; exact ⟨rfl, rfl⟩
theorem containsE_any (v : Value) (l : List (Int × Int)) (w : World) (p : Int × Int → Bool) (g : FuncId) (lb : Array Value) (eg : ∀ args w, (callFunc g args).run Tryz.prog w = .ok (.enter g args) w) (h : RowAt 2 ExtR w v l)
 (hp : ∀ (W : World) (x : Int × Int), Below w.heap.size w W → Calls Tryz.prog g (#[.agg #[.int .u32 x.1, .int .u32 x.2]] ++ lb) W fun e w' => e = .returned (.bool (p x)) ∧ Below w.heap.size w w') :
 Calls Tryz.prog 164 #[v, .func (.func g) #[] lb] w fun e w' => e = .returned (.bool (l.any p)) ∧ Below w.heap.size w w' := by
 obtain ⟨pp, cap, b, o, rfl, hcap, hmax, hpp, hc⟩ := h
 by_cases h0 : l.length = 0
 ·obtain rfl : l = [] := List.eq_nil_of_length_eq_zero h0; refine (containsE_nil pp cap _ w).mono ?_; rintro e w' ⟨rfl, rfl⟩; exact ⟨rfl, Below.refl _ _⟩
 ·obtain rfl := hpp (by omega)
  have hb := (hc 0 (by omega)).1
  have := Go.Proofs.AnyQ.slices_ContainsFunc Tryz.containsFuncExtent 2 Tryz.isAgg143 Tryz.sizeOf143 extV (fun _ => rfl) p g lb eg b o l.length cap l w hp (Nat.le_refl _) (by omega) hb (fun j hj i v hv => by
   have e : l[j]! = l[j] := by simp [hj]
   rw [e] at hv; have hr := hc j hj
   match i, hv with
   | 0, hv => cases hv; exact hr.2.1
   | 1, hv => cases hv; exact hr.2.2.1)
  rw [List.take_length] at this; exact this
theorem contains16_any (v : Value) (l : List Int) (x : Int) (w : World) (h : RowAt 1 PortR w v l) :
 Calls Tryz.prog 170 #[v, .int .u16 x] w fun e w' => e = .returned (.bool (l.any fun y => decide (x = y))) ∧ w' = w := by
 obtain ⟨pp, cap, b, o, rfl, hcap, hmax, hpp, hc⟩ := h
 by_cases h0 : l.length = 0
 ·obtain rfl : l = [] := List.eq_nil_of_length_eq_zero h0; exact Go.Proofs.AnyE.slices_Contains_empty Tryz.contains16 pp cap _ w
 ·obtain rfl := hpp (by omega)
  have := Go.Proofs.AnyE.slices_Contains Tryz.contains16 (Value.int .u16) (fun x y => decide (x = y)) (EqlAt.intD _ _ .u16) b o l.length cap l x w (Nat.le_refl _) (by omega) (fun j hj => by
   have e : l[j]! = l[j] := by simp [hj]
   rw [e]; have hr := (hc j hj).2.1; simpa using hr)
  rw [List.take_length] at this; exact this
end
section
open Go.RowKit Go.Maps Go.Shelf
theorem eg1 : ∀ args w, (callFunc 165 args).run Tryz.prog w = .ok (.enter 165 args) w := enters_of Tryz.func165 (by kernel_rfl) rfl
set_option maxHeartbeats 1000000 in
theorem manCheck_any (m : GMan) (ve vp : Value) (w : World) (h : ManAt w m ve vp) (hf : ManFit m) :
 Calls Tryz.prog 121 #[.agg #[.int .u32 m.pages, ve, vp, .bool m.cons]] w fun e w' => e = .returned (.int .i64 0) ∧ Below w.heap.size w w' := by
 obtain ⟨mp, me, mq, mc⟩ := m; obtain ⟨⟨hpg, hex, hel, hpo, hpl⟩, heu, hpu⟩ := hf; simp only [] at *; obtain ⟨he, hq, hp0, hp1⟩ := h; simp only [] at he hq
 have hbad : me.any extBad = false := List.any_eq_false.2 fun x hx => by
  have := hex x hx; simp [extBad]; omega
 have hno0 : (mq.any fun y => decide ((0 : Int) = y)) = false := List.any_eq_false.2 fun x hx => by
  have := hpo x hx; simp; omega
 have H1 : Hid (∀ W, Below w.heap.size w W → Calls Tryz.prog 164 #[ve, .func (.func 165) #[] #[]] W fun e w' => e = .returned (.bool false) ∧ Below W.heap.size W w') := fun W hW => by
  have := containsE_any ve me W extBad 165 #[] eg1 (he.keep extR_keeps hW) (fun W' x hb => (chk1_any x W').mono fun _ _ ⟨e, hB⟩ => ⟨e, hb.trans (hB.mono hb.size)⟩)
  rw [hbad] at this; exact this
 have H2 : Hid (∀ W, Below w.heap.size w W → Calls Tryz.prog 166 #[ve, .func (.func 167) #[] #[]] W fun e w' => e = .returned (.bool true) ∧ Below W.heap.size W w') := fun W hW => risesE_any ve me W (he.keep extR_keeps hW) heu
 have H3 : Hid (∀ W, Below w.heap.size w W → Calls Tryz.prog 168 #[vp, .func (.func 169) #[] #[]] W fun e w' => e = .returned (.bool true) ∧ Below W.heap.size W w') := fun W hW => risesP_any vp mq W (hq.keep portR_keeps hW) hpu
 have H4 : Hid (∀ W, Below w.heap.size w W → Calls Tryz.prog 170 #[vp, .int .u16 0] W fun e w' => e = .returned (.bool false) ∧ w' = W) := fun W hW => by
  have := contains16_any vp mq 0 W (hq.keep portR_keeps hW); rw [hno0] at this; exact this
 obtain ⟨p1, c1, b1, o1, rfl, -⟩ := he; obtain ⟨p2, c2, b2, o2, rfl, -⟩ := hq; clear heu hpu hex hpo hbad hno0; generalize hW0 : (w.alloc (.cells #[.int .u32 mp, .slice p1 me.length c1, .slice p2 mq.length c2, .bool mc] 62)) = w1; have HB1 : Hid (Below w.heap.size w w1) := by subst hW0; exact alloc_old w _
 have hz : w.heap.size < w1.heap.size := by subst hW0; simp
 have HN : Hid (w1.heap[w.heap.size]? = some (.cells #[.int .u32 mp, .slice p1 me.length c1, .slice p2 mq.length c2, .bool mc] 62 (0, 0))) := by subst hW0; exact new_block w _
 have a0 := Lib.cell_of_heap HN.out 0; have a1 := Lib.cell_of_heap HN.out 1; have a2 := Lib.cell_of_heap HN.out 2; go_enter Tryz.func121, Tryz.ntmps121; go_wp2_with fail; try rw [hW0]
 clear hW0; go_wp2_with fail; refine (H1.out _ HB1.out).mono ?_; rintro e w2 ⟨rfl, hB2⟩; have HB2 : Hid (Below w1.heap.size w1 w2) := hB2; have b1 := cell_keep hB2 hz a1; have b2 := cell_keep hB2 hz a2; have b0 := cell_keep hB2 hz a0; clear a0 a1 a2 hB2; go_wp2_with fail; refine (H2.out _ (HB1.out.trans (HB2.out.mono (by omega)))).mono ?_
 rintro e w3 ⟨rfl, hB3⟩; have HB3 : Hid (Below w1.heap.size w1 w3) := HB2.out.trans (hB3.mono HB2.out.size); have d2 := cell_keep hB3 (by have := HB2.out.size; omega) b2
 have d0 := cell_keep hB3 (by have := HB2.out.size; omega) b0
 clear b0 b1 b2 hB3; go_wp2_with fail; refine (H3.out _ (HB1.out.trans (HB3.out.mono (by omega)))).mono ?_
 rintro e w4 ⟨rfl, hB4⟩; have HB4 : Hid (Below w1.heap.size w1 w4) := HB3.out.trans (hB4.mono HB3.out.size); have f2 := cell_keep hB4 (by have := HB3.out.size; omega) d2
 have f0 := cell_keep hB4 (by have := HB3.out.size; omega) d0
 clear d0 d2 hB4; go_wp2_with fail; refine (H4.out _ (HB1.out.trans (HB4.out.mono (by omega)))).mono ?_
 rintro e w5 ⟨rfl, rfl⟩; go_wp2; go_ret; exact ⟨rfl, HB1.out.trans (HB4.out.mono (by omega))⟩
end
section
open Go.RowKit Go.Maps Go.Shelf
def segEnd (s : GSeg) : Int := s.addr + s.bytes.size
def freeAt (l : List GSeg) : Nat → Int
 | 0 => 256
 | k + 1 => match l[k]? with | some s => (segEnd s + 255) / 256 * 256 | none => 256
def begB (e : Int) (s : GSeg) : Bool := decide (s.perm = 5) && decide (s.addr ≤ e) && decide (e + 8 ≤ segEnd s)
structure ImgFit (x : GLink) : Prop where
 man : ManFit x.man
 n1 : 1 ≤ x.segs.length
 n2 : x.segs.length ≤ 8
 e8 : x.entry % 8 = 0
 sg : ∀ k (h : k < x.segs.length), (x.segs[k].perm = 1 ∨ x.segs[k].perm = 3 ∨ x.segs[k].perm = 5) ∧ x.segs[k].addr % 256 = 0 ∧ freeAt x.segs k ≤ x.segs[k].addr ∧ 1 ≤ x.segs[k].bytes.size ∧ segEnd x.segs[k] ≤ 131072
 bg : x.segs.any (begB x.entry) = true
theorem contains8_any (b o n c : Nat) (l : List Int) (x : Int) (w : World) (h : ∀ j, j < l.length → w.cell? ⟨b, o + j, none⟩ = some (.int .u8 l[j]!)) (hn : n = l.length) (hl : l.length ≤ 100) :
 Calls Tryz.prog 171 #[.slice (some ⟨b, o, none⟩) n c, .int .u8 x] w fun e w' => e = .returned (.bool (l.any fun y => decide (x = y))) ∧ w' = w := by
 subst hn; have := Go.Proofs.AnyE.slices_Contains Tryz.contains8 (Value.int .u8) (fun x y => decide (x = y)) (EqlAt.intD _ _ .u8) b o l.length c l x w (Nat.le_refl _) (by omega) h
 rw [List.take_length] at this; exact this
set_option maxHeartbeats 400000 in
theorem perms_any (p : Int) (w : World) : Calls Tryz.prog 122 #[.int .u8 p] w fun e w' => e = .returned (.bool (decide (p = 1) || (decide (p = 3) || decide (p = 5)))) ∧ Below w.heap.size w w' := by
 have HC := Lib.hid (contains8_any w.heap.size 0 3 3 [1, 3, 5] p (w.alloc (.cells #[.int .u8 1, .int .u8 3, .int .u8 5] 5)) (fun j hj => by
  match j, hj with
  | 0, _ => simp [go_sem]
  | 1, _ => simp [go_sem]
  | 2, _ => simp [go_sem]) rfl (by simp))
 go_enter Tryz.func122, Tryz.ntmps122; go_wp2_with fail; refine HC.out.mono ?_; rintro e w2 ⟨rfl, rfl⟩; go_wp2; go_ret; exact ⟨ret_bool (by simp), alloc_old w _⟩
set_option maxHeartbeats 400000 in
theorem iend_any (a p : Int) (s : ByteArray) (w : World) (h0 : 0 ≤ a) (h1 : a ≤ 4294967295) (hs : s.size ≤ 140737488355328) : Calls Tryz.prog 123 #[.agg #[.int .u32 a, .int .u8 p, .string s]] w fun e w' => e = .returned (.int .u64 (a + s.size)) ∧ Below w.heap.size w w' := by
 have w1 : IntKind.u64.wrap a = a := IntWalk.u64_in _ (by omega)
 have w2 : IntKind.u64.wrap (s.size : Int) = (s.size : Int) := IntWalk.u64_in _ (by omega)
 have w3 : IntKind.u64.wrap (a + s.size) = a + s.size := IntWalk.u64_in _ (by omega)
 go_enter Tryz.func123, Tryz.ntmps123; go_wp2; go_ret; exact ⟨rfl, alloc_old w _⟩
end
section
open Go.RowKit Go.Maps Go.Shelf
theorem freeAt_succ {l : List GSeg} {k : Nat} (h : k < l.length) : freeAt l (k + 1) = (segEnd l[k] + 255) / 256 * 256 := by
 show (match l[k]? with | some s => (segEnd s + 255) / 256 * 256 | none => 256) = _
 rw [List.getElem?_eq_getElem h]
theorem any_take_snoc {α : Type} {l : List α} {p : α → Bool} {k : Nat} {x : α} (h : k < l.length) (hx : l[k] = x) : (l.take (k + 1)).any p = ((l.take k).any p || p x) := by
 rw [List.take_succ_eq_append_getElem h, hx]; simp
set_option maxHeartbeats 4000000 in
theorem imgCheck_any (x : GLink) (ve vp vs va : Value) (w : World) (h : LinkAt w x ve vp vs va) (hf : ImgFit x) :
 Calls Tryz.prog 71 #[.agg #[.int .u32 x.man.pages, ve, vp, .bool x.man.cons, .int .u32 x.entry, vs]] w fun e w' => e = .returned (.int .i64 0) ∧ Below w.heap.size w w' := by
 have H1 : Hid (∀ W, Below w.heap.size w W → Calls Tryz.prog 121 #[.agg #[.int .u32 x.man.pages, ve, vp, .bool x.man.cons]] W fun e w' => e = .returned (.int .i64 0) ∧ Below W.heap.size W w') := fun W hW => manCheck_any x.man ve vp W (h.1.keep hW) hf.man
 obtain ⟨⟨⟨p1, c1, _, _, rfl, -⟩, ⟨p2, c2, _, _, rfl, -⟩, -⟩, ⟨p3, c3, b3, o3, rfl, -, -, hp3, hc3⟩, -, hen0, hen1⟩ := h; obtain ⟨⟨mp, me, mq, mc⟩, en, sg, wa⟩ := x; obtain ⟨-, hn1, hn2, he8, hsg, hbg⟩ := hf; simp only [] at *; have HC := Lib.hid hc3; clear hc3; have HP := Lib.hid hp3; clear hp3; have HSG := Lib.hid hsg; clear hsg; have HBG := Lib.hid hbg; clear hbg; have hr8 : en.tmod 8 = 0 := by rw [Int.tmod_eq_emod_of_nonneg hen0]; exact he8
 generalize hW : (w.alloc (.cells #[.int .u32 mp, .slice p1 me.length c1, .slice p2 mq.length c2, .bool mc, .int .u32 en, .slice p3 sg.length c3] 65)) = w1; have HB1 : Hid (Below w.heap.size w w1) := by subst hW; exact alloc_old w _
 have HM : Hid (w1.heap[w.heap.size]? = some (.cells #[.int .u32 mp, .slice p1 me.length c1, .slice p2 mq.length c2, .bool mc, .int .u32 en, .slice p3 sg.length c3] 65 (0, 0))) := by subst hW; exact new_block w _
 have hz1 : w1.heap.size = w.heap.size + 1 := by subst hW; simp
 have a0 := Lib.cell_of_heap HM.out 0; have a1 := Lib.cell_of_heap HM.out 1; have a2 := Lib.cell_of_heap HM.out 2; have a3 := Lib.cell_of_heap HM.out 3; subst hW; go_enter Tryz.func71, Tryz.ntmps71; go_wp2_with fail; refine (H1.out _ HB1.out).mono ?_; rintro e w2 ⟨rfl, hB2⟩; have HM2 := Lib.hid ((hB2.block _ (by omega)).trans HM.out)
 have HB2 : Hid (Below w.heap.size w w2) := HB1.out.trans (hB2.mono HB1.out.size); have hz2 : w.heap.size < w2.heap.size := by have := hB2.size; omega
 clear a0 a1 a2 a3 hB2 hz1 HB1 HM; have a4 := Lib.cell_of_heap HM2.out 4; have a5 := Lib.cell_of_heap HM2.out 5; have hl1 : ¬ ((sg.length : Int) < 1) := by omega
 have hl2 : ¬ ((8 : Int) < (sg.length : Int)) := by omega
 go_wp2_with fail
 go_loopw [3, 4, 32] (fun v3 v4 v32 wr => ∃ k : Nat, v32 = .int .i64 k ∧ k ≤ sg.length ∧ v3 = .int .u64 (freeAt sg k) ∧ v4 = .bool ((sg.take k).any (begB en)) ∧ Below w2.heap.size w2 wr) (fun _ _ v32 _ => sg.length - (intOf v32).toNat)
 case atStart => exact ⟨0, by go_num, Nat.zero_le _, rfl, rfl, Below.refl _ _⟩
 case round =>
  obtain ⟨k, rfl, hk, rfl, rfl, hB⟩ := hrel; have HB := Lib.hid hB; have HBO : Hid (Below w.heap.size w wr) := HB2.out.trans (hB.mono (by omega))
  have HMR := Lib.hid ((hB.block _ hz2).trans HM2.out); have hzr : w.heap.size < wr.heap.size := by have := hB.size; omega
  clear hB a4 a5
  by_cases hlt : k < sg.length
  ·obtain rfl := HP.out (by omega)
   obtain ⟨g0, g1, g2, g3, g4, g5, g6⟩ := segR_keeps _ _ _ _ _ HBO.out (HC.out k hlt); obtain ⟨s1, s2, s3, s4, s5⟩ := HSG.out k hlt; have HFR := Lib.hid (freeAt_succ hlt); generalize hxk : sg[k] = x at g1 g2 g3 g4 g5 g6 s1 s2 s3 s4 s5 HFR; have HX := Lib.hid hxk; clear hxk; have HAN := Lib.hid (any_take_snoc (p := begB en) hlt HX.out); obtain ⟨xa, xp, xb⟩ := x; simp only [segEnd] at g1 g2 g3 g4 g5 g6 s1 s2 s3 s4 s5 HFR; generalize hfr : freeAt sg k = fr at s3; generalize hbe : (sg.take k).any (begB en) = be at HAN; have HPM := Lib.hid (perms_any xp (wr.alloc (.cells #[.int .u32 xa, .int .u8 xp, .string xb] 146))); have hpt : (decide (xp = 1) || (decide (xp = 3) || decide (xp = 5))) = true := by rcases s1 with rfl | rfl | rfl <;> rfl
   rw [hpt] at HPM; clear hpt; go_wp2_with fail; refine HPM.out.mono ?_; rintro e w4 ⟨rfl, hB4⟩; have q0 := cell_keep hB4 (by simp) (show (wr.alloc (.cells #[.int .u32 xa, .int .u8 xp, .string xb] 146)).cell? ⟨wr.heap.size, 0, none⟩ = some (.int .u32 xa) by simp [go_sem])
   have q1 := cell_keep hB4 (by simp) (show (wr.alloc (.cells #[.int .u32 xa, .int .u8 xp, .string xb] 146)).cell? ⟨wr.heap.size, 1, none⟩ = some (.int .u8 xp) by simp [go_sem])
   have q2 := cell_keep hB4 (by simp) (show (wr.alloc (.cells #[.int .u32 xa, .int .u8 xp, .string xb] 146)).cell? ⟨wr.heap.size, 2, none⟩ = some (.string xb) by simp [go_sem])
   have HB4 : Hid (Below wr.heap.size wr w4) := (alloc_old wr _).trans (hB4.mono (by simp))
   have hz4 : wr.heap.size < w4.heap.size := by have := hB4.size; simp at this; omega
   clear HPM hB4 g1 g2 g3; have r1 : xa.tmod 256 = 0 := by rw [Int.tmod_eq_emod_of_nonneg g4.1]; exact s2
   have r2 : IntKind.u64.wrap xa = xa := IntWalk.u64_in _ (by omega)
   have r3 : ¬ xa < fr := by omega
   have r4 : xb.toList.isEmpty = false := by
    cases hxb : xb.toList with
    | nil => exact absurd hxb (toList_not_nil s4)
    | cons a b => rfl
   have HEN := Lib.hid (iend_any xa xp xb w4 g4.1 g4.2 g6); generalize hE : xa + (xb.size : Int) = E at s5 HFR HEN; have r5 : ¬ 131072 < E := by omega
   go_wp2_with fail; refine HEN.out.mono ?_; rintro e w5 ⟨rfl, hB5⟩; have HEN2 := Lib.hid (iend_any xa xp xb w5 g4.1 g4.2 g6); rw [hE] at HEN2; replace q0 := cell_keep hB5 hz4 q0; replace q1 := cell_keep hB5 hz4 q1; replace q2 := cell_keep hB5 hz4 q2; have HB5 : Hid (Below wr.heap.size wr w5) := HB4.out.trans (hB5.mono (by omega))
   have hz5 : wr.heap.size < w5.heap.size := by have := hB5.size; omega
   clear HEN hB5 HB4 hz4; go_wp2_with fail; refine HEN2.out.mono ?_; rintro e w6 ⟨rfl, hB6⟩; replace q0 := cell_keep hB6 hz5 q0; replace q1 := cell_keep hB6 hz5 q1; replace q2 := cell_keep hB6 hz5 q2; have HB6 : Hid (Below wr.heap.size wr w6) := HB5.out.trans (hB6.mono (by omega))
   have hz6 : wr.heap.size < w6.heap.size := by have := hB6.size; omega
   have a4 := cell_keep HB6.out hzr (Lib.cell_of_heap HMR.out 4); clear HEN2 hB6 HB5 hz5 r1 r3 r4; have hE0 : 0 ≤ E := by omega
   have u1 : IntKind.u64.wrap (E + 256) = E + 256 := IntWalk.u64_in _ (by omega)
   have u2 : IntKind.u64.wrap (E + 256 - 1) = E + 255 := by rw [IntWalk.u64_in _ (by omega)]; omega
   have u3 : (E + 255).tdiv 256 = (E + 255) / 256 := Int.tdiv_eq_ediv_of_nonneg (by omega)
   have u4 : IntKind.u64.wrap ((E + 255) / 256) = (E + 255) / 256 := IntWalk.u64_in _ (by omega)
   have u5 : IntKind.u64.wrap ((E + 255) / 256 * 256) = (E + 255) / 256 * 256 := IntWalk.u64_in _ (by omega)
   have hcs : be = true ∨ (be = false ∧ (xp = 1 ∨ xp = 3)) ∨ (be = false ∧ xp = 5 ∧ Hid (decide (xa ≤ en) = false)) ∨ (be = false ∧ xp = 5 ∧ Hid (decide (xa ≤ en) = true) ∧ Hid (decide (en + 8 ≤ E) = false)) ∨ (be = false ∧ xp = 5 ∧ Hid (decide (xa ≤ en) = true) ∧ Hid (decide (en + 8 ≤ E) = true)) := by
    cases be with
    | true => exact .inl rfl
    | false =>
      rcases s1 with h | h | h
      ·exact .inr (.inl ⟨rfl, .inl h⟩)
      ·exact .inr (.inl ⟨rfl, .inr h⟩)
      ·by_cases h1 : xa ≤ en
       ·by_cases h2 : en + 8 ≤ E
        ·exact .inr (.inr (.inr (.inr ⟨rfl, h, decide_eq_true h1, decide_eq_true h2⟩)))
        ·exact .inr (.inr (.inr (.inl ⟨rfl, h, decide_eq_true h1, decide_eq_false h2⟩)))
       ·exact .inr (.inr (.inl ⟨rfl, h, decide_eq_false h1⟩))
   have HG4 := Lib.hid (And.intro g4.1 (And.intro g4.2 g6)); have v1 : IntKind.u64.wrap en = en := IntWalk.u64_in _ (by omega)
   have v2 : IntKind.u64.wrap (en + 8) = en + 8 := IntWalk.u64_in _ (by omega)
   have HE := Lib.hid hE; clear hE s1; have b0 := bw_cell hz6 q0; have b1 := bw_cell hz6 q1; have b2 := bw_cell hz6 q2; have b4 := bw_cell (show w.heap.size < w6.heap.size by omega) a4
   have HCL : Hid (∀ z : BW w6, Calls Tryz.prog 123 #[.agg #[.int .u32 xa, .int .u8 xp, .string xb]] z.u fun e w' => e = .returned (.int .u64 E) ∧ ∃ y : BW w6, w' = y.u) := fun z => calls_below (by
    have := iend_any xa xp xb z.u HG4.out.1 HG4.out.2.1 HG4.out.2.2; rw [HE.out] at this; exact this)
   clear g4 g5 g6 s2 s3 s4 s5 q0 q1 q2 a4; have k1 : bits BinOp.and IntKind.u8 1 4 = 0 := by decide +kernel
   have k3 : bits BinOp.and IntKind.u8 3 4 = 0 := by decide +kernel
   have k5 : bits BinOp.and IntKind.u8 5 4 = 4 := by decide +kernel
   rcases hcs with rfl | ⟨rfl, rfl | rfl⟩ | ⟨rfl, rfl, y1⟩ | ⟨rfl, rfl, y1, y2⟩ | ⟨rfl, rfl, y1, y2⟩
   all_goals
    go_wp2_with fail; try (have z1 := y1.out)
    try (have z2 := y2.out)
    refine wp_region_below rfl (by kernel_rfl) ?_
    repeat (first | go_big_quiet_skip | quiet_step ((go_at_call 123; exact HCL.out _)))
    refine wpQuiet_nil ?_; rintro w7 hx7; have hB7 : Below w6.heap.size w6 w7 := bw_of hx7; clear hx7; clear b0 b1 b2 b4 HCL k1 k3 k5; go_wp2; go_roundw
    case rel =>
     refine ⟨k + 1, by go_num, by omega, ?_, ?_, HB.out.trans ((HB6.out.trans (hB7.mono HB6.out.size)).mono HB.out.size)⟩
     ·rw [HFR.out]
     ·rw [HAN.out]; try (have z1 := y1.out)
      try (have z2 := y2.out)
      simp [begB, segEnd, HE.out, *]
    case measure => simp [intOf]; omega
  ·obtain rfl : k = sg.length := by omega
   have hbe := HBG.out; rw [List.take_length, hbe]; go_wp2; go_ret; exact ⟨rfl, HBO.out⟩
end
section
open Go.RowKit Go.Lib
theorem len64_zero (w : World) : Calls Tryz.prog 142 #[.int .u64 0] w fun e w' => e = .returned (.int .i64 0) ∧ w = w' := by
 go_enter Tryz.func142, Tryz.ntmps142; go_wp2; go_ret; refine ⟨?_, rfl⟩; show Ending.returned (.int .i64 (wrap64 (wrap64 (len8 0)))) = _; rw [show wrap64 (wrap64 (len8 0)) = 0 by decide +kernel]
theorem len_zero (w : World) : Calls Tryz.prog 105 #[.int .u64 0] w fun e w' => e = .returned (.int .i64 0) ∧ w = w' := by
 go_enter Tryz.func105, Tryz.ntmps105; go_wp2_with (go_at_call 142; refine (len64_zero _).mono ?_; rintro e w' ⟨rfl, rfl⟩); go_ret; exact ⟨rfl, rfl⟩
theorem ins_nil (p : Option Addr) (c : Nat) (w : World) : Calls Tryz.prog 239 #[.slice p 0 c, .int .i64 0, .int .i64 0] w fun e w' => e = .returned (.tuple #[]) ∧ w = w' := by
 go_enter Tryz.func239, Tryz.ntmps239; go_wp2
 go_loop [6] (fun v => v = .int .i64 1) (fun _ => 0)
 case atStart => rfl
 case round =>
  subst hrel; go_wp2; go_end0; exact ⟨rfl, rfl⟩
theorem pdq_nil (p : Option Addr) (c : Nat) (w : World) : Calls Tryz.prog 230 #[.slice p 0 c, .int .i64 0, .int .i64 0, .int .i64 0] w fun e w' => e = .returned (.tuple #[]) ∧ w = w' := by
 go_enter Tryz.func230, Tryz.ntmps230; go_wp2
 go_loop [1, 2] (fun a b => a = .int .i64 0 ∧ b = .int .i64 0) (fun _ _ => 0)
 case atStart => exact ⟨rfl, rfl⟩
 case round =>
  obtain ⟨rfl, rfl⟩ := hrel; go_wp2_with (go_at_call 239; refine (ins_nil _ _ _).mono ?_; rintro e w' ⟨rfl, rfl⟩); exact bodyPost_ret (v := .tuple #[]) (by simp [results, Tryz.results230, go_sem]) rfl ⟨rfl, rfl⟩
theorem s16_nil : S16 [] := fun base v w h _ => by
 obtain ⟨p, c, rfl⟩ := own_shape h; have H := Lib.hid h; clear h; go_enter Tryz.func208, Tryz.ntmps208; go_wp2_with (first | (go_at_call 105; refine (len_zero _).mono ?_; rintro e w' ⟨rfl, rfl⟩) | (go_at_call 230; refine (pdq_nil _ _ _).mono ?_; rintro e w' ⟨rfl, rfl⟩))
 go_end0; exact ⟨rfl, by simpa [sortI] using H.out, KB.refl _ _⟩
end
section
open Go.RowKit
def iMagic : BL := [65, 73, 77, 49]
def encExt (x : Int × Int) : BL := leB 1 x.1 ++ leB 2 x.2
def encSeg (x : GSeg) : BL := leB 4 x.addr ++ (leB 1 x.perm ++ (leB 4 (x.bytes.size : Int) ++ x.bytes.data.toList))
def encImg (x : GLink) : BL :=
 iMagic ++ (leB 4 x.man.pages ++ (leB 1 (x.man.exts.length : Int) ++ (x.man.exts.flatMap encExt ++ (leB 1 (x.man.ports.length : Int) ++ (x.man.ports.flatMap (leB 2) ++ (leB 1 (if x.man.cons = true then 1 else 0) ++ (leB 4 x.entry ++ (leB 1 (x.segs.length : Int) ++ x.segs.flatMap encSeg))))))))
theorem encImg_ne (x : GLink) : encImg x ≠ [] := by simp [encImg, iMagic]
theorem app_len {l : BL} {c n : Nat} {x : Int} (h : l.length ≤ c) (hn : n ≤ 4) : (l ++ leB n x).length ≤ c + 4 := by rw [List.length_append, leB_length]; omega
set_option maxHeartbeats 4000000 in
theorem imgPut_any (x : GLink) (ve vp vs va : Value) (w : World) (h : LinkAt w x ve vp vs va) (hf : ImgFit x) :
 Calls Tryz.prog 25 #[.agg #[.int .u32 x.man.pages, ve, vp, .bool x.man.cons, .int .u32 x.entry, vs]] w fun e w' => e = .returned (.tuple #[.string (bsOf (encImg x)), .int .i64 0]) ∧ Below w.heap.size w w' := by
 have HCK : Hid (∀ W, Below w.heap.size w W → Calls Tryz.prog 71 #[.agg #[.int .u32 x.man.pages, ve, vp, .bool x.man.cons, .int .u32 x.entry, vs]] W fun e w' => e = .returned (.int .i64 0) ∧ Below W.heap.size W w') := fun W hW => imgCheck_any x ve vp vs va W (h.keep hW) hf
 obtain ⟨⟨⟨pe, c1, b1, o1, rfl, -, hm1, hp1, hc1⟩, ⟨pp, c2, b2, o2, rfl, -, hm2, hp2, hc2⟩, -⟩, ⟨ps, c3, b3, o3, rfl, -, hm3, hp3, hc3⟩, -, hen0, hen1⟩ := h; obtain ⟨⟨mp, me, mq, mc⟩, en, sg, wa⟩ := x; obtain ⟨⟨⟨mpg, mex, mel, mpo, mpl⟩, -, -⟩, hn1, hn2, -, hsg, -⟩ := hf; simp only [] at *; have HC1 := Lib.hid hc1; have HC2 := Lib.hid hc2; have HC3 := Lib.hid hc3; have HP1 := Lib.hid hp1; have HP2 := Lib.hid hp2; have HP3 := Lib.hid hp3; have HSG := Lib.hid hsg; have HEX := Lib.hid mex; have HPO := Lib.hid mpo; clear hc1 hc2 hc3 hp1 hp2 hp3 hsg mex mpo; generalize hW : (w.alloc (.cells #[.int .u32 mp, .slice pe me.length c1, .slice pp mq.length c2, .bool mc, .int .u32 en, .slice ps sg.length c3] 65)) = w0; have HB0 : Hid (Below w.heap.size w w0) := by subst hW; exact alloc_old w _
 have HM0 : Hid (w0.heap[w.heap.size]? = some (.cells #[.int .u32 mp, .slice pe me.length c1, .slice pp mq.length c2, .bool mc, .int .u32 en, .slice ps sg.length c3] 65 (0, 0))) := by subst hW; exact heap_alloc_new w _
 have hz0 : w0.heap.size = w.heap.size + 1 := by subst hW; simp
 obtain ⟨a0, a1, a2, a3, a4, a5⟩ : (w0.cell? ⟨w.heap.size, 0, none⟩ = some (.int .u32 mp)) ∧ (w0.cell? ⟨w.heap.size, 1, none⟩ = some (.slice pe me.length c1)) ∧ (w0.cell? ⟨w.heap.size, 2, none⟩ = some (.slice pp mq.length c2)) ∧ (w0.cell? ⟨w.heap.size, 3, none⟩ = some (.bool mc)) ∧ (w0.cell? ⟨w.heap.size, 4, none⟩ = some (.int .u32 en)) ∧ (w0.cell? ⟨w.heap.size, 5, none⟩ = some (.slice ps sg.length c3)) :=
  ⟨Lib.cell_of_heap HM0.out 0, Lib.cell_of_heap HM0.out 1, Lib.cell_of_heap HM0.out 2, Lib.cell_of_heap HM0.out 3, Lib.cell_of_heap HM0.out 4, Lib.cell_of_heap HM0.out 5⟩
 go_enter Tryz.func25, Tryz.ntmps25; go_wp2_with fail; try rw [hW]
 clear hW; refine (HCK.out w0 HB0.out).mono ?_; rintro e w1 ⟨rfl, hB1⟩; have hz1 : w.heap.size < w1.heap.size := by have := hB1.size; omega
 have HM1 := Lib.hid ((hB1.block _ (by omega)).trans HM0.out)
 have HB1 : Hid (Below w.heap.size w w1) := HB0.out.trans (hB1.mono (by omega))
 clear HCK HB0 HM0 hB1 a0 a1 a2 a3 a4 a5; have HW0 : Hid (IW.IsWr w1.heap.size w1.heap.size [] (w1.alloc (.cells #[.pointer none, .slice none 0 0] 140))) := Lib.fresh_isBuilder _ _ w1; have HB2 : Hid (Below w1.heap.size w1 (w1.alloc (.cells #[.pointer none, .slice none 0 0] 140))) := alloc_old _ _; go_wp2_with fail; generalize w1.alloc (.cells #[.pointer none, .slice none 0 0] 140) = w2 at HW0 HB2 ⊢; generalize hbe : w1.heap.size = b at *; have HBE := Lib.hid hbe; clear hbe; have hB0 : b ≤ w2.heap.size := by have := HB2.out.size; rw [HBE.out] at this; exact this
 refine (IW.writeString_any b b [] _ _ HW0.out (by simp; decide) hB0).mono ?_
 rintro e w3 ⟨rfl, hw3⟩; have HW : Hid (IW.WPost b b iMagic w2 w3) := hw3; clear hw3 HW0; have HK : Hid (∀ wk l, IW.WPost b b l w2 wk → Below b w1 wk) := fun wk l h => HB2.out.trans h.2.1
 have HAB : Hid (∀ wk l, IW.WPost b b l w2 wk → Below w.heap.size w wk) := fun wk l h => HB1.out.trans ((HK.out wk l h).mono (by omega))
 have HM : Hid (∀ wk l, IW.WPost b b l w2 wk → wk.heap[w.heap.size]? = some (.cells #[.int .u32 mp, .slice pe me.length c1, .slice pp mq.length c2, .bool mc, .int .u32 en, .slice ps sg.length c3] 65 (0, 0))) := fun wk l h => ((HK.out wk l h).block _ hz1).trans HM1.out
 have HS : Hid (∀ wk l, IW.WPost b b l w2 wk → b ≤ wk.heap.size) := fun wk l h => Nat.le_trans hB0 h.2.1.size
 obtain ⟨wk, rfl⟩ : ∃ wk : World, wk = w3 := ⟨_, rfl⟩; have hl : iMagic.length ≤ 4 := Nat.le_refl _; generalize hE : encImg ⟨⟨mp, me, mq, mc⟩, en, sg, wa⟩ = E; have HEE := Lib.hid hE; clear hE; have HL : Hid (iMagic ++ (leB 4 mp ++ (leB 1 (me.length : Int) ++ (me.flatMap encExt ++ (leB 1 (mq.length : Int) ++ (mq.flatMap (leB 2) ++ (leB 1 (if mc = true then 1 else 0) ++ (leB 4 en ++ (leB 1 (sg.length : Int) ++ sg.flatMap encSeg)))))))) = E) := HEE.out
 have HEN : Hid (E ≠ []) := by rw [Hid, ← HEE.out]; exact encImg_ne _
 generalize iMagic = l at HW hl HL; have c := Lib.cell_of_heap (HM.out _ _ HW.out) 0; go_wp2_with fail; refine (IW.num_any b b 4 mp l _ HW.out.1 (by omega) (by rw [p4]; omega) (by omega) (HS.out _ _ HW.out)).mono ?_
 rintro e wk ⟨rfl, h⟩; replace HW := Lib.hid (HW.out.trans h); clear h c; replace hl := app_len (n := 4) (x := mp) hl (by omega)
 rw [Hid, ← List.append_assoc] at HL; generalize l ++ leB 4 mp = l at HW hl HL; replace HL := Lib.hid HL; have c := Lib.cell_of_heap (HM.out _ _ HW.out) 1; go_wp2_with fail; refine (IW.num_any b b 1 (me.length : Int) l _ HW.out.1 (by omega) (by rw [p1]; omega) (by omega) (HS.out _ _ HW.out)).mono ?_
 rintro e wk ⟨rfl, h⟩; replace HW := Lib.hid (HW.out.trans h); clear h c; replace hl := app_len (n := 1) (x := (me.length : Int)) hl (by omega)
 rw [Hid, ← List.append_assoc] at HL; generalize l ++ leB 1 (me.length : Int) = l at HW hl HL; replace HL := Lib.hid HL; have HW1 : Hid (IW.WPost b b (l ++ (me.take 0).flatMap encExt) w2 wk) := by simpa [Hid] using HW.out
 clear HW; have c := Lib.cell_of_heap (HM.out _ _ HW1.out) 1; go_wp2; clear c; obtain ⟨wo1, rfl⟩ : ∃ wo1 : World, wo1 = wk := ⟨_, rfl⟩
 go_loopw [36] (fun v36 wr => ∃ i : Nat, i ≤ me.length ∧ v36 = .int .i64 i ∧ IW.WPost b b (l ++ (me.take i).flatMap encExt) w2 wr) (fun v36 _ => me.length - (intOf v36).toNat)
 case atStart => exact ⟨0, Nat.zero_le _, rfl, HW1.out⟩
 case round =>
  clear HW1; obtain ⟨i, hi, rfl, hw⟩ := hrel; have HS1 := Lib.hid hw; clear hw
  have hl6 : (l ++ (me.take i).flatMap encExt).length ≤ 1000 := by
   have := take_flat_le (f := encExt) (c := 3) (l := me) (fun x hx => by rw [encExt, List.length_append, leB_length, leB_length]; exact Nat.le_refl _) i
   rw [List.length_append]; omega
  by_cases hlt : i < me.length
  ·obtain rfl := HP1.out (by omega)
   obtain ⟨q0, q1, q2, -⟩ := extR_keeps _ _ _ _ _ (HAB.out wr _ HS1.out) (HC1.out i hlt); have hb := HEX.out _ (List.getElem_mem hlt); have HT : Hid (l ++ (me.take (i + 1)).flatMap encExt = (l ++ (me.take i).flatMap encExt) ++ encExt me[i]) := by rw [Hid, take_flat hlt, List.append_assoc]
   generalize me[i] = x at q1 q2 hb HT; obtain ⟨xa, xb⟩ := x; simp only [] at q1 q2 hb; generalize hl6e : l ++ (me.take i).flatMap encExt = l6 at HS1 HT hl6; clear hl6e; obtain ⟨wi, rfl⟩ : ∃ wi : World, wi = wr := ⟨_, rfl⟩; have HW := Lib.hid (HS1.out.keep (alloc_old wi (.cells #[.int .u32 xa, .int .u32 xb] 143)) hB0); have HY : Hid (IW.BX b (wi.alloc (.cells #[.int .u32 xa, .int .u32 xb] 143)) wi.heap.size 143 #[.int .u32 xa, .int .u32 xb]) := IW.BX.new HS1.out.1.lt (by decide)
   obtain ⟨wk, hwke⟩ : ∃ wk : World, wk = wi.alloc (.cells #[.int .u32 xa, .int .u32 xb] 143) := ⟨_, rfl⟩; rw [← hwke] at HW HY; have HWE := Lib.hid hwke; clear hwke; go_upto_region 11 with fail
   rw [← HWE.out]; generalize wi.heap.size = yb at HY ⊢; clear HWE; have c : wk.cell? ⟨yb, 0, none⟩ = some (.int .u32 xa) := HY.out.cell 0; go_wp2_with fail; refine (IW.num_any b b 1 xa l6 _ HW.out.1 (by omega) (by rw [p1]; omega) (by omega) (HS.out _ _ HW.out)).mono ?_
   rintro e wk ⟨rfl, h⟩; replace HY := Lib.hid (HY.out.keep h.2.2); replace HW := Lib.hid (HW.out.trans h); clear h c; have hl7 := app_len (n := 1) (x := xa) hl6 (by omega)
   have c : wk.cell? ⟨yb, 1, none⟩ = some (.int .u32 xb) := HY.out.cell 1; go_wp2_with fail; refine (IW.num_any b b 2 xb (l6 ++ leB 1 xa) _ HW.out.1 (by omega) (by rw [p2]; omega) (by omega) (HS.out _ _ HW.out)).mono ?_
   rintro e wk ⟨rfl, h⟩; replace HW := Lib.hid (HW.out.trans h); clear h c; have HE : Hid ((l6 ++ leB 1 xa) ++ leB 2 xb = l6 ++ encExt (xa, xb)) := by simp only [Hid, encExt, List.append_assoc]
   rw [HE.out, ← HT.out] at HW; go_wp2; go_roundw
   case rel => exact ⟨i + 1, by omega, by go_num, HW.out⟩
   case measure => simp [intOf]; omega
  ·have HE3 : Hid (me.take i = me) := List.take_of_length_le (by omega)
   rw [HE3.out] at HS1 hl6; clear HE3; rw [Hid, ← List.append_assoc] at HL; generalize l ++ me.flatMap encExt = l2 at HS1 hl6 HL; replace HL := Lib.hid HL; have HW := HS1; clear HS1 hl; have c := Lib.cell_of_heap (HM.out _ _ HW.out) 2; go_wp2_with fail; refine (IW.num_any b b 1 (mq.length : Int) l2 _ HW.out.1 (by omega) (by rw [p1]; omega) (by omega) (HS.out _ _ HW.out)).mono ?_
   rintro e wk ⟨rfl, h⟩; replace HW := Lib.hid (HW.out.trans h); clear h c; have hl := app_len (n := 1) (x := (mq.length : Int)) hl6 (by omega)
   rw [Hid, ← List.append_assoc] at HL; generalize l2 ++ leB 1 (mq.length : Int) = l3 at HW hl HL; replace HL := Lib.hid HL; have HW1 : Hid (IW.WPost b b (l3 ++ (mq.take 0).flatMap (leB 2)) w2 wk) := by simpa [Hid] using HW.out
   clear HW hl6; have c := Lib.cell_of_heap (HM.out _ _ HW1.out) 2; go_wp2; clear c; obtain ⟨wo2, rfl⟩ : ∃ wo2 : World, wo2 = wk := ⟨_, rfl⟩
   go_loopw [60] (fun v60 wr => ∃ i : Nat, i ≤ mq.length ∧ v60 = .int .i64 i ∧ IW.WPost b b (l3 ++ (mq.take i).flatMap (leB 2)) w2 wr) (fun v60 _ => mq.length - (intOf v60).toNat)
   case atStart => exact ⟨0, Nat.zero_le _, rfl, HW1.out⟩
   case round =>
    clear HW1; obtain ⟨i, hi, rfl, hw⟩ := hrel; have HS1 := Lib.hid hw; clear hw
    have hl6 : (l3 ++ (mq.take i).flatMap (leB 2)).length ≤ 2000 := by
     have := take_flat_le (f := leB 2) (c := 2) (l := mq) (fun x hx => by rw [leB_length]; exact Nat.le_refl _) i
     rw [List.length_append]; omega
    by_cases hlt : i < mq.length
    ·obtain rfl := HP2.out (by omega)
     obtain ⟨q0, q1, -⟩ := portR_keeps _ _ _ _ _ (HAB.out wr _ HS1.out) (HC2.out i hlt); have hb := HPO.out _ (List.getElem_mem hlt); have HT : Hid (l3 ++ (mq.take (i + 1)).flatMap (leB 2) = (l3 ++ (mq.take i).flatMap (leB 2)) ++ leB 2 mq[i]) := by rw [Hid, take_flat hlt, List.append_assoc]
     generalize mq[i] = x at q1 hb HT; generalize hl6e : l3 ++ (mq.take i).flatMap (leB 2) = l6 at HS1 HT hl6; clear hl6e; rw [Nat.mul_one] at q1; go_wp2_with fail; refine (IW.num_any b b 2 x l6 _ HS1.out.1 (by omega) (by rw [p2]; omega) (by omega) (HS.out _ _ HS1.out)).mono ?_
     rintro e wk ⟨rfl, h⟩; have HW := Lib.hid (HS1.out.trans h); clear h; rw [← HT.out] at HW; go_wp2; go_roundw
     case rel => exact ⟨i + 1, by omega, by go_num, HW.out⟩
     case measure => simp [intOf]; omega
    ·have HE3 : Hid (mq.take i = mq) := List.take_of_length_le (by omega)
     rw [HE3.out] at HS1 hl6; clear HE3; rw [Hid, ← List.append_assoc] at HL; generalize l3 ++ mq.flatMap (leB 2) = l4 at HS1 hl6 HL; replace HL := Lib.hid HL; have HW := HS1; clear HS1 hl; have c3 := Lib.cell_of_heap (HM.out _ _ HW.out) 3; obtain ⟨cn, hcn⟩ : ∃ cn : Int, (if mc = true then 1 else 0) = cn := ⟨_, rfl⟩
     have hcb : cn = 0 ∨ cn = 1 := by rw [← hcn]; split <;> simp
     have HCN := Lib.hid hcn; rw [HCN.out] at HL; have hsl : sg.length ≤ 8 := hn2; have hmc : (mc = true ∧ cn = 1) ∨ (mc = false ∧ cn = 0) := by rw [← hcn]; cases mc <;> simp
     have hl := app_len (n := 1) (x := cn) hl6 (by omega)
     rw [Hid, ← List.append_assoc] at HL; obtain ⟨l5, hl5⟩ : ∃ l5, l4 ++ leB 1 cn = l5 := ⟨_, rfl⟩; rw [hl5] at HL hl; replace HL := Lib.hid HL; have HL5 := Lib.hid hl5; clear hl5 hcn HCN hcb; rcases hmc with ⟨rfl, rfl⟩ | ⟨rfl, rfl⟩
     all_goals
      go_wp2_with fail; refine (IW.num_any b b 1 _ l4 _ HW.out.1 (by omega) (by rw [p1]; omega) (by omega) (HS.out _ _ HW.out)).mono ?_
      rintro e wk ⟨rfl, h⟩; rw [HL5.out] at h; replace HW := Lib.hid (HW.out.trans h); clear h c3; have c := Lib.cell_of_heap (HM.out _ _ HW.out) 4; go_wp2_with fail; refine (IW.num_any b b 4 en l5 _ HW.out.1 (by omega) (by rw [p4]; omega) (by omega) (HS.out _ _ HW.out)).mono ?_
      rintro e wk ⟨rfl, h⟩; replace HW := Lib.hid (HW.out.trans h); clear h c; replace hl := app_len (n := 4) (x := en) hl (by omega)
      rw [Hid, ← List.append_assoc] at HL; generalize l5 ++ leB 4 en = l7 at HW hl HL; replace HL := Lib.hid HL; have c := Lib.cell_of_heap (HM.out _ _ HW.out) 5; go_wp2_with fail; refine (IW.num_any b b 1 (sg.length : Int) l7 _ HW.out.1 (by omega) (by rw [p1]; omega) (by omega) (HS.out _ _ HW.out)).mono ?_
      rintro e wk ⟨rfl, h⟩; replace HW := Lib.hid (HW.out.trans h); clear h c; replace hl := app_len (n := 1) (x := (sg.length : Int)) hl (by omega)
      rw [Hid, ← List.append_assoc] at HL; generalize l7 ++ leB 1 (sg.length : Int) = l8 at HW hl HL; replace HL := Lib.hid HL; have HW1 : Hid (IW.WPost b b (l8 ++ (sg.take 0).flatMap encSeg) w2 wk) := by simpa [Hid] using HW.out
      clear HW hl6; have c := Lib.cell_of_heap (HM.out _ _ HW1.out) 5; go_wp2; clear c; obtain ⟨wo3, rfl⟩ : ∃ wo3 : World, wo3 = wk := ⟨_, rfl⟩
      go_loopw [88] (fun v88 wr => ∃ i : Nat, i ≤ sg.length ∧ v88 = .int .i64 i ∧ IW.WPost b b (l8 ++ (sg.take i).flatMap encSeg) w2 wr) (fun v88 _ => sg.length - (intOf v88).toNat)
      case atStart => exact ⟨0, Nat.zero_le _, rfl, HW1.out⟩
      case round =>
       clear HW1; obtain ⟨i, hi, rfl, hw⟩ := hrel; have HS1 := Lib.hid hw; clear hw
       have hl6 : (l8 ++ (sg.take i).flatMap encSeg).length ≤ 2000000 := by
        have := take_flat_le (f := encSeg) (c := 131081) (l := sg) (fun x hx => by
         obtain ⟨k, hk, rfl⟩ := List.getElem_of_mem hx; obtain ⟨-, -, h3, -, h5⟩ := HSG.out k hk; have h6 := (HC3.out k hk).2.2.2.2.1.1; unfold segEnd at h5; have h7 : sg[k].bytes.data.toList.length = sg[k].bytes.size := len_list _; rw [encSeg, List.length_append, List.length_append, List.length_append, leB_length, leB_length, leB_length, h7]; omega) i
        rw [List.length_append]; omega
       by_cases hlt : i < sg.length
       ·obtain rfl := HP3.out (by omega)
        obtain ⟨q0, q1, q2, q3, q4, q5⟩ := segR_keeps _ _ _ _ _ (HAB.out wr _ HS1.out) (HC3.out i hlt); obtain ⟨s1, -, s3, s4, s5⟩ := HSG.out i hlt; have HT : Hid (l8 ++ (sg.take (i + 1)).flatMap encSeg = (l8 ++ (sg.take i).flatMap encSeg) ++ encSeg sg[i]) := by rw [Hid, take_flat hlt, List.append_assoc]
        clear s3; generalize sg[i] = x at q1 q2 q3 q4 q5 s1 s4 s5 HT; obtain ⟨xa, xp, xb⟩ := x; simp only [segEnd] at q1 q2 q3 q4 q5 s1 s4 s5; have hxz : xb.size ≤ 131072 := by omega
        clear s5; generalize hl6e : l8 ++ (sg.take i).flatMap encSeg = l6 at HS1 HT hl6; clear hl6e; obtain ⟨wi, rfl⟩ : ∃ wi : World, wi = wr := ⟨_, rfl⟩; have HW := Lib.hid (HS1.out.keep (alloc_old wi (.cells #[.int .u32 xa, .int .u8 xp, .string xb] 146)) hB0); have HY : Hid (IW.BX b (wi.alloc (.cells #[.int .u32 xa, .int .u8 xp, .string xb] 146)) wi.heap.size 146 #[.int .u32 xa, .int .u8 xp, .string xb]) := IW.BX.new HS1.out.1.lt (by decide)
        obtain ⟨wk, hwke⟩ : ∃ wk : World, wk = wi.alloc (.cells #[.int .u32 xa, .int .u8 xp, .string xb] 146) := ⟨_, rfl⟩; rw [← hwke] at HW HY; have HWE := Lib.hid hwke; clear hwke; have hp8 : 0 ≤ xp ∧ xp ≤ 255 := by omega
        go_upto_region 29 with fail
        rw [← HWE.out]; generalize wi.heap.size = yb at HY ⊢; clear HWE; have c : wk.cell? ⟨yb, 0, none⟩ = some (.int .u32 xa) := HY.out.cell 0; go_wp2_with fail; refine (IW.num_any b b 4 xa l6 _ HW.out.1 (by omega) (by rw [p4]; omega) (by omega) (HS.out _ _ HW.out)).mono ?_
        rintro e wk ⟨rfl, h⟩; replace HY := Lib.hid (HY.out.keep h.2.2); replace HW := Lib.hid (HW.out.trans h); clear h c; have hl7 := app_len (n := 4) (x := xa) hl6 (by omega)
        have c : wk.cell? ⟨yb, 1, none⟩ = some (.int .u8 xp) := HY.out.cell 1; go_wp2_with fail; refine (IW.num_any b b 1 xp (l6 ++ leB 4 xa) _ HW.out.1 (by omega) (by rw [p1]; omega) (by omega) (HS.out _ _ HW.out)).mono ?_
        rintro e wk ⟨rfl, h⟩; replace HY := Lib.hid (HY.out.keep h.2.2); replace HW := Lib.hid (HW.out.trans h); clear h c; have hl9 := app_len (n := 1) (x := xp) hl7 (by omega)
        have c : wk.cell? ⟨yb, 2, none⟩ = some (.string xb) := HY.out.cell 2; go_wp2_with fail; refine (IW.num_any b b 4 (xb.size : Int) ((l6 ++ leB 4 xa) ++ leB 1 xp) _ HW.out.1 (by omega) (by rw [p4]; omega) (by omega) (HS.out _ _ HW.out)).mono ?_
        rintro e wk ⟨rfl, h⟩; replace HY := Lib.hid (HY.out.keep h.2.2); replace HW := Lib.hid (HW.out.trans h); clear h c; have hl10 := app_len (n := 4) (x := (xb.size : Int)) hl9 (by omega)
        have c : wk.cell? ⟨yb, 2, none⟩ = some (.string xb) := HY.out.cell 2; go_wp2_with fail; refine (IW.writeString_any b b (((l6 ++ leB 4 xa) ++ leB 1 xp) ++ leB 4 (xb.size : Int)) xb _ HW.out.1 (by omega) (HS.out _ _ HW.out)).mono ?_
        rintro e wk ⟨rfl, h⟩; replace HW := Lib.hid (HW.out.trans h); clear h c; have HE : Hid ((((l6 ++ leB 4 xa) ++ leB 1 xp) ++ leB 4 (xb.size : Int)) ++ xb.data.toList = l6 ++ encSeg ⟨xa, xp, xb⟩) := by simp only [Hid, encSeg, List.append_assoc]
        rw [HE.out, ← HT.out] at HW; go_wp2; go_roundw
        case rel => exact ⟨i + 1, by omega, by go_num, HW.out⟩
        case measure => simp [intOf]; omega
       ·have HE3 : Hid (sg.take i = sg) := List.take_of_length_le (by omega)
        rw [HE3.out, HL.out] at HS1; clear HE3; have HST := Lib.hid (IW.string_any b b E wr HS1.out.1 HEN.out); go_wp2_with fail; refine HST.out.mono ?_; rintro e w9 ⟨rfl, hB9⟩; have HB9 := Lib.hid hB9; clear hB9 HST; go_wp2; go_ret2; refine ⟨?_, (HAB.out wr _ HS1.out).trans (HB9.out.mono (by omega))⟩
        rw [HEE.out]; rfl
end
end Go.Proofs.YtboegjdkedjhcaaGreatDoor
