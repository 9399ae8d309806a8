/- The walk of aediculelaw18.alive. Where nothing is large, the program and the reference accept the same objects. No program in sight. The walk of aediculelaw08.Large. The walk of aediculelaw13.Large. Objects that are not large; an image's box, cell by cell. -/
import Derived.Test.YtdjgkmpjhpnkeaaGreatDoorBd35
import Derived.Test.YtdjgkmpjhpnkeaaGreatDoorBd02
import Derived.IntWalk
import Derived.Test.YtdjgkmpjhpnkeaaGreatDoorRows
import Derived.WalkLawsBesides
import Derived.Lib.Hide
import Derived.Deep.Light
import Derived.Handy
namespace Go.Proofs.YtdjgkmpjhpnkeaaGreatDoor
open Go.RowKit Go.Maps
theorem objs18_at {W : World} {b : Nat} (h : RowAt 7 SymR W (.slice (some ⟨b, 0, none⟩) 3 3) syms18) :
    ObjsAt (W.alloc (.cells #[.string ⟨#[111]⟩, .slice (some ⟨b, 0, none⟩) 3 3] 47)) (.slice (some ⟨W.heap.size, 0, none⟩) 1 1) l18 :=
  rowAt_one ⟨_, by simp, by simp [go_sem], by simp [go_sem], h.keep symR_keeps (alloc_old W _), by decide⟩ (by omega)
theorem small18 : ∀ o ∈ l18, ∀ s ∈ o.syms, s.bytes.size < 4294967296 := by
  intro o ho s hs
  obtain rfl := List.mem_singleton.1 ho
  rcases List.mem_cons.1 hs with rfl | hs
  · decide
  · rcases List.mem_cons.1 hs with rfl | hs
    · decide
    · obtain rfl := List.mem_singleton.1 hs; decide
/-- an image in a box -/
def BoxL (w : World) (b : Nat) (x : GLink) (ve vp vs va : Value) : Prop :=
  w.heap[b]? = some (.cells #[.int .u32 x.man.pages, ve, vp, .bool x.man.cons, .int .u32 x.entry, vs, va] 37 (0, 0)) ∧ LinkAt w x ve vp vs va
theorem BoxL.keep {w w' : World} {b : Nat} {x : GLink} {ve vp vs va : Value} (h : BoxL w b x ve vp vs va) (hb : Below w.heap.size w w') : BoxL w' b x ve vp vs va :=
  ⟨(hb.block b (Array.getElem?_eq_some_iff.1 h.1).1).trans h.1, h.2.keep hb⟩
theorem BoxL.new {w : World} {x : GLink} {ve vp vs va : Value} (h : LinkAt w x ve vp vs va) : BoxL (w.alloc (.cells #[.int .u32 x.man.pages, ve, vp, .bool x.man.cons, .int .u32 x.entry, vs, va] 37)) w.heap.size x ve vp vs va :=
  ⟨new_block w _, h.keep (alloc_old w _)⟩
theorem sp_call {W : World} {b g : Nat} (hg : g = W.heap.size) (hsort : SortOk) (nm : ByteArray) (hn : nm.size ≤ 32) (h : RowAt 7 SymR W (.slice (some ⟨b, 0, none⟩) 3 3) syms18) :
    Calls Tryz.prog 15 #[.string nm, .slice (some ⟨g, 0, none⟩) 1 1] (W.alloc (.cells #[.string ⟨#[111]⟩, .slice (some ⟨b, 0, none⟩) 3 3] 47)) fun e w' => ∃ r, Sp18 l18 nm r ∧ LPost W r e w' := by
  subst hg
  refine (special18_any hsort _ l18 nm _ (objs18_at h) (by omega) (fun _ => small18)).mono ?_
  rintro e w' ⟨r, h1, ve, vp, vs, va, rfl, h2, hB⟩
  exact ⟨r, h1, ve, vp, vs, va, rfl, h2, (alloc_old W _).trans (hB.mono (by simp))⟩
theorem fu_call {W : World} {b g : Nat} (hg : g = W.heap.size) (hsort : SortOk) (nm : ByteArray) (hn : nm.size ≤ 32) (h : RowAt 7 SymR W (.slice (some ⟨b, 0, none⟩) 3 3) syms18) :
    Calls Tryz.prog 13 #[.string nm, .slice (some ⟨g, 0, none⟩) 1 1] (W.alloc (.cells #[.string ⟨#[111]⟩, .slice (some ⟨b, 0, none⟩) 3 3] 47)) fun e w' => ∃ r, Fu18 l18 nm r ∧ LPost W r e w' := by
  subst hg
  refine (full18_any hsort _ l18 nm _ (objs18_at h) (by omega) (fun _ => small18)).mono ?_
  rintro e w' ⟨r, h1, ve, vp, vs, va, rfl, h2, hB⟩
  exact ⟨r, h1, ve, vp, vs, va, rfl, h2, (alloc_old W _).trans (hB.mono (by simp))⟩
theorem row_slice {α : Type} {k : Nat} {R : World → Nat → Nat → α → Prop} {w : World} {v : Value} {l : List α} (h : RowAt k R w v l) (h0 : 0 < l.length) : ∃ b o cap, v = .slice (some ⟨b, o, none⟩) l.length cap ∧ ∀ i (hi : i < l.length), R w b (o + i * k) l[i] := by
  obtain ⟨p, cap, b, o, rfl, -, -, h4, h5⟩ := h
  exact ⟨b, o, cap, by rw [h4 h0], h5⟩
set_option maxRecDepth 100000 in
set_option maxHeartbeats 4000000 in
theorem alive18_any (hsort : SortOk) (w : World) : Calls Tryz.prog 11 #[] w fun e w' => e = .returned (.bool true) ∧ Below w.heap.size w w' := by
  have HSORT := Lib.hid hsort; clear hsort
  go_enter Tryz.func11, Tryz.ntmps11
  go_wp2_with fail
  refine (three18_any _).mono ?_
  rintro e w1 ⟨⟨b, rfl, hr1⟩, hB1⟩
  have HR1 := Lib.hid hr1
  have HB1 := Lib.hid hB1; clear hr1 hB1
  go_wp2_with fail
  refine (sp_call rfl HSORT.out m18 (by decide) HR1.out).mono ?_
  rintro e w2 ⟨rx, hx, ve, vp, vs, va, rfl, hla, hB2⟩
  obtain ⟨x1, x2, x3, x4, x5, x6, x7, x8, rfl, rfl, rfl, rfl⟩ := hla.shape
  obtain ⟨a1, a2, a3, s0, s1, a4, a5⟩ := alive_x hx
  obtain ⟨⟨⟨xp, xe, xq, xc⟩, xen, xs, xa⟩, xn, xcd⟩ := rx
  simp only [] at a1 a2 a3 a4 hla hB2
  subst a1 a2 a3 a4
  have HX2 := Lib.hid (BoxL.new hla)
  have HB2 : Hid (Below w.heap.size w w2) := HB1.out.trans (hB2.mono HB1.out.size)
  clear hla hB2 hx HR1 HB1
  unfold linkV
  go_wp2_with fail
  have HBa : Hid (Below w2.heap.size w2 (w2.alloc (.cells #[.int .u32 xp, .slice x1 xe.length x2, .slice x3 1 x4, .bool xc, .int .u32 256, .slice x5 2 x6, .slice x7 xa.length x8] 37))) := alloc_old w2 _
  have HXa : Hid (BoxL (w2.alloc (.cells #[.int .u32 xp, .slice x1 xe.length x2, .slice x3 1 x4, .bool xc, .int .u32 256, .slice x5 2 x6, .slice x7 xa.length x8] 37)) w2.heap.size ⟨⟨xp, xe, [7], xc⟩, 256, [s0, s1], xa⟩ (.slice x1 xe.length x2) (.slice x3 1 x4) (.slice x5 2 x6) (.slice x7 xa.length x8)) := HX2.out
  generalize (w2.alloc (.cells #[.int .u32 xp, .slice x1 xe.length x2, .slice x3 1 x4, .bool xc, .int .u32 256, .slice x5 2 x6, .slice x7 xa.length x8] 37)) = w3 at HBa HXa ⊢
  generalize w2.heap.size = xb at HXa ⊢
  have HB3 : Hid (Below w.heap.size w w3) := HB2.out.trans (HBa.out.mono HB2.out.size)
  clear HX2 HBa HB2
  refine (three18_any _).mono ?_
  rintro e w4 ⟨⟨b4, rfl, hr4⟩, hB4⟩
  have HR4 := Lib.hid hr4
  have HX4 := Lib.hid (HXa.out.keep hB4)
  have HB4 : Hid (Below w.heap.size w w4) := HB3.out.trans (hB4.mono HB3.out.size)
  clear hr4 hB4 HXa HB3
  go_wp2_with fail
  refine (fu_call rfl HSORT.out m18 (by decide) HR4.out).mono ?_
  rintro e w5 ⟨ry, hy, ve, vp, vs, va, rfl, hla, hB5⟩
  obtain ⟨y1, y2, y3, y4, y5, y6, y7, y8, rfl, rfl, rfl, rfl⟩ := hla.shape
  obtain ⟨c1, c2⟩ := alive_y hy
  obtain ⟨⟨⟨yp, ye, yq, yc⟩, yen, ys, ya⟩, yn, ycd⟩ := ry
  simp only [] at c1 c2 hla hB5
  subst c1 c2
  have HX5 := Lib.hid (HX4.out.keep hB5)
  have HLY := Lib.hid hla
  have HB5 : Hid (Below w.heap.size w w5) := HB4.out.trans (hB5.mono HB4.out.size)
  clear hla hB5 hy HR4 HX4 HB4
  unfold linkV
  go_wp2_with fail
  have HBb : Hid (Below w5.heap.size w5 (w5.alloc (.cells #[.int .u32 yp, .slice y1 ye.length y2, .slice y3 2 y4, .bool yc, .int .u32 yen, .slice y5 ys.length y6, .slice y7 ya.length y8] 37))) := alloc_old w5 _
  have HYb : Hid (BoxL (w5.alloc (.cells #[.int .u32 yp, .slice y1 ye.length y2, .slice y3 2 y4, .bool yc, .int .u32 yen, .slice y5 ys.length y6, .slice y7 ya.length y8] 37)) w5.heap.size ⟨⟨yp, ye, [7, 9], yc⟩, yen, ys, ya⟩ (.slice y1 ye.length y2) (.slice y3 2 y4) (.slice y5 ys.length y6) (.slice y7 ya.length y8)) := BoxL.new HLY.out
  generalize (w5.alloc (.cells #[.int .u32 yp, .slice y1 ye.length y2, .slice y3 2 y4, .bool yc, .int .u32 yen, .slice y5 ys.length y6, .slice y7 ya.length y8] 37)) = w6 at HBb HYb ⊢
  have HX6 := Lib.hid (HX5.out.keep HBb.out)
  have HB6 : Hid (Below w.heap.size w w6) := HB5.out.trans (HBb.out.mono HB5.out.size)
  generalize w5.heap.size = yb at HYb ⊢
  clear HX5 HLY HBb HB5
  refine (three18_any _).mono ?_
  rintro e w7 ⟨⟨b7, rfl, hr7⟩, hB7⟩
  have HR7 := Lib.hid hr7
  have HX7 := Lib.hid (HX6.out.keep hB7)
  have HY7 := Lib.hid (HYb.out.keep hB7)
  have HB7 : Hid (Below w.heap.size w w7) := HB6.out.trans (hB7.mono HB6.out.size)
  clear hr7 hB7 HX6 HYb HB6
  go_wp2_with fail
  refine (sp_call rfl HSORT.out d18 (by decide) HR7.out).mono ?_
  rintro e w8 ⟨rz, hz, ve, vp, vs, va, rfl, hla, hB8⟩
  obtain ⟨z1, z2, z3, z4, z5, z6, z7, z8, rfl, rfl, rfl, rfl⟩ := hla.shape
  obtain ⟨g1, g2⟩ := alive_z hz
  obtain ⟨⟨⟨zp, ze, zq, zc⟩, zen, zs, za⟩, zn, zcd⟩ := rz
  simp only [] at g1 g2 hla hB8
  subst g1 g2
  have HX8 := Lib.hid (HX7.out.keep hB8)
  have HY8 := Lib.hid (HY7.out.keep hB8)
  have HB8 : Hid (Below w.heap.size w w8) := HB7.out.trans (hB8.mono HB7.out.size)
  clear hla hB8 hz HR7 HX7 HY7 HB7
  obtain ⟨hx, hlx⟩ := HX8.out
  obtain ⟨hy, hly⟩ := HY8.out
  have hxl : xb < w8.heap.size := (Array.getElem?_eq_some_iff.1 hx).1
  have hyl : yb < w8.heap.size := (Array.getElem?_eq_some_iff.1 hy).1
  have i2 : w8.cell? ⟨xb, 2, none⟩ = some (.slice x3 1 x4) := Lib.cell_of_heap hx 2
  have i4 : w8.cell? ⟨xb, 4, none⟩ = some (.int .u32 256) := Lib.cell_of_heap hx 4
  have i5 : w8.cell? ⟨xb, 5, none⟩ = some (.slice x5 2 x6) := Lib.cell_of_heap hx 5
  have j2 : w8.cell? ⟨yb, 2, none⟩ = some (.slice y3 2 y4) := Lib.cell_of_heap hy 2
  obtain ⟨pb1, po1, pc1, e1, hp1⟩ := row_slice hlx.1.2.1 (by simp)
  cases e1
  obtain ⟨pb2, po2, pc2, e2, hp2⟩ := row_slice hly.1.2.1 (by simp)
  cases e2
  obtain ⟨pb3, po3, pc3, e3, hp3⟩ := row_slice hlx.2.1 (by simp)
  cases e3
  obtain ⟨u0, u1, -⟩ := hp1 0 (by simp)
  obtain ⟨v0, v1, -⟩ := hp2 1 (by simp)
  obtain ⟨t0, -, -, t1, -⟩ := hp3 0 (by simp)
  have u1' : w8.cell? ⟨pb1, po1, none⟩ = some (.int .u16 7) := by simpa using u1
  have v1' : w8.cell? ⟨pb2, po2 + 1, none⟩ = some (.int .u16 9) := by simpa using v1
  have t1' : w8.cell? ⟨pb3, po3 + 2, none⟩ = some (.string ⟨#[49, 50, 51, 52, 0, 2, 0, 0]⟩) := by rw [← a5]; simpa using t1
  clear u1 v1 t1 hp1 hp2 hp3 hx hy hlx hly HX8 HY8
  unfold linkV d18
  go_wp2_with fail
  go_ret
  exact ⟨rfl, HB8.out.alloc HB8.out.size _⟩
end Go.Proofs.YtdjgkmpjhpnkeaaGreatDoor
namespace Go.Proofs.YtdjgkmpjhpnkeaaGreatDoor
open Go.RowKit
theorem sumI_nonneg {α : Type} {f : α → Int} : ∀ {l : List α}, (∀ x ∈ l, 0 ≤ f x) → 0 ≤ sumI f l
  | [], _ => by simp [sumI]
  | a :: r, h => by
    have h1 := h a (by simp)
    have h2 := sumI_nonneg (l := r) (fun x hx => h x (by simp [hx]))
    simp only [sumI]; omega
theorem sumI_le {α : Type} {f : α → Int} {c : Int} : ∀ {l : List α}, (∀ x ∈ l, f x ≤ c) → sumI f l ≤ l.length * c
  | [], _ => by simp [sumI]
  | a :: r, h => by
    have h1 := h a (by simp)
    have h2 := sumI_le (l := r) (fun x hx => h x (by simp [hx]))
    simp only [sumI, List.length_cons, Int.natCast_add, Int.add_mul]; omega
theorem sumI_mem {α : Type} {f : α → Int} : ∀ {l : List α} {x : α}, (∀ x ∈ l, 0 ≤ f x) → x ∈ l → f x ≤ sumI f l
  | a :: r, x, h, hx => by
    have h1 := h a (by simp)
    have h3 := sumI_nonneg (l := r) (fun x hx => h x (by simp [hx]))
    rcases List.mem_cons.1 hx with rfl | hx
    · simp only [sumI]; omega
    · have h2 := sumI_mem (fun x hx => h x (by simp [hx])) hx
      simp only [sumI]; omega
theorem isName_le {s : ByteArray} (h : isName s = true) : s.size ≤ 32 := by
  simp only [isName, Bool.and_eq_true, decide_eq_true_eq] at h
  exact h.2
theorem relsGo_names {n : Int} : ∀ {l : List GRel} {e : Int}, relsGo n e l = true → ∀ x ∈ l, isName x.name = true
  | [], _, _, x, hx => by cases hx
  | a :: r, e, h, x, hx => by
    simp only [relsGo, Bool.and_eq_true] at h
    rcases List.mem_cons.1 hx with rfl | hx
    · exact h.1.1.1.1.2
    · exact relsGo_names h.2 x hx
/-- what both readings ask -/
def weakSym (s : GSym) : Prop := s.name.size ≤ 32 ∧ s.rels.length ≤ 1024 ∧ s.notes.length ≤ 8 ∧ ∀ x ∈ s.rels, x.name.size ≤ 32
theorem weak_of_P {s : GSym} (h : symOkP s = true) : weakSym s := by
  simp only [symOkP, placesOk, Bool.and_eq_true, decide_eq_true_eq] at h
  exact ⟨isName_le h.1.1.1.1.1.1.1, h.1.1.2.2, h.1.2, fun x hx => isName_le (relsGo_names h.1.1.2.1 x hx)⟩
theorem weak_of_R {s : GSym} (h : symOk s = true) : weakSym s := by
  simp only [symOk, relsOk, Bool.and_eq_true, decide_eq_true_eq] at h
  exact ⟨isName_le h.1.1.1.1.1.1.1.1.1.1, h.1.2.2, h.2, fun x hx => isName_le (relsGo_names h.1.2.1 x hx)⟩
def weakObj (o : GObj) : Prop := o.syms.length ≤ 64 ∧ ∀ s ∈ o.syms, weakSym s
theorem weakObj_of {o : GObj} (h : mayP o = true ∨ mayOk o = true) : weakObj o := by
  rcases h with h | h
  · simp only [mayP, Bool.and_eq_true, decide_eq_true_eq] at h
    exact ⟨h.2, fun s hs => weak_of_P (symsGo_each _ _ h.1.1 s hs)⟩
  · simp only [mayOk, Bool.and_eq_true, decide_eq_true_eq] at h
    exact ⟨h.2, fun s hs => weak_of_R (symsGoR_each _ _ h.1.1 s hs)⟩
theorem relS_nonneg (x : GRel) : 0 ≤ relS x := by unfold relS; omega
theorem symS_ge (s : GSym) : 0 ≤ symS s ∧ (s.bytes.size : Int) / 64 ≤ symS s := by
  have := sumI_nonneg (f := relS) (l := s.rels.take 1100) (fun x _ => relS_nonneg x)
  unfold symS
  omega
theorem symS_le {s : GSym} (h : weakSym s) (hb : s.bytes.size ≤ 140737488355328) : symS s ≤ 2199023260000 := by
  obtain ⟨h1, h2, h3, h4⟩ := h
  have := sumI_le (f := relS) (c := 0) (l := s.rels.take 1100) (fun x hx => by have := h4 x (List.mem_of_mem_take hx); unfold relS; omega)
  unfold symS
  omega
theorem objS_ge (o : GObj) : 0 ≤ objS o := by
  have := sumI_nonneg (f := symS) (l := o.syms.take 200) (fun x _ => (symS_ge x).1)
  unfold objS; omega
theorem objS_le {o : GObj} (h : weakObj o) (hb : ∀ s ∈ o.syms, s.bytes.size ≤ 140737488355328) : objS o ≤ 140737488700000 := by
  obtain ⟨h1, h2⟩ := h
  have := sumI_le (f := symS) (c := 2199023260000) (l := o.syms.take 200) (fun x hx => symS_le (h2 x (List.mem_of_mem_take hx)) (hb x (List.mem_of_mem_take hx)))
  have hl := List.length_take_le 200 o.syms
  have hl2 : (o.syms.take 200).length ≤ o.syms.length := List.length_take_le' 200 o.syms
  unfold objS
  omega
def ObjsSz (l : List GObj) : Prop := ∀ o ∈ l, ∀ s ∈ o.syms, s.bytes.size ≤ 140737488355328
theorem small_bytes32 {l : List GObj} (hL : largeB l = false) (hsz : ObjsSz l) (hw : ∀ o ∈ l, weakObj o) : ∀ o ∈ l, ∀ s ∈ o.syms, s.bytes.size < 4294967296 := by
  intro o ho s hs
  unfold largeB at hL
  simp only [Bool.or_eq_false_iff, decide_eq_false_iff_not] at hL
  obtain ⟨h1, h2⟩ := hL
  have hlen : l.length ≤ 20 := by omega
  have ht : l.take 40 = l := List.take_of_length_le (by omega)
  have hsum := sumI_le (f := objS) (c := 140737488700000) (l := l.take 40) (fun x hx => objS_le (hw x (List.mem_of_mem_take hx)) (hsz x (List.mem_of_mem_take hx)))
  have hge := sumI_nonneg (f := objS) (l := l.take 40) (fun x _ => objS_ge x)
  rw [ht] at hsum hge
  have hw64 : wrap64 (largeSum l) = largeSum l := by
    refine IntWalk.wrap64_in _ ⟨?_, ?_⟩ <;> unfold largeSum <;> rw [ht] <;> omega
  rw [hw64] at h2
  unfold largeSum at h2
  rw [ht] at h2
  have ho1 := sumI_mem (f := objS) (fun x _ => objS_ge x) ho
  have hs1 : symS s ≤ sumI symS (o.syms.take 200) := by
    rw [List.take_of_length_le (by have := (hw o ho).1; omega)]
    exact sumI_mem (fun x _ => (symS_ge x).1) hs
  have hs2 := (symS_ge s).2
  have he : objS o = (o.syms.length : Int) + sumI symS (o.syms.take 200) := rfl
  omega
theorem may_same {l : List GObj} (hL : largeB l = false) (hsz : ObjsSz l) : mayAll l = mayAllR l := by
  by_cases hw : ∀ o ∈ l, weakObj o
  · have h := small_bytes32 hL hsz hw
    unfold mayAll mayAllR
    rw [Bool.and_comm]
    congr 1
    rw [Bool.eq_iff_iff, List.all_eq_true, List.all_eq_true]
    exact ⟨fun q o ho => by rw [← mayP_eq (h o ho)]; exact q o ho, fun q o ho => by rw [mayP_eq (h o ho)]; exact q o ho⟩
  · obtain ⟨o, ho⟩ := Classical.not_forall.1 hw
    obtain ⟨hm, hn⟩ := Classical.not_imp.1 ho
    have h1 : mayP o = false := by
      cases h : mayP o with
      | false => rfl
      | true => exact absurd (weakObj_of (.inl h)) hn
    have h2 : mayOk o = false := by
      cases h : mayOk o with
      | false => rfl
      | true => exact absurd (weakObj_of (.inr h)) hn
    have h3 : l.all mayP = false := by rw [List.all_eq_false]; exact ⟨o, hm, by simp [h1]⟩
    have h4 : l.all mayOk = false := by rw [List.all_eq_false]; exact ⟨o, hm, by simp [h2]⟩
    simp [mayAll, mayAllR, h3, h4]
theorem begin_same {l : List GObj} (hL : largeB l = false) (hsz : ObjsSz l) : beginRR l = beginR l := by
  unfold beginR beginRR
  (rw [may_same hL hsz]) <;> rfl
theorem findAll_same {l : List GObj} (hL : largeB l = false) (hsz : ObjsSz l) (i : Int) (n : List UInt8) : findAllR l i n = findAll l i n := by
  unfold findAll findAllR
  (rw [begin_same hL hsz]) <;> rfl
theorem objsSz_of {w : World} {v : Value} {l : List GObj} (h : ObjsAt w v l) : ObjsSz l := by
  obtain ⟨p, cap, b, o, -, -, -, -, hc⟩ := h
  intro x hx s hs
  obtain ⟨i, hi, rfl⟩ := List.mem_iff_getElem.1 hx
  obtain ⟨vs, -, -, -, ⟨p', cap', b', o', -, -, -, -, hc'⟩, -⟩ := hc i hi
  obtain ⟨k, hk, rfl⟩ := List.mem_iff_getElem.1 hs
  obtain ⟨vr, vn, -, -, -, -, -, -, -, -, -, -, -, -, -, -, hb⟩ := hc' k hk
  exact hb
end Go.Proofs.YtdjgkmpjhpnkeaaGreatDoor
namespace Go.Proofs.YtdjgkmpjhpnkeaaGreatDoor
open Go.RowKit
set_option maxRecDepth 100000 in
set_option maxHeartbeats 2000000 in
theorem large_any (v : Value) (l : List GObj) (w : World) (h : ObjsAt w v l) :
    Calls Tryz.prog 48 #[v] w fun e w' => e = .returned (.bool (largeB l)) ∧ Below w.heap.size w w' := by
  obtain ⟨p, cap, b, o, rfl, hcap, hmax, hp, hc⟩ := h
  have HC := Lib.hid hc; clear hc
  have HP := Lib.hid hp; clear hp
  go_enter Tryz.func48, Tryz.ntmps48
  go_wp2
  go_loopw [3, 4] (fun v3 v4 wr => ∃ (i : Nat) (n : Int), i ≤ l.length ∧ i ≤ 40 ∧ v4 = .int .i64 i ∧ v3 = .int .i64 n ∧ n = wrap64 (sumI objS (l.take i)) ∧ Below w.heap.size w wr) (fun _ v4 _ => l.length - (intOf v4).toNat)
  case atStart => exact ⟨0, 0, Nat.zero_le _, by omega, rfl, rfl, by simp [sumI, wrap64], Below.refl _ _⟩
  case round =>
    obtain ⟨i, n, hi, hi40, rfl, rfl, hn, hbel⟩ := hrel
    have HN := Lib.hid hn; clear hn
    have HB := Lib.hid hbel; clear hbel
    by_cases hlt : i < l.length ∧ i < 40
    · obtain ⟨hlt1, hlt2⟩ := hlt
      obtain rfl := HP.out (by omega)
      obtain ⟨vs, g0, g1, g2, hin⟩ := HC.out i hlt1
      replace g2 := cell_keep HB.out g0 g2
      have g0' := size_keep HB.out g0
      have c2 : Hid (w.cell? ⟨b, o + i * 2 + 1, none⟩ = some vs) := by have := g2; rwa [HB.out.cell (p := ⟨b, o + i * 2 + 1, none⟩) g0] at this
      generalize hx : l[i] = x at g1 hin
      obtain ⟨xn, xs⟩ := x
      simp only [] at g1 hin
      have HX := Lib.hid hx; clear hx
      obtain ⟨⟨pS, capS, bS, oS, rfl, hcapS, hmaxS, hpS, hcS⟩, hnmx⟩ := hin
      have HCS := Lib.hid hcS; clear hcS
      have HPS := Lib.hid hpS; clear hpS
      clear g1
      go_wp2
      obtain ⟨wo, rfl⟩ : ∃ wo : World, wo = wr := ⟨_, rfl⟩
      go_loopw [3, 5] (fun v3 v5 wr => ∃ (k : Nat) (m : Int), k ≤ xs.length ∧ k ≤ 200 ∧ v5 = .int .i64 k ∧ v3 = .int .i64 m ∧ m = wrap64 (sumI objS (l.take i) + xs.length + sumI symS (xs.take k)) ∧ Below w.heap.size w wr) (fun _ v5 _ => xs.length - (intOf v5).toNat)
      case atStart => exact ⟨0, _, Nat.zero_le _, by omega, rfl, rfl, by rw [HN.out, wrap64_add_left]; simp [sumI], HB.out⟩
      case round =>
        clear g2 g0' HB
        obtain ⟨k, m, hk, hk2, rfl, rfl, hm, hbel⟩ := hrel
        have HM := Lib.hid hm; clear hm
        have HB := Lib.hid hbel; clear hbel
        have g2 := cell_keep HB.out g0 c2.out
        have g0' := size_keep HB.out g0
        by_cases hlk : k < xs.length ∧ k < 200
        · obtain ⟨hlk1, hlk2⟩ := hlk
          obtain rfl := HPS.out (by omega)
          obtain ⟨vr, vn, s0, s1, s2, s3, s4, s5, s6, s7, hsin⟩ := symR_keeps _ _ _ _ _ HB.out (HCS.out k hlk1)
          generalize hy : xs[k] = y at s1 s2 s3 s4 s5 s6 s7 hsin
          obtain ⟨yn, yb, yk, ys, yy, yr, yt⟩ := y
          simp only [] at s1 s2 s3 s4 s5 s6 s7 hsin
          have HY := Lib.hid hy; clear hy
          obtain ⟨⟨pR, capR, bR, oR, rfl, hcapR, hmaxR, hpR, hcR⟩, ⟨pT, capT, bT, oT, rfl, hcapT, hmaxT, -, -⟩, -, -, -, hny, hby⟩ := hsin
          simp only [] at hny hby hmaxR hmaxT
          have HCR := Lib.hid hcR; clear hcR
          have HPR := Lib.hid hpR; clear hpR
          have HBW := Lib.hid (HB.out.alloc HB.out.size (.cells #[.string yn, .int .u8 yb, .int .u8 yk, .int .u32 ys, .string yy, .slice pR yr.length capR, .slice pT yt.length capT] 72))
          go_wp2
          go_loop [3, 7] (fun v3 v7 => ∃ (j : Nat) (q : Int), j ≤ yr.length ∧ j ≤ 1100 ∧ v7 = .int .i64 j ∧ v3 = .int .i64 q ∧ q = wrap64 (sumI objS (l.take i) + xs.length + sumI symS (xs.take k) + ((yr.length : Int) / 4 + (yt.length : Int) / 4 + (yy.size : Int) / 64 + (yn.size : Int) / 16) + sumI relS (yr.take j))) (fun _ v7 => yr.length - (intOf v7).toNat)
          case atStart =>
            refine ⟨0, _, Nat.zero_le _, by omega, rfl, rfl, ?_⟩
            rw [HM.out, wrap5]
            simp only [sumI, List.take_zero]
            congr 1; omega
          case round =>
            obtain ⟨j, q, hj, hj2, rfl, rfl, hq⟩ := hrel
            have HQ := Lib.hid hq; clear hq
            by_cases hlj : j < yr.length ∧ j < 1100
            · obtain ⟨hlj1, hlj2⟩ := hlj
              obtain rfl := HPR.out (by omega)
              obtain ⟨r0, r1, r2, r3, r4, r5, r6, r7, r8⟩ := HCR.out j hlj1
              generalize hz : yr[j] = z at r1 r2 r3 r4 r5 r6 r7 r8
              obtain ⟨zo, zk, zn, za⟩ := z
              simp only [] at r1 r2 r3 r4 r5 r6 r7 r8
              have HZ := Lib.hid hz; clear hz
              go_wp2
              go_round
              case rel =>
                refine ⟨j + 1, _, by omega, by omega, by go_num, rfl, ?_⟩
                rw [HQ.out, wrap64_add_left, sumI_take_succ relS hlj1 HZ.out]
                simp only [relS]
                congr 1; omega
              case measure => simp [intOf]; omega
            · have HTE := Lib.hid (take_end hj hj2 hlj)
              have HFQ : Hid (q = wrap64 (sumI objS (l.take i) + xs.length + sumI symS (xs.take (k + 1)))) := by
                rw [HQ.out, HTE.out, sumI_take_succ symS hlk1 HY.out]
                simp only [symS]
                congr 1; omega
              by_cases hj1 : j < yr.length
              · have hj3 : ¬ j < 1100 := fun h => hlj ⟨hj1, h⟩
                clear hlj
                go_wp2
                go_roundw
                case rel => exact ⟨k + 1, _, by omega, by omega, by go_num, rfl, HFQ.out, HBW.out⟩
                case measure => simp [intOf]; omega
              · clear hlj
                go_wp2
                go_roundw
                case rel => exact ⟨k + 1, _, by omega, by omega, by go_num, rfl, HFQ.out, HBW.out⟩
                case measure => simp [intOf]; omega
        · have HTE := Lib.hid (take_end hk hk2 hlk)
          have HFM : Hid (m = wrap64 (sumI objS (l.take (i + 1)))) := by
            rw [HM.out, HTE.out, sumI_take_succ objS hlt1 HX.out]
            simp only [objS]
            congr 1; omega
          by_cases hk1 : k < xs.length
          · have hk3 : ¬ k < 200 := fun h => hlk ⟨hk1, h⟩
            clear hlk
            go_wp2
            go_roundw
            case rel => exact ⟨i + 1, _, by omega, by omega, by go_num, rfl, HFM.out, HB.out⟩
            case measure => simp [intOf]; omega
          · clear hlk
            go_wp2
            go_roundw
            case rel => exact ⟨i + 1, _, by omega, by omega, by go_num, rfl, HFM.out, HB.out⟩
            case measure => simp [intOf]; omega
    · have HTE := Lib.hid (take_end hi hi40 hlt)
      have HFN : Hid (n = wrap64 (largeSum l)) := by rw [HN.out, HTE.out]; rfl
      by_cases hi1 : i < l.length
      · have hi3 : ¬ i < 40 := fun h => hlt ⟨hi1, h⟩
        clear hlt
        go_wp2
        all_goals
          go_ret
          exact ⟨ret_bool (by unfold largeB; rw [← HFN.out] <;> (go_light; simp; try omega)), HB.out⟩
      · clear hlt
        go_wp2
        all_goals
          go_ret
          exact ⟨ret_bool (by unfold largeB; rw [← HFN.out] <;> (go_light; simp; try omega)), HB.out⟩
end Go.Proofs.YtdjgkmpjhpnkeaaGreatDoor
namespace Go.Proofs.YtdjgkmpjhpnkeaaGreatDoor
open Go.RowKit
def relN (s : GSym) : Int := s.rels.length
def objN (o : GObj) : Int := (o.syms.length : Int) + sumI relN (o.syms.take 70)
def sum13 (l : List GObj) : Int := sumI objN (l.take 20)
def large13B (l : List GObj) : Bool := largeB l || decide (100 < sum13 l)
set_option maxRecDepth 100000 in
set_option maxHeartbeats 2000000 in
theorem large13_any (v : Value) (l : List GObj) (w : World) (h : ObjsAt w v l) :
    Calls Tryz.prog 10 #[v] w fun e w' => e = .returned (.bool (large13B l)) ∧ Below w.heap.size w w' := by
  have HL := Lib.hid (large_any v l w h)
  obtain ⟨p, cap, b, o, rfl, hcap, hmax, hp, hc⟩ := h
  have HC := Lib.hid hc; clear hc
  have HP := Lib.hid hp; clear hp
  go_enter Tryz.func10, Tryz.ntmps10
  go_wp2
  go_loop [3, 4] (fun v3 v4 => ∃ (i : Nat) (n : Int), i ≤ l.length ∧ i ≤ 20 ∧ v4 = .int .i64 i ∧ v3 = .int .i64 n ∧ n = sumI objN (l.take i) ∧ 0 ≤ n ∧ n ≤ i * 10000000000000000) (fun _ v4 => l.length - (intOf v4).toNat)
  case atStart => exact ⟨0, 0, Nat.zero_le _, by omega, rfl, rfl, by simp [sumI], by omega, by omega⟩
  case round =>
    obtain ⟨i, n, hi, hi40, rfl, rfl, hn, hn0, hn1⟩ := hrel
    have HN := Lib.hid hn; clear hn
    by_cases hlt : i < l.length ∧ i < 20
    · obtain ⟨hlt1, hlt2⟩ := hlt
      obtain rfl := HP.out (by omega)
      obtain ⟨vs, g0, g1, g2, hin⟩ := HC.out i hlt1
      generalize hx : l[i] = x at g1 hin
      obtain ⟨xn, xs⟩ := x
      simp only [] at g1 hin
      have HX := Lib.hid hx; clear hx
      obtain ⟨⟨pS, capS, bS, oS, rfl, hcapS, hmaxS, hpS, hcS⟩, hnmx⟩ := hin
      have HCS := Lib.hid hcS; clear hcS
      have HPS := Lib.hid hpS; clear hpS
      clear g1
      simp only [] at hmaxS hcapS
      go_wp2
      go_loop [3, 5] (fun v3 v5 => ∃ (k : Nat) (m : Int), k ≤ xs.length ∧ k ≤ 70 ∧ v5 = .int .i64 k ∧ v3 = .int .i64 m ∧ m = n + xs.length + sumI relN (xs.take k) ∧ 0 ≤ m ∧ m ≤ n + xs.length + k * 140737488355328) (fun _ v5 => xs.length - (intOf v5).toNat)
      case atStart => exact ⟨0, _, Nat.zero_le _, by omega, rfl, rfl, by simp [sumI], by omega, by omega⟩
      case round =>
        obtain ⟨k, m, hk, hk2, rfl, rfl, hm, hm0, hm1⟩ := hrel
        have HM := Lib.hid hm; clear hm
        by_cases hlk : k < xs.length ∧ k < 70
        · obtain ⟨hlk1, hlk2⟩ := hlk
          obtain rfl := HPS.out (by omega)
          obtain ⟨vr, vn, s0, s1, s2, s3, s4, s5, s6, s7, hsin⟩ := HCS.out k hlk1
          generalize hy : xs[k] = y at s1 s2 s3 s4 s5 s6 s7 hsin
          obtain ⟨yn, yb, yk, ys, yy, yr, yt⟩ := y
          simp only [] at s1 s2 s3 s4 s5 s6 s7 hsin
          have HY := Lib.hid hy; clear hy
          obtain ⟨⟨pR, capR, bR, oR, rfl, hcapR, hmaxR, -, -⟩, -⟩ := hsin
          simp only [] at hmaxR s6
          clear s1 s2 s3 s4 s5 s7
          go_wp2
          go_round
          case rel =>
            refine ⟨k + 1, _, by omega, by omega, by go_num, rfl, ?_, by omega, by omega⟩
            rw [HM.out, sumI_take_succ relN hlk1 HY.out]
            simp only [relN]; omega
          case measure => simp [intOf]; omega
        · have HFM : Hid (m = sumI objN (l.take (i + 1))) := by
            rw [HM.out, take_end hk hk2 hlk, sumI_take_succ objN hlt1 HX.out, HN.out]
            have he : objN ⟨xn, xs⟩ = (xs.length : Int) + sumI relN (xs.take 70) := rfl
            rw [he]; unfold Hid; omega
          by_cases hk1 : k < xs.length
          · have hk3 : ¬ k < 70 := fun h => hlk ⟨hk1, h⟩
            clear hlk
            go_wp2
            go_round
            case rel => exact ⟨i + 1, _, by omega, by omega, by go_num, rfl, HFM.out, by omega, by omega⟩
            case measure => simp [intOf]; omega
          · clear hlk
            go_wp2
            go_round
            case rel => exact ⟨i + 1, _, by omega, by omega, by go_num, rfl, HFM.out, by omega, by omega⟩
            case measure => simp [intOf]; omega
    · have HF : Hid (n = sum13 l) := by rw [Hid, HN.out, take_end hi hi40 hlt]; rfl
      have HB : Hid (large13B l = (largeB l || decide (100 < n))) := by rw [Hid, HF.out]; rfl
      cases hLB : largeB l with
      | true =>
        rw [hLB] at HL HB
        clear hLB
        by_cases hi1 : i < l.length
        · have hi3 : ¬ i < 20 := fun h => hlt ⟨hi1, h⟩
          clear hlt
          go_wp2_with (go_at_call 48; refine HL.out.mono ?_; rintro e w1 ⟨rfl, hB1⟩)
          go_ret
          exact ⟨ret_bool (by rw [HB.out]; rfl), hB1⟩
        · clear hlt
          go_wp2_with (go_at_call 48; refine HL.out.mono ?_; rintro e w1 ⟨rfl, hB1⟩)
          go_ret
          exact ⟨ret_bool (by rw [HB.out]; rfl), hB1⟩
      | false =>
        rw [hLB] at HL HB
        clear hLB
        by_cases hi1 : i < l.length
        · have hi3 : ¬ i < 20 := fun h => hlt ⟨hi1, h⟩
          clear hlt
          go_wp2_with (go_at_call 48; refine HL.out.mono ?_; rintro e w1 ⟨rfl, hB1⟩)
          all_goals
            go_ret
            exact ⟨ret_bool (by rw [HB.out]; simp [*]), hB1⟩
        · clear hlt
          go_wp2_with (go_at_call 48; refine HL.out.mono ?_; rintro e w1 ⟨rfl, hB1⟩)
          all_goals
            go_ret
            exact ⟨ret_bool (by rw [HB.out]; simp [*]), hB1⟩
end Go.Proofs.YtdjgkmpjhpnkeaaGreatDoor
namespace Go.Proofs.YtdjgkmpjhpnkeaaGreatDoor
open Go.RowKit Go.Maps Go.WideMaps
theorem small_of {w : World} {v : Value} {l : List GObj} (h : ObjsAt w v l) (hL : large13B l = false) : mayAll l = true → ∀ o ∈ l, ∀ s ∈ o.syms, s.bytes.size < 4294967296 := fun hm => by
  unfold large13B at hL
  simp only [Bool.or_eq_false_iff] at hL
  refine small_bytes32 hL.1 (objsSz_of h) fun o ho => weakObj_of (.inl ?_)
  simp only [mayAll, Bool.and_eq_true, List.all_eq_true] at hm
  exact hm.2 o ho
theorem boxL_sevens {w : World} {b : Nat} {x : GLink} {ve vp vs va : Value} (h : BoxL w b x ve vp vs va) :
    w.cell? ⟨b, 0, none⟩ = some (.int .u32 x.man.pages) ∧ w.cell? ⟨b, 1, none⟩ = some ve ∧ w.cell? ⟨b, 2, none⟩ = some vp ∧ w.cell? ⟨b, 3, none⟩ = some (.bool x.man.cons) ∧ w.cell? ⟨b, 4, none⟩ = some (.int .u32 x.entry) ∧ w.cell? ⟨b, 5, none⟩ = some vs ∧ w.cell? ⟨b, 6, none⟩ = some va := sevens h.1
end Go.Proofs.YtdjgkmpjhpnkeaaGreatDoor
