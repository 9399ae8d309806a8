/- The walk of aediculeref11.Copy. The walks of law11.Large (at one manifest) and law16.Large. -/
import Derived.Test.YtghopakbefageaaGreatBt29
import Derived.Test.YtghopakbefageaaGreatBt14
import Derived.Test.YtghopakbefageaaGreatBt31
import Derived.BigQuiet
namespace Go.Proofs.YtghopakbefageaaGreat
open Go.RowKit Go.Maps
def exCells (x : Int × Int) : List Value := [.int .u32 x.1, .int .u32 x.2]
def sgCells (x : GSeg) : List Value := [.int .u32 x.addr, .int .u8 x.perm, .string x.bytes]
def ptCells (x : Int) : List Value := [.int .u16 x]
theorem ex_len (x : Int × Int) : (exCells x).length = 2 := rfl
theorem sg_len (x : GSeg) : (sgCells x).length = 3 := rfl
theorem pt_len (x : Int) : (ptCells x).length = 1 := rfl
theorem ex_one {l : List (Int × Int)} : ∀ u ∈ l.flatMap exCells, u.oneCell' = true := by
  intro u hu
  obtain ⟨x, _, hx⟩ := List.mem_flatMap.1 hu
  simp only [exCells, List.mem_cons, List.not_mem_nil, or_false] at hx
  rcases hx with rfl | rfl <;> rfl
theorem sg_one {l : List GSeg} : ∀ u ∈ l.flatMap sgCells, u.oneCell' = true := by
  intro u hu
  obtain ⟨x, _, hx⟩ := List.mem_flatMap.1 hu
  simp only [sgCells, List.mem_cons, List.not_mem_nil, or_false] at hx
  rcases hx with rfl | rfl | rfl <;> rfl
theorem pt_one {l : List Int} : ∀ u ∈ l.flatMap ptCells, u.oneCell' = true := by
  intro u hu
  obtain ⟨x, _, hx⟩ := List.mem_flatMap.1 hu
  simp only [ptCells, List.mem_cons, List.not_mem_nil, or_false] at hx
  rcases hx with rfl; rfl
theorem ex_news {w : World} {b o : Nat} {l : List (Int × Int)} (h : ∀ i (hi : i < l.length), ExtR w b (o + i * 2) l[i]) : ∀ j u, (l.flatMap exCells)[j]? = some u → w.cell? ((⟨b, o, none⟩ : Addr).add j) = some u := by
  refine row_news ex_len (by omega) fun i hi j u hu => ?_
  obtain ⟨-, h1, h2, -⟩ := h i hi
  match j, hu with
  | 0, hu => cases hu; exact h1
  | 1, hu => cases hu; exact h2
theorem sg_news {w : World} {b o : Nat} {l : List GSeg} (h : ∀ i (hi : i < l.length), SegR w b (o + i * 3) l[i]) : ∀ j u, (l.flatMap sgCells)[j]? = some u → w.cell? ((⟨b, o, none⟩ : Addr).add j) = some u := by
  refine row_news sg_len (by omega) fun i hi j u hu => ?_
  obtain ⟨-, h1, h2, h3, -⟩ := h i hi
  match j, hu with
  | 0, hu => cases hu; exact h1
  | 1, hu => cases hu; exact h2
  | 2, hu => cases hu; exact h3
theorem pt_news {w : World} {b o : Nat} {l : List Int} (h : ∀ i (hi : i < l.length), PortR w b (o + i * 1) l[i]) : ∀ j u, (l.flatMap ptCells)[j]? = some u → w.cell? ((⟨b, o, none⟩ : Addr).add j) = some u := by
  refine row_news pt_len (by omega) fun i hi j u hu => ?_
  obtain ⟨-, h1, -⟩ := h i hi
  match j, hu with
  | 0, hu => cases hu; exact h1
theorem ex_back {w w0 : World} {v v0 : Value} {base : Nat} {e : TypeId} {l : List (Int × Int)} (h : w.ownsRow base e 2 v l.length (l.flatMap exCells)) (h0 : RowAt 2 ExtR w0 v0 l) : RowAt 2 ExtR w v l := by
  obtain ⟨_, _, _, _, _, _, hm, _, hc⟩ := h0
  exact owned_row ex_len h hm fun g o i hi hg hcell => ⟨hg, hcell 0 _ (by omega) rfl, hcell 1 _ (by omega) rfl, (hc i hi).2.2.2⟩
theorem sg_back {w w0 : World} {v v0 : Value} {base : Nat} {e : TypeId} {l : List GSeg} (h : w.ownsRow base e 3 v l.length (l.flatMap sgCells)) (h0 : RowAt 3 SegR w0 v0 l) : RowAt 3 SegR w v l := by
  obtain ⟨_, _, _, _, _, _, hm, _, hc⟩ := h0
  exact owned_row sg_len h hm fun g o i hi hg hcell => ⟨hg, hcell 0 _ (by omega) rfl, hcell 1 _ (by omega) rfl, hcell 2 _ (by omega) rfl, (hc i hi).2.2.2.2⟩
theorem pt_back {w w0 : World} {v v0 : Value} {base : Nat} {e : TypeId} {l : List Int} (h : w.ownsRow base e 1 v l.length (l.flatMap ptCells)) (h0 : RowAt 1 PortR w0 v0 l) : RowAt 1 PortR w v l := by
  obtain ⟨_, _, _, _, _, _, hm, _, hc⟩ := h0
  exact owned_row pt_len h hm fun g o i hi hg hcell => ⟨hg, hcell 0 _ (by omega) rfl, (hc i hi).2.2⟩
theorem info_ext36 : (Tryz.prog.info? 100).map (fun i => (i.zero, i.size, i.bytes)) = some (some (.agg #[.int .u32 0, .int .u32 0]), 2, 8) := by kernel_rfl
theorem info_seg36 : (Tryz.prog.info? 45).map (fun i => (i.zero, i.size, i.bytes)) = some (some (.agg #[.int .u32 0, .int .u8 0, .string ⟨#[]⟩]), 3, 24) := by kernel_rfl
theorem info_prt36 : (Tryz.prog.info? 101).map (fun i => (i.zero, i.size, i.bytes)) = some (some (.int .u16 0), 1, 2) := by kernel_rfl
/-- a block is written in one cell -/
theorem set_block {w : World} {b : Nat} {cs : Array Value} {t : TypeId} {c : Nat × Nat} (h : w.heap[b]? = some (.cells cs t c)) (k : Nat) (u : Value) : (w.setCell ⟨b, k, none⟩ u).heap[b]? = some (.cells (cs.setIfInBounds k u) t c) := by
  simp [World.setCell, Array.getElem?_modify, h]
def manA (m : GMan) (v1 v2 : Value) : Array Value := #[.int .u32 m.pages, v1, v2, .bool m.cons]
set_option maxHeartbeats 4000000 in
set_option maxRecDepth 100000 in
theorem rcopy11_any (m : GMan) (va vb : Value) (w : World) (h : ManAt w m va vb) (hl1 : m.exts.length ≤ 100000) (hl2 : m.ports.length ≤ 100000) :
    Calls Tryz.prog 22 #[.agg #[.int .u32 m.pages, va, vb, .bool m.cons]] w fun e w' => ∃ va' vb', e = .returned (.agg #[.int .u32 m.pages, va', vb', .bool m.cons]) ∧ (w'.ownsRow w.heap.size 100 2 va' m.exts.length (m.exts.flatMap exCells) ∧ w'.ownsRow w.heap.size 101 1 vb' m.ports.length (m.ports.flatMap ptCells)) ∧ Below w.heap.size w w' := by
  obtain ⟨mp, me, mq, mc⟩ := m
  obtain ⟨⟨p1, c1, b1, o1, rfl, -, -, hp1, hc1⟩, ⟨p2, c2, b2, o2, rfl, -, -, hp2, hc2⟩, -⟩ := h
  simp only [] at *
  have HP1 := Lib.hid hp1; clear hp1
  have HP2 := Lib.hid hp2; clear hp2
  have HC1 := Lib.hid hc1; clear hc1
  have HC2 := Lib.hid hc2; clear hc2
  obtain ⟨iE, r0, r1, r2, r3⟩ := info_parts info_ext36
  obtain ⟨iP, s0, s1, s2, s3⟩ := info_parts info_prt36
  have HIE := Lib.hid (And.intro r0 (And.intro r1 (And.intro r2 r3)))
  have HIP := Lib.hid (And.intro s0 (And.intro s1 (And.intro s2 s3)))
  clear r0 r1 r2 r3 s0 s1 s2 s3
  have HB2 : Hid (Below w.heap.size w ((w.alloc (.cells #[.int .u32 mp, .slice p1 me.length c1, .slice p2 mq.length c2, .bool mc] 26)).alloc (.cells #[.int .u32 0, .slice none 0 0, .slice none 0 0, .bool false] 26))) := Lib.hid ((alloc_old w _).alloc (by simp) _)
  have HX2 : Hid (((w.alloc (.cells #[.int .u32 mp, .slice p1 me.length c1, .slice p2 mq.length c2, .bool mc] 26)).alloc (.cells #[.int .u32 0, .slice none 0 0, .slice none 0 0, .bool false] 26)).heap[w.heap.size]? = some (.cells #[.int .u32 mp, .slice p1 me.length c1, .slice p2 mq.length c2, .bool mc] 26 (0, 0))) := Lib.hid ((Below.heap_alloc _ _ _ (by simp)).trans (new_block w _))
  have HZ2 : Hid (((w.alloc (.cells #[.int .u32 mp, .slice p1 me.length c1, .slice p2 mq.length c2, .bool mc] 26)).alloc (.cells #[.int .u32 0, .slice none 0 0, .slice none 0 0, .bool false] 26)).heap[w.heap.size + 1]? = some (.cells #[.int .u32 0, .slice none 0 0, .slice none 0 0, .bool false] 26 (0, 0))) := Lib.hid (by
    have := new_block (w.alloc (.cells #[.int .u32 mp, .slice p1 me.length c1, .slice p2 mq.length c2, .bool mc] 26)) (.cells #[.int .u32 0, .slice none 0 0, .slice none 0 0, .bool false] 26)
    simpa using this)
  have hz2 : w.heap.size + 1 < ((w.alloc (.cells #[.int .u32 mp, .slice p1 me.length c1, .slice p2 mq.length c2, .bool mc] 26)).alloc (.cells #[.int .u32 0, .slice none 0 0, .slice none 0 0, .bool false] 26)).heap.size := by simp
  go_enter Tryz.func22, Tryz.ntmps22
  go_wp2_with (at_builtin; refine wpList_append_src rfl _ _ 23 rfl w.heap.size 100 iE _ 2 8 Tryz.underlying23 HIE.out.1 HIE.out.2.1 HIE.out.2.2.1 HIE.out.2.2.2 rfl (by decide) (.slice none 0 0) 0 [] rfl (World.ownsRow_nil _ _ _ _) p1 me.length c1 b1 o1 (me.flatMap exCells) rfl (fun h0 => HP1.out h0) (by rw [flat_len ex_len]) (fun _ => ex_news fun i hi => extR_keeps _ _ _ _ _ HB2.out (HC1.out i hi)) ex_one (by unfold maxLen; omega) (by omega) (by omega) ?_)
  intro v5 w5 hown5 hgrow5
  have HO5 : Hid (w5.ownsRow w.heap.size 100 2 v5 me.length (me.flatMap exCells)) := Lib.hid (by simpa using hown5)
  have HX5 := Lib.hid ((hgrow5.block w.heap.size (by omega) (fun e => by cases e)).trans HX2.out)
  have HZ5 := Lib.hid ((hgrow5.block (w.heap.size + 1) (by omega) (fun e => by cases e)).trans HZ2.out)
  have HB5 : Hid (Below w.heap.size w w5) := Lib.hid (HB2.out.grown hgrow5 (by omega) (fun k hk => by cases hk))
  have hz5 : w.heap.size + 1 < w5.heap.size := by have := hgrow5.size; omega
  obtain ⟨q5, d5, rfl⟩ := own_shape HO5.out
  clear hown5 hgrow5 HX2 HZ2 HB2 hz2
  have a1 := Lib.cell_of_heap HX5.out 1
  have a2 := Lib.cell_of_heap HX5.out 2
  have f1 := Lib.frozen_of_heap HX5.out 1
  have HB6 : Hid (Below w.heap.size w (w5.setCell ⟨w.heap.size, 1, none⟩ (.slice q5 me.length d5))) := Lib.hid (HB5.out.setCell (Nat.le_refl _) _)
  have HX6 := Lib.hid (set_block HX5.out 1 (.slice q5 me.length d5))
  have HZ6 : Hid ((w5.setCell ⟨w.heap.size, 1, none⟩ (.slice q5 me.length d5)).heap[w.heap.size + 1]? = some (.cells #[.int .u32 0, .slice none 0 0, .slice none 0 0, .bool false] 26 (0, 0))) := Lib.hid ((Below.heap_setCell _ _ _ _ (by simp)).trans HZ5.out)
  have HO6 : Hid ((w5.setCell ⟨w.heap.size, 1, none⟩ (.slice q5 me.length d5)).ownsRow w.heap.size 100 2 (.slice q5 me.length d5) me.length (me.flatMap exCells)) := Lib.hid (own_congr HO5.out fun g hg => Below.heap_setCell _ _ _ _ (fun e => own_ne_box HO5.out HX5.out (by decide) (by rw [hg, e])))
  have hz6 : w.heap.size + 1 < (w5.setCell ⟨w.heap.size, 1, none⟩ (.slice q5 me.length d5)).heap.size := by simp; omega
  go_wp2_with (at_builtin; refine wpList_append_src rfl _ _ 24 rfl w.heap.size 101 iP _ 1 2 Tryz.underlying24 HIP.out.1 HIP.out.2.1 HIP.out.2.2.1 HIP.out.2.2.2 rfl (by decide) (.slice none 0 0) 0 [] rfl (World.ownsRow_nil _ _ _ _) p2 mq.length c2 b2 o2 (mq.flatMap ptCells) rfl (fun h0 => HP2.out h0) (by rw [flat_len pt_len]) (fun _ => pt_news fun i hi => portR_keeps _ _ _ _ _ HB6.out (HC2.out i hi)) pt_one (by unfold maxLen; omega) (by omega) (by omega) ?_)
  intro v7 w7 hown7 hgrow7
  have HO7 : Hid (w7.ownsRow w.heap.size 101 1 v7 mq.length (mq.flatMap ptCells)) := Lib.hid (by simpa using hown7)
  have HX7 := Lib.hid ((hgrow7.block w.heap.size (by omega) (fun e => by cases e)).trans HX6.out)
  have HZ7 := Lib.hid ((hgrow7.block (w.heap.size + 1) (by omega) (fun e => by cases e)).trans HZ6.out)
  have HO57 := Lib.hid (own_congr HO6.out fun g hg => hgrow7.block g (HO6.out.lt g hg).2 (fun e => by cases e))
  have HB7 : Hid (Below w.heap.size w w7) := Lib.hid (HB6.out.grown hgrow7 (by omega) (fun k hk => by cases hk))
  have hz7 : w.heap.size + 1 < w7.heap.size := by have := hgrow7.size; omega
  obtain ⟨q7, d7, rfl⟩ := own_shape HO7.out
  clear hown7 hgrow7 HX6 HZ6 HB6 HO5 HO6 HX5 HZ5 HB5 hz5 hz6 a1 a2 f1
  have HX8 := Lib.hid (set_block HX7.out 2 (.slice q7 mq.length d7))
  have a0 : w7.cell? ⟨w.heap.size, 0, none⟩ = some (.int .u32 mp) := Lib.cell_of_heap HX7.out 0
  have a1 : w7.cell? ⟨w.heap.size, 1, none⟩ = some (.slice q5 me.length d5) := Lib.cell_of_heap HX7.out 1
  have a2 : w7.cell? ⟨w.heap.size, 2, none⟩ = some (.slice p2 mq.length c2) := Lib.cell_of_heap HX7.out 2
  have a3 : w7.cell? ⟨w.heap.size, 3, none⟩ = some (.bool mc) := Lib.cell_of_heap HX7.out 3
  have z0 : w7.cell? ⟨w.heap.size + 1, 0, none⟩ = some (.int .u32 0) := Lib.cell_of_heap HZ7.out 0
  have z1 : w7.cell? ⟨w.heap.size + 1, 1, none⟩ = some (.slice none 0 0) := Lib.cell_of_heap HZ7.out 1
  have z2 : w7.cell? ⟨w.heap.size + 1, 2, none⟩ = some (.slice none 0 0) := Lib.cell_of_heap HZ7.out 2
  have z3 : w7.cell? ⟨w.heap.size + 1, 3, none⟩ = some (.bool false) := Lib.cell_of_heap HZ7.out 3
  have f2 := Lib.frozen_of_heap HX7.out 2
  have g0 := Lib.frozen_of_heap HZ7.out 0
  have g1 := Lib.frozen_of_heap HZ7.out 1
  have g2 := Lib.frozen_of_heap HZ7.out 2
  have g3 := Lib.frozen_of_heap HZ7.out 3
  have HBLK : Hid (∀ (g : Nat) (u0 u1 u2 u3 u4 : Value), g ≠ w.heap.size → g ≠ w.heap.size + 1 → (((((w7.setCell ⟨w.heap.size, 2, none⟩ u0).setCell ⟨w.heap.size + 1, 0, none⟩ u1).setCell ⟨w.heap.size + 1, 1, none⟩ u2).setCell ⟨w.heap.size + 1, 2, none⟩ u3).setCell ⟨w.heap.size + 1, 3, none⟩ u4).heap[g]? = w7.heap[g]?) := Lib.hid fun g u0 u1 u2 u3 u4 h1 h2 => by
    rw [Below.heap_setCell _ _ _ _ h2, Below.heap_setCell _ _ _ _ h2, Below.heap_setCell _ _ _ _ h2, Below.heap_setCell _ _ _ _ h2, Below.heap_setCell _ _ _ _ h1]
  go_wp2_with fail
  refine bodyPost_ret (v := .agg #[.int .u32 mp, .slice q5 me.length d5, .slice q7 mq.length d7, .bool mc]) (by simp [results, Tryz.results22, go_sem, z0, z1, z2, z3]) rfl ?_
  refine ⟨_, _, rfl, ⟨?_, ?_⟩, ?_⟩
  · refine own_congr HO57.out fun g hg => HBLK.out g _ _ _ _ _ ?_ ?_
    · rintro rfl; exact own_ne_box HO57.out HX7.out (by decide) hg
    · rintro rfl; exact own_ne_box HO57.out HZ7.out (by decide) hg
  · refine own_congr HO7.out fun g hg => HBLK.out g _ _ _ _ _ ?_ ?_
    · rintro rfl; exact own_ne_box HO7.out HX7.out (by decide) hg
    · rintro rfl; exact own_ne_box HO7.out HZ7.out (by decide) hg
  · exact ((((HB7.out.setCell (Nat.le_refl _) _).setCell (by simp) _).setCell (by simp) _).setCell (by simp) _).setCell (by simp) _
def CopyPost (x : GImg) (w : World) (e : Ending) (w' : World) : Prop := ∃ ve vp vs, e = .returned (imgV x ve vp vs) ∧ ImgAt w' x ve vp vs ∧ Below w.heap.size w w'
set_option maxHeartbeats 4000000 in
set_option maxRecDepth 100000 in
theorem rcopy16_any (x : GImg) (ve vp vs : Value) (w : World) (h : ImgAt w x ve vp vs) (hl1 : x.man.exts.length ≤ 100000) (hl2 : x.man.ports.length ≤ 100000) (hl3 : x.segs.length ≤ 100000) :
    Calls Tryz.prog 6 #[imgV x ve vp vs] w (CopyPost x w) := by
  have HM := Lib.hid h
  have HCP : Hid (∀ W, Below w.heap.size w W → Calls Tryz.prog 22 #[.agg #[.int .u32 x.man.pages, ve, vp, .bool x.man.cons]] W fun e w' => ∃ va' vb', e = .returned (.agg #[.int .u32 x.man.pages, va', vb', .bool x.man.cons]) ∧ (w'.ownsRow W.heap.size 100 2 va' x.man.exts.length (x.man.exts.flatMap exCells) ∧ w'.ownsRow W.heap.size 101 1 vb' x.man.ports.length (x.man.ports.flatMap ptCells)) ∧ Below W.heap.size W w') := fun W hW => rcopy11_any x.man ve vp W (h.1.keep hW) hl1 hl2
  unfold imgV at *
  obtain ⟨⟨⟨p1, c1, _, _, rfl, -⟩, ⟨p2, c2, _, _, rfl, -⟩, -⟩, ⟨p3, c3, b3, o3, rfl, -, -, hp3, hc3⟩, -⟩ := h
  have HP3 := Lib.hid hp3; clear hp3
  have HC3 := Lib.hid hc3; clear hc3
  obtain ⟨iS, r0, r1, r2, r3⟩ := info_parts info_seg36
  have HIS := Lib.hid (And.intro r0 (And.intro r1 (And.intro r2 r3)))
  clear r0 r1 r2 r3
  have HB2 : Hid (Below w.heap.size w ((w.alloc (.cells #[.int .u32 x.man.pages, .slice p1 x.man.exts.length c1, .slice p2 x.man.ports.length c2, .bool x.man.cons, .int .u32 x.entry, .slice p3 x.segs.length c3] 29)).alloc (.cells #[.int .u32 0, .slice none 0 0, .slice none 0 0, .bool false, .int .u32 0, .slice none 0 0] 29))) := Lib.hid ((alloc_old w _).alloc (by simp) _)
  have HX2 : Hid (((w.alloc (.cells #[.int .u32 x.man.pages, .slice p1 x.man.exts.length c1, .slice p2 x.man.ports.length c2, .bool x.man.cons, .int .u32 x.entry, .slice p3 x.segs.length c3] 29)).alloc (.cells #[.int .u32 0, .slice none 0 0, .slice none 0 0, .bool false, .int .u32 0, .slice none 0 0] 29)).heap[w.heap.size]? = some (.cells #[.int .u32 x.man.pages, .slice p1 x.man.exts.length c1, .slice p2 x.man.ports.length c2, .bool x.man.cons, .int .u32 x.entry, .slice p3 x.segs.length c3] 29 (0, 0))) := Lib.hid ((Below.heap_alloc _ _ _ (by simp)).trans (new_block w _))
  have HZ2 : Hid (((w.alloc (.cells #[.int .u32 x.man.pages, .slice p1 x.man.exts.length c1, .slice p2 x.man.ports.length c2, .bool x.man.cons, .int .u32 x.entry, .slice p3 x.segs.length c3] 29)).alloc (.cells #[.int .u32 0, .slice none 0 0, .slice none 0 0, .bool false, .int .u32 0, .slice none 0 0] 29)).heap[w.heap.size + 1]? = some (.cells #[.int .u32 0, .slice none 0 0, .slice none 0 0, .bool false, .int .u32 0, .slice none 0 0] 29 (0, 0))) := Lib.hid (by
    have := new_block (w.alloc (.cells #[.int .u32 x.man.pages, .slice p1 x.man.exts.length c1, .slice p2 x.man.ports.length c2, .bool x.man.cons, .int .u32 x.entry, .slice p3 x.segs.length c3] 29)) (.cells #[.int .u32 0, .slice none 0 0, .slice none 0 0, .bool false, .int .u32 0, .slice none 0 0] 29)
    simpa using this)
  have hz2 : ((w.alloc (.cells #[.int .u32 x.man.pages, .slice p1 x.man.exts.length c1, .slice p2 x.man.ports.length c2, .bool x.man.cons, .int .u32 x.entry, .slice p3 x.segs.length c3] 29)).alloc (.cells #[.int .u32 0, .slice none 0 0, .slice none 0 0, .bool false, .int .u32 0, .slice none 0 0] 29)).heap.size = w.heap.size + 2 := by simp
  go_enter Tryz.func6, Tryz.ntmps6
  go_wp2_with fail
  refine (HCP.out _ HB2.out).mono ?_
  rintro e w4 ⟨va, vb, rfl, ⟨hoa, hob⟩, hB4⟩
  have HX4 := Lib.hid ((hB4.block _ (by omega)).trans HX2.out)
  have HZ4 := Lib.hid ((hB4.block _ (by omega)).trans HZ2.out)
  rw [hz2] at hoa hob
  have HOA := Lib.hid hoa; clear hoa
  have HOB := Lib.hid hob; clear hob
  have HB4 : Hid (Below w.heap.size w w4) := Lib.hid (HB2.out.trans (hB4.mono (by omega)))
  have hz4 : w.heap.size + 1 < w4.heap.size := by have := hB4.size; omega
  obtain ⟨q1, d1, rfl⟩ := own_shape HOA.out
  obtain ⟨q2, d2, rfl⟩ := own_shape HOB.out
  clear hB4 HX2 HZ2 HB2 hz2 HCP
  have a0 : w4.cell? ⟨w.heap.size, 0, none⟩ = some (.int .u32 x.man.pages) := Lib.cell_of_heap HX4.out 0
  have a1 : w4.cell? ⟨w.heap.size, 1, none⟩ = some (.slice p1 x.man.exts.length c1) := Lib.cell_of_heap HX4.out 1
  have a2 : w4.cell? ⟨w.heap.size, 2, none⟩ = some (.slice p2 x.man.ports.length c2) := Lib.cell_of_heap HX4.out 2
  have a3 : w4.cell? ⟨w.heap.size, 3, none⟩ = some (.bool x.man.cons) := Lib.cell_of_heap HX4.out 3
  have a5 : w4.cell? ⟨w.heap.size, 5, none⟩ = some (.slice p3 x.segs.length c3) := Lib.cell_of_heap HX4.out 5
  have f0 := Lib.frozen_of_heap HX4.out 0
  have f1 := Lib.frozen_of_heap HX4.out 1
  have f2 := Lib.frozen_of_heap HX4.out 2
  have f3 := Lib.frozen_of_heap HX4.out 3
  obtain ⟨W, hW⟩ : ∃ W : World, W = ((((w4.setCell ⟨w.heap.size, 0, none⟩ (.int .u32 x.man.pages)).setCell ⟨w.heap.size, 1, none⟩ (.slice q1 x.man.exts.length d1)).setCell ⟨w.heap.size, 2, none⟩ (.slice q2 x.man.ports.length d2)).setCell ⟨w.heap.size, 3, none⟩ (.bool x.man.cons)) := ⟨_, rfl⟩
  have HBLK : Hid (∀ g : Nat, g ≠ w.heap.size → W.heap[g]? = w4.heap[g]?) := Lib.hid fun g h1 => by
    rw [hW, Below.heap_setCell _ _ _ _ h1, Below.heap_setCell _ _ _ _ h1, Below.heap_setCell _ _ _ _ h1, Below.heap_setCell _ _ _ _ h1]
  have HBW : Hid (Below w.heap.size w W) := Lib.hid (by rw [hW]; exact (((HB4.out.setCell (Nat.le_refl _) _).setCell (Nat.le_refl _) _).setCell (Nat.le_refl _) _).setCell (Nat.le_refl _) _)
  have HXW : Hid (W.heap[w.heap.size]? = some (.cells #[.int .u32 x.man.pages, .slice q1 x.man.exts.length d1, .slice q2 x.man.ports.length d2, .bool x.man.cons, .int .u32 x.entry, .slice p3 x.segs.length c3] 29 (0, 0))) := Lib.hid (by
    rw [hW]; exact set_block (set_block (set_block (set_block HX4.out 0 _) 1 _) 2 _) 3 _)
  have hzw : w.heap.size + 1 < W.heap.size := by rw [hW]; simp; omega
  have HZW := Lib.hid ((HBLK.out (w.heap.size + 1) (by omega)).trans HZ4.out)
  have HOAW := Lib.hid (own_congr HOA.out fun g hg => HBLK.out g (fun e => by have := (HOA.out.lt g hg).1; omega))
  have HOBW := Lib.hid (own_congr HOB.out fun g hg => HBLK.out g (fun e => by have := (HOB.out.lt g hg).1; omega))
  have HW := Lib.hid hW; clear hW
  have HWA : Hid (∀ k, w4.setCell ⟨w.heap.size, 0, none⟩ k = w4.setCell ⟨w.heap.size, 0, none⟩ k) := Lib.hid fun _ => rfl
  go_upto_region 2 with fail
  rw [← HW.out]
  clear a0 a1 a2 a3 a5 f0 f1 f2 f3 HX4 HZ4 HB4 HOA HOB HBLK HWA
  have a5 : W.cell? ⟨w.heap.size, 5, none⟩ = some (.slice p3 x.segs.length c3) := Lib.cell_of_heap HXW.out 5
  have f5 := Lib.frozen_of_heap HXW.out 5
  go_wp2_with (at_builtin; refine wpList_append_src rfl _ _ 27 rfl w.heap.size 45 iS _ 3 24 Tryz.underlying27 HIS.out.1 HIS.out.2.1 HIS.out.2.2.1 HIS.out.2.2.2 rfl (by decide) (.slice none 0 0) 0 [] rfl (World.ownsRow_nil _ _ _ _) p3 x.segs.length c3 b3 o3 (x.segs.flatMap sgCells) rfl (fun h0 => HP3.out h0) (by rw [flat_len sg_len]) (fun _ => sg_news fun i hi => segR_keeps _ _ _ _ _ HBW.out (HC3.out i hi)) sg_one (by unfold maxLen; omega) (by omega) (by omega) ?_)
  intro v7 w7 hown7 hgrow7
  have HO7 : Hid (w7.ownsRow w.heap.size 45 3 v7 x.segs.length (x.segs.flatMap sgCells)) := Lib.hid (by simpa using hown7)
  have HX7 := Lib.hid ((hgrow7.block w.heap.size (by omega) (fun e => by cases e)).trans HXW.out)
  have HZ7 := Lib.hid ((hgrow7.block (w.heap.size + 1) (by omega) (fun e => by cases e)).trans HZW.out)
  have HOA7 := Lib.hid (own_congr HOAW.out fun g hg => hgrow7.block g (HOAW.out.lt g hg).2 (fun e => by cases e))
  have HOB7 := Lib.hid (own_congr HOBW.out fun g hg => hgrow7.block g (HOBW.out.lt g hg).2 (fun e => by cases e))
  have HB7 : Hid (Below w.heap.size w w7) := Lib.hid (HBW.out.grown hgrow7 (by omega) (fun k hk => by cases hk))
  obtain ⟨q7, d7, rfl⟩ := own_shape HO7.out
  clear hown7 hgrow7 HXW HZW HBW HOAW HOBW hz4 hzw a5 f5
  have a0 : w7.cell? ⟨w.heap.size, 0, none⟩ = some (.int .u32 x.man.pages) := Lib.cell_of_heap HX7.out 0
  have z0 : w7.cell? ⟨w.heap.size + 1, 0, none⟩ = some (.int .u32 0) := Lib.cell_of_heap HZ7.out 0
  have g0 := Lib.frozen_of_heap HZ7.out 0
  have a1 : w7.cell? ⟨w.heap.size, 1, none⟩ = some (.slice q1 x.man.exts.length d1) := Lib.cell_of_heap HX7.out 1
  have z1 : w7.cell? ⟨w.heap.size + 1, 1, none⟩ = some (.slice none 0 0) := Lib.cell_of_heap HZ7.out 1
  have g1 := Lib.frozen_of_heap HZ7.out 1
  have a2 : w7.cell? ⟨w.heap.size, 2, none⟩ = some (.slice q2 x.man.ports.length d2) := Lib.cell_of_heap HX7.out 2
  have z2 : w7.cell? ⟨w.heap.size + 1, 2, none⟩ = some (.slice none 0 0) := Lib.cell_of_heap HZ7.out 2
  have g2 := Lib.frozen_of_heap HZ7.out 2
  have a3 : w7.cell? ⟨w.heap.size, 3, none⟩ = some (.bool x.man.cons) := Lib.cell_of_heap HX7.out 3
  have z3 : w7.cell? ⟨w.heap.size + 1, 3, none⟩ = some (.bool false) := Lib.cell_of_heap HZ7.out 3
  have g3 := Lib.frozen_of_heap HZ7.out 3
  have a4 : w7.cell? ⟨w.heap.size, 4, none⟩ = some (.int .u32 x.entry) := Lib.cell_of_heap HX7.out 4
  have z4 : w7.cell? ⟨w.heap.size + 1, 4, none⟩ = some (.int .u32 0) := Lib.cell_of_heap HZ7.out 4
  have g4 := Lib.frozen_of_heap HZ7.out 4
  have a5 : w7.cell? ⟨w.heap.size, 5, none⟩ = some (.slice p3 x.segs.length c3) := Lib.cell_of_heap HX7.out 5
  have z5 : w7.cell? ⟨w.heap.size + 1, 5, none⟩ = some (.slice none 0 0) := Lib.cell_of_heap HZ7.out 5
  have g5 := Lib.frozen_of_heap HZ7.out 5
  have f5 := Lib.frozen_of_heap HX7.out 5
  have HBLK : Hid (∀ (g : Nat) (u u0 u1 u2 u3 u4 u5 : Value), g ≠ w.heap.size → g ≠ w.heap.size + 1 → (((((((w7.setCell ⟨w.heap.size, 5, none⟩ u).setCell ⟨w.heap.size + 1, 0, none⟩ u0).setCell ⟨w.heap.size + 1, 1, none⟩ u1).setCell ⟨w.heap.size + 1, 2, none⟩ u2).setCell ⟨w.heap.size + 1, 3, none⟩ u3).setCell ⟨w.heap.size + 1, 4, none⟩ u4).setCell ⟨w.heap.size + 1, 5, none⟩ u5).heap[g]? = w7.heap[g]?) := Lib.hid fun g u u0 u1 u2 u3 u4 u5 h1 h2 => by
    rw [Below.heap_setCell _ _ _ _ h2, Below.heap_setCell _ _ _ _ h2, Below.heap_setCell _ _ _ _ h2, Below.heap_setCell _ _ _ _ h2, Below.heap_setCell _ _ _ _ h2, Below.heap_setCell _ _ _ _ h2, Below.heap_setCell _ _ _ _ h1]
  go_wp2_with fail
  refine bodyPost_ret (v := .agg #[.int .u32 x.man.pages, .slice q1 x.man.exts.length d1, .slice q2 x.man.ports.length d2, .bool x.man.cons, .int .u32 x.entry, .slice q7 x.segs.length d7]) (by simp [results, Tryz.results6, go_sem, z0, z1, z2, z3, z4, z5]) rfl ?_
  refine ⟨_, _, _, rfl, ⟨⟨ex_back (w0 := w) (base := w.heap.size + 2) (e := 100) ?_ HM.out.1.1, pt_back (w0 := w) (base := w.heap.size + 2) (e := 101) ?_ HM.out.1.2.1, HM.out.1.2.2⟩, sg_back (w0 := w) (base := w.heap.size) (e := 45) ?_ HM.out.2.1, HM.out.2.2⟩, ?_⟩
  · refine own_congr HOA7.out fun g hg => HBLK.out g _ _ _ _ _ _ _ ?_ ?_
    · rintro rfl; exact own_ne_box HOA7.out HX7.out (by decide) hg
    · rintro rfl; exact own_ne_box HOA7.out HZ7.out (by decide) hg
  · refine own_congr HOB7.out fun g hg => HBLK.out g _ _ _ _ _ _ _ ?_ ?_
    · rintro rfl; exact own_ne_box HOB7.out HX7.out (by decide) hg
    · rintro rfl; exact own_ne_box HOB7.out HZ7.out (by decide) hg
  · refine own_congr HO7.out fun g hg => HBLK.out g _ _ _ _ _ _ _ ?_ ?_
    · rintro rfl; exact own_ne_box HO7.out HX7.out (by decide) hg
    · rintro rfl; exact own_ne_box HO7.out HZ7.out (by decide) hg
  · exact ((((((HB7.out.setCell (Nat.le_refl _) _).setCell (by simp) _).setCell (by simp) _).setCell (by simp) _).setCell (by simp) _).setCell (by simp) _).setCell (by simp) _
end Go.Proofs.YtghopakbefageaaGreat
namespace Go.Proofs.YtghopakbefageaaGreat
open Go.RowKit Go.Maps
set_option maxHeartbeats 2000000 in
theorem large11_one (m : GMan) (g : Nat) (p1 p2 : Option Addr) (c1 c2 : Nat) (w : World) (h : w.heap[g]? = some (.cells #[.int .u32 m.pages, .slice p1 m.exts.length c1, .slice p2 m.ports.length c2, .bool m.cons] 26 (0, 0))) (hl1 : m.exts.length ≤ 140737488355328) (hl2 : m.ports.length ≤ 140737488355328) :
    Calls Tryz.prog 20 #[.slice (some ⟨g, 0, none⟩) 1 1] w fun e w' => e = .returned (.bool (decide (600 < 1 + m.exts.length + m.ports.length))) ∧ Below w.heap.size w w' := by
  have a1 : w.cell? ⟨g, 1, none⟩ = some (.slice p1 m.exts.length c1) := Lib.cell_of_heap h 1
  have a2 : w.cell? ⟨g, 2, none⟩ = some (.slice p2 m.ports.length c2) := Lib.cell_of_heap h 2
  clear h
  have HD : Hid (decide ((600 : Int) < 1 + (m.exts.length : Int) + (m.ports.length : Int)) = decide (600 < 1 + m.exts.length + m.ports.length)) := Lib.hid (by rw [Bool.eq_iff_iff]; simp; omega)
  go_enter Tryz.func20, Tryz.ntmps20
  go_wp2_with fail
  go_loopw [3, 4] (fun v3 v4 wr => (v4 = .int .i64 0 ∧ v3 = .int .i64 1 ∧ wr = w) ∨ (v4 = .int .i64 1 ∧ v3 = .int .i64 (1 + (m.exts.length : Int) + (m.ports.length : Int)) ∧ Below w.heap.size w wr)) (fun _ v4 _ => 1 - (intOf v4).toNat)
  case atStart => exact .inl ⟨by go_num, by go_num, rfl⟩
  case round =>
    rcases hrel with ⟨rfl, rfl, rfl⟩ | ⟨rfl, rfl, hB⟩
    · go_wp2_with fail
      go_quiet (fail)
      go_wp2
      go_roundw
      case rel => exact .inr ⟨by go_num, by go_num, below_drewN (Below.refl _ _) _⟩
      case measure => simp [intOf]
    · have HB := Lib.hid hB; clear hB
      go_wp2
      go_ret
      exact ⟨by rw [← HD.out]; rfl, HB.out⟩
def smallB (x : GImg) : Prop := x.man.exts.length ≤ 100000 ∧ x.man.ports.length ≤ 100000 ∧ x.segs.length ≤ 100000
def LargePost (x : GImg) (w : World) (e : Ending) (w' : World) : Prop := ∃ b, e = .returned (.bool b) ∧ (b = false → smallB x) ∧ Below w.heap.size w w'
set_option maxHeartbeats 4000000 in
set_option maxRecDepth 100000 in
theorem large16_any (x : GImg) (ve vp vs : Value) (w : World) (h : ImgAt w x ve vp vs) :
    Calls Tryz.prog 4 #[imgV x ve vp vs] w (LargePost x w) := by
  unfold imgV at *
  obtain ⟨⟨⟨p1, c1, _, _, rfl, -, hm1, -⟩, ⟨p2, c2, _, _, rfl, -, hm2, -⟩, -⟩, ⟨p3, c3, b3, o3, rfl, -, hmx3, hp3, hc3⟩, hen0, hen1⟩ := h
  have HC := Lib.hid hc3; clear hc3
  have HP := Lib.hid hp3; clear hp3
  have HBX := Lib.hid (new_block w (.cells #[.int .u32 x.man.pages, .slice p1 x.man.exts.length c1, .slice p2 x.man.ports.length c2, .bool x.man.cons, .int .u32 x.entry, .slice p3 x.segs.length c3] 29))
  have HB1 : Hid (Below w.heap.size w (w.alloc (.cells #[.int .u32 x.man.pages, .slice p1 x.man.exts.length c1, .slice p2 x.man.ports.length c2, .bool x.man.cons, .int .u32 x.entry, .slice p3 x.segs.length c3] 29))) := alloc_old w _
  have hz1 : w.heap.size < (w.alloc (.cells #[.int .u32 x.man.pages, .slice p1 x.man.exts.length c1, .slice p2 x.man.ports.length c2, .bool x.man.cons, .int .u32 x.entry, .slice p3 x.segs.length c3] 29)).heap.size := by simp
  go_enter Tryz.func4, Tryz.ntmps4
  go_upto_region 1 with fail
  generalize (w.alloc (.cells #[.int .u32 x.man.pages, .slice p1 x.man.exts.length c1, .slice p2 x.man.ports.length c2, .bool x.man.cons, .int .u32 x.entry, .slice p3 x.segs.length c3] 29)) = w1 at *
  have x0 : w1.cell? ⟨w.heap.size, 0, none⟩ = some (.int .u32 x.man.pages) := Lib.cell_of_heap HBX.out 0
  have x1 : w1.cell? ⟨w.heap.size, 1, none⟩ = some (.slice p1 x.man.exts.length c1) := Lib.cell_of_heap HBX.out 1
  have x2 : w1.cell? ⟨w.heap.size, 2, none⟩ = some (.slice p2 x.man.ports.length c2) := Lib.cell_of_heap HBX.out 2
  have x3 : w1.cell? ⟨w.heap.size, 3, none⟩ = some (.bool x.man.cons) := Lib.cell_of_heap HBX.out 3
  have x5 : w1.cell? ⟨w.heap.size, 5, none⟩ = some (.slice p3 x.segs.length c3) := Lib.cell_of_heap HBX.out 5
  clear HBX
  go_wp2_with fail
  go_loopw [3, 4] (fun v3 v4 wr => ∃ (k : Nat) (s : Int), v4 = .int .i64 k ∧ v3 = .int .i64 s ∧ k ≤ 20 ∧ 0 ≤ s ∧ s ≤ k * 140737488355328 ∧ wr = w1) (fun _ v4 _ => 20 - (intOf v4).toNat)
  case atStart => exact ⟨0, 0, by go_num, by go_num, by omega, by omega, by omega, rfl⟩
  case round =>
    obtain ⟨k, s, rfl, rfl, hk, hs0, hs1, rfl⟩ := hrel
    have hcs : (k < x.segs.length ∧ k < 20) ∨ ((k : Int) < (x.segs.length : Int) ∧ ¬ (k : Int) < 20) ∨ ¬ (k : Int) < (x.segs.length : Int) := by omega
    rcases hcs with ⟨hlt, h20⟩ | hcs
    · obtain rfl := HP.out (by omega)
      obtain ⟨g0, g1, g2, g3, g4, g5, g6⟩ := segR_keeps _ _ _ _ _ HB1.out (HC.out k hlt)
      generalize x.segs[k] = sg at *
      obtain ⟨xa, xp, xb⟩ := sg
      simp only [] at g1 g2 g3 g6
      have k1 : (0 : Int) ≤ (k : Int) := by omega
      have k2 : (k : Int) < (x.segs.length : Int) := by omega
      have k3 : (k : Int) < 20 := by omega
      go_wp2
      go_roundw
      case rel => exact ⟨k + 1, s + xb.size, by go_num, by go_num, by omega, by omega, by omega, (by simp)⟩
      case measure => simp [intOf]; omega
    · have HN : Hid (wr.alloc (.cells #[.int .u32 x.man.pages, .slice p1 x.man.exts.length c1, .slice p2 x.man.ports.length c2, .bool x.man.cons] 26) = wr.alloc (.cells #[.int .u32 x.man.pages, .slice p1 x.man.exts.length c1, .slice p2 x.man.ports.length c2, .bool x.man.cons] 26)) := Lib.hid rfl
      have HLG := Lib.hid (large11_one x.man wr.heap.size p1 p2 c1 c2 _ (new_block wr (.cells #[.int .u32 x.man.pages, .slice p1 x.man.exts.length c1, .slice p2 x.man.ports.length c2, .bool x.man.cons] 26)) hm1 hm2)
      have HB2 : Hid (Below w.heap.size w (wr.alloc (.cells #[.int .u32 x.man.pages, .slice p1 x.man.exts.length c1, .slice p2 x.man.ports.length c2, .bool x.man.cons] 26))) := HB1.out.alloc HB1.out.size _
      have x5b : (wr.alloc (.cells #[.int .u32 x.man.pages, .slice p1 x.man.exts.length c1, .slice p2 x.man.ports.length c2, .bool x.man.cons] 26)).cell? ⟨w.heap.size, 5, none⟩ = some (.slice p3 x.segs.length c3) := cell_keep (alloc_old wr _) hz1 x5
      have hz2 : w.heap.size < (wr.alloc (.cells #[.int .u32 x.man.pages, .slice p1 x.man.exts.length c1, .slice p2 x.man.ports.length c2, .bool x.man.cons] 26)).heap.size := by simp; omega
      have HSM := Lib.hid (fun (h1 : decide (600 < 1 + x.man.exts.length + x.man.ports.length) = false) (h2 : ¬ (15 : Int) < (x.segs.length : Int)) => (by have := of_decide_eq_false h1; exact ⟨by omega, by omega, by omega⟩ : smallB x))
      generalize decide (600 < 1 + x.man.exts.length + x.man.ports.length) = lg at HLG HSM
      rcases hcs with ⟨k2, k3⟩ | k2
      all_goals
        go_wp2_with fail
        refine HLG.out.mono ?_
        rintro e w3 ⟨rfl, hB3⟩
        have HB3 : Hid (Below w.heap.size w w3) := HB2.out.trans (hB3.mono HB2.out.size)
        have x5c := cell_keep hB3 hz2 x5b
        clear hB3 x0 x1 x2 x3 x5 x5b
        cases lg with
        | true =>
          go_wp2
          go_ret
          exact ⟨true, rfl, (fun h => by cases h), HB3.out⟩
        | false =>
          by_cases h15 : (15 : Int) < (x.segs.length : Int)
          · go_wp2
            go_ret
            exact ⟨true, rfl, (fun h => by cases h), HB3.out⟩
          · first
            | (exfalso; omega)
            | (have HS := Lib.hid (HSM.out rfl (by omega))
               by_cases hs2 : (262144 : Int) < s
               · go_wp2
                 go_ret
                 exact ⟨_, rfl, (fun _ => HS.out), HB3.out⟩
               · go_wp2
                 go_ret
                 exact ⟨_, rfl, (fun _ => HS.out), HB3.out⟩)
end Go.Proofs.YtghopakbefageaaGreat
