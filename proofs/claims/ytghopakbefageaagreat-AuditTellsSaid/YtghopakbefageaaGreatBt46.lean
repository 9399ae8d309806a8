/- The walk of law36.AuditTells. -/
import Derived.Test.YtghopakbefageaaGreatBt45
import Derived.Test.YtghopakbefageaaGreatBt40
import Derived.Test.YtghopakbefageaaGreatBt44
import Derived.Test.YtghopakbefageaaGreatBt41
import Derived.Test.YtghopakbefageaaGreatBt32
import Derived.Test.YtghopakbefageaaGreatBt23
namespace Go.Proofs.YtghopakbefageaaGreat
open Go.RowKit Go.Maps
def kdCells (x : Int) : List Value := [.int .u8 x]
theorem kd_len (x : Int) : (kdCells x).length = 1 := rfl
theorem kd_one {l : List Int} : ∀ u ∈ l.flatMap kdCells, u.oneCell' = true := by
  intro u hu
  obtain ⟨x, _, hx⟩ := List.mem_flatMap.1 hu
  simp only [kdCells, List.mem_cons, List.not_mem_nil, or_false] at hx
  subst hx; rfl
theorem kd_news {w : World} {b o : Nat} {l : List Int} (h : ∀ i (hi : i < l.length), KindR w b (o + i * 1) l[i]) : ∀ j u, (l.flatMap kdCells)[j]? = some u → w.cell? ((⟨b, o, none⟩ : Addr).add j) = some u := by
  refine row_news kd_len (by omega) fun i hi j u hu => ?_
  obtain ⟨-, h1, -⟩ := h i hi
  match j, hu with
  | 0, hu => cases hu; exact h1
theorem kd_back {w : World} {v : Value} {base : Nat} {e : TypeId} {l : List Int} (h : w.ownsRow base e 1 v l.length (l.flatMap kdCells)) (hl : l.length ≤ 140737488355328) (hb : ∀ x ∈ l, 0 ≤ x ∧ x ≤ 255) : RowAt 1 KindR w v l :=
  owned_row kd_len h hl fun g o i hi hg hc => ⟨hg, hc 0 _ (by omega) rfl, hb _ (List.getElem_mem hi)⟩
theorem info_kd : (Tryz.prog.info? 5).map (fun i => (i.zero, i.size, i.bytes)) = some (some (.int .u8 0), 1, 1) := by kernel_rfl
set_option maxHeartbeats 4000000 in
set_option maxRecDepth 100000 in
theorem tells36_any (x : GImg) (ve vp vs vf vk : Value) (fs : List Fd) (ks : List Int) (w : World) (hx : ImgAt w x ve vp vs) (hf : RowAt 2 FindR w vf fs) (hk : RowAt 1 KindR w vk ks) :
    Calls Tryz.prog 3 #[imgV x ve vp vs, vf, vk] w fun e w' => e = .returned (.bool true) ∧ Below w.heap.size w w' := by
  have HX := Lib.hid hx
  have HF := Lib.hid hf
  have HK := Lib.hid hk
  unfold imgV
  obtain ⟨⟨⟨p1, c1, _, _, rfl, -⟩, ⟨p2, c2, _, _, rfl, -⟩, -⟩, ⟨p3, c3, _, _, rfl, -⟩, -⟩ := hx
  obtain ⟨pf, cf, _, _, rfl, -⟩ := hf
  obtain ⟨pk, ck, _, _, rfl, -⟩ := hk
  have HA := Lib.hid (fun W => alive36 W)
  have hl1 : Hid (x.man.exts.length = x.man.exts.length) := Lib.hid rfl
  have HL := Lib.hid (large16_any x _ _ _ (w.alloc (.cells #[.int .u32 x.man.pages, .slice p1 x.man.exts.length c1, .slice p2 x.man.ports.length c2, .bool x.man.cons, .int .u32 x.entry, .slice p3 x.segs.length c3] 29)) (HX.out.keep (alloc_old w _)))
  have hX1 := new_block w (.cells #[.int .u32 x.man.pages, .slice p1 x.man.exts.length c1, .slice p2 x.man.ports.length c2, .bool x.man.cons, .int .u32 x.entry, .slice p3 x.segs.length c3] 29)
  have HB1 : Hid (Below w.heap.size w (w.alloc (.cells #[.int .u32 x.man.pages, .slice p1 x.man.exts.length c1, .slice p2 x.man.ports.length c2, .bool x.man.cons, .int .u32 x.entry, .slice p3 x.segs.length c3] 29))) := alloc_old w _
  unfold imgV LargePost at HL
  clear hl1
  go_enter Tryz.func3, Tryz.ntmps3
  go_upto_region 1 with fail
  generalize hW1 : (w.alloc (.cells #[.int .u32 x.man.pages, .slice p1 x.man.exts.length c1, .slice p2 x.man.ports.length c2, .bool x.man.cons, .int .u32 x.entry, .slice p3 x.segs.length c3] 29)) = w1 at *
  have hz1 : w.heap.size < w1.heap.size := by subst hW1; simp
  clear hW1
  have a0 : w1.cell? ⟨w.heap.size, 0, none⟩ = some (.int .u32 x.man.pages) := Lib.cell_of_heap hX1 0
  have a1 : w1.cell? ⟨w.heap.size, 1, none⟩ = some (.slice p1 x.man.exts.length c1) := Lib.cell_of_heap hX1 1
  have a2 : w1.cell? ⟨w.heap.size, 2, none⟩ = some (.slice p2 x.man.ports.length c2) := Lib.cell_of_heap hX1 2
  have a3 : w1.cell? ⟨w.heap.size, 3, none⟩ = some (.bool x.man.cons) := Lib.cell_of_heap hX1 3
  have a4 : w1.cell? ⟨w.heap.size, 4, none⟩ = some (.int .u32 x.entry) := Lib.cell_of_heap hX1 4
  have a5 : w1.cell? ⟨w.heap.size, 5, none⟩ = some (.slice p3 x.segs.length c3) := Lib.cell_of_heap hX1 5
  clear hX1
  go_wp2_with fail
  refine HL.out.mono ?_
  rintro e w2 ⟨b, rfl, hb, hB2⟩
  have HB2 : Hid (Below w.heap.size w w2) := HB1.out.trans (hB2.mono HB1.out.size)
  replace a0 := cell_keep hB2 hz1 a0
  replace a1 := cell_keep hB2 hz1 a1
  replace a2 := cell_keep hB2 hz1 a2
  replace a3 := cell_keep hB2 hz1 a3
  replace a4 := cell_keep hB2 hz1 a4
  replace a5 := cell_keep hB2 hz1 a5
  have hz2 : w.heap.size < w2.heap.size := by have := hB2.size; omega
  clear HL HB1 hB2 hz1
  cases b with
  | true =>
    go_wp2_with fail
    refine (HA.out _).mono ?_
    rintro e w3 ⟨rfl, hB3⟩
    have HB3 : Hid (Below w.heap.size w w3) := HB2.out.trans (hB3.mono HB2.out.size)
    clear hB3
    go_wp2
    go_ret
    exact ⟨rfl, HB3.out⟩
  | false =>
    have HS := Lib.hid (hb rfl)
    clear hb
    by_cases h1 : 300 < fs.length
    · have e1 : decide ((300 : Int) < (fs.length : Int)) = true := by simp; omega
      go_wp2_with fail
      refine (HA.out _).mono ?_
      rintro e w3 ⟨rfl, hB3⟩
      have HB3 : Hid (Below w.heap.size w w3) := HB2.out.trans (hB3.mono HB2.out.size)
      clear hB3
      go_wp2
      go_ret
      exact ⟨rfl, HB3.out⟩
    by_cases h2 : 60 < ks.length
    · have e1 : decide ((300 : Int) < (fs.length : Int)) = false := by simp; omega
      have e2 : decide ((60 : Int) < (ks.length : Int)) = true := by simp; omega
      go_wp2_with fail
      refine (HA.out _).mono ?_
      rintro e w3 ⟨rfl, hB3⟩
      have HB3 : Hid (Below w.heap.size w w3) := HB2.out.trans (hB3.mono HB2.out.size)
      clear hB3
      go_wp2
      go_ret
      exact ⟨rfl, HB3.out⟩
    have e1 : decide ((300 : Int) < (fs.length : Int)) = false := by simp; omega
    have e2 : decide ((60 : Int) < (ks.length : Int)) = false := by simp; omega
    obtain ⟨s1, s2, s3⟩ := HS.out
    have HC := Lib.hid (rcopy16_any x _ _ _ w2 (HX.out.keep HB2.out) s1 s2 s3)
    unfold CopyPost imgV at HC
    clear HS s1 s2 s3
    go_wp2_with fail
    refine HC.out.mono ?_
    rintro e w3 ⟨ve', vp', vs', rfl, hy, hB3⟩
    have HY3 := Lib.hid hy
    obtain ⟨⟨⟨q1, d1, _, _, rfl, -⟩, ⟨q2, d2, _, _, rfl, -⟩, -⟩, ⟨q3, d3, _, _, rfl, -⟩, -⟩ := hy
    have HY4 := Lib.hid (HY3.out.keep (alloc_old w3 (.cells #[.int .u32 x.man.pages, .slice q1 x.man.exts.length d1, .slice q2 x.man.ports.length d2, .bool x.man.cons, .int .u32 x.entry, .slice q3 x.segs.length d3] 29)))
    have hK4 := hB3.trans ((alloc_old w3 (.cells #[.int .u32 x.man.pages, .slice q1 x.man.exts.length d1, .slice q2 x.man.ports.length d2, .bool x.man.cons, .int .u32 x.entry, .slice q3 x.segs.length d3] 29)).mono hB3.size)
    have hX4 := new_block w3 (.cells #[.int .u32 x.man.pages, .slice q1 x.man.exts.length d1, .slice q2 x.man.ports.length d2, .bool x.man.cons, .int .u32 x.entry, .slice q3 x.segs.length d3] 29)
    have HB4 : Hid (Below w.heap.size w (w3.alloc (.cells #[.int .u32 x.man.pages, .slice q1 x.man.exts.length d1, .slice q2 x.man.ports.length d2, .bool x.man.cons, .int .u32 x.entry, .slice q3 x.segs.length d3] 29))) := HB2.out.trans (hK4.mono HB2.out.size)
    have hz3 : w.heap.size < w3.heap.size := by have := hB3.size; omega
    replace a0 := cell_keep hK4 hz2 a0
    replace a1 := cell_keep hK4 hz2 a1
    replace a2 := cell_keep hK4 hz2 a2
    replace a3 := cell_keep hK4 hz2 a3
    replace a4 := cell_keep hK4 hz2 a4
    replace a5 := cell_keep hK4 hz2 a5
    clear HC hB3 HB2 hK4 HY3 hz2
    go_upto_region 4 with fail
    generalize (w3.alloc (.cells #[.int .u32 x.man.pages, .slice q1 x.man.exts.length d1, .slice q2 x.man.ports.length d2, .bool x.man.cons, .int .u32 x.entry, .slice q3 x.segs.length d3] 29)) = w4 at *
    have b0 : w4.cell? ⟨w3.heap.size, 0, none⟩ = some (.int .u32 x.man.pages) := Lib.cell_of_heap hX4 0
    have b1 : w4.cell? ⟨w3.heap.size, 1, none⟩ = some (.slice q1 x.man.exts.length d1) := Lib.cell_of_heap hX4 1
    have b2 : w4.cell? ⟨w3.heap.size, 2, none⟩ = some (.slice q2 x.man.ports.length d2) := Lib.cell_of_heap hX4 2
    have b3 : w4.cell? ⟨w3.heap.size, 3, none⟩ = some (.bool x.man.cons) := Lib.cell_of_heap hX4 3
    have b4 : w4.cell? ⟨w3.heap.size, 4, none⟩ = some (.int .u32 x.entry) := Lib.cell_of_heap hX4 4
    have b5 : w4.cell? ⟨w3.heap.size, 5, none⟩ = some (.slice q3 x.segs.length d3) := Lib.cell_of_heap hX4 5
    have hz4 : w3.heap.size < w4.heap.size := (Array.getElem?_eq_some_iff.1 hX4).1
    have hz5 : w.heap.size < w4.heap.size := by omega
    clear hX4
    replace HX := Lib.hid (HX.out.keep HB4.out)
    replace HF := Lib.hid (HF.out.keep findR_keeps HB4.out)
    replace HK := Lib.hid (HK.out.keep kindR_keeps HB4.out)
    obtain ⟨S, HSD⟩ : ∃ S : World → Prop, ∀ w', S w' ↔ Below w4.heap.size w4 w' := ⟨_, fun _ => Iff.rfl⟩
    have c0 := fun u : HW S => cell_keep ((HSD _).1 u.h) hz5 a0
    have c1' := fun u : HW S => cell_keep ((HSD _).1 u.h) hz5 a1
    have c2' := fun u : HW S => cell_keep ((HSD _).1 u.h) hz5 a2
    have c3' := fun u : HW S => cell_keep ((HSD _).1 u.h) hz5 a3
    have c4' := fun u : HW S => cell_keep ((HSD _).1 u.h) hz5 a4
    have c5' := fun u : HW S => cell_keep ((HSD _).1 u.h) hz5 a5
    have g0 := fun u : HW S => cell_keep ((HSD _).1 u.h) hz4 b0
    have g1 := fun u : HW S => cell_keep ((HSD _).1 u.h) hz4 b1
    have g2 := fun u : HW S => cell_keep ((HSD _).1 u.h) hz4 b2
    have g3 := fun u : HW S => cell_keep ((HSD _).1 u.h) hz4 b3
    have g4 := fun u : HW S => cell_keep ((HSD _).1 u.h) hz4 b4
    have g5 := fun u : HW S => cell_keep ((HSD _).1 u.h) hz4 b5
    haveI : Nonempty (HW S) := ⟨⟨_, (HSD _).2 (Below.refl _ _)⟩⟩
    clear a0 a1 a2 a3 a4 a5 b0 b1 b2 b3 b4 b5
    refine wp_region_turn S rfl (n := 22) rfl rfl ?_
    have HW5 : Below w4.heap.size w4 w4.drew := below_drewN (Below.refl _ _) 1
    refine wpAnyS_take [0, 2] (by kernel_rfl) (by kernel_rfl) (n := 20) rfl rfl rfl ((HSD _).2 HW5) ?_
    (refine wpReads_step (fun K hK => ?_); go_simp; refine hK _ ?_; clear hK K)
    (refine wpReads_step (fun K hK => ?_); go_simp; refine hK _ ?_; clear hK K)
    refine wpReads_nil ?_
    refine wpAnyS_one (i := 1) (by kernel_rfl) rfl (fun K hK => ?_)
    refine step_callW rfl 8 #[.tmp 23] #[29] rfl Tryz.func8 (by kernel_rfl) (by kernel_rfl) #[.agg #[.int .u32 x.man.pages, .slice q1 x.man.exts.length d1, .slice q2 x.man.ports.length d2, .bool x.man.cons, .int .u32 x.entry, .slice q3 x.segs.length d3]] (by simp [Act.eval]) (audImage36 x _ _ _ _ (HY4.out.keep HW5)) ?_
    rintro e w6 ⟨v6, rfl, hr6, hB6⟩
    have HW6 : Below w4.heap.size w4 w6 := HW5.trans (hB6.mono HW5.size)
    refine ⟨_, rfl, hK _ _ ((HSD _).2 HW6) ?_⟩
    clear hK K
    simp only [Act.put, List.setIfInBounds_toArray, List.set_cons_zero, List.set_cons_succ]
    refine wpAnyS_one (i := 3) (by kernel_rfl) rfl (fun K hK => ?_)
    refine step_callW rfl 9 #[.tmp 25] #[29] rfl Tryz.func9 (by kernel_rfl) (by kernel_rfl) #[.agg #[.int .u32 x.man.pages, .slice p1 x.man.exts.length c1, .slice p2 x.man.ports.length c2, .bool x.man.cons, .int .u32 x.entry, .slice p3 x.segs.length c3]] (by simp [Act.eval]) (rimageF36 x _ _ _ _ (HX.out.keep HW6)) ?_
    rintro e w7 ⟨v7, rfl, hr7, hB7⟩
    have HW7 : Below w4.heap.size w4 w7 := HW6.trans (hB7.mono HW6.size)
    replace hr6 := hr6.keep findR_keeps hB7
    refine ⟨_, rfl, hK _ _ ((HSD _).2 HW7) ?_⟩
    clear hK K
    simp only [Act.put, List.setIfInBounds_toArray, List.set_cons_zero, List.set_cons_succ]
    refine wpAnyS_one (i := 4) (by kernel_rfl) rfl (fun K hK => ?_)
    refine step_callW rfl 7 #[.tmp 24, .tmp 26] #[30, 30] rfl Tryz.func7 (by kernel_rfl) (by kernel_rfl) #[v6, v7] (by simp [Act.eval]) (same36_any v6 v7 _ _ hr6 hr7) ?_
    rintro e w8 ⟨rfl, hB8⟩
    have HW8 : Below w4.heap.size w4 w8 := HW7.trans (hB8.mono HW7.size)
    refine ⟨_, rfl, hK _ _ ((HSD _).2 HW8) ?_⟩
    clear hK K
    simp only [Act.put, List.setIfInBounds_toArray, List.set_cons_zero, List.set_cons_succ]
    refine wpAnyS_one (i := 5) (by kernel_rfl) rfl (fun K hK => ?_)
    go_simp; refine hK _ _ ((HSD _).2 HW8) ?_; clear hK K
    refine wpAnyS_one (i := 6) (by kernel_rfl) rfl (fun K hK => ?_)
    go_simp; refine hK _ _ ((HSD _).2 HW8) ?_; clear hK K
    refine wpAnyS_take [7, 9] (by kernel_rfl) (by kernel_rfl) (n := 13) rfl rfl rfl ((HSD _).2 HW8) ?_
    (refine wpReads_step (fun K hK => ?_); go_simp; refine hK _ ?_; clear hK K)
    (refine wpReads_step (fun K hK => ?_); go_simp; refine hK _ ?_; clear hK K)
    refine wpReads_nil ?_
    refine wpAnyS_one (i := 8) (by kernel_rfl) rfl (fun K hK => ?_)
    refine step_callW rfl 11 #[.tmp 30] #[29] rfl Tryz.func11 (by kernel_rfl) (by kernel_rfl) #[.agg #[.int .u32 x.man.pages, .slice q1 x.man.exts.length d1, .slice q2 x.man.ports.length d2, .bool x.man.cons, .int .u32 x.entry, .slice q3 x.segs.length d3]] (by simp [Act.eval]) (audCalls36 x _ _ _ _ (HY4.out.keep HW8)) ?_
    rintro e w9 ⟨v9, rfl, hr9, hB9⟩
    have HW9 : Below w4.heap.size w4 w9 := HW8.trans (hB9.mono HW8.size)
    refine ⟨_, rfl, hK _ _ ((HSD _).2 HW9) ?_⟩
    clear hK K
    simp only [Act.put, List.setIfInBounds_toArray, List.set_cons_zero, List.set_cons_succ]
    refine wpAnyS_one (i := 10) (by kernel_rfl) rfl (fun K hK => ?_)
    refine step_callW rfl 12 #[.tmp 32] #[29] rfl Tryz.func12 (by kernel_rfl) (by kernel_rfl) #[.agg #[.int .u32 x.man.pages, .slice p1 x.man.exts.length c1, .slice p2 x.man.ports.length c2, .bool x.man.cons, .int .u32 x.entry, .slice p3 x.segs.length c3]] (by simp [Act.eval]) (rcalls36 x _ _ _ _ (HX.out.keep HW9)) ?_
    rintro e w10 ⟨v10, rfl, hr10, hB10⟩
    have HW10 : Below w4.heap.size w4 w10 := HW9.trans (hB10.mono HW9.size)
    replace hr9 := hr9.keep numR_keeps hB10
    refine ⟨_, rfl, hK _ _ ((HSD _).2 HW10) ?_⟩
    clear hK K
    simp only [Act.put, List.setIfInBounds_toArray, List.set_cons_zero, List.set_cons_succ]
    refine wpAnyS_one (i := 11) (by kernel_rfl) rfl (fun K hK => ?_)
    refine step_callW rfl 10 #[.tmp 31, .tmp 33] #[38, 38] rfl Tryz.func10 (by kernel_rfl) (by kernel_rfl) #[v9, v10] (by simp [Act.eval]) (same15n_any v9 v10 _ _ hr9 hr10) ?_
    rintro e w11 ⟨rfl, hB11⟩
    have HW11 : Below w4.heap.size w4 w11 := HW10.trans (hB11.mono HW10.size)
    refine ⟨_, rfl, hK _ _ ((HSD _).2 HW11) ?_⟩
    clear hK K
    simp only [Act.put, List.setIfInBounds_toArray, List.set_cons_zero, List.set_cons_succ]
    refine wpAnyS_one (i := 12) (by kernel_rfl) rfl (fun K hK => ?_)
    go_simp; refine hK _ _ ((HSD _).2 HW11) ?_; clear hK K
    refine wpAnyS_one (i := 13) (by kernel_rfl) rfl (fun K hK => ?_)
    go_simp; refine hK _ _ ((HSD _).2 HW11) ?_; clear hK K
    refine wpAnyS_one (i := 14) (by kernel_rfl) rfl (fun K hK => ?_)
    go_simp; refine hK _ _ ((HSD _).2 HW11) ?_; clear hK K
    refine wpAnyS_take [15, 17] (by kernel_rfl) (by kernel_rfl) (n := 5) rfl rfl rfl ((HSD _).2 HW11) ?_
    (refine wpReads_step (fun K hK => ?_); go_simp; refine hK _ ?_; clear hK K)
    (refine wpReads_step (fun K hK => ?_); go_simp; refine hK _ ?_; clear hK K)
    refine wpReads_nil ?_
    refine wpAnyS_one (i := 16) (by kernel_rfl) rfl (fun K hK => ?_)
    refine step_callW rfl 13 #[.tmp 38] #[29] rfl Tryz.func13 (by kernel_rfl) (by kernel_rfl) #[.agg #[.int .u32 x.man.pages, .slice q1 x.man.exts.length d1, .slice q2 x.man.ports.length d2, .bool x.man.cons, .int .u32 x.entry, .slice q3 x.segs.length d3]] (by simp [Act.eval]) (audFlow36 x _ _ _ _ (HY4.out.keep HW11)) ?_
    rintro e w12 ⟨v12, l12, rfl, hl12, hr12, hB12⟩
    have HW12 : Below w4.heap.size w4 w12 := HW11.trans (hB12.mono HW11.size)
    refine ⟨_, rfl, hK _ _ ((HSD _).2 HW12) ?_⟩
    clear hK K
    simp only [Act.put, List.setIfInBounds_toArray, List.set_cons_zero, List.set_cons_succ]
    refine wpAnyS_one (i := 18) (by kernel_rfl) rfl (fun K hK => ?_)
    refine step_callW rfl 14 #[.tmp 40] #[29] rfl Tryz.func14 (by kernel_rfl) (by kernel_rfl) #[.agg #[.int .u32 x.man.pages, .slice p1 x.man.exts.length c1, .slice p2 x.man.ports.length c2, .bool x.man.cons, .int .u32 x.entry, .slice p3 x.segs.length c3]] (by simp [Act.eval]) (rflow36 x _ _ _ _ (HX.out.keep HW12)) ?_
    rintro e w13 ⟨v13, l13, rfl, hl13, hr13, hB13⟩
    have HW13 : Below w4.heap.size w4 w13 := HW12.trans (hB13.mono HW12.size)
    replace hr12 := hr12.keep numR_keeps hB13
    obtain rfl := flowIs_eq hl12 hl13
    refine ⟨_, rfl, hK _ _ ((HSD _).2 HW13) ?_⟩
    clear hK K
    simp only [Act.put, List.setIfInBounds_toArray, List.set_cons_zero, List.set_cons_succ]
    refine wpAnyS_one (i := 19) (by kernel_rfl) rfl (fun K hK => ?_)
    refine step_callW rfl 10 #[.tmp 39, .tmp 41] #[38, 38] rfl Tryz.func10 (by kernel_rfl) (by kernel_rfl) #[v12, v13] (by simp [Act.eval]) (same15n_any v12 v13 _ _ hr12 hr13) ?_
    rintro e w14 ⟨rfl, hB14⟩
    have HW14 : Below w4.heap.size w4 w14 := HW13.trans (hB14.mono HW13.size)
    refine ⟨_, rfl, hK _ _ ((HSD _).2 HW14) ?_⟩
    clear hK K
    simp only [Act.put, List.setIfInBounds_toArray, List.set_cons_zero, List.set_cons_succ]
    refine wpAnyS_one (i := 20) (by kernel_rfl) rfl (fun K hK => ?_)
    go_simp; refine hK _ _ ((HSD _).2 HW14) ?_; clear hK K
    refine wpAnyS_one (i := 21) (by kernel_rfl) rfl (fun K hK => ?_)
    go_simp; refine hK _ _ ((HSD _).2 HW14) ?_; clear hK K
    refine wpAnyS_done (by kernel_rfl) (NoPanic.normal ?_)

    go_upto_region 6 with fail
    obtain ⟨hFi, hF⟩ : ∃ i : TypeInfo, Tryz.prog.info? 51 = some i ∧ i.zero = some (.agg #[.int .u32 0, .int .u8 0]) ∧ i.size = 2 ∧ i.bytes = 8 := info_parts info_find
    obtain ⟨hUi, hU⟩ : ∃ i : TypeInfo, Tryz.prog.info? 5 = some i ∧ i.zero = some (.int .u8 0) ∧ i.size = 1 ∧ i.bytes = 1 := info_parts info_kd
    have hfB : ∀ y ∈ fs, (0 ≤ y.1 ∧ y.1 ≤ 4294967295) ∧ (0 ≤ y.2 ∧ y.2 ≤ 255) := fun y hy => by
      obtain ⟨_, _, _, _, _, _, _, _, hr⟩ := HF.out
      obtain ⟨i, hi, rfl⟩ := List.mem_iff_getElem.1 hy
      obtain ⟨-, -, -, h⟩ := hr i hi
      exact h
    have hkB : ∀ y ∈ ks, 0 ≤ y ∧ y ≤ 255 := fun y hy => by
      obtain ⟨_, _, _, _, _, _, _, _, hr⟩ := HK.out
      obtain ⟨i, hi, rfl⟩ := List.mem_iff_getElem.1 hy
      obtain ⟨-, -, h⟩ := hr i hi
      exact h
    refine wp_region_turn S rfl (n := 25) rfl rfl ?_
    have HW15 : Below w4.heap.size w4 w14.drew := below_drewN HW14 1
    refine wpAnyS_take [0, 2] (by kernel_rfl) (by kernel_rfl) (n := 23) rfl rfl rfl ((HSD _).2 HW15) ?_
    (refine wpReads_step (fun K hK => ?_); go_simp; refine hK _ ?_; clear hK K)
    (refine wpReads_step (fun K hK => ?_); go_simp; refine hK _ ?_; clear hK K)
    refine wpReads_nil ?_
    refine wpAnyS_one (i := 1) (by kernel_rfl) rfl (fun K hK => ?_)
    refine step_callW rfl 15 #[.tmp 45] #[29] rfl Tryz.func15 (by kernel_rfl) (by kernel_rfl) #[.agg #[.int .u32 x.man.pages, .slice q1 x.man.exts.length d1, .slice q2 x.man.ports.length d2, .bool x.man.cons, .int .u32 x.entry, .slice q3 x.segs.length d3]] (by simp [Act.eval]) (audInd36 x _ _ _ _ (HY4.out.keep HW15)) ?_
    rintro e w16 ⟨i16, rfl, hi16, hB16⟩
    have HW16 : Below w4.heap.size w4 w16 := HW15.trans (hB16.mono HW15.size)
    refine ⟨_, rfl, hK _ _ ((HSD _).2 HW16) ?_⟩
    clear hK K
    simp only [Act.put, List.setIfInBounds_toArray, List.set_cons_zero, List.set_cons_succ]
    refine wpAnyS_one (i := 3) (by kernel_rfl) rfl (fun K hK => ?_)
    refine step_callW rfl 16 #[.tmp 47] #[29] rfl Tryz.func16 (by kernel_rfl) (by kernel_rfl) #[.agg #[.int .u32 x.man.pages, .slice p1 x.man.exts.length c1, .slice p2 x.man.ports.length c2, .bool x.man.cons, .int .u32 x.entry, .slice p3 x.segs.length c3]] (by simp [Act.eval]) (rind36 x _ _ _ _ (HX.out.keep HW16)) ?_
    rintro e w17 ⟨i17, rfl, hi17, hB17⟩
    have HW17 : Below w4.heap.size w4 w17 := HW16.trans (hB17.mono HW16.size)
    obtain rfl := indIs_eq hi16 hi17
    refine ⟨_, rfl, hK _ _ ((HSD _).2 HW17) ?_⟩
    clear hK K
    simp only [Act.put, List.setIfInBounds_toArray, List.set_cons_zero, List.set_cons_succ]
    refine wpAnyS_one (i := 4) (by kernel_rfl) rfl (fun K hK => ?_)
    go_simp; refine hK _ _ ((HSD _).2 HW17) ?_; clear hK K
    refine wpAnyS_one (i := 5) (by kernel_rfl) rfl (fun K hK => ?_)
    go_simp; refine hK _ _ ((HSD _).2 HW17) ?_; clear hK K
    refine wpAnyS_take [6, 8, 11, 12] (by kernel_rfl) (by kernel_rfl) (n := 15) rfl rfl rfl ((HSD _).2 HW17) ?_
    (refine wpReads_step (fun K hK => ?_); go_simp; refine hK _ ?_; clear hK K)
    (refine wpReads_step (fun K hK => ?_); go_simp; refine hK _ ?_; clear hK K)
    (refine wpReads_step (fun K hK => ?_); go_simp; refine hK _ ?_; clear hK K)
    (refine wpReads_step (fun K hK => ?_); go_simp; refine hK _ ?_; clear hK K)
    refine wpReads_nil ?_
    refine wpAnyS_one (i := 7) (by kernel_rfl) rfl (fun K hK => ?_)
    obtain ⟨_, _, bf, of, he, -, -, hfp, hrc⟩ := HF.out.keep findR_keeps HW17
    cases he
    refine step_append_srcW rfl (.const (.slice none 0 0)) (.tmp 51) 30 rfl w17.heap.size 51 hFi _ 2 8 Tryz.underlying30 hF.1 hF.2.1 hF.2.2.1 hF.2.2.2 rfl (by decide) (.slice none 0 0) 0 [] rfl (World.ownsRow_nil _ _ _ _) pf fs.length cf bf of (fs.flatMap findCells) (by simp [Act.eval]) hfp (by rw [flat_len find_len]) (fun _ => find_news hrc) find_one (by unfold maxLen; omega) (by omega) (Nat.le_refl _) ?_
    intro v18 w18 hown18 hgrow18
    have hB18 : Below w17.heap.size w17 w18 := (Below.refl _ _).grown hgrow18 (Nat.le_refl _) (fun k hk => by cases hk)
    have HW18 : Below w4.heap.size w4 w18 := HW17.trans (hB18.mono HW17.size)
    have hr18 := find_back (l := fs) (by simpa using hown18) (by omega) hfB
    refine hK _ _ ((HSD _).2 HW18) ?_
    clear hK K hrc
    simp only [Act.put, List.setIfInBounds_toArray, List.set_cons_zero, List.set_cons_succ]
    refine wpAnyS_one (i := 9) (by kernel_rfl) rfl (fun K hK => ?_)
    obtain ⟨_, _, bk, ok, he, -, -, hkp, hrc⟩ := HK.out.keep kindR_keeps HW18
    cases he
    refine step_append_srcW rfl (.const (.slice none 0 0)) (.tmp 53) 31 rfl w18.heap.size 5 hUi _ 1 1 Tryz.underlying31 hU.1 hU.2.1 hU.2.2.1 hU.2.2.2 rfl (by decide) (.slice none 0 0) 0 [] rfl (World.ownsRow_nil _ _ _ _) pk ks.length ck bk ok (ks.flatMap kdCells) (by simp [Act.eval]) hkp (by rw [flat_len kd_len]) (fun _ => kd_news hrc) kd_one (by unfold maxLen; omega) (by omega) (Nat.le_refl _) ?_
    intro v19 w19 hown19 hgrow19
    have hB19 : Below w18.heap.size w18 w19 := (Below.refl _ _).grown hgrow19 (Nat.le_refl _) (fun k hk => by cases hk)
    have HW19 : Below w4.heap.size w4 w19 := HW18.trans (hB19.mono HW18.size)
    have hr19 := kd_back (l := ks) (by simpa using hown19) (by omega) hkB
    refine hK _ _ ((HSD _).2 HW19) ?_
    clear hK K hrc
    simp only [Act.put, List.setIfInBounds_toArray, List.set_cons_zero, List.set_cons_succ]
    replace hr18 := hr18.keep findR_keeps hB19
    refine wpAnyS_one (i := 10) (by kernel_rfl) rfl (fun K hK => ?_)
    refine step_callW rfl 17 #[.tmp 52, .tmp 54] #[30, 31] rfl Tryz.func17 (by kernel_rfl) (by kernel_rfl) #[v18, v19] (by simp [Act.eval]) (audClean36 v18 v19 fs ks _ hr18 hr19) ?_
    rintro e w20 ⟨rfl, hB20⟩
    have HW20 : Below w4.heap.size w4 w20 := HW19.trans (hB20.mono HW19.size)
    refine ⟨_, rfl, hK _ _ ((HSD _).2 HW20) ?_⟩
    clear hK K
    simp only [Act.put, List.setIfInBounds_toArray, List.set_cons_zero, List.set_cons_succ]
    refine wpAnyS_one (i := 13) (by kernel_rfl) rfl (fun K hK => ?_)
    refine step_callW rfl 18 #[.tmp 56, .tmp 57] #[30, 31] rfl Tryz.func18 (by kernel_rfl) (by kernel_rfl) #[.slice pf fs.length cf, .slice pk ks.length ck] (by simp [Act.eval]) (rclean36 _ _ fs ks _ (HF.out.keep findR_keeps HW20) (HK.out.keep kindR_keeps HW20)) ?_
    rintro e w21 ⟨rfl, hB21⟩
    have HW21 : Below w4.heap.size w4 w21 := HW20.trans (hB21.mono HW20.size)
    refine ⟨_, rfl, hK _ _ ((HSD _).2 HW21) ?_⟩
    clear hK K
    simp only [Act.put, List.setIfInBounds_toArray, List.set_cons_zero, List.set_cons_succ]
    refine wpAnyS_one (i := 14) (by kernel_rfl) rfl (fun K hK => ?_)
    go_simp; refine hK _ _ ((HSD _).2 HW21) ?_; clear hK K
    refine wpAnyS_one (i := 15) (by kernel_rfl) rfl (fun K hK => ?_)
    go_simp; refine hK _ _ ((HSD _).2 HW21) ?_; clear hK K
    refine wpAnyS_one (i := 16) (by kernel_rfl) rfl (fun K hK => ?_)
    go_simp; refine hK _ _ ((HSD _).2 HW21) ?_; clear hK K
    refine wpAnyS_take [17, 18] (by kernel_rfl) (by kernel_rfl) (n := 6) rfl rfl rfl ((HSD _).2 HW21) ?_
    (refine wpReads_step (fun K hK => ?_); go_simp; refine hK _ ?_; clear hK K)
    (refine wpReads_step (fun K hK => ?_); go_simp; refine hK _ ?_; clear hK K)
    refine wpReads_nil ?_
    refine wpAnyS_one (i := 19) (by kernel_rfl) rfl (fun K hK => ?_)
    refine step_callW rfl 19 #[.tmp 62, .tmp 63] #[29, 29] rfl Tryz.func19 (by kernel_rfl) (by kernel_rfl) #[.agg #[.int .u32 x.man.pages, .slice q1 x.man.exts.length d1, .slice q2 x.man.ports.length d2, .bool x.man.cons, .int .u32 x.entry, .slice q3 x.segs.length d3], .agg #[.int .u32 x.man.pages, .slice p1 x.man.exts.length c1, .slice p2 x.man.ports.length c2, .bool x.man.cons, .int .u32 x.entry, .slice p3 x.segs.length c3]] (by simp [Act.eval]) (same16_any x _ _ _ _ _ _ _ (HY4.out.keep HW21).1 (HY4.out.keep HW21).2.1 (HX.out.keep HW21).1 (HX.out.keep HW21).2.1) ?_
    rintro e w22 ⟨rfl, hB22⟩
    have HW22 : Below w4.heap.size w4 w22 := HW21.trans (hB22.mono HW21.size)
    refine ⟨_, rfl, hK _ _ ((HSD _).2 HW22) ?_⟩
    clear hK K
    simp only [Act.put, List.setIfInBounds_toArray, List.set_cons_zero, List.set_cons_succ]
    refine wpAnyS_one (i := 20) (by kernel_rfl) rfl (fun K hK => ?_)
    go_simp; refine hK _ _ ((HSD _).2 HW22) ?_; clear hK K
    refine wpAnyS_one (i := 21) (by kernel_rfl) rfl (fun K hK => ?_)
    go_simp; refine hK _ _ ((HSD _).2 HW22) ?_; clear hK K
    refine wpAnyS_one (i := 22) (by kernel_rfl) rfl (fun K hK => ?_)
    refine step_callW rfl 5 #[] #[] rfl Tryz.func5 (by kernel_rfl) (by kernel_rfl) #[] (by simp) (alive36 _) ?_
    rintro e w23 ⟨rfl, hB23⟩
    have HW23 : Below w4.heap.size w4 w23 := HW22.trans (hB23.mono HW22.size)
    refine ⟨_, rfl, hK _ _ ((HSD _).2 HW23) ?_⟩
    clear hK K
    simp only [Act.put, List.setIfInBounds_toArray, List.set_cons_zero, List.set_cons_succ]
    refine wpAnyS_one (i := 23) (by kernel_rfl) rfl (fun K hK => ?_)
    go_simp; refine hK _ _ ((HSD _).2 HW23) ?_; clear hK K
    refine wpAnyS_one (i := 24) (by kernel_rfl) rfl (fun K hK => ?_)
    go_simp; refine hK _ _ ((HSD _).2 HW23) ?_; clear hK K
    refine wpAnyS_done (by kernel_rfl) (NoPanic.normal ?_)

    go_wp2
    go_ret
    exact ⟨rfl, HB4.out.trans (HW23.mono HB4.out.size)⟩
end Go.Proofs.YtghopakbefageaaGreat
