/- The walk of demand.Check, at any manifest: the function itself. The walk of image.Check, at any image. -/
import Derived.Test.YtghopakbefageaaGreatBt23
import Derived.Test.YtghopakbefageaaGreatBt20
import Derived.Test.YtghopakbefageaaGreatBt21
namespace Go.Proofs.YtghopakbefageaaGreat
open Go.RowKit Go.Maps Go.Shelf
theorem eg1 : ∀ args w, (callFunc 86 args).run Tryz.prog w = .ok (.enter 86 args) w := enters_of Tryz.func86 (by kernel_rfl) rfl
theorem extBad_any (l : List (Int × Int)) : l.any extBad = !l.all extOk := by
  rw [List.not_all_eq_any_not]
  congr 1
  funext x
  rw [Bool.eq_iff_iff]
  simp [extBad, extOk]
theorem port0_any (l : List Int) : (l.any fun y => decide ((0 : Int) = y)) = l.contains 0 := by
  rw [Bool.eq_iff_iff]
  simp
set_option maxHeartbeats 4000000 in
theorem manCheck36 (m : GMan) (ve vp : Value) (w : World) (h : ManAt w m ve vp) :
    Calls Tryz.prog 61 #[.agg #[.int .u32 m.pages, ve, vp, .bool m.cons]] w fun e w' => e = .returned (.int .i64 (erI (manOkB m) 2)) ∧ Below w.heap.size w w' := by
  have HOK : Hid (manOkB m = (m.exts.all extOk && riseE m.exts && riseP m.ports && !m.ports.contains 0 && decide (m.ports.length ≤ 16) && decide (m.pages ≤ 1024))) := Lib.hid rfl
  obtain ⟨mp, me, mq, mc⟩ := m
  obtain ⟨he, hq, hp0, hp1⟩ := h
  simp only [] at he hq hp0 hp1 HOK
  have H1 : Hid (∀ W, Below w.heap.size w W → Calls Tryz.prog 85 #[ve, .func (.func 86) #[] #[]] W fun e w' => e = .returned (.bool (!me.all extOk)) ∧ Below W.heap.size W w') := fun W hW => by
    have := containsE_any ve me W extBad 86 #[] eg1 (he.keep extR_keeps hW) (fun W' x hb => (chk1_any x W').mono fun _ _ ⟨e, hB⟩ => ⟨e, hb.trans (hB.mono hb.size)⟩)
    rw [extBad_any] at this
    exact this
  have H2 : Hid (∀ W, Below w.heap.size w W → Calls Tryz.prog 87 #[ve, .func (.func 88) #[] #[]] W fun e w' => e = .returned (.bool (riseE me)) ∧ Below W.heap.size W w') := fun W hW => risesE36 ve me W (he.keep extR_keeps hW)
  have H3 : Hid (∀ W, Below w.heap.size w W → Calls Tryz.prog 89 #[vp, .func (.func 90) #[] #[]] W fun e w' => e = .returned (.bool (riseP mq)) ∧ Below W.heap.size W w') := fun W hW => risesP36 vp mq W (hq.keep portR_keeps hW)
  have H4 : Hid (∀ W, Below w.heap.size w W → Calls Tryz.prog 91 #[vp, .int .u16 0] W fun e w' => e = .returned (.bool (mq.contains 0)) ∧ w' = W) := fun W hW => by
    have := contains16_any vp mq 0 W (hq.keep portR_keeps hW)
    rw [port0_any] at this
    exact this
  obtain ⟨p1, c1, b1, o1, rfl, -⟩ := he
  obtain ⟨p2, c2, b2, o2, rfl, -⟩ := hq
  generalize me.all extOk = t1 at H1 HOK
  generalize riseE me = t2 at H2 HOK
  generalize riseP mq = t3 at H3 HOK
  generalize mq.contains 0 = t4 at H4 HOK
  have h16 : Hid ((decide (mq.length ≤ 16) = true ∧ ¬ (16 : Int) < (mq.length : Int)) ∨ (decide (mq.length ≤ 16) = false ∧ (16 : Int) < (mq.length : Int))) := by
    by_cases h : mq.length ≤ 16
    · exact .inl ⟨decide_eq_true h, by omega⟩
    · exact .inr ⟨decide_eq_false h, by omega⟩
  generalize hW0 : (w.alloc (.cells #[.int .u32 mp, .slice p1 me.length c1, .slice p2 mq.length c2, .bool mc] 26)) = w1
  have HB1 : Hid (Below w.heap.size w w1) := by subst hW0; exact alloc_old w _
  have hz : w.heap.size < w1.heap.size := by subst hW0; simp
  have HN : Hid (w1.heap[w.heap.size]? = some (.cells #[.int .u32 mp, .slice p1 me.length c1, .slice p2 mq.length c2, .bool mc] 26 (0, 0))) := by subst hW0; exact new_block w _
  have a0 := Lib.cell_of_heap HN.out 0
  have a1 := Lib.cell_of_heap HN.out 1
  have a2 := Lib.cell_of_heap HN.out 2
  subst hW0
  go_enter Tryz.func61, Tryz.ntmps61
  go_wp2_with fail
  refine (H1.out _ HB1.out).mono ?_
  rintro e w2 ⟨rfl, hB2⟩
  have b1 := cell_keep hB2 hz a1
  have b2 := cell_keep hB2 hz a2
  have b0 := cell_keep hB2 hz a0
  have HB2 : Hid (Below w.heap.size w w2) := HB1.out.trans (hB2.mono (by omega))
  have hz2 : w.heap.size < w2.heap.size := by have := hB2.size; omega
  clear a0 a1 a2 hB2 hz HN HB1 H1
  cases t1 with
  | false =>
    go_wp2
    go_ret
    exact ⟨by rw [HOK.out]; rfl, HB2.out⟩
  | true =>
  go_wp2_with fail
  refine (H2.out _ HB2.out).mono ?_
  rintro e w3 ⟨rfl, hB3⟩
  have d2 := cell_keep hB3 hz2 b2
  have d0 := cell_keep hB3 hz2 b0
  have HB3 : Hid (Below w.heap.size w w3) := HB2.out.trans (hB3.mono (by omega))
  have hz3 : w.heap.size < w3.heap.size := by have := hB3.size; omega
  clear b0 b1 b2 hB3 hz2 HB2 H2
  cases t2 with
  | false =>
    go_wp2
    go_ret
    exact ⟨by rw [HOK.out]; rfl, HB3.out⟩
  | true =>
  go_wp2_with fail
  refine (H3.out _ HB3.out).mono ?_
  rintro e w4 ⟨rfl, hB4⟩
  have e2 := cell_keep hB4 hz3 d2
  have e0 := cell_keep hB4 hz3 d0
  have HB4 : Hid (Below w.heap.size w w4) := HB3.out.trans (hB4.mono (by omega))
  clear d0 d2 hB4 hz3 HB3 H3
  cases t3 with
  | false =>
    go_wp2
    go_ret
    exact ⟨by rw [HOK.out]; rfl, HB4.out⟩
  | true =>
  go_wp2_with fail
  refine (H4.out _ HB4.out).mono ?_
  rintro e w5 ⟨rfl, rfl⟩
  clear H4
  cases t4 with
  | true =>
    go_wp2
    go_ret
    exact ⟨by rw [HOK.out]; rfl, HB4.out⟩
  | false =>
  rcases h16.out with ⟨h1, h2⟩ | ⟨h1, h2⟩
  · rw [h1] at HOK
    clear h1
    by_cases h3 : 1024 < mp
    · have h4 : decide (mp ≤ 1024) = false := decide_eq_false (by omega)
      rw [h4] at HOK
      clear h4
      go_wp2
      go_ret
      exact ⟨by rw [HOK.out]; rfl, HB4.out⟩
    · have h4 : decide (mp ≤ 1024) = true := decide_eq_true (by omega)
      rw [h4] at HOK
      clear h4
      go_wp2
      go_ret
      exact ⟨by rw [HOK.out]; rfl, HB4.out⟩
  · rw [h1] at HOK
    clear h1
    go_wp2
    go_ret
    exact ⟨by rw [HOK.out]; simp [erI], HB4.out⟩
end Go.Proofs.YtghopakbefageaaGreat
namespace Go.Proofs.YtghopakbefageaaGreat
open Go.RowKit Go.Maps Go.Shelf
/-- an image: its manifest's rows, and its segments' -/
def ImgAt (w : World) (x : GImg) (ve vp vs : Value) : Prop := ManAt w x.man ve vp ∧ RowAt 3 SegR w vs x.segs ∧ 0 ≤ x.entry ∧ x.entry ≤ 4294967295
def imgV (x : GImg) (ve vp vs : Value) : Value := .agg #[.int .u32 x.man.pages, ve, vp, .bool x.man.cons, .int .u32 x.entry, vs]
theorem ImgAt.keep {w w' : World} {x : GImg} {ve vp vs : Value} (hb : Below w.heap.size w w') (h : ImgAt w x ve vp vs) : ImgAt w' x ve vp vs := ⟨h.1.keep hb, h.2.1.keep segR_keeps hb, h.2.2⟩
theorem len_listB (s : ByteArray) : s.data.toList.length = s.size := by unfold ByteArray.size; simp
theorem any_take_snoc {α : Type} {l : List α} {p : α → Bool} {k : Nat} {x : α} (h : k < l.length) (hx : l[k] = x) : (l.take (k + 1)).any p = ((l.take k).any p || p x) := by
  rw [List.take_succ_eq_append_getElem h, hx]; simp
theorem segsGo_at {l : List GSeg} {k : Nat} {fr : Int} {x : GSeg} (h : k < l.length) (hx : l[k] = x) : segsOkGo fr (l.drop k) = (segOkP fr x && segsOkGo (roundP (endOf x)) (l.drop (k + 1))) := by
  rw [List.drop_eq_getElem_cons h, hx, segsOkGo]
set_option maxHeartbeats 8000000 in
set_option maxRecDepth 100000 in
theorem imgCheck36 (x : GImg) (ve vp vs : Value) (w : World) (h : ImgAt w x ve vp vs) :
    Calls Tryz.prog 42 #[imgV x ve vp vs] w fun e w' => e = .returned (.int .i64 (erI (imgOkB x) 2)) ∧ Below w.heap.size w w' := by
  have H1 : Hid (∀ W, Below w.heap.size w W → Calls Tryz.prog 61 #[.agg #[.int .u32 x.man.pages, ve, vp, .bool x.man.cons]] W fun e w' => e = .returned (.int .i64 (erI (manOkB x.man) 2)) ∧ Below W.heap.size W w') := fun W hW => manCheck36 x.man ve vp W (h.1.keep hW)
  have HOK : Hid (imgOkB x = (manOkB x.man && decide (1 ≤ x.segs.length) && decide (x.segs.length ≤ 8) && decide (x.entry % 8 = 0) && segsOkGo 256 x.segs && x.segs.any (begP x.entry))) := Lib.hid rfl
  unfold imgV
  obtain ⟨⟨⟨p1, c1, _, _, rfl, -⟩, ⟨p2, c2, _, _, rfl, -⟩, -⟩, ⟨p3, c3, b3, o3, rfl, -, hmx3, hp3, hc3⟩, hen0, hen1⟩ := h
  generalize manOkB x.man = tm at H1 HOK
  obtain ⟨⟨mp, me, mq, mc⟩, en, sg⟩ := x
  simp only [] at *
  have HC := Lib.hid hc3; clear hc3
  have HP := Lib.hid hp3; clear hp3
  have hr8 : en.tmod 8 = en % 8 := Int.tmod_eq_emod_of_nonneg hen0
  generalize hW : (w.alloc (.cells #[.int .u32 mp, .slice p1 me.length c1, .slice p2 mq.length c2, .bool mc, .int .u32 en, .slice p3 sg.length c3] 29)) = w1
  have HB1 : Hid (Below w.heap.size w w1) := by subst hW; exact alloc_old w _
  have HM : Hid (w1.heap[w.heap.size]? = some (.cells #[.int .u32 mp, .slice p1 me.length c1, .slice p2 mq.length c2, .bool mc, .int .u32 en, .slice p3 sg.length c3] 29 (0, 0))) := by subst hW; exact new_block w _
  have hz1 : w1.heap.size = w.heap.size + 1 := by subst hW; simp
  have a0 := Lib.cell_of_heap HM.out 0
  have a1 := Lib.cell_of_heap HM.out 1
  have a2 := Lib.cell_of_heap HM.out 2
  have a3 := Lib.cell_of_heap HM.out 3
  subst hW
  go_enter Tryz.func42, Tryz.ntmps42
  go_wp2_with fail
  refine (H1.out _ HB1.out).mono ?_
  rintro e w2 ⟨rfl, hB2⟩
  have HM2 := Lib.hid ((hB2.block _ (by omega)).trans HM.out)
  have HB2 : Hid (Below w.heap.size w w2) := HB1.out.trans (hB2.mono HB1.out.size)
  have hz2 : w.heap.size < w2.heap.size := by have := hB2.size; omega
  clear a0 a1 a2 a3 hB2 hz1 HB1 HM H1
  have a4 := Lib.cell_of_heap HM2.out 4
  have a5 := Lib.cell_of_heap HM2.out 5
  cases tm with
  | false =>
    simp only [erI]
    go_wp2
    go_ret
    exact ⟨by rw [HOK.out]; rfl, HB2.out⟩
  | true =>
  simp only [erI]
  by_cases hn1 : 1 ≤ sg.length
  case neg =>
    have hl1 : (sg.length : Int) < 1 := by omega
    have h4 : decide (1 ≤ sg.length) = false := decide_eq_false hn1
    rw [h4] at HOK
    clear h4 hn1
    go_wp2
    go_ret
    exact ⟨by rw [HOK.out]; rfl, HB2.out⟩
  have h4 : decide (1 ≤ sg.length) = true := decide_eq_true hn1
  rw [h4] at HOK
  clear h4
  by_cases hn2 : sg.length ≤ 8
  case neg =>
    have hl1 : ¬ ((sg.length : Int) < 1) := by omega
    have hl2 : (8 : Int) < (sg.length : Int) := by omega
    have h4 : decide (sg.length ≤ 8) = false := decide_eq_false hn2
    rw [h4] at HOK
    clear h4 hn1 hn2
    go_wp2
    go_ret
    exact ⟨by rw [HOK.out]; rfl, HB2.out⟩
  have hl1 : ¬ ((sg.length : Int) < 1) := by omega
  have hl2 : ¬ ((8 : Int) < (sg.length : Int)) := by omega
  have h4 : decide (sg.length ≤ 8) = true := decide_eq_true hn2
  rw [h4] at HOK
  clear h4
  by_cases hn3 : en % 8 = 0
  case neg =>
    have h4 : decide (en % 8 = 0) = false := decide_eq_false hn3
    rw [h4] at HOK
    clear h4
    have h5 : (en % 8 != 0) = true := by simp [hn3]
    clear hn3
    go_wp2
    go_ret
    exact ⟨by rw [HOK.out]; rfl, HB2.out⟩
  have h4 : decide (en % 8 = 0) = true := decide_eq_true hn3
  rw [h4] at HOK
  clear h4
  simp only [Bool.true_and] at HOK
  go_wp2_with fail
  clear hn3
  go_loopw [3, 4, 32] (fun v3 v4 v32 wr => ∃ (k : Nat) (fr : Int) (be : Bool), v32 = .int .i64 k ∧ k ≤ sg.length ∧ v3 = .int .u64 fr ∧ v4 = .bool be ∧ 0 ≤ fr ∧ fr ≤ 1048576 ∧ segsOkGo 256 sg = segsOkGo fr (sg.drop k) ∧ (sg.take k).any (begP en) = be ∧ Below w2.heap.size w2 wr) (fun _ _ v32 _ => sg.length - (intOf v32).toNat)
  case atStart => exact ⟨0, 256, false, by go_num, Nat.zero_le _, rfl, rfl, by omega, by omega, rfl, rfl, Below.refl _ _⟩
  case round =>
    obtain ⟨k, fr, be, rfl, hk, rfl, rfl, hf0, hf1, hsk, hbe, hB⟩ := hrel
    have HSK := Lib.hid hsk; clear hsk
    have HBE := Lib.hid hbe; clear hbe
    have HB := Lib.hid hB
    have HBO : Hid (Below w.heap.size w wr) := HB2.out.trans (hB.mono (by omega))
    have HMR := Lib.hid ((hB.block _ hz2).trans HM2.out)
    have hzr : w.heap.size < wr.heap.size := by have := hB.size; omega
    clear hB a4 a5
    by_cases hlt : k < sg.length
    · obtain rfl := HP.out (by omega)
      obtain ⟨g0, g1, g2, g3, g4, g5, g6⟩ := segR_keeps _ _ _ _ _ HBO.out (HC.out k hlt)
      generalize hxk : sg[k] = x at g1 g2 g3 g4 g5 g6
      obtain ⟨xa, xp, xb⟩ := x
      have HSG : Hid (segsOkGo fr (sg.drop k) = (permOk xp && decide (xa % 256 = 0) && decide (fr ≤ xa) && decide (1 ≤ xb.size) && decide (xa + (xb.size : Int) ≤ 131072) && segsOkGo ((xa + (xb.size : Int) + 255) / 256 * 256) (sg.drop (k + 1)))) := Lib.hid (segsGo_at (fr := fr) hlt hxk)
      have HAN : Hid ((sg.take (k + 1)).any (begP en) = (be || (decide (xp = 5) && decide (xa ≤ en) && decide (en + 8 ≤ xa + (xb.size : Int))))) := Lib.hid (by rw [any_take_snoc (p := begP en) hlt hxk, HBE.out]; rfl)
      clear hxk
      simp only [] at g1 g2 g3 g4 g5 g6
      have HPM := Lib.hid (perms_any xp (wr.alloc (.cells #[.int .u32 xa, .int .u8 xp, .string xb] 45)))
      have hpo : (decide (xp = 1) || (decide (xp = 3) || decide (xp = 5))) = permOk xp := by unfold permOk; rw [Bool.or_assoc]
      rw [hpo] at HPM
      clear hpo
      have HPO : Hid (permOk xp = true → xp = 1 ∨ xp = 3 ∨ xp = 5) := fun h => by
        unfold permOk at h; simp at h; omega
      generalize permOk xp = tp at HPM HPO HSG
      go_wp2_with fail
      refine HPM.out.mono ?_
      rintro e w4 ⟨rfl, hB4⟩
      have q0 := cell_keep hB4 (by simp) (show (wr.alloc (.cells #[.int .u32 xa, .int .u8 xp, .string xb] 45)).cell? ⟨wr.heap.size, 0, none⟩ = some (.int .u32 xa) by simp [go_sem])
      have q1 := cell_keep hB4 (by simp) (show (wr.alloc (.cells #[.int .u32 xa, .int .u8 xp, .string xb] 45)).cell? ⟨wr.heap.size, 1, none⟩ = some (.int .u8 xp) by simp [go_sem])
      have q2 := cell_keep hB4 (by simp) (show (wr.alloc (.cells #[.int .u32 xa, .int .u8 xp, .string xb] 45)).cell? ⟨wr.heap.size, 2, none⟩ = some (.string xb) by simp [go_sem])
      have HB4 : Hid (Below wr.heap.size wr w4) := (alloc_old wr _).trans (hB4.mono (by simp))
      have HBO4 : Hid (Below w.heap.size w w4) := HBO.out.trans (HB4.out.mono HBO.out.size)
      have hz4 : wr.heap.size < w4.heap.size := by have := hB4.size; simp at this; omega
      clear HPM hB4 g1 g2 g3
      cases tp with
      | false =>
        have HF : Hid (imgOkB ⟨⟨mp, me, mq, mc⟩, en, sg⟩ = false) := Lib.hid (by rw [HOK.out, HSK.out, HSG.out]; rfl)
        clear HOK
        go_wp2
        go_ret
        exact ⟨by rw [HF.out]; rfl, HBO4.out⟩
      | true =>
      have r1 : xa.tmod 256 = xa % 256 := Int.tmod_eq_emod_of_nonneg g4.1
      by_cases ha : xa % 256 = 0
      case neg =>
        have r2 : (xa % 256 != 0) = true := by simp [ha]
        have HF : Hid (imgOkB ⟨⟨mp, me, mq, mc⟩, en, sg⟩ = false) := Lib.hid (by rw [HOK.out, HSK.out, HSG.out, decide_eq_false ha]; simp)
        clear HOK ha
        go_wp2
        go_ret
        exact ⟨by rw [HF.out]; rfl, HBO4.out⟩
      have r2 : (xa % 256 != 0) = false := by simp [ha]
      have r3 : IntKind.u64.wrap xa = xa := IntWalk.u64_in _ (by omega)
      by_cases hfa : fr ≤ xa
      case neg =>
        have r4 : xa < fr := by omega
        have HF : Hid (imgOkB ⟨⟨mp, me, mq, mc⟩, en, sg⟩ = false) := Lib.hid (by rw [HOK.out, HSK.out, HSG.out, decide_eq_false hfa]; simp)
        clear HOK hfa
        go_wp2
        go_ret
        exact ⟨by rw [HF.out]; rfl, HBO4.out⟩
      have r4 : ¬ xa < fr := by omega
      by_cases hs1 : 1 ≤ xb.size
      case neg =>
        have r5 : xb.toList = [] := by
          have : xb.toList.length = 0 := by rw [ByteArray.toList_eq, len_listB]; omega
          exact List.eq_nil_of_length_eq_zero this
        have HF : Hid (imgOkB ⟨⟨mp, me, mq, mc⟩, en, sg⟩ = false) := Lib.hid (by rw [HOK.out, HSK.out, HSG.out, decide_eq_false hs1]; simp)
        have r6 : xb.toList.isEmpty = true := by rw [r5]; rfl
        clear HOK hs1
        go_wp2
        go_ret
        exact ⟨by rw [HF.out]; rfl, HBO4.out⟩
      have r5 : xb.toList.isEmpty = false := by
        cases hxb : xb.toList with
        | nil =>
          have : xb.toList.length = 0 := by rw [hxb]; rfl
          rw [ByteArray.toList_eq, len_listB] at this
          omega
        | cons a b => rfl
      have HEN := Lib.hid (iend_any xa xp xb w4 g4.1 g4.2 g6)
      rw [decide_eq_true ha, decide_eq_true hfa, decide_eq_true hs1] at HSG
      simp only [Bool.true_and] at HSG
      clear ha hs1
      have hE1 : xa + (xb.size : Int) ≤ 140737488355328 + 4294967295 := by omega
      have hE0 : 0 ≤ xa + (xb.size : Int) := by omega
      generalize hE : xa + (xb.size : Int) = E at HSG HAN HEN hE1 hE0
      have HE := Lib.hid hE; clear hE
      by_cases hEm : E ≤ 131072
      case neg =>
        have r6 : 131072 < E := by omega
        have HF : Hid (imgOkB ⟨⟨mp, me, mq, mc⟩, en, sg⟩ = false) := Lib.hid (by rw [HOK.out, HSK.out, HSG.out, decide_eq_false hEm]; simp)
        clear HOK hEm
        go_wp2_with fail
        refine HEN.out.mono ?_
        rintro e w5 ⟨rfl, hB5⟩
        have HBO5 := Lib.hid (HBO4.out.trans (hB5.mono HBO4.out.size))
        clear hB5
        go_wp2
        go_ret
        exact ⟨by rw [HF.out]; rfl, HBO5.out⟩
      have r6 : ¬ 131072 < E := by omega
      rw [decide_eq_true hEm] at HSG
      simp only [Bool.true_and] at HSG
      go_wp2_with fail
      refine HEN.out.mono ?_
      rintro e w5 ⟨rfl, hB5⟩
      have HEN2 : Hid (Calls Tryz.prog 63 #[.agg #[.int .u32 xa, .int .u8 xp, .string xb]] w5 fun e w' => e = .returned (.int .u64 E) ∧ Below w5.heap.size w5 w') := by
        have := iend_any xa xp xb w5 g4.1 g4.2 g6
        rw [HE.out] at this
        exact this
      replace q0 := cell_keep hB5 hz4 q0
      replace q1 := cell_keep hB5 hz4 q1
      replace q2 := cell_keep hB5 hz4 q2
      have HB5 : Hid (Below wr.heap.size wr w5) := HB4.out.trans (hB5.mono (by omega))
      have hz5 : wr.heap.size < w5.heap.size := by have := hB5.size; omega
      clear HEN hB5 HB4 hz4 HBO4
      go_wp2_with fail
      refine HEN2.out.mono ?_
      rintro e w6 ⟨rfl, hB6⟩
      replace q0 := cell_keep hB6 hz5 q0
      replace q1 := cell_keep hB6 hz5 q1
      replace q2 := cell_keep hB6 hz5 q2
      have HB6 : Hid (Below wr.heap.size wr w6) := HB5.out.trans (hB6.mono (by omega))
      have hz6 : wr.heap.size < w6.heap.size := by have := hB6.size; omega
      have a4 := cell_keep HB6.out hzr (Lib.cell_of_heap HMR.out 4)
      clear HEN2 hB6 HB5 hz5 r1 r2 r3 r4 r5 r6
      have u1 : IntKind.u64.wrap (E + 256) = E + 256 := IntWalk.u64_in _ (by omega)
      have u2 : IntKind.u64.wrap (E + 256 - 1) = E + 255 := by rw [IntWalk.u64_in _ (by omega)]; omega
      have u3 : (E + 255).tdiv 256 = (E + 255) / 256 := Int.tdiv_eq_ediv_of_nonneg (by omega)
      have u4 : IntKind.u64.wrap ((E + 255) / 256) = (E + 255) / 256 := IntWalk.u64_in _ (by omega)
      have u5 : IntKind.u64.wrap ((E + 255) / 256 * 256) = (E + 255) / 256 * 256 := IntWalk.u64_in _ (by omega)
      have s1 := HPO.out (by simp)
      have hcs : be = true ∨ (be = false ∧ (xp = 1 ∨ xp = 3)) ∨ (be = false ∧ xp = 5 ∧ Hid (decide (xa ≤ en) = false)) ∨ (be = false ∧ xp = 5 ∧ Hid (decide (xa ≤ en) = true) ∧ Hid (decide (en + 8 ≤ E) = false)) ∨ (be = false ∧ xp = 5 ∧ Hid (decide (xa ≤ en) = true) ∧ Hid (decide (en + 8 ≤ E) = true)) := by
        cases be with
        | true => exact .inl rfl
        | false =>
          rcases s1 with h | h | h
          · exact .inr (.inl ⟨rfl, .inl h⟩)
          · exact .inr (.inl ⟨rfl, .inr h⟩)
          · by_cases h1 : xa ≤ en
            · by_cases h2 : en + 8 ≤ E
              · exact .inr (.inr (.inr (.inr ⟨rfl, h, decide_eq_true h1, decide_eq_true h2⟩)))
              · exact .inr (.inr (.inr (.inl ⟨rfl, h, decide_eq_true h1, decide_eq_false h2⟩)))
            · exact .inr (.inr (.inl ⟨rfl, h, decide_eq_false h1⟩))
      have HG4 := Lib.hid (And.intro g4.1 (And.intro g4.2 g6))
      have v1 : IntKind.u64.wrap en = en := IntWalk.u64_in _ (by omega)
      have v2 : IntKind.u64.wrap (en + 8) = en + 8 := IntWalk.u64_in _ (by omega)
      clear s1
      have b0 := bw_cell hz6 q0
      have b1 := bw_cell hz6 q1
      have b2 := bw_cell hz6 q2
      have b4 := bw_cell (show w.heap.size < w6.heap.size by omega) a4
      have HCL : Hid (∀ z : BW w6, Calls Tryz.prog 63 #[.agg #[.int .u32 xa, .int .u8 xp, .string xb]] z.u fun e w' => e = .returned (.int .u64 E) ∧ ∃ y : BW w6, w' = y.u) := fun z => calls_below (by
        have := iend_any xa xp xb z.u HG4.out.1 HG4.out.2.1 HG4.out.2.2
        rw [HE.out] at this
        exact this)
      clear g4 g5 g6 hfa q0 q1 q2 a4 HPO
      have k1 : bits BinOp.and IntKind.u8 1 4 = 0 := by decide +kernel
      have k3 : bits BinOp.and IntKind.u8 3 4 = 0 := by decide +kernel
      have k5 : bits BinOp.and IntKind.u8 5 4 = 4 := by decide +kernel
      rcases hcs with rfl | ⟨rfl, rfl | rfl⟩ | ⟨rfl, rfl, y1⟩ | ⟨rfl, rfl, y1, y2⟩ | ⟨rfl, rfl, y1, y2⟩
      all_goals
        go_wp2_with fail
        try (have z1 := y1.out)
        try (have z2 := y2.out)
        refine wp_region_below rfl (by kernel_rfl) ?_
        repeat (first | go_big_quiet_skip | quiet_step ((go_at_call 63; exact HCL.out _)))
        refine wpQuiet_nil ?_
        rintro w7 hx7; have hB7 : Below w6.heap.size w6 w7 := bw_of hx7; clear hx7
        clear b0 b1 b2 b4 HCL k1 k3 k5
        go_wp2
        go_roundw
        case rel =>
          refine ⟨k + 1, (E + 255) / 256 * 256, _, by go_num, by omega, rfl, rfl, by omega, by omega, by rw [HSK.out, HSG.out], ?_, HB.out.trans ((HB6.out.trans (hB7.mono HB6.out.size)).mono HB.out.size)⟩
          rw [HAN.out]
          try (have z1 := y1.out)
          try (have z2 := y2.out)
          simp [*]
        case measure => simp [intOf]; omega
    · obtain rfl : k = sg.length := by omega
      have HSN := Lib.hid HSK.out
      rw [List.drop_eq_nil_of_le (Nat.le_refl _), segsOkGo] at HSN
      have HBN := Lib.hid HBE.out
      rw [List.take_length] at HBN
      rw [HSN.out, HBN.out] at HOK
      clear HSK HBE HSN HBN
      cases be with
      | true =>
        go_wp2
        go_ret
        exact ⟨by rw [HOK.out]; rfl, HBO.out⟩
      | false =>
        go_wp2
        go_ret
        exact ⟨by rw [HOK.out]; rfl, HBO.out⟩
end Go.Proofs.YtghopakbefageaaGreat
