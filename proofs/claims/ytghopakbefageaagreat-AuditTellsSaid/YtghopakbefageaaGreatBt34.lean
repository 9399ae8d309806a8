/- The walks of aediculeref16's pages and entry. -/
import Derived.Test.YtghopakbefageaaGreatBt28
namespace Go.Proofs.YtghopakbefageaaGreat
open Go.RowKit Go.Maps
def pagesL (s : GSeg) (m : Nat) : List Int := (List.range m).map fun j : Nat => s.addr + 256 * j
def pagesN (s : GSeg) : Nat := (s.bytes.size + 255) / 256
def PagesPost (s : GSeg) (w : World) (e : Ending) (w' : World) : Prop := ∃ v, e = .returned v ∧ RowAt 1 NumR w' v (pagesL s (pagesN s)) ∧ Below w.heap.size w w'
theorem pagesL_succ (s : GSeg) (m : Nat) : pagesL s (m + 1) = pagesL s m ++ [s.addr + 256 * m] := by
  unfold pagesL; rw [List.range_succ]; simp
theorem pagesL_len (s : GSeg) (m : Nat) : (pagesL s m).length = m := by simp [pagesL]
set_option maxHeartbeats 2000000 in
set_option maxRecDepth 100000 in
theorem rpages36 (s : GSeg) (w : World) (ha0 : 0 ≤ s.addr) (hs : s.addr + s.bytes.size ≤ 131072) :
    Calls Tryz.prog 67 #[.agg #[.int .u32 s.addr, .int .u8 s.perm, .string s.bytes]] w (PagesPost s w) := by
  obtain ⟨iN, hi, hz0, hz1, hz2⟩ := info_parts info_num
  have HI := Lib.hid (And.intro hi (And.intro hz0 (And.intro hz1 hz2)))
  clear hi hz0 hz1 hz2
  obtain ⟨M, hM⟩ : ∃ M, pagesN s = M := ⟨_, rfl⟩
  have HMM := Lib.hid hM
  have HSU := Lib.hid (pagesL_succ s)
  have hMb : 256 * M < s.bytes.size + 256 := by subst hM; unfold pagesN; omega
  have hMa : s.bytes.size ≤ 256 * M := by subst hM; unfold pagesN; omega
  clear hM
  have HN : Hid (w.heap.size < (w.alloc (.cells #[.int .u32 s.addr, .int .u8 s.perm, .string s.bytes] 45)).heap.size) := Lib.hid (by simp)
  go_enter Tryz.func67, Tryz.ntmps67
  go_wp2_with fail
  have c0 : (w.alloc (.cells #[.int .u32 s.addr, .int .u8 s.perm, .string s.bytes] 45)).heap[w.heap.size]? = some (.cells #[.int .u32 s.addr, .int .u8 s.perm, .string s.bytes] 45 (0, 0)) := new_block w _
  have HC0 := Lib.hid c0; clear c0
  have HB0 : Hid (Below w.heap.size w (w.alloc (.cells #[.int .u32 s.addr, .int .u8 s.perm, .string s.bytes] 45))) := alloc_old w _
  generalize w.alloc (.cells #[.int .u32 s.addr, .int .u8 s.perm, .string s.bytes] 45) = w1 at *
  go_loopw [3, 4] (fun v3 v4 wr => ∃ k : Nat, k ≤ M ∧ v4 = .int .i64 (256 * (k : Int)) ∧ wr.ownsRow w1.heap.size 22 1 v3 k ((pagesL s k).map (Value.int .u32)) ∧ Below w1.heap.size w1 wr) (fun _ v4 _ => 200000 - (intOf v4).toNat)
  case atStart => exact ⟨0, Nat.zero_le _, rfl, World.ownsRow_nil _ _ _ _, Below.refl _ _⟩
  case round =>
    obtain ⟨k, hk, rfl, hown, hbel⟩ := hrel
    have HOWN := Lib.hid hown; clear hown
    have HB := Lib.hid hbel
    have hsz := HB.out.size
    have HCR := Lib.hid ((hbel.block _ HN.out).trans HC0.out)
    clear hbel
    have a0 := Lib.cell_of_heap HCR.out 0
    have a2 := Lib.cell_of_heap HCR.out 2
    have hne : ¬ wr.heap.size = w.heap.size := by have := HN.out; omega
    by_cases hlt : k < M
    · have hkn : 256 * (k : Int) < (s.bytes.size : Int) := by omega
      have w2 : IntKind.u32.wrap (256 * (k : Int)) = 256 * (k : Int) := by rw [IntKind.wrap_u32]; omega
      have w3 : IntKind.u32.wrap (s.addr + 256 * (k : Int)) = s.addr + 256 * (k : Int) := by rw [IntKind.wrap_u32]; omega
      have w4 : 256 * (k : Int) % 4294967296 = 256 * (k : Int) := by omega
      have w5 : (s.addr + 256 * (k : Int)) % 4294967296 = s.addr + 256 * (k : Int) := by omega
      go_wp2_with (at_builtin; refine wpList_append_own _ rfl _ _ 38 rfl w1.heap.size 22 iN (.int .u32 0) 1 4 Tryz.underlying38 HI.out.1 HI.out.2.1 HI.out.2.2.1 HI.out.2.2.2 rfl (by decide) _ _ _ rfl (HOWN.out.alloc _) ⟨wr.heap.size, 0, none⟩ 1 1 [.int .u32 (s.addr + 256 * (k : Int))] rfl rfl ?c1 one_u32 ?c3 ?c4 ?c5 ?_)
      case c1 => exact one_news (by simp [go_sem])
      case c3 => unfold maxLen; omega
      case c4 => omega
      case c5 => simp; omega
      intro v' w6 hown' hgrow _
      have HO2 : Hid (w6.ownsRow w1.heap.size 22 1 v' (k + 1) ((pagesL s (k + 1)).map (Value.int .u32))) := by
        rw [Hid, HSU.out, List.map_append]; exact hown'
      have HB2 := Lib.hid ((HB.out.alloc hsz _).grown hgrow (by simp; omega) (fun k hk => (HOWN.out.lt k hk).1))
      clear hown' hgrow HOWN HB w2 w3 w4 w5
      go_wp2
      go_roundw
      case rel => exact ⟨k + 1, by omega, by go_num, HO2.out, HB2.out⟩
      case measure => simp [intOf]; omega
    · obtain rfl : k = M := by omega
      have hkn : ¬ 256 * (k : Int) < (s.bytes.size : Int) := by omega
      go_wp2
      go_ret
      refine ⟨_, rfl, ?_, HB0.out.trans (HB.out.mono (Nat.le_of_lt HN.out))⟩
      rw [HMM.out]
      refine num_back (by rw [pagesL_len]; exact HOWN.out) (by rw [pagesL_len]; omega) fun x hx => ?_
      unfold pagesL at hx
      obtain ⟨j, hj, rfl⟩ := List.mem_map.1 hx
      have := List.mem_range.1 hj
      omega
set_option maxHeartbeats 4000000 in
set_option maxRecDepth 100000 in
theorem rentry36 (x : GImg) (ve vp vs : Value) (w : World) (h : ImgAt w x ve vp vs) :
    Calls Tryz.prog 69 #[imgV x ve vp vs] w fun e w' => e = .returned (.bool (x.segs.any (begP x.entry) && decide (x.entry % 8 = 0))) ∧ Below w.heap.size w w' := by
  unfold imgV
  obtain ⟨⟨⟨p1, c1, _, _, rfl, -⟩, ⟨p2, c2, _, _, rfl, -⟩, -⟩, ⟨p3, c3, b3, o3, rfl, -, hmx3, hp3, hc3⟩, hen0, hen1⟩ := h
  obtain ⟨⟨mp, me, mq, mc⟩, en, sg⟩ := x
  simp only [] at *
  have HC := Lib.hid hc3; clear hc3
  have HP := Lib.hid hp3; clear hp3
  have hr8 : en.tmod 8 = en % 8 := Int.tmod_eq_emod_of_nonneg hen0
  have HQ : Hid (∀ b, sg.any (begP en) = b → (sg.any (begP en) && decide (en % 8 = 0)) = (b && decide (en % 8 = 0))) := fun b hb => by rw [hb]
  generalize hW : (w.alloc (.cells #[.int .u32 mp, .slice p1 me.length c1, .slice p2 mq.length c2, .bool mc, .int .u32 en, .slice p3 sg.length c3] 29)) = w1
  have HB1 : Hid (Below w.heap.size w w1) := by subst hW; exact alloc_old w _
  have HM : Hid (w1.heap[w.heap.size]? = some (.cells #[.int .u32 mp, .slice p1 me.length c1, .slice p2 mq.length c2, .bool mc, .int .u32 en, .slice p3 sg.length c3] 29 (0, 0))) := by subst hW; exact new_block w _
  have hz1 : w.heap.size < w1.heap.size := by subst hW; simp
  go_enter Tryz.func69, Tryz.ntmps69
  go_wp2_with fail
  try rw [hW]
  clear hW
  go_loopw [3] (fun v3 wr => ∃ k : Nat, v3 = .int .i64 k ∧ k ≤ sg.length ∧ (sg.take k).any (begP en) = false ∧ Below w1.heap.size w1 wr) (fun v3 _ => sg.length - (intOf v3).toNat)
  case atStart => exact ⟨0, by go_num, Nat.zero_le _, rfl, Below.refl _ _⟩
  case round =>
    obtain ⟨k, rfl, hk, hbe, hB⟩ := hrel
    have HBE := Lib.hid hbe; clear hbe
    have HB := Lib.hid hB
    have HBO : Hid (Below w.heap.size w wr) := HB1.out.trans (hB.mono (by omega))
    have HMR := Lib.hid ((hB.block _ hz1).trans HM.out)
    have hzr : w.heap.size < wr.heap.size := by have := hB.size; omega
    clear hB
    have a4 := Lib.cell_of_heap HMR.out 4
    have a5 := Lib.cell_of_heap HMR.out 5
    by_cases hlt : k < sg.length
    · obtain rfl := HP.out (by omega)
      obtain ⟨g0, g1, g2, g3, g4, g5, g6⟩ := segR_keeps _ _ _ _ _ HBO.out (HC.out k hlt)
      have HYES : Hid (begP en sg[k] = true → sg.any (begP en) = true) := fun h => List.any_eq_true.2 ⟨_, List.getElem_mem hlt, h⟩
      have HNO : Hid (begP en sg[k] = false → (sg.take (k + 1)).any (begP en) = false) := fun h => by rw [any_take_snoc hlt rfl, HBE.out, h]; rfl
      generalize sg[k] = x at g1 g2 g3 g4 g5 g6 HYES HNO
      obtain ⟨xa, xp, xb⟩ := x
      simp only [] at g1 g2 g3 g4 g5 g6
      have r2 : IntKind.u64.wrap xa = xa := IntWalk.u64_in _ (by omega)
      have r3 : IntKind.u64.wrap en = en := IntWalk.u64_in _ (by omega)
      have r4 : IntKind.u64.wrap (xb.size : Int) = (xb.size : Int) := IntWalk.u64_in _ (by omega)
      have r5 : IntKind.u64.wrap (xa + (xb.size : Int)) = xa + (xb.size : Int) := IntWalk.u64_in _ (by omega)
      have r6 : IntKind.u64.wrap (en + 8) = en + 8 := IntWalk.u64_in _ (by omega)
      have hcs : Hid (begP en ⟨xa, xp, xb⟩ = false ∧ (xp == 5) = false) ∨ Hid (begP en ⟨xa, xp, xb⟩ = false ∧ xp = 5 ∧ ¬ xa ≤ en) ∨ Hid (begP en ⟨xa, xp, xb⟩ = false ∧ xp = 5 ∧ xa ≤ en ∧ ¬ en + 8 ≤ xa + (xb.size : Int)) ∨ Hid (begP en ⟨xa, xp, xb⟩ = true ∧ xp = 5 ∧ xa ≤ en ∧ en + 8 ≤ xa + (xb.size : Int)) := by
        unfold begP endOf
        by_cases h5 : xp = 5
        · by_cases h1 : xa ≤ en
          · by_cases h2 : en + 8 ≤ xa + (xb.size : Int)
            · exact .inr (.inr (.inr ⟨by simp [h5, h1, h2], h5, h1, h2⟩))
            · exact .inr (.inr (.inl ⟨by simp [h5, h1, h2], h5, h1, h2⟩))
          · exact .inr (.inl ⟨by simp [h5, h1], h5, h1⟩)
        · exact .inl ⟨by simp [h5], by simpa using h5⟩
      rcases hcs with h | h | h | h
      · obtain ⟨hb, h5⟩ := h.out
        have HN2 := Lib.hid (HNO.out hb); clear hb h HYES HNO
        go_wp2
        go_roundw
        case rel => exact ⟨k + 1, by go_num, by omega, HN2.out, HB.out.alloc HB.out.size _⟩
        case measure => simp [intOf]; omega
      · obtain ⟨hb, rfl, h1⟩ := h.out
        have HN2 := Lib.hid (HNO.out hb); clear hb h HYES HNO
        go_wp2
        go_roundw
        case rel => exact ⟨k + 1, by go_num, by omega, HN2.out, HB.out.alloc HB.out.size _⟩
        case measure => simp [intOf]; omega
      · obtain ⟨hb, rfl, h1, h2⟩ := h.out
        have HN2 := Lib.hid (HNO.out hb); clear hb h HYES HNO
        go_wp2
        go_roundw
        case rel => exact ⟨k + 1, by go_num, by omega, HN2.out, HB.out.alloc HB.out.size _⟩
        case measure => simp [intOf]; omega
      · obtain ⟨hb, rfl, h1, h2⟩ := h.out
        have HY2 := Lib.hid (HQ.out _ (HYES.out hb)); clear hb h HYES HNO HQ
        have h8 : Hid ((en % 8 == 0) = decide (en % 8 = 0)) := Lib.hid rfl
        go_wp2
        go_ret
        exact ⟨by rw [HY2.out]; rfl, HBO.out.alloc HBO.out.size _⟩
    · obtain rfl : k = sg.length := by omega
      have HBN := Lib.hid HBE.out
      rw [List.take_length] at HBN
      have HY2 := Lib.hid (HQ.out _ HBN.out)
      clear HBE HBN HQ
      go_wp2
      go_ret
      exact ⟨by rw [HY2.out]; rfl, HBO.out⟩
end Go.Proofs.YtghopakbefageaaGreat
