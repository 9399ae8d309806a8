/- The walk of demand.Covers, where it covers. The walk of aediculeref11.Same, at one manifest twice. The walk of LinkLeast. -/
import Derived.Test.YtabnacdjcefgnaaGreatDoorBd28
import Derived.Test.YtabnacdjcefgnaaGreatDoorBd18
import Derived.Test.YtabnacdjcefgnaaGreatDoorBd09
import Derived.Test.YtabnacdjcefgnaaGreatDoorBd25
import Derived.Test.YtabnacdjcefgnaaGreatDoorBd26
import Derived.Test.YtabnacdjcefgnaaGreatDoorBd22
namespace Go.Proofs.YtabnacdjcefgnaaGreatDoor
open Go.RowKit Go.Maps Go.Shelf
theorem coversW_eq {a b : GMan} (hb : ManOk b) (h : ∀ x ∈ notesR b, coversR a x = true) : ((notesR b).any fun x => !coversW a x) = false := by
  rw [List.any_eq_false]
  intro x hx
  have h1 := h x hx
  have h2 : x.kind = 3 → x.n % 65536 = x.n := by
    intro hk
    unfold notesR at hx
    simp only [List.mem_append] at hx
    rcases hx with ((hx | hx) | hx) | hx
    · split at hx
      · obtain rfl := List.mem_singleton.1 hx; simp at hk
      · cases hx
    · obtain ⟨e, -, rfl⟩ := List.mem_map.1 hx; simp at hk
    · obtain ⟨p, hp, rfl⟩ := List.mem_map.1 hx
      have := hb.po p hp
      simp only []; omega
    · split at hx
      · obtain rfl := List.mem_singleton.1 hx; simp at hk
      · cases hx
  have h3 : coversW a x = coversR a x := by
    unfold coversW coversR
    by_cases k1 : x.kind = 1
    · rw [if_pos k1, if_pos k1]
    · rw [if_neg k1, if_neg k1]
      by_cases k2 : x.kind = 2
      · rw [if_pos k2, if_pos k2]
      · rw [if_neg k2, if_neg k2]
        by_cases k3 : x.kind = 3
        · rw [if_pos k3, if_pos k3, h2 k3]
          congr 1
          funext p
          exact decide_eq_decide.2 ⟨Eq.symm, Eq.symm⟩
        · rw [if_neg k3, if_neg k3]
  rw [h3, h1]; simp
theorem notes_num {m : GMan} (hm : ManOk m) : ∀ x ∈ notesR m, (0 ≤ x.kind ∧ x.kind ≤ 255) ∧ (0 ≤ x.n ∧ x.n ≤ 4294967295) ∧ (0 ≤ x.m ∧ x.m ≤ 4294967295) := by
  intro x hx
  unfold notesR at hx
  simp only [List.mem_append] at hx
  rcases hx with ((hx | hx) | hx) | hx
  · split at hx
    · obtain rfl := List.mem_singleton.1 hx; have := hm.pg; simp only []; omega
    · cases hx
  · obtain ⟨e, he, rfl⟩ := List.mem_map.1 hx; have := hm.ex e he; simp only []; omega
  · obtain ⟨p, hp, rfl⟩ := List.mem_map.1 hx
    have := hm.po p hp
    simp only []; omega
  · split at hx
    · obtain rfl := List.mem_singleton.1 hx; simp only []; omega
    · cases hx
theorem notes_len {m : GMan} (hm : ManOk m) : (notesR m).length ≤ 40 := by
  have := hm.el; have := hm.pl
  unfold notesR
  simp only [List.length_append, List.length_map]
  split <;> split <;> simp <;> omega
theorem notes_row {base : Nat} {w : World} {v : Value} {m : GMan} (hm : ManOk m) (h : NRow base w v (notesR m)) : RowAt 3 NoteR w v (notesR m) :=
  owned_row noteCells_len h (by have := notes_len hm; omega) fun _ _ i hi hg hcell => ⟨hg, hcell 0 _ (by omega) rfl, hcell 1 _ (by omega) rfl, hcell 2 _ (by omega) rfl, notes_num hm _ (List.getElem_mem hi)⟩
set_option maxHeartbeats 1000000 in
theorem covers2_any (a b : GMan) (va1 va2 vb1 vb2 : Value) (w : World) (ha : ManAt w a va1 va2) (hb : ManAt w b vb1 vb2) (fa : ManFit a) (fb : ManFit b) (hc : ∀ x ∈ notesR b, coversR a x = true) :
    Calls Tryz.prog 27 #[.agg #[.int .u32 a.pages, va1, va2, .bool a.cons], .agg #[.int .u32 b.pages, vb1, vb2, .bool b.cons]] w fun e w' => e = .returned (.bool true) ∧ Below w.heap.size w w' := by
  have H1 : Hid (∀ W, Below w.heap.size w W → Calls Tryz.prog 61 #[.agg #[.int .u32 a.pages, va1, va2, .bool a.cons]] W fun e w' => e = .returned (.int .i64 0) ∧ Below W.heap.size W w') := fun W hW => manCheck_any a va1 va2 W (ha.keep hW) fa
  have H2 : Hid (∀ W, Below w.heap.size w W → Calls Tryz.prog 61 #[.agg #[.int .u32 b.pages, vb1, vb2, .bool b.cons]] W fun e w' => e = .returned (.int .i64 0) ∧ Below W.heap.size W w') := fun W hW => manCheck_any b vb1 vb2 W (hb.keep hW) fb
  have H3 : Hid (∀ W, Below w.heap.size w W → Calls Tryz.prog 68 #[.agg #[.int .u32 b.pages, vb1, vb2, .bool b.cons]] W fun e w' => ∃ v, e = .returned v ∧ NRow (W.heap.size + 1) w' v (notesR b) ∧ Below W.heap.size W w') := fun W hW => dnotes_any b vb1 vb2 W (hb.keep hW) fb
  have H4 : Hid (∀ W v mb, Below w.heap.size w W → RowAt 3 NoteR W v (notesR b) → mb < W.heap.size → W.cell? ⟨mb, 0, none⟩ = some (.int .u32 a.pages) → W.cell? ⟨mb, 1, none⟩ = some va1 → W.cell? ⟨mb, 2, none⟩ = some va2 → W.cell? ⟨mb, 3, none⟩ = some (.bool a.cons) → Calls Tryz.prog 67 #[v, .func (.func 69) #[] #[.pointer (some ⟨mb, 0, none⟩)]] W fun e w' => e = .returned (.bool false) ∧ Below W.heap.size W w') := fun W v mb hW hr hmb c0 c1 c2 c3 => by
    have := containsN_any v (notesR b) W (fun x => !coversW a x) 69 #[.pointer (some ⟨mb, 0, none⟩)] eg3 hr (fun W' x hb' => (cov69_any a va1 va2 mb x W' ((ha.keep hW).keep hb') (size_keep hb' hmb) (cell_keep hb' hmb c0) (cell_keep hb' hmb c1) (cell_keep hb' hmb c2) (cell_keep hb' hmb c3)).mono fun _ _ ⟨e, hB⟩ => ⟨e, hb'.trans (hB.mono hb'.size)⟩)
    rw [coversW_eq fb.ok hc] at this
    exact this
  have HFB := Lib.hid fb.ok
  obtain ⟨⟨p1, c1, b1, o1, rfl, -⟩, ⟨p2, c2, b2, o2, rfl, -⟩, -⟩ := ha
  obtain ⟨⟨p3, c3, b3, o3, rfl, -⟩, ⟨p4, c4, b4, o4, rfl, -⟩, -⟩ := hb
  clear hc fa fb
  obtain ⟨mp, me, mq, mc⟩ := a
  obtain ⟨np, ne, nq, nc⟩ := b
  simp only [] at *
  have HBB : Hid (Below w.heap.size w ((w.alloc (.cells #[.int .u32 mp, .slice p1 me.length c1, .slice p2 mq.length c2, .bool mc] 31)).alloc (.cells #[.int .u32 np, .slice p3 ne.length c3, .slice p4 nq.length c4, .bool nc] 31))) := (alloc_old w _).alloc (by simp) _
  go_enter Tryz.func27, Tryz.ntmps27
  go_wp2_with fail
  refine (H1.out _ HBB.out).mono ?_
  rintro e w2 ⟨rfl, hB2⟩
  have HM : Hid (w2.heap[w.heap.size]? = some (.cells #[.int .u32 mp, .slice p1 me.length c1, .slice p2 mq.length c2, .bool mc] 31 (0, 0))) := (hB2.block _ (by simp; omega)).trans ((Below.heap_alloc _ _ _ (by simp)).trans (new_block w _))
  have HN : Hid (w2.heap[w.heap.size + 1]? = some (.cells #[.int .u32 np, .slice p3 ne.length c3, .slice p4 nq.length c4, .bool nc] 31 (0, 0))) := (hB2.block _ (by simp)).trans (by have := new_block (w.alloc (.cells #[.int .u32 mp, .slice p1 me.length c1, .slice p2 mq.length c2, .bool mc] 31)) (.cells #[.int .u32 np, .slice p3 ne.length c3, .slice p4 nq.length c4, .bool nc] 31); simpa using this)
  have HB2 : Hid (Below w.heap.size w w2) := HBB.out.trans (hB2.mono HBB.out.size)
  have hz2 : w.heap.size + 1 < w2.heap.size := by have := hB2.size; simp at this; omega
  clear hB2 HBB
  have d0 := Lib.cell_of_heap HN.out 0
  have d1 := Lib.cell_of_heap HN.out 1
  have d2 := Lib.cell_of_heap HN.out 2
  have d3 := Lib.cell_of_heap HN.out 3
  go_wp2_with fail
  refine (H2.out _ HB2.out).mono ?_
  rintro e w3 ⟨rfl, hB3⟩
  have HN3 := Lib.hid ((hB3.block _ hz2).trans HN.out)
  have HM3 := Lib.hid ((hB3.block _ (by omega)).trans HM.out)
  have HB3 : Hid (Below w.heap.size w w3) := HB2.out.trans (hB3.mono HB2.out.size)
  have hz3 : w.heap.size + 1 < w3.heap.size := by have := hB3.size; omega
  clear hB3 HB2 HN HM d0 d1 d2 d3 hz2
  have d0 := Lib.cell_of_heap HN3.out 0
  have d1 := Lib.cell_of_heap HN3.out 1
  have d2 := Lib.cell_of_heap HN3.out 2
  have d3 := Lib.cell_of_heap HN3.out 3
  go_wp2_with fail
  refine (H3.out _ HB3.out).mono ?_
  rintro e w4 ⟨v, rfl, hrow, hB4⟩
  have HR := Lib.hid (notes_row HFB.out hrow)
  obtain ⟨pn, cn, rfl⟩ := own_shape hrow
  have HM4 := Lib.hid ((hB4.block _ (by omega)).trans HM3.out)
  have HB4 : Hid (Below w.heap.size w w4) := HB3.out.trans (hB4.mono HB3.out.size)
  have hz4 : w.heap.size + 1 < w4.heap.size := by have := hB4.size; omega
  clear hB4 HB3 d0 d1 d2 d3 hz3 hrow
  have HC4 := Lib.hid (H4.out w4 _ w.heap.size HB4.out HR.out (by omega) (Lib.cell_of_heap HM4.out 0) (Lib.cell_of_heap HM4.out 1) (Lib.cell_of_heap HM4.out 2) (Lib.cell_of_heap HM4.out 3))
  go_wp2_with fail
  refine HC4.out.mono ?_
  rintro e w5 ⟨rfl, hB5⟩
  have HB5 : Hid (Below w.heap.size w w5) := HB4.out.trans (hB5.mono HB4.out.size)
  clear hB5
  go_wp2_with fail
  go_ret
  exact ⟨rfl, HB5.out⟩
end Go.Proofs.YtabnacdjcefgnaaGreatDoor
namespace Go.Proofs.YtabnacdjcefgnaaGreatDoor
open Go.RowKit Go.Maps
set_option maxHeartbeats 2000000 in
theorem same11_any (m : GMan) (va1 va2 vb1 vb2 : Value) (w : World) (ha : ManAt w m va1 va2) (hb : ManAt w m vb1 vb2) :
    Calls Tryz.prog 26 #[.agg #[.int .u32 m.pages, va1, va2, .bool m.cons], .agg #[.int .u32 m.pages, vb1, vb2, .bool m.cons]] w fun e w' => e = .returned (.bool true) ∧ Below w.heap.size w w' := by
  obtain ⟨mp, me, mq, mc⟩ := m
  obtain ⟨⟨p1, c1, b1, o1, rfl, -, hm1, hp1, hc1⟩, ⟨p2, c2, b2, o2, rfl, -, hm2, hp2, hc2⟩, -⟩ := ha
  obtain ⟨⟨p3, c3, b3, o3, rfl, -, -, hp3, hc3⟩, ⟨p4, c4, b4, o4, rfl, -, -, hp4, hc4⟩, -⟩ := hb
  simp only [] at *
  have HC1 := Lib.hid hc1; clear hc1
  have HC2 := Lib.hid hc2; clear hc2
  have HC3 := Lib.hid hc3; clear hc3
  have HC4 := Lib.hid hc4; clear hc4
  have HP1 := Lib.hid hp1; clear hp1
  have HP2 := Lib.hid hp2; clear hp2
  have HP3 := Lib.hid hp3; clear hp3
  have HP4 := Lib.hid hp4; clear hp4
  generalize hW : (w.alloc (.cells #[.int .u32 mp, .slice p1 me.length c1, .slice p2 mq.length c2, .bool mc] 31)).alloc (.cells #[.int .u32 mp, .slice p3 me.length c3, .slice p4 mq.length c4, .bool mc] 31) = w2
  have HB2 : Hid (Below w.heap.size w w2) := by subst hW; exact (alloc_old w _).alloc (by simp) _
  have hz2 : w2.heap.size = w.heap.size + 2 := by subst hW; simp
  have HM : Hid (w2.heap[w.heap.size]? = some (.cells #[.int .u32 mp, .slice p1 me.length c1, .slice p2 mq.length c2, .bool mc] 31 (0, 0))) := by subst hW; exact (Below.heap_alloc _ _ _ (by simp)).trans (new_block w _)
  have HN : Hid (w2.heap[w.heap.size + 1]? = some (.cells #[.int .u32 mp, .slice p3 me.length c3, .slice p4 mq.length c4, .bool mc] 31 (0, 0))) := by subst hW; rw [Hid]; have := new_block (w.alloc (.cells #[.int .u32 mp, .slice p1 me.length c1, .slice p2 mq.length c2, .bool mc] 31)) (.cells #[.int .u32 mp, .slice p3 me.length c3, .slice p4 mq.length c4, .bool mc] 31); simpa using this
  subst hW
  go_enter Tryz.func26, Tryz.ntmps26
  go_wp2
  generalize (w.alloc (.cells #[.int .u32 mp, .slice p1 me.length c1, .slice p2 mq.length c2, .bool mc] 31)).alloc (.cells #[.int .u32 mp, .slice p3 me.length c3, .slice p4 mq.length c4, .bool mc] 31) = w2 at *
  have a1 := Lib.cell_of_heap HM.out 1
  have a2 := Lib.cell_of_heap HM.out 2
  have d1 := Lib.cell_of_heap HN.out 1
  have d2 := Lib.cell_of_heap HN.out 2
  go_loopw [5] (fun v5 wr => ∃ k : Nat, v5 = .int .i64 k ∧ k ≤ me.length ∧ Below w2.heap.size w2 wr) (fun v5 _ => me.length - (intOf v5).toNat)
  case atStart => exact ⟨0, by go_num, Nat.zero_le _, Below.refl _ _⟩
  case round =>
    obtain ⟨k, rfl, hk, hB⟩ := hrel
    have HB := Lib.hid hB
    have HBO : Hid (Below w.heap.size w wr) := HB2.out.trans (hB.mono (by omega))
    have hzr : w.heap.size + 1 < wr.heap.size := by have := hB.size; omega
    replace a1 := cell_keep hB (by omega) a1
    replace a2 := cell_keep hB (by omega) a2
    replace d1 := cell_keep hB (by omega) d1
    replace d2 := cell_keep hB (by omega) d2
    clear hB
    by_cases hlt : k < me.length
    · obtain rfl := HP1.out (by omega)
      obtain rfl := HP3.out (by omega)
      obtain ⟨g0, g1, g2, -⟩ := extR_keeps _ _ _ _ _ HBO.out (HC1.out k hlt)
      obtain ⟨f0, f1, f2, -⟩ := extR_keeps _ _ _ _ _ HBO.out (HC3.out k hlt)
      generalize me[k] = x at g1 g2 f1 f2
      obtain ⟨x1, x2⟩ := x
      simp only [] at g1 g2 f1 f2
      go_wp2
      go_region
      all_goals
        go_wp2_with fail
        go_roundw
        case rel => exact ⟨k + 1, by go_num, by omega, HB.out.drew⟩
        case measure => simp [intOf]; omega
    · have hkk : k = me.length := by omega
      subst hkk
      obtain ⟨w3, hw3⟩ : ∃ w3, w3 = wr := ⟨_, rfl⟩
      subst hw3
      go_wp2
      go_loopw [6] (fun v6 wr => ∃ k : Nat, v6 = .int .i64 k ∧ k ≤ mq.length ∧ Below w3.heap.size w3 wr) (fun v6 _ => mq.length - (intOf v6).toNat)
      case atStart => exact ⟨0, by go_num, Nat.zero_le _, Below.refl _ _⟩
      case round =>
        obtain ⟨k, rfl, hk, hB⟩ := hrel
        have HBT := Lib.hid hB
        have HBO2 : Hid (Below w.heap.size w wr) := HBO.out.trans (hB.mono (by omega))
        replace a1 := cell_keep hB (by omega) a1
        replace a2 := cell_keep hB (by omega) a2
        replace d1 := cell_keep hB (by omega) d1
        replace d2 := cell_keep hB (by omega) d2
        clear hB
        by_cases hlt : k < mq.length
        · obtain rfl := HP2.out (by omega)
          obtain rfl := HP4.out (by omega)
          obtain ⟨g0, g1, -⟩ := portR_keeps _ _ _ _ _ HBO2.out (HC2.out k hlt)
          obtain ⟨f0, f1, -⟩ := portR_keeps _ _ _ _ _ HBO2.out (HC4.out k hlt)
          rw [Nat.mul_one] at g1 f1
          generalize mq[k] = x at g1 f1
          go_wp2
          go_region
          all_goals
            go_wp2_with fail
            go_roundw
            case rel => exact ⟨k + 1, by go_num, by omega, HBT.out.drew⟩
            case measure => simp [intOf]; omega
        · go_wp2
          go_ret
          exact ⟨rfl, HBO2.out⟩
end Go.Proofs.YtabnacdjcefgnaaGreatDoor
namespace Go.Proofs.YtabnacdjcefgnaaGreatDoor
open Go.RowKit Go.Maps Go.WideMaps
set_option maxRecDepth 100000 in
set_option maxHeartbeats 4000000 in
theorem least_guard (hsort : SortOk) (v : Value) (l : List GObj) (nm : ByteArray) (w : World) (h : ObjsAt w v l) (hn : nm.size ≤ 140737488355328) (hg : large13B l = true ∨ 1024 < nm.size) :
    Calls Tryz.prog 5 #[.string nm, v] w fun e w' => e = .returned (.bool true) ∧ Below w.heap.size w w' := by
  have HSORT := Lib.hid hsort; clear hsort
  have HLG := Lib.hid (large13_any v l w h)
  obtain ⟨p, cap, rfl⟩ : ∃ (p : Option Addr) (cap : Nat), v = .slice p l.length cap := by obtain ⟨p, cap, b, o, rfl, _⟩ := h; exact ⟨p, cap, rfl⟩
  clear h
  by_cases hl : large13B l = true
  · rw [hl] at HLG
    clear hl hg
    go_enter Tryz.func5, Tryz.ntmps5
    go_wp2_with (first | (go_at_call 6; refine HLG.out.mono ?_; rintro e w1 ⟨rfl, hB1⟩) | (go_at_call 7; refine (alive18_any HSORT.out _).mono ?_; rintro e w2 ⟨rfl, hB2⟩))
    go_ret
    exact ⟨rfl, hB1.trans (hB2.mono hB1.size)⟩
  · have hl' : large13B l = false := by simpa using hl
    have hnm : 1024 < nm.size := by rcases hg with h1 | h1; exact absurd h1 hl; exact h1
    have hd : decide ((1024 : Int) < (nm.size : Int)) = true := by simp; omega
    have hd' : decide (1024 < nm.size) = true := by simp; omega
    rw [hl'] at HLG
    clear hl hl' hg
    go_enter Tryz.func5, Tryz.ntmps5
    go_wp2_with (first | (go_at_call 6; refine HLG.out.mono ?_; rintro e w1 ⟨rfl, hB1⟩) | (go_at_call 7; refine (alive18_any HSORT.out _).mono ?_; rintro e w2 ⟨rfl, hB2⟩))
    go_ret
    exact ⟨rfl, hB1.trans (hB2.mono hB1.size)⟩
theorem kept_is {l : List GObj} {nm : ByteArray} {p : PP} {K : List PP} {r : GLink × ByteArray × Int} (h : KeptYes l nm p K) (hs : Sp18 l nm r) : r = linkR l nm p (K.map toG) := by
  rcases hs with ⟨n, c, hc, he, -⟩ | ⟨q, K', hy, rfl⟩
  · exact absurd (kept_not_err h he) hc
  · obtain ⟨rfl, rfl⟩ := keptYes_same h hy; rfl
theorem kept_not {l : List GObj} {nm n : ByteArray} {c : Int} {r : GLink × ByteArray × Int} (h : KeptErr l nm n c) (hc : c ≠ 0) (hs : Sp18 l nm r) : r = (link0, n, c) := by
  rcases hs with ⟨n', c', -, he, rfl⟩ | ⟨q, K', hy, -⟩
  · obtain ⟨rfl, rfl⟩ := keptErr_same h he; rfl
  · exact absurd (kept_not_err hy h) hc
theorem fu_is {l : List GObj} {nm : ByteArray} {r : GLink × ByteArray × Int} (h : Fu18 l nm r) (h0 : r.2.2 = 0) : ∃ q, r = linkR l nm q ((allK l).map toG) := by
  rcases h with ⟨n, c, hc, -, rfl⟩ | ⟨-, -, ho⟩
  · exact absurd h0 hc
  · rcases ho with ⟨n, c, hc, -, rfl⟩ | ⟨q, K, -, rfl⟩
    · exact absurd h0 hc
    · exact ⟨q, rfl⟩
set_option maxRecDepth 100000 in
set_option maxHeartbeats 8000000 in
theorem least_main (hsort : SortOk) (v : Value) (l : List GObj) (nm : ByteArray) (w : World) (h : ObjsAt w v l) (hnm : nm.size ≤ 1024) (hL : large13B l = false) :
    Calls Tryz.prog 5 #[.string nm, v] w fun e w' => e = .returned (.bool true) ∧ Below w.heap.size w w' := by
  have HSORT := Lib.hid hsort; clear hsort
  have HLG := Lib.hid (large13_any v l w h)
  rw [hL] at HLG
  have HB := Lib.hid (small_of h hL)
  have HON := Lib.hid (objNotes_of h)
  have HO := Lib.hid h
  obtain ⟨p, cap, rfl⟩ : ∃ (p : Option Addr) (cap : Nat), v = .slice p l.length cap := by obtain ⟨p, cap, b, o, rfl, _⟩ := h; exact ⟨p, cap, rfl⟩
  have hd : decide ((1024 : Int) < (nm.size : Int)) = false := by simp; omega
  have hd' : decide (1024 < nm.size) = false := by simp; omega
  clear h hL
  go_enter Tryz.func5, Tryz.ntmps5
  go_wp2_with fail
  refine HLG.out.mono ?_
  rintro e w1 ⟨rfl, hB1⟩
  have HB1 := Lib.hid hB1; clear hB1 HLG
  go_wp2_with fail
  refine (special18_any HSORT.out _ l nm w1 (HO.out.keep HB1.out) (by omega) HB.out).mono ?_
  rintro e w2 ⟨r, hsp, ve, vp, vs, va, rfl, hla, hB2⟩
  obtain ⟨x1, x2, x3, x4, x5, x6, x7, x8, rfl, rfl, rfl, rfl⟩ := hla.shape
  have HSP := Lib.hid hsp
  have HB2 : Hid (Below w.heap.size w w2) := HB1.out.trans (hB2.mono HB1.out.size)
  have HBX := Lib.hid (BoxL.new hla)
  obtain ⟨⟨⟨rp, re, rq, rc⟩, ren, rs, ra⟩, rn, rcd⟩ := r
  simp only [] at HBX HSP
  have HBa : Hid (Below w2.heap.size w2 (w2.alloc (.cells #[.int .u32 rp, .slice x1 re.length x2, .slice x3 rq.length x4, .bool rc, .int .u32 ren, .slice x5 rs.length x6, .slice x7 ra.length x8] 37))) := alloc_old w2 _
  have hz2 : w2.heap.size < (w2.alloc (.cells #[.int .u32 rp, .slice x1 re.length x2, .slice x3 rq.length x4, .bool rc, .int .u32 ren, .slice x5 rs.length x6, .slice x7 ra.length x8] 37)).heap.size := by simp
  clear hla hB2 hsp HB1
  unfold linkV
  simp only []
  generalize hWa : (w2.alloc (.cells #[.int .u32 rp, .slice x1 re.length x2, .slice x3 rq.length x4, .bool rc, .int .u32 ren, .slice x5 rs.length x6, .slice x7 ra.length x8] 37)) = w3 at HBa HBX hz2
  have HB3 : Hid (Below w.heap.size w w3) := HB2.out.trans (HBa.out.mono HB2.out.size)
  have HXB : Hid (w.heap.size ≤ w2.heap.size) := HB2.out.size
  go_wp2_with fail
  try rw [hWa]
  refine (kept18_any HSORT.out _ l nm w3 (HO.out.keep HB3.out) (by omega)).mono ?_
  rintro e w4 ⟨hres, hB4⟩
  have HB4 : Hid (Below w.heap.size w w4) := HB3.out.trans (hB4.mono HB3.out.size)
  have HBX4 := Lib.hid (HBX.out.keep hB4)
  clear hWa HBa HBX HB3 hB4 HB2
  generalize w2.heap.size = xb at *
  rcases hres with ⟨q, K, vo, hky, hrow, rfl⟩ | ⟨n, c, hc, rfl, hke⟩
  rotate_left
  · have e1 := kept_not hke hc HSP.out
    simp only [Prod.mk.injEq] at e1
    obtain ⟨e1, rfl, rfl⟩ := e1
    have e2 : rs = [] := congrArg GLink.segs e1
    subst e2
    obtain ⟨-, -, -, -, -, b5, -⟩ := boxL_sevens HBX4.out
    have hcb : (rcd != 0) = true := by simpa using hc
    go_wp2_with fail
    refine (alive18_any HSORT.out _).mono ?_
    rintro e w9 ⟨rfl, hB9⟩
    go_wp2_with fail
    go_ret
    exact ⟨rfl, HB4.out.trans (hB9.mono HB4.out.size)⟩
  have HRE := Lib.hid (kept_is hky HSP.out)
  have HKY := Lib.hid hky
  have HROW := Lib.hid hrow
  obtain ⟨pk, ck, bk, ok, rfl, -, -, hpk, hck⟩ := hrow
  by_cases h0 : rcd = 0
  rotate_left
  · have hcs := link_codes HKY.out
    have hbad := linkR_bad (l := l) (nm := nm) (m := q) (ps := K.map toG) (by rw [← HRE.out]; exact h0)
    rw [← HRE.out] at hcs hbad
    have e2 : rs = [] := congrArg GLink.segs hbad
    subst e2
    simp only [] at hcs
    obtain ⟨-, -, -, -, -, b5, -⟩ := boxL_sevens HBX4.out
    clear hbad hck hpk
    rcases hcs with h | rfl | rfl | rfl | rfl
    · exact absurd h h0
    all_goals
      clear h0
      go_wp2_with fail
      refine (alive18_any HSORT.out _).mono ?_
      rintro e w9 ⟨rfl, hB9⟩
      go_wp2_with fail
      go_ret
      exact ⟨rfl, HB4.out.trans (hB9.mono HB4.out.size)⟩
  subst h0
  have hz0 : (linkR l nm q (K.map toG)).2.2 = 0 := by rw [← HRE.out]
  have HFIT := Lib.hid (linked_fit HB.out HON.out hz0)
  obtain ⟨hpl1, hpl2⟩ := linked_pl hz0
  obtain ⟨wh', sp', f', fn', -, -, -, -, hdz, hde⟩ := linkR_zero hz0
  have hman : (linkR l nm q (K.map toG)).1.man = (demandR (notesOf l (K.map toG))).1 := by rw [hde]
  rw [← HRE.out] at hpl1 hpl2 hman
  simp only [List.length_map] at hpl1 hpl2 hman
  have HMAN : Hid (demandR (notesOf l (K.map toG)) = (⟨rp, re, rq, rc⟩, 0)) := Prod.ext hman.symm hdz
  have HPL : Hid (∀ i (h : i < K.length) (h2 : i < ra.length), ra[i].obj = (K[i].1 : Int) ∧ ra[i].sym = (K[i].2 : Int)) := fun i h h2 => by
    have := hpl2 i h h2
    rw [List.getElem_map] at this
    exact this
  rw [← HRE.out] at HFIT
  simp only [] at HFIT
  clear hz0 hpl2 hde hdz hman
  have HVAL := Lib.hid (kept_valid HKY.out)
  have hkl := kept_len HKY.out
  have HPLL := Lib.hid hpl1
  have hmay := (beginR_zero HKY.out.1).1
  have HMAY := Lib.hid hmay; clear hmay
  have HIC := Lib.hid (imgCheck_any _ _ _ _ _ w4 HBX4.out.2 HFIT.out)
  simp only [] at HIC
  obtain ⟨b0, b1, b2, b3, b4, b5, b6⟩ := boxL_sevens HBX4.out
  simp only [] at b0 b3 b4
  go_wp2_with fail
  refine HIC.out.mono ?_
  rintro e w5 ⟨rfl, hB5⟩
  have HBX5 := Lib.hid (HBX4.out.keep hB5)
  have HROW5 := Lib.hid (HROW.out.keep placeR_keeps hB5)
  have HB5 : Hid (Below w.heap.size w w5) := HB4.out.trans (hB5.mono HB4.out.size)
  clear b0 b1 b2 b3 b4 b5 b6 HIC HBX4 HB4 hB5 hck hpk HROW
  obtain ⟨iN, s0, s1, s2, s3⟩ := info_parts info_note18
  have HI := Lib.hid (And.intro s0 (And.intro s1 (And.intro s2 s3)))
  clear s0 s1 s2 s3
  go_wp2_with fail
  go_loopw [11, 12] (fun v11 v12 wr => ∃ k : Nat, v12 = .int .i64 k ∧ k ≤ K.length ∧ (notesOf l ((K.map toG).take k)).length ≤ 8 * k ∧ wr.ownsRow w5.heap.size 141 3 v11 (notesOf l ((K.map toG).take k)).length ((notesOf l ((K.map toG).take k)).flatMap noteCells) ∧ Below w5.heap.size w5 wr) (fun _ v12 _ => K.length - (intOf v12).toNat)
  case atStart => exact ⟨0, by go_num, Nat.zero_le _, by simp [notesOf], World.ownsRow_nil _ _ _ _, Below.refl _ _⟩
  case round =>
    obtain ⟨k, rfl, hk, hnl, hon, hB⟩ := hrel
    have HOW := Lib.hid hon
    obtain ⟨pn, cn, rfl⟩ := own_shape hon
    have HB6 := Lib.hid hB
    have HBO : Hid (Below w.heap.size w wr) := HB5.out.trans (hB.mono HB5.out.size)
    have HBXR := Lib.hid (HBX5.out.keep hB)
    have HROWR := Lib.hid (HROW5.out.keep placeR_keeps hB)
    clear hon hB
    by_cases hlt : k < K.length
    · have hlt2 : k < ra.length := by rw [HPLL.out]; exact hlt
      obtain ⟨_, _, b', o', he, -, -, hp', hc'⟩ := HROWR.out
      cases he
      cases hp' (by omega)
      obtain ⟨g0, g1, g2⟩ := hc' k hlt
      obtain ⟨-, -, -, -, -, -, b6⟩ := boxL_sevens HBXR.out
      obtain ⟨_, _, ba, oa, he2, -, -, hpa, hca⟩ := HBXR.out.2.2.2.1
      cases he2
      cases hpa (by show 0 < ra.length; omega)
      obtain ⟨f0, f1, f2, -⟩ := hca k hlt2
      obtain ⟨e1, e2⟩ := HPL.out k hlt hlt2
      rw [e1] at f1
      rw [e2] at f2
      have hvx := HVAL.out _ (List.getElem_mem hlt)
      have hsk := notesOf_snoc (l := l) (ps := K.map toG) (k := k) (p := toG K[k]) (s := (symAt_valid hvx).choose) (by simpa using hlt) (by simp) (symAt_valid hvx).choose_spec
      have hxb : xb < wr.heap.size := (Array.getElem?_eq_some_iff.1 HBXR.out.1).1
      generalize hxk : K[k] = x at g1 g2 f1 f2 hvx hsk
      obtain ⟨a, b⟩ := x
      obtain ⟨ob, sy, h1, h2⟩ := hvx
      simp only [] at g1 g2 f1 f2 h1 h2
      have hsy : (symAt_valid (l := l) (x := (a, b)) ⟨ob, sy, h1, h2⟩).choose = sy := by
        have h3 := (symAt_valid (l := l) (x := (a, b)) ⟨ob, sy, h1, h2⟩).choose_spec
        obtain ⟨ha, rfl⟩ := List.getElem?_eq_some_iff.1 h1
        have h4 : symAt l (toG (a, b)) = some sy := by unfold toG; rw [symAt_nat ha]; exact h2
        exact Option.some.inj (h3.symm.trans h4)
      rw [hsy] at hsk
      have HSK := Lib.hid hsk
      have hsa : symAt l (toG (a, b)) = some sy := by
        obtain ⟨ha, rfl⟩ := List.getElem?_eq_some_iff.1 h1
        unfold toG; rw [symAt_nat ha]; exact h2
      have h8 := notes8 HMAY.out hsa
      have hhas : hasR l (a : Int) (b : Int) = true := by
        have h5 := (List.getElem?_eq_some_iff.1 h2).1
        simp [hasR, h1, h5]
      have HHA : Hid (∀ z : BW wr, Calls Tryz.prog 19 #[.slice p l.length cap, .agg #[.int .i64 (a : Int), .int .i64 (b : Int)]] z.u fun e w' => e = .returned (.bool true) ∧ ∃ y : BW wr, w' = y.u) := fun z => calls_below (by
        have := has_any (.slice p l.length cap) l a b z.u ((HO.out.keep HBO.out).keep z.b)
        rw [hhas] at this
        exact this)
      have HOR := Lib.hid (HO.out.keep HBO.out)
      clear hsy hsk e1 e2 hxk hsa hhas hc' hp' hpa hca
      have c1 := bw_cell g0 g1
      have c2 := bw_cell g0 g2
      have c3 := bw_cell f0 f1
      have c4 := bw_cell f0 f2
      have c5 := bw_cell hxb b6
      go_wp2_with fail
      refine wp_region_below rfl (by kernel_rfl) ?_
      repeat (first | go_big_quiet_skip | quiet_step ((go_at_call 19; exact HHA.out _)))
      refine wpQuiet_nil ?_
      rintro w7 hx7; have hB7 : Below wr.heap.size wr w7 := bw_of hx7; clear hx7
      clear c1 c2 c3 c4 c5 HHA f0 f1 f2 b6
      have HB7 := Lib.hid hB7
      have hz7 : wr.heap.size ≤ w7.heap.size := hB7.size
      replace g1 := cell_keep hB7 g0 g1
      replace g2 := cell_keep hB7 g0 g2
      have HOW7 : Hid (w7.drew.ownsRow w5.heap.size 141 3 (.slice pn (notesOf l ((K.map toG).take k)).length cn) (notesOf l ((K.map toG).take k)).length ((notesOf l ((K.map toG).take k)).flatMap noteCells)) := (own_congr HOW.out fun q hq => hB7.block q (HOW.out.lt q hq).2).drew
      obtain ⟨_, _, bo, oo, heo, -, -, hpo, hco⟩ := HOR.out.keep hB7
      cases heo
      have hal := (List.getElem?_eq_some_iff.1 h1).1
      have hbl := (List.getElem?_eq_some_iff.1 h2).1
      have hae : l[a] = ob := (List.getElem?_eq_some_iff.1 h1).2
      have hbe : ob.syms[b] = sy := (List.getElem?_eq_some_iff.1 h2).2
      cases hpo (by omega)
      obtain ⟨vs, i0, -, i2, hin, -⟩ := hco a hal
      rw [hae] at hin
      obtain ⟨_, _, bs, os, rfl, -, -, hps, hcs⟩ := hin
      cases hps (by omega)
      obtain ⟨vr, vn, j0, -, -, -, -, -, -, j6, hin2⟩ := hcs b hbl
      rw [hbe] at hin2
      obtain ⟨pz, cz, bz, oz, rfl, -, -, hpz, hcz⟩ := hin2.2.1
      have HPZ := Lib.hid hpz
      have HCZ : Hid (∀ i (h : i < sy.notes.length), NoteR w7.drew bz (oz + i * 3) sy.notes[i]) := fun i h => noteR_keeps _ _ _ _ _ (Below.refl _ w7).drew (hcz i h)
      obtain ⟨nt, hnt⟩ : ∃ nt, nt = notesOf l ((K.map toG).take k) := ⟨_, rfl⟩
      rw [← hnt] at HOW7 HSK hnl
      have HOWR : Hid (wr.ownsRow w5.heap.size 141 3 (.slice pn nt.length cn) nt.length (nt.flatMap noteCells)) := by rw [Hid, hnt]; exact HOW.out
      clear HOW
      rw [← hnt]
      clear hB7 hco hcs hin2 hpz hcz hae hbe hps hpo hnt g0
      go_wp2_with fail
      go_still_tail 18, (by kernel_rfl)
      change wpList _ _ _ _ _ w7.drew
      have hz5 := HB6.out.size
      go_wp2_with (at_builtin; refine wpList_append_src rfl _ _ 60 rfl w5.heap.size 141 iN _ 3 12 Tryz.underlying60 HI.out.1 HI.out.2.1 HI.out.2.2.1 HI.out.2.2.2 rfl (by decide) (.slice pn nt.length cn) nt.length (nt.flatMap noteCells) rfl HOW7.out pz sy.notes.length cz bz oz (sy.notes.flatMap noteCells) rfl HPZ.out (by rw [flat_len noteCells_len]) (fun _ => note_news HCZ.out) noteCells_one (by unfold maxLen; omega) (by omega) (by simp; omega) ?_)
      intro v' w' hown3 hgrow3
      obtain ⟨pw3, cw3, rfl⟩ := own_shape hown3
      have HO3 := Lib.hid hown3
      have HB3' : Hid (Below w5.heap.size w5 w') := (HB6.out.trans ((HB7.out.mono hz5).drew)).grown hgrow3 (by simp; omega) (fun q e => (HOW7.out.lt q e).1)
      clear hown3 hgrow3
      go_wp2
      go_roundw
      case rel => exact ⟨k + 1, by go_num, by omega, by rw [HSK.out, List.length_append]; omega, by rw [HSK.out, List.length_append, List.flatMap_append]; exact HO3.out, HB3'.out⟩
      case measure => simp [intOf]; omega
    · obtain rfl : k = K.length := by omega
      have htk : (K.map toG).take K.length = K.map toG := by rw [List.take_of_length_le]; simp
      rw [htk] at HOW hnl ⊢
      have hz5 := HB6.out.size
      have HDM := Lib.hid (demandOf_any _ (notesOf l (K.map toG)) wr (note_row HOW.out (by omega) (notesOf_num HON.out)) (by omega))
      rw [HMAN.out] at HDM
      clear htk
      go_wp2_with fail
      refine HDM.out.mono ?_
      rintro e w8 ⟨ue, up, rfl, ho1, ho2, hB8⟩
      have hok : ManOk ⟨rp, re, rq, rc⟩ := HFIT.out.man.ok
      simp only [] at ho1 ho2
      have HM8 := Lib.hid (man_at hok ho1 ho2)
      obtain ⟨⟨q1, d1, _, _, rfl, -⟩, ⟨q2, d2, _, _, rfl, -⟩, -⟩ := HM8.out
      simp only []
      have HBX8 := Lib.hid (HBXR.out.keep hB8)
      have HB8 : Hid (Below w.heap.size w w8) := HBO.out.trans (hB8.mono HBO.out.size)
      clear ho1 ho2 hB8 HOW HBXR HROWR HBO HB6 hnl HDM
      obtain ⟨w9, hw9⟩ : ∃ w9, w9 = w8.alloc (.cells #[.int .u32 rp, .slice q1 re.length d1, .slice q2 rq.length d2, .bool rc] 31) := ⟨_, rfl⟩
      have hB9 : Below w8.heap.size w8 w9 := by rw [hw9]; exact alloc_old w8 _
      have HMB := Lib.hid (show w9.heap[w8.heap.size]? = some (.cells #[.int .u32 rp, .slice q1 re.length d1, .slice q2 rq.length d2, .bool rc] 31 (0, 0)) by rw [hw9]; exact new_block w8 _)
      have HM9 := Lib.hid (HM8.out.keep hB9)
      have HBX9 := Lib.hid (HBX8.out.keep hB9)
      have HB9 : Hid (Below w.heap.size w w9) := HB8.out.trans (hB9.mono HB8.out.size)
      have hz9 : w8.heap.size < w9.heap.size := by rw [hw9]; simp
      have HFU := Lib.hid (full18_any HSORT.out _ l nm w9 (HO.out.keep HB9.out) (by omega) HB.out)
      clear hB9 HM8 HBX8 HB8
      go_wp2_with fail
      try rw [← hw9]
      clear hw9
      refine HFU.out.mono ?_
      rintro e w10 ⟨r4, hfu, fe, fp, fs, fa, rfl, hla, hB10⟩
      obtain ⟨y1, y2, y3, y4, y5, y6, y7, y8, rfl, rfl, rfl, rfl⟩ := hla.shape
      have HFU4 := Lib.hid hfu
      have HB10 : Hid (Below w.heap.size w w10) := HB9.out.trans (hB10.mono HB9.out.size)
      have HBX10 := Lib.hid (HBX9.out.keep hB10)
      have HM10 := Lib.hid (HM9.out.keep hB10)
      have HMB10 := Lib.hid ((hB10.block _ hz9).trans HMB.out)
      have hz10 : w8.heap.size < w10.heap.size := by have := hB10.size; omega
      have HBY := Lib.hid (BoxL.new hla)
      obtain ⟨⟨⟨yp, ye, yq, yc⟩, yen, ys, ya⟩, yn, ycd⟩ := r4
      simp only [] at HBY HFU4
      unfold linkV
      simp only []
      clear hla hB10 hfu HBX9 HM9 HMB HB9 hz9 HFU
      obtain ⟨w11, hw11⟩ : ∃ w11, w11 = w10.alloc (.cells #[.int .u32 yp, .slice y1 ye.length y2, .slice y3 yq.length y4, .bool yc, .int .u32 yen, .slice y5 ys.length y6, .slice y7 ya.length y8] 37) := ⟨_, rfl⟩
      rw [← hw11] at HBY
      have hB11 : Below w10.heap.size w10 w11 := by rw [hw11]; exact alloc_old w10 _
      have HM11 := Lib.hid (HM10.out.keep hB11)
      have HBX11 := Lib.hid (HBX10.out.keep hB11)
      have HMB11 := Lib.hid ((hB11.block _ hz10).trans HMB10.out)
      have HB11 : Hid (Below w.heap.size w w11) := HB10.out.trans (hB11.mono HB10.out.size)
      have hx10 : xb < w10.heap.size := (Array.getElem?_eq_some_iff.1 HBX10.out.1).1
      have m0 := Lib.cell_of_heap HMB10.out 0
      have m1 := Lib.cell_of_heap HMB10.out 1
      have m2 := Lib.cell_of_heap HMB10.out 2
      have m3 := Lib.cell_of_heap HMB10.out 3
      obtain ⟨b0, b1, b2, b3, -, -, -⟩ := boxL_sevens HBX10.out
      simp only [] at b0 b3
      clear hB11 HM10 HBX10 HMB10 HB10
      have HSA := Lib.hid (same11_any ⟨rp, re, rq, rc⟩ _ _ _ _ w11 HM11.out HBX11.out.2.1)
      simp only [] at HSA
      go_wp2_with fail
      try rw [← hw11]
      clear hw11
      refine HSA.out.mono ?_
      rintro e w12 ⟨rfl, hB12⟩
      have HBX12 := Lib.hid (HBX11.out.keep hB12)
      have HBY12 := Lib.hid (HBY.out.keep hB12)
      have HB12 : Hid (Below w.heap.size w w12) := HB11.out.trans (hB12.mono HB11.out.size)
      clear hB12 HBX11 HBY HMB11 HM11 HB11 HSA m0 m1 m2 m3 b0 b1 b2 b3 hx10 hz10
      by_cases h0 : ycd = 0
      · subst h0
        obtain ⟨q', hq'⟩ := fu_is HFU4.out rfl
        have hz0' : (linkR l nm q' ((allK l).map toG)).2.2 = 0 := by rw [← hq']
        have hz0 : (linkR l nm q (K.map toG)).2.2 = 0 := by rw [← HRE.out]
        have hfit := (linked_fit HB.out HON.out hz0').man
        have hcov := full_covers (p := q) (q := q') HON.out HKY.out hz0 hz0'
        rw [← hq'] at hfit hcov
        rw [← HRE.out] at hcov
        simp only [] at hfit hcov
        have HCV := Lib.hid (covers2_any _ _ _ _ _ _ w12 HBY12.out.2.1 HBX12.out.2.1 hfit HFIT.out.man hcov)
        simp only [] at HCV
        obtain ⟨b0, b1, b2, b3, -, -, -⟩ := boxL_sevens HBX12.out
        obtain ⟨c0, c1, c2, c3, -, -, -⟩ := boxL_sevens HBY12.out
        simp only [] at b0 b3 c0 c3
        clear hz0 hz0' hfit hcov hq'
        go_wp2_with fail
        refine HCV.out.mono ?_
        rintro e w13 ⟨rfl, hB13⟩
        have HB13 : Hid (Below w.heap.size w w13) := HB12.out.trans (hB13.mono HB12.out.size)
        clear hB13 b0 b1 b2 b3 c0 c1 c2 c3
        go_wp2_with fail
        refine (alive18_any HSORT.out _).mono ?_
        rintro e w14 ⟨rfl, hB14⟩
        go_wp2_with fail
        go_ret
        exact ⟨rfl, HB13.out.trans (hB14.mono HB13.out.size)⟩
      · have h0b : (ycd != 0) = true := by simpa using h0
        go_wp2_with fail
        refine (alive18_any HSORT.out _).mono ?_
        rintro e w14 ⟨rfl, hB14⟩
        go_wp2_with fail
        go_ret
        exact ⟨rfl, HB12.out.trans (hB14.mono HB12.out.size)⟩
theorem least18_any (hsort : SortOk) (v : Value) (l : List GObj) (nm : ByteArray) (w : World) (h : ObjsAt w v l) (hn : nm.size ≤ 140737488355328) :
    Calls Tryz.prog 5 #[.string nm, v] w fun e w' => e = .returned (.bool true) ∧ Below w.heap.size w w' := by
  by_cases hg : large13B l = true ∨ 1024 < nm.size
  · exact least_guard hsort v l nm w h hn hg
  · have h1 : large13B l = false := by
      cases h1 : large13B l with
      | false => rfl
      | true => exact absurd (.inl h1) hg
    exact least_main hsort v l nm w h (by omega) h1
end Go.Proofs.YtabnacdjcefgnaaGreatDoor
