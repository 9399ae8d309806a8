/- The maker under way; the walk of maker.place. The walk of maker.place. The walk of ref10.Same, at two rows of one content. -/
import Derived.Test.YtoonkfhphbojcaaGreatDoorBv28
import Derived.Test.YtoonkfhphbojcaaGreatDoorBv06
import Derived.Test.YtoonkfhphbojcaaGreatDoorBv11
namespace Go.Proofs.YtoonkfhphbojcaaGreatDoor
open Go.RowKit Go.Maps Go.WideMaps
theorem rel_info33 : (Tryz.prog.info? 101).map (fun i => (i.zero, i.size, i.bytes)) = some (some (.agg #[.int .u32 0, .int .u8 0, .string ⟨#[]⟩, .int .u32 0]), 4, 32) := by kernel_rfl
theorem own_ne_map33 {P : Program} {kt : TypeId} {w : World} {B : Nat} {e : TypeId} {k n b m : Nat} {v : Value} {xs : List Value} {f : List UInt8 → Option Value} (h : w.ownsRow B e k v n xs) (hm : MapFn P kt w b m f) : v.ownBlock ≠ some b := fun hg => by
  obtain ⟨cur, hcur⟩ := own_type h hg
  obtain ⟨D, ⟨es, clock, h1, -⟩, -⟩ := hm
  rw [hcur] at h1
  cases h1
theorem four_news33 {w : World} {g : Nat} {x : GRel} (h : w.heap[g]? = some (.cells (relCells x).toArray 101 (0, 0))) : ∀ j u, (relCells x)[j]? = some u → w.cell? ((⟨g, 0, none⟩ : Addr).add j) = some u := by
  intro j u hu
  have := Lib.cell_of_heap h j
  rw [add_at]
  simpa [hu] using this
theorem four_one33 {x : GRel} : ∀ u ∈ relCells x, u.oneCell' = true := by
  intro u hu
  simp only [relCells, List.mem_cons, List.not_mem_nil, or_false] at hu
  rcases hu with rfl | rfl | rfl | rfl <;> rfl
/-- the maker's box -/
def mkA (own : ByteArray) (bind size : Int) (bytes : BL) (v : Value) (gb : Nat) : Array Value := #[.string own, .int .u8 bind, .int .u8 1, .int .u32 size, .string (bsOf bytes), v, .slice none 0 0, .map (some gb)]
structure MkSt (w0 : World) (mb gb : Nat) (own : ByteArray) (bind size : Int) (M : BL → Option Nat) (v : Value) (rels : List GRel) (bytes : BL) (w : World) : Prop where
  box : w.heap[mb]? = some (.cells (mkA own bind size bytes v gb) 196 (0, 0))
  row : w.ownsRow w0.heap.size 101 4 v rels.length (rels.flatMap relCells)
  map : ∃ n, MapFn Tryz.prog 9 w gb n (labVs M)
  bel : Below w0.heap.size w0 w
  mbl : w0.heap.size ≤ mb
section
variable {w0 : World} {mb gb : Nat} {own : ByteArray} {bind size : Int} {M : BL → Option Nat} {v : Value} {rels : List GRel} {bytes : BL} {w w' : World}
theorem MkSt.lt (h : MkSt w0 mb gb own bind size M v rels bytes w) : mb < w.heap.size := (Array.getElem?_eq_some_iff.1 h.box).1
theorem MkSt.nev (h : MkSt w0 mb gb own bind size M v rels bytes w) : v.ownBlock ≠ some mb := own_ne_box h.row h.box (by decide)
theorem MkSt.neg (h : MkSt w0 mb gb own bind size M v rels bytes w) : v.ownBlock ≠ some gb := by
  obtain ⟨n, hm⟩ := h.map
  exact own_ne_map33 h.row hm
theorem MkSt.nem (h : MkSt w0 mb gb own bind size M v rels bytes w) : gb ≠ mb := by
  obtain ⟨n, D, ⟨es, clock, h1, -⟩, -⟩ := h.map
  intro e
  rw [e, h.box] at h1
  cases h1
theorem MkSt.keep (h : MkSt w0 mb gb own bind size M v rels bytes w) (hb : Below w.heap.size w w') : MkSt w0 mb gb own bind size M v rels bytes w' :=
  ⟨(hb.block _ h.lt).trans h.box, ownsRow_below hb h.row, by obtain ⟨n, hm⟩ := h.map; exact ⟨n, hm.below hb hm.lt⟩, h.bel.trans (hb.mono h.bel.size), h.mbl⟩
theorem MkSt.drew (h : MkSt w0 mb gb own bind size M v rels bytes w) : MkSt w0 mb gb own bind size M v rels bytes w.drew := h.keep (below_drewN (Below.refl _ _) 1)
/-- a store of the bytes -/
theorem MkSt.setBytes (h : MkSt w0 mb gb own bind size M v rels bytes w) (b2 : BL) : MkSt w0 mb gb own bind size M v rels b2 (w.setCell ⟨mb, 4, none⟩ (.string (bsOf b2))) := by
  refine ⟨?_, own_congr h.row fun g hg => Below.heap_setCell _ _ _ _ (fun e => h.nev (by rw [hg, e])), ?_, h.bel.setCell h.mbl _, h.mbl⟩
  · simp [World.setCell, Array.getElem?_modify, h.box, mkA]
  · obtain ⟨n, hm⟩ := h.map
    exact ⟨n, hm.setCell (by simpa using h.nem) _⟩
/-- a place more, behind its append and the store -/
theorem MkSt.place (h : MkSt w0 mb gb own bind size M v rels bytes w) {wa w2 : World} {v' : Value} (x : GRel) (ha : Below w.heap.size w wa) (hg : wa.grownBy w2 v.ownBlock) (ho : w2.ownsRow w0.heap.size 101 4 v' (rels.length + 1) (rels.flatMap relCells ++ relCells x)) :
    MkSt w0 mb gb own bind size M v' (rels ++ [x]) bytes (w2.setCell ⟨mb, 5, none⟩ v') := by
  have hA := h.keep ha
  have hb2 : w2.heap[mb]? = some (.cells (mkA own bind size bytes v gb) 196 (0, 0)) := (hg.block mb hA.lt (fun e => h.nev e.symm)).trans hA.box
  have ho2 : w2.ownsRow w0.heap.size 101 4 v' (rels ++ [x]).length ((rels ++ [x]).flatMap relCells) := by
    rw [List.flatMap_append, List.length_append, show [x].flatMap relCells = relCells x by simp]
    exact ho
  refine ⟨?_, own_congr ho2 fun g hg' => Below.heap_setCell _ _ _ _ (fun e => own_ne_box ho2 hb2 (by decide) (by rw [hg', e])), ?_, ?_, h.mbl⟩
  · simp [World.setCell, Array.getElem?_modify, hb2, mkA]
  · obtain ⟨n, hm⟩ := hA.map
    refine ⟨n, (hm.kept (hg.block _ hm.lt (fun e => hA.neg e.symm))).setCell (by simpa using h.nem) _⟩
  · exact (hA.bel.grown hg hA.bel.size (fun g hg => (hA.row.lt g hg).1)).setCell h.mbl _
end
end Go.Proofs.YtoonkfhphbojcaaGreatDoor
namespace Go.Proofs.YtoonkfhphbojcaaGreatDoor
open Go.RowKit Go.Maps Go.WideMaps
def PlacePost (w0 : World) (mb gb : Nat) (own : ByteArray) (bind size : Int) (M : BL → Option Nat) (rels : List GRel) (bytes : BL) (x : GRel) (w : World) (e : Ending) (w' : World) : Prop :=
  e = .returned (.tuple #[]) ∧ (∃ v', MkSt w0 mb gb own bind size M v' (rels ++ [x]) bytes w') ∧ ∀ lb y, LnAt lb y w → LnAt lb y w'
set_option maxHeartbeats 4000000 in
set_option maxRecDepth 100000 in
theorem place33 {w0 : World} {mb gb : Nat} {own : ByteArray} {bind size : Int} {M : BL → Option Nat} {v : Value} {rels : List GRel} {bytes : BL} (name : ByteArray) (add : Int) (w : World) (hst : MkSt w0 mb gb own bind size M v rels bytes w) (hb : bytes.length ≤ 100000) (hr : rels.length ≤ 100000) :
    Calls Tryz.prog 176 #[.pointer (some ⟨mb, 0, none⟩), .string name, .int .u32 add] w (PlacePost w0 mb gb own bind size M rels bytes ⟨(bytes.length : Int) + 4, 1, name, add⟩ w) := by
  have HPD : Hid (∀ e w', PlacePost w0 mb gb own bind size M rels bytes ⟨(bytes.length : Int) + 4, 1, name, add⟩ w e w' ↔ e = .returned (.tuple #[]) ∧ (∃ v', MkSt w0 mb gb own bind size M v' (rels ++ [⟨(bytes.length : Int) + 4, 1, name, add⟩]) bytes w') ∧ ∀ lb y, LnAt lb y w → LnAt lb y w') := Lib.hid fun _ _ => Iff.rfl
  generalize PlacePost w0 mb gb own bind size M rels bytes ⟨(bytes.length : Int) + 4, 1, name, add⟩ w = Post at HPD ⊢
  have HST := Lib.hid hst
  obtain ⟨pv, cv, rfl⟩ := own_shape hst.row
  obtain ⟨iR, r0, r1, r2, r3⟩ := info_parts rel_info33
  have HI := Lib.hid (And.intro r0 (And.intro r1 (And.intro r2 r3)))
  clear r0 r1 r2 r3 hst
  have hsz := bsOf_size bytes
  obtain ⟨S, hSd⟩ : ∃ S : World → Prop, ∀ w', S w' ↔ w'.heap[mb]? = some (.cells (mkA own bind size bytes (.slice pv rels.length cv) gb) 196 (0, 0)) := ⟨_, fun _ => Iff.rfl⟩
  have HSD := Lib.hid hSd; clear hSd
  have hS0 : S w.drew := (HSD.out _).2 HST.out.box
  have c4 : ∀ z : HW S, z.u.cell? ⟨mb, 4, none⟩ = some (.string (bsOf bytes)) := fun z => Lib.cell_of_heap ((HSD.out _).1 z.h) 4
  have c5 : ∀ z : HW S, z.u.cell? ⟨mb, 5, none⟩ = some (.slice pv rels.length cv) := fun z => Lib.cell_of_heap ((HSD.out _).1 z.h) 5
  have HXE : Hid (relCells ⟨(bytes.length : Int) + 4, 1, name, add⟩ = [.int .u32 ((bytes.length : Int) + 4), .int .u8 1, .string name, .int .u32 add]) := Lib.hid rfl
  generalize hsb : bsOf bytes = SB at c4 hsz
  have q3 : IntKind.u32.wrap (bytes.length : Int) = (bytes.length : Int) := by rw [IntKind.wrap_u32]; omega
  have q4 : IntKind.u32.wrap ((bytes.length : Int) + 4) = (bytes.length : Int) + 4 := by rw [IntKind.wrap_u32]; omega
  have q5 : (bytes.length : Int) % 4294967296 = (bytes.length : Int) := by omega
  have q6 : ((bytes.length : Int) + 4) % 4294967296 = (bytes.length : Int) + 4 := by omega
  clear hsb
  haveI : Nonempty (HW S) := ⟨⟨_, hS0⟩⟩
  go_enter Tryz.func176, Tryz.ntmps176
  go_wp2_with fail
  refine wp_region_marks S [.r, .r, .r, .r, .r, .r, .r, .r, .r, .r, .r, .r, .r, .r, .r, .r, .r, .u, .u, .p, .p, .p, .p] rfl (by kernel_rfl) hS0 ?_
  repeat (refine wpReads_step (fun K hK => ?_); go_simp; refine hK _ ?_; clear hK K)
  refine wpReads_nil ?_
  clear c4 c5 q3 q4 q5 q6 hS0
  have HA : Hid (Below w.heap.size w (w.alloc (.cells #[.int .u32 ((bytes.length : Int) + 4), .int .u8 1, .string name, .int .u32 add] 101)).drew) := Lib.hid (below_drewN ((Below.refl _ _).alloc (Nat.le_refl _) _) 1)
  have HNW : Hid (∀ j u, [Value.int .u32 ((bytes.length : Int) + 4), Value.int .u8 1, Value.string name, Value.int .u32 add][j]? = some u → (w.alloc (.cells #[.int .u32 ((bytes.length : Int) + 4), .int .u8 1, .string name, .int .u32 add] 101)).drew.cell? ((⟨w.heap.size, 0, none⟩ : Addr).add j) = some u) := Lib.hid (by
    have := four_news33 (x := ⟨(bytes.length : Int) + 4, 1, name, add⟩) (new_block w (.cells #[.int .u32 ((bytes.length : Int) + 4), .int .u8 1, .string name, .int .u32 add] 101))
    exact this)
  have HO1 : Hid (∀ u ∈ [Value.int .u32 ((bytes.length : Int) + 4), Value.int .u8 1, Value.string name, Value.int .u32 add], u.oneCell' = true) := Lib.hid (four_one33 (x := ⟨(bytes.length : Int) + 4, 1, name, add⟩))
  refine wpTurns_step fun K hK => ?_
  go_simp
  refine hK _ _ ((HSD.out _).2 ((HST.out.keep HA.out).box)) ?_
  clear hK K
  have HSA := Lib.hid (HST.out.keep HA.out)
  refine wpTurns_step fun K hK => ?_
  refine step_append_own_at rfl (.tmp 11) (.tmp 23) 49 rfl w0.heap.size 101 iR _ 4 32 Tryz.underlying49 HI.out.1 HI.out.2.1 HI.out.2.2.1 HI.out.2.2.2 rfl (by decide) (.slice pv rels.length cv) rels.length (rels.flatMap relCells) (by simp [Act.eval]) HSA.out.row ⟨w.heap.size, 0, none⟩ 1 1 [Value.int .u32 ((bytes.length : Int) + 4), Value.int .u8 1, Value.string name, Value.int .u32 add] (by simp [Act.eval]) rfl HNW.out HO1.out (by unfold maxLen; omega) (by omega) HSA.out.bel.size ?_
  intro v5 w5 hown hgrow _
  obtain ⟨pv5, cv5, rfl⟩ := own_shape hown
  have hown2 : w5.ownsRow w0.heap.size 101 4 (.slice pv5 (rels.length + 1) cv5) (rels.length + 1) (rels.flatMap relCells ++ relCells ⟨(bytes.length : Int) + 4, 1, name, add⟩) := hown
  have HP := Lib.hid (HST.out.place ⟨(bytes.length : Int) + 4, 1, name, add⟩ HA.out hgrow hown2)
  have hb5 : w5.heap[mb]? = some (.cells (mkA own bind size bytes (.slice pv rels.length cv) gb) 196 (0, 0)) := (hgrow.block mb HSA.out.lt (fun e => HSA.out.nev e.symm)).trans HSA.out.box
  have HLN : Hid (∀ lb y, LnAt lb y w → LnAt lb y (w5.setCell ⟨mb, 5, none⟩ (.slice pv5 (rels.length + 1) cv5))) := Lib.hid fun lb y hy => by
    have hya := hy.keep HA.out
    have h1 : lb ≠ mb := fun e => by
      have h1 := HST.out.box
      rw [← e, hy] at h1
      injection h1 with h1; injection h1 with _ h1 _; exact absurd h1 (by decide)
    unfold LnAt
    rw [Below.heap_setCell _ _ _ _ (by simpa using h1), hgrow.block lb hya.lt (fun e => own_ne_box HSA.out.row hya (by decide) e.symm)]
    exact hya
  have hS5 : S w5 := (HSD.out _).2 hb5
  have e5 : w5.frozen? ⟨mb, 5, none⟩ = false := Lib.frozen_of_heap hb5 5
  have e6 : w5.cell? ⟨mb, 5, none⟩ = some (.slice pv rels.length cv) := Lib.cell_of_heap hb5 5
  clear hown hown2 hgrow hb5
  refine hK _ _ hS5 ?_
  clear hK K
  simp only [Act.put, List.setIfInBounds_toArray, List.set_cons_zero, List.set_cons_succ]
  refine wpTurns_nil ?_
  simp only [pickP]
  go_wp2
  refine NoPanic.normal ?_
  go_wp2
  go_end0
  exact (HPD.out _ _).2 ⟨rfl, ⟨_, HP.out⟩, HLN.out⟩
end Go.Proofs.YtoonkfhphbojcaaGreatDoor
namespace Go.Proofs.YtoonkfhphbojcaaGreatDoor
open Go.RowKit Go.Maps
set_option maxHeartbeats 4000000 in
set_option maxRecDepth 100000 in
theorem same10 (l : List GLine) (va vb : Value) (w : World) (ha : RowAt 8 LineR w va l) (hb : RowAt 8 LineR w vb l) : Calls Tryz.prog 19 #[va, vb] w fun e w' => e = .returned (.bool true) ∧ Below w.heap.size w w' := by
  obtain ⟨p, cap, b, o, rfl, hcap, hmax, hp, hc⟩ := ha
  obtain ⟨p2, cap2, b2, o2, rfl, hcap2, -, hp2, hc2⟩ := hb
  have HP := Lib.hid hp
  have HC := Lib.hid hc
  have HP2 := Lib.hid hp2
  have HC2 := Lib.hid hc2
  clear hp hc hp2 hc2
  go_enter Tryz.func19, Tryz.ntmps19
  go_upto_region 4 with fail
  go_loopw [5] (fun v5 wr => ∃ k : Nat, k ≤ l.length ∧ v5 = .int .i64 k ∧ Below w.heap.size w wr) (fun v5 _ => l.length - (intOf v5).toNat)
  case atStart => exact ⟨0, Nat.zero_le _, rfl, Below.refl _ _⟩
  case round =>
    obtain ⟨k, hk, rfl, hbel⟩ := hrel
    have HB := Lib.hid hbel
    clear hbel
    by_cases hlt : k < l.length
    · obtain rfl := HP.out (by omega)
      obtain rfl := HP2.out (by omega)
      obtain ⟨hb0, y0, y1, y2, y3, y4, y5, y6, y7, -⟩ := lineR_keeps _ _ _ _ _ HB.out (HC.out k hlt)
      obtain ⟨hb1, x0, x1, x2, x3, x4, x5, x6, x7, -⟩ := lineR_keeps _ _ _ _ _ HB.out (HC2.out k hlt)
      generalize l[k] = x at *
      obtain ⟨lab, ⟨op, xd, xa, xb, xi⟩, dd, nn⟩ := x
      simp only [] at y0 y1 y2 y3 y4 y5 y6 y7 x0 x1 x2 x3 x4 x5 x6 x7
      generalize bsOf lab = SL at *
      generalize bsOf dd = SD at *
      generalize bsOf nn = SN at *
      go_upto_region 6 with fail
      obtain ⟨RS, HSD⟩ : ∃ RS : World → Prop, ∀ w', RS w' ↔ w' = wr.drew := ⟨_, fun _ => Iff.rfl⟩
      have r0 : ∀ z : HW RS, z.u.cell? ⟨b, o + k * 8, none⟩ = some (.string SL) := fun z => by rw [(HSD _).1 z.h]; exact y0
      have r1 : ∀ z : HW RS, z.u.cell? ⟨b, o + k * 8 + 1, none⟩ = some (.int .u8 op) := fun z => by rw [(HSD _).1 z.h]; exact y1
      have r2 : ∀ z : HW RS, z.u.cell? ⟨b, o + k * 8 + 2, none⟩ = some (.int .u8 xd) := fun z => by rw [(HSD _).1 z.h]; exact y2
      have r3 : ∀ z : HW RS, z.u.cell? ⟨b, o + k * 8 + 3, none⟩ = some (.int .u8 xa) := fun z => by rw [(HSD _).1 z.h]; exact y3
      have r4 : ∀ z : HW RS, z.u.cell? ⟨b, o + k * 8 + 4, none⟩ = some (.int .u8 xb) := fun z => by rw [(HSD _).1 z.h]; exact y4
      have r5 : ∀ z : HW RS, z.u.cell? ⟨b, o + k * 8 + 5, none⟩ = some (.int .u32 xi) := fun z => by rw [(HSD _).1 z.h]; exact y5
      have r6 : ∀ z : HW RS, z.u.cell? ⟨b, o + k * 8 + 6, none⟩ = some (.string SD) := fun z => by rw [(HSD _).1 z.h]; exact y6
      have r7 : ∀ z : HW RS, z.u.cell? ⟨b, o + k * 8 + 7, none⟩ = some (.string SN) := fun z => by rw [(HSD _).1 z.h]; exact y7
      have t0 : ∀ z : HW RS, z.u.cell? ⟨b2, o2 + k * 8, none⟩ = some (.string SL) := fun z => by rw [(HSD _).1 z.h]; exact x0
      have t1 : ∀ z : HW RS, z.u.cell? ⟨b2, o2 + k * 8 + 1, none⟩ = some (.int .u8 op) := fun z => by rw [(HSD _).1 z.h]; exact x1
      have t2 : ∀ z : HW RS, z.u.cell? ⟨b2, o2 + k * 8 + 2, none⟩ = some (.int .u8 xd) := fun z => by rw [(HSD _).1 z.h]; exact x2
      have t3 : ∀ z : HW RS, z.u.cell? ⟨b2, o2 + k * 8 + 3, none⟩ = some (.int .u8 xa) := fun z => by rw [(HSD _).1 z.h]; exact x3
      have t4 : ∀ z : HW RS, z.u.cell? ⟨b2, o2 + k * 8 + 4, none⟩ = some (.int .u8 xb) := fun z => by rw [(HSD _).1 z.h]; exact x4
      have t5 : ∀ z : HW RS, z.u.cell? ⟨b2, o2 + k * 8 + 5, none⟩ = some (.int .u32 xi) := fun z => by rw [(HSD _).1 z.h]; exact x5
      have t6 : ∀ z : HW RS, z.u.cell? ⟨b2, o2 + k * 8 + 6, none⟩ = some (.string SD) := fun z => by rw [(HSD _).1 z.h]; exact x6
      have t7 : ∀ z : HW RS, z.u.cell? ⟨b2, o2 + k * 8 + 7, none⟩ = some (.string SN) := fun z => by rw [(HSD _).1 z.h]; exact x7
      haveI : Nonempty (HW RS) := ⟨⟨_, (HSD _).2 rfl⟩⟩
      refine wp_region_turn RS rfl (n := 9) rfl rfl ?_
      refine wpAnyS_take [0, 1, 2, 3, 4, 5, 6, 7, 8] (by kernel_rfl) (by kernel_rfl) (n := 0) rfl rfl rfl ((HSD _).2 rfl) ?_
      repeat (refine wpReads_step (fun K hK => ?_); go_simp; refine hK _ ?_; clear hK K)
      refine wpReads_nil ?_
      refine wpAnyS_done (by kernel_rfl) (NoPanic.normal ?_)
      clear r0 r1 r2 r3 r4 r5 r6 r7 t0 t1 t2 t3 t4 t5 t6 t7 HSD
      have HB2 : Hid (Below w.heap.size w wr.drew) := HB.out.drew
      generalize wr.drew = wd at *
      go_wp2
      go_roundw
      case rel => exact ⟨k + 1, by omega, by go_num, HB2.out⟩
      case measure => simp [intOf]; omega
    · obtain rfl : k = l.length := by omega
      go_wp2
      go_ret
      exact ⟨rfl, HB.out⟩
end Go.Proofs.YtoonkfhphbojcaaGreatDoor
