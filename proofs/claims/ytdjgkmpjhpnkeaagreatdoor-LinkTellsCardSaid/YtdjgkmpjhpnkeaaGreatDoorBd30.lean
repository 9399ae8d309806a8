/- The walks of aediculeref11's port, extent, Add and Of. -/
import Derived.Test.YtdjgkmpjhpnkeaaGreatDoorBd29
import Derived.Test.YtdjgkmpjhpnkeaaGreatDoorBd24
import Derived.Test.YtdjgkmpjhpnkeaaGreatDoorBd22
import Derived.Test.YtdjgkmpjhpnkeaaGreatDoorBd18
import Derived.BigQuiet
namespace Go.Proofs.YtdjgkmpjhpnkeaaGreatDoor
open Go.RowKit
/-- x[:k] -/
theorem slice_pre {P : Program} (t e : TypeId) (pv : Option Addr) (len cap k s : Nat) (ht : P.underlying t = some (.slice e)) (hs : ∀ w, (sizeOf e).run P w = .ok s w) (h : k ≤ cap) (w : World) :
    (Instr.slice t (.slice pv len cap) none (some (.int .i64 (k : Int))) none).run P w = .ok (.slice pv k cap) w := by
  have he : P.elem t = e := by simp [Program.elem, ht]
  rw [run_slice_h w t pv len cap (by rw [he]; exact ht) .i64 k (by omega) (by omega), he, hs]
  simp [Result.andThen, sliced]
  cases pv <;> simp [Addr.add]
/-- x[k:] -/
theorem slice_suf {P : Program} (t e : TypeId) (pv : Option Addr) (len cap k s : Nat) (ht : P.underlying t = some (.slice e)) (hs : ∀ w, (sizeOf e).run P w = .ok s w) (h : k ≤ len) (hc : len ≤ cap) :
    ∃ q, (∀ w, (Instr.slice t (.slice pv len cap) (some (.int .i64 (k : Int))) none none).run P w = .ok (.slice q (len - k) (cap - k)) w) ∧ ∀ b o, k < len → pv = some ⟨b, o, none⟩ → q = some ⟨b, o + k * s, none⟩ := by
  have he : P.elem t = e := by simp [Program.elem, ht]
  refine ⟨if cap = k then pv else pv.map (·.add (k * s)), fun w => ?_, fun b o hk hp => ?_⟩
  · rw [run_slice_l w t pv len cap (by rw [he]; exact ht) .i64 k (by omega) (by omega), he, hs]
    simp [Result.andThen, sliced]
  · subst hp
    rw [if_neg (by omega), Option.map_some, add_at]
theorem info_u16b : (Tryz.prog.info? 60).map (fun i => (i.zero, i.size, i.bytes)) = some (some (.int .u16 0), 1, 2) := by kernel_rfl
def portCells (l : List Int) : List Value := l.map (.int .u16)
theorem portCells_one {l : List Int} : ∀ u ∈ portCells l, u.oneCell' = true := by
  intro u hu
  obtain ⟨x, -, rfl⟩ := List.mem_map.1 hu
  rfl
theorem port_news {w : World} {b o : Nat} {l : List Int} (h : ∀ i (h : i < l.length), PortR w b (o + i * 1) l[i]) : ∀ j u, (portCells l)[j]? = some u → w.cell? ((⟨b, o, none⟩ : Addr).add j) = some u := by
  intro j u hu
  unfold portCells at hu
  rw [List.getElem?_map] at hu
  obtain ⟨x, hx, rfl⟩ := Option.map_eq_some_iff.1 hu
  obtain ⟨hj, rfl⟩ := List.getElem?_eq_some_iff.1 hx
  have := (h j hj).2.1
  rw [Nat.mul_one] at this
  rw [add_at]; exact this
theorem port_row {w : World} {v : Value} {base : Nat} {e : TypeId} {l : List Int} (hm : l.length ≤ 140737488355328) (hn : ∀ x ∈ l, 0 ≤ x ∧ x ≤ 65535) (h : w.ownsRow base e 1 v l.length (portCells l)) : RowAt 1 PortR w v l := by
  have h2 : w.ownsRow base e 1 v l.length (l.flatMap fun x => [Value.int .u16 x]) := by
    have e1 : (l.flatMap fun x => [Value.int .u16 x]) = portCells l := by unfold portCells; clear h hn hm; induction l with | nil => rfl | cons a r ih => rw [List.flatMap_cons, ih]; rfl
    rw [e1]; exact h
  exact owned_row (k := 1) (f := fun x => [Value.int .u16 x]) (fun _ => rfl) h2 hm fun g o' i hi hg hcell => ⟨hg, by simpa using hcell 0 _ (by omega) rfl, hn _ (List.getElem_mem hi)⟩
theorem port_num {w : World} {v : Value} {l : List Int} (h : RowAt 1 PortR w v l) : ∀ x ∈ l, 0 ≤ x ∧ x ≤ 65535 := fun x hx => by
  obtain ⟨i, hi, rfl⟩ := List.getElem_of_mem hx
  obtain ⟨_, _, _, _, _, _, _, _, hc⟩ := h
  exact (hc i hi).2.2
set_option maxRecDepth 100000 in
set_option maxHeartbeats 2000000 in
theorem rport_any (v : Value) (l : List Int) (p : Int) (w : World) (h : RowAt 1 PortR w v l) (hp : 0 ≤ p ∧ p ≤ 65535) (hl : l.length ≤ 1000000) :
    Calls Tryz.prog 235 #[v, .int .u16 p] w fun e w' => ∃ v', e = .returned v' ∧ RowAt 1 PortR w' v' (portI l p) ∧ Below w.heap.size w w' := by
  have HRW := Lib.hid h
  have HNUM : Hid (∀ x ∈ portI l p, 0 ≤ x ∧ x ≤ 65535) := fun x hx => by
    rcases (portI_mem l p x).1 hx with h1 | rfl
    · exact port_num h x h1
    · exact hp
  have HNP := Lib.hid hp; clear hp
  obtain ⟨pv, cap, b, o, rfl, hcap, hmax, hpp, hc⟩ := h
  have HP := Lib.hid hpp; clear hpp
  have HC := Lib.hid hc; clear hc
  have HE := Lib.hid (portI_at l p)
  have hpl := portI_len l p
  obtain ⟨i0, hi, hz0, hz1, hz2⟩ := info_parts info_u16b
  have HI := Lib.hid (And.intro hi (And.intro hz0 (And.intro hz1 hz2)))
  clear hi hz0 hz1 hz2
  go_enter Tryz.func235, Tryz.ntmps235
  go_wp2
  go_loop [5] (fun v5 => ∃ k : Nat, k ≤ l.length ∧ v5 = .int .i64 k ∧ ∀ j (h : j < l.length), j < k → l[j] < p) (fun v5 => l.length - (intOf v5).toNat)
  case atStart => exact ⟨0, Nat.zero_le _, by go_num, fun j _ h => by omega⟩
  case round =>
    obtain ⟨k, hk, rfl, hlow⟩ := hrel
    have HLOW := Lib.hid hlow; clear hlow
    by_cases hnx : ∃ h : k < l.length, l[k] < p
    · obtain ⟨hlt, hx⟩ := hnx
      obtain rfl := HP.out (by omega)
      obtain ⟨c0, c1, -⟩ := HC.out k hlt
      rw [Nat.mul_one] at c1
      have HL2 : Hid (∀ j (h : j < l.length), j < k + 1 → l[j] < p) := fun j hj hjk => by
        rcases Nat.lt_succ_iff_lt_or_eq.1 hjk with h1 | h1
        · exact HLOW.out j hj h1
        · subst h1; exact hx
      generalize l[k] = x at *
      go_wp2
      go_round
      case rel => exact ⟨k + 1, by omega, by go_num, HL2.out⟩
      case measure => simp [intOf]; omega
    have HEK := Lib.hid (HE.out k hk HLOW.out (fun h1 => Int.not_lt.1 fun h2 => hnx ⟨h1, h2⟩))
    by_cases hsm : ∃ h : k < l.length, l[k] = p
    · obtain ⟨hlt, he⟩ := hsm
      rw [List.getElem?_eq_getElem hlt, if_pos (by rw [he])] at HEK
      obtain rfl := HP.out (by omega)
      obtain ⟨c0, c1, -⟩ := HC.out k hlt
      rw [Nat.mul_one] at c1
      have hx : ¬ l[k] < p := by omega
      have d1 : (l[k] == p) = true := by simpa using he
      clear hnx
      generalize l[k] = x at *
      subst he
      go_wp2
      go_ret
      rw [HEK.out]
      exact ⟨_, rfl, HRW.out, Below.refl _ _⟩
    have HEK2 : Hid (portI l p = l.take k ++ p :: l.drop k) := by
      rw [Hid, HEK.out, if_neg]
      intro h1
      exact hsm (List.getElem?_eq_some_iff.1 h1)
    have hsz : ∀ w, (sizeOf 60).run Tryz.prog w = .ok 1 w := fun w => by simp [Tryz.sizeOf60]
    have hpre := slice_pre (P := Tryz.prog) 29 60 pv l.length cap k 1 Tryz.underlying29 hsz (by omega)
    obtain ⟨q, hsuf, hq⟩ := slice_suf (P := Tryz.prog) 29 60 pv l.length cap k 1 Tryz.underlying29 hsz hk hcap
    have HQ : Hid (0 < l.length - k → q = some ⟨b, o + k, none⟩) := fun h0 => by
      have := hq b o (by omega) (HP.out (by omega))
      rw [Nat.mul_one] at this; exact this
    have HQ0 : Hid (0 < k → pv = some ⟨b, o, none⟩) := fun h0 => HP.out (by omega)
    have HC1 : Hid (∀ i (h : i < (l.take k).length), PortR w b (o + i * 1) (l.take k)[i]) := fun i h => by
      rw [List.getElem_take]; exact HC.out i (by simp at h; omega)
    have HC2 : Hid (∀ i (h : i < (l.drop k).length), PortR w b (o + k + i * 1) (l.drop k)[i]) := fun i h => by
      rw [List.getElem_drop, show o + k + i * 1 = o + (k + i) * 1 by omega]; exact HC.out (k + i) (by simp at h; omega)
    have hw : (k < l.length ∧ ∃ x, w.cell? ⟨b, o + k, none⟩ = some (.int .u16 x) ∧ pv = some ⟨b, o, none⟩ ∧ ¬ x < p ∧ (x == p) = false) ∨ ¬ k < l.length := by
      by_cases hlt : k < l.length
      · obtain ⟨c0, c1, -⟩ := HC.out k hlt
        rw [Nat.mul_one] at c1
        exact .inl ⟨hlt, l[k], c1, HP.out (by omega), fun h1 => hnx ⟨hlt, h1⟩, by simpa using fun h1 => hsm ⟨hlt, h1⟩⟩
      · exact .inr hlt
    clear hnx hsm hsz hq HEK HE HLOW
    rcases hw with ⟨hlt, x, c1, rfl, hx, d1⟩ | hlt
    all_goals
      go_upto_region 6 with fail
      go_wp2_with (at_builtin; refine wpList_copy rfl _ _ 29 rfl 60 i0 _ 1 2 Tryz.underlying29 HI.out.1 HI.out.2.1 HI.out.2.2.1 HI.out.2.2.2 rfl (by decide) rfl _ k cap b o (portCells (l.take k)) rfl (fun h0 => by first | rfl | exact HQ0.out h0) (by simp [portCells]; omega) (fun _ => port_news HC1.out) portCells_one (by omega) (by omega) ?_)
      intro v6 w1 ho1 hg1
      obtain ⟨p6, c6, rfl⟩ := own_shape ho1
      have HO1 := Lib.hid ho1
      have HB1 : Hid (Below w.heap.size w w1) := (Below.refl _ _).grown hg1 (by simp) (fun k hk => by cases hk)
      clear ho1 hg1
      go_wp2_with (at_builtin; refine wpList_append_own _ rfl _ _ 29 rfl w.heap.size 60 i0 (.int .u16 0) 1 2 Tryz.underlying29 HI.out.1 HI.out.2.1 HI.out.2.2.1 HI.out.2.2.2 rfl (by decide) _ k (portCells (l.take k)) rfl (HO1.out.alloc _) ⟨w1.heap.size, 0, none⟩ 1 1 [.int .u16 p] rfl rfl (cell_one_new _ _ _) (by intro u hu; simp at hu; subst hu; rfl) (by unfold maxLen; omega) (by omega) (by have := HB1.out.size; simp; omega) ?_)
      intro v7 w2 ho2 hg2 _
      obtain ⟨p7, c7, rfl⟩ := own_shape ho2
      have HO2 := Lib.hid ho2
      have HB2 : Hid (Below w.heap.size w w2) := (HB1.out.alloc HB1.out.size _).grown hg2 (by have := HB1.out.size; simp; omega) (fun q e => (World.ownsRow.lt HO1.out q e).1)
      clear ho2 hg2
      go_wp2_with (at_builtin; refine wpList_append_src rfl _ _ 29 rfl w.heap.size 60 i0 (.int .u16 0) 1 2 Tryz.underlying29 HI.out.1 HI.out.2.1 HI.out.2.2.1 HI.out.2.2.2 rfl (by decide) (.slice p7 (k + 1) c7) (k + 1) (portCells (l.take k) ++ [.int .u16 p]) rfl HO2.out q (l.length - k) (cap - k) b (o + k) (portCells (l.drop k)) rfl (fun h0 => by first | exact HQ.out h0 | exact HQ.out) (by simp [portCells]) (fun _ => port_news (fun i h => portR_keeps _ _ _ _ _ HB2.out (HC2.out i h))) portCells_one (by unfold maxLen; omega) (by omega) HB2.out.size ?_)
      intro v8 w3 ho3 hg3
      have HB3 : Hid (Below w.heap.size w w3) := HB2.out.grown hg3 HB2.out.size (fun q e => (World.ownsRow.lt HO2.out q e).1)
      have HR3 : Hid (RowAt 1 PortR w3 v8 (portI l p)) := by
        refine port_row (e := 60) (base := w.heap.size) (by omega) HNUM.out ?_
        rw [HEK2.out]
        have e1 : (l.take k ++ p :: l.drop k).length = k + 1 + (l.length - k) := by simp; omega
        have e2 : portCells (l.take k ++ p :: l.drop k) = portCells (l.take k) ++ .int .u16 p :: portCells (l.drop k) := by simp [portCells]
        rw [e1, e2]; exact ho3
      obtain ⟨p8, c8, _, _, rfl, -⟩ := id HR3.out
      clear ho3 hg3
      go_wp2
      go_ret
      exact ⟨_, rfl, HR3.out, HB3.out⟩
theorem extCells_get : ∀ (l : List (Int × Int)) (i : Nat) (h : i < l.length), (extCells l)[i * 2]? = some (.int .u32 l[i].1) ∧ (extCells l)[i * 2 + 1]? = some (.int .u32 l[i].2)
  | p :: r, 0, _ => by simp [extCells]
  | p :: r, i + 1, h => by
    have := extCells_get r i (by simpa using h)
    have e : extCells (p :: r) = .int .u32 p.1 :: .int .u32 p.2 :: extCells r := by simp [extCells]
    rw [e, show (i + 1) * 2 = i * 2 + 1 + 1 by omega, show i * 2 + 1 + 1 + 1 = (i * 2 + 1) + 1 + 1 by omega]
    simp only [List.getElem?_cons_succ, List.getElem_cons_succ]
    exact this
  | [], i, h => by simp at h
theorem extCells_len (l : List (Int × Int)) : (extCells l).length = l.length * 2 := by
  induction l with
  | nil => rfl
  | cons a r ih =>
    have e : extCells (a :: r) = .int .u32 a.1 :: .int .u32 a.2 :: extCells r := by simp [extCells]
    rw [e]; simp [ih]; omega
theorem extCells_one {l : List (Int × Int)} : ∀ u ∈ extCells l, u.oneCell' = true := by
  intro u hu
  simp only [extCells, List.mem_flatMap] at hu
  obtain ⟨x, -, hu⟩ := hu
  simp at hu
  rcases hu with rfl | rfl <;> rfl
theorem ext_news {w : World} {b o : Nat} {l : List (Int × Int)} (h : ∀ i (h : i < l.length), ExtR w b (o + i * 2) l[i]) : ∀ j u, (extCells l)[j]? = some u → w.cell? ((⟨b, o, none⟩ : Addr).add j) = some u := by
  intro j u hu
  have hj : j < (extCells l).length := (List.getElem?_eq_some_iff.1 hu).1
  rw [extCells_len] at hj
  have hi : j / 2 < l.length := by omega
  obtain ⟨e1, e2⟩ := extCells_get l (j / 2) hi
  obtain ⟨-, c1, c2, -⟩ := h (j / 2) hi
  rw [add_at]
  rcases Nat.mod_two_eq_zero_or_one j with hm | hm
  · have : j / 2 * 2 = j := by omega
    rw [this] at e1 c1
    rw [e1] at hu; rw [c1]; exact hu
  · have : j / 2 * 2 + 1 = j := by omega
    rw [this] at e2
    rw [Nat.add_assoc, this] at c2
    rw [e2] at hu; rw [c2]; exact hu
def ExtN (x : Int × Int) : Prop := (0 ≤ x.1 ∧ x.1 ≤ 4294967295) ∧ (0 ≤ x.2 ∧ x.2 ≤ 4294967295)
theorem ext_row {w : World} {v : Value} {base : Nat} {e : TypeId} {l : List (Int × Int)} (hm : l.length ≤ 140737488355328) (hn : ∀ x ∈ l, ExtN x) (h : w.ownsRow base e 2 v l.length (extCells l)) : RowAt 2 ExtR w v l :=
  owned_row (k := 2) (f := fun (x : Int × Int) => [Value.int .u32 x.1, Value.int .u32 x.2]) (fun _ => rfl) h hm fun g o' i hi hg hcell => ⟨hg, by simpa using hcell 0 _ (by omega) rfl, hcell 1 _ (by omega) rfl, hn _ (List.getElem_mem hi)⟩
theorem ext_num {w : World} {v : Value} {l : List (Int × Int)} (h : RowAt 2 ExtR w v l) : ∀ x ∈ l, ExtN x := fun x hx => by
  obtain ⟨i, hi, rfl⟩ := List.getElem_of_mem hx
  obtain ⟨_, _, _, _, _, _, _, _, hc⟩ := h
  exact (hc i hi).2.2.2
theorem extI_num : ∀ (l : List (Int × Int)) (x : Int × Int), (∀ y ∈ l, ExtN y) → ExtN x → ∀ y ∈ extI l x, ExtN y
  | [], x, _, hx, y, hy => by
    rw [extI, List.mem_singleton] at hy
    rw [hy]; exact hx
  | z :: r, x, h, hx, y, hy => by
    rw [extI] at hy
    have hz := h z (by simp)
    have hr : ∀ y ∈ r, ExtN y := fun y hy => h y (by simp [hy])
    split at hy
    · rcases List.mem_cons.1 hy with rfl | hy
      · exact hz
      · exact extI_num r x hr hx y hy
    · split at hy
      · rcases List.mem_cons.1 hy with rfl | hy
        · unfold ExtN at *; simp only []; omega
        · exact hr y hy
      · rcases List.mem_cons.1 hy with rfl | hy
        · exact hx
        · exact h y hy
set_option maxRecDepth 100000 in
set_option maxHeartbeats 4000000 in
theorem rextent_any (v : Value) (l : List (Int × Int)) (x1 x2 : Int) (w : World) (h : RowAt 2 ExtR w v l) (hx : ExtN (x1, x2)) (hl : l.length ≤ 1000000) :
    Calls Tryz.prog 234 #[v, .agg #[.int .u32 x1, .int .u32 x2]] w fun e w' => ∃ v', e = .returned v' ∧ RowAt 2 ExtR w' v' (extI l (x1, x2)) ∧ Below w.heap.size w w' := by
  have HRW := Lib.hid h
  have HNUM := Lib.hid (extI_num l (x1, x2) (ext_num h) hx)
  obtain ⟨⟨hx1, hx2⟩, hx3, hx4⟩ := hx
  simp only [] at hx1 hx2 hx3 hx4
  obtain ⟨pv, cap, b, o, rfl, hcap, hmax, hpp, hc⟩ := h
  have HP := Lib.hid hpp; clear hpp
  have HC := Lib.hid hc; clear hc
  have HE := Lib.hid (extI_at l (x1, x2))
  have hpl := extI_len l (x1, x2)
  obtain ⟨i0, hi, hz0, hz1, hz2⟩ := info_parts info_extent
  have HI := Lib.hid (And.intro hi (And.intro hz0 (And.intro hz1 hz2)))
  clear hi hz0 hz1 hz2
  have HB0 : Hid (Below w.heap.size w (w.alloc (.cells #[.int .u32 x1, .int .u32 x2] 217))) := alloc_old w _
  have HX0 : Hid ((w.alloc (.cells #[.int .u32 x1, .int .u32 x2] 217)).heap[w.heap.size]? = some (.cells #[.int .u32 x1, .int .u32 x2] 217 (0, 0))) := new_block w _
  go_enter Tryz.func234, Tryz.ntmps234
  go_wp2
  generalize w.alloc (.cells #[.int .u32 x1, .int .u32 x2] 217) = w0 at *
  generalize hxb : w.heap.size = xb at HX0 ⊢
  have HXB := Lib.hid hxb; clear hxb
  have HXL : Hid (xb < w0.heap.size) := (Array.getElem?_eq_some_iff.1 HX0.out).1
  go_loopw [5] (fun v5 wr => ∃ k : Nat, k ≤ l.length ∧ v5 = .int .i64 k ∧ (∀ j (h : j < l.length), j < k → l[j].1 < x1) ∧ Below w0.heap.size w0 wr) (fun v5 _ => l.length - (intOf v5).toNat)
  case atStart => exact ⟨0, Nat.zero_le _, by go_num, fun j _ h => by omega, Below.refl _ _⟩
  case round =>
    obtain ⟨k, hk, rfl, hlow, hbel⟩ := hrel
    have HLOW := Lib.hid hlow; clear hlow
    have HB1 := Lib.hid hbel
    have hbx := (hbel.block xb HXL.out).trans HX0.out
    have HBX := Lib.hid hbx
    have q0 : wr.cell? ⟨xb, 0, none⟩ = some (.int .u32 x1) := Lib.cell_of_heap hbx 0
    have HBW : Hid (Below w.heap.size w wr) := HB0.out.trans (hbel.mono HB0.out.size)
    clear hbel hbx
    by_cases hnx : ∃ h : k < l.length, l[k].1 < x1
    · obtain ⟨hlt, hx⟩ := hnx
      obtain rfl := HP.out (by omega)
      obtain ⟨c0, c1, c2, -⟩ := extR_keeps _ _ _ _ _ HBW.out (HC.out k hlt)
      have HL2 : Hid (∀ j (h : j < l.length), j < k + 1 → l[j].1 < x1) := fun j hj hjk => by
        rcases Nat.lt_succ_iff_lt_or_eq.1 hjk with h1 | h1
        · exact HLOW.out j hj h1
        · subst h1; exact hx
      generalize l[k] = y at *
      have d1 : decide (y.1 < x1) = true := by simpa using hx
      go_wp2_with fail
      go_quiet (fail)
      go_wp2_with fail
      go_roundw
      case rel => exact ⟨k + 1, by omega, by go_num, HL2.out, below_drewN HB1.out _⟩
      case measure => simp [intOf]; omega
    have hsz : ∀ w, (sizeOf 217).run Tryz.prog w = .ok 2 w := fun w => by simp [Tryz.sizeOf217]
    have hpre := slice_pre (P := Tryz.prog) 28 217 pv l.length cap k 2 Tryz.underlying28 hsz (by omega)
    have HQ0 : Hid (0 < k → pv = some ⟨b, o, none⟩) := fun h0 => HP.out (by omega)
    have HC1 : Hid (∀ i (h : i < (l.take k).length), ExtR w b (o + i * 2) (l.take k)[i]) := fun i h => by
      rw [List.getElem_take]; exact HC.out i (by simp at h; omega)
    have HWB : Hid (w.heap.size ≤ wr.heap.size) := HBW.out.size
    have HXW : Hid (xb < wr.heap.size) := Nat.lt_of_lt_of_le HXL.out HB1.out.size
    obtain ⟨B1, hB1⟩ : ∃ B1, B1 = wr.heap.size := ⟨_, rfl⟩
    have HB1E := Lib.hid hB1; clear hB1
    rw [← HB1E.out] at HWB HXW
    have hnw := HE.out k hk HLOW.out (fun h1 => Int.not_lt.1 fun h2 => hnx ⟨h1, h2⟩)
    by_cases hsm : ∃ h : k < l.length, l[k].1 = x1
    · obtain ⟨hlt, he⟩ := hsm
      have hnl : ¬ l[k].1 < x1 := fun h1 => hnx ⟨hlt, h1⟩
      obtain rfl := HP.out (by omega)
      rw [List.getElem?_eq_getElem hlt] at hnw
      simp only [he, if_true] at hnw
      obtain ⟨q, hsuf, hq⟩ := slice_suf (P := Tryz.prog) 28 217 (some ⟨b, o, none⟩) l.length cap (k + 1) 2 Tryz.underlying28 hsz (by omega) hcap
      have HQ : Hid (0 < l.length - (k + 1) → q = some ⟨b, o + (k + 1) * 2, none⟩) := fun h0 => hq b o (by omega) rfl
      have HC2 : Hid (∀ i (h : i < (l.drop (k + 1)).length), ExtR w b (o + (k + 1) * 2 + i * 2) (l.drop (k + 1))[i]) := fun i h => by
        rw [List.getElem_drop, show o + (k + 1) * 2 + i * 2 = o + (k + 1 + i) * 2 by omega]; exact HC.out (k + 1 + i) (by simp at h; omega)
      have HCK := Lib.hid (HC.out k hlt)
      have hyb := (HC.out k hlt).2.2.2
      have HEK := Lib.hid hnw
      clear hnw hnx hsz hq HE HLOW HC HP
      generalize l[k] = y at *
      obtain ⟨ya, yz⟩ := y
      simp only [] at he hnl hyb HEK
      subst he
      obtain ⟨y2, hy2⟩ : ∃ y2, y2 = max x2 yz := ⟨_, rfl⟩
      have HEK2 : Hid (extI l (ya, x2) = l.take k ++ (ya, y2) :: l.drop (k + 1)) := by rw [Hid, hy2]; exact HEK.out
      have HY2 := Lib.hid hy2; clear hy2 HEK
      obtain ⟨c0, c1, c2, -⟩ := extR_keeps _ _ _ _ _ HBW.out HCK.out
      simp only [] at c1 c2
      have d1 : decide (ya < ya) = false := by simp
      have q1 : wr.cell? ⟨xb, 1, none⟩ = some (.int .u32 x2) := Lib.cell_of_heap HBX.out 1
      go_wp2_with fail
      go_quiet (fail)
      clear c1 c2 q0 q1
      have HBQ : Hid (Below w.heap.size w (wr.drewN nq)) := below_drewN HBW.out nq
      have HBXQ : Hid ((wr.drewN nq).heap[xb]? = some (.cells #[.int .u32 ya, .int .u32 x2] 217 (0, 0))) := HBX.out
      have HZQ : Hid ((wr.drewN nq).heap.size = B1) := HB1E.out.symm
      generalize wr.drewN nq = wq at *
      go_upto_region 4 with fail
      go_wp2_with (at_builtin; refine wpList_copy rfl _ _ 28 rfl 217 i0 _ 2 8 Tryz.underlying28 HI.out.1 HI.out.2.1 HI.out.2.2.1 HI.out.2.2.2 rfl (by decide) rfl _ k cap b o (extCells (l.take k)) rfl (fun _ => rfl) (by rw [extCells_len]; simp; omega) (fun _ => ext_news (fun i h => extR_keeps _ _ _ _ _ HBQ.out (HC1.out i h))) extCells_one (by omega) (by omega) ?_)
      intro v6 w2 ho1 hg1
      obtain ⟨p6, c6, rfl⟩ := own_shape ho1
      rw [HZQ.out] at ho1
      have hbq2 : Below wq.heap.size wq w2 := (Below.refl _ _).grown hg1 (Nat.le_refl _) (fun k hk => by cases hk)
      have HO0 := Lib.hid ho1
      have HB2 : Hid (Below w.heap.size w w2) := HBQ.out.trans (hbq2.mono HBQ.out.size)
      have hbx2 : w2.heap[xb]? = some (.cells #[.int .u32 ya, .int .u32 x2] 217 (0, 0)) := (hbq2.block xb (by rw [HZQ.out]; exact HXW.out)).trans HBXQ.out
      have HBX2 := Lib.hid hbx2
      have q0 : w2.cell? ⟨xb, 0, none⟩ = some (.int .u32 ya) := Lib.cell_of_heap hbx2 0
      have q1 : w2.cell? ⟨xb, 1, none⟩ = some (.int .u32 x2) := Lib.cell_of_heap hbx2 1
      have qf : w2.frozen? ⟨xb, 1, none⟩ = false := Lib.frozen_of_heap hbx2 _
      obtain ⟨c0, c1, c2, -⟩ := extR_keeps _ _ _ _ _ HB2.out HCK.out
      simp only [] at c1 c2
      have hz2 : B1 ≤ w2.heap.size := by have := hbq2.size; rw [HZQ.out] at this; exact this
      clear ho1 hg1 hbq2 hbx2 hpre
      go_wp2_with fail
      go_quiet (fail)
      clear c0 c1 c2 q0 q1 qf
      have HZ2 : Hid (xb < w2.heap.size) := (Array.getElem?_eq_some_iff.1 HBX2.out).1
      have HB3 : Hid (Below w.heap.size w (w2.drewN nq)) := below_drewN HB2.out nq
      have HBX3 : Hid ((w2.drewN nq).heap[xb]? = some (.cells #[.int .u32 ya, .int .u32 x2] 217 (0, 0))) := HBX2.out
      have HO3 : Hid ((w2.drewN nq).ownsRow B1 217 2 (.slice p6 k c6) k (extCells (l.take k))) := own_congr HO0.out fun g hg => rfl
      have hz3 : B1 ≤ (w2.drewN nq).heap.size := hz2
      generalize w2.drewN nq = w3 at *
      obtain ⟨c0, c1, c2, -⟩ := extR_keeps _ _ _ _ _ HB3.out HCK.out
      simp only [] at c1 c2
      have q0 : w3.cell? ⟨xb, 0, none⟩ = some (.int .u32 ya) := Lib.cell_of_heap HBX3.out 0
      have q1 : w3.cell? ⟨xb, 1, none⟩ = some (.int .u32 x2) := Lib.cell_of_heap HBX3.out 1
      have qf : w3.frozen? ⟨xb, 1, none⟩ = false := Lib.frozen_of_heap HBX3.out _
      push_cast at hsuf
      go_wp2_with fail
      go_still_tail 9, (by kernel_rfl)
      change wpList _ _ _ _ _ w3.drew
      go_upto_region 7 with fail
      rw [← HY2.out]
      have HBWW : Hid (Below w.heap.size w (w3.setCell ⟨xb, 1, none⟩ (.int .u32 y2)).drew) := (HB3.out.setCell (Nat.le_of_eq HXB.out) _).drew
      have HBXW : Hid ((w3.setCell ⟨xb, 1, none⟩ (.int .u32 y2)).drew.heap[xb]? = some (.cells #[.int .u32 ya, .int .u32 y2] 217 (0, 0))) := by
        have e := heap_setCell_same w3 xb 1 _ _ (.int .u32 y2) HBX3.out
        have e2 : (w3.setCell ⟨xb, 1, none⟩ (.int .u32 y2)).heap[xb]? = some (.cells #[.int .u32 ya, .int .u32 y2] 217 (0, 0)) := by simpa using e
        exact e2
      have HOW : Hid ((w3.setCell ⟨xb, 1, none⟩ (.int .u32 y2)).drew.ownsRow B1 217 2 (.slice p6 k c6) k (extCells (l.take k))) := own_congr HO3.out fun g hg => Below.heap_setCell _ _ _ _ (fun e => by have h1 := (HO3.out.lt g hg).1; have h2 := HXW.out; simp only [] at e; omega)
      have hzw : B1 ≤ (w3.setCell ⟨xb, 1, none⟩ (.int .u32 y2)).drew.heap.size := by simpa using hz3
      clear c0 c1 c2 q0 q1 qf
      generalize (w3.setCell ⟨xb, 1, none⟩ (.int .u32 y2)).drew = W at *
      have HXZ : Hid (xb < W.heap.size) := (Array.getElem?_eq_some_iff.1 HBXW.out).1
      have q0 : W.cell? ⟨xb, 0, none⟩ = some (.int .u32 ya) := Lib.cell_of_heap HBXW.out 0
      have q1 : W.cell? ⟨xb, 1, none⟩ = some (.int .u32 y2) := Lib.cell_of_heap HBXW.out 1
      go_wp2_with (at_builtin; refine wpList_append_own _ rfl _ _ 28 rfl B1 217 i0 (.agg #[.int .u32 0, .int .u32 0]) 2 8 Tryz.underlying28 HI.out.1 HI.out.2.1 HI.out.2.2.1 HI.out.2.2.2 rfl (by decide) _ k (extCells (l.take k)) rfl (HOW.out.alloc _) ⟨W.heap.size, 0, none⟩ 1 1 [.int .u32 ya, .int .u32 y2] rfl rfl (two_newsG (by simp [go_sem]) (by simp [go_sem])) two_u32 (by unfold maxLen; omega) (by omega) (by simp; omega) ?_)
      intro v7 wA ho2 hg2 _
      obtain ⟨p7, c7, rfl⟩ := own_shape ho2
      have HO2 := Lib.hid ho2
      have HBA : Hid (Below w.heap.size w wA) := (HBWW.out.alloc HBWW.out.size _).grown hg2 (by have := HBWW.out.size; simp; omega) (fun q e => by have := (World.ownsRow.lt HOW.out q e).1; have := HWB.out; omega)
      have hzA : B1 ≤ wA.heap.size := by have := hg2.size; simp at this; omega
      clear ho2 hg2 q0 q1
      go_wp2_with (at_builtin; refine wpList_append_src rfl _ _ 28 rfl B1 217 i0 _ 2 8 Tryz.underlying28 HI.out.1 HI.out.2.1 HI.out.2.2.1 HI.out.2.2.2 rfl (by decide) (.slice p7 (k + 1) c7) (k + 1) (extCells (l.take k) ++ [.int .u32 ya, .int .u32 y2]) rfl HO2.out q (l.length - (k + 1)) (cap - (k + 1)) b (o + (k + 1) * 2) (extCells (l.drop (k + 1))) rfl (fun h0 => by first | exact HQ.out h0 | exact HQ.out) (by rw [extCells_len]; simp) (fun _ => ext_news (fun i h => extR_keeps _ _ _ _ _ HBA.out (HC2.out i h))) extCells_one (by unfold maxLen; omega) (by omega) hzA ?_)
      intro v8 wZ ho3 hg3
      have HBZ : Hid (Below w.heap.size w wZ) := HBA.out.grown hg3 HBA.out.size (fun q e => by have := (World.ownsRow.lt HO2.out q e).1; have := HWB.out; omega)
      have HRZ : Hid (RowAt 2 ExtR wZ v8 (extI l (ya, x2))) := by
        refine ext_row (e := 217) (base := B1) (by omega) HNUM.out ?_
        rw [HEK2.out]
        have e1 : (l.take k ++ (ya, y2) :: l.drop (k + 1)).length = k + 1 + (l.length - (k + 1)) := by simp; omega
        have e2 : extCells (l.take k ++ (ya, y2) :: l.drop (k + 1)) = extCells (l.take k) ++ .int .u32 ya :: .int .u32 y2 :: extCells (l.drop (k + 1)) := by simp [extCells]
        rw [e1, e2]; exact ho3
      obtain ⟨p8, c8, _, _, rfl, -⟩ := id HRZ.out
      clear ho3 hg3
      go_wp2
      go_ret
      exact ⟨_, rfl, HRZ.out, HBZ.out⟩
    · have HEK2 : Hid (extI l (x1, x2) = l.take k ++ (x1, x2) :: l.drop k) := by
        rw [Hid, hnw]
        by_cases hlt : k < l.length
        · rw [List.getElem?_eq_getElem hlt]
          simp only []
          rw [if_neg (fun e => hsm ⟨hlt, e⟩)]
        · rw [List.getElem?_eq_none (by omega)]
      obtain ⟨q, hsuf, hq⟩ := slice_suf (P := Tryz.prog) 28 217 pv l.length cap k 2 Tryz.underlying28 hsz hk hcap
      have HQ : Hid (0 < l.length - k → q = some ⟨b, o + k * 2, none⟩) := fun h0 => hq b o (by omega) (HP.out (by omega))
      have HC2 : Hid (∀ i (h : i < (l.drop k).length), ExtR w b (o + k * 2 + i * 2) (l.drop k)[i]) := fun i h => by
        rw [List.getElem_drop, show o + k * 2 + i * 2 = o + (k + i) * 2 by omega]; exact HC.out (k + i) (by simp at h; omega)
      have hw : (k < l.length ∧ ∃ ya, (∀ W, Below w.heap.size w W → W.cell? ⟨b, o + k * 2, none⟩ = some (.int .u32 ya)) ∧ pv = some ⟨b, o, none⟩ ∧ b < w.heap.size ∧ decide (ya < x1) = false ∧ (ya == x1) = false) ∨ ¬ k < l.length := by
        by_cases hlt : k < l.length
        · refine .inl ⟨hlt, l[k].1, fun W hW => (extR_keeps _ _ _ _ _ hW (HC.out k hlt)).2.1, HP.out (by omega), (HC.out k hlt).1, by simpa using fun h1 => hnx ⟨hlt, h1⟩, by simpa using fun h1 => hsm ⟨hlt, h1⟩⟩
        · exact .inr hlt
      clear hnw hnx hsm hsz hq HE HLOW
      rcases hw with ⟨hlt, ya, hcl, rfl, hbl, d1, d2⟩ | hlt
      case' inl =>
        have HCL := Lib.hid hcl
        have c1 := hcl wr HBW.out
        have hbw : b < wr.heap.size := size_keep HBW.out hbl
        clear hcl
        go_wp2_with fail
        go_quiet (fail)
        clear c1
      case' inr =>
        have HCL : Hid (True) := Lib.hid trivial
        go_wp2_with fail
        go_quiet (fail)
      all_goals
        clear q0
        have HBQ : Hid (Below w.heap.size w (wr.drewN nq)) := below_drewN HBW.out nq
        have HBXQ : Hid ((wr.drewN nq).heap[xb]? = some (.cells #[.int .u32 x1, .int .u32 x2] 217 (0, 0))) := HBX.out
        have HZQ : Hid ((wr.drewN nq).heap.size = B1) := HB1E.out.symm
        generalize wr.drewN nq = wq at *
        go_upto_region 4 with fail
        go_wp2_with (at_builtin; refine wpList_copy rfl _ _ 28 rfl 217 i0 _ 2 8 Tryz.underlying28 HI.out.1 HI.out.2.1 HI.out.2.2.1 HI.out.2.2.2 rfl (by decide) rfl _ k cap b o (extCells (l.take k)) rfl (fun h0 => by first | rfl | exact HQ0.out h0) (by rw [extCells_len]; simp; omega) (fun _ => ext_news (fun i h => extR_keeps _ _ _ _ _ HBQ.out (HC1.out i h))) extCells_one (by omega) (by omega) ?_)
        intro v6 w2 ho1 hg1
        obtain ⟨p6, c6, rfl⟩ := own_shape ho1
        rw [HZQ.out] at ho1
        have hbq2 : Below wq.heap.size wq w2 := (Below.refl _ _).grown hg1 (Nat.le_refl _) (fun k hk => by cases hk)
        have HO0 := Lib.hid ho1
        have HB2 : Hid (Below w.heap.size w w2) := HBQ.out.trans (hbq2.mono HBQ.out.size)
        have hbx2 : w2.heap[xb]? = some (.cells #[.int .u32 x1, .int .u32 x2] 217 (0, 0)) := (hbq2.block xb (by rw [HZQ.out]; exact HXW.out)).trans HBXQ.out
        have HBX2 := Lib.hid hbx2
        have q0 : w2.cell? ⟨xb, 0, none⟩ = some (.int .u32 x1) := Lib.cell_of_heap hbx2 0
        have hz2 : B1 ≤ w2.heap.size := by have := hbq2.size; rw [HZQ.out] at this; exact this
        try have c1 := HCL.out w2 HB2.out
        try have hbw2 : b < w2.heap.size := size_keep HB2.out hbl
        clear ho1 hg1 hbq2 hbx2 hpre
        go_wp2_with fail
        go_quiet (fail)
        try clear c1
        clear q0
        have HBWW : Hid (Below w.heap.size w (w2.drewN nq)) := below_drewN HB2.out nq
        have HBXW : Hid ((w2.drewN nq).heap[xb]? = some (.cells #[.int .u32 x1, .int .u32 x2] 217 (0, 0))) := HBX2.out
        have HOW : Hid ((w2.drewN nq).ownsRow B1 217 2 (.slice p6 k c6) k (extCells (l.take k))) := own_congr HO0.out fun g hg => rfl
        have hzw : B1 ≤ (w2.drewN nq).heap.size := hz2
        generalize w2.drewN nq = W at *
        have HXZ : Hid (xb < W.heap.size) := (Array.getElem?_eq_some_iff.1 HBXW.out).1
        have q0 : W.cell? ⟨xb, 0, none⟩ = some (.int .u32 x1) := Lib.cell_of_heap HBXW.out 0
        have q1 : W.cell? ⟨xb, 1, none⟩ = some (.int .u32 x2) := Lib.cell_of_heap HBXW.out 1
        go_wp2_with (at_builtin; refine wpList_append_own _ rfl _ _ 28 rfl B1 217 i0 (.agg #[.int .u32 0, .int .u32 0]) 2 8 Tryz.underlying28 HI.out.1 HI.out.2.1 HI.out.2.2.1 HI.out.2.2.2 rfl (by decide) _ k (extCells (l.take k)) rfl (HOW.out.alloc _) ⟨W.heap.size, 0, none⟩ 1 1 [.int .u32 x1, .int .u32 x2] rfl rfl (two_newsG (by simp [go_sem]) (by simp [go_sem])) two_u32 (by unfold maxLen; omega) (by omega) (by simp; omega) ?_)
        intro v7 wA ho2 hg2 _
        obtain ⟨p7, c7, rfl⟩ := own_shape ho2
        have HO2 := Lib.hid ho2
        have HBA : Hid (Below w.heap.size w wA) := (HBWW.out.alloc HBWW.out.size _).grown hg2 (by have := HBWW.out.size; simp; omega) (fun q e => by have := (World.ownsRow.lt HOW.out q e).1; have := HWB.out; omega)
        have hzA : B1 ≤ wA.heap.size := by have := hg2.size; simp at this; omega
        clear ho2 hg2 q0 q1
        go_wp2_with (at_builtin; refine wpList_append_src rfl _ _ 28 rfl B1 217 i0 _ 2 8 Tryz.underlying28 HI.out.1 HI.out.2.1 HI.out.2.2.1 HI.out.2.2.2 rfl (by decide) (.slice p7 (k + 1) c7) (k + 1) (extCells (l.take k) ++ [.int .u32 x1, .int .u32 x2]) rfl HO2.out q (l.length - k) (cap - k) b (o + k * 2) (extCells (l.drop k)) rfl (fun h0 => by first | exact HQ.out h0 | exact HQ.out) (by rw [extCells_len]; simp) (fun _ => ext_news (fun i h => extR_keeps _ _ _ _ _ HBA.out (HC2.out i h))) extCells_one (by unfold maxLen; omega) (by omega) hzA ?_)
        intro v8 wZ ho3 hg3
        have HBZ : Hid (Below w.heap.size w wZ) := HBA.out.grown hg3 HBA.out.size (fun q e => by have := (World.ownsRow.lt HO2.out q e).1; have := HWB.out; omega)
        have HRZ : Hid (RowAt 2 ExtR wZ v8 (extI l (x1, x2))) := by
          refine ext_row (e := 217) (base := B1) (by omega) HNUM.out ?_
          rw [HEK2.out]
          have e1 : (l.take k ++ (x1, x2) :: l.drop k).length = k + 1 + (l.length - k) := by simp; omega
          have e2 : extCells (l.take k ++ (x1, x2) :: l.drop k) = extCells (l.take k) ++ .int .u32 x1 :: .int .u32 x2 :: extCells (l.drop k) := by simp [extCells]
          rw [e1, e2]; exact ho3
        obtain ⟨p8, c8, _, _, rfl, -⟩ := id HRZ.out
        clear ho3 hg3
        go_wp2
        go_ret
        exact ⟨_, rfl, HRZ.out, HBZ.out⟩
end Go.Proofs.YtdjgkmpjhpnkeaaGreatDoor
