/- The walk of dis.parsed. -/
import Derived.Test.YtoonkfhphbojcaaGreatDoorBv18
import Derived.Test.YtoonkfhphbojcaaGreatDoorBv16
namespace Go.Proofs.YtoonkfhphbojcaaGreatDoor
open Go.RowKit Go.Maps
theorem wpAnyS_mono {P : Program} {ops : Array Oper} {Q : Exit → Act → World → Prop} {md : Region.Mode} {S S2 : World → Prop} (h : ∀ w, S2 w → S w) : ∀ (n : Nat) (listed : Array Bool) (a : Act) (w : World), wpAnyS P md ops Q S2 n listed a w → wpAnyS P md ops Q S n listed a w
  | 0, _, _, _, hw => hw
  | n + 1, _, _, _, hw => ⟨hw.1, fun i hi => wpOp_mono (fun a' w' h' => ⟨h w' h'.1, wpAnyS_mono h n _ a' w' h'.2⟩) (hw.2 i hi)⟩
theorem wpAnyS_two {P : Program} {Q : Exit → Act → World → Prop} {md : Region.Mode} {S : World → Prop} {l : List Oper} {n i k : Nat} {oi ok : Oper} {listed : Array Bool} {a : Act} {w : World} (hr : Region.ready md l.toArray listed = [i, k]) (hi : l[i]? = some oi) (hk : l[k]? = some ok)
    (h1 : ∀ K : Act → World → Prop, (∀ a w, S w → wpAnyS P md l.toArray Q S n (listed.setIfInBounds i true) a w → K a w) → if Region.wanted oi (yielded l.toArray a.tmps) = true then Oper.wp P oi a w K Q else K (a.put oi.dst undef) w)
    (h2 : ∀ K : Act → World → Prop, (∀ a w, S w → wpAnyS P md l.toArray Q S n (listed.setIfInBounds k true) a w → K a w) → if Region.wanted ok (yielded l.toArray a.tmps) = true then Oper.wp P ok a w K Q else K (a.put ok.dst undef) w) :
    wpAnyS P md l.toArray Q S (n + 1) listed a w := by
  refine ⟨fun h1 => (by rw [hr] at h1; cases h1), fun j hj => ?_⟩
  rw [hr] at hj
  have hj' : j = i ∨ j = k := by simpa using hj
  rcases hj' with rfl | rfl
  · have := h1 (fun a' w' => S w' ∧ wpAnyS P md l.toArray Q S n (listed.setIfInBounds j true) a' w') (fun _ _ h1 h2 => ⟨h1, h2⟩)
    unfold wpOp; simp only [List.getElem?_toArray, hi]; split at this; (· rename_i hw; rw [if_pos hw]; exact .inl this); (· rename_i hw; rw [if_neg hw]; exact this)
  · have := h2 (fun a' w' => S w' ∧ wpAnyS P md l.toArray Q S n (listed.setIfInBounds j true) a' w') (fun _ _ h1 h2 => ⟨h1, h2⟩)
    unfold wpOp; simp only [List.getElem?_toArray, hk]; split at this; (· rename_i hw; rw [if_pos hw]; exact .inl this); (· rename_i hw; rw [if_neg hw]; exact this)
def opOf (l : BL) : Option Int := (opL.find? fun p => decide (l = p.2)).map (·.1)
theorem turnG_op (L : List (Int × BL)) (l : BL) : turnG L l = ((L.find? fun p => decide (l = p.2)).map (·.1)).map entV := by
  induction L with
  | nil => rfl
  | cons p r ih =>
    by_cases h : l = p.2
    · simp [turnG, h]
    · simp only [turnG, h, if_false, List.find?_cons, decide_false]
      exact ih
/-- what is taken: a word, and the next one's number -/
def takeL (is : Bool) (ps : List BL) (j : Nat) : Option (BL × Nat) := if is then if j < ps.length then some (ps.getD j [], j + 1) else none else some ([114, 48], j)
/-- the instruction of a line's words, and what stands in the place of its number -/
def parsedW (ps : List BL) : Option (GIns × BL) :=
  match opOf (ps.getD 0 []) with
  | none => none
  | some op => match takeL (bitOf (useOf op) 1) ps 1 with
    | none => none
    | some (wd, j1) => match regL wd with
      | none => none
      | some d => match takeL (bitOf (useOf op) 2) ps j1 with
        | none => none
        | some (wa, j2) => match regL wa with
          | none => none
          | some a => match takeL (bitOf (useOf op) 4) ps j2 with
            | none => none
            | some (wb, j3) => match regL wb with
              | none => none
              | some b => match (if bitOf (useOf op) 8 then takeL true ps j3 else some ([], j3)) with
                | none => none
                | some (imm, j4) => if j4 = ps.length then some (⟨op, d, a, b, 0⟩, imm) else none
def parsedE (ps : List BL) : Ending := match parsedW ps with
  | some (x, imm) => .returned (.tuple #[insV x, .string (bsOf imm)])
  | none => wrongE
/-- what parsed keeps: its result's box, the words that are left -/
structure ParSt (w0 : World) (xb lb g : Nat) (x : GIns) (ps : List BL) (j : Nat) (w : World) : Prop where
  xx : w.heap[xb]? = some (.cells (insA x) 24 (0, 0))
  ls : LSt lb g ps j w
  bel : Below w0.heap.size w0 w
theorem ParSt.keep {w0 : World} {xb lb g : Nat} {x : GIns} {ps : List BL} {j : Nat} {w w' : World} (h : ParSt w0 xb lb g x ps j w) (hb : Below w.heap.size w w') : ParSt w0 xb lb g x ps j w' :=
  ⟨(hb.block xb (Array.getElem?_eq_some_iff.1 h.xx).1).trans h.xx, h.ls.keep hb, h.bel.trans (hb.mono h.bel.size)⟩
theorem ParSt.lib {w0 : World} {xb lb g : Nat} {x : GIns} {ps : List BL} {j : Nat} {w : World} (h : ParSt w0 xb lb g x ps j w) (hL : Lib33 w0) : Lib33 w := hL.keep h.bel
theorem ParSt.sizes {w0 : World} {xb lb g : Nat} {x : GIns} {ps : List BL} {j : Nat} {w : World} (h : ParSt w0 xb lb g x ps j w) : xb < w.heap.size ∧ lb < w.heap.size ∧ g < w.heap.size := by
  obtain ⟨p, h1, -⟩ := h.ls.box
  exact ⟨(Array.getElem?_eq_some_iff.1 h.xx).1, (Array.getElem?_eq_some_iff.1 h1).1, (Array.getElem?_eq_some_iff.1 h.ls.row).1⟩
theorem ParSt.other {w0 : World} {xb lb g : Nat} {x : GIns} {ps : List BL} {j : Nat} {w : World} (h : ParSt w0 xb lb g x ps j w) {b k : Nat} (hb : b ≠ xb ∧ b ≠ lb ∧ b ≠ g) (h0 : w0.heap.size ≤ b) (u : Value) : ParSt w0 xb lb g x ps j (w.setCell ⟨b, k, none⟩ u) := by
  obtain ⟨p, h1, h2⟩ := h.ls.box
  exact ⟨(Below.heap_setCell _ _ _ _ (fun e => hb.1 e.symm)).trans h.xx, ⟨⟨p, (Below.heap_setCell _ _ _ _ (fun e => hb.2.1 e.symm)).trans h1, h2⟩, (Below.heap_setCell _ _ _ _ (fun e => hb.2.2 e.symm)).trans h.ls.row, h.ls.ne⟩, h.bel.setCell h0 _⟩
structure ParU (w0 : World) (xb lb g ub : Nat) (op : Int) (x : GIns) (ps : List BL) (j : Nat) (w : World) : Prop where
  st : ParSt w0 xb lb g x ps j w
  uu : w.heap[ub]? = some (.cells (useA op) 70 (0, 0))
  ne : ub ≠ xb ∧ ub ≠ lb ∧ ub ≠ g
  xl : xb ≠ lb ∧ xb ≠ g
  le : w0.heap.size ≤ xb ∧ w0.heap.size ≤ lb
theorem ParU.keep {w0 : World} {xb lb g ub : Nat} {op : Int} {x : GIns} {ps : List BL} {j : Nat} {w w' : World} (h : ParU w0 xb lb g ub op x ps j w) (hb : Below w.heap.size w w') : ParU w0 xb lb g ub op x ps j w' :=
  ⟨h.st.keep hb, (hb.block ub (Array.getElem?_eq_some_iff.1 h.uu).1).trans h.uu, h.ne, h.xl, h.le⟩
theorem ParU.took {w0 : World} {xb lb g ub : Nat} {op : Int} {x : GIns} {ps : List BL} {j j' : Nat} {w : World} {v : Value} (h : ParU w0 xb lb g ub op x ps j w) (hl : LSt lb g ps j' (w.setCell ⟨lb, 0, none⟩ v)) : ParU w0 xb lb g ub op x ps j' (w.setCell ⟨lb, 0, none⟩ v) :=
  ⟨⟨(Below.heap_setCell _ _ _ _ (by simpa using h.xl.1)).trans h.st.xx, hl, h.st.bel.setCell h.le.2 _⟩, (Below.heap_setCell _ _ _ _ (by simpa using h.ne.2.1)).trans h.uu, h.ne, h.xl, h.le⟩
theorem ParU.laid {w0 : World} {xb lb g ub : Nat} {op : Int} {x : GIns} {ps : List BL} {j : Nat} {w : World} (h : ParU w0 xb lb g ub op x ps j w) (k : Nat) (u : Value) (y : GIns) (hy : (insA x).setIfInBounds k u = insA y) : ParU w0 xb lb g ub op y ps j (w.setCell ⟨xb, k, none⟩ u) := by
  obtain ⟨p, h1, h2⟩ := h.st.ls.box
  refine ⟨⟨by rw [← hy]; exact set33 h.st.xx k u, ⟨⟨p, (Below.heap_setCell _ _ _ _ (fun e => h.xl.1 e.symm)).trans h1, h2⟩, (Below.heap_setCell _ _ _ _ (fun e => h.xl.2 e.symm)).trans h.st.ls.row, h.st.ls.ne⟩, h.st.bel.setCell h.le.1 _⟩, (Below.heap_setCell _ _ _ _ (by simpa using h.ne.1)).trans h.uu, h.ne, h.xl, h.le⟩
def TakePost (w0 : World) (xb lb g ub : Nat) (op : Int) (x : GIns) (ps : List BL) (r : Option (BL × Nat)) (e : Ending) (w' : World) : Prop :=
  match r with
  | some (wd, j') => e = .returned (.string (bsOf wd)) ∧ ParU w0 xb lb g ub op x ps j' w'
  | none => e = wrongE ∧ Below w0.heap.size w0 w'
theorem take33 (is : Bool) {w0 : World} {xb lb g ub : Nat} {op : Int} {x : GIns} {ps : List BL} {j : Nat} {w : World} (h : ParU w0 xb lb g ub op x ps j w) (hm : ps.length ≤ 140737488355328) :
    Calls Tryz.prog 93 #[.bool is, .pointer (some ⟨lb, 0, none⟩)] w (TakePost w0 xb lb g ub op x ps (takeL is ps j)) := by
  cases is with
  | false =>
    refine (wtake_no lb w).mono fun e w' ⟨he, hw⟩ => ?_
    subst hw
    exact ⟨he, h⟩
  | true =>
    by_cases hj : j < ps.length
    · refine (wtake_yes lb g j ps w h.st.ls hj hm).mono fun e w' ⟨he, v, hw, hl⟩ => ?_
      subst hw
      have : takeL true ps j = some (ps.getD j [], j + 1) := by simp [takeL, hj]
      rw [this]
      exact ⟨he, h.took hl⟩
    · refine (wtake_end lb g j ps w h.st.ls hj).mono fun e w' ⟨he, hw⟩ => ?_
      subst hw
      have : takeL true ps j = none := by simp [takeL, hj]
      rw [this]
      exact ⟨he, h.st.bel⟩
theorem ParSt.took {w0 : World} {xb lb g : Nat} {x : GIns} {ps : List BL} {j j' : Nat} {w : World} {v : Value} (h : ParSt w0 xb lb g x ps j w) (hx : xb ≠ lb) (h0 : w0.heap.size ≤ lb) (hl : LSt lb g ps j' (w.setCell ⟨lb, 0, none⟩ v)) : ParSt w0 xb lb g x ps j' (w.setCell ⟨lb, 0, none⟩ v) :=
  ⟨(Below.heap_setCell _ _ _ _ (by simpa using hx)).trans h.xx, hl, h.bel.setCell h0 _⟩
theorem takeL_le {is : Bool} {ps : List BL} {j : Nat} {wd : BL} {j' : Nat} (h : takeL is ps j = some (wd, j')) (hj : j ≤ ps.length) : j' ≤ ps.length := by
  unfold takeL at h
  split at h
  · split at h
    · cases h; omega
    · cases h
  · cases h; exact hj
theorem takeL_len {is : Bool} {ps : List BL} {j : Nat} {wd : BL} {j' : Nat} {n : Nat} (h : takeL is ps j = some (wd, j')) (hp : ∀ p ∈ ps, p.length ≤ n) (hn : 2 ≤ n) : wd.length ≤ n := by
  unfold takeL at h
  split at h
  · split at h
    · rename_i hj
      cases h
      exact hp _ (by simp [List.getD, hj])
    · cases h
  · cases h; exact hn
set_option maxHeartbeats 8000000 in
set_option maxRecDepth 100000 in
theorem parsed33_of (s : BL) (ps : List BL) (hps : cutAt 32 s = ps) (w : World) (hL : Lib33 w) (hs : s.length ≤ 100000) :
    Calls Tryz.prog 40 #[.string (bsOf s)] w fun e w' => e = parsedE ps ∧ Below w.heap.size w w' := by
  have HL := Lib.hid hL
  clear hL
  have HB1 : Hid (Below w.heap.size w (w.alloc (.cells (insA ins0) 24))) := alloc_old w _
  have hX1 : (w.alloc (.cells (insA ins0) 24)).heap[w.heap.size]? = some (.cells (insA ins0) 24 (0, 0)) := new_block w _
  have hz1 : w.heap.size < (w.alloc (.cells (insA ins0) 24)).heap.size := by simp
  have hcl := cutAt_len 32 s
  have hcn := cutAt_ne 32 s
  have HS0 := Lib.hid (fun W h => split33 32 s W h (by omega))
  rw [hps] at hcl hcn HS0
  clear hps
  go_enter Tryz.func40, Tryz.ntmps40
  go_upto_region 1 with fail
  change Code.wp _ _ _ _ (w.alloc (.cells (insA ins0) 24))
  have HS := Lib.hid (HS0.out (w.alloc (.cells (insA ins0) 24)) (HL.out.keep HB1.out))
  clear HS0
  generalize (w.alloc (.cells (insA ins0) 24)) = w1 at *
  go_wp2_with fail
  refine HS.out.mono ?_
  rintro e w2 ⟨rfl, rfl⟩
  go_upto_region 2 with fail
  have hX3 := new_block (w1.alloc (.cells (ps.map fun t => Value.string (bsOf t)).toArray 9)) (.cells #[.slice (some ⟨w1.heap.size, 0, none⟩) ps.length ps.length] 93)
  have hR3 : ((w1.alloc (.cells (ps.map fun t => Value.string (bsOf t)).toArray 9)).alloc (.cells #[.slice (some ⟨w1.heap.size, 0, none⟩) ps.length ps.length] 93)).heap[w1.heap.size]? = some (.cells (ps.map fun t => Value.string (bsOf t)).toArray 9 (0, 0)) := (Below.heap_alloc _ _ _ (by simp)).trans (new_block w1 _)
  have HP3 : ParSt w w.heap.size (w1.heap.size + 1) w1.heap.size ins0 ps 0 ((w1.alloc (.cells (ps.map fun t => Value.string (bsOf t)).toArray 9)).alloc (.cells #[.slice (some ⟨w1.heap.size, 0, none⟩) ps.length ps.length] 93)) := by
    refine ⟨(Below.heap_alloc _ _ _ (by simp; omega)).trans ((Below.heap_alloc _ _ _ hz1).trans hX1), ⟨⟨_, ?_, fun _ => rfl⟩, hR3, by omega⟩, (HB1.out.alloc HB1.out.size _).alloc (by have := HB1.out.size; simp; omega) _⟩
    simpa using hX3
  have hxl : w.heap.size < w1.heap.size := hz1
  clear hX3 hR3 HS hX1 hz1
  generalize ((w1.alloc (.cells (ps.map fun t => Value.string (bsOf t)).toArray 9)).alloc (.cells #[.slice (some ⟨w1.heap.size, 0, none⟩) ps.length ps.length] 93)) = w3 at *
  obtain ⟨lb, hlb⟩ : ∃ lb, lb = w1.heap.size + 1 := ⟨_, rfl⟩
  rw [← hlb] at HP3 ⊢
  generalize w1.heap.size = g at *
  obtain ⟨xb, hxb⟩ : ∃ xb, xb = w.heap.size := ⟨_, rfl⟩
  rw [← hxb] at HP3 hxl
  rw [show (Value.pointer (some ⟨w.heap.size, 0, none⟩)) = .pointer (some ⟨xb, 0, none⟩) by rw [hxb]]
  obtain ⟨wd, hwd⟩ : ∃ wd, wd = ps.getD 0 [] := ⟨_, rfl⟩
  have HWD := Lib.hid hwd
  clear hwd
  have hp0 : 0 < ps.length := List.length_pos_iff.2 hcn
  have HWL : Hid (labE.ok wd) := Lib.hid (by
    unfold labE labOkK
    simp only []
    rw [HWD.out]
    have hm : ps.getD 0 [] ∈ ps := by simp [List.getD, hp0]
    have := hcl.2 _ hm; omega)
  obtain ⟨kk, hkk⟩ : ∃ kk : Int, kk = (opOf wd).getD 0 := ⟨_, rfl⟩
  obtain ⟨ii, hii⟩ : ∃ ii : Bool, ii = (opOf wd).isSome := ⟨_, rfl⟩
  have HKK := Lib.hid hkk
  have HII := Lib.hid hii
  have HLB := Lib.hid hlb
  have HXB := Lib.hid hxb
  clear hkk hii hlb hxb
  go_cut [5, 6] (fun v5 v6 wx => ∃ eb, v5 = .pointer (some ⟨eb, 0, none⟩) ∧ v6 = .bool ii ∧ ParSt w xb lb g ins0 ps 0 wx ∧ wx.cell? ⟨eb, 0, none⟩ = some (.int .u8 kk) ∧ eb ≠ xb ∧ eb ≠ lb ∧ eb ≠ g)
  case first =>
    obtain ⟨S, HSD⟩ : ∃ S : World → Prop, ∀ w', S w' ↔ ParSt w xb lb g ins0 ps 0 w' := ⟨_, fun _ => Iff.rfl⟩
    have c0 : ∀ u : HW S, u.u.cell? ⟨lb, 0, none⟩ = some (.slice (some ⟨g, 0, none⟩) ps.length ps.length) := fun u => by
      obtain ⟨p, h1, h2⟩ := ((HSD _).1 u.h).ls.box
      rw [h2 hp0] at h1
      exact Lib.cell_of_heap h1 0
    have c1 : ∀ u : HW S, u.u.cell? ⟨g, 0, none⟩ = some (.string (bsOf wd)) := fun u => by
      rw [HWD.out]; exact ((HSD _).1 u.h).ls.cell hp0
    haveI : Nonempty (HW S) := ⟨⟨_, (HSD _).2 HP3⟩⟩
    refine wp_region_turn S rfl (n := 13) rfl rfl ?_
    have HP4 := HP3.keep (below_drewN (Below.refl _ _) 1)
    change ParSt w xb lb g ins0 ps 0 w3.drew at HP4
    generalize w3.drew = w4 at *
    refine wpAnyS_take [2, 3, 4, 5] (by kernel_rfl) (by kernel_rfl) (n := 9) rfl rfl rfl ((HSD _).2 HP4) ?_
    (refine wpReads_step (fun K hK => ?_); go_simp; refine hK _ ?_; clear hK K)
    (refine wpReads_step (fun K hK => ?_); go_simp; refine hK _ ?_; clear hK K)
    (refine wpReads_step (fun K hK => ?_); go_simp; refine hK _ ?_; clear hK K)
    (refine wpReads_step (fun K hK => ?_); go_simp; refine hK _ ?_; clear hK K)
    refine wpReads_nil ?_
    refine wpAnyS_two (i := 0) (k := 10) (by kernel_rfl) rfl rfl (fun K hK => ?_) (fun K hK => ?_)
    · skip
      refine step_callW rfl 83 #[] #[] rfl Tryz.func83 (by kernel_rfl) (by kernel_rfl) #[] (by simp) (names33 _ (HP4.lib HL.out)) ?_
      rintro e w5 ⟨mb, rfl, hmb, hm, hB⟩
      have HP5 := HP4.keep hB
      have HM5 : MapKFn u8E w5 mb 36 (namesF opL) := hm
      clear hB hm hmb
      refine ⟨_, rfl, hK _ _ ((HSD _).2 HP5) ?_⟩
      clear hK K
      simp only [Act.put, List.setIfInBounds_toArray, List.set_cons_zero, List.set_cons_succ]
      refine wpAnyS_two (i := 1) (k := 10) (by kernel_rfl) rfl rfl (fun K hK => ?_) (fun K hK => ?_)
      · skip
        refine step_callW rfl 92 #[.tmp 12] #[129] rfl Tryz.func92 (by kernel_rfl) (by kernel_rfl) #[.map (some mb)] (by simp [Act.eval]) (turned33 mb 36 w5 HM5 (by omega)) ?_
        rintro e w6 ⟨mo, rfl, hmo, hm, hB⟩
        have HP6 := HP5.keep hB
        have HO6 : MapKFn labE w6 mo 1000 (turnG opL) := hm
        clear hm
        refine ⟨_, rfl, hK _ _ ((HSD _).2 HP6) ?_⟩
        clear hK K
        simp only [Act.put, List.setIfInBounds_toArray, List.set_cons_zero, List.set_cons_succ]
        obtain ⟨S2, HS2⟩ : ∃ S2 : World → Prop, ∀ w', S2 w' ↔ (ParSt w xb lb g ins0 ps 0 w' ∧ MapKFn labE w' mo 1000 (turnG opL)) := ⟨_, fun _ => Iff.rfl⟩
        refine wpAnyS_mono (S2 := S2) (fun w' h => (HSD _).2 ((HS2 _).1 h).1) _ _ _ _ ?_
        have hlk : ∀ u : HW S2, (Instr.lookup 146 (.map (some mo)) (.agg #[.string (bsOf wd)]) true).run Tryz.prog u.u = .ok (.tuple #[.agg #[.int .u8 kk], .bool ii]) u.u := fun u => by
          have h := ((HS2 _).1 u.h).2.look_ok labKeyed Tryz.underlying146 (zeroEnt u.u) (a := wd) HWL.out
          rw [turnG_op, show ((opL.find? fun p => decide (wd = p.2)).map (·.1)) = opOf wd from rfl] at h
          rw [HKK.out, HII.out]
          cases ho : opOf wd <;> (rw [ho] at h; exact h)
        haveI : Nonempty (HW S2) := ⟨⟨_, (HS2 _).2 ⟨HP6, HO6⟩⟩⟩
        refine wpAnyS_take [6, 7, 8, 9] (by kernel_rfl) (by kernel_rfl) (n := 3) rfl rfl rfl ((HS2 _).2 ⟨HP6, HO6⟩) ?_
        (refine wpReads_step (fun K hK => ?_); go_simp; refine hK _ ?_; clear hK K)
        (refine wpReads_step (fun K hK => ?_); go_simp; refine hK _ ?_; clear hK K)
        (refine wpReads_step (fun K hK => ?_); go_simp; refine hK _ ?_; clear hK K)
        (refine wpReads_step (fun K hK => ?_); go_simp; refine hK _ ?_; clear hK K)
        refine wpReads_nil ?_
        refine wpAnyS_one (i := 10) (by kernel_rfl) rfl (fun K hK => ?_)
        obtain ⟨z1, z2, z3⟩ := HP6.sizes
        obtain ⟨eb, heb⟩ : ∃ eb, eb = w6.heap.size := ⟨_, rfl⟩
        have hb0 : w.heap.size ≤ eb := by rw [heb]; exact HP6.bel.size
        have hb1 : eb ≠ xb := by omega
        have hb2 : eb ≠ lb := by omega
        have hb3 : eb ≠ g := by omega
        go_simp
        have HP7 := HP6.keep (alloc_old w6 (.cells #[.int .u8 0] 144))
        have HX7 : (w6.alloc (.cells #[.int .u8 0] 144)).heap[eb]? = some (.cells #[.int .u8 0] 144 (0, 0)) := by rw [heb]; exact new_block w6 _
        have HO7 := HO6.alloc (.cells #[.int .u8 0] 144)
        have hmb : mo ≠ eb := by have := HO6.lt; omega
        refine hK _ _ ((HS2 _).2 ⟨HP7, HO7⟩) ?_; clear hK K
        rw [← heb]
        clear heb z1 z2 z3
        generalize (w6.alloc (.cells #[.int .u8 0] 144)) = w7 at *
        refine wpAnyS_one (i := 11) (by kernel_rfl) rfl (fun K hK => ?_)
        have q0 : w7.cell? ⟨eb, 0, none⟩ = some (.int .u8 0) := Lib.cell_of_heap HX7 0
        have f0 := Lib.frozen_of_heap HX7 0
        go_simp
        have HP8 : ParSt w xb lb g ins0 ps 0 (w7.setCell ⟨eb, 0, none⟩ (.int .u8 kk)) := HP7.other ⟨hb1, hb2, hb3⟩ hb0 _
        have HO8 : MapKFn labE (w7.setCell ⟨eb, 0, none⟩ (.int .u8 kk)) mo 1000 (turnG opL) := HO7.setCell hmb _
        have HX8 := set33 HX7 0 (.int .u8 kk)
        refine hK _ _ ((HS2 _).2 ⟨HP8, HO8⟩) ?_; clear hK K
        generalize (w7.setCell ⟨eb, 0, none⟩ (.int .u8 kk)) = w8 at *
        refine wpAnyS_one (i := 12) (by kernel_rfl) rfl (fun K hK => ?_)
        go_simp; refine hK _ _ ((HS2 _).2 ⟨HP8, HO8⟩) ?_; clear hK K
        refine wpAnyS_done (by kernel_rfl) (NoPanic.normal ?_)
        go_wp2
        go_meet
        exact ⟨eb, rfl, rfl, HP8, Lib.cell_of_heap HX8 0, hb1, hb2, hb3⟩
      · skip
        obtain ⟨z1, z2, z3⟩ := HP5.sizes
        obtain ⟨eb, heb⟩ : ∃ eb, eb = w5.heap.size := ⟨_, rfl⟩
        have hb0 : w.heap.size ≤ eb := by rw [heb]; exact HP5.bel.size
        have hb1 : eb ≠ xb := by omega
        have hb2 : eb ≠ lb := by omega
        have hb3 : eb ≠ g := by omega
        go_simp
        have HP6 := HP5.keep (alloc_old w5 (.cells #[.int .u8 0] 144))
        have HM6 := HM5.alloc (.cells #[.int .u8 0] 144)
        have HX6 : (w5.alloc (.cells #[.int .u8 0] 144)).heap[eb]? = some (.cells #[.int .u8 0] 144 (0, 0)) := by rw [heb]; exact new_block w5 _
        refine hK _ _ ((HSD _).2 HP6) ?_; clear hK K
        rw [← heb]
        clear heb z1 z2 z3
        generalize (w5.alloc (.cells #[.int .u8 0] 144)) = w6 at *
        refine wpAnyS_one (i := 1) (by kernel_rfl) rfl (fun K hK => ?_)
        refine step_callW rfl 92 #[.tmp 12] #[129] rfl Tryz.func92 (by kernel_rfl) (by kernel_rfl) #[.map (some mb)] (by simp [Act.eval]) (turned33 mb 36 w6 HM6 (by omega)) ?_
        rintro e w7 ⟨mo, rfl, hmo, hm, hB⟩
        have HP7 := HP6.keep hB
        have HO7 : MapKFn labE w7 mo 1000 (turnG opL) := hm
        have HX7 := (hB.block eb (Array.getElem?_eq_some_iff.1 HX6).1).trans HX6
        have hmb : mo ≠ eb := by have := (Array.getElem?_eq_some_iff.1 HX6).1; omega
        refine ⟨_, rfl, hK _ _ ((HSD _).2 HP7) ?_⟩
        clear hK K
        simp only [Act.put, List.setIfInBounds_toArray, List.set_cons_zero, List.set_cons_succ]
        obtain ⟨S2, HS2⟩ : ∃ S2 : World → Prop, ∀ w', S2 w' ↔ (ParSt w xb lb g ins0 ps 0 w' ∧ MapKFn labE w' mo 1000 (turnG opL)) := ⟨_, fun _ => Iff.rfl⟩
        refine wpAnyS_mono (S2 := S2) (fun w' h => (HSD _).2 ((HS2 _).1 h).1) _ _ _ _ ?_
        have hlk : ∀ u : HW S2, (Instr.lookup 146 (.map (some mo)) (.agg #[.string (bsOf wd)]) true).run Tryz.prog u.u = .ok (.tuple #[.agg #[.int .u8 kk], .bool ii]) u.u := fun u => by
          have h := ((HS2 _).1 u.h).2.look_ok labKeyed Tryz.underlying146 (zeroEnt u.u) (a := wd) HWL.out
          rw [turnG_op, show ((opL.find? fun p => decide (wd = p.2)).map (·.1)) = opOf wd from rfl] at h
          rw [HKK.out, HII.out]
          cases ho : opOf wd <;> (rw [ho] at h; exact h)
        haveI : Nonempty (HW S2) := ⟨⟨_, (HS2 _).2 ⟨HP7, HO7⟩⟩⟩
        refine wpAnyS_take [6, 7, 8, 9] (by kernel_rfl) (by kernel_rfl) (n := 2) rfl rfl rfl ((HS2 _).2 ⟨HP7, HO7⟩) ?_
        (refine wpReads_step (fun K hK => ?_); go_simp; refine hK _ ?_; clear hK K)
        (refine wpReads_step (fun K hK => ?_); go_simp; refine hK _ ?_; clear hK K)
        (refine wpReads_step (fun K hK => ?_); go_simp; refine hK _ ?_; clear hK K)
        (refine wpReads_step (fun K hK => ?_); go_simp; refine hK _ ?_; clear hK K)
        refine wpReads_nil ?_
        refine wpAnyS_one (i := 11) (by kernel_rfl) rfl (fun K hK => ?_)
        have q0 : w7.cell? ⟨eb, 0, none⟩ = some (.int .u8 0) := Lib.cell_of_heap HX7 0
        have f0 := Lib.frozen_of_heap HX7 0
        go_simp
        have HP8 : ParSt w xb lb g ins0 ps 0 (w7.setCell ⟨eb, 0, none⟩ (.int .u8 kk)) := HP7.other ⟨hb1, hb2, hb3⟩ hb0 _
        have HO8 : MapKFn labE (w7.setCell ⟨eb, 0, none⟩ (.int .u8 kk)) mo 1000 (turnG opL) := HO7.setCell hmb _
        have HX8 := set33 HX7 0 (.int .u8 kk)
        refine hK _ _ ((HS2 _).2 ⟨HP8, HO8⟩) ?_; clear hK K
        generalize (w7.setCell ⟨eb, 0, none⟩ (.int .u8 kk)) = w8 at *
        refine wpAnyS_one (i := 12) (by kernel_rfl) rfl (fun K hK => ?_)
        go_simp; refine hK _ _ ((HS2 _).2 ⟨HP8, HO8⟩) ?_; clear hK K
        refine wpAnyS_done (by kernel_rfl) (NoPanic.normal ?_)
        go_wp2
        go_meet
        exact ⟨eb, rfl, rfl, HP8, Lib.cell_of_heap HX8 0, hb1, hb2, hb3⟩
    · skip
      obtain ⟨z1, z2, z3⟩ := HP4.sizes
      obtain ⟨eb, heb⟩ : ∃ eb, eb = w4.heap.size := ⟨_, rfl⟩
      have hb0 : w.heap.size ≤ eb := by rw [heb]; exact HP4.bel.size
      have hb1 : eb ≠ xb := by omega
      have hb2 : eb ≠ lb := by omega
      have hb3 : eb ≠ g := by omega
      go_simp
      have HP5 := HP4.keep (alloc_old w4 (.cells #[.int .u8 0] 144))
      have HX5 : (w4.alloc (.cells #[.int .u8 0] 144)).heap[eb]? = some (.cells #[.int .u8 0] 144 (0, 0)) := by rw [heb]; exact new_block w4 _
      refine hK _ _ ((HSD _).2 HP5) ?_; clear hK K
      rw [← heb]
      clear heb z1 z2 z3
      generalize (w4.alloc (.cells #[.int .u8 0] 144)) = w5 at *
      refine wpAnyS_one (i := 0) (by kernel_rfl) rfl (fun K hK => ?_)
      refine step_callW rfl 83 #[] #[] rfl Tryz.func83 (by kernel_rfl) (by kernel_rfl) #[] (by simp) (names33 _ (HP5.lib HL.out)) ?_
      rintro e w6 ⟨mb, rfl, hmb0, hm, hB⟩
      have HP6 := HP5.keep hB
      have HM6 : MapKFn u8E w6 mb 36 (namesF opL) := hm
      have HX6 := (hB.block eb (Array.getElem?_eq_some_iff.1 HX5).1).trans HX5
      refine ⟨_, rfl, hK _ _ ((HSD _).2 HP6) ?_⟩
      clear hK K
      simp only [Act.put, List.setIfInBounds_toArray, List.set_cons_zero, List.set_cons_succ]
      clear hB hm hmb0
      refine wpAnyS_one (i := 1) (by kernel_rfl) rfl (fun K hK => ?_)
      refine step_callW rfl 92 #[.tmp 12] #[129] rfl Tryz.func92 (by kernel_rfl) (by kernel_rfl) #[.map (some mb)] (by simp [Act.eval]) (turned33 mb 36 w6 HM6 (by omega)) ?_
      rintro e w7 ⟨mo, rfl, hmo, hm, hB⟩
      have HP7 := HP6.keep hB
      have HO7 : MapKFn labE w7 mo 1000 (turnG opL) := hm
      have HX7 := (hB.block eb (Array.getElem?_eq_some_iff.1 HX6).1).trans HX6
      have hmb : mo ≠ eb := by have := (Array.getElem?_eq_some_iff.1 HX6).1; omega
      refine ⟨_, rfl, hK _ _ ((HSD _).2 HP7) ?_⟩
      clear hK K
      simp only [Act.put, List.setIfInBounds_toArray, List.set_cons_zero, List.set_cons_succ]
      obtain ⟨S2, HS2⟩ : ∃ S2 : World → Prop, ∀ w', S2 w' ↔ (ParSt w xb lb g ins0 ps 0 w' ∧ MapKFn labE w' mo 1000 (turnG opL)) := ⟨_, fun _ => Iff.rfl⟩
      refine wpAnyS_mono (S2 := S2) (fun w' h => (HSD _).2 ((HS2 _).1 h).1) _ _ _ _ ?_
      have hlk : ∀ u : HW S2, (Instr.lookup 146 (.map (some mo)) (.agg #[.string (bsOf wd)]) true).run Tryz.prog u.u = .ok (.tuple #[.agg #[.int .u8 kk], .bool ii]) u.u := fun u => by
        have h := ((HS2 _).1 u.h).2.look_ok labKeyed Tryz.underlying146 (zeroEnt u.u) (a := wd) HWL.out
        rw [turnG_op, show ((opL.find? fun p => decide (wd = p.2)).map (·.1)) = opOf wd from rfl] at h
        rw [HKK.out, HII.out]
        cases ho : opOf wd <;> (rw [ho] at h; exact h)
      haveI : Nonempty (HW S2) := ⟨⟨_, (HS2 _).2 ⟨HP7, HO7⟩⟩⟩
      refine wpAnyS_take [6, 7, 8, 9] (by kernel_rfl) (by kernel_rfl) (n := 2) rfl rfl rfl ((HS2 _).2 ⟨HP7, HO7⟩) ?_
      (refine wpReads_step (fun K hK => ?_); go_simp; refine hK _ ?_; clear hK K)
      (refine wpReads_step (fun K hK => ?_); go_simp; refine hK _ ?_; clear hK K)
      (refine wpReads_step (fun K hK => ?_); go_simp; refine hK _ ?_; clear hK K)
      (refine wpReads_step (fun K hK => ?_); go_simp; refine hK _ ?_; clear hK K)
      refine wpReads_nil ?_
      refine wpAnyS_one (i := 11) (by kernel_rfl) rfl (fun K hK => ?_)
      have q0 : w7.cell? ⟨eb, 0, none⟩ = some (.int .u8 0) := Lib.cell_of_heap HX7 0
      have f0 := Lib.frozen_of_heap HX7 0
      go_simp
      have HP8 : ParSt w xb lb g ins0 ps 0 (w7.setCell ⟨eb, 0, none⟩ (.int .u8 kk)) := HP7.other ⟨hb1, hb2, hb3⟩ hb0 _
      have HO8 : MapKFn labE (w7.setCell ⟨eb, 0, none⟩ (.int .u8 kk)) mo 1000 (turnG opL) := HO7.setCell hmb _
      have HX8 := set33 HX7 0 (.int .u8 kk)
      refine hK _ _ ((HS2 _).2 ⟨HP8, HO8⟩) ?_; clear hK K
      generalize (w7.setCell ⟨eb, 0, none⟩ (.int .u8 kk)) = w8 at *
      refine wpAnyS_one (i := 12) (by kernel_rfl) rfl (fun K hK => ?_)
      go_simp; refine hK _ _ ((HS2 _).2 ⟨HP8, HO8⟩) ?_; clear hK K
      refine wpAnyS_done (by kernel_rfl) (NoPanic.normal ?_)
      go_wp2
      go_meet
      exact ⟨eb, rfl, rfl, HP8, Lib.cell_of_heap HX8 0, hb1, hb2, hb3⟩
  case rest =>
    obtain ⟨eb, rfl, rfl, HPc, hec, hb1, hb2, hb3⟩ := hcut
    have hps : ps.length ≤ 140737488355328 := by have := hcl.1; omega
    have HPL := Lib.hid hcl.2
    clear hcl hcn HWL
    cases ho : opOf wd with
    | none =>
      have hif : ii = false := by rw [HII.out, ho]; rfl
      subst hif
      have HPE : Hid (parsedE ps = wrongE) := Lib.hid (by unfold parsedE parsedW; rw [← HWD.out, ho])
      have HBL := Lib.hid HPc.bel
      clear ho HPc hec
      go_wp2_with fail
      refine (need_no _).mono ?_
      rintro e w5 ⟨rfl, rfl⟩
      go_wp2
      exact ⟨rfl, by rw [HPE.out]; rfl, HBL.out⟩
    | some op =>
      have hif : ii = true := by rw [HII.out, ho]; rfl
      have hkf : kk = op := by rw [HKK.out, ho]; rfl
      subst hif hkf
      have E0 : Hid (opOf (ps.getD 0 []) = some kk) := Lib.hid (by rw [← HWD.out]; exact ho)
      have hop : 0 ≤ kk ∧ kk ≤ 255 := by
        unfold opOf at ho
        cases hf : opL.find? fun p => decide (wd = p.2) with
        | none => rw [hf] at ho; cases ho
        | some p => rw [hf] at ho; cases ho; exact (op_look p (List.mem_of_find?_eq_some hf)).1
      clear ho
      go_wp2_with fail
      refine (need_yes _).mono ?_
      rintro e w5 ⟨rfl, rfl⟩
      go_upto_region 4 with fail
      have HW0 : Hid (w.heap.size ≤ lb ∧ xb ≠ lb ∧ xb ≠ g ∧ w.heap.size ≤ xb) := Lib.hid (by have h1 := HLB.out; have h2 := HXB.out; omega)
      go_cut [24] (fun v24 wx => ParSt w xb lb g ins0 ps 1 wx ∧ wx.cell? ⟨eb, 0, none⟩ = some (.int .u8 kk))
      case first =>
        have HN := Lib.hid (fun p n => HPc.ls.next p n)
        have HT := Lib.hid HPc
        obtain ⟨p, h1, h2⟩ := HPc.ls.box
        obtain rfl := h2 hp0
        obtain ⟨n, hn⟩ : ∃ n, n = ps.length := ⟨_, rfl⟩
        rw [Nat.sub_zero, ← hn] at h1
        have c0 : w5.cell? ⟨lb, 0, none⟩ = some (.slice (some ⟨g, 0, none⟩) n n) := Lib.cell_of_heap h1 0
        have f0 := Lib.frozen_of_heap h1 0
        have hn1 : 1 ≤ n := by omega
        have hn2 : n ≤ 140737488355328 := by omega
        have HNN := Lib.hid hn
        clear h1 h2 hn hp0 hps HPc
        go_wp2
        · go_meet
          exact ⟨HT.out.took HW0.out.2.1 HW0.out.1 (HN.out _ _ (by have := HNN.out; omega) (fun h => absurd h (by have := HNN.out; omega))), (World.cell?_setCell_other _ _ _ _ (by simp)).trans hec⟩
        · go_meet
          exact ⟨HT.out.took HW0.out.2.1 HW0.out.1 (HN.out _ _ (by have := HNN.out; omega) (fun _ => rfl)), (World.cell?_setCell_other _ _ _ _ (by simp)).trans hec⟩
      case rest =>
        obtain ⟨HPd, hed⟩ := hcut
        clear hec
        have hmf : ∀ (fn : Fn) (first cap : Array Value) (w : World), (Instr.makeFunc fn first cap).run Tryz.prog w = .ok (.func fn first cap) w := fun _ _ _ _ => rfl
        have hbd : ∀ W, (Instr.build 24 #[(0, .int .u8 kk)]).run Tryz.prog W = .ok (.agg #[.int .u8 kk, .int .u8 0, .int .u8 0, .int .u8 0, .int .u32 0]) W := fun W => run_build W 24 #[(0, .int .u8 kk)] #[.int .u8 kk, .int .u8 0, .int .u8 0, .int .u8 0, .int .u32 0] (by kernel_rfl)
        have HU := Lib.hid (uses33 kk wc hop.1 hop.2)
        unfold usesV at HU
        go_upto_region 6 with fail
        go_wp2_with fail
        refine HU.out.mono ?_
        rintro e w6 ⟨rfl, hB6⟩
        have HPe := HPd.keep hB6
        replace hed := cell_keep hB6 (World.block_lt_of_cell? _ _ hed) hed
        have hez := World.block_lt_of_cell? _ _ hed
        clear HU hB6 HPd
        go_upto_region 7 with fail
        change Code.wp _ _ _ _ (w6.alloc (.cells (useA kk) 70))
        have PU7 : ParU w xb lb g w6.heap.size kk ins0 ps 1 (w6.alloc (.cells (useA kk) 70)) := ⟨HPe.keep (alloc_old w6 _), new_block w6 _, by obtain ⟨z1, z2, z3⟩ := HPe.sizes; omega, HW0.out.2.1 |> fun h => ⟨h, HW0.out.2.2.1⟩, HW0.out.2.2.2, HW0.out.1⟩
        replace hed : (w6.alloc (.cells (useA kk) 70)).cell? ⟨eb, 0, none⟩ = some (.int .u8 kk) := cell_keep (alloc_old w6 _) hez hed
        clear hez HPe
        generalize (w6.alloc (.cells (useA kk) 70)) = w7 at *
        generalize w6.heap.size = ub at *
        have z0 : w7.cell? ⟨xb, 0, none⟩ = some (.int .u8 0) := Lib.cell_of_heap PU7.st.xx 0
        have f0 := Lib.frozen_of_heap PU7.st.xx 0
        have z1 : w7.cell? ⟨xb, 1, none⟩ = some (.int .u8 0) := Lib.cell_of_heap PU7.st.xx 1
        have f1 := Lib.frozen_of_heap PU7.st.xx 1
        have z2 : w7.cell? ⟨xb, 2, none⟩ = some (.int .u8 0) := Lib.cell_of_heap PU7.st.xx 2
        have f2 := Lib.frozen_of_heap PU7.st.xx 2
        have z3 : w7.cell? ⟨xb, 3, none⟩ = some (.int .u8 0) := Lib.cell_of_heap PU7.st.xx 3
        have f3 := Lib.frozen_of_heap PU7.st.xx 3
        have z4 : w7.cell? ⟨xb, 4, none⟩ = some (.int .u32 0) := Lib.cell_of_heap PU7.st.xx 4
        have f4 := Lib.frozen_of_heap PU7.st.xx 4
        go_upto_region 8 with fail
        have PU8 : ParU w xb lb g ub kk ⟨kk, 0, 0, 0, 0⟩ ps 1 (((((w7.setCell ⟨xb, 0, none⟩ (.int .u8 kk)).setCell ⟨xb, 1, none⟩ (.int .u8 0)).setCell ⟨xb, 2, none⟩ (.int .u8 0)).setCell ⟨xb, 3, none⟩ (.int .u8 0)).setCell ⟨xb, 4, none⟩ (.int .u32 0)) := ((((PU7.laid 0 (.int .u8 kk) ⟨kk, 0, 0, 0, 0⟩ rfl).laid 1 (.int .u8 0) ⟨kk, 0, 0, 0, 0⟩ rfl).laid 2 (.int .u8 0) ⟨kk, 0, 0, 0, 0⟩ rfl).laid 3 (.int .u8 0) ⟨kk, 0, 0, 0, 0⟩ rfl).laid 4 (.int .u32 0) ⟨kk, 0, 0, 0, 0⟩ rfl
        clear z0 z1 z2 z3 z4 f0 f1 f2 f3 f4 hed PU7 hbd
        generalize (((((w7.setCell ⟨xb, 0, none⟩ (.int .u8 kk)).setCell ⟨xb, 1, none⟩ (.int .u8 0)).setCell ⟨xb, 2, none⟩ (.int .u8 0)).setCell ⟨xb, 3, none⟩ (.int .u8 0)).setCell ⟨xb, 4, none⟩ (.int .u32 0)) = w8 at *
        have hj0 : 1 ≤ ps.length := hp0
        have y1 : w8.cell? ⟨ub, 0, none⟩ = some (.bool (bitOf (useOf kk) 1)) := Lib.cell_of_heap PU8.uu 0
        have HT := Lib.hid (take33 (bitOf (useOf kk) 1) PU8 hps)
        cases ht : takeL (bitOf (useOf kk) 1) ps 1 with
        | none =>
          rw [ht] at HT
          unfold TakePost wrongE wrongV at HT
          simp only [] at HT
          have HPE : Hid (parsedE ps = wrongE) := Lib.hid (by unfold parsedE parsedW; rw [E0.out]; simp only []; rw [ht])
          clear ht
          go_wp2_with fail
          refine HT.out.mono ?_
          rintro e w9 ⟨rfl, hB⟩
          go_wp2
          exact ⟨rfl, by rw [HPE.out]; rfl, hB⟩
        | some q =>
          obtain ⟨wd1, j1⟩ := q
          rw [ht] at HT
          unfold TakePost at HT
          simp only [] at HT
          have T1 := Lib.hid ht
          have hl1 : wd1.length ≤ s.length + 2 := takeL_len ht (fun p hp => by have := HPL.out p hp; omega) (by omega)
          have hj1 : j1 ≤ ps.length := takeL_le ht hj0
          clear ht
          go_wp2_with fail
          refine HT.out.mono ?_
          rintro e w9 ⟨rfl, PU9⟩
          have HR := Lib.hid (register33 wd1 w9 (PU9.st.lib HL.out) (by omega))
          unfold regE at HR
          clear HT PU8 y1
          cases hr : regL wd1 with
          | none =>
            rw [hr] at HR
            unfold wrongE wrongV at HR
            simp only [] at HR
            have HPE : Hid (parsedE ps = wrongE) := Lib.hid (by unfold parsedE parsedW; rw [E0.out]; simp only []; rw [T1.out]; simp only []; rw [hr])
            clear hr
            go_wp2_with fail
            refine HR.out.mono ?_
            rintro e w10 ⟨rfl, hB⟩
            go_wp2
            exact ⟨rfl, by rw [HPE.out]; rfl, PU9.st.bel.trans (hB.mono PU9.st.bel.size)⟩
          | some d1 =>
            rw [hr] at HR
            simp only [] at HR
            have R1 := Lib.hid hr
            clear hr
            go_wp2_with fail
            refine HR.out.mono ?_
            rintro e w10 ⟨rfl, hB⟩
            have PU10 := PU9.keep hB
            have z0 : w10.cell? ⟨xb, 1, none⟩ = some (.int .u8 0) := Lib.cell_of_heap PU10.st.xx 1
            have f0 := Lib.frozen_of_heap PU10.st.xx 1
            clear HR hB PU9
            go_upto_region 9 with fail
            have PU11 := PU10.laid 1 (.int .u8 (d1 : Int)) ⟨kk, (d1 : Int), 0, 0, 0⟩ rfl
            generalize (w10.setCell ⟨xb, 1, none⟩ (.int .u8 (d1 : Int))) = w11 at *
            clear z0 f0 PU10
            have y2 : w11.cell? ⟨ub, 1, none⟩ = some (.bool (bitOf (useOf kk) 2)) := Lib.cell_of_heap PU11.uu 1
            have HT := Lib.hid (take33 (bitOf (useOf kk) 2) PU11 hps)
            cases ht : takeL (bitOf (useOf kk) 2) ps j1 with
            | none =>
              rw [ht] at HT
              unfold TakePost wrongE wrongV at HT
              simp only [] at HT
              have HPE : Hid (parsedE ps = wrongE) := Lib.hid (by unfold parsedE parsedW; rw [E0.out]; simp only []; rw [T1.out]; simp only []; rw [R1.out]; simp only []; rw [ht])
              clear ht
              go_wp2_with fail
              refine HT.out.mono ?_
              rintro e w12 ⟨rfl, hB⟩
              go_wp2
              exact ⟨rfl, by rw [HPE.out]; rfl, hB⟩
            | some q =>
              obtain ⟨wd2, j2⟩ := q
              rw [ht] at HT
              unfold TakePost at HT
              simp only [] at HT
              have T2 := Lib.hid ht
              have hl2 : wd2.length ≤ s.length + 2 := takeL_len ht (fun p hp => by have := HPL.out p hp; omega) (by omega)
              have hj2 : j2 ≤ ps.length := takeL_le ht hj1
              clear ht
              go_wp2_with fail
              refine HT.out.mono ?_
              rintro e w12 ⟨rfl, PU12⟩
              have HR := Lib.hid (register33 wd2 w12 (PU12.st.lib HL.out) (by omega))
              unfold regE at HR
              clear HT PU11 y2
              cases hr : regL wd2 with
              | none =>
                rw [hr] at HR
                unfold wrongE wrongV at HR
                simp only [] at HR
                have HPE : Hid (parsedE ps = wrongE) := Lib.hid (by unfold parsedE parsedW; rw [E0.out]; simp only []; rw [T1.out]; simp only []; rw [R1.out]; simp only []; rw [T2.out]; simp only []; rw [hr])
                clear hr
                go_wp2_with fail
                refine HR.out.mono ?_
                rintro e w13 ⟨rfl, hB⟩
                go_wp2
                exact ⟨rfl, by rw [HPE.out]; rfl, PU12.st.bel.trans (hB.mono PU12.st.bel.size)⟩
              | some d2 =>
                rw [hr] at HR
                simp only [] at HR
                have R2 := Lib.hid hr
                clear hr
                go_wp2_with fail
                refine HR.out.mono ?_
                rintro e w13 ⟨rfl, hB⟩
                have PU13 := PU12.keep hB
                have z0 : w13.cell? ⟨xb, 2, none⟩ = some (.int .u8 0) := Lib.cell_of_heap PU13.st.xx 2
                have f0 := Lib.frozen_of_heap PU13.st.xx 2
                clear HR hB PU12
                go_upto_region 10 with fail
                have PU14 := PU13.laid 2 (.int .u8 (d2 : Int)) ⟨kk, (d1 : Int), (d2 : Int), 0, 0⟩ rfl
                generalize (w13.setCell ⟨xb, 2, none⟩ (.int .u8 (d2 : Int))) = w14 at *
                clear z0 f0 PU13
                have y3 : w14.cell? ⟨ub, 2, none⟩ = some (.bool (bitOf (useOf kk) 4)) := Lib.cell_of_heap PU14.uu 2
                have HT := Lib.hid (take33 (bitOf (useOf kk) 4) PU14 hps)
                cases ht : takeL (bitOf (useOf kk) 4) ps j2 with
                | none =>
                  rw [ht] at HT
                  unfold TakePost wrongE wrongV at HT
                  simp only [] at HT
                  have HPE : Hid (parsedE ps = wrongE) := Lib.hid (by unfold parsedE parsedW; rw [E0.out]; simp only []; rw [T1.out]; simp only []; rw [R1.out]; simp only []; rw [T2.out]; simp only []; rw [R2.out]; simp only []; rw [ht])
                  clear ht
                  go_wp2_with fail
                  refine HT.out.mono ?_
                  rintro e w15 ⟨rfl, hB⟩
                  go_wp2
                  exact ⟨rfl, by rw [HPE.out]; rfl, hB⟩
                | some q =>
                  obtain ⟨wd3, j3⟩ := q
                  rw [ht] at HT
                  unfold TakePost at HT
                  simp only [] at HT
                  have T3 := Lib.hid ht
                  have hl3 : wd3.length ≤ s.length + 2 := takeL_len ht (fun p hp => by have := HPL.out p hp; omega) (by omega)
                  have hj3 : j3 ≤ ps.length := takeL_le ht hj2
                  clear ht
                  go_wp2_with fail
                  refine HT.out.mono ?_
                  rintro e w15 ⟨rfl, PU15⟩
                  have HR := Lib.hid (register33 wd3 w15 (PU15.st.lib HL.out) (by omega))
                  unfold regE at HR
                  clear HT PU14 y3
                  cases hr : regL wd3 with
                  | none =>
                    rw [hr] at HR
                    unfold wrongE wrongV at HR
                    simp only [] at HR
                    have HPE : Hid (parsedE ps = wrongE) := Lib.hid (by unfold parsedE parsedW; rw [E0.out]; simp only []; rw [T1.out]; simp only []; rw [R1.out]; simp only []; rw [T2.out]; simp only []; rw [R2.out]; simp only []; rw [T3.out]; simp only []; rw [hr])
                    clear hr
                    go_wp2_with fail
                    refine HR.out.mono ?_
                    rintro e w16 ⟨rfl, hB⟩
                    go_wp2
                    exact ⟨rfl, by rw [HPE.out]; rfl, PU15.st.bel.trans (hB.mono PU15.st.bel.size)⟩
                  | some d3 =>
                    rw [hr] at HR
                    simp only [] at HR
                    have R3 := Lib.hid hr
                    clear hr
                    go_wp2_with fail
                    refine HR.out.mono ?_
                    rintro e w16 ⟨rfl, hB⟩
                    have PU16 := PU15.keep hB
                    have z0 : w16.cell? ⟨xb, 3, none⟩ = some (.int .u8 0) := Lib.cell_of_heap PU16.st.xx 3
                    have f0 := Lib.frozen_of_heap PU16.st.xx 3
                    clear HR hB PU15
                    go_upto_region 11 with fail
                    have PU17 := PU16.laid 3 (.int .u8 (d3 : Int)) ⟨kk, (d1 : Int), (d2 : Int), (d3 : Int), 0⟩ rfl
                    generalize (w16.setCell ⟨xb, 3, none⟩ (.int .u8 (d3 : Int))) = w17 at *
                    clear z0 f0 PU16
                    have y4 : w17.cell? ⟨ub, 3, none⟩ = some (.bool (bitOf (useOf kk) 8)) := Lib.cell_of_heap PU17.uu 3
                    cases h8 : bitOf (useOf kk) 8 with
                    | false =>
                      rw [h8] at y4
                      have H8 := Lib.hid h8
                      have hj := hj3
                      clear h8
                      have hjl : j3 ≤ ps.length := hj
                      obtain ⟨p, h1, -⟩ := PU17.st.ls.box
                      obtain ⟨n, hn⟩ : ∃ n, n = ps.length - j3 := ⟨_, rfl⟩
                      rw [← hn] at h1
                      have c0 : w17.cell? ⟨lb, 0, none⟩ = some (.slice (some p) n n) := Lib.cell_of_heap h1 0
                      clear h1
                      by_cases hq : j3 = ps.length
                      · have hn0 : n = 0 := by omega
                        subst hn0
                        have HPE : Hid (parsedE ps = .returned (.tuple #[.agg #[.int .u8 kk, .int .u8 (d1 : Int), .int .u8 (d2 : Int), .int .u8 (d3 : Int), .int .u32 0], .string (bsOf [])])) := Lib.hid (by unfold parsedE parsedW; rw [E0.out]; simp only []; rw [T1.out]; simp only []; rw [R1.out]; simp only []; rw [T2.out]; simp only []; rw [R2.out]; simp only []; rw [T3.out]; simp only []; rw [R3.out]; simp only []; rw [if_neg (by rw [H8.out]; simp)]; simp only []; rw [if_pos hq]; rfl)
                        clear hq hn
                        have z0 : w17.cell? ⟨xb, 0, none⟩ = some (.int .u8 kk) := Lib.cell_of_heap PU17.st.xx 0
                        have f0 := Lib.frozen_of_heap PU17.st.xx 0
                        have z1 : w17.cell? ⟨xb, 1, none⟩ = some (.int .u8 (d1 : Int)) := Lib.cell_of_heap PU17.st.xx 1
                        have f1 := Lib.frozen_of_heap PU17.st.xx 1
                        have z2 : w17.cell? ⟨xb, 2, none⟩ = some (.int .u8 (d2 : Int)) := Lib.cell_of_heap PU17.st.xx 2
                        have f2 := Lib.frozen_of_heap PU17.st.xx 2
                        have z3 : w17.cell? ⟨xb, 3, none⟩ = some (.int .u8 (d3 : Int)) := Lib.cell_of_heap PU17.st.xx 3
                        have f3 := Lib.frozen_of_heap PU17.st.xx 3
                        have z4 : w17.cell? ⟨xb, 4, none⟩ = some (.int .u32 0) := Lib.cell_of_heap PU17.st.xx 4
                        have f4 := Lib.frozen_of_heap PU17.st.xx 4
                        go_wp2_with fail
                        refine (need_yes _).mono ?_
                        rintro e w30 ⟨rfl, rfl⟩
                        go_wp2
                        have PV : ParU w xb lb g ub kk ⟨kk, (d1 : Int), (d2 : Int), (d3 : Int), 0⟩ ps j3 (((((w30.setCell ⟨xb, 0, none⟩ (.int .u8 kk)).setCell ⟨xb, 1, none⟩ (.int .u8 (d1 : Int))).setCell ⟨xb, 2, none⟩ (.int .u8 (d2 : Int))).setCell ⟨xb, 3, none⟩ (.int .u8 (d3 : Int))).setCell ⟨xb, 4, none⟩ (.int .u32 0)) := ((((PU17.laid 0 (.int .u8 kk) ⟨kk, (d1 : Int), (d2 : Int), (d3 : Int), 0⟩ rfl).laid 1 (.int .u8 (d1 : Int)) ⟨kk, (d1 : Int), (d2 : Int), (d3 : Int), 0⟩ rfl).laid 2 (.int .u8 (d2 : Int)) ⟨kk, (d1 : Int), (d2 : Int), (d3 : Int), 0⟩ rfl).laid 3 (.int .u8 (d3 : Int)) ⟨kk, (d1 : Int), (d2 : Int), (d3 : Int), 0⟩ rfl).laid 4 (.int .u32 0) ⟨kk, (d1 : Int), (d2 : Int), (d3 : Int), 0⟩ rfl
                        clear z0 z1 z2 z3 z4 f0 f1 f2 f3 f4
                        generalize (((((w30.setCell ⟨xb, 0, none⟩ (.int .u8 kk)).setCell ⟨xb, 1, none⟩ (.int .u8 (d1 : Int))).setCell ⟨xb, 2, none⟩ (.int .u8 (d2 : Int))).setCell ⟨xb, 3, none⟩ (.int .u8 (d3 : Int))).setCell ⟨xb, 4, none⟩ (.int .u32 0)) = w31 at *
                        have z0 : w31.cell? ⟨xb, 0, none⟩ = some (.int .u8 kk) := Lib.cell_of_heap PV.st.xx 0
                        have z1 : w31.cell? ⟨xb, 1, none⟩ = some (.int .u8 (d1 : Int)) := Lib.cell_of_heap PV.st.xx 1
                        have z2 : w31.cell? ⟨xb, 2, none⟩ = some (.int .u8 (d2 : Int)) := Lib.cell_of_heap PV.st.xx 2
                        have z3 : w31.cell? ⟨xb, 3, none⟩ = some (.int .u8 (d3 : Int)) := Lib.cell_of_heap PV.st.xx 3
                        have z4 : w31.cell? ⟨xb, 4, none⟩ = some (.int .u32 0) := Lib.cell_of_heap PV.st.xx 4
                        exact bodyPost_ret (v := .tuple #[.agg #[.int .u8 kk, .int .u8 (d1 : Int), .int .u8 (d2 : Int), .int .u8 (d3 : Int), .int .u32 0], .string (bsOf [])]) (by simp [results, Tryz.results40, go_sem, z0, z1, z2, z3, z4, bsOf]) rfl ⟨by rw [HPE.out], PV.st.bel⟩
                      · have hnp : 0 < n := by omega
                        have hnd : (n == 0) = false := by simp; omega
                        have hnz : ¬ n = 0 := by omega
                        have hni : ((n : Int) == 0) = false := by simp; omega
                        have HPE : Hid (parsedE ps = wrongE) := Lib.hid (by unfold parsedE parsedW; rw [E0.out]; simp only []; rw [T1.out]; simp only []; rw [R1.out]; simp only []; rw [T2.out]; simp only []; rw [R2.out]; simp only []; rw [T3.out]; simp only []; rw [R3.out]; simp only []; rw [if_neg (by rw [H8.out]; simp)]; simp only []; rw [if_neg hq])
                        clear hq hn
                        go_wp2_with fail
                        refine (need_no _).mono ?_
                        rintro e w30 ⟨rfl, rfl⟩
                        go_wp2
                        exact ⟨rfl, by rw [HPE.out]; rfl, PU17.st.bel⟩
                    | true =>
                      rw [h8] at y4
                      have H8 := Lib.hid h8
                      clear h8
                      have HT := Lib.hid (take33 true PU17 hps)
                      cases ht : takeL true ps j3 with
                      | none =>
                        rw [ht] at HT
                        unfold TakePost wrongE wrongV at HT
                        simp only [] at HT
                        have HPE : Hid (parsedE ps = wrongE) := Lib.hid (by unfold parsedE parsedW; rw [E0.out]; simp only []; rw [T1.out]; simp only []; rw [R1.out]; simp only []; rw [T2.out]; simp only []; rw [R2.out]; simp only []; rw [T3.out]; simp only []; rw [R3.out]; simp only []; rw [if_pos H8.out, ht])
                        clear ht
                        go_wp2_with fail
                        refine HT.out.mono ?_
                        rintro e w18 ⟨rfl, hB⟩
                        go_wp2
                        exact ⟨rfl, by rw [HPE.out]; rfl, hB⟩
                      | some q =>
                        obtain ⟨wd4, j4⟩ := q
                        rw [ht] at HT
                        unfold TakePost at HT
                        simp only [] at HT
                        have T4 := Lib.hid ht
                        have hj : j4 ≤ ps.length := takeL_le ht hj3
                        clear ht
                        go_wp2_with fail
                        refine HT.out.mono ?_
                        rintro e w18 ⟨rfl, PU18⟩
                        clear HT PU17 y4
                        have hjl : j4 ≤ ps.length := hj
                        obtain ⟨p, h1, -⟩ := PU18.st.ls.box
                        obtain ⟨n, hn⟩ : ∃ n, n = ps.length - j4 := ⟨_, rfl⟩
                        rw [← hn] at h1
                        have c0 : w18.cell? ⟨lb, 0, none⟩ = some (.slice (some p) n n) := Lib.cell_of_heap h1 0
                        clear h1
                        by_cases hq : j4 = ps.length
                        · have hn0 : n = 0 := by omega
                          subst hn0
                          have HPE : Hid (parsedE ps = .returned (.tuple #[.agg #[.int .u8 kk, .int .u8 (d1 : Int), .int .u8 (d2 : Int), .int .u8 (d3 : Int), .int .u32 0], .string (bsOf wd4)])) := Lib.hid (by unfold parsedE parsedW; rw [E0.out]; simp only []; rw [T1.out]; simp only []; rw [R1.out]; simp only []; rw [T2.out]; simp only []; rw [R2.out]; simp only []; rw [T3.out]; simp only []; rw [R3.out]; simp only []; rw [if_pos H8.out, T4.out]; simp only []; rw [if_pos hq]; rfl)
                          clear hq hn
                          have z0 : w18.cell? ⟨xb, 0, none⟩ = some (.int .u8 kk) := Lib.cell_of_heap PU18.st.xx 0
                          have f0 := Lib.frozen_of_heap PU18.st.xx 0
                          have z1 : w18.cell? ⟨xb, 1, none⟩ = some (.int .u8 (d1 : Int)) := Lib.cell_of_heap PU18.st.xx 1
                          have f1 := Lib.frozen_of_heap PU18.st.xx 1
                          have z2 : w18.cell? ⟨xb, 2, none⟩ = some (.int .u8 (d2 : Int)) := Lib.cell_of_heap PU18.st.xx 2
                          have f2 := Lib.frozen_of_heap PU18.st.xx 2
                          have z3 : w18.cell? ⟨xb, 3, none⟩ = some (.int .u8 (d3 : Int)) := Lib.cell_of_heap PU18.st.xx 3
                          have f3 := Lib.frozen_of_heap PU18.st.xx 3
                          have z4 : w18.cell? ⟨xb, 4, none⟩ = some (.int .u32 0) := Lib.cell_of_heap PU18.st.xx 4
                          have f4 := Lib.frozen_of_heap PU18.st.xx 4
                          go_wp2_with fail
                          refine (need_yes _).mono ?_
                          rintro e w30 ⟨rfl, rfl⟩
                          go_wp2
                          have PV : ParU w xb lb g ub kk ⟨kk, (d1 : Int), (d2 : Int), (d3 : Int), 0⟩ ps j4 (((((w30.setCell ⟨xb, 0, none⟩ (.int .u8 kk)).setCell ⟨xb, 1, none⟩ (.int .u8 (d1 : Int))).setCell ⟨xb, 2, none⟩ (.int .u8 (d2 : Int))).setCell ⟨xb, 3, none⟩ (.int .u8 (d3 : Int))).setCell ⟨xb, 4, none⟩ (.int .u32 0)) := ((((PU18.laid 0 (.int .u8 kk) ⟨kk, (d1 : Int), (d2 : Int), (d3 : Int), 0⟩ rfl).laid 1 (.int .u8 (d1 : Int)) ⟨kk, (d1 : Int), (d2 : Int), (d3 : Int), 0⟩ rfl).laid 2 (.int .u8 (d2 : Int)) ⟨kk, (d1 : Int), (d2 : Int), (d3 : Int), 0⟩ rfl).laid 3 (.int .u8 (d3 : Int)) ⟨kk, (d1 : Int), (d2 : Int), (d3 : Int), 0⟩ rfl).laid 4 (.int .u32 0) ⟨kk, (d1 : Int), (d2 : Int), (d3 : Int), 0⟩ rfl
                          clear z0 z1 z2 z3 z4 f0 f1 f2 f3 f4
                          generalize (((((w30.setCell ⟨xb, 0, none⟩ (.int .u8 kk)).setCell ⟨xb, 1, none⟩ (.int .u8 (d1 : Int))).setCell ⟨xb, 2, none⟩ (.int .u8 (d2 : Int))).setCell ⟨xb, 3, none⟩ (.int .u8 (d3 : Int))).setCell ⟨xb, 4, none⟩ (.int .u32 0)) = w31 at *
                          have z0 : w31.cell? ⟨xb, 0, none⟩ = some (.int .u8 kk) := Lib.cell_of_heap PV.st.xx 0
                          have z1 : w31.cell? ⟨xb, 1, none⟩ = some (.int .u8 (d1 : Int)) := Lib.cell_of_heap PV.st.xx 1
                          have z2 : w31.cell? ⟨xb, 2, none⟩ = some (.int .u8 (d2 : Int)) := Lib.cell_of_heap PV.st.xx 2
                          have z3 : w31.cell? ⟨xb, 3, none⟩ = some (.int .u8 (d3 : Int)) := Lib.cell_of_heap PV.st.xx 3
                          have z4 : w31.cell? ⟨xb, 4, none⟩ = some (.int .u32 0) := Lib.cell_of_heap PV.st.xx 4
                          exact bodyPost_ret (v := .tuple #[.agg #[.int .u8 kk, .int .u8 (d1 : Int), .int .u8 (d2 : Int), .int .u8 (d3 : Int), .int .u32 0], .string (bsOf wd4)]) (by simp [results, Tryz.results40, go_sem, z0, z1, z2, z3, z4, bsOf]) rfl ⟨by rw [HPE.out], PV.st.bel⟩
                        · have hnp : 0 < n := by omega
                          have hnd : (n == 0) = false := by simp; omega
                          have hnz : ¬ n = 0 := by omega
                          have hni : ((n : Int) == 0) = false := by simp; omega
                          have HPE : Hid (parsedE ps = wrongE) := Lib.hid (by unfold parsedE parsedW; rw [E0.out]; simp only []; rw [T1.out]; simp only []; rw [R1.out]; simp only []; rw [T2.out]; simp only []; rw [R2.out]; simp only []; rw [T3.out]; simp only []; rw [R3.out]; simp only []; rw [if_pos H8.out, T4.out]; simp only []; rw [if_neg hq])
                          clear hq hn
                          go_wp2_with fail
                          refine (need_no _).mono ?_
                          rintro e w30 ⟨rfl, rfl⟩
                          go_wp2
                          exact ⟨rfl, by rw [HPE.out]; rfl, PU18.st.bel⟩
end Go.Proofs.YtoonkfhphbojcaaGreatDoor
