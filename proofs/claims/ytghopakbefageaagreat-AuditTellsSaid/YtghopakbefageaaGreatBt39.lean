/- The walks of audit.Flow and audit.Indirect. What ref36's Flow keeps: a stack of numbers, and a row of marks. -/
import Derived.Test.YtghopakbefageaaGreatBt38
import Derived.Test.YtghopakbefageaaGreatEqLay
import Derived.Test.YtghopakbefageaaGreatBt23
import Derived.Test.YtghopakbefageaaGreatBt37
namespace Go.Proofs.YtghopakbefageaaGreat
open Go.RowKit Go.Maps Go.Shelf
theorem img_drop {w : World} {x : GImg} {ve vp vs : Value} (h : ImgAt w x ve vp vs) : (0 ≤ x.entry ∧ x.entry ≤ 4294967295) := h.2.2
set_option maxHeartbeats 1000000 in
theorem audFlow36 (x : GImg) (ve vp vs : Value) (w : World) (h : ImgAt w x ve vp vs) :
    Calls Tryz.prog 13 #[imgV x ve vp vs] w (FlowPost x w) := by
  have HLK : Hid (∀ W, Below w.heap.size w W → Calls Tryz.prog 23 #[imgV x ve vp vs] W (LookPost x ve vp vs W)) := fun W hW => look36 x ve vp vs W (h.keep hW)
  unfold imgV at *
  obtain ⟨⟨⟨p1, c1, _, _, rfl, -⟩, ⟨p2, c2, _, _, rfl, -⟩, -⟩, ⟨p3, c3, b3, o3, rfl, -, -, -, -⟩, hen⟩ := h
  have HB1 : Hid (Below w.heap.size w (w.alloc (.cells #[.int .u32 x.man.pages, .slice p1 x.man.exts.length c1, .slice p2 x.man.ports.length c2, .bool x.man.cons, .int .u32 x.entry, .slice p3 x.segs.length c3] 29))) := alloc_old w _
  go_enter Tryz.func13, Tryz.ntmps13
  go_wp2_with fail
  refine (HLK.out _ HB1.out).mono ?_
  rintro e w2 ⟨cb, mb, v, vs', rfl, hst, -, hB2⟩
  have HB2 : Hid (Below w.heap.size w w2) := HB1.out.trans (hB2.mono HB1.out.size)
  have HFL := Lib.hid (flow36 w2 hst head_of hen)
  clear hst hB2 HLK HB1
  go_wp2_with fail
  refine HFL.out.mono ?_
  rintro e w3 ⟨v, l, rfl, hl, hr, hB3⟩
  have HFN : Hid (FlowPost x w (.returned v) w3) := Lib.hid ⟨v, l, rfl, hl, hr, HB2.out.trans (hB3.mono HB2.out.size)⟩
  obtain ⟨p, c, _, _, rfl, -⟩ := hr
  clear hB3 HFL
  go_wp2
  go_ret
  exact HFN.out
def indF (L : List GLn) (a : Int) : Bool := (lineOf L a).is && decide ((lineOf L a).ins.op = 42)
def IndIs (L : List GLn) (e : Int) (b : Bool) : Prop := b = true ↔ ∃ a, InFlow L e a ∧ indF L a = true
theorem indIs_eq {L : List GLn} {e : Int} {a b : Bool} (ha : IndIs L e a) (hb : IndIs L e b) : a = b := by
  rw [Bool.eq_iff_iff]; exact ha.trans hb.symm
theorem ind_any {L : List GLn} {e : Int} {l : List Int} (h : FlowIs L e l) : IndIs L e (l.any (indF L)) := by
  unfold IndIs
  rw [List.any_eq_true]
  constructor
  · rintro ⟨a, h1, h2⟩; exact ⟨a, (h.2 a).1 h1, h2⟩
  · rintro ⟨a, h1, h2⟩; exact ⟨a, (h.2 a).2 h1, h2⟩
theorem field_is (o d a b m z : Int) (t : Bool) (w : World) : (Instr.field 60 (.agg #[.int .u8 o, .int .u8 d, .int .u8 a, .int .u8 b, .int .u32 m, .int .u32 z, .bool t]) 2).run Tryz.prog w = .ok (.bool t) w := by
  simp [Instr.field, asAgg, run_underlying Tryz.underlying60, part, go_sem]
theorem field_ins (o d a b m z : Int) (t : Bool) (w : World) : (Instr.field 60 (.agg #[.int .u8 o, .int .u8 d, .int .u8 a, .int .u8 b, .int .u32 m, .int .u32 z, .bool t]) 0).run Tryz.prog w = .ok (.agg #[.int .u8 o, .int .u8 d, .int .u8 a, .int .u8 b, .int .u32 m]) w := by
  simp [Instr.field, asAgg, run_underlying Tryz.underlying60, part, go_sem]
theorem field_op (o d a b m : Int) (w : World) : (Instr.field 49 (.agg #[.int .u8 o, .int .u8 d, .int .u8 a, .int .u8 b, .int .u32 m]) 0).run Tryz.prog w = .ok (.int .u8 o) w := by
  simp [Instr.field, asAgg, run_underlying Tryz.underlying49, part, go_sem]
set_option maxHeartbeats 2000000 in
set_option maxRecDepth 20000 in
theorem ind1_any {base cb mb vb : Nat} {c : CodeH} {v : Value} {L : List GLn} (a : Int) (w : World) (h : LookSt base cb mb c v L w) (hb : w.cell? ⟨vb, 0, none⟩ = some (.pointer (some ⟨cb, 0, none⟩))) (ha : u32ok a) :
    Calls Tryz.prog 36 #[.int .u32 a, .pointer (some ⟨vb, 0, none⟩)] w fun e w' => e = .returned (.bool (indF L a)) ∧ w' = w := by
  obtain ⟨pg, ve, vp, co, en, vs⟩ := c
  obtain ⟨-, a6, -, -, -⟩ := h.cells
  have hlk := h.map.look (a := a) u32Keyed Tryz.underlying55 (zeroLine w) ha
  rw [linesF_get] at hlk
  have HD : Hid (indF L a = (((findA L a).getD ln0).is && decide (((findA L a).getD ln0).ins.op = 42))) := Lib.hid rfl
  clear h
  generalize (findA L a).getD ln0 = y at hlk HD
  change Sem.run _ (Instr.lookup _ _ (.int .u32 a) _) _ = _ at hlk
  obtain ⟨ya, ⟨io, id, ia, ib, im⟩, yi⟩ := y
  unfold lineV at hlk
  simp only [] at hlk HD
  have f1 := field_is io id ia ib im ya yi w
  have f2 := field_ins io id ia ib im ya yi w
  have f3 := field_op io id ia ib im w
  by_cases h4 : io = 42
  · subst h4
    cases yi
    all_goals
      go_enter Tryz.func36, Tryz.ntmps36
      go_wp2
      go_ret
      exact ⟨by rw [HD.out]; simp, rfl⟩
  · have h4b : (io == 42) = false := by simpa using h4
    have HD2 : Hid (indF L a = (yi && false)) := Lib.hid (by rw [HD.out, decide_eq_false h4])
    clear HD
    cases yi
    all_goals
      go_enter Tryz.func36, Tryz.ntmps36
      go_wp2
      go_ret
      exact ⟨by rw [HD2.out]; rfl, rfl⟩
theorem ind1_enters (args : Array Value) (w : World) : (callFunc 36 args).run Tryz.prog w = .ok (.enter 36 args) w := enters_of Tryz.func36 (by kernel_rfl) rfl args w
instance : Inhabited {a : Int // u32ok a} := ⟨⟨0, by omega, by omega⟩⟩
theorem indC_any {base cb mb vb : Nat} {c : CodeH} {v u : Value} {L : List GLn} {l : List Int} (w : World) (h : LookSt base cb mb c v L w) (hvb : vb < w.heap.size) (hb : w.cell? ⟨vb, 0, none⟩ = some (.pointer (some ⟨cb, 0, none⟩))) (hr : RowAt 1 NumR w u l) :
    Calls Tryz.prog 35 #[u, .func (.func 36) #[] #[.pointer (some ⟨vb, 0, none⟩)]] w fun e w' => e = .returned (.bool (l.any (indF L))) ∧ Below w.heap.size w w' := by
  obtain ⟨pp, cap, b, o, rfl, hcap, hmax, hpp, hc⟩ := hr
  by_cases h0 : l.length = 0
  · obtain rfl : l = [] := List.eq_nil_of_length_eq_zero h0
    refine (Go.Proofs.AnyE.slices_ContainsFunc_empty Tryz.containsFunc32 pp cap _ w).mono ?_
    rintro e w' ⟨rfl, rfl⟩
    exact ⟨rfl, Below.refl _ _⟩
  · obtain rfl := hpp (by omega)
    have hin : ∀ a ∈ l, u32ok a := fun a ha => by
      obtain ⟨i, hi, rfl⟩ := List.mem_iff_getElem.1 ha
      exact (hc i hi).2.2
    have hzl : (l.pmap (fun a ha => (⟨a, ha⟩ : {a : Int // u32ok a})) hin).length = l.length := List.length_pmap ..
    have := Go.Proofs.AnyE.slices_ContainsFunc Tryz.containsFunc32 (fun a : {a : Int // u32ok a} => .int .u32 a.1) (fun a => indF L a.1) 36 #[.pointer (some ⟨vb, 0, none⟩)] ind1_enters b o l.length cap (l.pmap (fun a ha => ⟨a, ha⟩) hin) w
      (fun W a hW => by
        refine (ind1_any a.1 W (h.keep hW) (cell_keep hW hvb hb) a.2).mono ?_
        rintro e w' ⟨rfl, rfl⟩
        exact ⟨rfl, 0, rfl⟩) (by omega) (by omega) (fun j hj => by
        have hj' : j < l.length := by omega
        rw [getElem!_pos _ j hj, List.getElem_pmap]
        have := (hc j hj').2.1
        simpa using this)
    rw [List.take_of_length_le (by omega)] at this
    have e : ((l.pmap (fun a ha => (⟨a, ha⟩ : {a : Int // u32ok a})) hin).any fun a => indF L a.1) = l.any (indF L) := by
      rw [Bool.eq_iff_iff]
      simp only [List.any_eq_true, List.mem_pmap]
      constructor
      · rintro ⟨t, ⟨a, ha, rfl⟩, h2⟩; exact ⟨a, ha, h2⟩
      · rintro ⟨a, ha, h2⟩; exact ⟨⟨a, hin a ha⟩, ⟨a, ha, rfl⟩, h2⟩
    rw [e] at this
    refine this.mono ?_
    rintro e w' ⟨rfl, q, rfl⟩
    exact ⟨rfl, below_drewN (Below.refl _ _) q⟩
def IndPost (x : GImg) (w : World) (e : Ending) (w' : World) : Prop := ∃ b, e = .returned (.bool b) ∧ IndIs (linesX x) x.entry b ∧ Below w.heap.size w w'
set_option maxHeartbeats 1000000 in
theorem audInd36 (x : GImg) (ve vp vs : Value) (w : World) (h : ImgAt w x ve vp vs) :
    Calls Tryz.prog 15 #[imgV x ve vp vs] w (IndPost x w) := by
  have HLK : Hid (∀ W, Below w.heap.size w W → Calls Tryz.prog 23 #[imgV x ve vp vs] W (LookPost x ve vp vs W)) := fun W hW => look36 x ve vp vs W (h.keep hW)
  unfold imgV at *
  obtain ⟨⟨⟨p1, c1, _, _, rfl, -⟩, ⟨p2, c2, _, _, rfl, -⟩, -⟩, ⟨p3, c3, b3, o3, rfl, -, -, -, -⟩, hen⟩ := h
  have HB1 : Hid (Below w.heap.size w (w.alloc (.cells #[.int .u32 x.man.pages, .slice p1 x.man.exts.length c1, .slice p2 x.man.ports.length c2, .bool x.man.cons, .int .u32 x.entry, .slice p3 x.segs.length c3] 29))) := alloc_old w _
  go_enter Tryz.func15, Tryz.ntmps15
  go_wp2_with fail
  refine (HLK.out _ HB1.out).mono ?_
  rintro e w2 ⟨cb, mb, v, vs', rfl, hst, -, hB2⟩
  have HB2 : Hid (Below w.heap.size w w2) := HB1.out.trans (hB2.mono HB1.out.size)
  have HST := Lib.hid hst; clear hst
  clear hB2 HLK HB1
  have HB3 : Hid (Below w2.heap.size w2 (w2.alloc (.cells #[.pointer (some ⟨cb, 0, none⟩)] 53))) := alloc_old w2 _
  have HFL := Lib.hid (flow36 _ (HST.out.keep HB3.out) head_of hen)
  have HV : Hid ((w2.alloc (.cells #[.pointer (some ⟨cb, 0, none⟩)] 53)).cell? ⟨w2.heap.size, 0, none⟩ = some (.pointer (some ⟨cb, 0, none⟩))) := Lib.hid (by simp [go_sem])
  have hz3 : w2.heap.size < (w2.alloc (.cells #[.pointer (some ⟨cb, 0, none⟩)] 53)).heap.size := by simp
  go_wp2_with fail
  refine HFL.out.mono ?_
  rintro e w4 ⟨v4, l, rfl, hl, hr, hB4⟩
  have hv4 := cell_keep hB4 hz3 HV.out
  have hz4 : w2.heap.size < w4.heap.size := by have := hB4.size; omega
  have HB4 : Hid (Below w2.heap.size w2 w4) := HB3.out.trans (hB4.mono (by omega))
  have HIC := Lib.hid (indC_any w4 (HST.out.keep HB4.out) hz4 hv4 hr)
  have HL := Lib.hid (ind_any hl)
  obtain ⟨p, c, _, _, rfl, -⟩ := hr
  clear hB4 HFL hl HV
  go_wp2_with fail
  refine HIC.out.mono ?_
  rintro e w5 ⟨rfl, hB5⟩
  have HFN : Hid (IndPost x w (.returned (.bool (l.any (indF (linesX x))))) w5) := Lib.hid ⟨_, rfl, HL.out, HB2.out.trans ((HB4.out.trans (hB5.mono (by omega))).mono HB2.out.size)⟩
  clear hB5 HIC
  go_wp2
  go_ret
  exact HFN.out
end Go.Proofs.YtghopakbefageaaGreat
namespace Go.Proofs.YtghopakbefageaaGreat
open Go.RowKit Go.Maps
theorem own_pop {w : World} {base : Nat} {e : TypeId} {pv : Option Addr} {n cap : Nat} {xs : List Value} {x : Value} (h : w.ownsRow base e 1 (.slice pv (n + 1) cap) (n + 1) (xs ++ [x])) : w.ownsRow base e 1 (.slice pv n cap) n xs ∧ n + 1 ≤ cap := by
  obtain ⟨h1, h2⟩ := h
  rcases h2 with ⟨h3, h4⟩ | ⟨g, c, cur, hv, hb, hh, hn, hm, hs, ht⟩
  · omega
  · cases hv
    have hl : xs.length = n := by simpa using h1
    refine ⟨⟨by simpa using h1, .inr ⟨g, cap, cur, rfl, hb, hh, by omega, hm, hs, ?_⟩⟩, hn⟩
    have := congrArg (List.take n) ht
    rw [List.take_take, ← hl, List.take_left] at this
    rw [← this, ← hl]
    congr 1
    omega
structure DfsSt (base mb : Nat) (v : Value) (S : List Int) (M : List Bool) (w : World) : Prop where
  row : w.ownsRow base 3 1 v S.length (S.map (Value.int .i64))
  mrk : w.heap[mb]? = some (.cells (M.map Value.bool).toArray 4 (0, 0))
  mbl : base ≤ mb
section
variable {base mb : Nat} {v : Value} {S : List Int} {M : List Bool} {w : World}
theorem DfsSt.lt (h : DfsSt base mb v S M w) : mb < w.heap.size := (Array.getElem?_eq_some_iff.1 h.mrk).1
theorem DfsSt.keep (h : DfsSt base mb v S M w) {w' : World} (hb : Below w.heap.size w w') : DfsSt base mb v S M w' :=
  ⟨ownsRow_below hb h.row, (hb.block _ h.lt).trans h.mrk, h.mbl⟩
theorem DfsSt.nem (h : DfsSt base mb v S M w) : v.ownBlock ≠ some mb := own_ne_box h.row h.mrk (by decide)
theorem DfsSt.at (h : DfsSt base mb v S M w) {k : Nat} {b : Bool} (hk : M[k]? = some b) : w.cell? ⟨mb, k, none⟩ = some (.bool b) := by
  have := Lib.cell_of_heap h.mrk k
  rw [this]
  simp [hk]
theorem DfsSt.pop {pv : Option Addr} {cap : Nat} {r : Int} (h : DfsSt base mb (.slice pv (S.length + 1) cap) (S ++ [r]) M w) : DfsSt base mb (.slice pv S.length cap) S M w ∧ S.length + 1 ≤ cap := by
  have h1 := h.row
  rw [List.length_append, List.map_append] at h1
  obtain ⟨h2, h3⟩ := own_pop h1
  exact ⟨⟨h2, h.mrk, h.mbl⟩, h3⟩
theorem DfsSt.mark (h : DfsSt base mb v S M w) {k : Nat} : DfsSt base mb v S (M.set k true) (w.setCell ⟨mb, k, none⟩ (.bool true)) := by
  refine ⟨own_congr h.row fun g hg => Below.heap_setCell _ _ _ _ (fun e => h.nem (by rw [hg, e])), ?_, h.mbl⟩
  simp [World.setCell, Array.getElem?_modify, h.mrk, List.map_set]
theorem DfsSt.push (h : DfsSt base mb v S M w) {w5 : World} {v' : Value} {X : Obj} {r : Int} (hown : w5.ownsRow base 3 1 v' (S.length + 1) (S.map (Value.int .i64) ++ [.int .i64 r])) (hg5 : (w.alloc X).grownBy w5 v.ownBlock) (hbz : base ≤ w.heap.size) : DfsSt base mb v' (S ++ [r]) M w5 ∧ Below base w w5 := by
  have hl := h.lt
  refine ⟨⟨by rw [List.length_append, List.map_append]; exact hown, ?_, h.mbl⟩, ?_⟩
  · exact (hg5.block mb (by simp; omega) (fun e => h.nem e.symm)).trans ((Below.heap_alloc w _ mb hl).trans h.mrk)
  · exact ((Below.refl _ _).alloc hbz _).grown hg5 (by simp; omega) (fun k hk => (h.row.lt k hk).1)
end
def isF : Value → Bool
  | .bool false => true
  | _ => false
def unmW : Option Obj → Nat
  | some (.cells cs _ _) => (cs.toList.filter isF).length
  | _ => 0
def unm (M : List Bool) : Nat := (M.filter fun b => !b).length
theorem unm_of (M : List Bool) (t : TypeId) (c : Nat × Nat) : unmW (some (.cells (M.map Value.bool).toArray t c)) = unm M := by
  show (List.filter isF (M.map Value.bool)).length = _
  unfold unm
  rw [List.filter_map, List.length_map]
  congr 2
  funext b
  cases b <;> rfl
theorem unm_set : ∀ (M : List Bool) (k : Nat), M[k]? = some false → unm (M.set k true) + 1 = unm M
  | b :: M, 0, h => by simp at h; subst h; simp [unm]
  | b :: M, k + 1, h => by
    have ih := unm_set M k (by simpa using h)
    unfold unm at ih ⊢
    rw [List.set_cons_succ]
    cases b with
    | true =>
      rw [List.filter_cons_of_neg (by simp), List.filter_cons_of_neg (by simp)]
      exact ih
    | false =>
      rw [List.filter_cons_of_pos (by simp), List.filter_cons_of_pos (by simp), List.length_cons, List.length_cons]
      omega
theorem unm_all (n : Nat) : unm (List.replicate n false) = n := by
  unfold unm
  simp
def lenOf : Value → Nat
  | .slice _ n _ => n
  | _ => 0
theorem info_int36 : (Tryz.prog.info? 3).map (fun i => (i.zero, i.size, i.bytes)) = some (some (.int .i64 0), 1, 8) := by kernel_rfl
theorem info_bool36 : (Tryz.prog.info? 4).map (fun i => (i.zero, i.size, i.bytes)) = some (some (.bool false), 1, 1) := by kernel_rfl
theorem one_i64 {p : Int} : ∀ u ∈ [Value.int .i64 p], u.oneCell' = true := by intro u hu; simp at hu; subst hu; rfl
theorem list_snoc {α : Type} {l : List α} (h : l ≠ []) : ∃ S r, l = S ++ [r] := ⟨l.dropLast, l.getLast h, (List.dropLast_concat_getLast h).symm⟩
end Go.Proofs.YtghopakbefageaaGreat
