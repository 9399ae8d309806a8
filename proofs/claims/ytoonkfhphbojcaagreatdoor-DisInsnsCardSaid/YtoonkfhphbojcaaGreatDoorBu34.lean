/- slices.ContainsFunc at lines: whether one may not be. Instructions and rows of lines among a law's arguments. -/
import Derived.Test.YtoonkfhphbojcaaGreatDoorBu31
import Derived.Test.YtoonkfhphbojcaaGreatDoorBu30
import Derived.Test.YtoonkfhphbojcaaGreatDoorDisLay
import Derived.Lib.Hide
import Derived.Test.YtoonkfhphbojcaaGreatDoorRows
import Derived.Lib.SmallJoins
namespace Go.Proofs.YtoonkfhphbojcaaGreatDoor
open Go.RowKit Go.Maps Go.Shelf Go.Lib
set_option maxHeartbeats 400000 in
theorem indexL_nil (a : Option Addr) (c : Nat) (fv : Value) (w : World) : Calls Tryz.prog 174 #[.slice a 0 c, fv] w fun e w' => e = .returned (.int .i64 (-1)) ∧ w' = w := by
  go_enter Tryz.func174, Tryz.ntmps174
  go_wp2
  go_loopw [8] (fun i wr => i = .int .i64 0 ∧ wr = w) (fun _ _ => 0)
  case atStart => exact ⟨rfl, rfl⟩
  case round =>
    obtain ⟨rfl, rfl⟩ := hrel
    go_wp2
    go_ret
    exact ⟨rfl, rfl⟩
set_option maxHeartbeats 400000 in
theorem containsL_nil (a : Option Addr) (c : Nat) (fv : Value) (w : World) : Calls Tryz.prog 137 #[.slice a 0 c, fv] w fun e w' => e = .returned (.bool false) ∧ w' = w := by
  have HI := Lib.hid (indexL_nil a c fv w)
  go_enter Tryz.func137, Tryz.ntmps137
  go_wp2_with (go_at_call 174; refine HI.out.mono ?_; rintro e w1 ⟨rfl, rfl⟩)
  go_ret
  exact ⟨rfl, rfl⟩
set_option maxHeartbeats 1000000 in
theorem mkNot33 (x : GLine) (w : World) (h : LineB x) : Calls Tryz.prog 138 #[lineV x] w fun e w' => e = .returned (.bool (!lnMay x)) ∧ Below w.heap.size w w' := by
  have HCK := Lib.hid (fun W => asmMay33 x W h)
  have HB1 := Lib.hid (alloc_old w (.cells (lineA x) 59))
  clear h
  generalize lnMay x = ok at HCK
  unfold lineV lineA at HCK
  unfold lineA at HB1
  unfold lineV lineA
  obtain ⟨lab, ⟨op, d, a, b, i⟩, dd, nn⟩ := x
  simp only [] at HCK HB1
  generalize bsOf lab = SL at *
  generalize bsOf dd = SD at *
  generalize bsOf nn = SN at *
  go_enter Tryz.func138, Tryz.ntmps138
  go_wp2_with (go_at_call 139; refine (HCK.out _).mono ?_; rintro e w1 ⟨rfl, hB⟩)
  go_ret
  exact ⟨rfl, HB1.out.trans (hB.mono HB1.out.size)⟩
theorem mkNot_enters (args : Array Value) (w : World) : (callFunc 138 args).run Tryz.prog w = .ok (.enter 138 args) w := enters_of Tryz.func138 (by kernel_rfl) rfl args w
theorem containsL_any (v : Value) (l : List GLine) (w : World) (h : RowAt 8 LineR w v l) :
    Calls Tryz.prog 137 #[v, .func (.func 138) #[] #[]] w fun e w' => e = .returned (.bool (l.any fun x => !lnMay x)) ∧ Below w.heap.size w w' := by
  obtain ⟨p, cap, b, o, rfl, hcap, hmax, hp, hc⟩ := h
  by_cases h0 : l.length = 0
  · obtain rfl : l = [] := List.eq_nil_of_length_eq_zero h0
    refine (containsL_nil p cap _ w).mono ?_
    rintro e w' ⟨rfl, rfl⟩
    exact ⟨rfl, Below.refl _ _⟩
  · obtain rfl := hp (by omega)
    have h00 : 0 < l.length := by omega
    have hb : b < w.heap.size := (hc 0 h00).1
    have hin : ∀ x ∈ l, LineB x := fun x hx => by
      obtain ⟨i, hi, rfl⟩ := List.mem_iff_getElem.1 hx
      exact (hc i hi).2.2.2.2.2.2.2.2.2
    letI : Inhabited {x : GLine // LineB x} := ⟨⟨l[0], hin _ (List.getElem_mem h00)⟩⟩
    have hzl : (l.pmap (fun t ht => (⟨t, ht⟩ : {x : GLine // LineB x})) hin).length = l.length := by rw [List.length_pmap]
    have := Go.Proofs.AnyQ.slices_ContainsFunc Tryz.containsFuncLine 8 Tryz.isAgg59 Tryz.sizeOf59 (fun t : {x : GLine // LineB x} => lineC t.1) (fun _ => rfl) (fun t => !lnMay t.1) 138 #[] mkNot_enters b o l.length cap (l.pmap (fun t ht => ⟨t, ht⟩) hin) w
      (fun W t hW => (mkNot33 t.1 W t.2).mono fun e w' ⟨h1, h2⟩ => ⟨h1, hW.trans (h2.mono hW.size)⟩) (by omega) (by omega) hb (fun j hj i u hv => by
      have hj' : j < l.length := by rw [hzl] at hj; omega
      rw [getElem!_pos _ j hj, List.getElem_pmap] at hv
      have h1 := line_news (hc j hj') i u hv
      rw [add_at] at h1
      exact h1)
    rw [List.take_of_length_le (by omega)] at this
    have e : ((l.pmap (fun t ht => (⟨t, ht⟩ : {x : GLine // LineB x})) hin).any fun t => !lnMay t.1) = l.any fun x => !lnMay x := by
      rw [Bool.eq_iff_iff]
      simp only [List.any_eq_true, List.mem_pmap]
      constructor
      · rintro ⟨t, ⟨a, ha, rfl⟩, h2⟩; exact ⟨a, ha, h2⟩
      · rintro ⟨a, ha, h2⟩; exact ⟨⟨a, hin a ha⟩, ⟨a, ha, rfl⟩, h2⟩
    rw [e] at this
    exact this
end Go.Proofs.YtoonkfhphbojcaaGreatDoor
namespace Go.Proofs.YtoonkfhphbojcaaGreatDoor
open Go.ChangeShapes Go.WideShapes Go.ChangeAt Go.RowKit
section
variable {H : Type} {enc : TypeId × Value → H} {w : World} {base : Nat} {spare : Nat → Bool} {held : Bool}
set_option maxRecDepth 100000 in
theorem open_insC {n : Nat} {cs : List Value} {y : DataW H × List MemPlace} (h : DataW.trod enc Tryz.prog w base spare held n 24 cs = some y) (hlen : cs.length = 5) (hs : Small Tryz.prog 24 y.1) :
    ∃ x : GIns, cs = [.int .u8 x.op, .int .u8 x.d, .int .u8 x.a, .int .u8 x.b, .int .u32 x.imm] ∧ InsB x := by
  obtain ⟨m, hf⟩ := open_fields Tryz.underlying24 (by kernel_rfl) h hs hlen
  obtain ⟨v0, y0, e0, t0, -⟩ := hf 0 _ rfl
  obtain ⟨v1, y1, e1, t1, -⟩ := hf 1 _ rfl
  obtain ⟨v2, y2, e2, t2, -⟩ := hf 2 _ rfl
  obtain ⟨v3, y3, e3, t3, -⟩ := hf 3 _ rfl
  obtain ⟨v4, y4, e4, t4, -⟩ := hf 4 _ rfl
  obtain ⟨n0, c0, -, w0⟩ := DataW.trod_int Tryz.underlying5 t0
  obtain ⟨n1, c1, -, w1⟩ := DataW.trod_int Tryz.underlying5 t1
  obtain ⟨n2, c2, -, w2⟩ := DataW.trod_int Tryz.underlying5 t2
  obtain ⟨n3, c3, -, w3⟩ := DataW.trod_int Tryz.underlying5 t3
  obtain ⟨n4, c4, -, w4⟩ := DataW.trod_int Tryz.underlying22 t4
  cases c0; cases c1; cases c2; cases c3; cases c4
  refine ⟨⟨n0, n1, n2, n3, n4⟩, ?_, bounds_u8 w0, bounds_u8 w1, bounds_u8 w2, bounds_u8 w3, bounds_u32 w4⟩
  match cs, hlen, e0, e1, e2, e3, e4 with
  | [a0, a1, a2, a3, a4], _, e0, e1, e2, e3, e4 => simp at e0 e1 e2 e3 e4; simp [e0, e1, e2, e3, e4]
set_option maxRecDepth 100000 in
theorem open_insV {r : Go.Reach} {b0 : Nat} {v : Value} {d : DataW H} {p : List MemPlace} (hv : Value.okWide Tryz.prog w r b0 24 v) (h : DataW.Trod enc Tryz.prog w base spare held 24 v d p) (hs : Small Tryz.prog 24 d) :
    ∃ x : GIns, v = insV x ∧ InsB x := by
  obtain ⟨cs, rfl, hsz⟩ := okWide_struct Tryz.underlying24 hv
  obtain ⟨fuel, hf⟩ := h
  have hC : Tryz.prog.cellsOf 24 = 5 := by kernel_rfl
  have hl : cs.toList.length = 5 := by rw [Array.length_toList]; exact hsz.trans hC
  have hf' : DataW.trod enc Tryz.prog w base spare held fuel 24 cs.toList = some (d, p) := by simpa [Value.cells] using hf
  obtain ⟨x, hx, hB⟩ := open_insC hf' hl hs
  refine ⟨x, ?_, hB⟩
  rw [← Array.toArray_toList (xs := cs), hx]; rfl
/-- a line in a row, its texts of any length -/
def LineRw (w : World) (b o : Nat) (x : GLine) : Prop := b < w.heap.size ∧ w.cell? ⟨b, o, none⟩ = some (.string (bsOf x.label)) ∧ w.cell? ⟨b, o + 1, none⟩ = some (.int .u8 x.x.op) ∧ w.cell? ⟨b, o + 2, none⟩ = some (.int .u8 x.x.d) ∧ w.cell? ⟨b, o + 3, none⟩ = some (.int .u8 x.x.a) ∧ w.cell? ⟨b, o + 4, none⟩ = some (.int .u8 x.x.b) ∧ w.cell? ⟨b, o + 5, none⟩ = some (.int .u32 x.x.imm) ∧ w.cell? ⟨b, o + 6, none⟩ = some (.string (bsOf x.dest)) ∧ w.cell? ⟨b, o + 7, none⟩ = some (.string (bsOf x.name)) ∧
  InsB x.x ∧ x.label.length ≤ 140737488355328 ∧ x.dest.length ≤ 140737488355328 ∧ x.name.length ≤ 140737488355328
theorem lineRw_keeps : Keeps LineRw := fun _ _ _ _ _ hb ⟨h0, h1, h2, h3, h4, h5, h6, h7, h8, r⟩ => ⟨size_keep hb h0, cell_keep hb h0 h1, cell_keep hb h0 h2, cell_keep hb h0 h3, cell_keep hb h0 h4, cell_keep hb h0 h5, cell_keep hb h0 h6, cell_keep hb h0 h7, cell_keep hb h0 h8, r⟩
end
end Go.Proofs.YtoonkfhphbojcaaGreatDoor
