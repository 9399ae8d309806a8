/- slices.ContainsFunc at lines: whether one may not be. -/
import Derived.Test.YtoonkfhphbojcaaGreatDoorBv27
import Derived.Test.YtoonkfhphbojcaaGreatDoorBv28
import Derived.Test.YtoonkfhphbojcaaGreatDoorDisLay
import Derived.Lib.Hide
namespace Go.Proofs.YtoonkfhphbojcaaGreatDoor
open Go.RowKit Go.Maps Go.Shelf Go.Lib
set_option maxHeartbeats 400000 in
theorem indexL_nil (a : Option Addr) (c : Nat) (fv : Value) (w : World) : Calls Tryz.prog 174 #[.slice a 0 c, fv] w fun e w' => e = .returned (.int .i64 (-1)) ∧ w' = w := by
  go_enter Tryz.func174, Tryz.ntmps174
  go_wp2
  go_loopw [8] (fun i wr => i = .int .i64 0 ∧ wr = w) (fun _ _ => 0)
  case atStart => exact ⟨rfl, rfl⟩
  case round =>
    obtain ⟨rfl, rfl⟩ := hrel
    go_wp2
    go_ret
    exact ⟨rfl, rfl⟩
set_option maxHeartbeats 400000 in
theorem containsL_nil (a : Option Addr) (c : Nat) (fv : Value) (w : World) : Calls Tryz.prog 137 #[.slice a 0 c, fv] w fun e w' => e = .returned (.bool false) ∧ w' = w := by
  have HI := Lib.hid (indexL_nil a c fv w)
  go_enter Tryz.func137, Tryz.ntmps137
  go_wp2_with (go_at_call 174; refine HI.out.mono ?_; rintro e w1 ⟨rfl, rfl⟩)
  go_ret
  exact ⟨rfl, rfl⟩
set_option maxHeartbeats 1000000 in
theorem mkNot33 (x : GLine) (w : World) (h : LineB x) : Calls Tryz.prog 138 #[lineV x] w fun e w' => e = .returned (.bool (!lnMay x)) ∧ Below w.heap.size w w' := by
  have HCK := Lib.hid (fun W => asmMay33 x W h)
  have HB1 := Lib.hid (alloc_old w (.cells (lineA x) 59))
  clear h
  generalize lnMay x = ok at HCK
  unfold lineV lineA at HCK
  unfold lineA at HB1
  unfold lineV lineA
  obtain ⟨lab, ⟨op, d, a, b, i⟩, dd, nn⟩ := x
  simp only [] at HCK HB1
  generalize bsOf lab = SL at *
  generalize bsOf dd = SD at *
  generalize bsOf nn = SN at *
  go_enter Tryz.func138, Tryz.ntmps138
  go_wp2_with (go_at_call 139; refine (HCK.out _).mono ?_; rintro e w1 ⟨rfl, hB⟩)
  go_ret
  exact ⟨rfl, HB1.out.trans (hB.mono HB1.out.size)⟩
theorem mkNot_enters (args : Array Value) (w : World) : (callFunc 138 args).run Tryz.prog w = .ok (.enter 138 args) w := enters_of Tryz.func138 (by kernel_rfl) rfl args w
theorem containsL_any (v : Value) (l : List GLine) (w : World) (h : RowAt 8 LineR w v l) :
    Calls Tryz.prog 137 #[v, .func (.func 138) #[] #[]] w fun e w' => e = .returned (.bool (l.any fun x => !lnMay x)) ∧ Below w.heap.size w w' := by
  obtain ⟨p, cap, b, o, rfl, hcap, hmax, hp, hc⟩ := h
  by_cases h0 : l.length = 0
  · obtain rfl : l = [] := List.eq_nil_of_length_eq_zero h0
    refine (containsL_nil p cap _ w).mono ?_
    rintro e w' ⟨rfl, rfl⟩
    exact ⟨rfl, Below.refl _ _⟩
  · obtain rfl := hp (by omega)
    have h00 : 0 < l.length := by omega
    have hb : b < w.heap.size := (hc 0 h00).1
    have hin : ∀ x ∈ l, LineB x := fun x hx => by
      obtain ⟨i, hi, rfl⟩ := List.mem_iff_getElem.1 hx
      exact (hc i hi).2.2.2.2.2.2.2.2.2
    letI : Inhabited {x : GLine // LineB x} := ⟨⟨l[0], hin _ (List.getElem_mem h00)⟩⟩
    have hzl : (l.pmap (fun t ht => (⟨t, ht⟩ : {x : GLine // LineB x})) hin).length = l.length := by rw [List.length_pmap]
    have := Go.Proofs.AnyQ.slices_ContainsFunc Tryz.containsFuncLine 8 Tryz.isAgg59 Tryz.sizeOf59 (fun t : {x : GLine // LineB x} => lineC t.1) (fun _ => rfl) (fun t => !lnMay t.1) 138 #[] mkNot_enters b o l.length cap (l.pmap (fun t ht => ⟨t, ht⟩) hin) w
      (fun W t hW => (mkNot33 t.1 W t.2).mono fun e w' ⟨h1, h2⟩ => ⟨h1, hW.trans (h2.mono hW.size)⟩) (by omega) (by omega) hb (fun j hj i u hv => by
      have hj' : j < l.length := by rw [hzl] at hj; omega
      rw [getElem!_pos _ j hj, List.getElem_pmap] at hv
      have h1 := line_news (hc j hj') i u hv
      rw [add_at] at h1
      exact h1)
    rw [List.take_of_length_le (by omega)] at this
    have e : ((l.pmap (fun t ht => (⟨t, ht⟩ : {x : GLine // LineB x})) hin).any fun t => !lnMay t.1) = l.any fun x => !lnMay x := by
      rw [Bool.eq_iff_iff]
      simp only [List.any_eq_true, List.mem_pmap]
      constructor
      · rintro ⟨t, ⟨a, ha, rfl⟩, h2⟩; exact ⟨a, ha, h2⟩
      · rintro ⟨a, ha, h2⟩; exact ⟨⟨a, hin a ha⟩, ⟨a, ha, rfl⟩, h2⟩
    rw [e] at this
    exact this
end Go.Proofs.YtoonkfhphbojcaaGreatDoor
