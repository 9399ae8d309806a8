/- ObjfileBack, for every input: the law answers true and its arguments stay. -/
import Derived.Test.YtfmmfbijkklceaaDoorCards
import Derived.Test.YtfmmfbijkklceaaDoorTie
import Derived.Test.YtfmmfbijkklceaaDoorLaw
import Derived.Test.YtfmmfbijkklceaaDoorLawObj
import Derived.Test.YtfmmfbijkklceaaDoorWBack
namespace Go.Proofs.YtfmmfbijkklceaaDoor
open Go.ChangeShapes Go.WideShapes Go.ChangeAt Go.RowKit
open Go.ChangeMaps (open_string)
set_option maxRecDepth 100000 in
theorem backL_contract (H : Type) (enc : TypeId × Value → H) (W : World) (base : Nat) (args : Array Value) (ds gs : List (DataW H)) (before : List MemPlace)
    (hval : ∀ (j : Nat) t v, Tryd.f5.params[j]? = some t → args[j]? = some v → Value.okWide Tryd.prog W .any base t v)
    (hW : DataW.Whole enc Tryd.prog Tryd.f5.params.toList Rows.objfileBackSpec.vars false W args.toList ds gs before)
    (hsz : (DataW.weightsEach Tryd.prog Tryd.f5.params.toList ds).all (· ≤ reachBytes) = true) :
    Calls Tryd.prog 5 args W fun e W' => ∃ v, e = .returned v ∧ Rows.objfileBackSpec.post enc Tryd.prog Tryd.f5 false true false false W args v W' := by
  have hW' := hW
  obtain ⟨p, q, hA0, hV, rfl, hfz, hnd⟩ := hW
  have hA : DataW.TrodAll enc Tryd.prog W 0 (fun _ => true) true Tryd.f5.params.toList args.toList ds p := hA0
  rw [Tryd.params5] at hA hval hsz
  obtain ⟨v0, v1, v2, d0, d1, d2, p0, p1, p2, rfl, rfl, rfl, h0, h1, h2⟩ := trodAll_three hA
  obtain ⟨rfl, rfl⟩ := trodVars_none hV
  have hsz' : (DataW.weightsEach Tryd.prog [24, 24, 9] [d0, d1, d2]).all (· ≤ reachBytes) = true := hsz
  clear hsz
  have hk0 := hval 0 24 v0 rfl rfl
  have hm0 := small_each hsz' 0 24 d0 rfl rfl
  have hk1 := hval 1 24 v1 rfl rfl
  have hm1 := small_each hsz' 1 24 d1 rfl rfl
  have hk2 := hval 2 9 v2 rfl rfl
  have hm2 := small_each hsz' 2 9 d2 rfl rfl
  obtain ⟨o0, r0, rfl, hin0, hbd0⟩ := open_objV hk0 h0 hm0
  obtain ⟨o1, r1, rfl, hin1, hbd1⟩ := open_objV hk1 h1 hm1
  obtain ⟨s2, rfl, rfl, rfl, ws2⟩ := open_string Tryd.underlying9 hk2 h2
  have hs2 : s2.size ≤ 140737488355328 := small_bytes hm2
  refine (back_any o0 o1 r0 r1 s2 W hin0 hbd0 hin1 hbd1 hs2).mono fun e W' ⟨he, hbw⟩ => ?_
  subst he
  exact ⟨_, rfl, law_post (by kernel_rfl) rfl (by kernel_rfl) (by simpa using hW') rfl hbw⟩
theorem backL_laid (os : Os) : laidMet Tryd.prog Rows.objfileBackRow.laid ((World.laidAll Tryd.prog os Rows.objfileBackRow.laid).forCall (fun _ _ => 0) ⟨#[], #[.agg #[.string ⟨#[]⟩, .slice none 0 0], .agg #[.string ⟨#[]⟩, .slice none 0 0], .string ⟨#[]⟩], []⟩).memory :=
  laidMet_laidAll _ (by kernel_rfl) (by kernel_rfl)
theorem backL_reads (os : Os) {H : Type} (enc : TypeId × Value → H) : ∃ places, DataW.whole enc Tryd.prog ((World.laidAll Tryd.prog os Rows.objfileBackRow.laid).forCall (fun _ _ => 0) ⟨#[], #[.agg #[.string ⟨#[]⟩, .slice none 0 0], .agg #[.string ⟨#[]⟩, .slice none 0 0], .string ⟨#[]⟩], []⟩).memory Tryd.f5.params.toList Rows.objfileBackSpec.vars false (#[.agg #[.string ⟨#[]⟩, .slice none 0 0], .agg #[.string ⟨#[]⟩, .slice none 0 0], .string ⟨#[]⟩] : Array Value).toList 8 = some ([.agg [.lit (.string []), .nil], .agg [.lit (.string []), .nil], .lit (.string [])], [], places) :=
  ⟨[], by kernel_rfl⟩
set_option maxRecDepth 100000 in
theorem backL_lifted (os : Os) (started : os.Started) (H : Type) (enc : TypeId × Value → H) (F : Stop.Interp) :
    ReturnsInHanded {} Tryd.checked os 5 .any ((OpenSpec.ofChange Rows.objfileBackSpec).preRow enc Tryd.prog Tryd.f5 Rows.objfileBackRow.domain false Rows.objfileBackRow.laid) (((OpenSpec.ofChange Rows.objfileBackSpec).at F).post enc Tryd.prog Tryd.f5 false true false false) := by
  obtain ⟨places, hx⟩ := backL_reads os enc
  refine returnsInHanded_of_row (C := Tryd.checked) (s := OpenSpec.ofChange Rows.objfileBackSpec) own started (by kernel_rfl) Tryd.func5
    (witness_row_at (enc := enc) (C := Tryd.checked) false (World.laidAll Tryd.prog os Rows.objfileBackRow.laid) #[.agg #[.string ⟨#[]⟩, .slice none 0 0], .agg #[.string ⟨#[]⟩, .slice none 0 0], .string ⟨#[]⟩] (World.laidAll_os _ _ _) (by kernel_rfl) (by kernel_rfl) (by kernel_rfl)
      (OpenSpec.preRow_of_cond 8 hx (by kernel_rfl) (fun k hk => by cases hk) (by kernel_rfl) (backL_laid os))) ?_
  intro W base args ds gs before hval hW _ _ hsz _ _ _
  have hV := hW
  obtain ⟨_, _, _, hV, _⟩ := hV
  obtain ⟨rfl, rfl⟩ := trodVars_none hV
  exact backL_contract H enc W base args ds [] before hval hW (by
    have h2 := hsz
    rw [show (OpenSpec.ofChange Rows.objfileBackSpec).bare.plain.varTypes Tryd.checked.prog = [] from rfl, List.append_nil, List.append_nil] at h2
    exact h2)
theorem backL_said : Rows.ObjfileBackSaid :=
  OpenClaim.holds_of_cond 5 Tryd.f5 rfl rfl rfl rfl rfl rfl rfl ⟨rfl, rfl, rfl, rfl, rfl⟩ rfl rfl rfl rfl rfl (by kernel_rfl) Tryd.func5 (by kernel_rfl)
    (of_decide_eq_true (by kernel_rfl)) (by unfold Func.isWrapper; first | (rw [if_pos (by decide +kernel)]; kernel_rfl) | (rw [if_neg (by decide +kernel)]; exact ⟨rfl, rfl⟩))
    (fun os started H enc _ F => by rw [OpenClaim.pre_eq_preRow]; exact backL_lifted os started H enc F)
theorem backL_plain (f : FuncId) (fn : Func) (hf : Tryd.pinned.checked.prog.funcNamed Rows.objfileBackRow.func = some f) (hfn : Tryd.pinned.checked.prog.funcs[f]? = some fn) :
    false = Tryd.pinned.checked.prog.looks [] ∧ ∀ (j : Nat) t, fn.params[j]? = some t → Tryd.pinned.checked.prog.wantsStandIn t = false := by
  obtain rfl : f = 5 := Option.some.inj ((show Tryd.prog.funcNamed Rows.objfileBackRow.func = some 5 by kernel_rfl).symm.trans hf) |>.symm
  obtain rfl : fn = Tryd.f5 := (Option.some.inj (Tryd.func5.symm.trans hfn)).symm
  refine ⟨by kernel_rfl, fun j t ht => ?_⟩
  rw [Tryd.params5] at ht
  have hm : t ∈ [24, 24, 9] := by simpa using Array.mem_of_getElem? ht
  have hall : ([24, 24, 9].all fun u => !Tryd.prog.wantsStandIn u) = true := by kernel_rfl
  exact (show Tryd.prog.wantsStandIn t = false by simpa using List.all_eq_true.1 hall t hm)
theorem objfileBack_card : Rows.ObjfileBackCardSaid :=
  Claim7.holds_tied_plain_at .later [] _ _ _ _ backL_said (fun _ h => by cases h) (by kernel_rfl) (fun _ h => by cases h) objfileBack_row_tie rfl ⟨rfl, rfl⟩ (by kernel_rfl) rfl backL_plain (by kernel_rfl)
end Go.Proofs.YtfmmfbijkklceaaDoor
