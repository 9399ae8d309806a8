/- LayTells, for every input: the law answers true and its arguments stay. -/
import Derived.Test.YteekdjlpfgkgjaaDoorCards
import Derived.Test.YteekdjlpfgkgjaaDoorTie
import Derived.Test.YteekdjlpfgkgjaaDoorLaw
import Derived.Test.YteekdjlpfgkgjaaDoorWLayTells
import Derived.Test.YteekdjlpfgkgjaaDoorOpenAddrs
namespace Go.Proofs.YteekdjlpfgkgjaaDoor
open Go.ChangeShapes Go.WideShapes Go.ChangeAt Go.RowKit
open Go.ChangeMaps (open_string)
set_option maxRecDepth 100000 in
theorem laytells_contract (H : Type) (enc : TypeId × Value → H) (W : World) (base : Nat) (args : Array Value) (ds gs : List (DataW H)) (before : List MemPlace)
    (hval : ∀ (j : Nat) t v, Tryd.f3.params[j]? = some t → args[j]? = some v → Value.okWide Tryd.prog W .any base t v)
    (hW : DataW.Whole enc Tryd.prog Tryd.f3.params.toList Rows.layTellsSpec.vars false W args.toList ds gs before)
    (hsz : (DataW.weightsEach Tryd.prog Tryd.f3.params.toList ds).all (· ≤ reachBytes) = true) :
    Calls Tryd.prog 3 args W fun e W' => ∃ v, e = .returned v ∧ Rows.layTellsSpec.post enc Tryd.prog Tryd.f3 false true false false W args v W' := by
  have hW' := hW
  obtain ⟨p, q, hA0, hV, rfl, hfz, hnd⟩ := hW
  have hA : DataW.TrodAll enc Tryd.prog W 0 (fun _ => true) true Tryd.f3.params.toList args.toList ds p := hA0
  rw [Tryd.params3] at hA hval hsz
  obtain ⟨v0, v1, v2, v3, v4, d0, d1, d2, d3, d4, p0, p1, p2, p3, p4, rfl, rfl, rfl, h0, h1, h2, h3, h4⟩ := trodAll_5 hA
  obtain ⟨rfl, rfl⟩ := trodVars_none hV
  have hsz' : (DataW.weightsEach Tryd.prog [22, 23, 24, 26, 27] [d0, d1, d2, d3, d4]).all (· ≤ reachBytes) = true := hsz
  clear hsz
  have hk0 := hval 0 22 v0 rfl rfl
  have hm0 := small_each hsz' 0 22 d0 rfl rfl
  have hk1 := hval 1 23 v1 rfl rfl
  have hm1 := small_each hsz' 1 23 d1 rfl rfl
  have hk2 := hval 2 24 v2 rfl rfl
  have hm2 := small_each hsz' 2 24 d2 rfl rfl
  have hk3 := hval 3 26 v3 rfl rfl
  have hm3 := small_each hsz' 3 26 d3 rfl rfl
  have hk4 := hval 4 27 v4 rfl rfl
  have hm4 := small_each hsz' 4 27 d4 rfl rfl
  obtain ⟨a0, n0, c0, hv0⟩ := okWide_slice Tryd.underlying22 hk0
  obtain ⟨l0, hl0, hbd0⟩ := open_objsB h0 ⟨a0, n0, c0, hv0⟩ hm0
  obtain ⟨a1, n1, c1, hv1⟩ := okWide_slice Tryd.underlying23 hk1
  obtain ⟨l1, hl1⟩ := open_plcs h1 ⟨a1, n1, c1, hv1⟩ hm1
  obtain ⟨a2, n2, c2, hv2⟩ := okWide_slice Tryd.underlying24 hk2
  obtain ⟨l2, hl2⟩ := open_addrs h2 ⟨a2, n2, c2, hv2⟩ hm2
  obtain ⟨x3, y3, rfl⟩ := open_place hk3 h3
  obtain ⟨x4, rfl, rfl, rfl, wf4⟩ := open_int Tryd.underlying27 hk4 h4
  have hb4 := bounds_u32 wf4
  refine (layTells_any _ _ _ l0 l1 l2 x3 y3 x4 W hl0 hbd0 hl1 hl2 hb4.1 hb4.2).mono fun e W' ⟨he, hbw⟩ => ?_
  subst he
  exact ⟨_, rfl, law_post (by kernel_rfl) rfl (by kernel_rfl) (by simpa using hW') rfl hbw⟩
theorem laytells_laid (os : Os) : laidMet Tryd.prog Rows.layTellsRow.laid ((World.laidAll Tryd.prog os Rows.layTellsRow.laid).forCall (fun _ _ => 0) ⟨#[], #[.slice none 0 0, .slice none 0 0, .slice none 0 0, .agg #[.int .i64 0, .int .i64 0], .int .u32 0], []⟩).memory :=
  laidMet_laidAll _ (by kernel_rfl) (by kernel_rfl)
theorem laytells_reads (os : Os) {H : Type} (enc : TypeId × Value → H) : ∃ places, DataW.whole enc Tryd.prog ((World.laidAll Tryd.prog os Rows.layTellsRow.laid).forCall (fun _ _ => 0) ⟨#[], #[.slice none 0 0, .slice none 0 0, .slice none 0 0, .agg #[.int .i64 0, .int .i64 0], .int .u32 0], []⟩).memory Tryd.f3.params.toList Rows.layTellsSpec.vars false (#[.slice none 0 0, .slice none 0 0, .slice none 0 0, .agg #[.int .i64 0, .int .i64 0], .int .u32 0] : Array Value).toList 8 = some ([.nil, .nil, .nil, .agg [.lit (.int .i64 0), .lit (.int .i64 0)], .lit (.int .u32 0)], [], places) :=
  ⟨[], by kernel_rfl⟩
set_option maxRecDepth 100000 in
theorem laytells_lifted (os : Os) (started : os.Started) (H : Type) (enc : TypeId × Value → H) (F : Stop.Interp) :
    ReturnsInHanded {} Tryd.checked os 3 .any ((OpenSpec.ofChange Rows.layTellsSpec).preRow enc Tryd.prog Tryd.f3 Rows.layTellsRow.domain false Rows.layTellsRow.laid) (((OpenSpec.ofChange Rows.layTellsSpec).at F).post enc Tryd.prog Tryd.f3 false true false false) := by
  obtain ⟨places, hx⟩ := laytells_reads os enc
  refine returnsInHanded_of_row (C := Tryd.checked) (s := OpenSpec.ofChange Rows.layTellsSpec) own started (by kernel_rfl) Tryd.func3
    (witness_row_at (enc := enc) (C := Tryd.checked) false (World.laidAll Tryd.prog os Rows.layTellsRow.laid) #[.slice none 0 0, .slice none 0 0, .slice none 0 0, .agg #[.int .i64 0, .int .i64 0], .int .u32 0] (World.laidAll_os _ _ _) (by kernel_rfl) (by kernel_rfl) (by kernel_rfl)
      (OpenSpec.preRow_of_cond 8 hx (by kernel_rfl) (fun k hk => by cases hk) (by kernel_rfl) (laytells_laid os))) ?_
  intro W base args ds gs before hval hW _ _ hsz _ _ _
  have hV := hW
  obtain ⟨_, _, _, hV, _⟩ := hV
  obtain ⟨rfl, rfl⟩ := trodVars_none hV
  exact laytells_contract H enc W base args ds [] before hval hW (by
    have h2 := hsz
    rw [show (OpenSpec.ofChange Rows.layTellsSpec).bare.plain.varTypes Tryd.checked.prog = [] from rfl, List.append_nil, List.append_nil] at h2
    exact h2)
theorem laytells_said : Rows.LayTellsSaid :=
  OpenClaim.holds_of_cond 3 Tryd.f3 rfl rfl rfl rfl rfl rfl rfl ⟨rfl, rfl, rfl, rfl, rfl⟩ rfl rfl rfl rfl rfl (by kernel_rfl) Tryd.func3 (by kernel_rfl)
    (of_decide_eq_true (by kernel_rfl)) (by unfold Func.isWrapper; first | (rw [if_pos (by decide +kernel)]; kernel_rfl) | (rw [if_neg (by decide +kernel)]; exact ⟨rfl, rfl⟩))
    (fun os started H enc _ F => by rw [OpenClaim.pre_eq_preRow]; exact laytells_lifted os started H enc F)
theorem laytells_plain (f : FuncId) (fn : Func) (hf : Tryd.pinned.checked.prog.funcNamed Rows.layTellsRow.func = some f) (hfn : Tryd.pinned.checked.prog.funcs[f]? = some fn) :
    false = Tryd.pinned.checked.prog.looks [] ∧ ∀ (j : Nat) t, fn.params[j]? = some t → Tryd.pinned.checked.prog.wantsStandIn t = false := by
  obtain rfl : f = 3 := Option.some.inj ((show Tryd.prog.funcNamed Rows.layTellsRow.func = some 3 by kernel_rfl).symm.trans hf) |>.symm
  obtain rfl : fn = Tryd.f3 := (Option.some.inj (Tryd.func3.symm.trans hfn)).symm
  refine ⟨by kernel_rfl, fun j t ht => ?_⟩
  rw [Tryd.params3] at ht
  have hm : t ∈ [22, 23, 24, 26, 27] := by simpa using Array.mem_of_getElem? ht
  have hall : ([22, 23, 24, 26, 27].all fun u => !Tryd.prog.wantsStandIn u) = true := by kernel_rfl
  exact (show Tryd.prog.wantsStandIn t = false by simpa using List.all_eq_true.1 hall t hm)
theorem layTells_card : Rows.LayTellsCardSaid :=
  Claim7.holds_tied_plain_at .later [] _ _ _ _ laytells_said (fun _ h => by cases h) (by kernel_rfl) (fun _ h => by cases h) layTells_row_tie rfl ⟨rfl, rfl⟩ (by kernel_rfl) rfl laytells_plain (by kernel_rfl)
end Go.Proofs.YteekdjlpfgkgjaaDoor
