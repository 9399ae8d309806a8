/- LinkTells, for every input: the law answers true and its arguments stay. -/
import Derived.Test.YtdjgkmpjhpnkeaaGreatDoorCards
import Derived.Test.YtdjgkmpjhpnkeaaGreatDoorTie
import Derived.Test.YtdjgkmpjhpnkeaaGreatDoorBd01
import Derived.Test.YtdjgkmpjhpnkeaaGreatDoorBd38
import Derived.Test.YtdjgkmpjhpnkeaaGreatDoorBd05
namespace Go.Proofs.YtdjgkmpjhpnkeaaGreatDoor
open Go.ChangeShapes Go.WideShapes Go.ChangeAt Go.RowKit
open Go.ChangeMaps (open_string)
set_option maxRecDepth 100000 in
theorem ltells_contract (H : Type) (enc : TypeId × Value → H) (W : World) (base : Nat) (args : Array Value) (ds gs : List (DataW H)) (before : List MemPlace)
    (hval : ∀ (j : Nat) t v, Tryz.f3.params[j]? = some t → args[j]? = some v → Value.okWide Tryz.prog W .any base t v)
    (hW : DataW.Whole enc Tryz.prog Tryz.f3.params.toList Rows.linkTellsSpec.vars false W args.toList ds gs before)
    (hsz : (DataW.weightsEach Tryz.prog Tryz.f3.params.toList ds).all (· ≤ reachBytes) = true) :
    Calls Tryz.prog 3 args W fun e W' => ∃ v, e = .returned v ∧ Rows.linkTellsSpec.post enc Tryz.prog Tryz.f3 false true false false W args v W' := by
  have hW' := hW
  obtain ⟨p, q, hA0, hV, rfl, hfz, hnd⟩ := hW
  have hA : DataW.TrodAll enc Tryz.prog W 0 (fun _ => true) true Tryz.f3.params.toList args.toList ds p := hA0
  rw [Tryz.params3] at hA hval hsz
  obtain ⟨v0, v1, v2, d0, d1, d2, p0, p1, p2, rfl, rfl, rfl, h0, h1, h2⟩ := trodAll_three hA
  obtain ⟨rfl, rfl⟩ := trodVars_none hV
  have hsz' : (DataW.weightsEach Tryz.prog [9, 22, 23] [d0, d1, d2]).all (· ≤ reachBytes) = true := hsz
  clear hsz
  have hk0 := hval 0 9 v0 rfl rfl
  have hm0 := small_each hsz' 0 9 d0 rfl rfl
  have hk1 := hval 1 22 v1 rfl rfl
  have hm1 := small_each hsz' 1 22 d1 rfl rfl
  have hk2 := hval 2 23 v2 rfl rfl
  have hm2 := small_each hsz' 2 23 d2 rfl rfl
  obtain ⟨s0, rfl, rfl, rfl, ws0⟩ := open_string Tryz.underlying9 hk0 h0
  have hs0 : s0.size ≤ 140737488355328 := small_bytes hm0
  obtain ⟨a1, n1, c1, hv1⟩ := okWide_slice Tryz.underlying22 hk1
  obtain ⟨l1, hl1⟩ := open_plcs h1 ⟨a1, n1, c1, hv1⟩ hm1
  obtain ⟨a2, n2, c2, hv2⟩ := okWide_slice Tryz.underlying23 hk2
  obtain ⟨l2, hl2, hbd2⟩ := open_objsB h2 ⟨a2, n2, c2, hv2⟩ hm2
  refine (tells18_any sort_ok v2 v1 l2 l1 s0 W hl2 hbd2 hl1 hs0).mono fun e W' ⟨he, hbw⟩ => ?_
  subst he
  exact ⟨_, rfl, law_post (by kernel_rfl) rfl (by kernel_rfl) (by simpa using hW') rfl hbw⟩
theorem ltells_laid (os : Os) : laidMet Tryz.prog Rows.linkTellsRow.laid ((World.laidAll Tryz.prog os Rows.linkTellsRow.laid).forCall (fun _ _ => 0) ⟨#[], #[.string ⟨#[]⟩, .slice none 0 0, .slice none 0 0], []⟩).memory :=
  laidMet_laidAll _ (by kernel_rfl) (by kernel_rfl)
theorem ltells_reads (os : Os) {H : Type} (enc : TypeId × Value → H) : ∃ places, DataW.whole enc Tryz.prog ((World.laidAll Tryz.prog os Rows.linkTellsRow.laid).forCall (fun _ _ => 0) ⟨#[], #[.string ⟨#[]⟩, .slice none 0 0, .slice none 0 0], []⟩).memory Tryz.f3.params.toList Rows.linkTellsSpec.vars false (#[.string ⟨#[]⟩, .slice none 0 0, .slice none 0 0] : Array Value).toList 8 = some ([.lit (.string []), .nil, .nil], [], places) :=
  ⟨[], by kernel_rfl⟩
set_option maxRecDepth 100000 in
theorem ltells_lifted (os : Os) (started : os.Started) (H : Type) (enc : TypeId × Value → H) (F : Stop.Interp) :
    ReturnsInHanded {} Tryz.checked os 3 .any ((OpenSpec.ofChange Rows.linkTellsSpec).preRow enc Tryz.prog Tryz.f3 Rows.linkTellsRow.domain false Rows.linkTellsRow.laid) (((OpenSpec.ofChange Rows.linkTellsSpec).at F).post enc Tryz.prog Tryz.f3 false true false false) := by
  obtain ⟨places, hx⟩ := ltells_reads os enc
  refine returnsInHanded_of_row (C := Tryz.checked) (s := OpenSpec.ofChange Rows.linkTellsSpec) own started (by kernel_rfl) Tryz.func3
    (witness_row_at (enc := enc) (C := Tryz.checked) false (World.laidAll Tryz.prog os Rows.linkTellsRow.laid) #[.string ⟨#[]⟩, .slice none 0 0, .slice none 0 0] (World.laidAll_os _ _ _) (by kernel_rfl) (by kernel_rfl) (by kernel_rfl)
      (OpenSpec.preRow_of_cond 8 hx (by kernel_rfl) (fun k hk => by cases hk) (by kernel_rfl) (ltells_laid os))) ?_
  intro W base args ds gs before hval hW _ _ hsz _ _ _
  have hV := hW
  obtain ⟨_, _, _, hV, _⟩ := hV
  obtain ⟨rfl, rfl⟩ := trodVars_none hV
  exact ltells_contract H enc W base args ds [] before hval hW (by
    have h2 := hsz
    rw [show (OpenSpec.ofChange Rows.linkTellsSpec).bare.plain.varTypes Tryz.checked.prog = [] from rfl, List.append_nil, List.append_nil] at h2
    exact h2)
theorem ltells_j1 : (Rows.linkTellsRow.wf (OpenSpec.ofChange (OpenSpec.ofChange Rows.linkTellsSpec).bare)) = true := by kernel_rfl
theorem ltells_j4 : (Tryz.f3.params.all (Tryz.prog.readableRec ·) && namedTie Tryz.prog Rows.linkTellsRow.named (OpenSpec.ofChange Rows.linkTellsSpec).bare.vars) = true := by kernel_rfl
theorem ltells_j5 : ((Rows.linkTellsRow.stops == []) && (Tryz.prog.stops == []) && (Rows.linkTellsRow.knobs == []) && (Tryz.prog.stopKnobs == [])) = true := by kernel_rfl
theorem ltells_j6 : (Rows.linkTellsRow.inPlace == Tryz.prog.inPlace 3) = true := by kernel_rfl
theorem ltells_j7 : (Rows.linkTellsRow.unfollowed == Tryz.prog.unfollowed 3) = true := by kernel_rfl
theorem ltells_j8 : (Rows.linkTellsRow.recurses == Tryz.prog.recurses 3) = true := by kernel_rfl
theorem ltells_j9 : (Rows.linkTellsRow.named == Tryz.prog.varsNamed 3) = true := by kernel_rfl
theorem ltells_j10 : ((Rows.linkTellsRow.maps == (Tryz.f3.params.toList ++ (OpenSpec.ofChange Rows.linkTellsSpec).bare.plain.varTypes Tryz.prog).any (Tryz.prog.mapsRec ·)) && (Rows.linkTellsRow.ifaces == (Tryz.f3.params.toList ++ (OpenSpec.ofChange Rows.linkTellsSpec).bare.plain.varTypes Tryz.prog).any (Tryz.prog.ifacesRec ·)) && (Rows.linkTellsRow.mapsOut == Tryz.prog.mapsAmong Tryz.f3.resultTypes.toList)) = true := by kernel_rfl
theorem ltells_j11 : ((Rows.linkTellsRow.loops == (Tryz.f3.params.toList ++ (OpenSpec.ofChange Rows.linkTellsSpec).bare.plain.varTypes Tryz.prog).any (Tryz.prog.loopsFrom ·)) && (Rows.linkTellsRow.wideKeys == (Tryz.f3.params.toList ++ (OpenSpec.ofChange Rows.linkTellsSpec).bare.plain.varTypes Tryz.prog ++ Tryz.f3.resultTypes.toList).any (Tryz.prog.wideKeysFrom ·))) = true := by kernel_rfl
theorem ltells_j12 : ((OpenSpec.ofChange Rows.linkTellsSpec).bare.vars.all (Tryz.prog.varReadable ·) && Tryz.f3.resultTypes.all (fun t => Tryz.prog.readableRec t && decide (t < Tryz.prog.types.size)) && (Rows.linkTellsRow.ifacesOut == Tryz.f3.resultTypes.toList.any (Tryz.prog.ifacesRec ·)) && (Rows.linkTellsRow.loopsOut == Tryz.f3.resultTypes.toList.any (Tryz.prog.loopsFrom ·))) = true := by kernel_rfl
theorem ltells_j13 : (Rows.linkTellsRow.plainKeys == Tryz.prog.plainKeys) = true := by kernel_rfl
theorem ltells_j14 : Rows.linkTellsRow.shortTexts.isNone = true := by kernel_rfl
theorem ltells_j17 : (Rows.linkTellsRow.lifted == Tryz.prog.liftsFinal) = true := by kernel_rfl
theorem ltells_j18 : (Tryz.prog.make == some Rows.linkTellsRow.make) = true := by kernel_rfl
theorem ltells_j19 : (Rows.linkTellsRow.kinds == (if Rows.linkTellsRow.domain.isEmpty then [] else Tryz.f3.params.toList.map fun t => match Tryz.prog.underlying t with | some (.int k) => some k | _ => none)) = true := by kernel_rfl
theorem ltells_j20 : (Rows.linkTellsRow.pinned == Rows.linkTellsRow.pinnedBy) = true := by kernel_rfl
theorem ltells_j21 : (Rows.linkTellsRow.veiled == (Tryz.f3.params.toList ++ (OpenSpec.ofChange Rows.linkTellsSpec).bare.plain.varTypes Tryz.prog ++ Tryz.f3.resultTypes.toList).any (Tryz.prog.veiledRec ·)) = true := by kernel_rfl
theorem ltells_j22 : (Rows.linkTellsRow.veiledFits Tryz.prog Tryz.f3.params.toList (Tryz.f3.params.toList ++ (OpenSpec.ofChange Rows.linkTellsSpec).bare.plain.varTypes Tryz.prog ++ Tryz.f3.resultTypes.toList)) = true := by kernel_rfl
set_option maxRecDepth 100000 in
theorem ltells_closed : joinedFacts Tryz.prog 3 Tryz.f3 (OpenSpec.ofChange Rows.linkTellsSpec).bare Rows.linkTellsRow = true := joined_split ltells_j1 laidOut jp_maps ltells_j4 ltells_j5 ltells_j6 ltells_j7 ltells_j8 ltells_j9 ltells_j10 ltells_j11 ltells_j12 ltells_j13 ltells_j14 jp_heard jp_enter ltells_j17 ltells_j18 ltells_j19 ltells_j20 ltells_j21 ltells_j22
theorem ltells_said : Rows.LinkTellsSaid :=
  OpenClaim.holds_of_cond 3 Tryz.f3 rfl rfl rfl rfl rfl rfl rfl ⟨rfl, rfl, rfl, rfl, rfl⟩ rfl rfl rfl rfl rfl (by kernel_rfl) Tryz.func3 ltells_closed
    (of_decide_eq_true (by kernel_rfl)) (by unfold Func.isWrapper; first | (rw [if_pos (by decide +kernel)]; kernel_rfl) | (rw [if_neg (by decide +kernel)]; exact ⟨rfl, rfl⟩))
    (fun os started H enc _ F => by rw [OpenClaim.pre_eq_preRow]; exact ltells_lifted os started H enc F)
theorem ltells_plain (f : FuncId) (fn : Func) (hf : Tryz.pinned.checked.prog.funcNamed Rows.linkTellsRow.func = some f) (hfn : Tryz.pinned.checked.prog.funcs[f]? = some fn) :
    false = Tryz.pinned.checked.prog.looks [] ∧ ∀ (j : Nat) t, fn.params[j]? = some t → Tryz.pinned.checked.prog.wantsStandIn t = false := by
  obtain rfl : f = 3 := Option.some.inj ((show Tryz.prog.funcNamed Rows.linkTellsRow.func = some 3 by kernel_rfl).symm.trans hf) |>.symm
  obtain rfl : fn = Tryz.f3 := (Option.some.inj (Tryz.func3.symm.trans hfn)).symm
  refine ⟨by kernel_rfl, fun j t ht => ?_⟩
  rw [Tryz.params3] at ht
  have hm : t ∈ [9, 22, 23] := by simpa using Array.mem_of_getElem? ht
  have hall : ([9, 22, 23].all fun u => !Tryz.prog.wantsStandIn u) = true := by kernel_rfl
  exact (show Tryz.prog.wantsStandIn t = false by simpa using List.all_eq_true.1 hall t hm)
theorem linkTells_card : Rows.LinkTellsCardSaid :=
  Claim7.holds_tied_plain_at .later [] _ _ _ _ ltells_said (fun _ h => by cases h) (by kernel_rfl) (fun _ h => by cases h) linkTells_row_tie rfl ⟨rfl, rfl⟩ (by kernel_rfl) rfl ltells_plain (by kernel_rfl)
end Go.Proofs.YtdjgkmpjhpnkeaaGreatDoor
