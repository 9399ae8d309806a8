/- ArchiveNeeds, for every input: the law answers true and its arguments stay. -/
import Derived.Test.YtboegjdkedjhcaaGreatDoorCards
import Derived.Test.YtboegjdkedjhcaaGreatDoorTie
import Derived.Test.YtboegjdkedjhcaaGreatDoorBd01
import Derived.Test.YtboegjdkedjhcaaGreatDoorBd47
import Derived.Test.YtboegjdkedjhcaaGreatDoorBd16
import Derived.Test.YtboegjdkedjhcaaGreatDoorBd36
namespace Go.Proofs.YtboegjdkedjhcaaGreatDoor
open Go.ChangeShapes Go.WideShapes Go.ChangeAt Go.RowKit
open Go.ChangeMaps (open_string)
set_option maxRecDepth 100000 in
theorem arcNeeds_contract (H : Type) (enc : TypeId × Value → H) (W : World) (base : Nat) (args : Array Value) (ds gs : List (DataW H)) (before : List MemPlace)
    (hval : ∀ (j : Nat) t v, Tryz.f5.params[j]? = some t → args[j]? = some v → Value.okWide Tryz.prog W .any base t v)
    (hW : DataW.Whole enc Tryz.prog Tryz.f5.params.toList Rows.archiveNeedsSpec.vars false W args.toList ds gs before)
    (hsz : (DataW.weightsEach Tryz.prog Tryz.f5.params.toList ds).all (· ≤ reachBytes) = true) :
    Calls Tryz.prog 5 args W fun e W' => ∃ v, e = .returned v ∧ Rows.archiveNeedsSpec.post enc Tryz.prog Tryz.f5 false true false false W args v W' := by
  have hW' := hW
  obtain ⟨p, q, hA0, hV, rfl, hfz, hnd⟩ := hW
  have hA : DataW.TrodAll enc Tryz.prog W 0 (fun _ => true) true Tryz.f5.params.toList args.toList ds p := hA0
  rw [Tryz.params5] at hA hval hsz
  obtain ⟨v0, v1, v2, d0, d1, d2, p0, p1, p2, rfl, rfl, rfl, h0, h1, h2⟩ := trodAll_three hA
  obtain ⟨rfl, rfl⟩ := trodVars_none hV
  have hsz' : (DataW.weightsEach Tryz.prog [9, 22, 26] [d0, d1, d2]).all (· ≤ reachBytes) = true := hsz
  clear hsz
  have hk0 := hval 0 9 v0 rfl rfl
  have hm0 := small_each hsz' 0 9 d0 rfl rfl
  have hk1 := hval 1 22 v1 rfl rfl
  have hm1 := small_each hsz' 1 22 d1 rfl rfl
  have hk2 := hval 2 26 v2 rfl rfl
  have hm2 := small_each hsz' 2 26 d2 rfl rfl
  obtain ⟨s0, rfl, rfl, rfl, ws0⟩ := open_string Tryz.underlying9 hk0 h0
  have hs0 : s0.size ≤ 140737488355328 := small_bytes hm0
  obtain ⟨a1, n1, c1, hv1⟩ := okWide_slice Tryz.underlying22 hk1
  obtain ⟨l1, hl1, hbd1⟩ := open_objsB h1 ⟨a1, n1, c1, hv1⟩ hm1
  obtain ⟨a2, n2, c2, hv2⟩ := okWide_slice Tryz.underlying26 hk2
  obtain ⟨l2, hl2⟩ := open_arcs h2 ⟨a2, n2, c2, hv2⟩ hm2
  refine (arcNeeds_any sort_ok s0 v1 l1 v2 l2 W hl1 hl2 hs0).mono fun e W' ⟨he, hbw⟩ => ?_
  subst he
  exact ⟨_, rfl, law_post (by kernel_rfl) rfl (by kernel_rfl) (by simpa using hW') rfl hbw⟩
theorem arcNeeds_laid (os : Os) : laidMet Tryz.prog Rows.archiveNeedsRow.laid ((World.laidAll Tryz.prog os Rows.archiveNeedsRow.laid).forCall (fun _ _ => 0) ⟨#[], #[.string ⟨#[]⟩, .slice none 0 0, .slice none 0 0], []⟩).memory :=
  laidMet_laidAll _ (by kernel_rfl) (by kernel_rfl)
theorem arcNeeds_reads (os : Os) {H : Type} (enc : TypeId × Value → H) : ∃ places, DataW.whole enc Tryz.prog ((World.laidAll Tryz.prog os Rows.archiveNeedsRow.laid).forCall (fun _ _ => 0) ⟨#[], #[.string ⟨#[]⟩, .slice none 0 0, .slice none 0 0], []⟩).memory Tryz.f5.params.toList Rows.archiveNeedsSpec.vars false (#[.string ⟨#[]⟩, .slice none 0 0, .slice none 0 0] : Array Value).toList 8 = some ([.lit (.string []), .nil, .nil], [], places) :=
  ⟨[], by kernel_rfl⟩
set_option maxRecDepth 100000 in
theorem arcNeeds_lifted (os : Os) (started : os.Started) (H : Type) (enc : TypeId × Value → H) (F : Stop.Interp) :
    ReturnsInHanded {} Tryz.checked os 5 .any ((OpenSpec.ofChange Rows.archiveNeedsSpec).preRow enc Tryz.prog Tryz.f5 Rows.archiveNeedsRow.domain false Rows.archiveNeedsRow.laid) (((OpenSpec.ofChange Rows.archiveNeedsSpec).at F).post enc Tryz.prog Tryz.f5 false true false false) := by
  obtain ⟨places, hx⟩ := arcNeeds_reads os enc
  refine returnsInHanded_of_row (C := Tryz.checked) (s := OpenSpec.ofChange Rows.archiveNeedsSpec) own started (by kernel_rfl) Tryz.func5
    (witness_row_at (enc := enc) (C := Tryz.checked) false (World.laidAll Tryz.prog os Rows.archiveNeedsRow.laid) #[.string ⟨#[]⟩, .slice none 0 0, .slice none 0 0] (World.laidAll_os _ _ _) (by kernel_rfl) (by kernel_rfl) (by kernel_rfl)
      (OpenSpec.preRow_of_cond 8 hx (by kernel_rfl) (fun k hk => by cases hk) (by kernel_rfl) (arcNeeds_laid os))) ?_
  intro W base args ds gs before hval hW _ _ hsz _ _ _
  have hV := hW
  obtain ⟨_, _, _, hV, _⟩ := hV
  obtain ⟨rfl, rfl⟩ := trodVars_none hV
  exact arcNeeds_contract H enc W base args ds [] before hval hW (by
    have h2 := hsz
    rw [show (OpenSpec.ofChange Rows.archiveNeedsSpec).bare.plain.varTypes Tryz.checked.prog = [] from rfl, List.append_nil, List.append_nil] at h2
    exact h2)
theorem arcNeeds_j1 : (Rows.archiveNeedsRow.wf (OpenSpec.ofChange (OpenSpec.ofChange Rows.archiveNeedsSpec).bare)) = true := by kernel_rfl
theorem arcNeeds_j4 : (Tryz.f5.params.all (Tryz.prog.readableRec ·) && namedTie Tryz.prog Rows.archiveNeedsRow.named (OpenSpec.ofChange Rows.archiveNeedsSpec).bare.vars) = true := by kernel_rfl
theorem arcNeeds_j5 : ((Rows.archiveNeedsRow.stops == []) && (Tryz.prog.stops == []) && (Rows.archiveNeedsRow.knobs == []) && (Tryz.prog.stopKnobs == [])) = true := by kernel_rfl
theorem arcNeeds_j6 : (Rows.archiveNeedsRow.inPlace == Tryz.prog.inPlace 5) = true := by kernel_rfl
theorem arcNeeds_j7 : (Rows.archiveNeedsRow.unfollowed == Tryz.prog.unfollowed 5) = true := by kernel_rfl
theorem arcNeeds_j8 : (Rows.archiveNeedsRow.recurses == Tryz.prog.recurses 5) = true := by kernel_rfl
theorem arcNeeds_j9 : (Rows.archiveNeedsRow.named == Tryz.prog.varsNamed 5) = true := by kernel_rfl
theorem arcNeeds_j10 : ((Rows.archiveNeedsRow.maps == (Tryz.f5.params.toList ++ (OpenSpec.ofChange Rows.archiveNeedsSpec).bare.plain.varTypes Tryz.prog).any (Tryz.prog.mapsRec ·)) && (Rows.archiveNeedsRow.ifaces == (Tryz.f5.params.toList ++ (OpenSpec.ofChange Rows.archiveNeedsSpec).bare.plain.varTypes Tryz.prog).any (Tryz.prog.ifacesRec ·)) && (Rows.archiveNeedsRow.mapsOut == Tryz.prog.mapsAmong Tryz.f5.resultTypes.toList)) = true := by kernel_rfl
theorem arcNeeds_j11 : ((Rows.archiveNeedsRow.loops == (Tryz.f5.params.toList ++ (OpenSpec.ofChange Rows.archiveNeedsSpec).bare.plain.varTypes Tryz.prog).any (Tryz.prog.loopsFrom ·)) && (Rows.archiveNeedsRow.wideKeys == (Tryz.f5.params.toList ++ (OpenSpec.ofChange Rows.archiveNeedsSpec).bare.plain.varTypes Tryz.prog ++ Tryz.f5.resultTypes.toList).any (Tryz.prog.wideKeysFrom ·))) = true := by kernel_rfl
theorem arcNeeds_j12 : ((OpenSpec.ofChange Rows.archiveNeedsSpec).bare.vars.all (Tryz.prog.varReadable ·) && Tryz.f5.resultTypes.all (fun t => Tryz.prog.readableRec t && decide (t < Tryz.prog.types.size)) && (Rows.archiveNeedsRow.ifacesOut == Tryz.f5.resultTypes.toList.any (Tryz.prog.ifacesRec ·)) && (Rows.archiveNeedsRow.loopsOut == Tryz.f5.resultTypes.toList.any (Tryz.prog.loopsFrom ·))) = true := by kernel_rfl
theorem arcNeeds_j13 : (Rows.archiveNeedsRow.plainKeys == Tryz.prog.plainKeys) = true := by kernel_rfl
theorem arcNeeds_j14 : Rows.archiveNeedsRow.shortTexts.isNone = true := by kernel_rfl
theorem arcNeeds_j17 : (Rows.archiveNeedsRow.lifted == Tryz.prog.liftsFinal) = true := by kernel_rfl
theorem arcNeeds_j18 : (Tryz.prog.make == some Rows.archiveNeedsRow.make) = true := by kernel_rfl
theorem arcNeeds_j19 : (Rows.archiveNeedsRow.kinds == (if Rows.archiveNeedsRow.domain.isEmpty then [] else Tryz.f5.params.toList.map fun t => match Tryz.prog.underlying t with | some (.int k) => some k | _ => none)) = true := by kernel_rfl
theorem arcNeeds_j20 : (Rows.archiveNeedsRow.pinned == Rows.archiveNeedsRow.pinnedBy) = true := by kernel_rfl
theorem arcNeeds_j21 : (Rows.archiveNeedsRow.veiled == (Tryz.f5.params.toList ++ (OpenSpec.ofChange Rows.archiveNeedsSpec).bare.plain.varTypes Tryz.prog ++ Tryz.f5.resultTypes.toList).any (Tryz.prog.veiledRec ·)) = true := by kernel_rfl
theorem arcNeeds_j22 : (Rows.archiveNeedsRow.veiledFits Tryz.prog Tryz.f5.params.toList (Tryz.f5.params.toList ++ (OpenSpec.ofChange Rows.archiveNeedsSpec).bare.plain.varTypes Tryz.prog ++ Tryz.f5.resultTypes.toList)) = true := by kernel_rfl
set_option maxRecDepth 100000 in
theorem arcNeeds_closed : joinedFacts Tryz.prog 5 Tryz.f5 (OpenSpec.ofChange Rows.archiveNeedsSpec).bare Rows.archiveNeedsRow = true := joined_split arcNeeds_j1 laidOut jp_maps arcNeeds_j4 arcNeeds_j5 arcNeeds_j6 arcNeeds_j7 arcNeeds_j8 arcNeeds_j9 arcNeeds_j10 arcNeeds_j11 arcNeeds_j12 arcNeeds_j13 arcNeeds_j14 jp_heard jp_enter arcNeeds_j17 arcNeeds_j18 arcNeeds_j19 arcNeeds_j20 arcNeeds_j21 arcNeeds_j22
theorem arcNeeds_said : Rows.ArchiveNeedsSaid :=
  OpenClaim.holds_of_cond 5 Tryz.f5 rfl rfl rfl rfl rfl rfl rfl ⟨rfl, rfl, rfl, rfl, rfl⟩ rfl rfl rfl rfl rfl (by kernel_rfl) Tryz.func5 arcNeeds_closed
    (of_decide_eq_true (by kernel_rfl)) (by unfold Func.isWrapper; first | (rw [if_pos (by decide +kernel)]; kernel_rfl) | (rw [if_neg (by decide +kernel)]; exact ⟨rfl, rfl⟩))
    (fun os started H enc _ F => by rw [OpenClaim.pre_eq_preRow]; exact arcNeeds_lifted os started H enc F)
theorem arcNeeds_plain (f : FuncId) (fn : Func) (hf : Tryz.pinned.checked.prog.funcNamed Rows.archiveNeedsRow.func = some f) (hfn : Tryz.pinned.checked.prog.funcs[f]? = some fn) :
    false = Tryz.pinned.checked.prog.looks [] ∧ ∀ (j : Nat) t, fn.params[j]? = some t → Tryz.pinned.checked.prog.wantsStandIn t = false := by
  obtain rfl : f = 5 := Option.some.inj ((show Tryz.prog.funcNamed Rows.archiveNeedsRow.func = some 5 by kernel_rfl).symm.trans hf) |>.symm
  obtain rfl : fn = Tryz.f5 := (Option.some.inj (Tryz.func5.symm.trans hfn)).symm
  refine ⟨by kernel_rfl, fun j t ht => ?_⟩
  rw [Tryz.params5] at ht
  have hm : t ∈ [9, 22, 26] := by simpa using Array.mem_of_getElem? ht
  have hall : ([9, 22, 26].all fun u => !Tryz.prog.wantsStandIn u) = true := by kernel_rfl
  exact (show Tryz.prog.wantsStandIn t = false by simpa using List.all_eq_true.1 hall t hm)
theorem archiveNeeds_card : Rows.ArchiveNeedsCardSaid :=
  Claim7.holds_tied_plain_at .later [] _ _ _ _ arcNeeds_said (fun _ h => by cases h) (by kernel_rfl) (fun _ h => by cases h) archiveNeeds_row_tie rfl ⟨rfl, rfl⟩ (by kernel_rfl) rfl arcNeeds_plain (by kernel_rfl)
end Go.Proofs.YtboegjdkedjhcaaGreatDoor
