/- ArchiveCodes, for every input: the law answers true and its arguments stay. -/
import Derived.Test.YtboegjdkedjhcaaGreatDoorCards
import Derived.Test.YtboegjdkedjhcaaGreatDoorTie
import Derived.Test.YtboegjdkedjhcaaGreatDoorBd01
import Derived.Test.YtboegjdkedjhcaaGreatDoorBd46
import Derived.Test.YtboegjdkedjhcaaGreatDoorBd16
import Derived.Test.YtboegjdkedjhcaaGreatDoorBd36
namespace Go.Proofs.YtboegjdkedjhcaaGreatDoor
open Go.ChangeShapes Go.WideShapes Go.ChangeAt Go.RowKit
open Go.ChangeMaps (open_string)
set_option maxRecDepth 100000 in
theorem arcCodes_contract (H : Type) (enc : TypeId × Value → H) (W : World) (base : Nat) (args : Array Value) (ds gs : List (DataW H)) (before : List MemPlace)
    (hval : ∀ (j : Nat) t v, Tryz.f3.params[j]? = some t → args[j]? = some v → Value.okWide Tryz.prog W .any base t v)
    (hW : DataW.Whole enc Tryz.prog Tryz.f3.params.toList Rows.archiveCodesSpec.vars false W args.toList ds gs before)
    (hsz : (DataW.weightsEach Tryz.prog Tryz.f3.params.toList ds).all (· ≤ reachBytes) = true) :
    Calls Tryz.prog 3 args W fun e W' => ∃ v, e = .returned v ∧ Rows.archiveCodesSpec.post enc Tryz.prog Tryz.f3 false true false false W args v W' := by
  have hW' := hW
  obtain ⟨p, q, hA0, hV, rfl, hfz, hnd⟩ := hW
  have hA : DataW.TrodAll enc Tryz.prog W 0 (fun _ => true) true Tryz.f3.params.toList args.toList ds p := hA0
  rw [Tryz.params3] at hA hval hsz
  obtain ⟨v0, v1, d0, d1, p0, p1, rfl, rfl, rfl, h0, h1⟩ := trodAll_two hA
  obtain ⟨rfl, rfl⟩ := trodVars_none hV
  have hsz' : (DataW.weightsEach Tryz.prog [24, 9] [d0, d1]).all (· ≤ reachBytes) = true := hsz
  clear hsz
  have hk0 := hval 0 24 v0 rfl rfl
  have hm0 := small_each hsz' 0 24 d0 rfl rfl
  have hk1 := hval 1 9 v1 rfl rfl
  have hm1 := small_each hsz' 1 9 d1 rfl rfl
  obtain ⟨o0, r0, rfl, hin0, hbd0⟩ := open_arcV hk0 h0 hm0
  obtain ⟨s1, rfl, rfl, rfl, ws1⟩ := open_string Tryz.underlying9 hk1 h1
  have hs1 : s1.size ≤ 140737488355328 := small_bytes hm1
  refine (arcCodes_any sort_ok o0 r0 s1 W hin0 hbd0 hs1).mono fun e W' ⟨he, hbw⟩ => ?_
  subst he
  exact ⟨_, rfl, law_post (by kernel_rfl) rfl (by kernel_rfl) (by simpa using hW') rfl hbw⟩
theorem arcCodes_laid (os : Os) : laidMet Tryz.prog Rows.archiveCodesRow.laid ((World.laidAll Tryz.prog os Rows.archiveCodesRow.laid).forCall (fun _ _ => 0) ⟨#[], #[.agg #[.string ⟨#[]⟩, .slice none 0 0], .string ⟨#[]⟩], []⟩).memory :=
  laidMet_laidAll _ (by kernel_rfl) (by kernel_rfl)
theorem arcCodes_reads (os : Os) {H : Type} (enc : TypeId × Value → H) : ∃ places, DataW.whole enc Tryz.prog ((World.laidAll Tryz.prog os Rows.archiveCodesRow.laid).forCall (fun _ _ => 0) ⟨#[], #[.agg #[.string ⟨#[]⟩, .slice none 0 0], .string ⟨#[]⟩], []⟩).memory Tryz.f3.params.toList Rows.archiveCodesSpec.vars false (#[.agg #[.string ⟨#[]⟩, .slice none 0 0], .string ⟨#[]⟩] : Array Value).toList 8 = some ([.agg [.lit (.string []), .nil], .lit (.string [])], [], places) :=
  ⟨[], by kernel_rfl⟩
set_option maxRecDepth 100000 in
theorem arcCodes_lifted (os : Os) (started : os.Started) (H : Type) (enc : TypeId × Value → H) (F : Stop.Interp) :
    ReturnsInHanded {} Tryz.checked os 3 .any ((OpenSpec.ofChange Rows.archiveCodesSpec).preRow enc Tryz.prog Tryz.f3 Rows.archiveCodesRow.domain false Rows.archiveCodesRow.laid) (((OpenSpec.ofChange Rows.archiveCodesSpec).at F).post enc Tryz.prog Tryz.f3 false true false false) := by
  obtain ⟨places, hx⟩ := arcCodes_reads os enc
  refine returnsInHanded_of_row (C := Tryz.checked) (s := OpenSpec.ofChange Rows.archiveCodesSpec) own started (by kernel_rfl) Tryz.func3
    (witness_row_at (enc := enc) (C := Tryz.checked) false (World.laidAll Tryz.prog os Rows.archiveCodesRow.laid) #[.agg #[.string ⟨#[]⟩, .slice none 0 0], .string ⟨#[]⟩] (World.laidAll_os _ _ _) (by kernel_rfl) (by kernel_rfl) (by kernel_rfl)
      (OpenSpec.preRow_of_cond 8 hx (by kernel_rfl) (fun k hk => by cases hk) (by kernel_rfl) (arcCodes_laid os))) ?_
  intro W base args ds gs before hval hW _ _ hsz _ _ _
  have hV := hW
  obtain ⟨_, _, _, hV, _⟩ := hV
  obtain ⟨rfl, rfl⟩ := trodVars_none hV
  exact arcCodes_contract H enc W base args ds [] before hval hW (by
    have h2 := hsz
    rw [show (OpenSpec.ofChange Rows.archiveCodesSpec).bare.plain.varTypes Tryz.checked.prog = [] from rfl, List.append_nil, List.append_nil] at h2
    exact h2)
theorem arcCodes_j1 : (Rows.archiveCodesRow.wf (OpenSpec.ofChange (OpenSpec.ofChange Rows.archiveCodesSpec).bare)) = true := by kernel_rfl
theorem arcCodes_j4 : (Tryz.f3.params.all (Tryz.prog.readableRec ·) && namedTie Tryz.prog Rows.archiveCodesRow.named (OpenSpec.ofChange Rows.archiveCodesSpec).bare.vars) = true := by kernel_rfl
theorem arcCodes_j5 : ((Rows.archiveCodesRow.stops == []) && (Tryz.prog.stops == []) && (Rows.archiveCodesRow.knobs == []) && (Tryz.prog.stopKnobs == [])) = true := by kernel_rfl
theorem arcCodes_j6 : (Rows.archiveCodesRow.inPlace == Tryz.prog.inPlace 3) = true := by kernel_rfl
theorem arcCodes_j7 : (Rows.archiveCodesRow.unfollowed == Tryz.prog.unfollowed 3) = true := by kernel_rfl
theorem arcCodes_j8 : (Rows.archiveCodesRow.recurses == Tryz.prog.recurses 3) = true := by kernel_rfl
theorem arcCodes_j9 : (Rows.archiveCodesRow.named == Tryz.prog.varsNamed 3) = true := by kernel_rfl
theorem arcCodes_j10 : ((Rows.archiveCodesRow.maps == (Tryz.f3.params.toList ++ (OpenSpec.ofChange Rows.archiveCodesSpec).bare.plain.varTypes Tryz.prog).any (Tryz.prog.mapsRec ·)) && (Rows.archiveCodesRow.ifaces == (Tryz.f3.params.toList ++ (OpenSpec.ofChange Rows.archiveCodesSpec).bare.plain.varTypes Tryz.prog).any (Tryz.prog.ifacesRec ·)) && (Rows.archiveCodesRow.mapsOut == Tryz.prog.mapsAmong Tryz.f3.resultTypes.toList)) = true := by kernel_rfl
theorem arcCodes_j11 : ((Rows.archiveCodesRow.loops == (Tryz.f3.params.toList ++ (OpenSpec.ofChange Rows.archiveCodesSpec).bare.plain.varTypes Tryz.prog).any (Tryz.prog.loopsFrom ·)) && (Rows.archiveCodesRow.wideKeys == (Tryz.f3.params.toList ++ (OpenSpec.ofChange Rows.archiveCodesSpec).bare.plain.varTypes Tryz.prog ++ Tryz.f3.resultTypes.toList).any (Tryz.prog.wideKeysFrom ·))) = true := by kernel_rfl
theorem arcCodes_j12 : ((OpenSpec.ofChange Rows.archiveCodesSpec).bare.vars.all (Tryz.prog.varReadable ·) && Tryz.f3.resultTypes.all (fun t => Tryz.prog.readableRec t && decide (t < Tryz.prog.types.size)) && (Rows.archiveCodesRow.ifacesOut == Tryz.f3.resultTypes.toList.any (Tryz.prog.ifacesRec ·)) && (Rows.archiveCodesRow.loopsOut == Tryz.f3.resultTypes.toList.any (Tryz.prog.loopsFrom ·))) = true := by kernel_rfl
theorem arcCodes_j13 : (Rows.archiveCodesRow.plainKeys == Tryz.prog.plainKeys) = true := by kernel_rfl
theorem arcCodes_j14 : Rows.archiveCodesRow.shortTexts.isNone = true := by kernel_rfl
theorem arcCodes_j17 : (Rows.archiveCodesRow.lifted == Tryz.prog.liftsFinal) = true := by kernel_rfl
theorem arcCodes_j18 : (Tryz.prog.make == some Rows.archiveCodesRow.make) = true := by kernel_rfl
theorem arcCodes_j19 : (Rows.archiveCodesRow.kinds == (if Rows.archiveCodesRow.domain.isEmpty then [] else Tryz.f3.params.toList.map fun t => match Tryz.prog.underlying t with | some (.int k) => some k | _ => none)) = true := by kernel_rfl
theorem arcCodes_j20 : (Rows.archiveCodesRow.pinned == Rows.archiveCodesRow.pinnedBy) = true := by kernel_rfl
theorem arcCodes_j21 : (Rows.archiveCodesRow.veiled == (Tryz.f3.params.toList ++ (OpenSpec.ofChange Rows.archiveCodesSpec).bare.plain.varTypes Tryz.prog ++ Tryz.f3.resultTypes.toList).any (Tryz.prog.veiledRec ·)) = true := by kernel_rfl
theorem arcCodes_j22 : (Rows.archiveCodesRow.veiledFits Tryz.prog Tryz.f3.params.toList (Tryz.f3.params.toList ++ (OpenSpec.ofChange Rows.archiveCodesSpec).bare.plain.varTypes Tryz.prog ++ Tryz.f3.resultTypes.toList)) = true := by kernel_rfl
set_option maxRecDepth 100000 in
theorem arcCodes_closed : joinedFacts Tryz.prog 3 Tryz.f3 (OpenSpec.ofChange Rows.archiveCodesSpec).bare Rows.archiveCodesRow = true := joined_split arcCodes_j1 laidOut jp_maps arcCodes_j4 arcCodes_j5 arcCodes_j6 arcCodes_j7 arcCodes_j8 arcCodes_j9 arcCodes_j10 arcCodes_j11 arcCodes_j12 arcCodes_j13 arcCodes_j14 jp_heard jp_enter arcCodes_j17 arcCodes_j18 arcCodes_j19 arcCodes_j20 arcCodes_j21 arcCodes_j22
theorem arcCodes_said : Rows.ArchiveCodesSaid :=
  OpenClaim.holds_of_cond 3 Tryz.f3 rfl rfl rfl rfl rfl rfl rfl ⟨rfl, rfl, rfl, rfl, rfl⟩ rfl rfl rfl rfl rfl (by kernel_rfl) Tryz.func3 arcCodes_closed
    (of_decide_eq_true (by kernel_rfl)) (by unfold Func.isWrapper; first | (rw [if_pos (by decide +kernel)]; kernel_rfl) | (rw [if_neg (by decide +kernel)]; exact ⟨rfl, rfl⟩))
    (fun os started H enc _ F => by rw [OpenClaim.pre_eq_preRow]; exact arcCodes_lifted os started H enc F)
theorem arcCodes_plain (f : FuncId) (fn : Func) (hf : Tryz.pinned.checked.prog.funcNamed Rows.archiveCodesRow.func = some f) (hfn : Tryz.pinned.checked.prog.funcs[f]? = some fn) :
    false = Tryz.pinned.checked.prog.looks [] ∧ ∀ (j : Nat) t, fn.params[j]? = some t → Tryz.pinned.checked.prog.wantsStandIn t = false := by
  obtain rfl : f = 3 := Option.some.inj ((show Tryz.prog.funcNamed Rows.archiveCodesRow.func = some 3 by kernel_rfl).symm.trans hf) |>.symm
  obtain rfl : fn = Tryz.f3 := (Option.some.inj (Tryz.func3.symm.trans hfn)).symm
  refine ⟨by kernel_rfl, fun j t ht => ?_⟩
  rw [Tryz.params3] at ht
  have hm : t ∈ [24, 9] := by simpa using Array.mem_of_getElem? ht
  have hall : ([24, 9].all fun u => !Tryz.prog.wantsStandIn u) = true := by kernel_rfl
  exact (show Tryz.prog.wantsStandIn t = false by simpa using List.all_eq_true.1 hall t hm)
theorem archiveCodes_card : Rows.ArchiveCodesCardSaid :=
  Claim7.holds_tied_plain_at .later [] _ _ _ _ arcCodes_said (fun _ h => by cases h) (by kernel_rfl) (fun _ h => by cases h) archiveCodes_row_tie rfl ⟨rfl, rfl⟩ (by kernel_rfl) rfl arcCodes_plain (by kernel_rfl)
end Go.Proofs.YtboegjdkedjhcaaGreatDoor
