/- ArchiveBack, for every input: the law answers true and its arguments stay. -/
import Derived.Test.YtboegjdkedjhcaaGreatDoorCards
import Derived.Test.YtboegjdkedjhcaaGreatDoorTie
import Derived.Test.YtboegjdkedjhcaaGreatDoorBd01
import Derived.Test.YtboegjdkedjhcaaGreatDoorBd45
import Derived.Test.YtboegjdkedjhcaaGreatDoorBd16
import Derived.Test.YtboegjdkedjhcaaGreatDoorBd36
namespace Go.Proofs.YtboegjdkedjhcaaGreatDoor
open Go.ChangeShapes Go.WideShapes Go.ChangeAt Go.RowKit
open Go.ChangeMaps (open_string)
set_option maxRecDepth 100000 in
theorem arcBack_contract (H : Type) (enc : TypeId × Value → H) (W : World) (base : Nat) (args : Array Value) (ds gs : List (DataW H)) (before : List MemPlace)
    (hval : ∀ (j : Nat) t v, Tryz.f4.params[j]? = some t → args[j]? = some v → Value.okWide Tryz.prog W .any base t v)
    (hW : DataW.Whole enc Tryz.prog Tryz.f4.params.toList Rows.archiveBackSpec.vars false W args.toList ds gs before)
    (hsz : (DataW.weightsEach Tryz.prog Tryz.f4.params.toList ds).all (· ≤ reachBytes) = true) :
    Calls Tryz.prog 4 args W fun e W' => ∃ v, e = .returned v ∧ Rows.archiveBackSpec.post enc Tryz.prog Tryz.f4 false true false false W args v W' := by
  have hW' := hW
  obtain ⟨p, q, hA0, hV, rfl, hfz, hnd⟩ := hW
  have hA : DataW.TrodAll enc Tryz.prog W 0 (fun _ => true) true Tryz.f4.params.toList args.toList ds p := hA0
  rw [Tryz.params4] at hA hval hsz
  obtain ⟨v0, v1, d0, d1, p0, p1, rfl, rfl, rfl, h0, h1⟩ := trodAll_two hA
  obtain ⟨rfl, rfl⟩ := trodVars_none hV
  have hsz' : (DataW.weightsEach Tryz.prog [24, 9] [d0, d1]).all (· ≤ reachBytes) = true := hsz
  clear hsz
  have hk0 := hval 0 24 v0 rfl rfl
  have hm0 := small_each hsz' 0 24 d0 rfl rfl
  have hk1 := hval 1 9 v1 rfl rfl
  have hm1 := small_each hsz' 1 9 d1 rfl rfl
  obtain ⟨o0, r0, rfl, hin0, hbd0⟩ := open_arcV hk0 h0 hm0
  obtain ⟨s1, rfl, rfl, rfl, ws1⟩ := open_string Tryz.underlying9 hk1 h1
  have hs1 : s1.size ≤ 140737488355328 := small_bytes hm1
  refine (arcBack_any sort_ok o0 r0 s1 W hin0 hs1).mono fun e W' ⟨he, hbw⟩ => ?_
  subst he
  exact ⟨_, rfl, law_post (by kernel_rfl) rfl (by kernel_rfl) (by simpa using hW') rfl hbw⟩
theorem arcBack_laid (os : Os) : laidMet Tryz.prog Rows.archiveBackRow.laid ((World.laidAll Tryz.prog os Rows.archiveBackRow.laid).forCall (fun _ _ => 0) ⟨#[], #[.agg #[.string ⟨#[]⟩, .slice none 0 0], .string ⟨#[]⟩], []⟩).memory :=
  laidMet_laidAll _ (by kernel_rfl) (by kernel_rfl)
theorem arcBack_reads (os : Os) {H : Type} (enc : TypeId × Value → H) : ∃ places, DataW.whole enc Tryz.prog ((World.laidAll Tryz.prog os Rows.archiveBackRow.laid).forCall (fun _ _ => 0) ⟨#[], #[.agg #[.string ⟨#[]⟩, .slice none 0 0], .string ⟨#[]⟩], []⟩).memory Tryz.f4.params.toList Rows.archiveBackSpec.vars false (#[.agg #[.string ⟨#[]⟩, .slice none 0 0], .string ⟨#[]⟩] : Array Value).toList 8 = some ([.agg [.lit (.string []), .nil], .lit (.string [])], [], places) :=
  ⟨[], by kernel_rfl⟩
set_option maxRecDepth 100000 in
theorem arcBack_lifted (os : Os) (started : os.Started) (H : Type) (enc : TypeId × Value → H) (F : Stop.Interp) :
    ReturnsInHanded {} Tryz.checked os 4 .any ((OpenSpec.ofChange Rows.archiveBackSpec).preRow enc Tryz.prog Tryz.f4 Rows.archiveBackRow.domain false Rows.archiveBackRow.laid) (((OpenSpec.ofChange Rows.archiveBackSpec).at F).post enc Tryz.prog Tryz.f4 false true false false) := by
  obtain ⟨places, hx⟩ := arcBack_reads os enc
  refine returnsInHanded_of_row (C := Tryz.checked) (s := OpenSpec.ofChange Rows.archiveBackSpec) own started (by kernel_rfl) Tryz.func4
    (witness_row_at (enc := enc) (C := Tryz.checked) false (World.laidAll Tryz.prog os Rows.archiveBackRow.laid) #[.agg #[.string ⟨#[]⟩, .slice none 0 0], .string ⟨#[]⟩] (World.laidAll_os _ _ _) (by kernel_rfl) (by kernel_rfl) (by kernel_rfl)
      (OpenSpec.preRow_of_cond 8 hx (by kernel_rfl) (fun k hk => by cases hk) (by kernel_rfl) (arcBack_laid os))) ?_
  intro W base args ds gs before hval hW _ _ hsz _ _ _
  have hV := hW
  obtain ⟨_, _, _, hV, _⟩ := hV
  obtain ⟨rfl, rfl⟩ := trodVars_none hV
  exact arcBack_contract H enc W base args ds [] before hval hW (by
    have h2 := hsz
    rw [show (OpenSpec.ofChange Rows.archiveBackSpec).bare.plain.varTypes Tryz.checked.prog = [] from rfl, List.append_nil, List.append_nil] at h2
    exact h2)
theorem arcBack_j1 : (Rows.archiveBackRow.wf (OpenSpec.ofChange (OpenSpec.ofChange Rows.archiveBackSpec).bare)) = true := by kernel_rfl
theorem arcBack_j4 : (Tryz.f4.params.all (Tryz.prog.readableRec ·) && namedTie Tryz.prog Rows.archiveBackRow.named (OpenSpec.ofChange Rows.archiveBackSpec).bare.vars) = true := by kernel_rfl
theorem arcBack_j5 : ((Rows.archiveBackRow.stops == []) && (Tryz.prog.stops == []) && (Rows.archiveBackRow.knobs == []) && (Tryz.prog.stopKnobs == [])) = true := by kernel_rfl
theorem arcBack_j6 : (Rows.archiveBackRow.inPlace == Tryz.prog.inPlace 4) = true := by kernel_rfl
theorem arcBack_j7 : (Rows.archiveBackRow.unfollowed == Tryz.prog.unfollowed 4) = true := by kernel_rfl
theorem arcBack_j8 : (Rows.archiveBackRow.recurses == Tryz.prog.recurses 4) = true := by kernel_rfl
theorem arcBack_j9 : (Rows.archiveBackRow.named == Tryz.prog.varsNamed 4) = true := by kernel_rfl
theorem arcBack_j10 : ((Rows.archiveBackRow.maps == (Tryz.f4.params.toList ++ (OpenSpec.ofChange Rows.archiveBackSpec).bare.plain.varTypes Tryz.prog).any (Tryz.prog.mapsRec ·)) && (Rows.archiveBackRow.ifaces == (Tryz.f4.params.toList ++ (OpenSpec.ofChange Rows.archiveBackSpec).bare.plain.varTypes Tryz.prog).any (Tryz.prog.ifacesRec ·)) && (Rows.archiveBackRow.mapsOut == Tryz.prog.mapsAmong Tryz.f4.resultTypes.toList)) = true := by kernel_rfl
theorem arcBack_j11 : ((Rows.archiveBackRow.loops == (Tryz.f4.params.toList ++ (OpenSpec.ofChange Rows.archiveBackSpec).bare.plain.varTypes Tryz.prog).any (Tryz.prog.loopsFrom ·)) && (Rows.archiveBackRow.wideKeys == (Tryz.f4.params.toList ++ (OpenSpec.ofChange Rows.archiveBackSpec).bare.plain.varTypes Tryz.prog ++ Tryz.f4.resultTypes.toList).any (Tryz.prog.wideKeysFrom ·))) = true := by kernel_rfl
theorem arcBack_j12 : ((OpenSpec.ofChange Rows.archiveBackSpec).bare.vars.all (Tryz.prog.varReadable ·) && Tryz.f4.resultTypes.all (fun t => Tryz.prog.readableRec t && decide (t < Tryz.prog.types.size)) && (Rows.archiveBackRow.ifacesOut == Tryz.f4.resultTypes.toList.any (Tryz.prog.ifacesRec ·)) && (Rows.archiveBackRow.loopsOut == Tryz.f4.resultTypes.toList.any (Tryz.prog.loopsFrom ·))) = true := by kernel_rfl
theorem arcBack_j13 : (Rows.archiveBackRow.plainKeys == Tryz.prog.plainKeys) = true := by kernel_rfl
theorem arcBack_j14 : Rows.archiveBackRow.shortTexts.isNone = true := by kernel_rfl
theorem arcBack_j17 : (Rows.archiveBackRow.lifted == Tryz.prog.liftsFinal) = true := by kernel_rfl
theorem arcBack_j18 : (Tryz.prog.make == some Rows.archiveBackRow.make) = true := by kernel_rfl
theorem arcBack_j19 : (Rows.archiveBackRow.kinds == (if Rows.archiveBackRow.domain.isEmpty then [] else Tryz.f4.params.toList.map fun t => match Tryz.prog.underlying t with | some (.int k) => some k | _ => none)) = true := by kernel_rfl
theorem arcBack_j20 : (Rows.archiveBackRow.pinned == Rows.archiveBackRow.pinnedBy) = true := by kernel_rfl
theorem arcBack_j21 : (Rows.archiveBackRow.veiled == (Tryz.f4.params.toList ++ (OpenSpec.ofChange Rows.archiveBackSpec).bare.plain.varTypes Tryz.prog ++ Tryz.f4.resultTypes.toList).any (Tryz.prog.veiledRec ·)) = true := by kernel_rfl
theorem arcBack_j22 : (Rows.archiveBackRow.veiledFits Tryz.prog Tryz.f4.params.toList (Tryz.f4.params.toList ++ (OpenSpec.ofChange Rows.archiveBackSpec).bare.plain.varTypes Tryz.prog ++ Tryz.f4.resultTypes.toList)) = true := by kernel_rfl
set_option maxRecDepth 100000 in
theorem arcBack_closed : joinedFacts Tryz.prog 4 Tryz.f4 (OpenSpec.ofChange Rows.archiveBackSpec).bare Rows.archiveBackRow = true := joined_split arcBack_j1 laidOut jp_maps arcBack_j4 arcBack_j5 arcBack_j6 arcBack_j7 arcBack_j8 arcBack_j9 arcBack_j10 arcBack_j11 arcBack_j12 arcBack_j13 arcBack_j14 jp_heard jp_enter arcBack_j17 arcBack_j18 arcBack_j19 arcBack_j20 arcBack_j21 arcBack_j22
theorem arcBack_said : Rows.ArchiveBackSaid :=
  OpenClaim.holds_of_cond 4 Tryz.f4 rfl rfl rfl rfl rfl rfl rfl ⟨rfl, rfl, rfl, rfl, rfl⟩ rfl rfl rfl rfl rfl (by kernel_rfl) Tryz.func4 arcBack_closed
    (of_decide_eq_true (by kernel_rfl)) (by unfold Func.isWrapper; first | (rw [if_pos (by decide +kernel)]; kernel_rfl) | (rw [if_neg (by decide +kernel)]; exact ⟨rfl, rfl⟩))
    (fun os started H enc _ F => by rw [OpenClaim.pre_eq_preRow]; exact arcBack_lifted os started H enc F)
theorem arcBack_plain (f : FuncId) (fn : Func) (hf : Tryz.pinned.checked.prog.funcNamed Rows.archiveBackRow.func = some f) (hfn : Tryz.pinned.checked.prog.funcs[f]? = some fn) :
    false = Tryz.pinned.checked.prog.looks [] ∧ ∀ (j : Nat) t, fn.params[j]? = some t → Tryz.pinned.checked.prog.wantsStandIn t = false := by
  obtain rfl : f = 4 := Option.some.inj ((show Tryz.prog.funcNamed Rows.archiveBackRow.func = some 4 by kernel_rfl).symm.trans hf) |>.symm
  obtain rfl : fn = Tryz.f4 := (Option.some.inj (Tryz.func4.symm.trans hfn)).symm
  refine ⟨by kernel_rfl, fun j t ht => ?_⟩
  rw [Tryz.params4] at ht
  have hm : t ∈ [24, 9] := by simpa using Array.mem_of_getElem? ht
  have hall : ([24, 9].all fun u => !Tryz.prog.wantsStandIn u) = true := by kernel_rfl
  exact (show Tryz.prog.wantsStandIn t = false by simpa using List.all_eq_true.1 hall t hm)
theorem archiveBack_card : Rows.ArchiveBackCardSaid :=
  Claim7.holds_tied_plain_at .later [] _ _ _ _ arcBack_said (fun _ h => by cases h) (by kernel_rfl) (fun _ h => by cases h) archiveBack_row_tie rfl ⟨rfl, rfl⟩ (by kernel_rfl) rfl arcBack_plain (by kernel_rfl)
end Go.Proofs.YtboegjdkedjhcaaGreatDoor
