/- DisLines, for every input: the law answers true and its arguments stay. -/
import Derived.Test.YtoonkfhphbojcaaGreatDoorCards
import Derived.Test.YtoonkfhphbojcaaGreatDoorTie
import Derived.Test.YtoonkfhphbojcaaGreatDoorBv42
import Derived.Test.YtoonkfhphbojcaaGreatDoorBv45
import Derived.Test.YtoonkfhphbojcaaGreatDoorBv46
import Derived.Test.YtoonkfhphbojcaaGreatDoorBv41
import Derived.Deep.DeepWitnessRowRef
namespace Go.Proofs.YtoonkfhphbojcaaGreatDoor
open Go.ChangeShapes Go.WideShapes Go.ChangeAt Go.RowKit
open Go.ChangeMaps (open_string)
set_option maxRecDepth 100000 in
theorem disLines_contract (H : Type) (enc : TypeId × Value → H) (W : World) (base : Nat) (args : Array Value) (ds gs : List (DataW H)) (before : List MemPlace)
    (hval : ∀ (j : Nat) t v, Tryz.f4.params[j]? = some t → args[j]? = some v → Value.okWide Tryz.prog W .any base t v)
    (hW : DataW.Whole enc Tryz.prog Tryz.f4.params.toList Rows.disLinesSpec.vars false W args.toList ds gs before)
    (hsz : (DataW.weightsEach Tryz.prog Tryz.f4.params.toList ds).all (· ≤ reachBytes) = true) (hLaid : laidMet Tryz.prog Rows.disLinesRow.laid W) (hShape : W.ShapedOpen Tryz.prog) :
    Calls Tryz.prog 4 args W fun e W' => ∃ v, e = .returned v ∧ Rows.disLinesSpec.post enc Tryz.prog Tryz.f4 false true false false W args v W' := by
  have hLib := lib_laid33 hLaid hShape
  have hW' := hW
  obtain ⟨p, q, hA0, hV, rfl, hfz, hnd⟩ := hW
  have hA : DataW.TrodAll enc Tryz.prog W 0 (fun _ => true) true Tryz.f4.params.toList args.toList ds p := hA0
  rw [Tryz.params4] at hA hval hsz
  obtain ⟨v0, v1, d0, d1, p0, p1, rfl, rfl, rfl, h0, h1⟩ := trodAll_two hA
  obtain ⟨rfl, rfl⟩ := trodVars_none hV
  have hsz' : (DataW.weightsEach Tryz.prog [33, 9] [d0, d1]).all (· ≤ reachBytes) = true := hsz
  clear hsz
  have hk0 := hval 0 33 v0 rfl rfl
  have hm0 := small_each hsz' 0 33 d0 rfl rfl
  have hk1 := hval 1 9 v1 rfl rfl
  have hm1 := small_each hsz' 1 9 d1 rfl rfl
  obtain ⟨a0, n0, c0, hv0⟩ := okWide_slice Tryz.underlying33 hk0
  obtain ⟨l0, hl0⟩ := open_lines h0 ⟨a0, n0, c0, hv0⟩ hm0
  obtain ⟨s1, rfl, rfl, rfl, ws1⟩ := open_string Tryz.underlying9 hk1 h1
  have hs1 : s1.size ≤ 140737488355328 := small_bytes hm1
  refine (disLines_any l0 _ s1 W hLib hl0).mono fun e W' ⟨he, hbw⟩ => ?_
  subst he
  exact ⟨_, rfl, law_post (by kernel_rfl) rfl (by kernel_rfl) (by simpa using hW') rfl hbw⟩
theorem disLines_laid (os : Os) : laidMet Tryz.prog Rows.disLinesRow.laid ((World.laidAll Tryz.prog os Rows.disLinesRow.laid).forCall (fun _ _ => 0) ⟨#[], #[.slice none 0 0, .string ⟨#[]⟩], []⟩).memory :=
  laidMet_laidAll _ (by kernel_rfl) (by kernel_rfl)
theorem disLines_reads (os : Os) {H : Type} (enc : TypeId × Value → H) : ∃ places, DataW.whole enc Tryz.prog ((World.laidAll Tryz.prog os Rows.disLinesRow.laid).forCall (fun _ _ => 0) ⟨#[], #[.slice none 0 0, .string ⟨#[]⟩], []⟩).memory Tryz.f4.params.toList Rows.disLinesSpec.vars false (#[.slice none 0 0, .string ⟨#[]⟩] : Array Value).toList 8 = some ([.nil, .lit (.string [])], [], places) :=
  ⟨[], by kernel_rfl⟩
set_option maxRecDepth 100000 in
theorem disLines_lifted (os : Os) (started : os.Started) (H : Type) (enc : TypeId × Value → H) (F : Stop.Interp) :
    ReturnsInHanded {} Tryz.checked os 4 .any ((OpenSpec.ofChange Rows.disLinesSpec).preRow enc Tryz.prog Tryz.f4 Rows.disLinesRow.domain false Rows.disLinesRow.laid) (((OpenSpec.ofChange Rows.disLinesSpec).at F).post enc Tryz.prog Tryz.f4 false true false false) := by
  obtain ⟨places, hx⟩ := disLines_reads os enc
  refine returnsInHanded_of_row (C := Tryz.checked) (s := OpenSpec.ofChange Rows.disLinesSpec) own started (by kernel_rfl) Tryz.func4
    (witness_row_atRef (enc := enc) (C := Tryz.checked) false (World.laidAll Tryz.prog os Rows.disLinesRow.laid) #[.slice none 0 0, .string ⟨#[]⟩] (World.laidAll_os _ _ _) (by kernel_rfl) (by kernel_rfl) (by kernel_rfl)
      (OpenSpec.preRow_of_cond 8 hx (by kernel_rfl) (fun k hk => by cases hk) (by kernel_rfl) (disLines_laid os))) ?_
  intro W base args ds gs before hval hW _ _ hsz hLaid hShape _
  have hV := hW
  obtain ⟨_, _, _, hV, _⟩ := hV
  obtain ⟨rfl, rfl⟩ := trodVars_none hV
  exact disLines_contract H enc W base args ds [] before hval hW (by
    have h2 := hsz
    rw [show (OpenSpec.ofChange Rows.disLinesSpec).bare.plain.varTypes Tryz.checked.prog = [] from rfl, List.append_nil, List.append_nil] at h2
    exact h2) hLaid hShape
theorem disLines_j1 : (Rows.disLinesRow.wf (OpenSpec.ofChange (OpenSpec.ofChange Rows.disLinesSpec).bare)) = true := by kernel_rfl
theorem disLines_j4 : (Tryz.f4.params.all (Tryz.prog.readableRec ·) && namedTie Tryz.prog Rows.disLinesRow.named (OpenSpec.ofChange Rows.disLinesSpec).bare.vars) = true := by kernel_rfl
theorem disLines_j5 : ((Rows.disLinesRow.stops == []) && (Tryz.prog.stops == []) && (Rows.disLinesRow.knobs == []) && (Tryz.prog.stopKnobs == [])) = true := by kernel_rfl
theorem disLines_j6 : (Rows.disLinesRow.inPlace == Tryz.prog.inPlace 4) = true := by kernel_rfl
theorem disLines_j7 : (Rows.disLinesRow.unfollowed == Tryz.prog.unfollowed 4) = true := by kernel_rfl
theorem disLines_j8 : (Rows.disLinesRow.recurses == Tryz.prog.recurses 4) = true := by kernel_rfl
theorem disLines_j9 : (Rows.disLinesRow.named == Tryz.prog.varsNamed 4) = true := by kernel_rfl
theorem disLines_j10 : ((Rows.disLinesRow.maps == (Tryz.f4.params.toList ++ (OpenSpec.ofChange Rows.disLinesSpec).bare.plain.varTypes Tryz.prog).any (Tryz.prog.mapsRec ·)) && (Rows.disLinesRow.ifaces == (Tryz.f4.params.toList ++ (OpenSpec.ofChange Rows.disLinesSpec).bare.plain.varTypes Tryz.prog).any (Tryz.prog.ifacesRec ·)) && (Rows.disLinesRow.mapsOut == Tryz.prog.mapsAmong Tryz.f4.resultTypes.toList)) = true := by kernel_rfl
theorem disLines_j11 : ((Rows.disLinesRow.loops == (Tryz.f4.params.toList ++ (OpenSpec.ofChange Rows.disLinesSpec).bare.plain.varTypes Tryz.prog).any (Tryz.prog.loopsFrom ·)) && (Rows.disLinesRow.wideKeys == (Tryz.f4.params.toList ++ (OpenSpec.ofChange Rows.disLinesSpec).bare.plain.varTypes Tryz.prog ++ Tryz.f4.resultTypes.toList).any (Tryz.prog.wideKeysFrom ·))) = true := by kernel_rfl
theorem disLines_j12 : ((OpenSpec.ofChange Rows.disLinesSpec).bare.vars.all (Tryz.prog.varReadable ·) && Tryz.f4.resultTypes.all (fun t => Tryz.prog.readableRec t && decide (t < Tryz.prog.types.size)) && (Rows.disLinesRow.ifacesOut == Tryz.f4.resultTypes.toList.any (Tryz.prog.ifacesRec ·)) && (Rows.disLinesRow.loopsOut == Tryz.f4.resultTypes.toList.any (Tryz.prog.loopsFrom ·))) = true := by kernel_rfl
theorem disLines_j13 : (Rows.disLinesRow.plainKeys == Tryz.prog.plainKeys) = true := by kernel_rfl
theorem disLines_j14 : Rows.disLinesRow.shortTexts.isNone = true := by kernel_rfl
theorem disLines_j17 : (Rows.disLinesRow.lifted == Tryz.prog.liftsFinal) = true := by kernel_rfl
theorem disLines_j18 : (Tryz.prog.make == some Rows.disLinesRow.make) = true := by kernel_rfl
theorem disLines_j19 : (Rows.disLinesRow.kinds == (if Rows.disLinesRow.domain.isEmpty then [] else Tryz.f4.params.toList.map fun t => match Tryz.prog.underlying t with | some (.int k) => some k | _ => none)) = true := by kernel_rfl
theorem disLines_j20 : (Rows.disLinesRow.pinned == Rows.disLinesRow.pinnedBy) = true := by kernel_rfl
theorem disLines_j21 : (Rows.disLinesRow.veiled == (Tryz.f4.params.toList ++ (OpenSpec.ofChange Rows.disLinesSpec).bare.plain.varTypes Tryz.prog ++ Tryz.f4.resultTypes.toList).any (Tryz.prog.veiledRec ·)) = true := by kernel_rfl
theorem disLines_j22 : (Rows.disLinesRow.veiledFits Tryz.prog Tryz.f4.params.toList (Tryz.f4.params.toList ++ (OpenSpec.ofChange Rows.disLinesSpec).bare.plain.varTypes Tryz.prog ++ Tryz.f4.resultTypes.toList)) = true := by kernel_rfl
set_option maxRecDepth 100000 in
theorem disLines_closed : joinedFacts Tryz.prog 4 Tryz.f4 (OpenSpec.ofChange Rows.disLinesSpec).bare Rows.disLinesRow = true := joined_split disLines_j1 laidOut jp_maps disLines_j4 disLines_j5 disLines_j6 disLines_j7 disLines_j8 disLines_j9 disLines_j10 disLines_j11 disLines_j12 disLines_j13 disLines_j14 jp_heard jp_enter disLines_j17 disLines_j18 disLines_j19 disLines_j20 disLines_j21 disLines_j22
theorem disLines_said : Rows.DisLinesSaid :=
  OpenClaim.holds_of_cond 4 Tryz.f4 rfl rfl rfl rfl rfl rfl rfl ⟨rfl, rfl, rfl, rfl, rfl⟩ rfl rfl rfl rfl rfl (by kernel_rfl) Tryz.func4 disLines_closed
    (of_decide_eq_true (by kernel_rfl)) (by unfold Func.isWrapper; first | (rw [if_pos (by decide +kernel)]; kernel_rfl) | (rw [if_neg (by decide +kernel)]; exact ⟨rfl, rfl⟩))
    (fun os started H enc _ F => by rw [OpenClaim.pre_eq_preRow]; exact disLines_lifted os started H enc F)
theorem disLines_plain (f : FuncId) (fn : Func) (hf : Tryz.pinned.checked.prog.funcNamed Rows.disLinesRow.func = some f) (hfn : Tryz.pinned.checked.prog.funcs[f]? = some fn) :
    true = Tryz.pinned.checked.prog.looks [] ∧ ∀ (j : Nat) t, fn.params[j]? = some t → Tryz.pinned.checked.prog.wantsStandIn t = false := by
  obtain rfl : f = 4 := Option.some.inj ((show Tryz.prog.funcNamed Rows.disLinesRow.func = some 4 by kernel_rfl).symm.trans hf) |>.symm
  obtain rfl : fn = Tryz.f4 := (Option.some.inj (Tryz.func4.symm.trans hfn)).symm
  refine ⟨by kernel_rfl, fun j t ht => ?_⟩
  rw [Tryz.params4] at ht
  have hm : t ∈ [33, 9] := by simpa using Array.mem_of_getElem? ht
  have hall : ([33, 9].all fun u => !Tryz.prog.wantsStandIn u) = true := by kernel_rfl
  exact (show Tryz.prog.wantsStandIn t = false by simpa using List.all_eq_true.1 hall t hm)
theorem disLines_card : Rows.DisLinesCardSaid :=
  Claim7.holds_tied_plain_at .later [] _ _ _ _ disLines_said (fun _ h => by cases h) (by kernel_rfl) (fun _ h => by cases h) disLines_row_tie rfl ⟨rfl, rfl⟩ (by kernel_rfl) rfl disLines_plain (by kernel_rfl)
end Go.Proofs.YtoonkfhphbojcaaGreatDoor
