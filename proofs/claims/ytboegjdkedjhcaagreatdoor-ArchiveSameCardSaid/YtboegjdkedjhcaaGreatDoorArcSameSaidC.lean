/- ArchiveSame, for every input: the law answers true and its arguments stay. -/
import Derived.Test.YtboegjdkedjhcaaGreatDoorCards
import Derived.Test.YtboegjdkedjhcaaGreatDoorTie
import Derived.Test.YtboegjdkedjhcaaGreatDoorBs07
import Derived.Test.YtboegjdkedjhcaaGreatDoorBs04
import Derived.Test.YtboegjdkedjhcaaGreatDoorBs46
import Derived.Test.YtboegjdkedjhcaaGreatDoorBs14
import Derived.Test.YtboegjdkedjhcaaGreatDoorBs28
namespace Go.Proofs.YtboegjdkedjhcaaGreatDoor
set_option maxRecDepth 100000
open Go.ChangeShapes Go.WideShapes Go.ChangeAt Go.RowKit
open Go.ChangeMaps (open_string)
theorem arcSame_contract (H : Type) (enc : TypeId × Value → H) (W : World) (base : Nat) (args : Array Value) (ds gs : List (DataW H)) (before : List MemPlace)
 (hval : ∀ (j : Nat) t v, Tryz.f6.params[j]? = some t → args[j]? = some v → Value.okWide Tryz.prog W .any base t v)
 (hW : DataW.Whole enc Tryz.prog Tryz.f6.params.toList Rows.archiveSameSpec.vars false W args.toList ds gs before)
 (hsz : (DataW.weightsEach Tryz.prog Tryz.f6.params.toList ds).all (· ≤ reachBytes) = true) :
 Calls Tryz.prog 6 args W fun e W' => ∃ v, e = .returned v ∧ Rows.archiveSameSpec.post enc Tryz.prog Tryz.f6 false true false false W args v W' := by
 have hW' := hW; obtain ⟨p, q, hA0, hV, rfl, hfz, hnd⟩ := hW; have hA : DataW.TrodAll enc Tryz.prog W 0 (fun _ => true) true Tryz.f6.params.toList args.toList ds p := hA0
 rw [Tryz.params6] at hA hval hsz; obtain ⟨v0, v1, v2, d0, d1, d2, p0, p1, p2, rfl, rfl, rfl, h0, h1, h2⟩ := trodAll_three hA; obtain ⟨rfl, rfl⟩ := trodVars_none hV; have hsz' : (DataW.weightsEach Tryz.prog [9, 22, 26] [d0, d1, d2]).all (· ≤ reachBytes) = true := hsz; clear hsz; have hk0 := hval 0 9 v0 rfl rfl; have hm0 := small_each hsz' 0 9 d0 rfl rfl; have hk1 := hval 1 22 v1 rfl rfl; have hm1 := small_each hsz' 1 22 d1 rfl rfl; have hk2 := hval 2 26 v2 rfl rfl; have hm2 := small_each hsz' 2 26 d2 rfl rfl; obtain ⟨s0, rfl, rfl, rfl, ws0⟩ := open_string Tryz.underlying9 hk0 h0; have hs0 : s0.size ≤ 140737488355328 := small_bytes hm0; obtain ⟨a1, n1, c1, hv1⟩ := okWide_slice Tryz.underlying22 hk1; obtain ⟨l1, hl1, hbd1⟩ := open_objsB h1 ⟨a1, n1, c1, hv1⟩ hm1; obtain ⟨a2, n2, c2, hv2⟩ := okWide_slice Tryz.underlying26 hk2; obtain ⟨l2, hl2⟩ := open_arcs h2 ⟨a2, n2, c2, hv2⟩ hm2; refine (arcSame_any sort_ok s0 v1 l1 v2 l2 W hl1 hl2 hs0).mono fun e W' ⟨he, hbw⟩ => ?_
 subst he; exact ⟨_, rfl, law_post (by kernel_rfl) rfl (by kernel_rfl) (by simpa using hW') rfl hbw⟩
theorem arcSame_laid (os : Os) : laidMet Tryz.prog Rows.archiveSameRow.laid ((World.laidAll Tryz.prog os Rows.archiveSameRow.laid).forCall (fun _ _ => 0) ⟨#[], #[.string ⟨#[]⟩, .slice none 0 0, .slice none 0 0], []⟩).memory :=
 laidMet_laidAll _ (by kernel_rfl) (by kernel_rfl)
theorem arcSame_reads (os : Os) {H : Type} (enc : TypeId × Value → H) : ∃ places, DataW.whole enc Tryz.prog ((World.laidAll Tryz.prog os Rows.archiveSameRow.laid).forCall (fun _ _ => 0) ⟨#[], #[.string ⟨#[]⟩, .slice none 0 0, .slice none 0 0], []⟩).memory Tryz.f6.params.toList Rows.archiveSameSpec.vars false (#[.string ⟨#[]⟩, .slice none 0 0, .slice none 0 0] : Array Value).toList 8 = some ([.lit (.string []), .nil, .nil], [], places) :=
 ⟨[], by kernel_rfl⟩
theorem arcSame_lifted (os : Os) (started : os.Started) (H : Type) (enc : TypeId × Value → H) (F : Stop.Interp) :
 ReturnsInHanded {} Tryz.checked os 6 .any ((OpenSpec.ofChange Rows.archiveSameSpec).preRow enc Tryz.prog Tryz.f6 Rows.archiveSameRow.domain false Rows.archiveSameRow.laid) (((OpenSpec.ofChange Rows.archiveSameSpec).at F).post enc Tryz.prog Tryz.f6 false true false false) := by
 obtain ⟨places, hx⟩ := arcSame_reads os enc
 refine returnsInHanded_of_row (C := Tryz.checked) (s := OpenSpec.ofChange Rows.archiveSameSpec) own started (by kernel_rfl) Tryz.func6
  (witness_row_at (enc := enc) (C := Tryz.checked) false (World.laidAll Tryz.prog os Rows.archiveSameRow.laid) #[.string ⟨#[]⟩, .slice none 0 0, .slice none 0 0] (World.laidAll_os _ _ _) (by kernel_rfl) (by kernel_rfl) (by kernel_rfl)
    (OpenSpec.preRow_of_cond 8 hx (by kernel_rfl) (fun k hk => by cases hk) (by kernel_rfl) (arcSame_laid os))) ?_
 intro W base args ds gs before hval hW _ _ hsz _ _ _; have hV := hW; obtain ⟨_, _, _, hV, _⟩ := hV; obtain ⟨rfl, rfl⟩ := trodVars_none hV
 exact arcSame_contract H enc W base args ds [] before hval hW (by
  have h2 := hsz; rw [show (OpenSpec.ofChange Rows.archiveSameSpec).bare.plain.varTypes Tryz.checked.prog = [] from rfl, List.append_nil, List.append_nil] at h2
  exact h2)
theorem arcSame_j1 : (Rows.archiveSameRow.wf (OpenSpec.ofChange (OpenSpec.ofChange Rows.archiveSameSpec).bare)) = true := by kernel_rfl
theorem arcSame_j4 : (Tryz.f6.params.all (Tryz.prog.readableRec ·) && namedTie Tryz.prog Rows.archiveSameRow.named (OpenSpec.ofChange Rows.archiveSameSpec).bare.vars) = true := by kernel_rfl
theorem arcSame_j5 : ((Rows.archiveSameRow.stops == []) && (Tryz.prog.stops == []) && (Rows.archiveSameRow.knobs == []) && (Tryz.prog.stopKnobs == [])) = true := by kernel_rfl
theorem arcSame_j6 : (Rows.archiveSameRow.inPlace == Tryz.prog.inPlace 6) = true := by kernel_rfl
theorem arcSame_j7 : (Rows.archiveSameRow.unfollowed == Tryz.prog.unfollowed 6) = true := by kernel_rfl
theorem arcSame_j8 : (Rows.archiveSameRow.recurses == Tryz.prog.recurses 6) = true := by kernel_rfl
theorem arcSame_j9 : (Rows.archiveSameRow.named == Tryz.prog.varsNamed 6) = true := by kernel_rfl
theorem arcSame_j10 : ((Rows.archiveSameRow.maps == (Tryz.f6.params.toList ++ (OpenSpec.ofChange Rows.archiveSameSpec).bare.plain.varTypes Tryz.prog).any (Tryz.prog.mapsRec ·)) && (Rows.archiveSameRow.ifaces == (Tryz.f6.params.toList ++ (OpenSpec.ofChange Rows.archiveSameSpec).bare.plain.varTypes Tryz.prog).any (Tryz.prog.ifacesRec ·)) && (Rows.archiveSameRow.mapsOut == Tryz.prog.mapsAmong Tryz.f6.resultTypes.toList)) = true := by kernel_rfl
theorem arcSame_j11 : ((Rows.archiveSameRow.loops == (Tryz.f6.params.toList ++ (OpenSpec.ofChange Rows.archiveSameSpec).bare.plain.varTypes Tryz.prog).any (Tryz.prog.loopsFrom ·)) && (Rows.archiveSameRow.wideKeys == (Tryz.f6.params.toList ++ (OpenSpec.ofChange Rows.archiveSameSpec).bare.plain.varTypes Tryz.prog ++ Tryz.f6.resultTypes.toList).any (Tryz.prog.wideKeysFrom ·))) = true := by kernel_rfl
theorem arcSame_j12 : ((OpenSpec.ofChange Rows.archiveSameSpec).bare.vars.all (Tryz.prog.varReadable ·) && Tryz.f6.resultTypes.all (fun t => Tryz.prog.readableRec t && decide (t < Tryz.prog.types.size)) && (Rows.archiveSameRow.ifacesOut == Tryz.f6.resultTypes.toList.any (Tryz.prog.ifacesRec ·)) && (Rows.archiveSameRow.loopsOut == Tryz.f6.resultTypes.toList.any (Tryz.prog.loopsFrom ·))) = true := by kernel_rfl
theorem arcSame_j13 : (Rows.archiveSameRow.plainKeys == Tryz.prog.plainKeys) = true := by kernel_rfl
theorem arcSame_j14 : Rows.archiveSameRow.shortTexts.isNone = true := by kernel_rfl
theorem arcSame_j17 : (Rows.archiveSameRow.lifted == Tryz.prog.liftsFinal) = true := by kernel_rfl
theorem arcSame_j18 : (Tryz.prog.make == some Rows.archiveSameRow.make) = true := by kernel_rfl
theorem arcSame_j19 : (Rows.archiveSameRow.kinds == (if Rows.archiveSameRow.domain.isEmpty then [] else Tryz.f6.params.toList.map fun t => match Tryz.prog.underlying t with | some (.int k) => some k | _ => none)) = true := by kernel_rfl
theorem arcSame_j20 : (Rows.archiveSameRow.pinned == Rows.archiveSameRow.pinnedBy) = true := by kernel_rfl
theorem arcSame_j21 : (Rows.archiveSameRow.veiled == (Tryz.f6.params.toList ++ (OpenSpec.ofChange Rows.archiveSameSpec).bare.plain.varTypes Tryz.prog ++ Tryz.f6.resultTypes.toList).any (Tryz.prog.veiledRec ·)) = true := by kernel_rfl
theorem arcSame_j22 : (Rows.archiveSameRow.veiledFits Tryz.prog Tryz.f6.params.toList (Tryz.f6.params.toList ++ (OpenSpec.ofChange Rows.archiveSameSpec).bare.plain.varTypes Tryz.prog ++ Tryz.f6.resultTypes.toList)) = true := by kernel_rfl
theorem arcSame_closed : joinedFacts Tryz.prog 6 Tryz.f6 (OpenSpec.ofChange Rows.archiveSameSpec).bare Rows.archiveSameRow = true := joined_split arcSame_j1 laidOut jp_maps arcSame_j4 arcSame_j5 arcSame_j6 arcSame_j7 arcSame_j8 arcSame_j9 arcSame_j10 arcSame_j11 arcSame_j12 arcSame_j13 arcSame_j14 jp_heard jp_enter arcSame_j17 arcSame_j18 arcSame_j19 arcSame_j20 arcSame_j21 arcSame_j22
theorem arcSame_said : Rows.ArchiveSameSaid :=
 OpenClaim.holds_of_cond 6 Tryz.f6 rfl rfl rfl rfl rfl rfl rfl ⟨rfl, rfl, rfl, rfl, rfl⟩ rfl rfl rfl rfl rfl (by kernel_rfl) Tryz.func6 arcSame_closed
  (of_decide_eq_true (by kernel_rfl)) (by unfold Func.isWrapper; first | (rw [if_pos (by decide +kernel)]; kernel_rfl) | (rw [if_neg (by decide +kernel)]; exact ⟨rfl, rfl⟩))
  (fun os started H enc _ F => by rw [OpenClaim.pre_eq_preRow]; exact arcSame_lifted os started H enc F)
theorem arcSame_plain (f : FuncId) (fn : Func) (hf : Tryz.pinned.checked.prog.funcNamed Rows.archiveSameRow.func = some f) (hfn : Tryz.pinned.checked.prog.funcs[f]? = some fn) :
 false = Tryz.pinned.checked.prog.looks [] ∧ ∀ (j : Nat) t, fn.params[j]? = some t → Tryz.pinned.checked.prog.wantsStandIn t = false := by
 obtain rfl : f = 6 := Option.some.inj ((show Tryz.prog.funcNamed Rows.archiveSameRow.func = some 6 by kernel_rfl).symm.trans hf) |>.symm
 obtain rfl : fn = Tryz.f6 := (Option.some.inj (Tryz.func6.symm.trans hfn)).symm; refine ⟨by kernel_rfl, fun j t ht => ?_⟩
 rw [Tryz.params6] at ht; have hm : t ∈ [9, 22, 26] := by simpa using Array.mem_of_getElem? ht
 have hall : ([9, 22, 26].all fun u => !Tryz.prog.wantsStandIn u) = true := by kernel_rfl
 exact (show Tryz.prog.wantsStandIn t = false by simpa using List.all_eq_true.1 hall t hm)
theorem archiveSame_card : Rows.ArchiveSameCardSaid :=
 Claim7.holds_tied_plain_at .later [] _ _ _ _ arcSame_said (fun _ h => by cases h) (by kernel_rfl) (fun _ h => by cases h) archiveSame_row_tie rfl ⟨rfl, rfl⟩ (by kernel_rfl) rfl arcSame_plain (by kernel_rfl)
end Go.Proofs.YtboegjdkedjhcaaGreatDoor
