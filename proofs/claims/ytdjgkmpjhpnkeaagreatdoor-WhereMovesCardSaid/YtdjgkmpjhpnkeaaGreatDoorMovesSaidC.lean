/- WhereMoves, for every input: the law answers true and its arguments stay. -/
import Derived.Test.YtdjgkmpjhpnkeaaGreatDoorCards
import Derived.Test.YtdjgkmpjhpnkeaaGreatDoorTie
import Derived.Test.YtdjgkmpjhpnkeaaGreatDoorBd01
import Derived.Test.YtdjgkmpjhpnkeaaGreatDoorBd32
import Derived.Test.YtdjgkmpjhpnkeaaGreatDoorBd04
namespace Go.Proofs.YtdjgkmpjhpnkeaaGreatDoor
open Go.ChangeShapes Go.WideShapes Go.ChangeAt Go.RowKit
open Go.ChangeMaps (open_string)
set_option maxRecDepth 100000 in
theorem wmoves_contract (H : Type) (enc : TypeId × Value → H) (W : World) (base : Nat) (args : Array Value) (ds gs : List (DataW H)) (before : List MemPlace)
    (hval : ∀ (j : Nat) t v, Tryz.f4.params[j]? = some t → args[j]? = some v → Value.okWide Tryz.prog W .any base t v)
    (hW : DataW.Whole enc Tryz.prog Tryz.f4.params.toList Rows.whereMovesSpec.vars false W args.toList ds gs before)
    (hsz : (DataW.weightsEach Tryz.prog Tryz.f4.params.toList ds).all (· ≤ reachBytes) = true) :
    Calls Tryz.prog 4 args W fun e W' => ∃ v, e = .returned v ∧ Rows.whereMovesSpec.post enc Tryz.prog Tryz.f4 false true false false W args v W' := by
  have hW' := hW
  obtain ⟨p, q, hA0, hV, rfl, hfz, hnd⟩ := hW
  have hA : DataW.TrodAll enc Tryz.prog W 0 (fun _ => true) true Tryz.f4.params.toList args.toList ds p := hA0
  rw [Tryz.params4] at hA hval hsz
  obtain ⟨v0, v1, d0, d1, p0, p1, rfl, rfl, rfl, h0, h1⟩ := trodAll_two hA
  obtain ⟨rfl, rfl⟩ := trodVars_none hV
  have hsz' : (DataW.weightsEach Tryz.prog [9, 23] [d0, d1]).all (· ≤ reachBytes) = true := hsz
  clear hsz
  have hk0 := hval 0 9 v0 rfl rfl
  have hm0 := small_each hsz' 0 9 d0 rfl rfl
  have hk1 := hval 1 23 v1 rfl rfl
  have hm1 := small_each hsz' 1 23 d1 rfl rfl
  obtain ⟨s0, rfl, rfl, rfl, ws0⟩ := open_string Tryz.underlying9 hk0 h0
  have hs0 : s0.size ≤ 140737488355328 := small_bytes hm0
  obtain ⟨a1, n1, c1, hv1⟩ := okWide_slice Tryz.underlying23 hk1
  obtain ⟨l1, hl1, hbd1⟩ := open_objsB h1 ⟨a1, n1, c1, hv1⟩ hm1
  refine (moves34_any sort_ok v1 l1 s0 W hl1 hs0).mono fun e W' ⟨he, hbw⟩ => ?_
  subst he
  exact ⟨_, rfl, law_post (by kernel_rfl) rfl (by kernel_rfl) (by simpa using hW') rfl hbw⟩
theorem wmoves_laid (os : Os) : laidMet Tryz.prog Rows.whereMovesRow.laid ((World.laidAll Tryz.prog os Rows.whereMovesRow.laid).forCall (fun _ _ => 0) ⟨#[], #[.string ⟨#[]⟩, .slice none 0 0], []⟩).memory :=
  laidMet_laidAll _ (by kernel_rfl) (by kernel_rfl)
theorem wmoves_reads (os : Os) {H : Type} (enc : TypeId × Value → H) : ∃ places, DataW.whole enc Tryz.prog ((World.laidAll Tryz.prog os Rows.whereMovesRow.laid).forCall (fun _ _ => 0) ⟨#[], #[.string ⟨#[]⟩, .slice none 0 0], []⟩).memory Tryz.f4.params.toList Rows.whereMovesSpec.vars false (#[.string ⟨#[]⟩, .slice none 0 0] : Array Value).toList 8 = some ([.lit (.string []), .nil], [], places) :=
  ⟨[], by kernel_rfl⟩
set_option maxRecDepth 100000 in
theorem wmoves_lifted (os : Os) (started : os.Started) (H : Type) (enc : TypeId × Value → H) (F : Stop.Interp) :
    ReturnsInHanded {} Tryz.checked os 4 .any ((OpenSpec.ofChange Rows.whereMovesSpec).preRow enc Tryz.prog Tryz.f4 Rows.whereMovesRow.domain false Rows.whereMovesRow.laid) (((OpenSpec.ofChange Rows.whereMovesSpec).at F).post enc Tryz.prog Tryz.f4 false true false false) := by
  obtain ⟨places, hx⟩ := wmoves_reads os enc
  refine returnsInHanded_of_row (C := Tryz.checked) (s := OpenSpec.ofChange Rows.whereMovesSpec) own started (by kernel_rfl) Tryz.func4
    (witness_row_at (enc := enc) (C := Tryz.checked) false (World.laidAll Tryz.prog os Rows.whereMovesRow.laid) #[.string ⟨#[]⟩, .slice none 0 0] (World.laidAll_os _ _ _) (by kernel_rfl) (by kernel_rfl) (by kernel_rfl)
      (OpenSpec.preRow_of_cond 8 hx (by kernel_rfl) (fun k hk => by cases hk) (by kernel_rfl) (wmoves_laid os))) ?_
  intro W base args ds gs before hval hW _ _ hsz _ _ _
  have hV := hW
  obtain ⟨_, _, _, hV, _⟩ := hV
  obtain ⟨rfl, rfl⟩ := trodVars_none hV
  exact wmoves_contract H enc W base args ds [] before hval hW (by
    have h2 := hsz
    rw [show (OpenSpec.ofChange Rows.whereMovesSpec).bare.plain.varTypes Tryz.checked.prog = [] from rfl, List.append_nil, List.append_nil] at h2
    exact h2)
theorem wmoves_j1 : (Rows.whereMovesRow.wf (OpenSpec.ofChange (OpenSpec.ofChange Rows.whereMovesSpec).bare)) = true := by kernel_rfl
theorem wmoves_j4 : (Tryz.f4.params.all (Tryz.prog.readableRec ·) && namedTie Tryz.prog Rows.whereMovesRow.named (OpenSpec.ofChange Rows.whereMovesSpec).bare.vars) = true := by kernel_rfl
theorem wmoves_j5 : ((Rows.whereMovesRow.stops == []) && (Tryz.prog.stops == []) && (Rows.whereMovesRow.knobs == []) && (Tryz.prog.stopKnobs == [])) = true := by kernel_rfl
theorem wmoves_j6 : (Rows.whereMovesRow.inPlace == Tryz.prog.inPlace 4) = true := by kernel_rfl
theorem wmoves_j7 : (Rows.whereMovesRow.unfollowed == Tryz.prog.unfollowed 4) = true := by kernel_rfl
theorem wmoves_j8 : (Rows.whereMovesRow.recurses == Tryz.prog.recurses 4) = true := by kernel_rfl
theorem wmoves_j9 : (Rows.whereMovesRow.named == Tryz.prog.varsNamed 4) = true := by kernel_rfl
theorem wmoves_j10 : ((Rows.whereMovesRow.maps == (Tryz.f4.params.toList ++ (OpenSpec.ofChange Rows.whereMovesSpec).bare.plain.varTypes Tryz.prog).any (Tryz.prog.mapsRec ·)) && (Rows.whereMovesRow.ifaces == (Tryz.f4.params.toList ++ (OpenSpec.ofChange Rows.whereMovesSpec).bare.plain.varTypes Tryz.prog).any (Tryz.prog.ifacesRec ·)) && (Rows.whereMovesRow.mapsOut == Tryz.prog.mapsAmong Tryz.f4.resultTypes.toList)) = true := by kernel_rfl
theorem wmoves_j11 : ((Rows.whereMovesRow.loops == (Tryz.f4.params.toList ++ (OpenSpec.ofChange Rows.whereMovesSpec).bare.plain.varTypes Tryz.prog).any (Tryz.prog.loopsFrom ·)) && (Rows.whereMovesRow.wideKeys == (Tryz.f4.params.toList ++ (OpenSpec.ofChange Rows.whereMovesSpec).bare.plain.varTypes Tryz.prog ++ Tryz.f4.resultTypes.toList).any (Tryz.prog.wideKeysFrom ·))) = true := by kernel_rfl
theorem wmoves_j12 : ((OpenSpec.ofChange Rows.whereMovesSpec).bare.vars.all (Tryz.prog.varReadable ·) && Tryz.f4.resultTypes.all (fun t => Tryz.prog.readableRec t && decide (t < Tryz.prog.types.size)) && (Rows.whereMovesRow.ifacesOut == Tryz.f4.resultTypes.toList.any (Tryz.prog.ifacesRec ·)) && (Rows.whereMovesRow.loopsOut == Tryz.f4.resultTypes.toList.any (Tryz.prog.loopsFrom ·))) = true := by kernel_rfl
theorem wmoves_j13 : (Rows.whereMovesRow.plainKeys == Tryz.prog.plainKeys) = true := by kernel_rfl
theorem wmoves_j14 : Rows.whereMovesRow.shortTexts.isNone = true := by kernel_rfl
theorem wmoves_j17 : (Rows.whereMovesRow.lifted == Tryz.prog.liftsFinal) = true := by kernel_rfl
theorem wmoves_j18 : (Tryz.prog.make == some Rows.whereMovesRow.make) = true := by kernel_rfl
theorem wmoves_j19 : (Rows.whereMovesRow.kinds == (if Rows.whereMovesRow.domain.isEmpty then [] else Tryz.f4.params.toList.map fun t => match Tryz.prog.underlying t with | some (.int k) => some k | _ => none)) = true := by kernel_rfl
theorem wmoves_j20 : (Rows.whereMovesRow.pinned == Rows.whereMovesRow.pinnedBy) = true := by kernel_rfl
theorem wmoves_j21 : (Rows.whereMovesRow.veiled == (Tryz.f4.params.toList ++ (OpenSpec.ofChange Rows.whereMovesSpec).bare.plain.varTypes Tryz.prog ++ Tryz.f4.resultTypes.toList).any (Tryz.prog.veiledRec ·)) = true := by kernel_rfl
theorem wmoves_j22 : (Rows.whereMovesRow.veiledFits Tryz.prog Tryz.f4.params.toList (Tryz.f4.params.toList ++ (OpenSpec.ofChange Rows.whereMovesSpec).bare.plain.varTypes Tryz.prog ++ Tryz.f4.resultTypes.toList)) = true := by kernel_rfl
set_option maxRecDepth 100000 in
theorem wmoves_closed : joinedFacts Tryz.prog 4 Tryz.f4 (OpenSpec.ofChange Rows.whereMovesSpec).bare Rows.whereMovesRow = true := joined_split wmoves_j1 laidOut jp_maps wmoves_j4 wmoves_j5 wmoves_j6 wmoves_j7 wmoves_j8 wmoves_j9 wmoves_j10 wmoves_j11 wmoves_j12 wmoves_j13 wmoves_j14 jp_heard jp_enter wmoves_j17 wmoves_j18 wmoves_j19 wmoves_j20 wmoves_j21 wmoves_j22
theorem wmoves_said : Rows.WhereMovesSaid :=
  OpenClaim.holds_of_cond 4 Tryz.f4 rfl rfl rfl rfl rfl rfl rfl ⟨rfl, rfl, rfl, rfl, rfl⟩ rfl rfl rfl rfl rfl (by kernel_rfl) Tryz.func4 wmoves_closed
    (of_decide_eq_true (by kernel_rfl)) (by unfold Func.isWrapper; first | (rw [if_pos (by decide +kernel)]; kernel_rfl) | (rw [if_neg (by decide +kernel)]; exact ⟨rfl, rfl⟩))
    (fun os started H enc _ F => by rw [OpenClaim.pre_eq_preRow]; exact wmoves_lifted os started H enc F)
theorem wmoves_plain (f : FuncId) (fn : Func) (hf : Tryz.pinned.checked.prog.funcNamed Rows.whereMovesRow.func = some f) (hfn : Tryz.pinned.checked.prog.funcs[f]? = some fn) :
    false = Tryz.pinned.checked.prog.looks [] ∧ ∀ (j : Nat) t, fn.params[j]? = some t → Tryz.pinned.checked.prog.wantsStandIn t = false := by
  obtain rfl : f = 4 := Option.some.inj ((show Tryz.prog.funcNamed Rows.whereMovesRow.func = some 4 by kernel_rfl).symm.trans hf) |>.symm
  obtain rfl : fn = Tryz.f4 := (Option.some.inj (Tryz.func4.symm.trans hfn)).symm
  refine ⟨by kernel_rfl, fun j t ht => ?_⟩
  rw [Tryz.params4] at ht
  have hm : t ∈ [9, 23] := by simpa using Array.mem_of_getElem? ht
  have hall : ([9, 23].all fun u => !Tryz.prog.wantsStandIn u) = true := by kernel_rfl
  exact (show Tryz.prog.wantsStandIn t = false by simpa using List.all_eq_true.1 hall t hm)
theorem whereMoves_card : Rows.WhereMovesCardSaid :=
  Claim7.holds_tied_plain_at .later [] _ _ _ _ wmoves_said (fun _ h => by cases h) (by kernel_rfl) (fun _ h => by cases h) whereMoves_row_tie rfl ⟨rfl, rfl⟩ (by kernel_rfl) rfl wmoves_plain (by kernel_rfl)
end Go.Proofs.YtdjgkmpjhpnkeaaGreatDoor
