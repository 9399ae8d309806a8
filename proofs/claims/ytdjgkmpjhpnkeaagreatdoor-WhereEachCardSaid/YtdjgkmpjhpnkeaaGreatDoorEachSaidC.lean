/- WhereEach, for every input: the law answers true and its arguments stay. -/
import Derived.Test.YtdjgkmpjhpnkeaaGreatDoorCards
import Derived.Test.YtdjgkmpjhpnkeaaGreatDoorTie
import Derived.Test.YtdjgkmpjhpnkeaaGreatDoorBd01
import Derived.Test.YtdjgkmpjhpnkeaaGreatDoorBd31
import Derived.Test.YtdjgkmpjhpnkeaaGreatDoorBd32
import Derived.Test.YtdjgkmpjhpnkeaaGreatDoorBd04
namespace Go.Proofs.YtdjgkmpjhpnkeaaGreatDoor
open Go.ChangeShapes Go.WideShapes Go.ChangeAt Go.RowKit
open Go.ChangeMaps (open_string)
set_option maxRecDepth 100000 in
theorem weach_contract (H : Type) (enc : TypeId × Value → H) (W : World) (base : Nat) (args : Array Value) (ds gs : List (DataW H)) (before : List MemPlace)
    (hval : ∀ (j : Nat) t v, Tryz.f5.params[j]? = some t → args[j]? = some v → Value.okWide Tryz.prog W .any base t v)
    (hW : DataW.Whole enc Tryz.prog Tryz.f5.params.toList Rows.whereEachSpec.vars false W args.toList ds gs before)
    (hsz : (DataW.weightsEach Tryz.prog Tryz.f5.params.toList ds).all (· ≤ reachBytes) = true) :
    Calls Tryz.prog 5 args W fun e W' => ∃ v, e = .returned v ∧ Rows.whereEachSpec.post enc Tryz.prog Tryz.f5 false true false false W args v W' := by
  have hW' := hW
  obtain ⟨p, q, hA0, hV, rfl, hfz, hnd⟩ := hW
  have hA : DataW.TrodAll enc Tryz.prog W 0 (fun _ => true) true Tryz.f5.params.toList args.toList ds p := hA0
  rw [Tryz.params5] at hA hval hsz
  obtain ⟨v0, v1, v2, v3, d0, d1, d2, d3, p0, p1, p2, p3, rfl, rfl, rfl, h0, h1, h2, h3⟩ := trodAll_four hA
  obtain ⟨rfl, rfl⟩ := trodVars_none hV
  have hsz' : (DataW.weightsEach Tryz.prog [9, 23, 27, 60] [d0, d1, d2, d3]).all (· ≤ reachBytes) = true := hsz
  clear hsz
  have hk0 := hval 0 9 v0 rfl rfl
  have hm0 := small_each hsz' 0 9 d0 rfl rfl
  have hk1 := hval 1 23 v1 rfl rfl
  have hm1 := small_each hsz' 1 23 d1 rfl rfl
  have hk2 := hval 2 27 v2 rfl rfl
  have hm2 := small_each hsz' 2 27 d2 rfl rfl
  have hk3 := hval 3 60 v3 rfl rfl
  have hm3 := small_each hsz' 3 60 d3 rfl rfl
  obtain ⟨s0, rfl, rfl, rfl, ws0⟩ := open_string Tryz.underlying9 hk0 h0
  have hs0 : s0.size ≤ 140737488355328 := small_bytes hm0
  obtain ⟨a1, n1, c1, hv1⟩ := okWide_slice Tryz.underlying23 hk1
  obtain ⟨l1, hl1, hbd1⟩ := open_objsB h1 ⟨a1, n1, c1, hv1⟩ hm1
  obtain ⟨x2, rfl, rfl, rfl, wf2⟩ := open_int Tryz.underlying27 hk2 h2
  have hb2 := bounds_u32 wf2
  obtain ⟨x3, rfl, rfl, rfl, wf3⟩ := open_int Tryz.underlying60 hk3 h3
  have hb3 := bounds_u16 wf3
  refine (each34_any sort_ok v1 l1 s0 x2 x3 W hl1 hs0 hb2 hb3).mono fun e W' ⟨he, hbw⟩ => ?_
  subst he
  exact ⟨_, rfl, law_post (by kernel_rfl) rfl (by kernel_rfl) (by simpa using hW') rfl hbw⟩
theorem weach_laid (os : Os) : laidMet Tryz.prog Rows.whereEachRow.laid ((World.laidAll Tryz.prog os Rows.whereEachRow.laid).forCall (fun _ _ => 0) ⟨#[], #[.string ⟨#[]⟩, .slice none 0 0, .int .u32 0, .int .u16 0], []⟩).memory :=
  laidMet_laidAll _ (by kernel_rfl) (by kernel_rfl)
theorem weach_reads (os : Os) {H : Type} (enc : TypeId × Value → H) : ∃ places, DataW.whole enc Tryz.prog ((World.laidAll Tryz.prog os Rows.whereEachRow.laid).forCall (fun _ _ => 0) ⟨#[], #[.string ⟨#[]⟩, .slice none 0 0, .int .u32 0, .int .u16 0], []⟩).memory Tryz.f5.params.toList Rows.whereEachSpec.vars false (#[.string ⟨#[]⟩, .slice none 0 0, .int .u32 0, .int .u16 0] : Array Value).toList 8 = some ([.lit (.string []), .nil, .lit (.int .u32 0), .lit (.int .u16 0)], [], places) :=
  ⟨[], by kernel_rfl⟩
set_option maxRecDepth 100000 in
theorem weach_lifted (os : Os) (started : os.Started) (H : Type) (enc : TypeId × Value → H) (F : Stop.Interp) :
    ReturnsInHanded {} Tryz.checked os 5 .any ((OpenSpec.ofChange Rows.whereEachSpec).preRow enc Tryz.prog Tryz.f5 Rows.whereEachRow.domain false Rows.whereEachRow.laid) (((OpenSpec.ofChange Rows.whereEachSpec).at F).post enc Tryz.prog Tryz.f5 false true false false) := by
  obtain ⟨places, hx⟩ := weach_reads os enc
  refine returnsInHanded_of_row (C := Tryz.checked) (s := OpenSpec.ofChange Rows.whereEachSpec) own started (by kernel_rfl) Tryz.func5
    (witness_row_at (enc := enc) (C := Tryz.checked) false (World.laidAll Tryz.prog os Rows.whereEachRow.laid) #[.string ⟨#[]⟩, .slice none 0 0, .int .u32 0, .int .u16 0] (World.laidAll_os _ _ _) (by kernel_rfl) (by kernel_rfl) (by kernel_rfl)
      (OpenSpec.preRow_of_cond 8 hx (by kernel_rfl) (fun k hk => by cases hk) (by kernel_rfl) (weach_laid os))) ?_
  intro W base args ds gs before hval hW _ _ hsz _ _ _
  have hV := hW
  obtain ⟨_, _, _, hV, _⟩ := hV
  obtain ⟨rfl, rfl⟩ := trodVars_none hV
  exact weach_contract H enc W base args ds [] before hval hW (by
    have h2 := hsz
    rw [show (OpenSpec.ofChange Rows.whereEachSpec).bare.plain.varTypes Tryz.checked.prog = [] from rfl, List.append_nil, List.append_nil] at h2
    exact h2)
theorem weach_j1 : (Rows.whereEachRow.wf (OpenSpec.ofChange (OpenSpec.ofChange Rows.whereEachSpec).bare)) = true := by kernel_rfl
theorem weach_j4 : (Tryz.f5.params.all (Tryz.prog.readableRec ·) && namedTie Tryz.prog Rows.whereEachRow.named (OpenSpec.ofChange Rows.whereEachSpec).bare.vars) = true := by kernel_rfl
theorem weach_j5 : ((Rows.whereEachRow.stops == []) && (Tryz.prog.stops == []) && (Rows.whereEachRow.knobs == []) && (Tryz.prog.stopKnobs == [])) = true := by kernel_rfl
theorem weach_j6 : (Rows.whereEachRow.inPlace == Tryz.prog.inPlace 5) = true := by kernel_rfl
theorem weach_j7 : (Rows.whereEachRow.unfollowed == Tryz.prog.unfollowed 5) = true := by kernel_rfl
theorem weach_j8 : (Rows.whereEachRow.recurses == Tryz.prog.recurses 5) = true := by kernel_rfl
theorem weach_j9 : (Rows.whereEachRow.named == Tryz.prog.varsNamed 5) = true := by kernel_rfl
theorem weach_j10 : ((Rows.whereEachRow.maps == (Tryz.f5.params.toList ++ (OpenSpec.ofChange Rows.whereEachSpec).bare.plain.varTypes Tryz.prog).any (Tryz.prog.mapsRec ·)) && (Rows.whereEachRow.ifaces == (Tryz.f5.params.toList ++ (OpenSpec.ofChange Rows.whereEachSpec).bare.plain.varTypes Tryz.prog).any (Tryz.prog.ifacesRec ·)) && (Rows.whereEachRow.mapsOut == Tryz.prog.mapsAmong Tryz.f5.resultTypes.toList)) = true := by kernel_rfl
theorem weach_j11 : ((Rows.whereEachRow.loops == (Tryz.f5.params.toList ++ (OpenSpec.ofChange Rows.whereEachSpec).bare.plain.varTypes Tryz.prog).any (Tryz.prog.loopsFrom ·)) && (Rows.whereEachRow.wideKeys == (Tryz.f5.params.toList ++ (OpenSpec.ofChange Rows.whereEachSpec).bare.plain.varTypes Tryz.prog ++ Tryz.f5.resultTypes.toList).any (Tryz.prog.wideKeysFrom ·))) = true := by kernel_rfl
theorem weach_j12 : ((OpenSpec.ofChange Rows.whereEachSpec).bare.vars.all (Tryz.prog.varReadable ·) && Tryz.f5.resultTypes.all (fun t => Tryz.prog.readableRec t && decide (t < Tryz.prog.types.size)) && (Rows.whereEachRow.ifacesOut == Tryz.f5.resultTypes.toList.any (Tryz.prog.ifacesRec ·)) && (Rows.whereEachRow.loopsOut == Tryz.f5.resultTypes.toList.any (Tryz.prog.loopsFrom ·))) = true := by kernel_rfl
theorem weach_j13 : (Rows.whereEachRow.plainKeys == Tryz.prog.plainKeys) = true := by kernel_rfl
theorem weach_j14 : Rows.whereEachRow.shortTexts.isNone = true := by kernel_rfl
theorem weach_j17 : (Rows.whereEachRow.lifted == Tryz.prog.liftsFinal) = true := by kernel_rfl
theorem weach_j18 : (Tryz.prog.make == some Rows.whereEachRow.make) = true := by kernel_rfl
theorem weach_j19 : (Rows.whereEachRow.kinds == (if Rows.whereEachRow.domain.isEmpty then [] else Tryz.f5.params.toList.map fun t => match Tryz.prog.underlying t with | some (.int k) => some k | _ => none)) = true := by kernel_rfl
theorem weach_j20 : (Rows.whereEachRow.pinned == Rows.whereEachRow.pinnedBy) = true := by kernel_rfl
theorem weach_j21 : (Rows.whereEachRow.veiled == (Tryz.f5.params.toList ++ (OpenSpec.ofChange Rows.whereEachSpec).bare.plain.varTypes Tryz.prog ++ Tryz.f5.resultTypes.toList).any (Tryz.prog.veiledRec ·)) = true := by kernel_rfl
theorem weach_j22 : (Rows.whereEachRow.veiledFits Tryz.prog Tryz.f5.params.toList (Tryz.f5.params.toList ++ (OpenSpec.ofChange Rows.whereEachSpec).bare.plain.varTypes Tryz.prog ++ Tryz.f5.resultTypes.toList)) = true := by kernel_rfl
set_option maxRecDepth 100000 in
theorem weach_closed : joinedFacts Tryz.prog 5 Tryz.f5 (OpenSpec.ofChange Rows.whereEachSpec).bare Rows.whereEachRow = true := joined_split weach_j1 laidOut jp_maps weach_j4 weach_j5 weach_j6 weach_j7 weach_j8 weach_j9 weach_j10 weach_j11 weach_j12 weach_j13 weach_j14 jp_heard jp_enter weach_j17 weach_j18 weach_j19 weach_j20 weach_j21 weach_j22
theorem weach_said : Rows.WhereEachSaid :=
  OpenClaim.holds_of_cond 5 Tryz.f5 rfl rfl rfl rfl rfl rfl rfl ⟨rfl, rfl, rfl, rfl, rfl⟩ rfl rfl rfl rfl rfl (by kernel_rfl) Tryz.func5 weach_closed
    (of_decide_eq_true (by kernel_rfl)) (by unfold Func.isWrapper; first | (rw [if_pos (by decide +kernel)]; kernel_rfl) | (rw [if_neg (by decide +kernel)]; exact ⟨rfl, rfl⟩))
    (fun os started H enc _ F => by rw [OpenClaim.pre_eq_preRow]; exact weach_lifted os started H enc F)
theorem weach_plain (f : FuncId) (fn : Func) (hf : Tryz.pinned.checked.prog.funcNamed Rows.whereEachRow.func = some f) (hfn : Tryz.pinned.checked.prog.funcs[f]? = some fn) :
    false = Tryz.pinned.checked.prog.looks [] ∧ ∀ (j : Nat) t, fn.params[j]? = some t → Tryz.pinned.checked.prog.wantsStandIn t = false := by
  obtain rfl : f = 5 := Option.some.inj ((show Tryz.prog.funcNamed Rows.whereEachRow.func = some 5 by kernel_rfl).symm.trans hf) |>.symm
  obtain rfl : fn = Tryz.f5 := (Option.some.inj (Tryz.func5.symm.trans hfn)).symm
  refine ⟨by kernel_rfl, fun j t ht => ?_⟩
  rw [Tryz.params5] at ht
  have hm : t ∈ [9, 23, 27, 60] := by simpa using Array.mem_of_getElem? ht
  have hall : ([9, 23, 27, 60].all fun u => !Tryz.prog.wantsStandIn u) = true := by kernel_rfl
  exact (show Tryz.prog.wantsStandIn t = false by simpa using List.all_eq_true.1 hall t hm)
theorem whereEach_card : Rows.WhereEachCardSaid :=
  Claim7.holds_tied_plain_at .later [] _ _ _ _ weach_said (fun _ h => by cases h) (by kernel_rfl) (fun _ h => by cases h) whereEach_row_tie rfl ⟨rfl, rfl⟩ (by kernel_rfl) rfl weach_plain (by kernel_rfl)
end Go.Proofs.YtdjgkmpjhpnkeaaGreatDoor
