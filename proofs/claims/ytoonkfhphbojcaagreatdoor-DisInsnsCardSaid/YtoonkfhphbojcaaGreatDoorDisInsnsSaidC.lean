/- DisInsns, for every input: the law answers true and its arguments stay. -/
import Derived.Test.YtoonkfhphbojcaaGreatDoorCards
import Derived.Test.YtoonkfhphbojcaaGreatDoorTie
import Derived.Test.YtoonkfhphbojcaaGreatDoorBu33
import Derived.Test.YtoonkfhphbojcaaGreatDoorBu44
import Derived.Test.YtoonkfhphbojcaaGreatDoorBu46
import Derived.Test.YtoonkfhphbojcaaGreatDoorBu34
import Derived.Test.YtoonkfhphbojcaaGreatDoorBu24
import Derived.Deep.DeepWitnessRowRef
namespace Go.Proofs.YtoonkfhphbojcaaGreatDoor
open Go.ChangeShapes Go.WideShapes Go.ChangeAt Go.RowKit
open Go.ChangeMaps (open_string)
set_option maxRecDepth 100000 in
theorem disInsns_contract (H : Type) (enc : TypeId × Value → H) (W : World) (base : Nat) (args : Array Value) (ds gs : List (DataW H)) (before : List MemPlace)
    (hval : ∀ (j : Nat) t v, Tryz.f3.params[j]? = some t → args[j]? = some v → Value.okWide Tryz.prog W .any base t v)
    (hW : DataW.Whole enc Tryz.prog Tryz.f3.params.toList Rows.disInsnsSpec.vars false W args.toList ds gs before)
    (hsz : (DataW.weightsEach Tryz.prog Tryz.f3.params.toList ds).all (· ≤ reachBytes) = true) (hLaid : laidMet Tryz.prog Rows.disInsnsRow.laid W) (hShape : W.ShapedOpen Tryz.prog) :
    Calls Tryz.prog 3 args W fun e W' => ∃ v, e = .returned v ∧ Rows.disInsnsSpec.post enc Tryz.prog Tryz.f3 false true false false W args v W' := by
  have hLib := lib_laid33 hLaid hShape
  have hW' := hW
  obtain ⟨p, q, hA0, hV, rfl, hfz, hnd⟩ := hW
  have hA : DataW.TrodAll enc Tryz.prog W 0 (fun _ => true) true Tryz.f3.params.toList args.toList ds p := hA0
  rw [Tryz.params3] at hA hval hsz
  obtain ⟨v0, v1, v2, v3, d0, d1, d2, d3, p0, p1, p2, p3, rfl, rfl, rfl, h0, h1, h2, h3⟩ := trodAll_four hA
  obtain ⟨rfl, rfl⟩ := trodVars_none hV
  have hsz' : (DataW.weightsEach Tryz.prog [24, 9, 22, 9] [d0, d1, d2, d3]).all (· ≤ reachBytes) = true := hsz
  clear hsz
  have hk0 := hval 0 24 v0 rfl rfl
  have hm0 := small_each hsz' 0 24 d0 rfl rfl
  have hk1 := hval 1 9 v1 rfl rfl
  have hm1 := small_each hsz' 1 9 d1 rfl rfl
  have hk2 := hval 2 22 v2 rfl rfl
  have hm2 := small_each hsz' 2 22 d2 rfl rfl
  have hk3 := hval 3 9 v3 rfl rfl
  have hm3 := small_each hsz' 3 9 d3 rfl rfl
  obtain ⟨x0, rfl, hx0⟩ := open_insV hk0 h0 hm0
  obtain ⟨s1, rfl, rfl, rfl, ws1⟩ := open_string Tryz.underlying9 hk1 h1
  have hs1 : s1.size ≤ 140737488355328 := small_bytes hm1
  obtain ⟨x2, rfl, rfl, rfl, wf2⟩ := open_int Tryz.underlying22 hk2 h2
  have hb2 := bounds_u32 wf2
  obtain ⟨s3, rfl, rfl, rfl, ws3⟩ := open_string Tryz.underlying9 hk3 h3
  have hs3 : s3.size ≤ 140737488355328 := small_bytes hm3
  refine (disInsns_any x0 s1 x2 s3 W hLib hx0 hb2.1 hb2.2).mono fun e W' ⟨he, hbw⟩ => ?_
  subst he
  exact ⟨_, rfl, law_post (by kernel_rfl) rfl (by kernel_rfl) (by simpa using hW') rfl hbw⟩
theorem disInsns_laid (os : Os) : laidMet Tryz.prog Rows.disInsnsRow.laid ((World.laidAll Tryz.prog os Rows.disInsnsRow.laid).forCall (fun _ _ => 0) ⟨#[], #[.agg #[.int .u8 0, .int .u8 0, .int .u8 0, .int .u8 0, .int .u32 0], .string ⟨#[]⟩, .int .u32 0, .string ⟨#[]⟩], []⟩).memory :=
  laidMet_laidAll _ (by kernel_rfl) (by kernel_rfl)
theorem disInsns_reads (os : Os) {H : Type} (enc : TypeId × Value → H) : ∃ places, DataW.whole enc Tryz.prog ((World.laidAll Tryz.prog os Rows.disInsnsRow.laid).forCall (fun _ _ => 0) ⟨#[], #[.agg #[.int .u8 0, .int .u8 0, .int .u8 0, .int .u8 0, .int .u32 0], .string ⟨#[]⟩, .int .u32 0, .string ⟨#[]⟩], []⟩).memory Tryz.f3.params.toList Rows.disInsnsSpec.vars false (#[.agg #[.int .u8 0, .int .u8 0, .int .u8 0, .int .u8 0, .int .u32 0], .string ⟨#[]⟩, .int .u32 0, .string ⟨#[]⟩] : Array Value).toList 8 = some ([.agg [.lit (.int .u8 0), .lit (.int .u8 0), .lit (.int .u8 0), .lit (.int .u8 0), .lit (.int .u32 0)], .lit (.string []), .lit (.int .u32 0), .lit (.string [])], [], places) :=
  ⟨[], by kernel_rfl⟩
set_option maxRecDepth 100000 in
theorem disInsns_lifted (os : Os) (started : os.Started) (H : Type) (enc : TypeId × Value → H) (F : Stop.Interp) :
    ReturnsInHanded {} Tryz.checked os 3 .any ((OpenSpec.ofChange Rows.disInsnsSpec).preRow enc Tryz.prog Tryz.f3 Rows.disInsnsRow.domain false Rows.disInsnsRow.laid) (((OpenSpec.ofChange Rows.disInsnsSpec).at F).post enc Tryz.prog Tryz.f3 false true false false) := by
  obtain ⟨places, hx⟩ := disInsns_reads os enc
  refine returnsInHanded_of_row (C := Tryz.checked) (s := OpenSpec.ofChange Rows.disInsnsSpec) own started (by kernel_rfl) Tryz.func3
    (witness_row_atRef (enc := enc) (C := Tryz.checked) false (World.laidAll Tryz.prog os Rows.disInsnsRow.laid) #[.agg #[.int .u8 0, .int .u8 0, .int .u8 0, .int .u8 0, .int .u32 0], .string ⟨#[]⟩, .int .u32 0, .string ⟨#[]⟩] (World.laidAll_os _ _ _) (by kernel_rfl) (by kernel_rfl) (by kernel_rfl)
      (OpenSpec.preRow_of_cond 8 hx (by kernel_rfl) (fun k hk => by cases hk) (by kernel_rfl) (disInsns_laid os))) ?_
  intro W base args ds gs before hval hW _ _ hsz hLaid hShape _
  have hV := hW
  obtain ⟨_, _, _, hV, _⟩ := hV
  obtain ⟨rfl, rfl⟩ := trodVars_none hV
  exact disInsns_contract H enc W base args ds [] before hval hW (by
    have h2 := hsz
    rw [show (OpenSpec.ofChange Rows.disInsnsSpec).bare.plain.varTypes Tryz.checked.prog = [] from rfl, List.append_nil, List.append_nil] at h2
    exact h2) hLaid hShape
theorem disInsns_j1 : (Rows.disInsnsRow.wf (OpenSpec.ofChange (OpenSpec.ofChange Rows.disInsnsSpec).bare)) = true := by kernel_rfl
theorem disInsns_j4 : (Tryz.f3.params.all (Tryz.prog.readableRec ·) && namedTie Tryz.prog Rows.disInsnsRow.named (OpenSpec.ofChange Rows.disInsnsSpec).bare.vars) = true := by kernel_rfl
theorem disInsns_j5 : ((Rows.disInsnsRow.stops == []) && (Tryz.prog.stops == []) && (Rows.disInsnsRow.knobs == []) && (Tryz.prog.stopKnobs == [])) = true := by kernel_rfl
theorem disInsns_j6 : (Rows.disInsnsRow.inPlace == Tryz.prog.inPlace 3) = true := by kernel_rfl
theorem disInsns_j7 : (Rows.disInsnsRow.unfollowed == Tryz.prog.unfollowed 3) = true := by kernel_rfl
theorem disInsns_j8 : (Rows.disInsnsRow.recurses == Tryz.prog.recurses 3) = true := by kernel_rfl
theorem disInsns_j9 : (Rows.disInsnsRow.named == Tryz.prog.varsNamed 3) = true := by kernel_rfl
theorem disInsns_j10 : ((Rows.disInsnsRow.maps == (Tryz.f3.params.toList ++ (OpenSpec.ofChange Rows.disInsnsSpec).bare.plain.varTypes Tryz.prog).any (Tryz.prog.mapsRec ·)) && (Rows.disInsnsRow.ifaces == (Tryz.f3.params.toList ++ (OpenSpec.ofChange Rows.disInsnsSpec).bare.plain.varTypes Tryz.prog).any (Tryz.prog.ifacesRec ·)) && (Rows.disInsnsRow.mapsOut == Tryz.prog.mapsAmong Tryz.f3.resultTypes.toList)) = true := by kernel_rfl
theorem disInsns_j11 : ((Rows.disInsnsRow.loops == (Tryz.f3.params.toList ++ (OpenSpec.ofChange Rows.disInsnsSpec).bare.plain.varTypes Tryz.prog).any (Tryz.prog.loopsFrom ·)) && (Rows.disInsnsRow.wideKeys == (Tryz.f3.params.toList ++ (OpenSpec.ofChange Rows.disInsnsSpec).bare.plain.varTypes Tryz.prog ++ Tryz.f3.resultTypes.toList).any (Tryz.prog.wideKeysFrom ·))) = true := by kernel_rfl
theorem disInsns_j12 : ((OpenSpec.ofChange Rows.disInsnsSpec).bare.vars.all (Tryz.prog.varReadable ·) && Tryz.f3.resultTypes.all (fun t => Tryz.prog.readableRec t && decide (t < Tryz.prog.types.size)) && (Rows.disInsnsRow.ifacesOut == Tryz.f3.resultTypes.toList.any (Tryz.prog.ifacesRec ·)) && (Rows.disInsnsRow.loopsOut == Tryz.f3.resultTypes.toList.any (Tryz.prog.loopsFrom ·))) = true := by kernel_rfl
theorem disInsns_j13 : (Rows.disInsnsRow.plainKeys == Tryz.prog.plainKeys) = true := by kernel_rfl
theorem disInsns_j14 : Rows.disInsnsRow.shortTexts.isNone = true := by kernel_rfl
theorem disInsns_j17 : (Rows.disInsnsRow.lifted == Tryz.prog.liftsFinal) = true := by kernel_rfl
theorem disInsns_j18 : (Tryz.prog.make == some Rows.disInsnsRow.make) = true := by kernel_rfl
theorem disInsns_j19 : (Rows.disInsnsRow.kinds == (if Rows.disInsnsRow.domain.isEmpty then [] else Tryz.f3.params.toList.map fun t => match Tryz.prog.underlying t with | some (.int k) => some k | _ => none)) = true := by kernel_rfl
theorem disInsns_j20 : (Rows.disInsnsRow.pinned == Rows.disInsnsRow.pinnedBy) = true := by kernel_rfl
theorem disInsns_j21 : (Rows.disInsnsRow.veiled == (Tryz.f3.params.toList ++ (OpenSpec.ofChange Rows.disInsnsSpec).bare.plain.varTypes Tryz.prog ++ Tryz.f3.resultTypes.toList).any (Tryz.prog.veiledRec ·)) = true := by kernel_rfl
theorem disInsns_j22 : (Rows.disInsnsRow.veiledFits Tryz.prog Tryz.f3.params.toList (Tryz.f3.params.toList ++ (OpenSpec.ofChange Rows.disInsnsSpec).bare.plain.varTypes Tryz.prog ++ Tryz.f3.resultTypes.toList)) = true := by kernel_rfl
set_option maxRecDepth 100000 in
theorem disInsns_closed : joinedFacts Tryz.prog 3 Tryz.f3 (OpenSpec.ofChange Rows.disInsnsSpec).bare Rows.disInsnsRow = true := joined_split disInsns_j1 laidOut jp_maps disInsns_j4 disInsns_j5 disInsns_j6 disInsns_j7 disInsns_j8 disInsns_j9 disInsns_j10 disInsns_j11 disInsns_j12 disInsns_j13 disInsns_j14 jp_heard jp_enter disInsns_j17 disInsns_j18 disInsns_j19 disInsns_j20 disInsns_j21 disInsns_j22
theorem disInsns_said : Rows.DisInsnsSaid :=
  OpenClaim.holds_of_cond 3 Tryz.f3 rfl rfl rfl rfl rfl rfl rfl ⟨rfl, rfl, rfl, rfl, rfl⟩ rfl rfl rfl rfl rfl (by kernel_rfl) Tryz.func3 disInsns_closed
    (of_decide_eq_true (by kernel_rfl)) (by unfold Func.isWrapper; first | (rw [if_pos (by decide +kernel)]; kernel_rfl) | (rw [if_neg (by decide +kernel)]; exact ⟨rfl, rfl⟩))
    (fun os started H enc _ F => by rw [OpenClaim.pre_eq_preRow]; exact disInsns_lifted os started H enc F)
theorem disInsns_plain (f : FuncId) (fn : Func) (hf : Tryz.pinned.checked.prog.funcNamed Rows.disInsnsRow.func = some f) (hfn : Tryz.pinned.checked.prog.funcs[f]? = some fn) :
    true = Tryz.pinned.checked.prog.looks [] ∧ ∀ (j : Nat) t, fn.params[j]? = some t → Tryz.pinned.checked.prog.wantsStandIn t = false := by
  obtain rfl : f = 3 := Option.some.inj ((show Tryz.prog.funcNamed Rows.disInsnsRow.func = some 3 by kernel_rfl).symm.trans hf) |>.symm
  obtain rfl : fn = Tryz.f3 := (Option.some.inj (Tryz.func3.symm.trans hfn)).symm
  refine ⟨by kernel_rfl, fun j t ht => ?_⟩
  rw [Tryz.params3] at ht
  have hm : t ∈ [24, 9, 22, 9] := by simpa using Array.mem_of_getElem? ht
  have hall : ([24, 9, 22, 9].all fun u => !Tryz.prog.wantsStandIn u) = true := by kernel_rfl
  exact (show Tryz.prog.wantsStandIn t = false by simpa using List.all_eq_true.1 hall t hm)
theorem disInsns_card : Rows.DisInsnsCardSaid :=
  Claim7.holds_tied_plain_at .later [] _ _ _ _ disInsns_said (fun _ h => by cases h) (by kernel_rfl) (fun _ h => by cases h) disInsns_row_tie rfl ⟨rfl, rfl⟩ (by kernel_rfl) rfl disInsns_plain (by kernel_rfl)
end Go.Proofs.YtoonkfhphbojcaaGreatDoor
