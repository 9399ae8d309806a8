/- AuditTells, for every input: the law answers true and its arguments stay. -/
import Derived.Test.YtghopakbefageaaGreatBt04
import Derived.Test.YtghopakbefageaaGreatBt27
import Derived.Test.YtghopakbefageaaGreatBt46
import Derived.Test.YtghopakbefageaaGreatBt42
namespace Go.Proofs.YtghopakbefageaaGreat
open Go.ChangeShapes Go.WideShapes Go.ChangeAt Go.RowKit
open Go.ChangeMaps (open_string)
set_option maxRecDepth 100000 in
theorem auditTells_contract (H : Type) (enc : TypeId × Value → H) (W : World) (base : Nat) (args : Array Value) (ds gs : List (DataW H)) (before : List MemPlace)
    (hval : ∀ (j : Nat) t v, Tryz.f3.params[j]? = some t → args[j]? = some v → Value.okWide Tryz.prog W .any base t v)
    (hW : DataW.Whole enc Tryz.prog Tryz.f3.params.toList Rows.auditTellsSpec.vars false W args.toList ds gs before)
    (hsz : (DataW.weightsEach Tryz.prog Tryz.f3.params.toList ds).all (· ≤ reachBytes) = true) :
    Calls Tryz.prog 3 args W fun e W' => ∃ v, e = .returned v ∧ Rows.auditTellsSpec.post enc Tryz.prog Tryz.f3 false true false false W args v W' := by
  have hW' := hW
  obtain ⟨p, q, hA0, hV, rfl, hfz, hnd⟩ := hW
  have hA : DataW.TrodAll enc Tryz.prog W 0 (fun _ => true) true Tryz.f3.params.toList args.toList ds p := hA0
  rw [Tryz.params3] at hA hval hsz
  obtain ⟨v0, v1, v2, d0, d1, d2, p0, p1, p2, rfl, rfl, rfl, h0, h1, h2⟩ := trodAll_three hA
  obtain ⟨rfl, rfl⟩ := trodVars_none hV
  have hsz' : (DataW.weightsEach Tryz.prog [29, 30, 31] [d0, d1, d2]).all (· ≤ reachBytes) = true := hsz
  clear hsz
  have hk0 := hval 0 29 v0 rfl rfl
  have hm0 := small_each hsz' 0 29 d0 rfl rfl
  have hk1 := hval 1 30 v1 rfl rfl
  have hm1 := small_each hsz' 1 30 d1 rfl rfl
  have hk2 := hval 2 31 v2 rfl rfl
  have hm2 := small_each hsz' 2 31 d2 rfl rfl
  obtain ⟨x0, e0, p0, g0, rfl, hi0⟩ := open_imgV hk0 h0 hm0
  obtain ⟨a1, n1, c1, hv1⟩ := okWide_slice Tryz.underlying30 hk1
  obtain ⟨l1, hl1⟩ := open_finds h1 ⟨a1, n1, c1, hv1⟩ hm1
  obtain ⟨a2, n2, c2, hv2⟩ := okWide_slice Tryz.underlying31 hk2
  obtain ⟨l2, hl2⟩ := open_kinds h2 ⟨a2, n2, c2, hv2⟩ hm2
  refine (tells36_any x0 e0 p0 g0 _ _ l1 l2 W hi0 hl1 hl2).mono fun e W' ⟨he, hbw⟩ => ?_
  subst he
  exact ⟨_, rfl, law_post (by kernel_rfl) rfl (by kernel_rfl) (by simpa using hW') rfl hbw⟩
theorem auditTells_laid (os : Os) : laidMet Tryz.prog Rows.auditTellsRow.laid ((World.laidAll Tryz.prog os Rows.auditTellsRow.laid).forCall (fun _ _ => 0) ⟨#[], #[.agg #[.int .u32 0, .slice none 0 0, .slice none 0 0, .bool false, .int .u32 0, .slice none 0 0], .slice none 0 0, .slice none 0 0], []⟩).memory :=
  laidMet_laidAll _ (by kernel_rfl) (by kernel_rfl)
theorem auditTells_reads (os : Os) {H : Type} (enc : TypeId × Value → H) : ∃ places, DataW.whole enc Tryz.prog ((World.laidAll Tryz.prog os Rows.auditTellsRow.laid).forCall (fun _ _ => 0) ⟨#[], #[.agg #[.int .u32 0, .slice none 0 0, .slice none 0 0, .bool false, .int .u32 0, .slice none 0 0], .slice none 0 0, .slice none 0 0], []⟩).memory Tryz.f3.params.toList Rows.auditTellsSpec.vars false (#[.agg #[.int .u32 0, .slice none 0 0, .slice none 0 0, .bool false, .int .u32 0, .slice none 0 0], .slice none 0 0, .slice none 0 0] : Array Value).toList 8 = some ([.agg [.agg [.lit (.int .u32 0), .nil, .nil, .lit (.bool false)], .lit (.int .u32 0), .nil], .nil, .nil], [], places) :=
  ⟨[], by kernel_rfl⟩
set_option maxRecDepth 100000 in
theorem auditTells_lifted (os : Os) (started : os.Started) (H : Type) (enc : TypeId × Value → H) (F : Stop.Interp) :
    ReturnsInHanded {} Tryz.checked os 3 .any ((OpenSpec.ofChange Rows.auditTellsSpec).preRow enc Tryz.prog Tryz.f3 Rows.auditTellsRow.domain false Rows.auditTellsRow.laid) (((OpenSpec.ofChange Rows.auditTellsSpec).at F).post enc Tryz.prog Tryz.f3 false true false false) := by
  obtain ⟨places, hx⟩ := auditTells_reads os enc
  refine returnsInHanded_of_row (C := Tryz.checked) (s := OpenSpec.ofChange Rows.auditTellsSpec) own started (by kernel_rfl) Tryz.func3
    (witness_row_at (enc := enc) (C := Tryz.checked) false (World.laidAll Tryz.prog os Rows.auditTellsRow.laid) #[.agg #[.int .u32 0, .slice none 0 0, .slice none 0 0, .bool false, .int .u32 0, .slice none 0 0], .slice none 0 0, .slice none 0 0] (World.laidAll_os _ _ _) (by kernel_rfl) (by kernel_rfl) (by kernel_rfl)
      (OpenSpec.preRow_of_cond 8 hx (by kernel_rfl) (fun k hk => by cases hk) (by kernel_rfl) (auditTells_laid os))) ?_
  intro W base args ds gs before hval hW _ _ hsz _ _ _
  have hV := hW
  obtain ⟨_, _, _, hV, _⟩ := hV
  obtain ⟨rfl, rfl⟩ := trodVars_none hV
  exact auditTells_contract H enc W base args ds [] before hval hW (by
    have h2 := hsz
    rw [show (OpenSpec.ofChange Rows.auditTellsSpec).bare.plain.varTypes Tryz.checked.prog = [] from rfl, List.append_nil, List.append_nil] at h2
    exact h2)
theorem auditTells_j1 : (Rows.auditTellsRow.wf (OpenSpec.ofChange (OpenSpec.ofChange Rows.auditTellsSpec).bare)) = true := by kernel_rfl
theorem auditTells_j4 : (Tryz.f3.params.all (Tryz.prog.readableRec ·) && namedTie Tryz.prog Rows.auditTellsRow.named (OpenSpec.ofChange Rows.auditTellsSpec).bare.vars) = true := by kernel_rfl
theorem auditTells_j5 : ((Rows.auditTellsRow.stops == []) && (Tryz.prog.stops == []) && (Rows.auditTellsRow.knobs == []) && (Tryz.prog.stopKnobs == [])) = true := by kernel_rfl
theorem auditTells_j6 : (Rows.auditTellsRow.inPlace == Tryz.prog.inPlace 3) = true := by kernel_rfl
theorem auditTells_j7 : (Rows.auditTellsRow.unfollowed == Tryz.prog.unfollowed 3) = true := by kernel_rfl
theorem auditTells_j8 : (Rows.auditTellsRow.recurses == Tryz.prog.recurses 3) = true := by kernel_rfl
theorem auditTells_j9 : (Rows.auditTellsRow.named == Tryz.prog.varsNamed 3) = true := by kernel_rfl
theorem auditTells_j10 : ((Rows.auditTellsRow.maps == (Tryz.f3.params.toList ++ (OpenSpec.ofChange Rows.auditTellsSpec).bare.plain.varTypes Tryz.prog).any (Tryz.prog.mapsRec ·)) && (Rows.auditTellsRow.ifaces == (Tryz.f3.params.toList ++ (OpenSpec.ofChange Rows.auditTellsSpec).bare.plain.varTypes Tryz.prog).any (Tryz.prog.ifacesRec ·)) && (Rows.auditTellsRow.mapsOut == Tryz.prog.mapsAmong Tryz.f3.resultTypes.toList)) = true := by kernel_rfl
theorem auditTells_j11 : ((Rows.auditTellsRow.loops == (Tryz.f3.params.toList ++ (OpenSpec.ofChange Rows.auditTellsSpec).bare.plain.varTypes Tryz.prog).any (Tryz.prog.loopsFrom ·)) && (Rows.auditTellsRow.wideKeys == (Tryz.f3.params.toList ++ (OpenSpec.ofChange Rows.auditTellsSpec).bare.plain.varTypes Tryz.prog ++ Tryz.f3.resultTypes.toList).any (Tryz.prog.wideKeysFrom ·))) = true := by kernel_rfl
theorem auditTells_j12 : ((OpenSpec.ofChange Rows.auditTellsSpec).bare.vars.all (Tryz.prog.varReadable ·) && Tryz.f3.resultTypes.all (fun t => Tryz.prog.readableRec t && decide (t < Tryz.prog.types.size)) && (Rows.auditTellsRow.ifacesOut == Tryz.f3.resultTypes.toList.any (Tryz.prog.ifacesRec ·)) && (Rows.auditTellsRow.loopsOut == Tryz.f3.resultTypes.toList.any (Tryz.prog.loopsFrom ·))) = true := by kernel_rfl
theorem auditTells_j13 : (Rows.auditTellsRow.plainKeys == Tryz.prog.plainKeys) = true := by kernel_rfl
theorem auditTells_j14 : Rows.auditTellsRow.shortTexts.isNone = true := by kernel_rfl
theorem auditTells_j17 : (Rows.auditTellsRow.lifted == Tryz.prog.liftsFinal) = true := by kernel_rfl
theorem auditTells_j18 : (Tryz.prog.make == some Rows.auditTellsRow.make) = true := by kernel_rfl
theorem auditTells_j19 : (Rows.auditTellsRow.kinds == (if Rows.auditTellsRow.domain.isEmpty then [] else Tryz.f3.params.toList.map fun t => match Tryz.prog.underlying t with | some (.int k) => some k | _ => none)) = true := by kernel_rfl
theorem auditTells_j20 : (Rows.auditTellsRow.pinned == Rows.auditTellsRow.pinnedBy) = true := by kernel_rfl
theorem auditTells_j21 : (Rows.auditTellsRow.veiled == (Tryz.f3.params.toList ++ (OpenSpec.ofChange Rows.auditTellsSpec).bare.plain.varTypes Tryz.prog ++ Tryz.f3.resultTypes.toList).any (Tryz.prog.veiledRec ·)) = true := by kernel_rfl
theorem auditTells_j22 : (Rows.auditTellsRow.veiledFits Tryz.prog Tryz.f3.params.toList (Tryz.f3.params.toList ++ (OpenSpec.ofChange Rows.auditTellsSpec).bare.plain.varTypes Tryz.prog ++ Tryz.f3.resultTypes.toList)) = true := by kernel_rfl
set_option maxRecDepth 100000 in
theorem auditTells_closed : joinedFacts Tryz.prog 3 Tryz.f3 (OpenSpec.ofChange Rows.auditTellsSpec).bare Rows.auditTellsRow = true := joined_split auditTells_j1 laidOut jp_maps auditTells_j4 auditTells_j5 auditTells_j6 auditTells_j7 auditTells_j8 auditTells_j9 auditTells_j10 auditTells_j11 auditTells_j12 auditTells_j13 auditTells_j14 jp_heard jp_enter auditTells_j17 auditTells_j18 auditTells_j19 auditTells_j20 auditTells_j21 auditTells_j22
theorem auditTells_said : Rows.AuditTellsSaid :=
  OpenClaim.holds_of_cond 3 Tryz.f3 rfl rfl rfl rfl rfl rfl rfl ⟨rfl, rfl, rfl, rfl, rfl⟩ rfl rfl rfl rfl rfl (by kernel_rfl) Tryz.func3 auditTells_closed
    (of_decide_eq_true (by kernel_rfl)) (by unfold Func.isWrapper; first | (rw [if_pos (by decide +kernel)]; kernel_rfl) | (rw [if_neg (by decide +kernel)]; exact ⟨rfl, rfl⟩))
    (fun os started H enc _ F => by rw [OpenClaim.pre_eq_preRow]; exact auditTells_lifted os started H enc F)
end Go.Proofs.YtghopakbefageaaGreat
