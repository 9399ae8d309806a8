/- ResolveOne, for every input: a name is one symbol at most, of that name; a strong one, if there is one, and there is no other strong one; an object's own is asked first. -/
import Derived.Test.YtiogoinaklgglaaDoorCards
import Derived.Test.YtiogoinaklgglaaDoorTie
import Derived.Test.YtiogoinaklgglaaDoorWOneOk
import Derived.Test.YtiogoinaklgglaaDoorOpen
import Derived.Deep.DeepHandedRow
import Derived.Lay
import Derived.LaidMore
import Derived.Stop.Joined
namespace Go.Proofs.YtiogoinaklgglaaDoor
open Go.ChangeShapes Go.WideShapes Go.ChangeAt Go.RowKit
open Go.ChangeMaps (open_string)
theorem own : ownKnob Tryd.prog.godebug = none := by kernel_rfl
theorem laidOut : laidOutB Tryd.prog = true := by kernel_rfl
/-- a law's post: it answers true and keeps all that there was -/
theorem law_post {H : Type} {enc : TypeId × Value → H} {f : Func} {s : ChangeSpec} {W W' : World} {args : Array Value} {ds : List (DataW H)} {before : List MemPlace}
    (hres : f.resultTypes.toList = [4]) (hvars : s.vars = []) (hr : (f.params.toList.all fun t => Tryd.prog.readableRec t && decide (t < Tryd.prog.types.size)) = true)
    (hW : DataW.Whole enc Tryd.prog f.params.toList s.vars false W args.toList ds [] before) (hs : s.fn H (ds ++ []) = { results := [.lit (.bool true)], args := ds }) (hb : Below W.heap.size W W') :
    s.post enc Tryd.prog f false true false false W args (.bool true) W' := by
  have hlt : ∀ x ∈ before, x.block < W.heap.size := fun x hx => hW.lt x hx
  have hW0 := hW
  obtain ⟨p, q, hA, hV, rfl, -, -⟩ := hW0
  refine ⟨ds, [], p ++ q, [], p, q, hW, ?_, ?_, ?_, hb.frame _, fun h => by cases h⟩
  · rw [hs, hres]
    have : f.resultTypes.size = 1 := by rw [← Array.length_toList, hres]; rfl
    rw [this]
    exact ⟨[], [], shut_bool Tryd.underlying4 true, rfl, rfl⟩
  · rw [hs]
    exact trodAll_below laidOut hb hr hA (fun x hx => hlt x (List.mem_append.2 (.inl hx)))
  · rw [hs, hvars]
    rw [hvars] at hV
    exact hV
theorem one_any (v : Value) (l : List GObj) (f : Nat) (nm : ByteArray) (w : World) (h : ObjsAt w v l) (hf : f ≤ 255) (hnm : nm.size ≤ 140737488355328) :
    Calls Tryd.prog 3 #[v, .int .u8 f, .string nm] w fun e w' => e = .returned (.bool true) ∧ Below w.heap.size w w' := by
  by_cases hg : largeB l = true ∨ 1024 < nm.size ∨ l.length = 0
  · exact one_guard v l f nm w h hnm hg
  · have h1 : largeB l = false := by
      cases h1 : largeB l with
      | false => rfl
      | true => exact absurd (.inl h1) hg
    have h2 : ¬ 1024 < nm.size := fun h => hg (.inr (.inl h))
    have h3 : 0 < l.length := by
      have : ¬ l.length = 0 := fun h => hg (.inr (.inr h))
      omega
    have hi := Nat.mod_lt f h3
    rcases findAll_code (n := nm.data.toList) hi with hc | ⟨hF, h0, hR⟩ | ⟨p, hF, h0, hR⟩
    · exact one_err v l f nm w h hf hnm h1 h2 h3 _ _ _ rfl hc
    · obtain ⟨z1, z2, z3⟩ := one_undef hi hR
      exact one_undef_any v l f nm w h hf hnm h1 h2 h3 (flat_length_le (beginR_zero h0).1) 0 0 hF z1 z2 z3
    · obtain ⟨o, s, q1, q2, q3, q4, q5, q6⟩ := one_ok hi h0 hR
      exact one_ok_any v l f nm w h hf hnm h1 h2 h3 (flat_length_le (beginR_zero h0).1) p.1 p.2 hF o s q1 q2 q3 q4 q5 q6
set_option maxRecDepth 100000 in
theorem one_contract (H : Type) (enc : TypeId × Value → H) (W : World) (base : Nat) (args : Array Value) (ds gs : List (DataW H)) (before : List MemPlace)
    (hval : ∀ (j : Nat) t v, Tryd.f3.params[j]? = some t → args[j]? = some v → Value.okWide Tryd.prog W .any base t v)
    (hW : DataW.Whole enc Tryd.prog Tryd.f3.params.toList Rows.resolveOneSpec.vars false W args.toList ds gs before)
    (hsz : (DataW.weightsEach Tryd.prog Tryd.f3.params.toList ds).all (· ≤ reachBytes) = true) :
    Calls Tryd.prog 3 args W fun e W' => ∃ v, e = .returned v ∧ Rows.resolveOneSpec.post enc Tryd.prog Tryd.f3 false true false false W args v W' := by
  have hW' := hW
  obtain ⟨p, q, hA0, hV, rfl, hfz, hnd⟩ := hW
  have hA : DataW.TrodAll enc Tryd.prog W 0 (fun _ => true) true Tryd.f3.params.toList args.toList ds p := hA0
  rw [Tryd.params3] at hA hval hsz
  obtain ⟨v0, v1, v2, d0, d1, d2, p0, p1, p2, rfl, rfl, rfl, h0, h1, h2⟩ := trodAll_three hA
  obtain ⟨rfl, rfl⟩ := trodVars_none hV
  have hsz' : (DataW.weightsEach Tryd.prog [22, 5, 9] [d0, d1, d2]).all (· ≤ reachBytes) = true := hsz
  clear hsz
  obtain ⟨a, n, c, hv0⟩ := okWide_slice Tryd.underlying22 (hval 0 22 v0 rfl rfl)
  obtain ⟨l, hl⟩ := open_objs h0 ⟨a, n, c, hv0⟩ (small_each hsz' 0 22 d0 rfl rfl)
  obtain ⟨f, rfl, rfl, rfl, wf⟩ := open_int Tryd.underlying5 (hval 1 5 v1 rfl rfl) h1
  obtain ⟨nm, rfl, rfl, rfl, ws⟩ := open_string Tryd.underlying9 (hval 2 9 v2 rfl rfl) h2
  have hb := bounds_u8 wf
  obtain ⟨fn, rfl⟩ := Int.eq_ofNat_of_zero_le hb.1
  have hnm : nm.size ≤ 140737488355328 := small_bytes (small_each hsz' 2 9 _ rfl rfl)
  refine (one_any v0 l fn nm W hl (by omega) hnm).mono fun e W' ⟨he, hbw⟩ => ?_
  subst he
  exact ⟨_, rfl, law_post (by kernel_rfl) rfl (by kernel_rfl) (by simpa using hW') rfl hbw⟩
theorem one_laid (os : Os) : laidMet Tryd.prog Rows.resolveOneRow.laid ((World.laidAll Tryd.prog os Rows.resolveOneRow.laid).forCall (fun _ _ => 0) ⟨#[], #[.slice none 0 0, .int .u8 0, .string ⟨#[]⟩], []⟩).memory :=
  laidMet_laidAll _ (by kernel_rfl) (by kernel_rfl)
theorem one_reads (os : Os) {H : Type} (enc : TypeId × Value → H) : ∃ places, DataW.whole enc Tryd.prog ((World.laidAll Tryd.prog os Rows.resolveOneRow.laid).forCall (fun _ _ => 0) ⟨#[], #[.slice none 0 0, .int .u8 0, .string ⟨#[]⟩], []⟩).memory Tryd.f3.params.toList Rows.resolveOneSpec.vars false #[Value.slice none 0 0, .int .u8 0, .string ⟨#[]⟩].toList 8 = some ([.nil, .lit (.int .u8 0), .lit (.string [])], [], places) :=
  ⟨[], by kernel_rfl⟩
set_option maxRecDepth 100000 in
theorem one_lifted (os : Os) (started : os.Started) (H : Type) (enc : TypeId × Value → H) (F : Stop.Interp) :
    ReturnsInHanded {} Tryd.checked os 3 .any ((OpenSpec.ofChange Rows.resolveOneSpec).preRow enc Tryd.prog Tryd.f3 Rows.resolveOneRow.domain false Rows.resolveOneRow.laid) (((OpenSpec.ofChange Rows.resolveOneSpec).at F).post enc Tryd.prog Tryd.f3 false true false false) := by
  obtain ⟨places, hx⟩ := one_reads os enc
  refine returnsInHanded_of_row (C := Tryd.checked) (s := OpenSpec.ofChange Rows.resolveOneSpec) own started (by kernel_rfl) Tryd.func3
    (witness_row_at (enc := enc) (C := Tryd.checked) false (World.laidAll Tryd.prog os Rows.resolveOneRow.laid) #[.slice none 0 0, .int .u8 0, .string ⟨#[]⟩] (World.laidAll_os _ _ _) (by kernel_rfl) (by kernel_rfl) (by kernel_rfl)
      (OpenSpec.preRow_of_cond 8 hx (by kernel_rfl) (fun k hk => by cases hk) (by kernel_rfl) (one_laid os))) ?_
  intro W base args ds gs before hval hW _ _ hsz _ _ _
  have hV := hW
  obtain ⟨_, _, _, hV, _⟩ := hV
  obtain ⟨rfl, rfl⟩ := trodVars_none hV
  exact one_contract H enc W base args ds [] before hval hW (by
    have h2 := hsz
    rw [show (OpenSpec.ofChange Rows.resolveOneSpec).bare.plain.varTypes Tryd.checked.prog = [] from rfl, List.append_nil, List.append_nil] at h2
    exact h2)
theorem one_said : Rows.ResolveOneSaid :=
  OpenClaim.holds_of_cond 3 Tryd.f3 rfl rfl rfl rfl rfl rfl rfl ⟨rfl, rfl, rfl, rfl, rfl⟩ rfl rfl rfl rfl rfl (by kernel_rfl) Tryd.func3 (by kernel_rfl)
    (of_decide_eq_true (by kernel_rfl)) (by unfold Func.isWrapper; first | (rw [if_pos (by decide +kernel)]; kernel_rfl) | (rw [if_neg (by decide +kernel)]; exact ⟨rfl, rfl⟩))
    (fun os started H enc _ F => by rw [OpenClaim.pre_eq_preRow]; exact one_lifted os started H enc F)
theorem one_plain (f : FuncId) (fn : Func) (hf : Tryd.pinned.checked.prog.funcNamed Rows.resolveOneRow.func = some f) (hfn : Tryd.pinned.checked.prog.funcs[f]? = some fn) :
    false = Tryd.pinned.checked.prog.looks [] ∧ ∀ (j : Nat) t, fn.params[j]? = some t → Tryd.pinned.checked.prog.wantsStandIn t = false := by
  obtain rfl : f = 3 := Option.some.inj ((show Tryd.prog.funcNamed Rows.resolveOneRow.func = some 3 by kernel_rfl).symm.trans hf) |>.symm
  obtain rfl : fn = Tryd.f3 := (Option.some.inj (Tryd.func3.symm.trans hfn)).symm
  refine ⟨by kernel_rfl, fun j t ht => ?_⟩
  rw [Tryd.params3] at ht
  have hm : t ∈ [22, 5, 9] := by simpa using Array.mem_of_getElem? ht
  have hall : ([22, 5, 9].all fun u => !Tryd.prog.wantsStandIn u) = true := by kernel_rfl
  exact (show Tryd.prog.wantsStandIn t = false by simpa using List.all_eq_true.1 hall t hm)
theorem resolveOne_card : Rows.ResolveOneCardSaid :=
  Claim7.holds_tied_plain_at .later [] _ _ _ _ one_said (fun _ h => by cases h) (by kernel_rfl) (fun _ h => by cases h) resolveOne_row_tie rfl ⟨rfl, rfl⟩ (by kernel_rfl) rfl one_plain (by kernel_rfl)
end Go.Proofs.YtiogoinaklgglaaDoor
