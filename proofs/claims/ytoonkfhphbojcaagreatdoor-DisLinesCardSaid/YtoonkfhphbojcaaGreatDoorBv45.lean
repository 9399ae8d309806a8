/- A card's closed facts one by one: each is asked of the kernel alone, for a program that is large. -/
import Derived.Test.YtoonkfhphbojcaaGreatDoorBv42
import Derived.JoinedCond
namespace Go.Proofs.YtoonkfhphbojcaaGreatDoor
theorem joined_split {P : Program} {f : FuncId} {fn : Func} {s : ChangeSpec} {c : OpenClaim} (h1 : c.wf (OpenSpec.ofChange s) = true) (h2 : laidOutB P = true) (h3 : mapsRowed P = true)
    (h4 : (fn.params.all (P.readableRec ·) && namedTie P c.named s.vars) = true) (h5 : ((c.stops == []) && (P.stops == []) && (c.knobs == []) && (P.stopKnobs == [])) = true)
    (h6 : (c.inPlace == P.inPlace f) = true) (h7 : (c.unfollowed == P.unfollowed f) = true) (h8 : (c.recurses == P.recurses f) = true) (h9 : (c.named == P.varsNamed f) = true)
    (h10 : ((c.maps == (fn.params.toList ++ s.plain.varTypes P).any (P.mapsRec ·)) && (c.ifaces == (fn.params.toList ++ s.plain.varTypes P).any (P.ifacesRec ·)) && (c.mapsOut == P.mapsAmong fn.resultTypes.toList)) = true)
    (h11 : ((c.loops == (fn.params.toList ++ s.plain.varTypes P).any (P.loopsFrom ·)) && (c.wideKeys == (fn.params.toList ++ s.plain.varTypes P ++ fn.resultTypes.toList).any (P.wideKeysFrom ·))) = true)
    (h12 : (s.vars.all (P.varReadable ·) && fn.resultTypes.all (fun t => P.readableRec t && decide (t < P.types.size)) && (c.ifacesOut == fn.resultTypes.toList.any (P.ifacesRec ·)) && (c.loopsOut == fn.resultTypes.toList.any (P.loopsFrom ·))) = true)
    (h13 : (c.plainKeys == P.plainKeys) = true) (h14 : c.shortTexts.isNone = true) (h15 : P.stopsHeard = true) (h16 : P.mayEnter = true) (h17 : (c.lifted == P.liftsFinal) = true) (h18 : (P.make == some c.make) = true)
    (h19 : (c.kinds == (if c.domain.isEmpty then [] else fn.params.toList.map fun t => match P.underlying t with | some (.int k) => some k | _ => none)) = true) (h20 : (c.pinned == c.pinnedBy) = true)
    (h21 : (c.veiled == (fn.params.toList ++ s.plain.varTypes P ++ fn.resultTypes.toList).any (P.veiledRec ·)) = true) (h22 : c.veiledFits P fn.params.toList (fn.params.toList ++ s.plain.varTypes P ++ fn.resultTypes.toList) = true) : joinedFacts P f fn s c = true := by
  unfold joinedFacts
  simp only [Bool.and_eq_true] at h4 h5 h10 h11 h12 ⊢
  obtain ⟨a1, a2⟩ := h4
  obtain ⟨⟨⟨b1, b2⟩, b3⟩, b4⟩ := h5
  obtain ⟨⟨c1, c2⟩, c3⟩ := h10
  obtain ⟨d1, d2⟩ := h11
  obtain ⟨⟨⟨e1, e2⟩, e3⟩, e4⟩ := h12
  refine ⟨⟨⟨⟨⟨⟨⟨⟨⟨⟨⟨⟨⟨⟨⟨⟨⟨⟨⟨⟨⟨⟨⟨⟨⟨⟨⟨⟨⟨⟨⟨?_, ?_⟩, ?_⟩, ?_⟩, ?_⟩, ?_⟩, ?_⟩, ?_⟩, ?_⟩, ?_⟩, ?_⟩, ?_⟩, ?_⟩, ?_⟩, ?_⟩, ?_⟩, ?_⟩, ?_⟩, ?_⟩, ?_⟩, ?_⟩, ?_⟩, ?_⟩, ?_⟩, ?_⟩, ?_⟩, ?_⟩, ?_⟩, ?_⟩, ?_⟩, ?_⟩, ?_⟩
  all_goals assumption
theorem jp_maps : mapsRowed Tryz.prog = true := by kernel_rfl
theorem jp_heard : Tryz.prog.stopsHeard = true := by kernel_rfl
theorem jp_enter : Tryz.prog.mayEnter = true := by kernel_rfl
end Go.Proofs.YtoonkfhphbojcaaGreatDoor
