/- What is linked where something is kept, in plain words. No program in sight. The chapter's example of layer 35: what is pulled links. No program in sight. -/
import Derived.Test.YtboegjdkedjhcaaGreatDoorBs34
import Derived.Test.YtboegjdkedjhcaaGreatDoorBs39
namespace Go.Proofs.YtboegjdkedjhcaaGreatDoor
section
theorem sp_yes {l : List GObj} {nm : ByteArray} {p : PP} {K : List PP} {r : GLink × ByteArray × Int} (h : Sp18 l nm r) (hy : KeptYes l nm p K) : r = linkR l nm p (K.map toG) := by
 rcases h with ⟨n, c, hc, hke, -⟩ | ⟨q, K', hy', rfl⟩
 ·exact absurd (kept_not_err hy hke) hc
 ·obtain ⟨rfl, rfl⟩ := keptYes_same hy hy'; rfl
theorem linkR_of {l : List GObj} {nm : ByteArray} {m : PP} {ps : List GP} {wh : List GAddr} {sp : List GSpan} (h1 : layOf l ps = (wh, sp, 0)) (h2 : closedB l ps (toG m) = true) (h3 : kindAt l (toG m) = 1) :
 linkR l nm m ps = linkEnd l m ps wh sp (fillGo l wh ps wh zeros18) := by
 unfold linkR; rw [h1, h2, if_neg (by simp), if_neg (by simpa using h3), if_neg (by simp)]
end
section
def l35 : List GObj := base35 ++ [oa35, ob35]
def n35 : ByteArray := ⟨#[109, 97, 105, 110]⟩
theorem b35 : (beginR l35).2 = 0 := by decide +kernel
theorem fm35 : findR l35 (-1) n35.data.toList = some (0, 0) := by decide +kernel
theorem f0_35 : findR l35 0 [102] = some (1, 0) := by decide +kernel
theorem f1_35 : findR l35 1 [103] = some (2, 0) := by decide +kernel
theorem r0_35 : relsAt l35 0 0 = [⟨4, 1, ⟨#[102]⟩, 0⟩] := rfl
theorem r1_35 : relsAt l35 1 0 = [⟨4, 1, ⟨#[103]⟩, 0⟩] := rfl
theorem r2_35 : relsAt l35 2 0 = [] := rfl
theorem k0_35 (q : PP) : knowsP l35 (0, 0) q ↔ q = (1, 0) := by
 constructor
 ·rintro ⟨x, hx, hf⟩; obtain rfl : x = ⟨4, 1, ⟨#[102]⟩, 0⟩ := by rw [r0_35] at hx; exact List.mem_singleton.1 hx
  have h2 : findR l35 0 [102] = some q := hf; rw [f0_35] at h2; exact (Option.some.inj h2).symm
 ·rintro rfl; exact ⟨⟨4, 1, ⟨#[102]⟩, 0⟩, by rw [show relsAt l35 (0, 0).1 (0, 0).2 = [⟨4, 1, ⟨#[102]⟩, 0⟩] from rfl]; exact List.mem_singleton.2 rfl, f0_35⟩
theorem k1_35 (q : PP) : knowsP l35 (1, 0) q ↔ q = (2, 0) := by
 constructor
 ·rintro ⟨x, hx, hf⟩; obtain rfl : x = ⟨4, 1, ⟨#[103]⟩, 0⟩ := by rw [r1_35] at hx; exact List.mem_singleton.1 hx
  have h2 : findR l35 1 [103] = some q := hf; rw [f1_35] at h2; exact (Option.some.inj h2).symm
 ·rintro rfl; exact ⟨⟨4, 1, ⟨#[103]⟩, 0⟩, by rw [show relsAt l35 (1, 0).1 (1, 0).2 = [⟨4, 1, ⟨#[103]⟩, 0⟩] from rfl]; exact List.mem_singleton.2 rfl, f1_35⟩
theorem k2_35 (q : PP) : ¬ knowsP l35 (2, 0) q := by
 rintro ⟨x, hx, hf⟩; rw [r2_35] at hx; cases hx
theorem reach35 (x : PP) : Reach l35 (0, 0) x ↔ x = (0, 0) ∨ x = (1, 0) ∨ x = (2, 0) := by
 constructor
 ·intro h
  induction h with
  | refl => exact .inl rfl
  | step _ k ih =>
    rcases ih with rfl | rfl | rfl
    ·exact .inr (.inl ((k0_35 _).1 k))
    ·exact .inr (.inr ((k1_35 _).1 k))
    ·exact absurd k (k2_35 _)
 ·rintro (rfl | rfl | rfl)
  ·exact .refl
  ·exact .step .refl ((k0_35 _).2 rfl)
  ·exact .step (.step .refl ((k0_35 _).2 rfl)) ((k1_35 _).2 rfl)
theorem kept35 : KeptOf l35 (0, 0) [(0, 0), (1, 0), (2, 0)] := by
 refine ⟨List.pairwise_cons.2 ⟨fun a ha => ?_, List.pairwise_cons.2 ⟨fun a ha => ?_, List.pairwise_singleton _ _⟩⟩, fun x => ?_⟩
 ·rcases List.mem_cons.1 ha with rfl | ha
  ·exact .inl (by decide)
  ·obtain rfl := List.mem_singleton.1 ha; exact .inl (by decide)
 ·obtain rfl := List.mem_singleton.1 ha; exact .inl (by decide)
 ·rw [reach35]; simp
theorem yes35 : KeptYes l35 n35 (0, 0) [(0, 0), (1, 0), (2, 0)] := ⟨b35, fm35, kept35, fun x hx => by
 rcases List.mem_cons.1 hx with rfl | hx
 ·decide +kernel
 ·rcases List.mem_cons.1 hx with rfl | hx
  ·decide +kernel
  ·obtain rfl := List.mem_singleton.1 hx; decide +kernel⟩
def wh35 : List GAddr := [⟨0, 0, 256⟩, ⟨1, 0, 264⟩, ⟨2, 0, 512⟩]
def sp35 : List GSpan := [⟨1, 256, 16⟩, ⟨2, 512, 8⟩]
theorem lay35 : layOf l35 [(0, 0), (1, 0), (2, 0)] = (wh35, sp35, 0) := by kernel_rfl
theorem cl35 : closedB l35 [(0, 0), (1, 0), (2, 0)] (toG (0, 0)) = true := by kernel_rfl
theorem fg35 : (fillGo l35 wh35 [(0, 0), (1, 0), (2, 0)] wh35 zeros18).2 = (emptyB, 0) := by kernel_rfl
theorem dm35 : (demandR (notesOf l35 [(0, 0), (1, 0), (2, 0)])).2 = 0 := by
 have h1 : notesOf l35 [(0, 0), (1, 0), (2, 0)] = [] := by kernel_rfl
 rw [h1, demandR, if_pos (by decide +kernel)]
 unfold gatEnd gatMan; rw [show (gatAll []).ports = [] from rfl, show sortI [] = [] by unfold sortI; exact List.mergeSort_nil]
 rfl
theorem alive35_link {r : GLink × ByteArray × Int} (h : Sp18 l35 n35 r) : r.2.2 = 0 ∧ r.1.addrs = wh35 := by
 have e := sp_yes h yes35; rw [show ([(0, 0), (1, 0), (2, 0)] : List PP).map toG = [(0, 0), (1, 0), (2, 0)] from rfl, linkR_of lay35 cl35 (by kernel_rfl)] at e
 unfold linkEnd at e; rw [show (fillGo l35 wh35 [(0, 0), (1, 0), (2, 0)] wh35 zeros18).2.2 = 0 from congrArg Prod.snd fg35, if_neg (by simp), dm35, if_neg (by simp)] at e
 rw [e]; exact ⟨rfl, rfl⟩
end
end Go.Proofs.YtboegjdkedjhcaaGreatDoor
