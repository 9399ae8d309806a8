/- A card's closed facts one by one: each is asked of the kernel alone, for a program that is large. The walks of aediculeref01's Bytes and Get, of aediculeref04's May. The walks of aediculeref04's Encode and Decode. -/
import Derived.Test.YtghopakbefageaaGreatBt04
import Derived.JoinedCond
import Derived.Test.YtghopakbefageaaGreatBt22
import Derived.Test.YtghopakbefageaaGreatBt19
import Derived.Test.YtghopakbefageaaGreatBt24
namespace Go.Proofs.YtghopakbefageaaGreat
theorem joined_split {P : Program} {f : FuncId} {fn : Func} {s : ChangeSpec} {c : OpenClaim} (h1 : c.wf (OpenSpec.ofChange s) = true) (h2 : laidOutB P = true) (h3 : mapsRowed P = true)
    (h4 : (fn.params.all (P.readableRec ·) && namedTie P c.named s.vars) = true) (h5 : ((c.stops == []) && (P.stops == []) && (c.knobs == []) && (P.stopKnobs == [])) = true)
    (h6 : (c.inPlace == P.inPlace f) = true) (h7 : (c.unfollowed == P.unfollowed f) = true) (h8 : (c.recurses == P.recurses f) = true) (h9 : (c.named == P.varsNamed f) = true)
    (h10 : ((c.maps == (fn.params.toList ++ s.plain.varTypes P).any (P.mapsRec ·)) && (c.ifaces == (fn.params.toList ++ s.plain.varTypes P).any (P.ifacesRec ·)) && (c.mapsOut == P.mapsAmong fn.resultTypes.toList)) = true)
    (h11 : ((c.loops == (fn.params.toList ++ s.plain.varTypes P).any (P.loopsFrom ·)) && (c.wideKeys == (fn.params.toList ++ s.plain.varTypes P ++ fn.resultTypes.toList).any (P.wideKeysFrom ·))) = true)
    (h12 : (s.vars.all (P.varReadable ·) && fn.resultTypes.all (fun t => P.readableRec t && decide (t < P.types.size)) && (c.ifacesOut == fn.resultTypes.toList.any (P.ifacesRec ·)) && (c.loopsOut == fn.resultTypes.toList.any (P.loopsFrom ·))) = true)
    (h13 : (c.plainKeys == P.plainKeys) = true) (h14 : c.shortTexts.isNone = true) (h15 : P.stopsHeard = true) (h16 : P.mayEnter = true) (h17 : (c.lifted == P.liftsFinal) = true) (h18 : (P.make == some c.make) = true)
    (h19 : (c.kinds == (if c.domain.isEmpty then [] else fn.params.toList.map fun t => match P.underlying t with | some (.int k) => some k | _ => none)) = true) (h20 : (c.pinned == c.pinnedBy) = true)
    (h21 : (c.veiled == (fn.params.toList ++ s.plain.varTypes P ++ fn.resultTypes.toList).any (P.veiledRec ·)) = true) (h22 : c.veiledFits P fn.params.toList (fn.params.toList ++ s.plain.varTypes P ++ fn.resultTypes.toList) = true) : joinedFacts P f fn s c = true := by
  unfold joinedFacts
  simp only [Bool.and_eq_true] at h4 h5 h10 h11 h12 ⊢
  obtain ⟨a1, a2⟩ := h4
  obtain ⟨⟨⟨b1, b2⟩, b3⟩, b4⟩ := h5
  obtain ⟨⟨c1, c2⟩, c3⟩ := h10
  obtain ⟨d1, d2⟩ := h11
  obtain ⟨⟨⟨e1, e2⟩, e3⟩, e4⟩ := h12
  refine ⟨⟨⟨⟨⟨⟨⟨⟨⟨⟨⟨⟨⟨⟨⟨⟨⟨⟨⟨⟨⟨⟨⟨⟨⟨⟨⟨⟨⟨⟨⟨?_, ?_⟩, ?_⟩, ?_⟩, ?_⟩, ?_⟩, ?_⟩, ?_⟩, ?_⟩, ?_⟩, ?_⟩, ?_⟩, ?_⟩, ?_⟩, ?_⟩, ?_⟩, ?_⟩, ?_⟩, ?_⟩, ?_⟩, ?_⟩, ?_⟩, ?_⟩, ?_⟩, ?_⟩, ?_⟩, ?_⟩, ?_⟩, ?_⟩, ?_⟩, ?_⟩, ?_⟩
  all_goals assumption
theorem jp_maps : mapsRowed Tryz.prog = true := by kernel_rfl
theorem jp_heard : Tryz.prog.stopsHeard = true := by kernel_rfl
theorem jp_enter : Tryz.prog.mayEnter = true := by kernel_rfl
end Go.Proofs.YtghopakbefageaaGreat
namespace Go.Proofs.YtghopakbefageaaGreat
open Go.RowKit
set_option maxHeartbeats 1000000 in
set_option maxRecDepth 100000 in
theorem rbytes01 (n : Nat) (v : Int) (w : World) (hn : 1 ≤ n) (hn4 : n ≤ 8) (h0 : 0 ≤ v) (h2 : v ≤ 4294967295) : Calls Tryz.prog 95 #[.int .u32 v, .int .i64 n] w fun e w' => e = .returned (.string (bsOf (leB n v))) ∧ Below w.heap.size w w' := by
  obtain ⟨i0, hi, hz0, hz1, hz2⟩ := info_parts info_byte
  have HI := Lib.hid (And.intro hi (And.intro hz0 (And.intro hz1 hz2)))
  clear hi hz0 hz1 hz2
  go_enter Tryz.func95, Tryz.ntmps95
  go_wp2
  go_loopw [0, 5, 6] (fun v0 v5 v6 wr => ∃ i : Nat, i ≤ n ∧ v6 = .int .i64 i ∧ v0 = .int .u32 (dv i v) ∧ wr.ownsRow w.heap.size 5 1 v5 i (Lib.byteCells (leB i v)) ∧ Below w.heap.size w wr) (fun _ _ v6 _ => n - (intOf v6).toNat)
  case atStart => exact ⟨0, Nat.zero_le _, rfl, rfl, World.ownsRow_nil _ _ _ _, Below.refl _ _⟩
  case round =>
    obtain ⟨i, hi, rfl, rfl, hown, hbel⟩ := hrel
    have HOWN := Lib.hid hown; clear hown
    have HB := Lib.hid hbel; clear hbel
    have hsz := HB.out.size
    have hdv := dv_bd i v h0
    by_cases hlt : i < n
    · have HS := Lib.hid (leB_snoc i v)
      have HD := Lib.hid (dv_succ i v)
      generalize dv i v = d at hdv HS HD
      go_wp2_with (at_builtin; refine wpList_append_own _ rfl _ _ 31 rfl w.heap.size 5 i0 (.int .u8 0) 1 1 Tryz.underlying31 HI.out.1 HI.out.2.1 HI.out.2.2.1 HI.out.2.2.2 rfl (by decide) _ _ _ rfl (HOWN.out.alloc _) ⟨wr.heap.size, 0, none⟩ 1 1 [.int .u8 (d % 256)] rfl rfl ?c1 ?c2 ?c3 ?c4 ?c5 ?_)
      case c1 =>
        intro j u hj
        match j, hj with
        | 0, hj => simp at hj; subst hj; simp [Addr.add]
      case c2 => intro u hu; simp at hu; subst hu; rfl
      case c3 => unfold maxLen; omega
      case c4 => omega
      case c5 => simp; omega
      intro v' w2 hown' hgrow _
      have HO2 : Hid (w2.ownsRow w.heap.size 5 1 v' (i + 1) (Lib.byteCells (leB (i + 1) v))) := by
        have e : ((UInt8.ofNat (d % 256).toNat).toNat : Int) = d % 256 := by rw [u8_ofNat _ (by omega)]; omega
        rw [Hid, HS.out, show Lib.byteCells (leB i v ++ [UInt8.ofNat (d % 256).toNat]) = Lib.byteCells (leB i v) ++ [.int .u8 (d % 256)] by simp only [Lib.byteCells, List.map_append, List.map_cons, List.map_nil, e]]
        exact hown'
      have HB2 := Lib.hid ((HB.out.alloc hsz _).grown hgrow (by simp; omega) (fun k hk => (HOWN.out.lt k hk).1))
      clear hown' hgrow HOWN HB HS
      go_wp2
      go_roundw
      case rel => exact ⟨i + 1, by omega, by go_num, by rw [HD.out], HO2.out, HB2.out⟩
      case measure => simp [intOf]; omega
    · obtain rfl : i = n := by omega
      obtain ⟨g, cap, hu6⟩ : ∃ g cap, u5 = .slice (some ⟨g, 0, none⟩) i cap := by
        rcases HOWN.out.2 with ⟨-, h⟩ | ⟨g, cap, cur, h, -⟩
        · omega
        · exact ⟨g, cap, h⟩
      subst hu6
      have hk := run_convert_bytes_back (P := Tryz.prog) wr 31 9 5 ⟨g, 0, none⟩ cap (leB i v) Tryz.underlying31 Tryz.underlying5 Tryz.underlying9 (fun j hj => HOWN.out.cells (g := g) rfl j _ (by simp [Lib.byteCells, List.getElem?_eq_getElem hj]))
      rw [leB_length] at hk
      go_wp2
      go_ret
      exact ⟨rfl, HB.out⟩
theorem leV_lt3 {l : BL} (h : l.length ≤ 3) : leV l < 16777216 := by
  have h1 := (leV_bd l).2
  have h2 : pow256 l.length ≤ 16777216 := by
    match l.length, h with
    | 0, _ => decide
    | 1, _ => decide
    | 2, _ => decide
    | 3, _ => decide
  omega
set_option maxHeartbeats 1000000 in
set_option maxRecDepth 100000 in
theorem rget01 (s : ByteArray) (w : World) (h1 : 1 ≤ s.size) (h4 : s.size ≤ 4) :
    Calls Tryz.prog 70 #[.string s] w fun e w' => e = .returned (.tuple #[.int .u32 (leV s.data.toList), .int .i64 0]) ∧ w = w' := by
  have d1 : decide ((s.size : Int) < 1) = false := by simp; omega
  have d4 : decide ((4 : Int) < (s.size : Int)) = false := by simp; omega
  have d4' : decide (4 < s.size) = false := by simp; omega
  go_enter Tryz.func70, Tryz.ntmps70
  go_wp2
  go_loop [4, 5] (fun v4 v5 => ∃ k : Nat, k ≤ s.size ∧ v5 = .int .i64 ((k : Int) - 1) ∧ v4 = .int .u32 (leV (s.data.toList.drop k))) (fun _ v5 => (intOf v5 + 1).toNat)
  case atStart => exact ⟨s.size, Nat.le_refl _, rfl, by rw [List.drop_eq_nil_of_le (by rw [len_list]; omega)]; rfl⟩
  case round =>
    obtain ⟨k, hk, rfl, rfl⟩ := hrel
    have hb := leV_bd (s.data.toList.drop k)
    by_cases hlt : 0 < k
    · obtain ⟨j, rfl⟩ : ∃ j, k = j + 1 := ⟨k - 1, by omega⟩
      have hj : j < s.size := by omega
      have HE : Hid (leV (s.data.toList.drop j) = s[j].toNat + 256 * leV (s.data.toList.drop (j + 1))) := by
        rw [Hid, List.drop_eq_getElem_cons (by rw [len_list]; exact hj), leV]; rfl
      have hb3 := leV_lt3 (l := s.data.toList.drop (j + 1)) (by rw [List.length_drop, len_list]; omega)
      have hs8 := s[j].toNat_lt
      have hj0 : decide ((0 : Int) ≤ (j : Int)) = true := by simp
      go_wp2
      go_round
      case rel => exact ⟨j, by omega, by go_num, by rw [HE.out]; congr 1; omega⟩
      case measure => simp [intOf]
    · obtain rfl : k = 0 := by omega
      go_wp2
      go_ret2
      exact ⟨rfl, rfl⟩
def InsOkR (x : GIns) : Bool := opIs x.op && regOk x.d (bitOf (rowU x.op) 1) && regOk x.a (bitOf (rowU x.op) 2) && regOk x.b (bitOf (rowU x.op) 4) && (bitOf (rowU x.op) 8 || decide (x.imm = 0))
theorem insOk_ref (x : GIns) : insOk x = InsOkR x := by
  unfold insOk InsOkR opIs rowU
  by_cases h : useOf x.op = 0
  · simp [h]
  · rw [if_neg h]
set_option maxHeartbeats 1000000 in
set_option maxRecDepth 100000 in
theorem rmay04 (x : GIns) (w : World) : Calls Tryz.prog 94 #[insV x] w fun e w' => e = .returned (.bool (insOk x)) ∧ Below w.heap.size w w' := by
  have HI : Hid (insOk x = InsOkR x) := insOk_ref x
  obtain ⟨op, d, a, b, imm⟩ := x
  unfold InsOkR insV at *
  simp only [] at *
  have HU := Lib.hid (fun W => ruses_any op W)
  unfold rowV at HU
  have HR := Lib.hid (fun n u W => rregister_any n u W)
  generalize opIs op = r0 at *
  generalize bitOf (rowU op) 1 = u1 at *
  generalize bitOf (rowU op) 2 = u2 at *
  generalize bitOf (rowU op) 4 = u4 at *
  generalize bitOf (rowU op) 8 = u8 at *
  have F1 := Lib.hid (fun W => rregister_any d u1 W)
  have F2 := Lib.hid (fun W => rregister_any a u2 W)
  have F3 := Lib.hid (fun W => rregister_any b u4 W)
  generalize regOk d u1 = r1 at *
  generalize regOk a u2 = r2 at *
  generalize regOk b u4 = r3 at *
  generalize hW : (w.alloc (.cells #[.int .u8 op, .int .u8 d, .int .u8 a, .int .u8 b, .int .u32 imm] 49)) = w1
  have b0 : w1.cell? ⟨w.heap.size, 0, none⟩ = some (.int .u8 op) := by subst hW; simp [go_sem]
  have b1 : w1.cell? ⟨w.heap.size, 1, none⟩ = some (.int .u8 d) := by subst hW; simp [go_sem]
  have b2 : w1.cell? ⟨w.heap.size, 2, none⟩ = some (.int .u8 a) := by subst hW; simp [go_sem]
  have b3 : w1.cell? ⟨w.heap.size, 3, none⟩ = some (.int .u8 b) := by subst hW; simp [go_sem]
  have b4 : w1.cell? ⟨w.heap.size, 4, none⟩ = some (.int .u32 imm) := by subst hW; simp [go_sem]
  have HB1 : Hid (Below w.heap.size w w1) := by subst hW; exact alloc_old w _
  have hz1 : w.heap.size < w1.heap.size := by subst hW; simp
  subst hW
  go_enter Tryz.func94, Tryz.ntmps94
  go_wp2_with fail
  refine (HU.out _).mono ?_
  rintro e w2 ⟨rfl, hB⟩
  replace b1 := cell_keep hB hz1 b1
  replace b2 := cell_keep hB hz1 b2
  replace b3 := cell_keep hB hz1 b3
  replace b4 := cell_keep hB hz1 b4
  have HB2 : Hid (Below w.heap.size w w2) := HB1.out.trans (hB.mono HB1.out.size)
  have hz2 : w.heap.size < w2.heap.size := by have := hB.size; omega
  have hne : ¬ w2.heap.size = w.heap.size := by omega
  clear b0 HB1 hz1 HU
  cases r0 with
  | false =>
    go_wp2
    go_ret
    exact ⟨by rw [HI.out]; simp, by have := HB2.out; go_grown⟩
  | true =>
  cases r1 with
  | false =>
    go_wp2_with fail
    refine (F1.out _).mono ?_; rintro e w' ⟨rfl, rfl⟩
    go_wp2
    go_ret
    exact ⟨by rw [HI.out]; simp, by have := HB2.out; go_grown⟩
  | true =>
  cases r2 with
  | false =>
    go_wp2_with fail
    refine (F1.out _).mono ?_; rintro e w' ⟨rfl, rfl⟩
    go_wp2_with fail
    refine (F2.out _).mono ?_; rintro e w' ⟨rfl, rfl⟩
    go_wp2
    go_ret
    exact ⟨by rw [HI.out]; simp, by have := HB2.out; go_grown⟩
  | true =>
  cases r3 with
  | false =>
    go_wp2_with fail
    refine (F1.out _).mono ?_; rintro e w' ⟨rfl, rfl⟩
    go_wp2_with fail
    refine (F2.out _).mono ?_; rintro e w' ⟨rfl, rfl⟩
    go_wp2_with fail
    refine (F3.out _).mono ?_; rintro e w' ⟨rfl, rfl⟩
    go_wp2
    go_ret
    exact ⟨by rw [HI.out]; simp, by have := HB2.out; go_grown⟩
  | true =>
    go_wp2_with fail
    refine (F1.out _).mono ?_; rintro e w' ⟨rfl, rfl⟩
    go_wp2_with fail
    refine (F2.out _).mono ?_; rintro e w' ⟨rfl, rfl⟩
    go_wp2_with fail
    refine (F3.out _).mono ?_; rintro e w' ⟨rfl, rfl⟩
    cases u8 with
    | true =>
      go_wp2
      go_ret
      exact ⟨by rw [HI.out]; simp, by have := HB2.out; go_grown⟩
    | false =>
      go_wp2
      go_ret
      exact ⟨by rw [HI.out]; simp <;> rfl, by have := HB2.out; go_grown⟩
end Go.Proofs.YtghopakbefageaaGreat
namespace Go.Proofs.YtghopakbefageaaGreat
open Go.RowKit
def encL (x : GIns) : List UInt8 := [UInt8.ofNat x.op.toNat, UInt8.ofNat (x.d + 16 * x.a).toNat, UInt8.ofNat x.b.toNat, 0] ++ leB 4 x.imm
theorem regOk_lt {n : Int} {u : Bool} (h : regOk n u = true) : n < 16 := by
  unfold regOk at h
  simp at h
  omega
theorem insOk_regs {x : GIns} (h : insOk x = true) : x.d < 16 ∧ x.a < 16 ∧ x.b < 16 := by
  unfold insOk at h
  simp only [Bool.and_eq_true] at h
  exact ⟨regOk_lt h.1.1.1.2, regOk_lt h.1.1.2, regOk_lt h.1.2⟩
set_option maxHeartbeats 1000000 in
set_option maxRecDepth 100000 in
theorem renc04_no (x : GIns) (w : World) (h : insOk x = false) : Calls Tryz.prog 71 #[insV x] w fun e w' => e = .returned (.tuple #[.string ⟨#[]⟩, .int .i64 2]) ∧ Below w.heap.size w w' := by
  have HM := Lib.hid (fun W => rmay04 x W)
  rw [h] at HM
  clear h
  obtain ⟨op, d, a, b, imm⟩ := x
  unfold insV at *
  simp only [] at *
  go_enter Tryz.func71, Tryz.ntmps71
  go_wp2_with fail
  refine (HM.out _).mono ?_
  rintro e w2 ⟨rfl, hB⟩
  go_wp2
  go_ret2
  exact ⟨rfl, (alloc_old w _).trans (hB.mono (by simp))⟩
set_option maxHeartbeats 4000000 in
set_option maxRecDepth 100000 in
theorem renc04_yes (x : GIns) (w : World) (hx : InsB x) (h : insOk x = true) : Calls Tryz.prog 71 #[insV x] w fun e w' => e = .returned (.tuple #[.string (bsOf (encL x)), .int .i64 0]) ∧ Below w.heap.size w w' := by
  have HM := Lib.hid (fun W => rmay04 x W)
  have hr := insOk_regs h
  rw [h] at HM
  clear h
  obtain ⟨op, d, a, b, imm⟩ := x
  obtain ⟨⟨o0, o1⟩, ⟨d0, d1⟩, ⟨a0, a1⟩, ⟨b0', b1'⟩, ⟨i0, i1⟩⟩ := hx
  unfold insV at *
  simp only [] at *
  have HBY := Lib.hid (fun W => rbytes01 4 imm W (by omega) (by omega) i0 i1)
  generalize hW : (w.alloc (.cells #[.int .u8 op, .int .u8 d, .int .u8 a, .int .u8 b, .int .u32 imm] 49)) = w1
  have b0 : w1.cell? ⟨w.heap.size, 0, none⟩ = some (.int .u8 op) := by subst hW; simp [go_sem]
  have b1 : w1.cell? ⟨w.heap.size, 1, none⟩ = some (.int .u8 d) := by subst hW; simp [go_sem]
  have b2 : w1.cell? ⟨w.heap.size, 2, none⟩ = some (.int .u8 a) := by subst hW; simp [go_sem]
  have b3 : w1.cell? ⟨w.heap.size, 3, none⟩ = some (.int .u8 b) := by subst hW; simp [go_sem]
  have b4 : w1.cell? ⟨w.heap.size, 4, none⟩ = some (.int .u32 imm) := by subst hW; simp [go_sem]
  have HB1 : Hid (Below w.heap.size w w1) := by subst hW; exact alloc_old w _
  have hz1 : w.heap.size < w1.heap.size := by subst hW; simp
  subst hW
  obtain ⟨hr1, hr2, hr3⟩ := hr
  have r1 : IntKind.u8.wrap (16 * a) = 16 * a := by rw [IntKind.wrap_u8]; omega
  have r2 : IntKind.u8.wrap (d + 16 * a) = d + 16 * a := by rw [IntKind.wrap_u8]; omega
  have r3 : 16 * a % 256 = 16 * a := by omega
  have r4 : (d + 16 * a) % 256 = d + 16 * a := by omega
  go_enter Tryz.func71, Tryz.ntmps71
  go_wp2_with fail
  refine (HM.out _).mono ?_
  rintro e w2 ⟨rfl, hB⟩
  replace b0 := cell_keep hB hz1 b0
  replace b1 := cell_keep hB hz1 b1
  replace b2 := cell_keep hB hz1 b2
  replace b3 := cell_keep hB hz1 b3
  replace b4 := cell_keep hB hz1 b4
  have HB2 : Hid (Below w.heap.size w w2) := HB1.out.trans (hB.mono HB1.out.size)
  have hz2 : w.heap.size < w2.heap.size := by have := hB.size; omega
  have hne : ¬ w2.heap.size = w.heap.size := by omega
  clear hB HB1 hz1 HM
  go_wp2_with fail
  have hq : ∀ (W : World) (g : Nat), W.cell? ⟨g, 0, none⟩ = some (.int .u8 op) → W.cell? ⟨g, 1, none⟩ = some (.int .u8 (d + 16 * a)) → W.cell? ⟨g, 2, none⟩ = some (.int .u8 b) → W.cell? ⟨g, 3, none⟩ = some (.int .u8 0) → (convert 31 9 (.slice (some ⟨g, 0, none⟩) 4 4)).run Tryz.prog W = .ok (.string (bsOf [UInt8.ofNat op.toNat, UInt8.ofNat (d + 16 * a).toNat, UInt8.ofNat b.toNat, 0])) W := fun W g q0 q1 q2 q3 => by
    refine run_convert_bytes_back (P := Tryz.prog) W 31 9 5 ⟨g, 0, none⟩ 4 [UInt8.ofNat op.toNat, UInt8.ofNat (d + 16 * a).toNat, UInt8.ofNat b.toNat, 0] Tryz.underlying31 Tryz.underlying5 Tryz.underlying9 (fun j hj => ?_)
    rw [add_at]
    have e1 : ((UInt8.ofNat op.toNat).toNat : Int) = op := by rw [u8_ofNat _ (by omega)]; omega
    have e2 : ((UInt8.ofNat (d + 16 * a).toNat).toNat : Int) = d + 16 * a := by rw [u8_ofNat _ (by omega)]; omega
    have e3 : ((UInt8.ofNat b.toNat).toNat : Int) = b := by rw [u8_ofNat _ (by omega)]; omega
    match j, hj with
    | 0, _ => simp only [Nat.add_zero, List.getElem_cons_zero, e1]; exact q0
    | 1, _ => simp only [Nat.zero_add, List.getElem_cons_succ, List.getElem_cons_zero, e2]; exact q1
    | 2, _ => simp only [Nat.zero_add, List.getElem_cons_succ, List.getElem_cons_zero, e3]; exact q2
    | 3, _ => simp only [Nat.zero_add, List.getElem_cons_succ, List.getElem_cons_zero]; exact q3
  have hcat : ¬ 9223372036854775807 < (bsOf [UInt8.ofNat op.toNat, UInt8.ofNat (d + 16 * a).toNat, UInt8.ofNat b.toNat, 0]).size + (bsOf (leB 4 imm)).size := by rw [bsOf_size, bsOf_size, leB_length]; simp
  have HE : Hid (bsOf (encL ⟨op, d, a, b, imm⟩) = bsOf [UInt8.ofNat op.toNat, UInt8.ofNat (d + 16 * a).toNat, UInt8.ofNat b.toNat, 0] ++ bsOf (leB 4 imm)) := Lib.hid (by rw [bsOf_app]; rfl)
  generalize bsOf [UInt8.ofNat op.toNat, UInt8.ofNat (d + 16 * a).toNat, UInt8.ofNat b.toNat, 0] = S0 at hq hcat HE
  have hn2 : ¬ w.heap.size = w2.heap.size := by omega
  obtain ⟨S, hSd⟩ : ∃ S : World → Prop, ∀ w', S w' ↔ (w'.cell? ⟨w.heap.size, 0, none⟩ = some (.int .u8 op) ∧ w'.cell? ⟨w.heap.size, 1, none⟩ = some (.int .u8 d) ∧ w'.cell? ⟨w.heap.size, 2, none⟩ = some (.int .u8 a) ∧ w'.cell? ⟨w.heap.size, 3, none⟩ = some (.int .u8 b) ∧ w'.cell? ⟨w.heap.size, 4, none⟩ = some (.int .u32 imm)) := ⟨_, fun _ => Iff.rfl⟩
  have HSD := Lib.hid hSd; clear hSd
  have hS0 : S w2.drew := (HSD.out _).2 ⟨b0, b1, b2, b3, b4⟩
  have HSB := Lib.hid (fun (w' : World) (hb : Below w2.heap.size w2 w') => (HSD.out w').2 ⟨cell_keep hb hz2 b0, cell_keep hb hz2 b1, cell_keep hb hz2 b2, cell_keep hb hz2 b3, cell_keep hb hz2 b4⟩)
  have c0 := fun x : HW S => ((HSD.out _).1 x.h).1
  have c1 := fun x : HW S => ((HSD.out _).1 x.h).2.1
  have c2 := fun x : HW S => ((HSD.out _).1 x.h).2.2.1
  have c3 := fun x : HW S => ((HSD.out _).1 x.h).2.2.2.1
  have c4 := fun x : HW S => ((HSD.out _).1 x.h).2.2.2.2
  haveI : Nonempty (HW S) := ⟨⟨_, hS0⟩⟩
  refine wp_region_free S [0, 1, 2, 3, 4, 5, 6, 7, 8, 9, 12, 13] 16 6 rfl (by kernel_rfl) rfl rfl rfl hS0 ?_
  repeat (refine wpReads_step (fun K hK => ?_); go_simp; refine hK _ ?_; clear hK K)
  refine wpReads_nil ?_
  refine wpAnyT_two (i := 10) (k := 14) (by kernel_rfl) rfl rfl (fun K hK => ?_) (fun K hK => ?_)
  · go_simp
    refine hK _ _ (HSB.out _ (by go_grown)) ?_
    clear hK K
    refine wpAnyT_two (i := 11) (k := 14) (by kernel_rfl) rfl rfl (fun K hK => ?_) (fun K hK => ?_)
    · go_simp
      refine hK _ _ (HSB.out _ (by go_grown)) ?_
      clear hK K
      refine wpAnyT_one (i := 14) (by kernel_rfl) rfl (fun K hK => ?_)
      refine step_call rfl 95 #[.tmp 20, .const (.int .i64 4)] #[22, 3] rfl Tryz.func95 (by kernel_rfl) (by kernel_rfl) #[.int .u32 imm, .int .i64 4] (by simp [Act.eval]) (HBY.out _) ?_
      rintro e w' ⟨rfl, hB⟩
      have HBW : Below w2.heap.size w2 w' := Below.trans (by go_grown) (hB.mono (by simp))
      obtain ⟨hc, hf⟩ := bcell hB
      refine ⟨_, rfl, hK _ _ (HSB.out _ HBW) ?_⟩
      clear hK K hB
      simp only [Act.put, List.setIfInBounds_toArray, List.set_cons_zero, List.set_cons_succ]
      refine wpAnyT_one (i := 15) (by kernel_rfl) rfl (fun K hK => ?_)
      go_simp
      refine hK _ _ (HSB.out _ (by first | exact HBW | exact HBW.alloc HBW.size _)) ?_
      clear hK K
      refine wpAnyT_one (i := 16) (by kernel_rfl) rfl (fun K hK => ?_)
      go_simp
      refine hK _ _ (HSB.out _ (by first | exact HBW | exact HBW.alloc HBW.size _)) ?_
      clear hK K
      refine wpAnyT_one (i := 17) (by kernel_rfl) rfl (fun K hK => ?_)
      go_simp
      refine hK _ _ (HSB.out _ (by first | exact HBW | exact HBW.alloc HBW.size _)) ?_
      clear hK K
      refine wpAnyT_done (by kernel_rfl) (NoPanic.normal ?_)
      go_wp2
      go_ret2
      exact ⟨by rw [HE.out]; rfl, by first | exact HB2.out.trans (HBW.mono HB2.out.size) | exact HB2.out.trans ((HBW.alloc HBW.size _).mono HB2.out.size)⟩
    · refine step_call rfl 95 #[.tmp 20, .const (.int .i64 4)] #[22, 3] rfl Tryz.func95 (by kernel_rfl) (by kernel_rfl) #[.int .u32 imm, .int .i64 4] (by simp [Act.eval]) (HBY.out _) ?_
      rintro e w' ⟨rfl, hB⟩
      have HBW : Below w2.heap.size w2 w' := Below.trans (by go_grown) (hB.mono (by simp))
      obtain ⟨hc, hf⟩ := bcell hB
      refine ⟨_, rfl, hK _ _ (HSB.out _ HBW) ?_⟩
      clear hK K hB
      simp only [Act.put, List.setIfInBounds_toArray, List.set_cons_zero, List.set_cons_succ]
      refine wpAnyT_one (i := 11) (by kernel_rfl) rfl (fun K hK => ?_)
      go_simp
      refine hK _ _ (HSB.out _ (by go_grown)) ?_
      clear hK K
      refine wpAnyT_one (i := 15) (by kernel_rfl) rfl (fun K hK => ?_)
      go_simp
      refine hK _ _ (HSB.out _ (by first | exact HBW | exact HBW.alloc HBW.size _)) ?_
      clear hK K
      refine wpAnyT_one (i := 16) (by kernel_rfl) rfl (fun K hK => ?_)
      go_simp
      refine hK _ _ (HSB.out _ (by first | exact HBW | exact HBW.alloc HBW.size _)) ?_
      clear hK K
      refine wpAnyT_one (i := 17) (by kernel_rfl) rfl (fun K hK => ?_)
      go_simp
      refine hK _ _ (HSB.out _ (by first | exact HBW | exact HBW.alloc HBW.size _)) ?_
      clear hK K
      refine wpAnyT_done (by kernel_rfl) (NoPanic.normal ?_)
      go_wp2
      go_ret2
      exact ⟨by rw [HE.out]; rfl, by first | exact HB2.out.trans (HBW.mono HB2.out.size) | exact HB2.out.trans ((HBW.alloc HBW.size _).mono HB2.out.size)⟩
  · refine step_call rfl 95 #[.tmp 20, .const (.int .i64 4)] #[22, 3] rfl Tryz.func95 (by kernel_rfl) (by kernel_rfl) #[.int .u32 imm, .int .i64 4] (by simp [Act.eval]) (HBY.out _) ?_
    rintro e w' ⟨rfl, hB⟩
    have HBW : Below w2.heap.size w2 w' := Below.trans (by go_grown) (hB.mono (by simp))
    obtain ⟨hc, hf⟩ := bcell hB
    refine ⟨_, rfl, hK _ _ (HSB.out _ HBW) ?_⟩
    clear hK K hB
    simp only [Act.put, List.setIfInBounds_toArray, List.set_cons_zero, List.set_cons_succ]
    refine wpAnyT_one (i := 10) (by kernel_rfl) rfl (fun K hK => ?_)
    go_simp
    refine hK _ _ (HSB.out _ (HBW.alloc HBW.size _)) ?_
    clear hK K
    refine wpAnyT_one (i := 11) (by kernel_rfl) rfl (fun K hK => ?_)
    go_simp
    refine hK _ _ (HSB.out _ (HBW.alloc HBW.size _)) ?_
    clear hK K
    refine wpAnyT_one (i := 15) (by kernel_rfl) rfl (fun K hK => ?_)
    go_simp
    refine hK _ _ (HSB.out _ (by first | exact HBW | exact HBW.alloc HBW.size _)) ?_
    clear hK K
    refine wpAnyT_one (i := 16) (by kernel_rfl) rfl (fun K hK => ?_)
    go_simp
    refine hK _ _ (HSB.out _ (by first | exact HBW | exact HBW.alloc HBW.size _)) ?_
    clear hK K
    refine wpAnyT_one (i := 17) (by kernel_rfl) rfl (fun K hK => ?_)
    go_simp
    refine hK _ _ (HSB.out _ (by first | exact HBW | exact HBW.alloc HBW.size _)) ?_
    clear hK K
    refine wpAnyT_done (by kernel_rfl) (NoPanic.normal ?_)
    go_wp2
    go_ret2
    exact ⟨by rw [HE.out]; rfl, by first | exact HB2.out.trans (HBW.mono HB2.out.size) | exact HB2.out.trans ((HBW.alloc HBW.size _).mono HB2.out.size)⟩
end Go.Proofs.YtghopakbefageaaGreat
