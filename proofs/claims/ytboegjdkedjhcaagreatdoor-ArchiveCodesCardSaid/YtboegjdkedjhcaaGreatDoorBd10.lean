/- The walk of aediculelaw35.Large: what is not large has short bytes. The walks of word.text and word.Put. The walks of pack.Num and pack.Text. The walks of strings.Builder's copyCheck, WriteString and String at a builder (archives). The walks of strings.Builder's copyCheck, WriteString and String at a builder that lies in an objfile.writer. The walks of objfile.writer's text and nums. -/
import Derived.Test.YtboegjdkedjhcaaGreatDoorBd09
import Derived.Test.YtboegjdkedjhcaaGreatDoorRows
import Derived.Test.YtboegjdkedjhcaaGreatDoorBd03
import Derived.Laws.IdiomStrings
import Derived.Outline
import Derived.Lib.Hide
import Derived.Lib.Builder
import Derived.Lib.AppendStr
import Derived.Lib.UnsafeStr
import Derived.Laws.Externs
import Derived.RegionTactic
import Derived.OwnWalk
namespace Go.Proofs.YtboegjdkedjhcaaGreatDoor
open Go.RowKit Go.Maps Go.WideMaps
def memsAll (l : List GArc) : List GObj := l.flatMap fun a => a.members
theorem memsAll_snoc {l : List GArc} {k : Nat} {x : GArc} (h : k < l.length) (hx : l[k] = x) : memsAll (l.take (k + 1)) = memsAll (l.take k) ++ x.members := by
  rw [List.take_succ_eq_append_getElem h, hx, memsAll, List.flatMap_append]; simp [memsAll]
/-- the first symbols' bytes are not long -/
def ShortO (m : Nat) (o : GObj) : Prop := ∀ (j : Nat) (h : j < o.syms.length), j < 70 → o.syms[j].bytes.size / 256 ≤ m
theorem ShortO.mono {m m' : Nat} {o : GObj} (h : ShortO m o) (hm : m ≤ m') : ShortO m' o := fun j hj h7 => Nat.le_trans (h j hj h7) hm
theorem wrap_id {a : Int} (h0 : 0 ≤ a) (h1 : a ≤ 4611686018427387904) : IntKind.i64.wrap a = a := IntWalk.i64_in _ (by omega)
/-- what Large says: a bool, and what is not large has short bytes -/
def Large35 (L : List GObj) (B : Nat) (w : World) (e : Ending) (w' : World) : Prop := (∃ b, e = .returned (.bool b) ∧ (b = false → (∀ o ∈ L, ShortO 400 o) ∧ L.length ≤ 60)) ∧ Below B w w'
theorem Large35.yes {L : List GObj} {B : Nat} {w w' : World} (h : Below B w w') : Large35 L B w (.returned (.bool true)) w' := ⟨⟨_, rfl, fun h => by cases h⟩, h⟩
set_option maxRecDepth 100000 in
set_option maxHeartbeats 8000000 in
theorem large35_any (vb v : Value) (lb : List GObj) (l : List GArc) (w : World) (hb : ObjsAt w vb lb) (h : ArcsAt w v l) :
    Calls Tryz.prog 7 #[vb, v] w (Large35 (memsAll l ++ lb) w.heap.size w) := by
  have HLG := Lib.hid (large_any vb lb w hb)
  have HOB := Lib.hid hb
  have HAR := Lib.hid h
  obtain ⟨p, cap, b, o, rfl, hcap, hmax, hp, -⟩ := hb
  obtain ⟨p2, cap2, b2, o2, rfl, hcap2, hmax2, hp2, -⟩ := h
  have HP := Lib.hid hp
  have HP2 := Lib.hid hp2
  clear hp hp2
  generalize hlb : largeB lb = lgb at HLG
  have HLB := Lib.hid hlb
  clear hlb
  cases lgb with
  | true =>
    go_enter Tryz.func7, Tryz.ntmps7
    go_wp2_with (go_at_call 26; refine HLG.out.mono ?_; rintro e w1 ⟨rfl, hB1⟩; have HB1 := Lib.hid hB1; clear hB1)
    go_ret
    exact Large35.yes HB1.out
  | false =>
  by_cases h12 : 12 < l.length
  · have d1 : decide ((12 : Int) < (l.length : Int)) = true := by simp; omega
    have d1' : decide (12 < l.length) = true := by simp; omega
    go_enter Tryz.func7, Tryz.ntmps7
    go_wp2_with (go_at_call 26; refine HLG.out.mono ?_; rintro e w1 ⟨rfl, hB1⟩; have HB1 := Lib.hid hB1; clear hB1)
    go_ret
    exact Large35.yes HB1.out
  have d1 : decide ((12 : Int) < (l.length : Int)) = false := by simp; omega
  have d1' : decide (12 < l.length) = false := by simp; omega
  have hl12 : l.length ≤ 12 := by omega
  have hlb20 : lb.length ≤ 20 := by
    have := HLB.out
    simp only [largeB, Bool.or_eq_false_iff, decide_eq_false_iff_not] at this
    omega
  clear h12
  obtain ⟨iO, s0, s1, s2, s3⟩ := info_parts info_obj
  have HI := Lib.hid (And.intro s0 (And.intro s1 (And.intro s2 s3)))
  clear s0 s1 s2 s3
  go_enter Tryz.func7, Tryz.ntmps7
  go_wp2_with (go_at_call 26; refine HLG.out.mono ?_; rintro e w1 ⟨rfl, hB1⟩; have HB1 := Lib.hid hB1; clear hB1)
  clear HLG d1 d1'
  go_loopw [5, 6, 7] (fun v5 v6 v7 wr => ∃ (k n : Nat) (ts : List (GObj × Value)), v7 = .int .i64 k ∧ v5 = .int .i64 n ∧ k ≤ l.length ∧ n ≤ 40 ∧ n = ts.length ∧ ts.map (·.1) = memsAll (l.take k) ∧ OwnObsB w1.heap.size w wr v6 ts ∧ Below w1.heap.size w1 wr) (fun _ _ v7 _ => l.length - (intOf v7).toNat)
  case atStart => exact ⟨0, 0, [], by go_num, by go_num, Nat.zero_le _, by omega, rfl, rfl, OwnObsB.nil _ _ _, Below.refl _ _⟩
  case round =>
    obtain ⟨k, n, ts, rfl, rfl, hk, hn, hnl, hts, hown, hbel⟩ := hrel
    have HTS := Lib.hid hts
    have HNL := Lib.hid hnl
    have HOW := Lib.hid hown
    have HB := Lib.hid hbel
    have HBW : Hid (Below w.heap.size w wr) := HB1.out.trans (hbel.mono HB1.out.size)
    obtain ⟨pv, cv, rfl⟩ := own_shape hown.row
    have htl : ts.length ≤ 40 := by omega
    clear hts hown hbel hnl
    by_cases hlt : k < l.length
    · obtain rfl := HP2.out (by omega)
      obtain ⟨_, _, b0, o0, he0, -, -, hp0, hc0⟩ := HAR.out
      cases he0
      cases hp0 (by omega)
      obtain ⟨vs, g0, g1, g2, hin0⟩ := hc0 k hlt
      replace g1 := cell_keep HBW.out g0 g1
      replace g2 := cell_keep HBW.out g0 g2
      replace g0 := size_keep HBW.out g0
      have hms := memsAll_snoc hlt rfl
      generalize l[k] = y at g1 g2 hin0 hms
      obtain ⟨yn, ym⟩ := y
      have HIN0 := Lib.hid hin0
      obtain ⟨⟨p1, q1, bb1, oo1, rfl, -, hym, -⟩, hyn⟩ := hin0
      simp only [] at g1 g2 hyn hms HIN0 hym
      have HMS := Lib.hid hms
      clear hms hc0 hp0
      have hw : IntKind.i64.wrap ((n : Int) + (ym.length : Int)) = ((n + ym.length : Nat) : Int) := (wrap_id (by omega) (by omega)).trans (by omega)
      by_cases h40 : 40 < n + ym.length
      · have e1 : decide ((40 : Int) < ((n + ym.length : Nat) : Int)) = true := by simp; omega
        have e1' : decide (40 < n + ym.length) = true := by simpa using h40
        have e1'' : decide ((40 : Int) < (n : Int) + (ym.length : Int)) = true := by simp; omega
        go_wp2
        go_ret
        exact Large35.yes HBW.out
      have e1 : decide ((40 : Int) < ((n + ym.length : Nat) : Int)) = false := by simp; omega
      have e1' : decide (40 < n + ym.length) = false := by simpa using h40
      have e1'' : decide ((40 : Int) < (n : Int) + (ym.length : Int)) = false := by simp; omega
      by_cases h1k : 1024 < yn.size
      · have e2 : decide ((1024 : Int) < (yn.size : Int)) = true := by simp; omega
        have e2' : decide (1024 < yn.size) = true := by simpa using h1k
        go_wp2
        go_ret
        exact Large35.yes HBW.out
      have e2 : decide ((1024 : Int) < (yn.size : Int)) = false := by simp; omega
      have e2' : decide (1024 < yn.size) = false := by simpa using h1k
      have hn40 : n + ym.length ≤ 40 := by omega
      clear h40 h1k
      obtain ⟨pu, cu, bu, ou, us, heu, hus, -, hpu, hmu, hcu⟩ := objs_pairs HIN0.out.1
      cases heu
      simp only [] at hus hpu
      have hul : Hid (us.length = ym.length) := by rw [Hid, ← hus, List.length_map]
      have HCU : Hid (0 < ym.length → ∀ j u, (us.flatMap obCells)[j]? = some u → wr.cell? ((⟨bu, ou, none⟩ : Addr).add j) = some u) := fun h0 j u hj => by
        have h1 := hcu j u hj
        rw [add_at] at h1 ⊢
        have h2 : bu < w.heap.size := by
          by_cases h3 : bu < w.heap.size
          · exact h3
          · rw [World.cell?, Array.getElem?_eq_none (by simpa using h3)] at h1; cases h1
        exact cell_keep HBW.out h2 h1
      have HMU := Lib.hid hmu
      have HPU := Lib.hid hpu
      have HUS := Lib.hid hus
      have hzr : w1.heap.size ≤ wr.heap.size := HB.out.size
      clear hcu hmu hpu hus
      go_wp2_with (at_builtin; refine wpList_append_src rfl _ _ 22 rfl w1.heap.size 50 iO _ 2 40 Tryz.underlying22 HI.out.1 HI.out.2.1 HI.out.2.2.1 HI.out.2.2.2 rfl (by decide) (.slice pv ts.length cv) ts.length (ts.flatMap obCells) rfl HOW.out.row p1 ym.length q1 bu ou (us.flatMap obCells) rfl HPU.out (by rw [flat_len obCells_len, hul.out]) HCU.out (obs_one HMU.out) (by unfold maxLen; omega) (by omega) hzr ?_)
      intro v' w' hown3 hgrow3
      obtain ⟨pw3, cw3, rfl⟩ := own_shape hown3
      have HO3 : Hid (OwnObsB w1.heap.size w w' (.slice pw3 (ts.length + ym.length) cw3) (ts ++ us)) := HOW.out.more HMU.out (by rw [hul.out]; exact hown3)
      have HBF : Hid (Below w1.heap.size w1 w') := HB.out.grown hgrow3 hzr (fun q e => (HOW.out.row.lt q e).1)
      clear hown3 hgrow3
      go_wp2
      go_roundw
      case rel => exact ⟨k + 1, n + ym.length, ts ++ us, by go_num, by go_num, by omega, hn40, by rw [List.length_append, hul.out, HNL.out], by rw [List.map_append, HTS.out, HUS.out]; exact HMS.out.symm, HO3.out, HBF.out⟩
      case measure => simp [intOf]; omega
    · obtain rfl : k = l.length := by omega
      rw [List.take_length] at HTS
      obtain ⟨pu, cu, bu, ou, us, heu, hus, -, hpu, hmu, hcu⟩ := objs_pairs HOB.out
      cases heu
      have hul : Hid (us.length = lb.length) := by rw [Hid, ← hus, List.length_map]
      have HCU : Hid (0 < lb.length → ∀ j u, (us.flatMap obCells)[j]? = some u → wr.cell? ((⟨bu, ou, none⟩ : Addr).add j) = some u) := fun h0 j u hj => by
        have h1 := hcu j u hj
        rw [add_at] at h1 ⊢
        have h2 : bu < w.heap.size := by
          by_cases h3 : bu < w.heap.size
          · exact h3
          · rw [World.cell?, Array.getElem?_eq_none (by simpa using h3)] at h1; cases h1
        exact cell_keep HBW.out h2 h1
      have HMU := Lib.hid hmu
      have HPU := Lib.hid hpu
      have HUS := Lib.hid hus
      have hzr : w1.heap.size ≤ wr.heap.size := HB.out.size
      clear hcu hmu hpu hus
      go_wp2_with (at_builtin; refine wpList_append_src rfl _ _ 22 rfl w1.heap.size 50 iO _ 2 40 Tryz.underlying22 HI.out.1 HI.out.2.1 HI.out.2.2.1 HI.out.2.2.2 rfl (by decide) (.slice pv ts.length cv) ts.length (ts.flatMap obCells) rfl HOW.out.row p lb.length cap bu ou (us.flatMap obCells) rfl HPU.out (by rw [flat_len obCells_len, hul.out]) HCU.out (obs_one HMU.out) (by unfold maxLen; omega) (by omega) hzr ?_)
      intro v' w3 hown3 hgrow3
      have HBF : Hid (Below w.heap.size w w3) := HBW.out.grown hgrow3 HBW.out.size (fun q e => Nat.le_trans HB1.out.size (HOW.out.row.lt q e).1)
      have HO3 : Hid (OwnObsB w1.heap.size w w3 v' (ts ++ us)) := HOW.out.more HMU.out (by rw [hul.out]; exact hown3)
      have hob : ObjsAt w3 v' (memsAll l ++ lb) := by
        have := HO3.out.objs HBF.out (by rw [List.length_append, hul.out]; omega)
        rw [List.map_append, HTS.out, HUS.out] at this
        exact this
      have hLl : (memsAll l ++ lb).length ≤ 60 := by rw [List.length_append, ← HTS.out, List.length_map]; omega
      clear hown3 hgrow3 HO3
      obtain ⟨L, hLL⟩ : ∃ L, L = memsAll l ++ lb := ⟨_, rfl⟩
      rw [← hLL] at hob hLl
      have HLL := Lib.hid hLL
      clear hLL
      have HOL := Lib.hid hob
      obtain ⟨pL, cL, bL, oL, rfl, hcL, hmL, hpL, hcL2⟩ := hob
      have HPL := Lib.hid hpL
      have HCL := Lib.hid hcL2
      clear hpL hcL2 HTS HOW HB HNL
      go_wp2
      go_loopw [8, 9] (fun v8 v9 wr => ∃ i K : Nat, v9 = .int .i64 i ∧ v8 = .int .i64 K ∧ i ≤ L.length ∧ K ≤ i * 20000000000000000 ∧ (∀ o ∈ L.take i, ShortO K o) ∧ Below w3.heap.size w3 wr) (fun _ v9 _ => L.length - (intOf v9).toNat)
      case atStart => exact ⟨0, 0, by go_num, by go_num, Nat.zero_le _, by omega, fun o ho => by simp at ho, Below.refl _ _⟩
      case round =>
        obtain ⟨i, K, rfl, rfl, hi, hK, hsh, hbel⟩ := hrel
        have HSH := Lib.hid hsh
        have HB := Lib.hid hbel
        clear hsh hbel
        by_cases hlt : i < L.length
        · have hHC := HPL.out (by omega)
          cases hHC
          obtain ⟨vs, f0, f1, f2, hin⟩ := HCL.out i hlt
          have HX : Hid (L.take (i + 1) = L.take i ++ [L[i]]) := List.take_succ_eq_append_getElem hlt
          generalize L[i] = x at f1 f2 hin HX
          obtain ⟨xn, xs⟩ := x
          obtain ⟨⟨p1, q1, bb1, oo1, rfl, -, hxm, hps, hcs⟩, hxn⟩ := hin
          simp only [] at f1 f2 hxn hxm hps hcs
          have F0 := Lib.hid f0
          have F2 := Lib.hid f2
          clear f1 f2 f0 hxn
          have g2 := cell_keep HB.out F0.out F2.out
          have HPS := Lib.hid hps
          have HCS := Lib.hid hcs
          clear hps hcs
          have hw1 : IntKind.i64.wrap ((K : Int) + (xs.length : Int)) = ((K + xs.length : Nat) : Int) := (wrap_id (by omega) (by omega)).trans (by omega)
          go_wp2
          go_loopw [8, 10] (fun v8 v10 wt => ∃ j M : Nat, v10 = .int .i64 j ∧ v8 = .int .i64 M ∧ j ≤ xs.length ∧ j ≤ 70 ∧ K ≤ M ∧ M ≤ K + xs.length + j * 150000000000000 ∧ (∀ (jj : Nat) (h : jj < xs.length), jj < j → xs[jj].bytes.size / 256 ≤ M) ∧ Below w3.heap.size w3 wt) (fun _ v10 _ => xs.length - (intOf v10).toNat)
          case atStart => exact ⟨0, K + xs.length, by go_num, by go_num, Nat.zero_le _, by omega, by omega, by omega, fun jj h h2 => by omega, HB.out⟩
          case round =>
            obtain ⟨j, M, rfl, rfl, hj, hj70, hKM, hM, hsj, hbel⟩ := hrel
            have HSJ := Lib.hid hsj
            have HBT := Lib.hid hbel
            clear hsj hbel
            clear g2
            have g2 := cell_keep HBT.out F0.out F2.out
            by_cases hlj : j < xs.length ∧ j < 70
            · obtain ⟨hj1, hj2⟩ := hlj
              have hQ := HPS.out (by omega)
              cases hQ
              obtain ⟨vr, vn, t0, -, -, -, -, t4, t5, -, ⟨⟨_, c1, _, _, rfl, -, hrm, -, -⟩, -, -, -, -, -, hbm⟩⟩ := HCS.out j hj1
              replace t4 := cell_keep HBT.out t0 t4
              replace t5 := cell_keep HBT.out t0 t5
              have HY : Hid (xs[j].bytes.size = (xs[j]).bytes.size) := rfl
              have HYS : Hid (∀ (jj : Nat) (h : jj < xs.length), jj < j + 1 → xs[jj].bytes.size / 256 ≤ M + xs[j].rels.length + xs[j].bytes.size / 256) := fun jj h h2 => by
                by_cases h3 : jj < j
                · have := HSJ.out jj h h3; omega
                · obtain rfl : jj = j := by omega
                  omega
              clear HY
              generalize xs[j].rels.length = rn at t5 hrm HYS
              generalize xs[j].bytes = yb at t4 hbm HYS
              have hw2 : IntKind.i64.wrap ((M : Int) + (rn : Int)) = ((M + rn : Nat) : Int) := (wrap_id (by omega) (by omega)).trans (by omega)
              have hw3 : IntKind.i64.wrap (((M + rn : Nat) : Int) + (yb.size : Int) / 256) = ((M + rn + yb.size / 256 : Nat) : Int) := (wrap_id (by omega) (by omega)).trans (by omega)
              have hw4 : IntKind.i64.wrap ((M : Int) + (rn : Int) + (yb.size : Int) / 256) = ((M + rn + yb.size / 256 : Nat) : Int) := (wrap_id (by omega) (by omega)).trans (by omega)
              go_wp2_with fail
              go_quiet (fail)
              go_wp2
              go_roundw
              case rel => exact ⟨j + 1, M + rn + yb.size / 256, by go_num, by go_num, by omega, by omega, by omega, by omega, HYS.out, below_drewN HBT.out _⟩
              case measure => simp [intOf]; omega
            · have HSX : Hid (∀ o ∈ L.take (i + 1), ShortO M o) := by
                intro o ho
                rw [HX.out] at ho
                rcases List.mem_append.mp ho with ho | ho
                · exact (HSH.out o ho).mono hKM
                · obtain rfl := List.mem_singleton.mp ho
                  intro jj h h7
                  exact HSJ.out jj h (by simp only [] at h; omega)
              by_cases h1 : j < xs.length
              · have h2 : ¬ j < 70 := fun h => hlj ⟨h1, h⟩
                clear hlj
                go_wp2
                go_roundw
                case rel => exact ⟨i + 1, M, by go_num, by go_num, by omega, by omega, HSX.out, HBT.out⟩
                case measure => simp [intOf]; omega
              · clear hlj
                go_wp2
                go_roundw
                case rel => exact ⟨i + 1, M, by go_num, by go_num, by omega, by omega, HSX.out, HBT.out⟩
                case measure => simp [intOf]; omega
        · obtain rfl : i = L.length := by omega
          rw [List.take_length] at HSH
          have HBX : Hid (Below w.heap.size w wr) := HBF.out.trans (HB.out.mono HBF.out.size)
          by_cases h400 : 400 < K
          · have e1 : decide ((400 : Int) < (K : Int)) = true := by simp; omega
            have e1' : decide (400 < K) = true := by simpa using h400
            go_wp2
            go_ret
            exact Large35.yes HBX.out
          · have e1 : decide ((400 : Int) < (K : Int)) = false := by simp; omega
            have e1' : decide (400 < K) = false := by simpa using h400
            have HE : Hid (Large35 (memsAll l ++ lb) w.heap.size w (.returned (.bool false)) wr) := ⟨⟨_, rfl, fun _ => ⟨fun o ho => (HSH.out o (HLL.out ▸ ho)).mono (by omega), by rw [← HLL.out]; omega⟩⟩, HBX.out⟩
            go_wp2
            go_ret
            exact HE.out
end Go.Proofs.YtboegjdkedjhcaaGreatDoor
namespace Go.Proofs.YtboegjdkedjhcaaGreatDoor
open Go.RowKit
theorem info_byte : (Tryz.prog.info? 5).map (fun i => (i.zero, i.size, i.bytes)) = some (some (.int .u8 0), 1, 1) := by kernel_rfl
set_option maxHeartbeats 400000 in
theorem wtext_any (b o : Nat) (l : BL) (cap : Nat) (w : World) (hc : ∀ j (hj : j < l.length), w.cell? ⟨b, o + j, none⟩ = some (.int .u8 (l[j].toNat : Int))) :
    Calls Tryz.prog 127 #[.slice (some ⟨b, o, none⟩) l.length cap] w fun e w' => e = .returned (.string (bsOf l)) ∧ w = w' := by
  have hk := run_convert_bytes_back (P := Tryz.prog) w 81 9 5 ⟨b, o, none⟩ cap l Tryz.underlying81 Tryz.underlying5 Tryz.underlying9 (fun j hj => by rw [add_at]; exact hc j hj)
  clear hc
  go_enter Tryz.func127, Tryz.ntmps127
  go_wp2
  go_ret
  exact ⟨rfl, rfl⟩
theorem leB_get {n : Nat} {v : Int} {j : Nat} (hn : n ≤ 4) (hj : j < (leB n v).length) : ((leB n v)[j].toNat : Int) = ([v % 256, v / 256 % 256, v / 65536 % 256, v / 16777216 % 256] : List Int).getD j 0 := by
  have hj' : j < n := by rw [leB_length] at hj; exact hj
  have b1 : (v / 256 % 256).toNat < 256 := by omega
  have b0 : (v % 256).toNat < 256 := by omega
  have b2 : (v / 256 / 256 % 256).toNat < 256 := by omega
  have b3 : (v / 256 / 256 / 256 % 256).toNat < 256 := by omega
  match n, hn, j, hj' with
  | 1, _, 0, _ => simp only [leB, List.getElem_cons_zero, u8_ofNat _ b0, List.getD_cons_zero]; omega
  | 2, _, 0, _ => simp only [leB, List.getElem_cons_zero, u8_ofNat _ b0, List.getD_cons_zero]; omega
  | 3, _, 0, _ => simp only [leB, List.getElem_cons_zero, u8_ofNat _ b0, List.getD_cons_zero]; omega
  | 4, _, 0, _ => simp only [leB, List.getElem_cons_zero, u8_ofNat _ b0, List.getD_cons_zero]; omega
  | 2, _, 1, _ => simp only [leB, List.getElem_cons_zero, List.getElem_cons_succ, u8_ofNat _ b1, List.getD_cons_zero, List.getD_cons_succ]; omega
  | 3, _, 1, _ => simp only [leB, List.getElem_cons_zero, List.getElem_cons_succ, u8_ofNat _ b1, List.getD_cons_zero, List.getD_cons_succ]; omega
  | 4, _, 1, _ => simp only [leB, List.getElem_cons_zero, List.getElem_cons_succ, u8_ofNat _ b1, List.getD_cons_zero, List.getD_cons_succ]; omega
  | 3, _, 2, _ => simp only [leB, List.getElem_cons_zero, List.getElem_cons_succ, u8_ofNat _ b2, List.getD_cons_zero, List.getD_cons_succ]; omega
  | 4, _, 2, _ => simp only [leB, List.getElem_cons_zero, List.getElem_cons_succ, u8_ofNat _ b2, List.getD_cons_zero, List.getD_cons_succ]; omega
  | 4, _, 3, _ => simp only [leB, List.getElem_cons_zero, List.getElem_cons_succ, u8_ofNat _ b3, List.getD_cons_zero, List.getD_cons_succ]; omega
theorem put_cells {w : World} {n : Nat} {v x0 x1 x2 x3 : Int} (hn : n ≤ 4) (h : ∀ j, j < n → ([x0, x1, x2, x3] : List Int).getD j 0 = ([v % 256, v / 256 % 256, v / 65536 % 256, v / 16777216 % 256] : List Int).getD j 0) (t : TypeId) :
    ∀ j (hj : j < (leB n v).length), (w.alloc (.cells #[.int .u8 x0, .int .u8 x1, .int .u8 x2, .int .u8 x3] t)).cell? ⟨w.heap.size, 0 + j, none⟩ = some (.int .u8 ((leB n v)[j].toNat : Int)) := by
  intro j hj
  rw [leB_get hn hj]
  rw [leB_length] at hj
  rw [← h j hj]
  have h4 : j = 0 ∨ j = 1 ∨ j = 2 ∨ j = 3 := by omega
  rcases h4 with rfl | rfl | rfl | rfl <;> simp [go_sem]
set_option maxHeartbeats 400000 in
set_option maxRecDepth 100000 in
theorem wput1 (v : Int) (w : World) (h0 : 0 ≤ v) (h1 : v < 256) : Calls Tryz.prog 78 #[.int .u32 v, .int .i64 1] w fun e w' => e = .returned (.tuple #[.string (bsOf (leB 1 v)), .int .i64 0]) ∧ Below w.heap.size w w' := by
  have hz : (v / 256 != 0) = false := by simp; omega
  go_enter Tryz.func78, Tryz.ntmps78
  go_wp2_with fail
  refine (wtext_any w.heap.size 0 (leB 1 v) 4 _ (put_cells (by omega) ?_ _)).mono ?_
  · intro j hj
    have h4 : j = 0 := by omega
    rcases h4 with rfl <;> (simp only [List.getD_cons_zero]; try omega)
  rintro e w' ⟨rfl, rfl⟩
  go_wp2
  go_ret2
  exact ⟨rfl, alloc_old w _⟩
set_option maxHeartbeats 400000 in
set_option maxRecDepth 100000 in
theorem wput2 (v : Int) (w : World) (h0 : 0 ≤ v) (h1 : v < 65536) : Calls Tryz.prog 78 #[.int .u32 v, .int .i64 2] w fun e w' => e = .returned (.tuple #[.string (bsOf (leB 2 v)), .int .i64 0]) ∧ Below w.heap.size w w' := by
  have hz : (v / 65536 != 0) = false := by simp; omega
  go_enter Tryz.func78, Tryz.ntmps78
  go_wp2_with fail
  refine (wtext_any w.heap.size 0 (leB 2 v) 4 _ (put_cells (by omega) ?_ _)).mono ?_
  · intro j hj
    have h4 : j = 0 ∨ j = 1 := by omega
    rcases h4 with rfl | rfl <;> (simp only [List.getD_cons_zero, List.getD_cons_succ]; try omega)
  rintro e w' ⟨rfl, rfl⟩
  go_wp2
  go_ret2
  exact ⟨rfl, alloc_old w _⟩
set_option maxHeartbeats 400000 in
set_option maxRecDepth 100000 in
theorem wput4 (v : Int) (w : World) (h0 : 0 ≤ v) (h1 : v < 4294967296) : Calls Tryz.prog 78 #[.int .u32 v, .int .i64 4] w fun e w' => e = .returned (.tuple #[.string (bsOf (leB 4 v)), .int .i64 0]) ∧ Below w.heap.size w w' := by
  go_enter Tryz.func78, Tryz.ntmps78
  go_wp2_with fail
  refine (wtext_any w.heap.size 0 (leB 4 v) 4 _ (put_cells (by omega) ?_ _)).mono ?_
  · intro j hj
    have h4 : j = 0 ∨ j = 1 ∨ j = 2 ∨ j = 3 := by omega
    rcases h4 with rfl | rfl | rfl | rfl <;> (simp only [List.getD_cons_zero, List.getD_cons_succ]; try omega)
  rintro e w' ⟨rfl, rfl⟩
  go_wp2
  go_ret2
  exact ⟨rfl, alloc_old w _⟩
theorem bsOf_app (a : BL) (s : ByteArray) : bsOf a ++ s = bsOf (a ++ s.data.toList) := by
  apply ByteArray.ext; simp [bsOf]
end Go.Proofs.YtboegjdkedjhcaaGreatDoor
namespace Go.Proofs.YtboegjdkedjhcaaGreatDoor
open Go.RowKit
set_option maxHeartbeats 400000 in
set_option maxRecDepth 100000 in
theorem pnum1 (v : Int) (w : World) (h0 : 0 ≤ v) (h1 : v < 256) : Calls Tryz.prog 34 #[.int .u32 v, .int .i64 1] w fun e w' => e = .returned (.tuple #[.string (bsOf (leB 1 v)), .int .i64 0]) ∧ Below w.heap.size w w' := by
  have hz : (v / 256 != 0) = false := by simp; omega
  have HC := Lib.hid (wput1 v w h0 h1)
  go_enter Tryz.func34, Tryz.ntmps34
  go_wp2_with (go_at_call 78; refine HC.out.mono ?_; rintro e w' ⟨rfl, hB⟩)
  go_ret2
  exact ⟨rfl, hB⟩
set_option maxHeartbeats 400000 in
set_option maxRecDepth 100000 in
theorem pnum2 (v : Int) (w : World) (h0 : 0 ≤ v) (h1 : v < 65536) : Calls Tryz.prog 34 #[.int .u32 v, .int .i64 2] w fun e w' => e = .returned (.tuple #[.string (bsOf (leB 2 v)), .int .i64 0]) ∧ Below w.heap.size w w' := by
  have hz : (v / 65536 != 0) = false := by simp; omega
  have HC := Lib.hid (wput2 v w h0 h1)
  go_enter Tryz.func34, Tryz.ntmps34
  go_wp2_with (go_at_call 78; refine HC.out.mono ?_; rintro e w' ⟨rfl, hB⟩)
  go_ret2
  exact ⟨rfl, hB⟩
set_option maxHeartbeats 400000 in
set_option maxRecDepth 100000 in
theorem pnum4 (v : Int) (w : World) (h0 : 0 ≤ v) (h1 : v < 4294967296) : Calls Tryz.prog 34 #[.int .u32 v, .int .i64 4] w fun e w' => e = .returned (.tuple #[.string (bsOf (leB 4 v)), .int .i64 0]) ∧ Below w.heap.size w w' := by
  have HC := Lib.hid (wput4 v w h0 h1)
  go_enter Tryz.func34, Tryz.ntmps34
  go_wp2_with (go_at_call 78; refine HC.out.mono ?_; rintro e w' ⟨rfl, hB⟩)
  go_ret2
  exact ⟨rfl, hB⟩
set_option maxHeartbeats 400000 in
set_option maxRecDepth 100000 in
theorem ptext_any (s : ByteArray) (w : World) (hs : s.size < 65536) : Calls Tryz.prog 33 #[.string s] w fun e w' => e = .returned (.tuple #[.string (bsOf (encText s)), .int .i64 0]) ∧ Below w.heap.size w w' := by
  have HC := Lib.hid (pnum2 s.size w (by omega) (by omega))
  have hmin : min (s.size : Int) 65536 = s.size := by omega
  go_enter Tryz.func33, Tryz.ntmps33
  go_wp2_with fail
  refine HC.out.mono ?_
  rintro e w' ⟨rfl, hB⟩
  clear hmin
  have hcat : ¬ 9223372036854775807 < (bsOf (leB 2 s.size)).size + s.size := by rw [bsOf_size, leB_length]; omega
  go_wp2
  go_ret2
  exact ⟨by rw [bsOf_app]; rfl, hB⟩
end Go.Proofs.YtboegjdkedjhcaaGreatDoor
namespace Go.Proofs.YtboegjdkedjhcaaGreatDoor.AB
open Go.RowKit
theorem size_builder : (Tryz.prog.info? 83).map (·.size) = some 2 := by kernel_rfl
theorem lies_builder : liesAt Tryz.prog Tryz.prog.depth 83 (2 / Tryz.prog.cellsOf 83) 0 83 1 = true := by kernel_rfl
abbrev WrAt (B b : Nat) (p : Value) (l : BL) (w : World) : Prop := Lib.BuilderAt 83 5 B b p (Lib.byteCells l) w
/-- a writer that holds these bytes -/
def IsWr (B b : Nat) (l : BL) (w : World) : Prop := WrAt B b (.pointer none) l w ∨ WrAt B b (.pointer (some ⟨b, 0, none⟩)) l w
/-- a block that is no row of bytes -/
def NB (w : World) (g : Nat) : Prop := ∀ cur fr, w.heap[g]? ≠ some (.cells cur 5 fr)
/-- all blocks but b and rows of bytes are as they were -/
structure KN (b : Nat) (w w' : World) : Prop where
  size : w.heap.size ≤ w'.heap.size
  block : ∀ g, g < w.heap.size → g ≠ b → NB w g → w'.heap[g]? = w.heap[g]?
theorem KN.refl (b : Nat) (w : World) : KN b w w := ⟨Nat.le_refl _, fun _ _ _ _ => rfl⟩
theorem KN.trans {b : Nat} {w w' w'' : World} (h : KN b w w') (k : KN b w' w'') : KN b w w'' :=
  ⟨Nat.le_trans h.size k.size, fun g hg hb hn => by
    have h1 := h.block g hg hb hn
    rw [k.block g (Nat.lt_of_lt_of_le hg h.size) hb (fun cur fr => by rw [h1]; exact hn cur fr), h1]⟩
theorem KN.of_below {b : Nat} {w w' : World} (h : Below w.heap.size w w') : KN b w w' := ⟨h.size, fun g hg _ _ => h.block g hg⟩
/-- a block of this type with these cells -/
def BX (b : Nat) (w : World) (g : Nat) (t : TypeId) (cs : Array Value) : Prop := g ≠ b ∧ t ≠ 5 ∧ w.heap[g]? = some (.cells cs t (0, 0))
set_option maxHeartbeats 1000000 in
set_option maxRecDepth 100000 in
theorem copyCheck_used (b : Nat) (w : World) (h0 : w.cell? ⟨b, 0, none⟩ = some (.pointer (some ⟨b, 0, none⟩))) :
    Calls Tryz.prog 77 #[.pointer (some ⟨b, 0, none⟩)] w fun e w' => e = .returned (.tuple #[]) ∧ w' = w := by
  obtain ⟨j, hj, _⟩ := Option.map_eq_some_iff.1 size_builder
  go_enter Tryz.func77, Tryz.ntmps77
  go_wp2
  rw [Lib.run_neq_ptr_same w _ Tryz.underlying80 hj]
  go_wp2
  go_end0
  exact ⟨rfl, rfl⟩
set_option maxHeartbeats 1000000 in
set_option maxRecDepth 100000 in
theorem copyCheck_fresh (b : Nat) (w : World) (h0 : w.cell? ⟨b, 0, none⟩ = some (.pointer none)) (hsh : w.shape? b = some (83, 2)) (hfz : w.frozen? ⟨b, 0, none⟩ = false) :
    Calls Tryz.prog 77 #[.pointer (some ⟨b, 0, none⟩)] w fun e w' => e = .returned (.tuple #[]) ∧ w' = w.setCell ⟨b, 0, none⟩ (.pointer (some ⟨b, 0, none⟩)) := by
  obtain ⟨j, hj, hjs⟩ := Option.map_eq_some_iff.1 size_builder
  go_enter Tryz.func77, Tryz.ntmps77
  go_wp2
  rw [Lib.run_to_unsafe w ⟨b, 0, none⟩ Tryz.underlying80 Tryz.underlying221 hj (by rw [hjs]; decide) hsh (Nat.zero_lt_succ 1)]
  simp only [Result.andThen]
  rw [Oper.upon_value]
  go_wp2
  rw [run_callFunc_extern Tryz.func126 (by kernel_rfl) (by kernel_rfl) (by kernel_rfl) (e := Extern.AbiNoEscape.same) (by kernel_rfl)]
  rw [Lib.run_noEscape]
  simp only [Result.andThen]
  rw [Oper.upon_value]
  go_wp2
  rw [Lib.run_from_unsafe w ⟨b, 0, none⟩ Tryz.underlying221 Tryz.underlying80 hj hsh lies_builder]
  simp only [Result.andThen]
  rw [Oper.upon_value]
  go_wp2
  go_end0
  exact ⟨rfl, rfl⟩
theorem copyCheck_any (B b : Nat) (l : BL) (w : World) (h : IsWr B b l w) :
    Calls Tryz.prog 77 #[.pointer (some ⟨b, 0, none⟩)] w fun e w' => e = .returned (.tuple #[]) ∧ (WrAt B b (.pointer (some ⟨b, 0, none⟩)) l w' ∧ Below B w w' ∧ KN b w w') := by
  rcases h with h | h
  · refine (copyCheck_fresh b w h.cell0 h.shape h.frozen0).mono ?_
    rintro e w' ⟨rfl, rfl⟩
    exact ⟨rfl, h.used _, (Below.refl B w).setCell (p := ⟨b, 0, none⟩) h.1 _, by simp, fun g _ hb _ => Below.heap_setCell _ _ _ _ (by simpa using hb)⟩
  · refine (copyCheck_used b w h.cell0).mono ?_
    rintro e w' ⟨rfl, rfl⟩
    exact ⟨rfl, h, Below.refl B _, KN.refl _ _⟩
/-- behind a call of the writer's -/
def WPost (B b : Nat) (l : BL) (w w' : World) : Prop := IsWr B b l w' ∧ Below B w w' ∧ KN b w w'
theorem IsWr.keep {B b : Nat} {l : BL} {w w' : World} (h : IsWr B b l w) (k : Below w.heap.size w w') : IsWr B b l w' := by
  rcases h with ⟨h0, v, h1, h2, h3⟩ | ⟨h0, v, h1, h2, h3⟩
  · have hlt : b < w.heap.size := Lib.BuilderAt.lt ⟨h0, v, h1, h2, h3⟩
    exact .inl ⟨h0, v, by rw [k.block b hlt]; exact h1, by
      refine ⟨h2.1, ?_⟩
      rcases h2.2 with hn | ⟨g, cap, cur, rfl, hb, hg, rest⟩
      · exact .inl hn
      · exact .inr ⟨g, cap, cur, rfl, hb, by rw [k.block g (Array.getElem?_eq_some_iff.1 hg).1]; exact hg, rest⟩, h3⟩
  · have hlt : b < w.heap.size := Lib.BuilderAt.lt ⟨h0, v, h1, h2, h3⟩
    exact .inr ⟨h0, v, by rw [k.block b hlt]; exact h1, by
      refine ⟨h2.1, ?_⟩
      rcases h2.2 with hn | ⟨g, cap, cur, rfl, hb, hg, rest⟩
      · exact .inl hn
      · exact .inr ⟨g, cap, cur, rfl, hb, by rw [k.block g (Array.getElem?_eq_some_iff.1 hg).1]; exact hg, rest⟩, h3⟩
theorem WPost.trans {B b : Nat} {l l' : BL} {w w' w'' : World} (h : WPost B b l w w') (k : WPost B b l' w' w'') : WPost B b l' w w'' := ⟨k.1, h.2.1.trans k.2.1, h.2.2.trans k.2.2⟩
theorem WPost.keep {B b : Nat} {l : BL} {w w' w'' : World} (h : WPost B b l w w') (k : Below w'.heap.size w' w'') (hB : B ≤ w.heap.size) : WPost B b l w w'' := ⟨h.1.keep k, h.2.1.trans (k.mono (Nat.le_trans hB h.2.1.size)), h.2.2.trans (KN.of_below k)⟩
theorem strCells_bytes (s : ByteArray) : Lib.strCells s = Lib.byteCells s.data.toList := by
  simp [Lib.strCells, Lib.byteCells]
set_option maxHeartbeats 2000000 in
set_option maxRecDepth 100000 in
theorem writeString_any (B b : Nat) (l : BL) (s : ByteArray) (w : World) (h : IsWr B b l w) (hlen : l.length + s.size ≤ 140737488355328) (hBw : B ≤ w.heap.size) :
    Calls Tryz.prog 32 #[.pointer (some ⟨b, 0, none⟩), .string s] w fun e w' => e = .returned (.tuple #[.int .i64 s.size, .nilIface]) ∧ WPost B b (l ++ s.data.toList) w w' := by
  obtain ⟨i0, hi, hz0, hz1, hz2⟩ := info_parts info_byte
  have HI := Lib.hid (And.intro hi (And.intro hz0 (And.intro hz1 hz2)))
  clear hi hz0 hz1 hz2
  have HC := Lib.hid (copyCheck_any B b l w h); clear h
  go_enter Tryz.func32, Tryz.ntmps32
  go_wp2_with (go_at_call 77; refine HC.out.mono ?_)
  rintro e w1 ⟨rfl, h1, hb1, hkn1⟩
  obtain ⟨hB, v, hbk, hown, hne⟩ := h1
  have HKN1 := Lib.hid hkn1; clear hkn1
  have c0 : w1.cell? ⟨b, 0, none⟩ = some (.pointer (some ⟨b, 0, none⟩)) := by rw [Lib.cell_of_heap hbk]; rfl
  have c1 : w1.cell? ⟨b, 1, none⟩ = some v := by rw [Lib.cell_of_heap hbk]; rfl
  rw [Lib.byteCells_length] at hown
  have HOWN := Lib.hid hown
  have HNE := Lib.hid hne
  have HBK := Lib.hid hbk
  have HB1 := Lib.hid hb1
  clear hown hne hbk hb1
  go_wp2_with (at_builtin; refine Lib.wpList_append_own_string _ rfl _ _ 81 9 rfl B 5 i0 Tryz.underlying81 Tryz.underlying9 HI.out.1 HI.out.2.1 HI.out.2.2.1 HI.out.2.2.2 _ _ _ rfl HOWN.out s rfl ?c3 ?c4 ?c5 ?_)
  case c3 => unfold maxLen; omega
  case c4 => omega
  case c5 => have := HB1.out.size; omega
  intro v' w2 hown' hgrow _
  have hlt : b < w1.heap.size := by
    rcases Nat.lt_or_ge b w1.heap.size with h' | h'
    · exact h'
    · have hbk := HBK.out; simp [Array.getElem?_eq_none h'] at hbk
  have hb2 : w2.heap[b]? = some (.cells #[.pointer (some ⟨b, 0, none⟩), v] 83 (0, 0)) := by
    rw [hgrow.block b hlt (fun e => HNE.out e.symm)]
    exact HBK.out
  have d0 : w2.cell? ⟨b, 0, none⟩ = some (.pointer (some ⟨b, 0, none⟩)) := by rw [Lib.cell_of_heap hb2]; rfl
  have d1 : w2.cell? ⟨b, 1, none⟩ = some v := by rw [Lib.cell_of_heap hb2]; rfl
  have f1 : w2.frozen? ⟨b, 1, none⟩ = false := Lib.frozen_of_heap hb2 1
  obtain ⟨ao, n', cap, rfl⟩ : ∃ ao n' cap, v' = .slice ao n' cap := by
    rcases hown'.2 with ⟨hv, _⟩ | ⟨g, cap, cur, hv, _⟩
    · exact ⟨_, _, _, hv⟩
    · exact ⟨_, _, _, hv⟩
  have HE1 := Lib.hid (Lib.BuilderAt.put (T := 83) (e := 5) hB hb2 (bs' := Lib.byteCells (l ++ s.data.toList)) (by rw [strCells_bytes] at hown'; simpa [Lib.byteCells] using hown') (by decide))
  have HE2 := Lib.hid ((HB1.out.grown hgrow (by have := HB1.out.size; omega) (fun k hk => (HOWN.out.lt k hk).1)).setCell (p := ⟨b, 1, none⟩) hB (.slice ao n' cap))
  have HKN : Hid (KN b w (w2.setCell ⟨b, 1, none⟩ (.slice ao n' cap))) := by
    refine HKN1.out.trans ⟨by simpa using hgrow.size, fun g hg hgb hn => ?_⟩
    rw [Below.heap_setCell _ _ _ _ (by simpa using hgb), hgrow.block g hg (fun e => ?_)]
    rcases HOWN.out.2 with ⟨hv, _⟩ | ⟨g', cap', cur, hv, _, hg', _⟩
    · rw [hv] at e; cases e
    · rw [hv] at e; cases e; exact hn _ _ hg'
  clear hown' hgrow hb2 c0 c1
  go_wp2
  go_ret2
  exact ⟨rfl, .inr HE1.out, HE2.out, HKN.out⟩
set_option maxHeartbeats 1000000 in
set_option maxRecDepth 100000 in
theorem string_any (B b : Nat) (l : BL) (w : World) (h : IsWr B b l w) (h0 : l ≠ []) :
    Calls Tryz.prog 36 #[.pointer (some ⟨b, 0, none⟩)] w fun e w' => e = .returned (.string (bsOf l)) ∧ Below B w w' := by
  obtain ⟨p, hB, v, hbk, hown, hne⟩ : ∃ p, WrAt B b p l w := by
    rcases h with h | h
    · exact ⟨_, h⟩
    · exact ⟨_, h⟩
  have hl0 : l.length ≠ 0 := by simpa using h0
  rw [Lib.byteCells_length] at hown
  obtain ⟨g, cap, cur, rfl, hbg, hg, hnc, hcm, hcs, htake⟩ : ∃ g cap cur, v = .slice (some ⟨g, 0, none⟩) l.length cap ∧ B ≤ g ∧ w.heap[g]? = some (.cells cur 5 (0, 0)) ∧ l.length ≤ cap ∧ cap ≤ maxLen ∧ cur.size = cap * 1 ∧ cur.toList.take (l.length * 1) = Lib.byteCells l := by
    rcases hown.2 with ⟨_, hz⟩ | ⟨g, cap, cur, hv, r⟩
    · exact absurd hz hl0
    · exact ⟨g, cap, cur, hv, r⟩
  have c1 : w.drew.cell? ⟨b, 1, none⟩ = some (.slice (some ⟨g, 0, none⟩) l.length cap) := by
    have : w.drew.heap[b]? = some (.cells #[p, .slice (some ⟨g, 0, none⟩) l.length cap] 83 (0, 0)) := hbk
    rw [Lib.cell_of_heap this]; rfl
  have hSD : (Builtin.unsafeSliceData_ #[81] 156 #[.slice (some ⟨g, 0, none⟩) l.length cap]).run Tryz.prog w.drew = .ok (.pointer (some ⟨g, 0, none⟩)) w.drew :=
    Lib.run_unsafeSliceData_row _ _ _ _ _ _ (by omega)
  have hUS : (Builtin.unsafeString_ #[156, 3] 9 #[.pointer (some ⟨g, 0, none⟩), .int .i64 l.length]).run Tryz.prog w.drew = .ok (.string (bsOf l)) (w.drew.freeze ⟨g, 0, none⟩ l.length) := by
    refine Lib.run_unsafeString_row w.drew 156 3 9 5 Tryz.underlying156 (by kernel_rfl) g cur.size (by have hg' : w.drew.heap[g]? = some (.cells cur 5 (0, 0)) := hg; simp [World.shape?, hg']) l h0 (by omega) (by unfold maxLen at hcm; omega) ?_
    intro j x hx
    have := hown.cells (g := g) rfl j (.int .u8 x.toNat) (by simp [Lib.byteCells, hx])
    exact this
  have HH := Lib.hid hbg
  clear hown hne hbk hg htake hcs hcm hl0 h0 h
  go_enter Tryz.func36, Tryz.ntmps36
  go_wp2
  go_region
  all_goals (go_wp2; go_ret; exact ⟨rfl, Lib.below_freeze (Below.drew (Below.refl B w)) (p := ⟨g, 0, none⟩) HH.out _⟩)
end Go.Proofs.YtboegjdkedjhcaaGreatDoor.AB
namespace Go.Proofs.YtboegjdkedjhcaaGreatDoor
open Go.RowKit
theorem size_builder : (Tryz.prog.info? 83).map (·.size) = some 2 := by kernel_rfl
theorem lies_builder : liesAt Tryz.prog Tryz.prog.depth 152 (2 / Tryz.prog.cellsOf 152) 0 83 1 = true := by kernel_rfl
abbrev WrAt (B b : Nat) (p : Value) (l : BL) (w : World) : Prop := Lib.BuilderAt 152 5 B b p (Lib.byteCells l) w
/-- a writer that holds these bytes -/
def IsWr (B b : Nat) (l : BL) (w : World) : Prop := WrAt B b (.pointer none) l w ∨ WrAt B b (.pointer (some ⟨b, 0, none⟩)) l w
/-- a block that is no row of bytes -/
def NB (w : World) (g : Nat) : Prop := ∀ cur fr, w.heap[g]? ≠ some (.cells cur 5 fr)
/-- all blocks but b and rows of bytes are as they were -/
structure KN (b : Nat) (w w' : World) : Prop where
  size : w.heap.size ≤ w'.heap.size
  block : ∀ g, g < w.heap.size → g ≠ b → NB w g → w'.heap[g]? = w.heap[g]?
theorem KN.refl (b : Nat) (w : World) : KN b w w := ⟨Nat.le_refl _, fun _ _ _ _ => rfl⟩
theorem KN.trans {b : Nat} {w w' w'' : World} (h : KN b w w') (k : KN b w' w'') : KN b w w'' :=
  ⟨Nat.le_trans h.size k.size, fun g hg hb hn => by
    have h1 := h.block g hg hb hn
    rw [k.block g (Nat.lt_of_lt_of_le hg h.size) hb (fun cur fr => by rw [h1]; exact hn cur fr), h1]⟩
theorem KN.of_below {b : Nat} {w w' : World} (h : Below w.heap.size w w') : KN b w w' := ⟨h.size, fun g hg _ _ => h.block g hg⟩
/-- a block of this type with these cells -/
def BX (b : Nat) (w : World) (g : Nat) (t : TypeId) (cs : Array Value) : Prop := g ≠ b ∧ t ≠ 5 ∧ w.heap[g]? = some (.cells cs t (0, 0))
theorem BX.lt {b : Nat} {w : World} {g : Nat} {t : TypeId} {cs : Array Value} (h : BX b w g t cs) : g < w.heap.size := by
  rcases Nat.lt_or_ge g w.heap.size with h' | h'
  · exact h'
  · have := h.2.2; simp [Array.getElem?_eq_none h'] at this
theorem BX.keep {b : Nat} {w w' : World} {g : Nat} {t : TypeId} {cs : Array Value} (h : BX b w g t cs) (k : KN b w w') : BX b w' g t cs := by
  refine ⟨h.1, h.2.1, ?_⟩
  rw [k.block g h.lt h.1 (fun cur fr e => by have := h.2.2; rw [this] at e; injection e with e; injection e with _ e2 _; exact h.2.1 e2)]
  exact h.2.2
theorem BX.cell {b : Nat} {w : World} {g : Nat} {t : TypeId} {cs : Array Value} (h : BX b w g t cs) (j : Nat) : w.cell? ⟨g, j, none⟩ = cs[j]? := Lib.cell_of_heap h.2.2 j
theorem BX.new {b : Nat} {w : World} {t : TypeId} {cs : Array Value} (hb : b < w.heap.size) (ht : t ≠ 5) : BX b (w.alloc (.cells cs t)) w.heap.size t cs := ⟨by omega, ht, heap_alloc_new w _⟩
set_option maxHeartbeats 1000000 in
set_option maxRecDepth 100000 in
theorem copyCheck_used (b : Nat) (w : World) (h0 : w.cell? ⟨b, 0, none⟩ = some (.pointer (some ⟨b, 0, none⟩))) :
    Calls Tryz.prog 77 #[.pointer (some ⟨b, 0, none⟩)] w fun e w' => e = .returned (.tuple #[]) ∧ w' = w := by
  obtain ⟨j, hj, _⟩ := Option.map_eq_some_iff.1 size_builder
  go_enter Tryz.func77, Tryz.ntmps77
  go_wp2
  rw [Lib.run_neq_ptr_same w _ Tryz.underlying80 hj]
  go_wp2
  go_end0
  exact ⟨rfl, rfl⟩
set_option maxHeartbeats 1000000 in
set_option maxRecDepth 100000 in
theorem copyCheck_fresh (b : Nat) (w : World) (h0 : w.cell? ⟨b, 0, none⟩ = some (.pointer none)) (hsh : w.shape? b = some (152, 2)) (hfz : w.frozen? ⟨b, 0, none⟩ = false) :
    Calls Tryz.prog 77 #[.pointer (some ⟨b, 0, none⟩)] w fun e w' => e = .returned (.tuple #[]) ∧ w' = w.setCell ⟨b, 0, none⟩ (.pointer (some ⟨b, 0, none⟩)) := by
  obtain ⟨j, hj, hjs⟩ := Option.map_eq_some_iff.1 size_builder
  go_enter Tryz.func77, Tryz.ntmps77
  go_wp2
  rw [Lib.run_to_unsafe w ⟨b, 0, none⟩ Tryz.underlying80 Tryz.underlying221 hj (by rw [hjs]; decide) hsh (Nat.zero_lt_succ 1)]
  simp only [Result.andThen]
  rw [Oper.upon_value]
  go_wp2
  rw [run_callFunc_extern Tryz.func126 (by kernel_rfl) (by kernel_rfl) (by kernel_rfl) (e := Extern.AbiNoEscape.same) (by kernel_rfl)]
  rw [Lib.run_noEscape]
  simp only [Result.andThen]
  rw [Oper.upon_value]
  go_wp2
  rw [Lib.run_from_unsafe w ⟨b, 0, none⟩ Tryz.underlying221 Tryz.underlying80 hj hsh lies_builder]
  simp only [Result.andThen]
  rw [Oper.upon_value]
  go_wp2
  go_end0
  exact ⟨rfl, rfl⟩
theorem copyCheck_any (B b : Nat) (l : BL) (w : World) (h : IsWr B b l w) :
    Calls Tryz.prog 77 #[.pointer (some ⟨b, 0, none⟩)] w fun e w' => e = .returned (.tuple #[]) ∧ (WrAt B b (.pointer (some ⟨b, 0, none⟩)) l w' ∧ Below B w w' ∧ KN b w w') := by
  rcases h with h | h
  · refine (copyCheck_fresh b w h.cell0 h.shape h.frozen0).mono ?_
    rintro e w' ⟨rfl, rfl⟩
    exact ⟨rfl, h.used _, (Below.refl B w).setCell (p := ⟨b, 0, none⟩) h.1 _, by simp, fun g _ hb _ => Below.heap_setCell _ _ _ _ (by simpa using hb)⟩
  · refine (copyCheck_used b w h.cell0).mono ?_
    rintro e w' ⟨rfl, rfl⟩
    exact ⟨rfl, h, Below.refl B _, KN.refl _ _⟩
/-- behind a call of the writer's -/
def WPost (B b : Nat) (l : BL) (w w' : World) : Prop := IsWr B b l w' ∧ Below B w w' ∧ KN b w w'
theorem IsWr.keep {B b : Nat} {l : BL} {w w' : World} (h : IsWr B b l w) (k : Below w.heap.size w w') : IsWr B b l w' := by
  rcases h with ⟨h0, v, h1, h2, h3⟩ | ⟨h0, v, h1, h2, h3⟩
  · have hlt : b < w.heap.size := Lib.BuilderAt.lt ⟨h0, v, h1, h2, h3⟩
    exact .inl ⟨h0, v, by rw [k.block b hlt]; exact h1, by
      refine ⟨h2.1, ?_⟩
      rcases h2.2 with hn | ⟨g, cap, cur, rfl, hb, hg, rest⟩
      · exact .inl hn
      · exact .inr ⟨g, cap, cur, rfl, hb, by rw [k.block g (Array.getElem?_eq_some_iff.1 hg).1]; exact hg, rest⟩, h3⟩
  · have hlt : b < w.heap.size := Lib.BuilderAt.lt ⟨h0, v, h1, h2, h3⟩
    exact .inr ⟨h0, v, by rw [k.block b hlt]; exact h1, by
      refine ⟨h2.1, ?_⟩
      rcases h2.2 with hn | ⟨g, cap, cur, rfl, hb, hg, rest⟩
      · exact .inl hn
      · exact .inr ⟨g, cap, cur, rfl, hb, by rw [k.block g (Array.getElem?_eq_some_iff.1 hg).1]; exact hg, rest⟩, h3⟩
theorem IsWr.lt {B b : Nat} {l : BL} {w : World} (h : IsWr B b l w) : b < w.heap.size := h.elim Lib.BuilderAt.lt Lib.BuilderAt.lt
theorem WPost.trans {B b : Nat} {l l' : BL} {w w' w'' : World} (h : WPost B b l w w') (k : WPost B b l' w' w'') : WPost B b l' w w'' := ⟨k.1, h.2.1.trans k.2.1, h.2.2.trans k.2.2⟩
theorem WPost.keep {B b : Nat} {l : BL} {w w' w'' : World} (h : WPost B b l w w') (k : Below w'.heap.size w' w'') (hB : B ≤ w.heap.size) : WPost B b l w w'' := ⟨h.1.keep k, h.2.1.trans (k.mono (Nat.le_trans hB h.2.1.size)), h.2.2.trans (KN.of_below k)⟩
theorem strCells_bytes (s : ByteArray) : Lib.strCells s = Lib.byteCells s.data.toList := by
  simp [Lib.strCells, Lib.byteCells]
set_option maxHeartbeats 2000000 in
set_option maxRecDepth 100000 in
theorem writeString_any (B b : Nat) (l : BL) (s : ByteArray) (w : World) (h : IsWr B b l w) (hlen : l.length + s.size ≤ 140737488355328) (hBw : B ≤ w.heap.size) :
    Calls Tryz.prog 32 #[.pointer (some ⟨b, 0, none⟩), .string s] w fun e w' => e = .returned (.tuple #[.int .i64 s.size, .nilIface]) ∧ WPost B b (l ++ s.data.toList) w w' := by
  obtain ⟨i0, hi, hz0, hz1, hz2⟩ := info_parts info_byte
  have HI := Lib.hid (And.intro hi (And.intro hz0 (And.intro hz1 hz2)))
  clear hi hz0 hz1 hz2
  have HC := Lib.hid (copyCheck_any B b l w h); clear h
  go_enter Tryz.func32, Tryz.ntmps32
  go_wp2_with (go_at_call 77; refine HC.out.mono ?_)
  rintro e w1 ⟨rfl, h1, hb1, hkn1⟩
  obtain ⟨hB, v, hbk, hown, hne⟩ := h1
  have HKN1 := Lib.hid hkn1; clear hkn1
  have c0 : w1.cell? ⟨b, 0, none⟩ = some (.pointer (some ⟨b, 0, none⟩)) := by rw [Lib.cell_of_heap hbk]; rfl
  have c1 : w1.cell? ⟨b, 1, none⟩ = some v := by rw [Lib.cell_of_heap hbk]; rfl
  rw [Lib.byteCells_length] at hown
  have HOWN := Lib.hid hown
  have HNE := Lib.hid hne
  have HBK := Lib.hid hbk
  have HB1 := Lib.hid hb1
  clear hown hne hbk hb1
  go_wp2_with (at_builtin; refine Lib.wpList_append_own_string _ rfl _ _ 81 9 rfl B 5 i0 Tryz.underlying81 Tryz.underlying9 HI.out.1 HI.out.2.1 HI.out.2.2.1 HI.out.2.2.2 _ _ _ rfl HOWN.out s rfl ?c3 ?c4 ?c5 ?_)
  case c3 => unfold maxLen; omega
  case c4 => omega
  case c5 => have := HB1.out.size; omega
  intro v' w2 hown' hgrow _
  have hlt : b < w1.heap.size := by
    rcases Nat.lt_or_ge b w1.heap.size with h' | h'
    · exact h'
    · have hbk := HBK.out; simp [Array.getElem?_eq_none h'] at hbk
  have hb2 : w2.heap[b]? = some (.cells #[.pointer (some ⟨b, 0, none⟩), v] 152 (0, 0)) := by
    rw [hgrow.block b hlt (fun e => HNE.out e.symm)]
    exact HBK.out
  have d0 : w2.cell? ⟨b, 0, none⟩ = some (.pointer (some ⟨b, 0, none⟩)) := by rw [Lib.cell_of_heap hb2]; rfl
  have d1 : w2.cell? ⟨b, 1, none⟩ = some v := by rw [Lib.cell_of_heap hb2]; rfl
  have f1 : w2.frozen? ⟨b, 1, none⟩ = false := Lib.frozen_of_heap hb2 1
  obtain ⟨ao, n', cap, rfl⟩ : ∃ ao n' cap, v' = .slice ao n' cap := by
    rcases hown'.2 with ⟨hv, _⟩ | ⟨g, cap, cur, hv, _⟩
    · exact ⟨_, _, _, hv⟩
    · exact ⟨_, _, _, hv⟩
  have HE1 := Lib.hid (Lib.BuilderAt.put (T := 152) (e := 5) hB hb2 (bs' := Lib.byteCells (l ++ s.data.toList)) (by rw [strCells_bytes] at hown'; simpa [Lib.byteCells] using hown') (by decide))
  have HE2 := Lib.hid ((HB1.out.grown hgrow (by have := HB1.out.size; omega) (fun k hk => (HOWN.out.lt k hk).1)).setCell (p := ⟨b, 1, none⟩) hB (.slice ao n' cap))
  have HKN : Hid (KN b w (w2.setCell ⟨b, 1, none⟩ (.slice ao n' cap))) := by
    refine HKN1.out.trans ⟨by simpa using hgrow.size, fun g hg hgb hn => ?_⟩
    rw [Below.heap_setCell _ _ _ _ (by simpa using hgb), hgrow.block g hg (fun e => ?_)]
    rcases HOWN.out.2 with ⟨hv, _⟩ | ⟨g', cap', cur, hv, _, hg', _⟩
    · rw [hv] at e; cases e
    · rw [hv] at e; cases e; exact hn _ _ hg'
  clear hown' hgrow hb2 c0 c1
  go_wp2
  go_ret2
  exact ⟨rfl, .inr HE1.out, HE2.out, HKN.out⟩
set_option maxHeartbeats 1000000 in
set_option maxRecDepth 100000 in
theorem string_any (B b : Nat) (l : BL) (w : World) (h : IsWr B b l w) (h0 : l ≠ []) :
    Calls Tryz.prog 36 #[.pointer (some ⟨b, 0, none⟩)] w fun e w' => e = .returned (.string (bsOf l)) ∧ Below B w w' := by
  obtain ⟨p, hB, v, hbk, hown, hne⟩ : ∃ p, WrAt B b p l w := by
    rcases h with h | h
    · exact ⟨_, h⟩
    · exact ⟨_, h⟩
  have hl0 : l.length ≠ 0 := by simpa using h0
  rw [Lib.byteCells_length] at hown
  obtain ⟨g, cap, cur, rfl, hbg, hg, hnc, hcm, hcs, htake⟩ : ∃ g cap cur, v = .slice (some ⟨g, 0, none⟩) l.length cap ∧ B ≤ g ∧ w.heap[g]? = some (.cells cur 5 (0, 0)) ∧ l.length ≤ cap ∧ cap ≤ maxLen ∧ cur.size = cap * 1 ∧ cur.toList.take (l.length * 1) = Lib.byteCells l := by
    rcases hown.2 with ⟨_, hz⟩ | ⟨g, cap, cur, hv, r⟩
    · exact absurd hz hl0
    · exact ⟨g, cap, cur, hv, r⟩
  have c1 : w.drew.cell? ⟨b, 1, none⟩ = some (.slice (some ⟨g, 0, none⟩) l.length cap) := by
    have : w.drew.heap[b]? = some (.cells #[p, .slice (some ⟨g, 0, none⟩) l.length cap] 152 (0, 0)) := hbk
    rw [Lib.cell_of_heap this]; rfl
  have hSD : (Builtin.unsafeSliceData_ #[81] 156 #[.slice (some ⟨g, 0, none⟩) l.length cap]).run Tryz.prog w.drew = .ok (.pointer (some ⟨g, 0, none⟩)) w.drew :=
    Lib.run_unsafeSliceData_row _ _ _ _ _ _ (by omega)
  have hUS : (Builtin.unsafeString_ #[156, 3] 9 #[.pointer (some ⟨g, 0, none⟩), .int .i64 l.length]).run Tryz.prog w.drew = .ok (.string (bsOf l)) (w.drew.freeze ⟨g, 0, none⟩ l.length) := by
    refine Lib.run_unsafeString_row w.drew 156 3 9 5 Tryz.underlying156 (by kernel_rfl) g cur.size (by have hg' : w.drew.heap[g]? = some (.cells cur 5 (0, 0)) := hg; simp [World.shape?, hg']) l h0 (by omega) (by unfold maxLen at hcm; omega) ?_
    intro j x hx
    have := hown.cells (g := g) rfl j (.int .u8 x.toNat) (by simp [Lib.byteCells, hx])
    exact this
  have HH := Lib.hid hbg
  clear hown hne hbk hg htake hcs hcm hl0 h0 h
  go_enter Tryz.func36, Tryz.ntmps36
  go_wp2
  go_region
  all_goals (go_wp2; go_ret; exact ⟨rfl, Lib.below_freeze (Below.drew (Below.refl B w)) (p := ⟨g, 0, none⟩) HH.out _⟩)
end Go.Proofs.YtboegjdkedjhcaaGreatDoor
namespace Go.Proofs.YtboegjdkedjhcaaGreatDoor
open Go.RowKit
theorem pnum_any (n : Nat) (v : Int) (w : World) (hn : n = 1 ∨ n = 2 ∨ n = 4) (h0 : 0 ≤ v) (h1 : v < pow256 n) : Calls Tryz.prog 34 #[.int .u32 v, .int .i64 n] w fun e w' => e = .returned (.tuple #[.string (bsOf (leB n v)), .int .i64 0]) ∧ Below w.heap.size w w' := by
  rcases hn with rfl | rfl | rfl
  · exact pnum1 v w h0 (by rw [p1] at h1; exact h1)
  · exact pnum2 v w h0 (by rw [p2] at h1; exact h1)
  · exact pnum4 v w h0 (by rw [p4] at h1; exact h1)
set_option maxHeartbeats 400000 in
set_option maxRecDepth 100000 in
theorem wrText_any (B b : Nat) (l : BL) (s : ByteArray) (w : World) (h : IsWr B b l w) (hs : s.size < 65536) (hlen : l.length ≤ 1000000000) (hB : B ≤ w.heap.size) :
    Calls Tryz.prog 79 #[.pointer (some ⟨b, 0, none⟩), .string s] w fun e w' => e = .returned (.tuple #[]) ∧ WPost B b (l ++ encText s) w w' := by
  have HC := Lib.hid (ptext_any s w hs)
  have HW := Lib.hid h; clear h
  have HZ : Hid ((bsOf (encText s)).size ≤ 65537) := by rw [Hid, bsOf_size, encText, List.length_append, leB_length, len_list]; omega
  go_enter Tryz.func79, Tryz.ntmps79
  go_wp2_with fail
  refine HC.out.mono ?_
  rintro e w1 ⟨rfl, hB1⟩
  have HS := Lib.hid (writeString_any B b l (bsOf (encText s)) w1 (HW.out.keep hB1) (by have := HZ.out; omega) (Nat.le_trans hB hB1.size))
  have HB1 := Lib.hid hB1; clear hB1 HC
  go_wp2_with fail
  refine HS.out.mono ?_
  rintro e w2 ⟨rfl, h2⟩
  have H2 := Lib.hid h2; clear h2 HS
  go_wp2
  go_end0
  exact ⟨rfl, H2.out.1, (HB1.out.mono hB).trans H2.out.2.1, (KN.of_below HB1.out).trans H2.out.2.2⟩
set_option maxHeartbeats 1000000 in
set_option maxRecDepth 100000 in
theorem nums_any (B b g n : Nat) (xs : List Int) (l : BL) (w : World) (h : IsWr B b l w) (hg : BX b w g 51 (xs.map (Value.int .u32)).toArray) (hn : n = 1 ∨ n = 2 ∨ n = 4) (hx : ∀ x ∈ xs, 0 ≤ x ∧ x < pow256 n) (hxl : xs.length ≤ 2) (hlen : l.length ≤ 1000000000) (hB : B ≤ w.heap.size) :
    Calls Tryz.prog 80 #[.pointer (some ⟨b, 0, none⟩), .int .i64 n, .slice (some ⟨g, 0, none⟩) xs.length xs.length] w fun e w' => e = .returned (.tuple #[]) ∧ WPost B b (l ++ xs.flatMap (leB n)) w w' := by
  have HW : Hid (WPost B b (l ++ (xs.take 0).flatMap (leB n)) w w) := ⟨by simpa using h, Below.refl _ _, KN.refl _ _⟩
  have HG := Lib.hid hg
  have HX := Lib.hid hx
  have HN := Lib.hid hn
  have hn4 : n ≤ 4 := by omega
  clear h hg hx hn
  go_enter Tryz.func80, Tryz.ntmps80
  go_wp2
  go_loopw [12] (fun v12 wr => ∃ i : Nat, i ≤ xs.length ∧ v12 = .int .i64 i ∧ WPost B b (l ++ (xs.take i).flatMap (leB n)) w wr) (fun v12 _ => xs.length - (intOf v12).toNat)
  case atStart => exact ⟨0, Nat.zero_le _, rfl, HW.out⟩
  case round =>
    obtain ⟨i, hi, rfl, hw⟩ := hrel
    clear HW
    have HW := Lib.hid hw; clear hw
    have hBr : B ≤ wr.heap.size := Nat.le_trans hB HW.out.2.1.size
    by_cases hlt : i < xs.length
    · have c := (HG.out.keep HW.out.2.2).cell i
      rw [List.getElem?_toArray, List.getElem?_map, List.getElem?_eq_getElem hlt, Option.map_some] at c
      have hb := HX.out _ (List.getElem_mem hlt)
      have HL : Hid (((xs.take i).flatMap (leB n)).length ≤ 8) := by
        rw [Hid, show ((xs.take i).flatMap (leB n)).length = (xs.take i).length * n from ?_]
        · rw [List.length_take]
          have h1 : min i xs.length ≤ 2 := by omega
          have h2 : n ≤ 4 := by rcases HN.out with h | h | h <;> omega
          exact Nat.le_trans (Nat.mul_le_mul h1 h2) (by omega)
        · induction xs.take i with
          | nil => simp
          | cons a r ih => rw [List.flatMap_cons, List.length_append, ih, leB_length, List.length_cons, Nat.succ_mul]; omega
      have HT : Hid (l ++ (xs.take (i + 1)).flatMap (leB n) = (l ++ (xs.take i).flatMap (leB n)) ++ leB n xs[i]) := by
        rw [Hid, List.take_succ_eq_append_getElem hlt, List.flatMap_append, List.flatMap_singleton, List.append_assoc]
      generalize xs[i] = x at c hb HT
      have HC := Lib.hid (pnum_any n x wr HN.out hb.1 hb.2)
      clear hb
      go_wp2_with fail
      refine HC.out.mono ?_
      rintro e w1 ⟨rfl, hB1⟩
      have HS := Lib.hid (writeString_any B b (l ++ (xs.take i).flatMap (leB n)) (bsOf (leB n x)) w1 (HW.out.1.keep hB1) (by rw [bsOf_size, leB_length, List.length_append]; have := HL.out; omega) (Nat.le_trans hBr hB1.size))
      have HB1 := Lib.hid hB1; clear hB1 HC c
      go_wp2_with fail
      refine HS.out.mono ?_
      rintro e w2 ⟨rfl, h2⟩
      have H2 := Lib.hid h2; clear h2 HS
      go_wp2
      go_roundw
      case rel => exact ⟨i + 1, by omega, by go_num, by rw [HT.out]; exact (HW.out.keep HB1.out hB).trans H2.out⟩
      case measure => simp [intOf]; omega
    · have HE : Hid (xs.take i = xs) := List.take_of_length_le (by omega)
      have hw := HW.out
      rw [HE.out] at hw
      have HW2 := Lib.hid hw; clear hw HE
      go_wp2
      go_end0
      exact ⟨rfl, HW2.out⟩
end Go.Proofs.YtboegjdkedjhcaaGreatDoor
