/- Rows of lines; the walk of maker.label. -/
import Derived.Test.YtoonkfhphbojcaaGreatDoorBv26
import Derived.Test.YtoonkfhphbojcaaGreatDoorBv10
import Derived.Test.YtoonkfhphbojcaaGreatDoorBv25
import Derived.Test.YtoonkfhphbojcaaGreatDoorBv06
import Derived.Test.YtoonkfhphbojcaaGreatDoorBv11
namespace Go.Proofs.YtoonkfhphbojcaaGreatDoor
open Go.RowKit Go.Maps Go.WideMaps
def lineC (x : GLine) : List Value := (lineA x).toList
/-- a line in a row -/
def LineR (w : World) (b o : Nat) (x : GLine) : Prop := b < w.heap.size ∧ w.cell? ⟨b, o, none⟩ = some (.string (bsOf x.label)) ∧ w.cell? ⟨b, o + 1, none⟩ = some (.int .u8 x.x.op) ∧ w.cell? ⟨b, o + 2, none⟩ = some (.int .u8 x.x.d) ∧ w.cell? ⟨b, o + 3, none⟩ = some (.int .u8 x.x.a) ∧ w.cell? ⟨b, o + 4, none⟩ = some (.int .u8 x.x.b) ∧ w.cell? ⟨b, o + 5, none⟩ = some (.int .u32 x.x.imm) ∧ w.cell? ⟨b, o + 6, none⟩ = some (.string (bsOf x.dest)) ∧ w.cell? ⟨b, o + 7, none⟩ = some (.string (bsOf x.name)) ∧ LineB x
theorem lineR_keeps : Keeps LineR := fun _ _ _ _ _ hb ⟨h0, h1, h2, h3, h4, h5, h6, h7, h8, r⟩ => ⟨size_keep hb h0, cell_keep hb h0 h1, cell_keep hb h0 h2, cell_keep hb h0 h3, cell_keep hb h0 h4, cell_keep hb h0 h5, cell_keep hb h0 h6, cell_keep hb h0 h7, cell_keep hb h0 h8, r⟩
theorem lineC_len (x : GLine) : (lineC x).length = 8 := rfl
theorem line_back {w : World} {v : Value} {base : Nat} {e : TypeId} {l : List GLine} (h : w.ownsRow base e 8 v l.length (l.flatMap lineC)) (hl : l.length ≤ 140737488355328) (hb : ∀ y ∈ l, LineB y) : RowAt 8 LineR w v l :=
  owned_row lineC_len h hl fun g o i hi hg hc => ⟨hg, hc 0 _ (by omega) rfl, hc 1 _ (by omega) rfl, hc 2 _ (by omega) rfl, hc 3 _ (by omega) rfl, hc 4 _ (by omega) rfl, hc 5 _ (by omega) rfl, hc 6 _ (by omega) rfl, hc 7 _ (by omega) rfl, hb _ (List.getElem_mem hi)⟩
theorem line_one {y : GLine} : ∀ u ∈ lineC y, u.oneCell' = true := by
  intro u hu
  simp only [lineC, lineA, List.mem_cons, List.not_mem_nil, or_false] at hu
  rcases hu with rfl | rfl | rfl | rfl | rfl | rfl | rfl | rfl <;> rfl
theorem line_news {w : World} {b o : Nat} {y : GLine} (h : LineR w b o y) : ∀ j u, (lineC y)[j]? = some u → w.cell? ((⟨b, o, none⟩ : Addr).add j) = some u := by
  obtain ⟨-, h1, h2, h3, h4, h5, h6, h7, h8, -⟩ := h
  intro j u hu
  rw [add_at]
  match j, hu with
  | 0, hu => cases hu; exact h1
  | 1, hu => cases hu; exact h2
  | 2, hu => cases hu; exact h3
  | 3, hu => cases hu; exact h4
  | 4, hu => cases hu; exact h5
  | 5, hu => cases hu; exact h6
  | 6, hu => cases hu; exact h7
  | 7, hu => cases hu; exact h8
  | n + 8, hu => simp [lineC, lineA] at hu
theorem LnAt.rowR {b : Nat} {l : GLine} {w : World} (h : LnAt b l w) (hl : LineB l) : LineR w b 0 l :=
  ⟨h.lt, h.cell 0, h.cell 1, h.cell 2, h.cell 3, h.cell 4, h.cell 5, h.cell 6, h.cell 7, hl⟩
def labVs (M : BL → Option Nat) : BL → Option Value := fun s => (M s).map fun k => .int .u32 (8 * (k : Int))
theorem zeroU32 (w : World) : (zeroValue 22).run Tryz.prog w = .ok (.int .u32 0) w := by kernel_rfl
def LabelPost (l : List GLine) (gb : Nat) (w : World) (e : Ending) (w' : World) : Prop :=
  KB (fun b => b = gb) w w' ∧ ((labGo l 0 (fun _ => none) = none ∧ e = .returned (.int .i64 9)) ∨ (∃ M n, labGo l 0 (fun _ => none) = some M ∧ e = .returned (.int .i64 0) ∧ MapFn Tryz.prog 9 w' gb n (labVs M) ∧ n ≤ l.length))
set_option maxHeartbeats 4000000 in
set_option maxRecDepth 100000 in
theorem label33 (l : List GLine) (vl : Value) (mb gb : Nat) (w0 w : World) (hl : RowAt 8 LineR w0 vl l) (h0 : Below w0.heap.size w0 w) (hgb : w0.heap.size ≤ gb) (hmg : mb ≠ gb) (hml : mb < w.heap.size) (hm : w.cell? ⟨mb, 7, none⟩ = some (.map (some gb))) (hg : MapFn Tryz.prog 9 w gb 0 (fun _ => none)) (hn : l.length ≤ 1024) :
    Calls Tryz.prog 141 #[.pointer (some ⟨mb, 0, none⟩), vl] w (LabelPost l gb w) := by
  obtain ⟨p, cap, b, o, rfl, hcap, hmax, hp, hc⟩ := hl
  have HC := Lib.hid hc; clear hc
  have HP := Lib.hid hp; clear hp
  have H0 := Lib.hid h0; clear h0
  have HPD : Hid (∀ e w', LabelPost l gb w e w' ↔ KB (fun b => b = gb) w w' ∧ ((labGo l 0 (fun _ => none) = none ∧ e = .returned (.int .i64 9)) ∨ (∃ M n, labGo l 0 (fun _ => none) = some M ∧ e = .returned (.int .i64 0) ∧ MapFn Tryz.prog 9 w' gb n (labVs M) ∧ n ≤ l.length))) := Lib.hid fun _ _ => Iff.rfl
  generalize LabelPost l gb w = Post at HPD ⊢
  go_enter Tryz.func141, Tryz.ntmps141
  go_wp2
  go_loopw [11] (fun i wr => ∃ (k : Nat) (M : BL → Option Nat) (n : Nat), k ≤ l.length ∧ i = .int .i64 k ∧ labGo (l.drop k) k M = labGo l 0 (fun _ => none) ∧ MapFn Tryz.prog 9 wr gb n (labVs M) ∧ n ≤ k ∧ KB (fun b => b = gb) w wr) (fun i _ => l.length - (intOf i).toNat)
  case atStart => exact ⟨0, _, 0, Nat.zero_le _, rfl, rfl, hg, Nat.zero_le _, KB.refl _ _⟩
  case round =>
    obtain ⟨k, M, n, hk, rfl, hgo, hmap, hnk, hkb⟩ := hrel
    have HGO := Lib.hid hgo; clear hgo
    have HKB := Lib.hid hkb; clear hkb
    have hgl : gb < wr.heap.size := hmap.lt
    by_cases hlt : k < l.length
    · obtain rfl := HP.out (by omega)
      obtain ⟨hb0, z0, z1, z2, z3, z4, z5, z6, z7, hlb⟩ := lineR_keeps _ _ _ _ _ H0.out (HC.out k hlt)
      have hbg : b ≠ gb := by have := (HC.out k hlt).1; omega
      replace z0 := HKB.out.cell hb0 hbg z0
      replace z1 := HKB.out.cell hb0 hbg z1
      replace z2 := HKB.out.cell hb0 hbg z2
      replace z3 := HKB.out.cell hb0 hbg z3
      replace z4 := HKB.out.cell hb0 hbg z4
      replace z5 := HKB.out.cell hb0 hbg z5
      replace z6 := HKB.out.cell hb0 hbg z6
      replace z7 := HKB.out.cell hb0 hbg z7
      have m7 := HKB.out.cell hml hmg hm
      have hbr : b < wr.heap.size := by have := HKB.out.size; omega
      have hmr : mb < wr.heap.size := by have := HKB.out.size; omega
      have HGO2 : Hid (labGo l 0 (fun _ => none) = if l[k].label = [] then labGo (l.drop (k + 1)) (k + 1) M else if (M l[k].label).isSome then none else labGo (l.drop (k + 1)) (k + 1) (fun s => if s = l[k].label then some k else M s)) := Lib.hid (by rw [← HGO.out, List.drop_eq_getElem_cons hlt]; rfl)
      have hll : l[k].label.length ≤ 1000000 := hlb.label
      generalize l[k] = x at *
      obtain ⟨xl, ⟨op, xd, xa, xb, xi⟩, dd, nn⟩ := x
      simp only [] at z0 z1 z2 z3 z4 z5 z6 z7 HGO2 hll
      clear hlb
      have hne := bs_nil33 xl
      have hsz : (bsOf xl).size ≤ 9223372036854775807 := by rw [bsOf_size]; omega
      have HM := Lib.hid (hmap.alloc (.cells #[.string (bsOf xl), .int .u8 op, .int .u8 xd, .int .u8 xa, .int .u8 xb, .int .u32 xi, .string (bsOf dd), .string (bsOf nn)] 59)); clear hmap
      have HKA := Lib.hid (HKB.out.alloc (.cells #[.string (bsOf xl), .int .u8 op, .int .u8 xd, .int .u8 xa, .int .u8 xb, .int .u32 xi, .string (bsOf dd), .string (bsOf nn)] 59))
      have HD : Hid ((bsOf xl).data.toList = xl) := Lib.hid rfl
      by_cases h0 : xl = []
      · have hne2 : (bsOf xl).toList.isEmpty = true := by rw [hne]; simp [h0]
        clear hne
        have HG3 : Hid (labGo (l.drop (k + 1)) (k + 1) M = labGo l 0 (fun _ => none)) := Lib.hid (by rw [HGO2.out, if_pos h0])
        clear h0
        generalize bsOf xl = S at *
        go_wp2
        go_roundw
        case rel => exact ⟨k + 1, M, n, by omega, by go_num, HG3.out, HM.out, by omega, HKA.out⟩
        case measure => simp [intOf]; omega
      · have hne2 : (bsOf xl).toList.isEmpty = false := by rw [hne]; simp [h0]
        clear hne
        have HG3 : Hid (labGo l 0 (fun _ => none) = if (M xl).isSome then none else labGo (l.drop (k + 1)) (k + 1) (fun s => if s = xl then some k else M s)) := Lib.hid (by rw [HGO2.out, if_neg h0])
        have HV : Hid ((labVs M (bsOf xl).data.toList).getD (.int .u32 0) = .int .u32 (8 * (((M xl).getD 0 : Nat) : Int))) := Lib.hid (by rw [HD.out]; unfold labVs; cases M xl <;> rfl)
        have HI : Hid ((labVs M (bsOf xl).data.toList).isSome = (M xl).isSome) := Lib.hid (by rw [HD.out]; unfold labVs; cases M xl <;> rfl)
        have HUP : Hid (labVs (fun s => if s = xl then some k else M s) = fun s => if s = (bsOf xl).data.toList then some (.int .u32 (8 * (k : Int))) else labVs M s) := Lib.hid (by rw [HD.out]; funext s; unfold labVs; by_cases e : s = xl <;> simp [e])
        generalize (M xl).getD 0 = v0 at HV
        generalize (M xl).isSome = is at HI HG3
        clear h0 HD HGO2
        generalize bsOf xl = S at *
        go_upto_region 5 with fail
        generalize hwa : (wr.alloc (.cells #[.string S, .int .u8 op, .int .u8 xd, .int .u8 xa, .int .u8 xb, .int .u32 xi, .string (bsOf dd), .string (bsOf nn)] 59)) = wA at *
        have e0 : wA.cell? ⟨wr.heap.size, 0, none⟩ = some (.string S) := by subst hwa; simp [go_sem]
        have d7 : wA.cell? ⟨mb, 7, none⟩ = some (.map (some gb)) := by subst hwa; exact cell_keep (alloc_old wr _) hmr m7
        clear hwa z0 z1 z2 z3 z4 z5 z6 z7 m7
        have hlk : (Instr.lookup 194 (.map (some gb)) (.string S) true).run Tryz.prog wA.drew = .ok (.tuple #[.int .u32 (8 * (v0 : Int)), .bool is]) wA.drew := by
          have := HM.out.drew.look_ok keyedS Tryz.underlying194 Tryz.underlying9 (zeroU32 _) hsz
          rw [HV.out, HI.out] at this
          exact this
        obtain ⟨RS, HSD⟩ : ∃ RS : World → Prop, ∀ w', RS w' ↔ w' = wA.drew := ⟨_, fun _ => Iff.rfl⟩
        have r0 : ∀ z : HW RS, z.u.cell? ⟨wr.heap.size, 0, none⟩ = some (.string S) := fun z => by rw [(HSD _).1 z.h]; exact e0
        have r7 : ∀ z : HW RS, z.u.cell? ⟨mb, 7, none⟩ = some (.map (some gb)) := fun z => by rw [(HSD _).1 z.h]; exact d7
        have rl : ∀ z : HW RS, (Instr.lookup 194 (.map (some gb)) (.string S) true).run Tryz.prog z.u = .ok (.tuple #[.int .u32 (8 * (v0 : Int)), .bool is]) z.u := fun z => by rw [(HSD _).1 z.h]; exact hlk
        haveI : Nonempty (HW RS) := ⟨⟨_, (HSD _).2 rfl⟩⟩
        refine wp_region_marks RS [.r, .r, .r, .r, .r, .r, .r, .r, .r, .r, .r, .p] rfl (by kernel_rfl) ((HSD _).2 rfl) ?_
        repeat (refine wpReads_step (fun K hK => ?_); go_simp; refine hK _ ?_; clear hK K)
        refine wpReads_nil ?_
        refine wpTurns_nil ?_
        simp only [pickP]
        clear r0 r7 rl hlk HSD
        have HMB := Lib.hid HM.out.drew
        have HKB2 := Lib.hid HKA.out.drew
        have e1 : wA.drew.cell? ⟨wr.heap.size, 0, none⟩ = some (.string S) := e0
        have d8 : wA.drew.cell? ⟨mb, 7, none⟩ = some (.map (some gb)) := d7
        clear HM HKA e0 d7
        generalize wA.drew = wB at *
        go_wp2
        refine NoPanic.normal ?_
        cases is with
        | true =>
          go_wp2
          exact (HPD.out _ _).2 ⟨HKB2.out, .inl ⟨by rw [HG3.out]; rfl, rfl⟩⟩
        | false =>
          go_upto_region 8 with fail
          have q8 : IntKind.u32.wrap (IntKind.u32.wrap (k : Int) * 8) = 8 * (k : Int) := by rw [IntKind.wrap_u32, IntKind.wrap_u32]; omega
          go_still_tail 9, (by kernel_rfl)
          refine wpList_put _ rfl _ _ _ 194 rfl 9 22 keyedS Tryz.underlying194 Tryz.underlying9 rfl HMB.out.drew (by unfold maxLen; omega) S (.int .u32 (8 * (k : Int))) rfl rfl hsz ?_
          intro w4 hM4 hg4
          have HM4 := Lib.hid hM4
          have HK4 : Hid (KB (fun b => b = gb) w w4) := Lib.hid (HKB2.out.drew.grown hg4 (fun q e => by cases e; exact .inl rfl))
          clear hM4 hg4
          go_wp2
          go_roundw
          case rel => exact ⟨k + 1, _, n + 1, by omega, by go_num, by rw [HG3.out]; rfl, by rw [HUP.out]; exact HM4.out, by omega, HK4.out⟩
          case measure => simp [intOf]; omega
    · go_wp2
      refine (HPD.out _ _).2 ⟨HKB.out, .inr ⟨M, n, ?_, rfl, hmap, by omega⟩⟩
      rw [← HGO.out, List.drop_of_length_le (by omega)]
      rfl
end Go.Proofs.YtoonkfhphbojcaaGreatDoor
