/- The walk of link's fill. A map from places to places as a function. A map with keys of any kind as a function, over the kit's word ownsMap. No program in sight. The walk of link.perm: a map literal. -/
import Derived.Test.YtdjgkmpjhpnkeaaGreatDoorBd06
import Derived.Test.YtdjgkmpjhpnkeaaGreatDoorBd07
import Derived.Test.YtdjgkmpjhpnkeaaGreatDoorBd08
import Derived.Test.YtdjgkmpjhpnkeaaGreatDoorBd09
import Derived.Deep.RegionHeld3
import Derived.Deep.DeepCutAuto
import Derived.Test.YtdjgkmpjhpnkeaaGreatDoorBd02
import Derived.Test.YtdjgkmpjhpnkeaaGreatDoorProg
import Derived.DeepKeys4
import Derived.Test.YtdjgkmpjhpnkeaaGreatDoorBd05
import Derived.Test.YtdjgkmpjhpnkeaaGreatDoorRows
import Derived.Maps.Keyed
import Derived.Lib.Hide
namespace Go.Proofs.YtdjgkmpjhpnkeaaGreatDoor
open Go.RowKit Go.Maps Go.WideMaps
def addrsOf (wh : List GAddr) (qs : List (Nat × Nat)) : List Int := qs.map fun q => (layFind wh (toG q)).1
theorem addrsOf_snoc {wh : List GAddr} {qs : List (Nat × Nat)} {k : Nat} {q : Nat × Nat} (h : k < qs.length) (hq : qs[k] = q) : addrsOf wh (qs.take (k + 1)) = addrsOf wh (qs.take k) ++ [(layFind wh (toG q)).1] := by
  rw [List.take_succ_eq_append_getElem h, hq]; simp [addrsOf]
theorem addrsOf_len (wh : List GAddr) (qs : List (Nat × Nat)) : (addrsOf wh qs).length = qs.length := by simp [addrsOf]
def filledR (l : List GObj) (wh : List GAddr) (p : GP) (s : GSym) : ByteArray × Int := fillR s (addrsOf wh (refsV (beginR l) l p.1 p.2).1)
theorem layFind_num {w : World} {v : Value} {wh : List GAddr} (h : RowAt 3 AddrR w v wh) (q : GP) : 0 ≤ (layFind wh q).1 ∧ (layFind wh q).1 ≤ 4294967295 := by
  unfold layFind
  cases hf : wh.find? (fun a => decide (a.obj = q.1) && decide (a.sym = q.2)) with
  | none => simp
  | some a =>
    obtain ⟨i, hi, rfl⟩ := List.getElem_of_mem (List.mem_of_find?_eq_some hf)
    obtain ⟨p, cap, b, o, -, -, -, -, hc⟩ := h
    exact (hc i hi).2.2.2.2
theorem info_u32 : (Tryz.prog.info? 27).map (fun i => (i.zero, i.size, i.bytes)) = some (some (.int .u32 0), 1, 4) := by kernel_rfl
theorem one_u32 {n : Int} : ∀ u ∈ [Value.int .u32 n], u.oneCell' = true := by
  intro u hu
  simp at hu; subst hu; rfl
theorem one_new {w : World} {g : Nat} {a : Value} (h0 : w.cell? ⟨g, 0, none⟩ = some a) : ∀ j u, [a][j]? = some u → w.cell? ((⟨g, 0, none⟩ : Addr).add j) = some u := by
  intro j u hu
  match j, hu with
  | 0, hu => simp at hu; subst hu; simpa [Addr.add] using h0
theorem cellsU_flat {K : IntKind} : ∀ l : List Int, cellsU K l = l.flatMap fun x => [.int K x]
  | [] => rfl
  | x :: r => by rw [List.flatMap_cons, ← cellsU_flat r]; rfl
theorem urow_num {base : Nat} {w : World} {v : Value} {l : List Int} (h : URow .u32 27 base w v l) (hl : l.length ≤ 140737488355328) (hn : ∀ x ∈ l, 0 ≤ x ∧ x ≤ 4294967295) : RowAt 1 NumR w v l := by
  have h' : w.ownsRow base 27 1 v l.length (l.flatMap fun x => [.int .u32 x]) := by rw [← cellsU_flat]; exact h
  exact owned_row (k := 1) (f := fun x => [Value.int .u32 x]) (fun _ => rfl) h' hl fun g o' i hi hg hcell => ⟨hg, by simpa using hcell 0 (.int .u32 l[i]) (by omega) rfl, hn _ (List.getElem_mem hi)⟩
theorem urow_snoc {K : IntKind} {e : TypeId} {base : Nat} {w : World} {v : Value} {l : List Int} {x : Int} (h : w.ownsRow base e 1 v (l.length + 1) (cellsU K l ++ [.int K x])) : URow K e base w v (l ++ [x]) := by
  unfold URow
  have e1 : cellsU K (l ++ [x]) = cellsU K l ++ [.int K x] := by simp [cellsU]
  rw [e1, List.length_append]; exact h
set_option maxRecDepth 100000 in
set_option maxHeartbeats 4000000 in
theorem linkFill_any (xb : Nat) (v av : Value) (l : List GObj) (wh : List GAddr) (p : GP) (s : GSym) (w : World) (h : ObjsAt w v l) (ha : RowAt 3 AddrR w av wh) (hx : xb < w.heap.size) (hx6 : w.cell? ⟨xb, 6, none⟩ = some av) (hx7 : w.cell? ⟨xb, 7, none⟩ = some v)
    (hs : symAt l p = some s) (hb : s.bytes.size < 4294967296) (hrl : (refsV (beginR l) l p.1 p.2).1.length ≤ 100000) :
    Calls Tryz.prog 152 #[.pointer (some ⟨xb, 0, none⟩), .agg #[.int .i64 p.1, .int .i64 p.2]] w fun e w' =>
      e = .returned (.tuple #[.string (filledR l wh p s).1, .int .i64 (filledR l wh p s).2]) ∧ Below w.heap.size w w' := by
  have HSY : Hid (∀ W, Below w.heap.size w W → Calls Tryz.prog 58 #[.pointer (some ⟨xb, 0, none⟩), .agg #[.int .i64 p.1, .int .i64 p.2]] W (SymLPost W s)) := fun W hB =>
    linkSym_any xb v l p s W (h.keep hB) (size_keep hB hx) (cell_keep hB hx hx7) hs
  have HRF : Hid (∀ W, Below w.heap.size w W → Calls Tryz.prog 149 #[v, .agg #[.int .i64 p.1, .int .i64 p.2]] W (RefsPost W (refsV (beginR l) l p.1 p.2).1 (refsV (beginR l) l p.1 p.2).2.1 (refsV (beginR l) l p.1 p.2).2.2)) := fun W hB =>
    refs_any v l p.1 p.2 W (h.keep hB)
  have HFI : Hid (filledR l wh p s = fillR s (addrsOf wh (refsV (beginR l) l p.1 p.2).1)) := rfl
  have HH := Lib.hid h
  have HAD := Lib.hid ha
  have HS := Lib.hid hs; clear hs
  generalize refsV (beginR l) l p.1 p.2 = rv at HRF HFI hrl
  obtain ⟨rl, rn, rc⟩ := rv
  simp only [] at HRF HFI hrl
  obtain ⟨p1, p2⟩ := p
  simp only [] at HSY HRF
  obtain ⟨pv, cv, hv⟩ : ∃ (pv : Option Addr) (cv : Nat), v = .slice pv l.length cv := by obtain ⟨p, cap, b, o, rfl, _⟩ := h; exact ⟨p, cap, rfl⟩
  obtain ⟨pa, ca, hav⟩ : ∃ (pa : Option Addr) (ca : Nat), av = .slice pa wh.length ca := by obtain ⟨p, cap, b, o, rfl, _⟩ := ha; exact ⟨p, cap, rfl⟩
  subst hv hav
  clear h ha
  have n0 : (w.alloc (.cells #[.int .i64 p1, .int .i64 p2] 63)).cell? ⟨w.heap.size, 0, none⟩ = some (.int .i64 p1) := by simp [go_sem]
  have n1 : (w.alloc (.cells #[.int .i64 p1, .int .i64 p2] 63)).cell? ⟨w.heap.size, 1, none⟩ = some (.int .i64 p2) := by simp [go_sem]
  generalize hW : (w.alloc (.cells #[.int .i64 p1, .int .i64 p2] 63)) = w1 at n0 n1
  have z1 : w1.heap.size = w.heap.size + 1 := by subst hW; simp
  have HB1 : Hid (Below w.heap.size w w1) := by subst hW; exact alloc_old w _
  have k6 := cell_keep HB1.out hx hx6
  have k7 := cell_keep HB1.out hx hx7
  have hx1 : xb < w1.heap.size := by omega
  have hne : ¬ w.heap.size = xb := by omega
  clear hx6 hx7
  go_enter Tryz.func152, Tryz.ntmps152
  go_wp2
  try rw [hW]
  clear hW
  go_cut [6] (fun v6 wx => RowAt 2 PlaceR wx v6 rl ∧ Below w1.heap.size w1 wx)
  case first =>
    clear HSY HFI HH HAD HS
    go_region_with ((go_at_call 149; refine (HRF.out _ (by first | exact HB1.out.drew | go_grown)).mono ?_; rintro e w' ⟨vo, rfl, hrow, hB⟩))
    all_goals (go_wp2_with fail)
    all_goals go_meet
    all_goals exact ⟨hrow, (Below.refl _ _).drew.trans hB⟩
  case rest =>
    obtain ⟨hrow, hBc⟩ := hcut
    have HRO := Lib.hid hrow
    have HBC : Hid (Below w.heap.size w wc) := HB1.out.trans (hBc.mono (by omega))
    replace n0 := cell_keep hBc (by omega) n0
    replace n1 := cell_keep hBc (by omega) n1
    replace k6 := cell_keep hBc hx1 k6
    replace k7 := cell_keep hBc hx1 k7
    have hzc : w.heap.size < wc.heap.size := by have := hBc.size; omega
    have hxc : xb < wc.heap.size := by omega
    obtain ⟨pr, cr, br, orr, rfl, -, -, hpr, hrr⟩ := hrow
    have HPR := Lib.hid hpr; clear hpr
    have HRR := Lib.hid hrr; clear hrr
    clear hBc hx1
    go_wp2
    obtain ⟨iU, s0, s1, s2, s3⟩ := info_parts info_u32
    have HI := Lib.hid (And.intro s0 (And.intro s1 (And.intro s2 s3)))
    clear s0 s1 s2 s3
    go_loopw [9, 26] (fun v9 v26 wr => ∃ k : Nat, v26 = .int .i64 k ∧ k ≤ rl.length ∧ wr.ownsRow wc.heap.size 27 1 v9 k (cellsU .u32 (addrsOf wh (rl.take k))) ∧ Below w.heap.size w wr ∧ Below wc.heap.size wc wr) (fun v9 v26 _ => rl.length - (intOf v26).toNat)
    case atStart => exact ⟨0, by go_num, Nat.zero_le _, World.ownsRow_nil _ _ _ _, HBC.out, Below.refl _ _⟩
    case round =>
      obtain ⟨k, rfl, hk, hu, hB, hBr⟩ := hrel
      have HU := Lib.hid hu
      have HB := Lib.hid hB; clear hB
      have HBR := Lib.hid hBr; clear hBr
      obtain ⟨pu, cu, rfl⟩ := own_shape hu
      clear hu
      have m0 := cell_keep HBR.out hzc n0
      have m1 := cell_keep HBR.out hzc n1
      have m6 := cell_keep HBR.out hxc k6
      have hzr : w.heap.size < wr.heap.size := size_keep HBR.out hzc
      have hxr : xb < wr.heap.size := size_keep HBR.out hxc
      have hcr := HBR.out.size
      by_cases hlt : k < rl.length
      · obtain rfl := HPR.out (by omega)
        obtain ⟨g0, g1, g2⟩ := placeR_keeps _ _ _ _ _ HBR.out (HRR.out k hlt)
        generalize hqq : rl[k] = q at g1 g2
        have HQ := Lib.hid hqq; clear hqq
        obtain ⟨qa, qb⟩ := q
        simp only [] at g1 g2
        have b0 : (wr.alloc (.cells #[.int .i64 qa, .int .i64 qb] 63)).cell? ⟨wr.heap.size, 0, none⟩ = some (.int .i64 qa) := by simp [go_sem]
        have b1 : (wr.alloc (.cells #[.int .i64 qa, .int .i64 qb] 63)).cell? ⟨wr.heap.size, 1, none⟩ = some (.int .i64 qb) := by simp [go_sem]
        have b6 := cell_keep (alloc_old wr (.cells #[.int .i64 qa, .int .i64 qb] 63)) hxr m6
        have HU2 : Hid ((wr.alloc (.cells #[.int .i64 qa, .int .i64 qb] 63)).ownsRow wc.heap.size 27 1 (.slice pu k cu) k (cellsU .u32 (addrsOf wh (rl.take k)))) := HU.out.alloc _
        have z2 : (wr.alloc (.cells #[.int .i64 qa, .int .i64 qb] 63)).heap.size = wr.heap.size + 1 := by simp
        have HBA : Hid (Below wr.heap.size wr (wr.alloc (.cells #[.int .i64 qa, .int .i64 qb] 63))) := alloc_old wr _
        generalize hW2 : (wr.alloc (.cells #[.int .i64 qa, .int .i64 qb] 63)) = w2 at b0 b1 b6 HU2 z2 HBA
        have c0 := bw_cell (by omega) b0
        have c1 := bw_cell (by omega) b1
        have c6 := bw_cell (by omega) b6
        have HLF : Hid (∀ x : BW w2, Calls Tryz.prog 61 #[.slice pa wh.length ca, .agg #[.int .i64 qa, .int .i64 qb]] x.u fun e w' => e = .returned (.tuple #[.int .u32 (layFind wh (qa, qb)).1, .bool (layFind wh (qa, qb)).2]) ∧ ∃ y : BW w2, w' = y.u) :=
          fun x => calls_below (layFind_any _ wh (qa, qb) x.u ((HAD.out.keep addrR_keeps (HB.out.trans (HBA.out.mono HB.out.size))).keep addrR_keeps x.b))
        have HSN : Hid (addrsOf wh (rl.take (k + 1)) = addrsOf wh (rl.take k) ++ [(layFind wh (qa, qb)).1]) := addrsOf_snoc hlt HQ.out
        generalize layFind wh (qa, qb) = lf at HLF HSN
        obtain ⟨la, lb⟩ := lf
        simp only [] at HLF HSN
        go_wp2
        try rw [hW2]
        clear hW2
        refine wp_region_below (by kernel_rfl) (by kernel_rfl) ?_
        repeat (first | go_big_quiet_skip | quiet_step ((go_at_call 61; exact HLF.out _)))
        refine wpQuiet_nil ?_
        rintro w4 hx4; have hB4 : Below w2.heap.size w2 w4 := bw_of hx4; clear hx4
        have HU4 := Lib.hid (own_congr HU2.out fun q hq => hB4.block q (HU2.out.lt q hq).2)
        have HB4 : Hid (Below wr.heap.size wr w4) := HBA.out.trans (hB4.mono (by omega))
        have hz4 : wr.heap.size < w4.heap.size := by have := hB4.size; omega
        clear c0 c1 c6 b0 b1 b6 hB4
        go_wp2_with (at_builtin; refine wpList_append_own _ rfl _ _ 264 rfl wc.heap.size 27 iU _ 1 4 Tryz.underlying264 HI.out.1 HI.out.2.1 HI.out.2.2.1 HI.out.2.2.2 rfl (by decide) _ k (cellsU .u32 (addrsOf wh (rl.take k))) rfl ?c0 _ 1 1 [.int .u32 la] rfl rfl ?c1 one_u32 ?c3 ?c4 ?c5 ?_)
        case c0 => exact HU4.out.alloc _
        case c1 => exact one_new (by simp [go_sem])
        case c3 => unfold maxLen; omega
        case c4 => omega
        case c5 => simp; omega
        intro v' w' hown3 hgrow3 _
        have HO3 : Hid (w'.ownsRow wc.heap.size 27 1 v' (k + 1) (cellsU .u32 (addrsOf wh (rl.take (k + 1))))) := by
          have e : cellsU .u32 (addrsOf wh (rl.take (k + 1))) = cellsU .u32 (addrsOf wh (rl.take k)) ++ [.int .u32 la] := by rw [HSN.out]; simp [cellsU]
          rw [Hid, e]; exact hown3
        have hlast : Below wc.heap.size wr w' := (((HB4.out.mono hcr).alloc (by omega) _).grown hgrow3 (by simp; omega) (fun q e => (HU4.out.lt q e).1))
        have HL := Lib.hid hlast
        clear hown3 hgrow3 hlast
        have hwc := HBC.out.size
        go_wp2
        go_roundw
        case rel => exact ⟨k + 1, by go_num, by omega, HO3.out, HB.out.trans (HL.out.mono (by omega)), HBR.out.trans HL.out⟩
        case measure => simp [intOf]; omega
      · obtain rfl : k = rl.length := by omega
        have hke : rl.take rl.length = rl := List.take_length
        rw [hke] at HU
        have hls : (addrsOf wh rl).length = rl.length := addrsOf_len _ _
        have hrow : RowAt 1 NumR wr (.slice pu rl.length cu) (addrsOf wh rl) := urow_num (base := wc.heap.size) (by unfold URow; rw [hls]; exact HU.out) (by rw [addrsOf_len]; omega) (fun x hx => by
          simp only [addrsOf, List.mem_map] at hx
          obtain ⟨q, -, rfl⟩ := hx
          exact layFind_num HAD.out _)
        have HNU := Lib.hid hrow
        have HSC := Lib.hid (HSY.out wr HB.out)
        unfold SymLPost at HSC
        go_wp2_with fail
        refine HSC.out.mono ?_
        rintro e w2 ⟨⟨vr, vn, rfl, hin⟩, hB2⟩
        have HFC := Lib.hid (fill_any s vr vn _ (addrsOf wh rl) w2 hin hb (HNU.out.keep numR_keeps hB2))
        unfold symV
        obtain ⟨q1, c1, q2, c2, rfl, rfl⟩ := hin.shape
        go_wp2_with fail
        refine HFC.out.mono ?_
        rintro e w3 ⟨rfl, hB3⟩
        go_wp2
        go_ret2
        rw [HFI.out]
        exact ⟨rfl, HB.out.trans ((hB2.trans (hB3.mono hB2.size)).mono HB.out.size)⟩
end Go.Proofs.YtdjgkmpjhpnkeaaGreatDoor
namespace Go.Proofs.YtdjgkmpjhpnkeaaGreatDoor
open Go.RowKit Go.Maps Go.WideMaps
/-- how keys are laid as values -/
structure KeyEnc (P : Program) (k : TypeId) (α : Type) where
  enc : α → Value
  lit : α → Lit
  ok : α → Prop
  key : ∀ a, ok a → keyOf P k (enc a) = some (lit a)
  inj : ∀ a b, enc a = enc b → a = b
/-- block b is a map of at most n entries: a key's value is f's -/
def MapKFn {P : Program} {k : TypeId} {α : Type} (E : KeyEnc P k α) (w : World) (b n : Nat) (f : α → Option Value) : Prop :=
  ∃ D : DataW Value, w.ownsMap P k mapR b n D ∧ ∀ a, E.ok a → (∀ v, f a = some v → ∀ z, D.atKey (E.lit a) z = .held v) ∧ (f a = none → ∀ z, D.atKey (E.lit a) z = z)
section
variable {P : Program} {k : TypeId} {α : Type} {E : KeyEnc P k α} {w : World} {b n : Nat} {f : α → Option Value}
theorem MapKFn.made (E : KeyEnc P k α) (w : World) : MapKFn E (w.alloc (.map #[] 0)) w.heap.size 0 (fun _ => none) :=
  ⟨_, World.ownsMap_made w P k mapR, fun _ _ => ⟨fun _ h => (by cases h), fun _ _ => rfl⟩⟩
theorem MapKFn.lt (h : MapKFn E w b n f) : b < w.heap.size := by obtain ⟨D, hD, _⟩ := h; exact hD.lt
theorem MapKFn.kept {w' : World} (h : MapKFn E w b n f) (hb : w'.heap[b]? = w.heap[b]?) : MapKFn E w' b n f := by
  obtain ⟨D, ⟨es, clock, h1, h2⟩, hf⟩ := h
  exact ⟨D, ⟨es, clock, hb.trans h1, h2⟩, hf⟩
theorem MapKFn.below {w' : World} {B : Nat} (h : MapKFn E w b n f) (hb : Below B w w') (hB : b < B) : MapKFn E w' b n f := h.kept (hb.block b hB)
theorem MapKFn.alloc (h : MapKFn E w b n f) (o : Obj) : MapKFn E (w.alloc o) b n f := h.kept (Below.heap_alloc w o b h.lt)
theorem MapKFn.drew (h : MapKFn E w b n f) : MapKFn E w.drew b n f := h.kept rfl
theorem MapKFn.mono (h : MapKFn E w b n f) {n' : Nat} (hn : n ≤ n') : MapKFn E w b n' f := by
  obtain ⟨D, hD, hf⟩ := h; exact ⟨D, hD.mono hn, hf⟩
theorem MapKFn.setCell (h : MapKFn E w b n f) {a : Addr} (ha : b ≠ a.block) (u : Value) : MapKFn E (w.setCell a u) b n f := h.kept (Below.heap_setCell w a u b ha)
theorem MapKFn.grown {w' : World} {r : Nat} (h : MapKFn E w b n f) (hg : w.grownBy w' (some r)) (hne : b ≠ r) : MapKFn E w' b n f := h.kept (hg.block b h.lt (by simpa using hne))
theorem MapKFn.look {t e : TypeId} (h : MapKFn E w b n f) (K : Keyed P k) (ht : P.underlying t = some (.map k e)) {z : Value} (hz : (zeroValue e).run P w = .ok z w) {a : α} (ha : E.ok a) :
    (Instr.lookup t (.map (some b)) (E.enc a) false).run P w = .ok ((f a).getD z) w := by
  obtain ⟨D, hD, hf⟩ := h
  obtain ⟨v, ps, hrun, hR⟩ := hD.lookup K ht hz (zd := .held z) (zp := []) rfl (E.key a ha)
  rw [hrun]
  obtain ⟨h1, h2⟩ := hf a ha
  cases hfs : f a with
  | none =>
    rw [h2 hfs] at hR
    simp [mapR] at hR
    rw [hR.1]; rfl
  | some u =>
    rw [h1 u hfs] at hR
    simp [mapR] at hR
    rw [hR.1]; rfl
theorem MapKFn.look_ok {t e : TypeId} (h : MapKFn E w b n f) (K : Keyed P k) (ht : P.underlying t = some (.map k e)) {z : Value} (hz : (zeroValue e).run P w = .ok z w) {a : α} (ha : E.ok a) :
    (Instr.lookup t (.map (some b)) (E.enc a) true).run P w = .ok (.tuple #[(f a).getD z, .bool (f a).isSome]) w := by
  obtain ⟨D, hD, hf⟩ := h
  obtain ⟨v, ps, hrun, hR⟩ := hD.look_ok K ht hz (zd := .held z) (zp := []) rfl (E.key a ha)
  rw [hrun]
  obtain ⟨h1, h2⟩ := hf a ha
  cases hfs : f a with
  | none =>
    rw [Maps.has_false_of_atKey (h2 hfs)]
    rw [h2 hfs] at hR
    simp [mapR] at hR
    rw [hR.1]; rfl
  | some u =>
    rw [Maps.has_true_of_atKey (h1 u hfs)]
    rw [h1 u hfs] at hR
    simp [mapR] at hR
    rw [hR.1]; rfl
theorem MapKFn.put [DecidableEq α] {t e : TypeId} (h : MapKFn E w b n f) (K : Keyed P k) (ht : P.underlying t = some (.map k e)) (hn : n < maxLen) {a : α} (ha : E.ok a) (v : Value) :
    ∃ w', (Instr.mapUpdate t (.map (some b)) (E.enc a) v).run P w = .ok () w' ∧ MapKFn E w' b (n + 1) (fun x => if x = a then some v else f x) ∧ w.grownBy w' (some b) := by
  obtain ⟨D, hD, hf⟩ := h
  obtain ⟨w', hrun, hD', hg⟩ := hD.update K ht hn (E.key a ha) (val := v) (d := .held v) (ps := []) rfl
  refine ⟨w', hrun, ⟨_, hD', fun l hl0 => ?_⟩, hg⟩
  obtain ⟨h1, h2⟩ := hf l hl0
  by_cases hl : l = a
  · subst hl
    refine ⟨fun u hu z => ?_, fun hu => by simp at hu⟩
    simp at hu
    subst hu
    exact Maps.atKey_put_same hD.isMap (K.key (E.key l ha)) _ _
  · have hne : E.lit l ≠ E.lit a := fun e => hl (E.inj _ _ (K.inj (E.key l hl0) (e ▸ E.key a ha)))
    refine ⟨fun u hu z => ?_, fun hu z => ?_⟩
    · rw [Maps.atKey_put_other hne]; simp [hl] at hu; exact h1 u hu z
    · rw [Maps.atKey_put_other hne]; simp [hl] at hu; exact h2 hu z
end
theorem wpList_lookK {P : Program} {α : Type} {k : TypeId} {E : KeyEnc P k α} (w : World) {ops : Array Oper} {rest : List Oper} {o : Oper} {a : Act} {Q : Exit → Act → World → Prop} {b n : Nat} {f : α → Option Value}
    (hg : o.guard = none) (m x : Operand) (t : TypeId) (hop : o.op = Op.lookup t m x false)
    (e : TypeId) (K : Keyed P k) (ht : P.underlying t = some (.map k e)) {z : Value} (hz : (zeroValue e).run P w = .ok z w)
    (hm : a.eval m = .map (some b)) (hown : MapKFn E w b n f) (s : α) (hx : a.eval x = E.enc s) (hs : E.ok s) {v : Value} (hv : (f s).getD z = v)
    (hK : wpList P ops Q rest (a.put o.dst v) w) :
    wpList P ops Q (o :: rest) a w := by
  refine wpList_plain hg fun K' hK' => ?_
  have hrun := hown.look K ht hz hs
  rw [hv] at hrun
  unfold Oper.wp
  simp [execOp, hop, hm, hx, hrun, Result.andThen]
  exact hK' _ _ hK
theorem wpList_lookK_ok {P : Program} {α : Type} {k : TypeId} {E : KeyEnc P k α} (w : World) {ops : Array Oper} {rest : List Oper} {o : Oper} {a : Act} {Q : Exit → Act → World → Prop} {b n : Nat} {f : α → Option Value}
    (hg : o.guard = none) (m x : Operand) (t : TypeId) (hop : o.op = Op.lookup t m x true)
    (e : TypeId) (K : Keyed P k) (ht : P.underlying t = some (.map k e)) {z : Value} (hz : (zeroValue e).run P w = .ok z w)
    (hm : a.eval m = .map (some b)) (hown : MapKFn E w b n f) (s : α) (hx : a.eval x = E.enc s) (hs : E.ok s) {v : Value} (hv : (f s).getD z = v) {is : Bool} (hi : (f s).isSome = is)
    (hK : wpList P ops Q rest (a.put o.dst (.tuple #[v, .bool is])) w) :
    wpList P ops Q (o :: rest) a w := by
  refine wpList_plain hg fun K' hK' => ?_
  have hrun := hown.look_ok K ht hz hs
  rw [hv, hi] at hrun
  unfold Oper.wp
  simp [execOp, hop, hm, hx, hrun, Result.andThen]
  exact hK' _ _ hK
theorem wpList_putK {P : Program} {α : Type} [DecidableEq α] {k : TypeId} {E : KeyEnc P k α} (w : World) {ops : Array Oper} {rest : List Oper} {o : Oper} {a : Act} {Q : Exit → Act → World → Prop} {b n : Nat} {f : α → Option Value}
    (hg : o.guard = none) (m x v : Operand) (t : TypeId) (hop : o.op = Op.mapUpdate t m x v)
    (e : TypeId) (K : Keyed P k) (ht : P.underlying t = some (.map k e))
    (hm : a.eval m = .map (some b)) (hown : MapKFn E w b n f) (hn : n < maxLen) (s : α) (val : Value) (hx : a.eval x = E.enc s) (hv : a.eval v = val) (hs : E.ok s)
    (hK : ∀ w', MapKFn E w' b (n + 1) (fun l => if l = s then some val else f l) → w.grownBy w' (some b) → wpList P ops Q rest (a.put o.dst undef) w') :
    wpList P ops Q (o :: rest) a w := by
  refine wpList_plain hg fun K' hK' => ?_
  obtain ⟨w', hrun, r1, r2⟩ := hown.put K ht hn hs val
  unfold Oper.wp
  simp [execOp, hop, hm, hx, hv, hrun, Result.andThen]
  exact hK' _ _ (hK w' r1 r2)
end Go.Proofs.YtdjgkmpjhpnkeaaGreatDoor
namespace Go.Proofs.YtdjgkmpjhpnkeaaGreatDoor
open Go.RowKit Go.Maps Go.WideMaps
theorem placeOut : laidOutB Tryz.prog = true := by kernel_rfl
theorem placeRow : (63 : TypeId) < Tryz.prog.types.size := of_decide_eq_true (by kernel_rfl)
theorem placeWide : (match Tryz.prog.underlying 63 with | some (.array _ _) | some (.struct _) => true | _ => false) = true := by kernel_rfl
set_option maxRecDepth 100000 in
theorem placeKeyed : Keyed Tryz.prog 63 := Keyed.of_law (deep_law_laid placeOut (m := 2) (by omega) placeRow (by kernel_rfl) placeWide)
theorem placeKT : Tryz.prog.keyType 63 = true := by kernel_rfl
theorem placeCellsOf : Tryz.prog.cellsOf 63 = 2 := by kernel_rfl
theorem intCellsOf : Tryz.prog.cellsOf 3 = 1 := by kernel_rfl
def placeOkK (p : Nat × Nat) : Prop := p.1 ≤ 9223372036854775807 ∧ p.2 ≤ 9223372036854775807
theorem place_lits (n : Nat) (hn : 0 < n) (a b : Int) (h1 : (Lit.int .i64 a).wf = true) (h2 : (Lit.int .i64 b).wf = true) : Tryz.prog.keyLits (n + 1) 63 [.int .i64 a, .int .i64 b] = some [.int .i64 a, .int .i64 b] := by
  obtain ⟨n, rfl⟩ : ∃ m, n = m + 1 := ⟨n - 1, by omega⟩
  simp [Program.keyLits, Tryz.underlying63, Tryz.underlying3, placeCellsOf, intCellsOf, h1, h2]
theorem place_some (p : Nat × Nat) (h : placeOkK p) : (keyOf Tryz.prog 63 (placeV p)).isSome = true := by
  obtain ⟨a, b⟩ := p
  have h1 : (Lit.int .i64 (a : Int)).wf = true := WalkArith.wf_i64 (by unfold placeOkK at h; simp only [] at h; omega)
  have h2 : (Lit.int .i64 (b : Int)).wf = true := WalkArith.wf_i64 (by unfold placeOkK at h; simp only [] at h; omega)
  have hl := place_lits _ (Nat.lt_of_le_of_lt (Nat.zero_le _) placeRow) a b h1 h2
  have hf : (placeV (a, b)).formed Tryz.prog 63 = true := by simp [placeV, Value.formed, Tryz.underlying63, placeCellsOf]
  unfold keyOf
  rw [Tryz.underlying63]
  simp only []
  rw [placeKT, hf, show (placeV (a, b)).cells.toList = [.int .i64 (a : Int), .int .i64 (b : Int)] from rfl, hl]
  rfl
noncomputable def placeE : KeyEnc Tryz.prog 63 (Nat × Nat) where
  enc := placeV
  lit p := (keyOf Tryz.prog 63 (placeV p)).getD (.bool false)
  ok := placeOkK
  key p h := by
    have := place_some p h
    cases hk : keyOf Tryz.prog 63 (placeV p) with
    | none => rw [hk] at this; cases this
    | some l => rfl
  inj a b h := by
    obtain ⟨a1, a2⟩ := a
    obtain ⟨b1, b2⟩ := b
    simp [placeV] at h
    obtain ⟨h1, h2⟩ := h
    rw [Int.ofNat_inj.1 h1, Int.ofNat_inj.1 h2]
theorem zeroPl (w : World) : (zeroValue 63).run Tryz.prog w = .ok (placeV (0, 0)) w := by kernel_rfl
end Go.Proofs.YtdjgkmpjhpnkeaaGreatDoor
namespace Go.Proofs.YtdjgkmpjhpnkeaaGreatDoor
open Go.RowKit Go.Maps Go.WideMaps
def u8E : KeyEnc Tryz.prog 5 Int where
  enc := fun a => .int .u8 a
  lit := fun a => .int .u8 a
  ok := fun a => (Lit.int .u8 a).wf = true
  key := fun a h => Maps.keyOf_int_mk Tryz.underlying5 h
  inj := fun a b e => by cases e; rfl
theorem u8Keyed : Keyed Tryz.prog 5 := Maps.int_keyed Tryz.underlying5
def permK (k : Int) : Int := if k = 1 then 5 else if k = 3 then 1 else if k = 2 then 3 else 0
set_option maxHeartbeats 400000 in
set_option maxRecDepth 100000 in
theorem perm_any (k : Int) (w : World) (h0 : 0 ≤ k) (h1 : k ≤ 255) :
    Calls Tryz.prog 153 #[.int .u8 k] w fun e w' => e = .returned (.int .u8 (permK k)) ∧ Below w.heap.size w w' := by
  have hmm := @run_makeMap Tryz.prog
  have hw : u8E.ok k := WalkArith.wf_u8 (by omega)
  have ht := Tryz.underlying323
  obtain ⟨w1, r1, m1, g1⟩ := (MapKFn.made u8E w).put u8Keyed ht (by unfold maxLen; omega) (a := 1) (WalkArith.wf_u8 (by omega)) (.int .u8 5)
  obtain ⟨w2, r2, m2, g2⟩ := m1.put u8Keyed ht (by unfold maxLen; omega) (a := 3) (WalkArith.wf_u8 (by omega)) (.int .u8 1)
  obtain ⟨w3, r3, m3, g3⟩ := m2.put u8Keyed ht (by unfold maxLen; omega) (a := 2) (WalkArith.wf_u8 (by omega)) (.int .u8 3)
  have r4 := m3.look u8Keyed ht (z := .int .u8 0) (by kernel_rfl) hw
  have e4 : ((if k = 2 then some (Value.int .u8 3) else if k = 3 then some (.int .u8 1) else if k = 1 then some (.int .u8 5) else none).getD (.int .u8 0)) = .int .u8 (permK k) := by
    unfold permK; repeat' split
    all_goals first | rfl | omega
  rw [e4] at r4
  have hB : Below w.heap.size w w3 := (((alloc_old w _).grown g1 (by simp) (fun q e => by cases e; simp)).grown g2 (by have := g1.size; simp at this; omega) (fun q e => by cases e; simp)).grown g3 (by have := g1.size; have := g2.size; simp at *; omega) (fun q e => by cases e; simp)
  have HB := Lib.hid hB
  change (Instr.mapUpdate 323 (.map (some w.heap.size)) (.int .u8 1) (.int .u8 5)).run _ _ = _ at r1
  change (Instr.mapUpdate 323 (.map (some w.heap.size)) (.int .u8 3) (.int .u8 1)).run _ _ = _ at r2
  change (Instr.mapUpdate 323 (.map (some w.heap.size)) (.int .u8 2) (.int .u8 3)).run _ _ = _ at r3
  change (Instr.lookup 323 (.map (some w.heap.size)) (.int .u8 k) false).run _ _ = _ at r4
  clear hB m1 m2 m3 g1 g2 g3 ht e4 hw
  go_enter Tryz.func153, Tryz.ntmps153
  go_wp2
  go_ret
  exact ⟨rfl, HB.out⟩
end Go.Proofs.YtdjgkmpjhpnkeaaGreatDoor
