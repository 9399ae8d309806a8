/- The walk of the archive's scope.put: an object behind the others, and the names that it defines. The walk of the archive's scope.wanting. The walk of archive.Index: the names that members define, in some order. The walk of reach's put. -/
import Derived.Test.YtboegjdkedjhcaaGreatDoorBd08
import Derived.Test.YtboegjdkedjhcaaGreatDoorBd16
import Derived.Test.YtboegjdkedjhcaaGreatDoorBd06
import Derived.Deep.RegionHeld3
import Derived.Deep.DeepCutAuto
import Derived.BigQuiet
import Derived.StillTailTactics
import Derived.Outline
import Derived.Lib.Builder
import Derived.Handy
import Derived.Test.YtboegjdkedjhcaaGreatDoorBd13
import Derived.Test.YtboegjdkedjhcaaGreatDoorBd09
import Derived.Test.YtboegjdkedjhcaaGreatDoorBd15
namespace Go.Proofs.YtboegjdkedjhcaaGreatDoor
open Go.RowKit Go.Maps
/-- does a symbol that others see have the name? -/
def defS (ss : List GSym) (n : List UInt8) : Bool := ss.any fun s => s.bind != 0 && s.name.data.toList == n
def defB (l : List GObj) (n : List UInt8) : Bool := l.any fun o => defS o.syms n
def boolF (F : List UInt8 → Bool) (n : List UInt8) : Option Value := if F n then some (.bool true) else none
theorem defS_snoc {l : List GSym} {k : Nat} {x : GSym} (h : k < l.length) (hx : l[k] = x) (n : List UInt8) : defS (l.take (k + 1)) n = (defS (l.take k) n || (x.bind != 0 && x.name.data.toList == n)) := by
  rw [List.take_succ_eq_append_getElem h, hx]; simp [defS]
structure ScopeSt (w0 : World) (sb mb : Nat) (v : Value) (ts : List (GObj × Value)) (N : Nat) (F : List UInt8 → Bool) (w : World) : Prop where
  box : w.heap[sb]? = some (.cells #[v, .map (some mb)] 131 (0, 0))
  row : OwnObs w0 w v ts
  map : MapFn Tryz.prog 9 w mb N (boolF F)
  sbl : w0.heap.size ≤ sb
  mbl : w0.heap.size ≤ mb
  blw : Below w0.heap.size w0 w
section
variable {w0 : World} {sb mb : Nat} {v : Value} {ts : List (GObj × Value)} {N : Nat} {F : List UInt8 → Bool} {w : World}
theorem ScopeSt.lt (h : ScopeSt w0 sb mb v ts N F w) : sb < w.heap.size := (Array.getElem?_eq_some_iff.1 h.box).1
theorem ScopeSt.keep {w' : World} (h : ScopeSt w0 sb mb v ts N F w) (hb : Below w.heap.size w w') : ScopeSt w0 sb mb v ts N F w' :=
  ⟨(hb.block _ h.lt).trans h.box, h.row.keep hb, h.map.below hb h.map.lt, h.sbl, h.mbl, h.blw.trans (hb.mono h.blw.size)⟩
theorem ScopeSt.ne (h : ScopeSt w0 sb mb v ts N F w) : sb ≠ mb := by
  rintro rfl
  obtain ⟨D, ⟨es, clock, h1, h2⟩, hf⟩ := h.map
  rw [h.box] at h1
  cases h1
theorem ScopeSt.nem (h : ScopeSt w0 sb mb v ts N F w) : v.ownBlock ≠ some mb := fun e => by
  obtain ⟨D, ⟨es, clock, h1, h2⟩, hf⟩ := h.map
  obtain ⟨cur, h2⟩ := own_type h.row.row e
  rw [h1] at h2
  cases h2
theorem ScopeSt.setMap {w' : World} {N' : Nat} {F' : List UInt8 → Bool} (h : ScopeSt w0 sb mb v ts N F w) (hg : w.grownBy w' (some mb)) (hM : MapFn Tryz.prog 9 w' mb N' (boolF F')) : ScopeSt w0 sb mb v ts N' F' w' :=
  ⟨(hg.block sb h.lt (fun e => by cases e; exact h.ne rfl)).trans h.box, h.row.congr fun g hgv => hg.block g (h.row.row.lt g hgv).2 (fun e => by cases e; exact h.nem hgv), hM, h.sbl, h.mbl, h.blw.grown hg h.blw.size (fun k e => by cases e; exact h.mbl)⟩
theorem ScopeSt.add {w5 : World} {o : GObj} {vs v' : Value} {X : Obj} (h : ScopeSt w0 sb mb v ts N F w) (ho : ObjIn w0 o vs)
    (hown : w5.ownsRow w0.heap.size 50 2 v' (ts.length + 1) (ts.flatMap obCells ++ [.string o.name, vs])) (hg5 : (w.alloc X).drew.grownBy w5 v.ownBlock) (hv : v'.ownBlock = v.ownBlock ∨ v'.ownBlock = some (w.alloc X).drew.heap.size) :
    ScopeSt w0 sb mb v' (ts ++ [(o, vs)]) N F (w5.setCell ⟨sb, 0, none⟩ v') ∧ KB (SB sb mb v) w (w5.setCell ⟨sb, 0, none⟩ v') ∧ (v'.ownBlock = v.ownBlock ∨ ∃ g, v'.ownBlock = some g ∧ w.heap.size ≤ g) := by
  have hsl := h.lt
  have hml := h.map.lt
  have hb5 : w5.heap[sb]? = some (.cells #[v, .map (some mb)] 131 (0, 0)) :=
    (hg5.block sb (by simp; omega) (fun e => own_ne_box h.row.row h.box (by decide) e.symm)).trans ((Below.heap_alloc w X sb hsl).trans h.box)
  have hset : ∀ g, g ≠ sb → (w5.setCell ⟨sb, 0, none⟩ v').heap[g]? = w5.heap[g]? := fun g hgs => Below.heap_setCell _ _ _ _ (by simpa using hgs)
  refine ⟨⟨?_, ?_, ?_, h.sbl, h.mbl, ?_⟩, ?_, ?_⟩
  · simp [World.setCell, Array.getElem?_modify, hb5]
  · have h1 : OwnObs w0 w5 v' (ts ++ [(o, vs)]) := h.row.more (us := [(o, vs)]) (fun t ht => by obtain rfl : t = (o, vs) := (by simpa using ht); exact ho) (by simpa [obCells] using hown)
    exact h1.congr fun g hg' => hset g fun e => own_ne_box hown (e ▸ hb5) (by decide) hg'
  · exact ((h.map.alloc X).drew.kept (hg5.block mb (by simp; omega) (fun e => h.nem e.symm))).setCell (fun e => h.ne e.symm) _
  · exact (((h.blw.alloc h.blw.size X).drew).grown hg5 (by have := h.blw.size; simp; omega) (fun k e => (h.row.row.lt k e).1)).setCell h.sbl _
  · exact KB.setCell (((KB.of_below (alloc_old w X)).drew).grown hg5 fun k e => .inl (.inr (.inr e))) (.inl (.inl rfl)) _
  · rcases hv with hv | hv
    · exact .inl hv
    · exact .inr ⟨_, hv, by simp⟩
end
theorem boolF_put {F G : List UInt8 → Bool} {s : ByteArray} (h : ∀ n, G n = (F n || s.data.toList == n)) : (fun l => if l = s.data.toList then some (.bool true) else boolF F l) = boolF G := by
  funext n
  unfold boolF
  rw [h n]
  by_cases e : n = s.data.toList
  · subst e; simp
  · have e2 : (s.data.toList == n) = false := by simp; exact fun h => e h.symm
    simp [e, e2]
theorem defS_nil (F : List UInt8 → Bool) : (fun n => F n || defS [] n) = F := by funext n; simp [defS]
def SPutPost (w0 : World) (sb mb : Nat) (v : Value) (ts : List (GObj × Value)) (N : Nat) (F : List UInt8 → Bool) (o : GObj) (vs : Value) (w : World) (e : Ending) (w' : World) : Prop :=
  e = .returned (.tuple #[]) ∧ ∃ v', ScopeSt w0 sb mb v' (ts ++ [(o, vs)]) (N + o.syms.length) (fun n => F n || defS o.syms n) w' ∧ KB (SB sb mb v) w w' ∧ (v'.ownBlock = v.ownBlock ∨ ∃ g, v'.ownBlock = some g ∧ w.heap.size ≤ g)
set_option maxRecDepth 100000 in
set_option maxHeartbeats 2000000 in
theorem sput_any (w0 : World) (sb mb : Nat) (v : Value) (ts : List (GObj × Value)) (N : Nat) (F : List UInt8 → Bool) (o : GObj) (vs : Value) (w : World) (h : ScopeSt w0 sb mb v ts N F w) (ho : ObjIn w0 o vs) (hN : N + o.syms.length ≤ 1000000000) (hT : ts.length ≤ 100000) :
    Calls Tryz.prog 60 #[.pointer (some ⟨sb, 0, none⟩), .agg #[.string o.name, vs]] w (SPutPost w0 sb mb v ts N F o vs w) := by
  obtain ⟨pv, cv, rfl⟩ := own_shape h.row.row
  obtain ⟨po, co, rfl⟩ := ho.form
  obtain ⟨yn, ys⟩ := o
  simp only [] at *
  have HS := Lib.hid h
  have HO := Lib.hid ho
  have HSL := Lib.hid h.lt
  have HML := Lib.hid h.map.lt
  have c0 : w.cell? ⟨sb, 0, none⟩ = some (.slice pv ts.length cv) := Lib.cell_of_heap h.box 0
  have c1 : w.cell? ⟨sb, 1, none⟩ = some (.map (some mb)) := Lib.cell_of_heap h.box 1
  have f0 : w.frozen? ⟨sb, 0, none⟩ = false := Lib.frozen_of_heap h.box 0
  have hzs : sb < w.heap.size := h.lt
  have hw0 : w0.heap.size ≤ w.heap.size := h.blw.size
  clear h ho
  have HBB : Hid (Below w.heap.size w (w.alloc (.cells #[.string yn, .slice po ys.length co] 50))) := alloc_old w _
  have b0 : (w.alloc (.cells #[.string yn, .slice po ys.length co] 50)).cell? ⟨w.heap.size, 0, none⟩ = some (.string yn) := by simp [go_sem]
  have b1 : (w.alloc (.cells #[.string yn, .slice po ys.length co] 50)).cell? ⟨w.heap.size, 1, none⟩ = some (.slice po ys.length co) := by simp [go_sem]
  have hz2 : w.heap.size < (w.alloc (.cells #[.string yn, .slice po ys.length co] 50)).heap.size := by simp
  have k0 := HBB.out
  replace c0 := cell_keep k0 hzs c0
  replace c1 := cell_keep k0 hzs c1
  replace f0 := (k0.frozen (p := ⟨sb, 0, none⟩) hzs).trans f0
  clear k0
  obtain ⟨iO, s0, s1, s2, s3⟩ := info_parts info_obj
  have HI := Lib.hid (And.intro s0 (And.intro s1 (And.intro s2 s3)))
  clear s0 s1 s2 s3
  go_enter Tryz.func60, Tryz.ntmps60
  go_wp2
  generalize (w.alloc (.cells #[.string yn, .slice po ys.length co] 50)) = w2 at *
  have HS2 := Lib.hid (HS.out.keep HBB.out)
  have hzs2 : sb < w2.heap.size := by omega
  have HB2 := Lib.hid HS2.out.box
  have HOWN : Hid ((w2.alloc (.cells #[.string yn, .slice po ys.length co] 50)).drew.ownsRow w0.heap.size 50 2 (.slice pv ts.length cv) ts.length (ts.flatMap obCells)) := (HS2.out.row.row.alloc _).drew
  have HNEWS : Hid (∀ j u, [Value.string yn, .slice po ys.length co][j]? = some u → (w2.alloc (.cells #[.string yn, .slice po ys.length co] 50)).drew.cell? ((⟨w2.heap.size, 0, none⟩ : Addr).add j) = some u) := ob_news (by simp [go_sem]) (by simp [go_sem])
  go_cut [] (fun wx => ∃ v', ScopeSt w0 sb mb v' (ts ++ [(⟨yn, ys⟩, .slice po ys.length co)]) N F wx ∧ KB (SB sb mb (.slice pv ts.length cv)) w2 wx ∧ (v'.ownBlock = (Value.slice pv ts.length cv).ownBlock ∨ ∃ g, v'.ownBlock = some g ∧ w2.heap.size ≤ g))
  case first =>
    go_region_law ((refine step_append_own_at rfl (.tmp 10) (.tmp 12) 22 rfl w0.heap.size 50 iO _ 2 40 Tryz.underlying22 HI.out.1 HI.out.2.1 HI.out.2.2.1 HI.out.2.2.2 rfl (by decide) (.slice pv ts.length cv) ts.length (ts.flatMap obCells) (by simp [Act.eval]) HOWN.out ⟨w2.heap.size, 0, none⟩ 1 1 [.string yn, .slice po ys.length co] (by simp [Act.eval]) rfl HNEWS.out ob_one (by unfold maxLen; omega) (by omega) (by simp; omega) ?_; intro v' w5 hown hgrow hv; obtain ⟨pw, cw, rfl⟩ := own_shape hown; have HG := Lib.hid (And.intro hown (And.intro hgrow hv)); have hb5 : w5.heap[sb]? = some (.cells #[.slice pv ts.length cv, .map (some mb)] 131 (0, 0)) := (hgrow.block sb (by simp; omega) (fun e => own_ne_box HOWN.out ((Below.heap_alloc w2 _ sb hzs2).trans HB2.out) (by decide) e.symm)).trans ((Below.heap_alloc w2 _ sb hzs2).trans HB2.out); have e1 : w5.cell? ⟨sb, 0, none⟩ = some (.slice pv ts.length cv) := Lib.cell_of_heap hb5 0; have e2 : w5.frozen? ⟨sb, 0, none⟩ = false := Lib.frozen_of_heap hb5 0; clear hown hgrow hv hb5))
    all_goals
      go_wp2_with fail
      go_meet
      exact ⟨_, HS2.out.add HO.out HG.out.1 HG.out.2.1 HG.out.2.2⟩
  case rest =>
    obtain ⟨v', hst, hkb, hob⟩ := hcut
    have hkw : KB (SB sb mb (.slice pv ts.length cv)) w wc := KB.trans (KB.of_below HBB.out) hkb
    have HOB : Hid (v'.ownBlock = (Value.slice pv ts.length cv).ownBlock ∨ ∃ g, v'.ownBlock = some g ∧ w.heap.size ≤ g) := by
      rcases hob with h1 | ⟨g, h1, h2⟩
      · exact .inl h1
      · exact .inr ⟨g, h1, by omega⟩
    have hnw : ¬ SB sb mb (.slice pv ts.length cv) w.heap.size := by
      rintro (e | e | e)
      · omega
      · have := HML.out; omega
      · have := (HS.out.row.row.lt _ e).2; omega
    have hwc2 : w2.heap.size ≤ wc.heap.size := hkb.size
    replace b0 := hkb.cell hz2 hnw b0
    replace b1 := hkb.cell hz2 hnw b1
    have HST := Lib.hid hst
    have HKW := Lib.hid hkw
    have HNW := Lib.hid hnw
    have hzc : w.heap.size < wc.heap.size := by omega
    clear hst hkb hob hkw hnw c0 c1 f0 HOWN HNEWS HB2
    have HIN := Lib.hid (HO.out.keep HST.out.blw)
    obtain ⟨⟨pS, capS, bS, oS, heS, hcapS, hmaxS, hpS, hcS⟩, hnm⟩ := HO.out
    cases heS
    simp only [] at hcapS hmaxS hpS hcS hnm HIN
    have HPS := Lib.hid hpS
    have HCS := Lib.hid hcS
    clear hpS hcS hnm
    go_wp2
    go_loopw [19] (fun v19 wr => ∃ k : Nat, k ≤ ys.length ∧ v19 = .int .i64 k ∧ ScopeSt w0 sb mb v' (ts ++ [(⟨yn, ys⟩, .slice po ys.length co)]) (N + k) (fun n => F n || defS (ys.take k) n) wr ∧ KB (SB sb mb (.slice pv ts.length cv)) w wr ∧ wr.heap[w.heap.size]? = wc.heap[w.heap.size]?) (fun v19 _ => ys.length - (intOf v19).toNat)
    case atStart => exact ⟨0, Nat.zero_le _, rfl, by rw [List.take_zero, defS_nil]; exact HST.out, HKW.out, rfl⟩
    case round =>
      obtain ⟨k, hk, rfl, hst, hkb, hob⟩ := hrel
      have HSR := Lib.hid hst
      have HKR := Lib.hid hkb
      have HOBx := Lib.hid hob
      have hszr : w.heap.size < wr.heap.size := by have := hkb.size; have := (Array.getElem?_eq_some_iff.1 (hob.trans (Array.getElem?_eq_getElem hzc))).1; exact this
      clear hst hkb hob
      by_cases hlt : k < ys.length
      · obtain rfl := HPS.out (by omega)
        obtain ⟨vr, vn, g0, g1, g2, g3, g4, g5, g6, g7, hsin⟩ := symR_keeps _ _ _ _ _ HSR.out.blw (HCS.out k hlt)
        obtain ⟨p1, q1, p2, q2, rfl, rfl⟩ := hsin.shape
        have hns : ys[k].name.size ≤ 9223372036854775807 := by have := hsin.2.2.2.2.2.1; omega
        have hbd := hsin.2.2.1
        have hdn := fun n => defS_snoc hlt rfl n
        generalize hy : ys[k] = y at g1 g2 g3 g4 g5 g6 g7 hsin hns hbd hdn
        have HDN := Lib.hid hdn
        clear hy hsin hdn
        obtain ⟨xn, xb, xk, xz, xy, xr, xt⟩ := y
        simp only [] at g1 g2 g3 g4 g5 g6 g7 hns hbd HDN
        have HSA := Lib.hid (HSR.out.keep (alloc_old wr (.cells #[.string xn, .int .u8 xb, .int .u8 xk, .int .u32 xz, .string xy, .slice p1 xr.length q1, .slice p2 xt.length q2] 55)))
        have HKA : Hid (KB (SB sb mb (.slice pv ts.length cv)) w (wr.alloc (.cells #[.string xn, .int .u8 xb, .int .u8 xk, .int .u32 xz, .string xy, .slice p1 xr.length q1, .slice p2 xt.length q2] 55))) := HKR.out.alloc _
        have HOA : Hid ((wr.alloc (.cells #[.string xn, .int .u8 xb, .int .u8 xk, .int .u32 xz, .string xy, .slice p1 xr.length q1, .slice p2 xt.length q2] 55)).heap[w.heap.size]? = wc.heap[w.heap.size]?) := (Below.heap_alloc _ _ _ hszr).trans HOBx.out
        by_cases hb0 : xb = 0
        · subst hb0
          have HF : Hid ((fun n => F n || defS (ys.take (k + 1)) n) = fun n => F n || defS (ys.take k) n) := by funext n; rw [HDN.out n]; simp
          go_wp2
          go_roundw
          case rel =>
            refine ⟨k + 1, by omega, by go_num, ?_, HKA.out, HOA.out⟩
            rw [HF.out]
            exact ⟨HSA.out.box, HSA.out.row, HSA.out.map.mono (by omega), HSA.out.sbl, HSA.out.mbl, HSA.out.blw⟩
          case measure => simp [intOf]; omega
        · have hbb : (xb != 0) = true := by simpa using hb0
          have HF := Lib.hid (boolF_put (F := fun n => F n || defS (ys.take k) n) (G := fun n => F n || defS (ys.take (k + 1)) n) (s := xn) (fun n => by rw [HDN.out n, hbb, Bool.true_and, Bool.or_assoc]))
          have d1 : (wr.alloc (.cells #[.string xn, .int .u8 xb, .int .u8 xk, .int .u32 xz, .string xy, .slice p1 xr.length q1, .slice p2 xt.length q2] 55)).cell? ⟨sb, 1, none⟩ = some (.map (some mb)) := Lib.cell_of_heap HSA.out.box 1
          have hszA : w.heap.size < (wr.alloc (.cells #[.string xn, .int .u8 xb, .int .u8 xk, .int .u32 xz, .string xy, .slice p1 xr.length q1, .slice p2 xt.length q2] 55)).heap.size := by simp; omega
          clear hb0
          go_wp2
          generalize hwa : (wr.alloc (.cells #[.string xn, .int .u8 xb, .int .u8 xk, .int .u32 xz, .string xy, .slice p1 xr.length q1, .slice p2 xt.length q2] 55)) = wA at *
          have e0 : wA.cell? ⟨wr.heap.size, 0, none⟩ = some (.string xn) := by subst hwa; simp [go_sem]
          clear hwa
          go_still_tail 6, (by kernel_rfl)
          refine wpList_put _ rfl _ _ _ 129 rfl 9 4 keyedS Tryz.underlying129 Tryz.underlying9 rfl HSA.out.map.drew (by unfold maxLen; omega) xn (.bool true) rfl rfl hns ?_
          intro w4 hM4 hg4
          have HS4 : Hid (ScopeSt w0 sb mb v' _ (N + (k + 1)) (fun n => F n || defS (ys.take (k + 1)) n) w4) := (HSA.out.keep (Below.refl _ _).drew).setMap hg4 (by rw [← HF.out]; exact hM4)
          have HK4 : Hid (KB (SB sb mb (.slice pv ts.length cv)) w w4) := HKA.out.drew.grown hg4 (fun q e => by cases e; exact .inl (.inr (.inl rfl)))
          have HO4 : Hid (w4.heap[w.heap.size]? = wc.heap[w.heap.size]?) := (hg4.block _ (by show _ < wA.heap.size; omega) (fun e => by cases e; exact HNW.out (.inr (.inl rfl)))).trans HOA.out
          clear hM4 hg4
          go_wp2
          go_roundw
          case rel => exact ⟨k + 1, by omega, by go_num, HS4.out, HK4.out, HO4.out⟩
          case measure => simp [intOf]; omega
      · obtain rfl : k = ys.length := by omega
        rw [List.take_length] at HSR
        go_wp2
        go_end0
        exact ⟨rfl, v', HSR.out, HKR.out, HOB.out⟩
end Go.Proofs.YtboegjdkedjhcaaGreatDoor
namespace Go.Proofs.YtboegjdkedjhcaaGreatDoor
open Go.RowKit Go.Maps
def cntS (ss : List GSym) (n : List UInt8) : Nat := ss.countP fun s => s.name.data.toList == n
def ownF (ss : List GSym) (n : List UInt8) : Option Value := if cntS ss n = 0 then none else some (.int .i64 (cntS ss n))
def wantR (F : List UInt8 → Bool) (ys : List GSym) (r : GRel) : Bool := !F r.name.data.toList && cntS ys r.name.data.toList == 0
def wantsL (F : List UInt8 → Bool) (ys : List GSym) (rs : List GRel) : List (List UInt8) := (rs.filter (wantR F ys)).map fun r => r.name.data.toList
def wantsS (F : List UInt8 → Bool) (ys ss : List GSym) : List (List UInt8) := ss.flatMap fun s => wantsL F ys s.rels
def wantsO (F : List UInt8 → Bool) (l : List GObj) : List (List UInt8) := l.flatMap fun o => wantsS F o.syms o.syms
def wantsE (F : List UInt8 → Bool) (n : List UInt8) : List (List UInt8) := if F n then [] else [n]
/-- the names that are wanting, as they come up -/
def wantsRaw (F : List UInt8 → Bool) (n : List UInt8) (l : List GObj) : List (List UInt8) := wantsE F n ++ wantsO F l
def relsN (l : List GObj) : Nat := (l.flatMap fun o => o.syms.flatMap fun s => s.rels).length
theorem ownF_get (ss : List GSym) (n : List UInt8) : (ownF ss n).getD (.int .i64 0) = .int .i64 (cntS ss n) := by
  unfold ownF; split
  · rename_i h; rw [h]; rfl
  · rfl
theorem ownF_nil : (fun _ => none) = ownF [] := by funext n; simp [ownF, cntS]
theorem ownF_snoc {l : List GSym} {k : Nat} {x : GSym} (h : k < l.length) (hx : l[k] = x) : (fun n => if n = x.name.data.toList then some (Value.int .i64 ((cntS (l.take k) x.name.data.toList + 1 : Nat) : Int)) else ownF (l.take k) n) = ownF (l.take (k + 1)) := by
  funext n
  unfold ownF
  have e : ∀ m, cntS (l.take (k + 1)) m = cntS (l.take k) m + if x.name.data.toList == m then 1 else 0 := fun m => by
    rw [List.take_succ_eq_append_getElem h, hx]; simp [cntS, List.countP_append, List.countP_cons]
  rw [e n]
  by_cases hn : n = x.name.data.toList
  · subst hn; simp
  · have h2 : (x.name.data.toList == n) = false := by simp; exact fun e => hn e.symm
    simp [hn, h2]
theorem cntS_le (ss : List GSym) (n : List UInt8) : cntS ss n ≤ ss.length := List.countP_le_length
theorem wantsL_snoc {F : List UInt8 → Bool} {ys : List GSym} {l : List GRel} {k : Nat} {x : GRel} (h : k < l.length) (hx : l[k] = x) : wantsL F ys (l.take (k + 1)) = wantsL F ys (l.take k) ++ if wantR F ys x then [x.name.data.toList] else [] := by
  rw [List.take_succ_eq_append_getElem h, hx, wantsL, List.filter_append, List.map_append]
  by_cases hw : wantR F ys x = true <;> simp [wantsL, hw]
theorem wantsS_snoc {F : List UInt8 → Bool} {ys l : List GSym} {k : Nat} {x : GSym} (h : k < l.length) (hx : l[k] = x) : wantsS F ys (l.take (k + 1)) = wantsS F ys (l.take k) ++ wantsL F ys x.rels := by
  rw [List.take_succ_eq_append_getElem h, hx, wantsS, List.flatMap_append]; simp [wantsS]
theorem wantsO_snoc {F : List UInt8 → Bool} {l : List GObj} {k : Nat} {x : GObj} (h : k < l.length) (hx : l[k] = x) : wantsO F (l.take (k + 1)) = wantsO F (l.take k) ++ wantsS F x.syms x.syms := by
  rw [List.take_succ_eq_append_getElem h, hx, wantsO, List.flatMap_append]; simp [wantsO]
theorem wantsL_len (F : List UInt8 → Bool) (ys : List GSym) (rs : List GRel) : (wantsL F ys rs).length ≤ rs.length := by
  unfold wantsL; rw [List.length_map]; exact List.length_filter_le _ _
theorem wantsS_len (F : List UInt8 → Bool) (ys : List GSym) : ∀ ss : List GSym, (wantsS F ys ss).length ≤ (ss.flatMap fun s => s.rels).length
  | [] => by simp [wantsS]
  | s :: r => by
    have ih := wantsS_len F ys r
    have h1 := wantsL_len F ys s.rels
    simp only [wantsS, List.flatMap_cons, List.length_append] at ih ⊢; omega
theorem wantsO_len (F : List UInt8 → Bool) : ∀ l : List GObj, (wantsO F l).length ≤ relsN l
  | [] => by simp [wantsO]
  | o :: r => by
    have ih := wantsO_len F r
    have h1 := wantsS_len F o.syms o.syms
    simp only [wantsO, relsN, List.flatMap_cons, List.length_append] at ih h1 ⊢; omega
theorem wants_pre {F : List UInt8 → Bool} {l : List GObj} {i j r : Nat} (hi : i < l.length) (hj : j < l[i].syms.length) (hr : r ≤ l[i].syms[j].rels.length) :
    (wantsO F (l.take i) ++ wantsS F l[i].syms (l[i].syms.take j) ++ wantsL F l[i].syms (l[i].syms[j].rels.take r)).length ≤ relsN l := by
  have a1 := wantsO_len F (l.take i)
  have a2 := wantsS_len F l[i].syms (l[i].syms.take j)
  have a3 := wantsL_len F l[i].syms (l[i].syms[j].rels.take r)
  have e : relsN l = relsN (l.take i) + ((l[i].syms.flatMap fun s => s.rels).length + relsN (l.drop (i + 1))) := by
    unfold relsN
    conv => lhs; rw [← List.take_append_drop i l, List.drop_eq_getElem_cons hi]
    rw [List.flatMap_append, List.flatMap_cons, List.length_append, List.length_append]
  have e2 : (l[i].syms.flatMap fun s => s.rels).length = ((l[i].syms.take j).flatMap fun s => s.rels).length + (l[i].syms[j].rels.length + ((l[i].syms.drop (j + 1)).flatMap fun s => s.rels).length) := by
    conv => lhs; rw [← List.take_append_drop j l[i].syms, List.drop_eq_getElem_cons hj]
    rw [List.flatMap_append, List.flatMap_cons, List.length_append, List.length_append]
  rw [List.length_take] at a3
  rw [List.length_append, List.length_append]
  omega
theorem own_ne_map {P : Program} {kt : TypeId} {w : World} {B : Nat} {e : TypeId} {k n b m : Nat} {v : Value} {xs : List Value} {f : List UInt8 → Option Value} (h : w.ownsRow B e k v n xs) (hm : MapFn P kt w b m f) : v.ownBlock ≠ some b := fun hg => by
  obtain ⟨D, ⟨es, clock, h1, h2⟩, hf⟩ := hm
  obtain ⟨cur, h2⟩ := own_type h hg
  rw [h1] at h2
  cases h2
theorem enc_str (s : ByteArray) : encStr s.data.toList = .string s := by simp
theorem zeroB (w : World) : (zeroValue 4).run Tryz.prog w = .ok (.bool false) w := Tryz.zeroValue4 w
theorem boolF_get (F : List UInt8 → Bool) (n : List UInt8) : (boolF F n).getD (.bool false) = .bool (F n) := by
  unfold boolF; cases F n <;> rfl
theorem bw_look {w : World} {b n : Nat} {f : List UInt8 → Option Value} {t e : TypeId} {z u : Value} {s : ByteArray} (h : MapFn Tryz.prog 9 w b n f) (ht : Tryz.prog.underlying t = some (.map 9 e)) (hz : ∀ w, (zeroValue e).run Tryz.prog w = .ok z w) (hs : s.size ≤ maxLen) (hu : (f s.data.toList).getD z = u) :
    ∀ x : BW w, (Instr.lookup t (.map (some b)) (.string s) false).run Tryz.prog x.u = .ok u x.u := fun x => by
  have := (h.below x.b h.lt).look keyedS ht Tryz.underlying9 (hz _) hs
  rw [hu] at this; exact this
def WantPost (w : World) (l : List (List UInt8)) (e : Ending) (w' : World) : Prop := ∃ vo, e = .returned vo ∧ ERow encStr 9 w.heap.size w' vo l ∧ Below w.heap.size w w'
theorem info_str : (Tryz.prog.info? 9).map (fun i => (i.zero, i.size, i.bytes)) = some (some (.string ⟨#[]⟩), 1, 16) := by kernel_rfl
theorem str_one {a : ByteArray} : ∀ u ∈ [Value.string a], u.oneCell' = true := by
  intro u hu
  simp at hu
  subst hu; rfl
theorem str_news {w : World} {g : Nat} {a : Value} (h0 : w.cell? ⟨g, 0, none⟩ = some a) : ∀ j u, [a][j]? = some u → w.cell? ((⟨g, 0, none⟩ : Addr).add j) = some u := by
  intro j u hu
  match j, hu with
  | 0, hu => simp at hu; subst hu; simpa [Addr.add] using h0
theorem erow_snoc {w : World} {B n : Nat} {v : Value} {ws : List (List UInt8)} {s : ByteArray} (hn : n = ws.length) (h : w.ownsRow B 9 1 v (n + 1) (cellsE encStr ws ++ [.string s])) : ERow encStr 9 B w v (ws ++ [s.data.toList]) := by
  subst hn
  have e : cellsE encStr (ws ++ [s.data.toList]) = cellsE encStr ws ++ [.string s] := by simp [cellsE, enc_str]
  unfold ERow
  rw [e, List.length_append]; exact h
theorem erow_below {w w' : World} {B : Nat} {v : Value} {ws : List (List UInt8)} (h : ERow encStr 9 B w v ws) (hb : Below w.heap.size w w') : ERow encStr 9 B w' v ws := own_congr h fun g hg => hb.block g (World.ownsRow.lt h g hg).2
set_option maxRecDepth 100000 in
set_option maxHeartbeats 4000000 in
theorem wanting_l (sb mb : Nat) (v : Value) (l : List GObj) (N : Nat) (F : List UInt8 → Bool) (nm : ByteArray) (w : World) (h0 : w.cell? ⟨sb, 0, none⟩ = some v) (h1 : w.cell? ⟨sb, 1, none⟩ = some (.map (some mb))) (hsb : sb < w.heap.size)
    (hm : MapFn Tryz.prog 9 w mb N (boolF F)) (ho : ObjsAt w v l) (hn : nm.size ≤ 140737488355328) (hsm : relsN l ≤ 500000000) (hsy : ∀ o ∈ l, o.syms.length ≤ 10000) :
    Calls Tryz.prog 59 #[.pointer (some ⟨sb, 0, none⟩), .string nm] w (WantPost w (onceT (sortT (wantsRaw F nm.data.toList l)))) := by
  have HM := Lib.hid hm
  have HMl := Lib.hid hm.lt
  obtain ⟨p, cap, b, o, rfl, hcap, hmax, hp, hc⟩ := ho
  have HP := Lib.hid hp
  have HC := Lib.hid hc
  have HSM := Lib.hid hsm
  have HSY := Lib.hid hsy
  clear hp hc hm hsm hsy
  have hns : nm.size ≤ 9223372036854775807 := by omega
  obtain ⟨iS, s0, s1, s2, s3⟩ := info_parts info_str
  have HI := Lib.hid (And.intro s0 (And.intro s1 (And.intro s2 s3)))
  clear s0 s1 s2 s3
  have HV := Lib.hid (boolF_get F nm.data.toList)
  have HWE : Hid (wantsE F nm.data.toList = if F nm.data.toList then [] else [nm.data.toList]) := rfl
  obtain ⟨fb, hfb⟩ : ∃ b, F nm.data.toList = b := ⟨_, rfl⟩
  rw [hfb] at HV HWE
  clear hfb
  have hEl : (wantsE F nm.data.toList).length ≤ 1 := by rw [HWE.out]; split <;> simp
  have HEL := Lib.hid hEl; clear hEl
  have hmm := @run_makeMap Tryz.prog
  go_enter Tryz.func59, Tryz.ntmps59
  cases fb
  case' true =>
    go_wp2_with (at_lookup; refine wpList_look _ rfl _ _ 129 rfl 9 4 keyedS Tryz.underlying129 Tryz.underlying9 (zeroB _) rfl HM.out _ rfl hns HV.out ?_)
    have HE0 : Hid (ERow encStr 9 w.heap.size w (.slice none 0 0) (wantsE F nm.data.toList)) := by rw [Hid, HWE.out]; exact World.ownsRow_nil _ _ _ _
    have HB0 : Hid (Below w.heap.size w w) := Below.refl _ _
    have k0 := h0
  case' false =>
    go_wp2_with (first | (at_lookup; refine wpList_look _ rfl _ _ 129 rfl 9 4 keyedS Tryz.underlying129 Tryz.underlying9 (zeroB _) rfl HM.out _ rfl hns HV.out ?_) | (at_builtin; refine wpList_append_own _ rfl _ _ 44 rfl w.heap.size 9 iS _ 1 16 Tryz.underlying44 HI.out.1 HI.out.2.1 HI.out.2.2.1 HI.out.2.2.2 rfl (by decide) (.slice none 0 0) 0 [] rfl (World.ownsRow_nil _ _ _ _) _ 1 1 [.string nm] rfl rfl (str_news (by simp [go_sem])) str_one (by unfold maxLen; omega) (by omega) (by simp) ?_))
    intro v' w' hown hgrow _
    obtain ⟨pq, cq, rfl⟩ := own_shape hown
    have HE0 : Hid (ERow encStr 9 w.heap.size w' (.slice pq 1 cq) (wantsE F nm.data.toList)) := by
      rw [Hid, HWE.out]
      have := erow_snoc (ws := []) (s := nm) (n := 0) rfl hown
      simpa using this
    have HB0 : Hid (Below w.heap.size w w') := ((alloc_old w (.cells #[.string nm] 9))).grown hgrow (by simp) (fun k hk => by cases hk)
    have k0 := cell_keep HB0.out hsb h0
    clear hown hgrow
  all_goals
    clear HWE HV
    go_wp2
    clear k0
    go_loopw [4, 30] (fun v4 v30 wr => ∃ i : Nat, i ≤ l.length ∧ v30 = .int .i64 i ∧ ERow encStr 9 w.heap.size wr v4 (wantsE F nm.data.toList ++ wantsO F (l.take i)) ∧ Below w.heap.size w wr) (fun _ v30 _ => l.length - (intOf v30).toNat)
    case atStart => exact ⟨0, Nat.zero_le _, rfl, by simpa [wantsO] using HE0.out, HB0.out⟩
    case round =>
      clear HE0 HB0
      obtain ⟨i, hi, rfl, hrow, hbel⟩ := hrel
      have HROW := Lib.hid hrow
      have HB := Lib.hid hbel
      clear hrow hbel
      by_cases hlt : i < l.length
      · obtain rfl := HP.out (by omega)
        obtain ⟨vs, g0, g1, g2, hin⟩ := HC.out i hlt
        replace g1 := cell_keep HB.out g0 g1
        replace g2 := cell_keep HB.out g0 g2
        replace g0 := size_keep HB.out g0
        have hpre : ∀ (j : Nat) (hj : j < l[i].syms.length) (r : Nat), r ≤ l[i].syms[j].rels.length → (wantsO F (l.take i) ++ wantsS F l[i].syms (l[i].syms.take j) ++ wantsL F l[i].syms (l[i].syms[j].rels.take r)).length ≤ relsN l := fun j hj r hr => wants_pre hlt hj hr
        have hso := wantsO_snoc (F := F) hlt rfl
        have hyl := HSY.out _ (List.getElem_mem hlt)
        generalize hx : l[i] = x at g1 g2 hin hso hpre hyl
        obtain ⟨yn, ys⟩ := x
        simp only [] at g1 g2 hin hso hpre hyl
        have HPRE := Lib.hid hpre
        have HSO := Lib.hid hso
        obtain ⟨⟨pS, capS, bS, oS, rfl, hcapS, hmaxS, hpS, hcS⟩, hnmx⟩ := hin
        have HCS := Lib.hid hcS
        have HPS := Lib.hid hpS
        clear hx hpre hso hcS hpS hnmx
        go_wp2
        obtain ⟨wo, rfl⟩ : ∃ wo : World, wo = wr := ⟨_, rfl⟩
        go_loopw [38] (fun v38 wr => ∃ k : Nat, k ≤ ys.length ∧ v38 = .int .i64 k ∧ MapFn Tryz.prog 9 wr (wo.heap.size + 1) k (ownF (ys.take k)) ∧ Below (wo.heap.size + 1) (wo.alloc (.cells #[.string yn, .slice pS ys.length capS] 50)) wr) (fun v38 _ => ys.length - (intOf v38).toNat)
        case atStart =>
          refine ⟨0, Nat.zero_le _, rfl, ?_, (Below.refl _ _).alloc (by simp) _⟩
          have := MapFn.made Tryz.prog 9 (wo.alloc (.cells #[.string yn, .slice pS ys.length capS] 50))
          rw [ownF_nil] at this
          simpa using this
        case round =>
          obtain ⟨k, hk, rfl, hmap, hbk⟩ := hrel
          have HMK := Lib.hid hmap
          have HBK := Lib.hid hbk
          have HBKW : Hid (Below w.heap.size w wr) := HB.out.trans (((alloc_old wo (.cells #[.string yn, .slice pS ys.length capS] 50)).trans (hbk.mono (Nat.le_succ _))).mono HB.out.size)
          have hz1 : wo.heap.size + 1 < wr.heap.size := hmap.lt
          clear hmap
          by_cases hks : k < ys.length
          · clear hbk
            obtain rfl := HPS.out (by omega)
            obtain ⟨vr, vn, g0, g1, g2, g3, g4, g5, g6, g7, hsin⟩ := symR_keeps _ _ _ _ _ HBKW.out (HCS.out k hks)
            obtain ⟨p1, q1, p2, q2, rfl, rfl⟩ := hsin.shape
            have hns1 : ys[k].name.size ≤ 9223372036854775807 := by have := hsin.2.2.2.2.2.1; omega
            have hos := ownF_snoc hks rfl
            have hcl := cntS_le (ys.take k) ys[k].name.data.toList
            rw [List.length_take] at hcl
            have hog := ownF_get (ys.take k) ys[k].name.data.toList
            generalize hy : ys[k] = y at g1 g2 g3 g4 g5 g6 g7 hsin hns1 hos hcl hog
            obtain ⟨xn, xb, xk, xz, xy, xr, xt⟩ := y
            simp only [] at g1 g2 g3 g4 g5 g6 g7 hsin hns1 hos hcl hog
            generalize hcn : cntS (ys.take k) xn.data.toList = c at hos hcl hog
            have HOS := Lib.hid hos
            have HOG := Lib.hid hog
            clear hy hsin hcn hos hog
            have hwr : IntKind.i64.wrap ((c : Int) + 1) = ((c + 1 : Nat) : Int) := (IntWalk.i64_in _ (by omega)).trans (by omega)
            replace HMK := Lib.hid (HMK.out.alloc (.cells #[.string xn, .int .u8 xb, .int .u8 xk, .int .u32 xz, .string xy, .slice p1 xr.length q1, .slice p2 xt.length q2] 55))
            have HBK2 := Lib.hid (HBK.out.alloc (by omega) (.cells #[.string xn, .int .u8 xb, .int .u8 xk, .int .u32 xz, .string xy, .slice p1 xr.length q1, .slice p2 xt.length q2] 55))
            have e0 : (wr.alloc (.cells #[.string xn, .int .u8 xb, .int .u8 xk, .int .u32 xz, .string xy, .slice p1 xr.length q1, .slice p2 xt.length q2] 55)).cell? ⟨wr.heap.size, 0, none⟩ = some (.string xn) := by simp [go_sem]
            go_wp2_with (first | (at_lookup; refine wpList_look _ rfl _ _ 78 rfl 9 3 keyedS Tryz.underlying78 Tryz.underlying9 (zeroInt _) rfl HMK.out _ rfl hns1 HOG.out ?_) | (at_mapUpdate; refine wpList_put _ rfl _ _ _ 78 rfl 9 3 keyedS Tryz.underlying78 Tryz.underlying9 rfl HMK.out (by unfold maxLen; omega) xn (.int .i64 ((c + 1 : Nat) : Int)) rfl rfl hns1 ?_; intro w2 hM2 hg2; have HM2 := Lib.hid hM2; have HG2 := Lib.hid hg2; clear hM2 hg2))
            have HM3 : Hid (MapFn Tryz.prog 9 w2 (wo.heap.size + 1) (k + 1) (ownF (ys.take (k + 1)))) := HOS.out ▸ HM2.out
            go_roundw
            case rel => exact ⟨k + 1, by omega, by go_num, HM3.out, HBK2.out.grown HG2.out (by simp; omega) (fun j e => by simp at e; omega)⟩
            case measure => simp [intOf]; omega
          · obtain rfl : k = ys.length := by omega
            rw [List.take_length] at HMK
            have d1 : wr.cell? ⟨wo.heap.size, 1, none⟩ = some (.slice pS ys.length capS) := by rw [hbk.cell (by simp)]; simp [go_sem]
            have HOR := Lib.hid (erow_below HROW.out ((alloc_old wo (.cells #[.string yn, .slice pS ys.length capS] 50)).trans (hbk.mono (Nat.le_succ _))))
            clear hbk hks HBK
            go_wp2
            clear d1
            obtain ⟨wl, rfl⟩ : ∃ wl : World, wl = wr := ⟨_, rfl⟩
            go_loopw [4, 51] (fun v4 v51 wr => ∃ j : Nat, j ≤ ys.length ∧ v51 = .int .i64 j ∧ ERow encStr 9 w.heap.size wr v4 (wantsE F nm.data.toList ++ (wantsO F (l.take i) ++ wantsS F ys (ys.take j))) ∧ MapFn Tryz.prog 9 wr (wo.heap.size + 1) ys.length (ownF ys) ∧ Below w.heap.size w wr) (fun _ v51 _ => ys.length - (intOf v51).toNat)
            case atStart => exact ⟨0, Nat.zero_le _, rfl, by simpa [wantsS] using HOR.out, HMK.out, HBKW.out⟩
            case round =>
              clear HOR HMK HBKW
              obtain ⟨j, hj, rfl, hrow, hmap, hbel⟩ := hrel
              have HROW2 := Lib.hid hrow
              have HMP := Lib.hid hmap
              have HBJ := Lib.hid hbel
              clear hrow hmap hbel
              by_cases hlj : j < ys.length
              · obtain rfl := HPS.out (by omega)
                obtain ⟨vr, vn, g0, g1, g2, g3, g4, g5, g6, g7, hsin⟩ := HCS.out j hlj
                replace g1 := cell_keep HBJ.out g0 g1
                replace g2 := cell_keep HBJ.out g0 g2
                replace g3 := cell_keep HBJ.out g0 g3
                replace g4 := cell_keep HBJ.out g0 g4
                replace g5 := cell_keep HBJ.out g0 g5
                replace g6 := cell_keep HBJ.out g0 g6
                replace g7 := cell_keep HBJ.out g0 g7
                replace g0 := size_keep HBJ.out g0
                obtain ⟨p1, q1, p2, q2, rfl, rfl⟩ := hsin.shape
                have hpr := HPRE.out j hlj
                have hss := wantsS_snoc (F := F) (ys := ys) hlj rfl
                generalize hy : ys[j] = y at g1 g2 g3 g4 g5 g6 g7 hsin hpr hss
                obtain ⟨xn, xb, xk, xz, xy, xr, xt⟩ := y
                simp only [] at g1 g2 g3 g4 g5 g6 g7 hsin hpr hss
                have HPR := Lib.hid hpr
                have HSS := Lib.hid hss
                obtain ⟨⟨_, _, bR, oR, heR, hcapR, hmaxR, hpR, hcR⟩, -⟩ := hsin
                cases heR
                have HPQ := Lib.hid hpR
                have HCR := Lib.hid hcR
                clear hy hpr hss hpR hcR
                have HMP2 := Lib.hid (HMP.out.alloc (.cells #[.string xn, .int .u8 xb, .int .u8 xk, .int .u32 xz, .string xy, .slice p1 xr.length q1, .slice p2 xt.length q2] 55))
                have HBJ2 : Hid (Below w.heap.size w (wr.alloc (.cells #[.string xn, .int .u8 xb, .int .u8 xk, .int .u32 xz, .string xy, .slice p1 xr.length q1, .slice p2 xt.length q2] 55))) := HBJ.out.alloc HBJ.out.size _
                have HRO2 : Hid (ERow encStr 9 w.heap.size (wr.alloc (.cells #[.string xn, .int .u8 xb, .int .u8 xk, .int .u32 xz, .string xy, .slice p1 xr.length q1, .slice p2 xt.length q2] 55)) _ (wantsE F nm.data.toList ++ (wantsO F (l.take i) ++ wantsS F ys (ys.take j)))) := erow_below HROW2.out (alloc_old wr _)
                go_wp2
                obtain ⟨wk, rfl⟩ : ∃ wk : World, wk = wr := ⟨_, rfl⟩
                go_loopw [4, 58] (fun v4 v58 wr => ∃ r : Nat, r ≤ xr.length ∧ v58 = .int .i64 r ∧ ERow encStr 9 w.heap.size wr v4 (wantsE F nm.data.toList ++ (wantsO F (l.take i) ++ wantsS F ys (ys.take j) ++ wantsL F ys (xr.take r))) ∧ MapFn Tryz.prog 9 wr (wo.heap.size + 1) ys.length (ownF ys) ∧ Below w.heap.size w wr) (fun _ v58 _ => xr.length - (intOf v58).toNat)
                case atStart => exact ⟨0, Nat.zero_le _, rfl, by simpa [wantsL] using HRO2.out, HMP2.out, HBJ2.out⟩
                case round =>
                  clear HRO2 HMP2 HBJ2
                  obtain ⟨r, hr, rfl, hrow, hmap, hbel⟩ := hrel
                  have HROW3 := Lib.hid hrow
                  have HMR := Lib.hid hmap
                  have HBR := Lib.hid hbel
                  have HWS0 : Hid ((wantsE F nm.data.toList ++ (wantsO F (l.take i) ++ wantsS F ys (ys.take j) ++ wantsL F ys (xr.take r))).length ≤ 500000001) := by
                    have h1 := HPR.out r hr
                    have h2 := HSM.out
                    have h3 := HEL.out
                    rw [Hid, List.length_append]; omega
                  have hmrl := hmap.lt
                  clear hmap hbel
                  by_cases hlr : r < xr.length
                  · have hsl := wantsL_snoc (F := F) (ys := ys) hlr rfl
                    obtain ⟨ws, hws⟩ : ∃ ws, wantsE F nm.data.toList ++ (wantsO F (l.take i) ++ wantsS F ys (ys.take j) ++ wantsL F ys (xr.take r)) = ws := ⟨_, rfl⟩
                    rw [hws] at hrow HROW3 HWS0
                    have hwl := HWS0.out
                    obtain ⟨pz, cz, rfl⟩ := own_shape hrow
                    obtain rfl := HPQ.out (by omega)
                    obtain ⟨r0, r1, r2, r3, r4, rb1, rb2, rb3, rb4⟩ := HCR.out r hlr
                    replace r1 := cell_keep HBR.out r0 r1
                    replace r2 := cell_keep HBR.out r0 r2
                    replace r3 := cell_keep HBR.out r0 r3
                    replace r4 := cell_keep HBR.out r0 r4
                    replace r0 := size_keep HBR.out r0
                    generalize hx : xr[r] = x at r1 r2 r3 r4 rb1 rb2 rb3 rb4 hsl
                    obtain ⟨ro, rk, rn, ra⟩ := x
                    simp only [] at r1 r2 r3 r4 rb1 rb2 rb3 rb4 hsl
                    have HNX : Hid (wantsE F nm.data.toList ++ (wantsO F (l.take i) ++ wantsS F ys (ys.take j) ++ wantsL F ys (xr.take (r + 1))) = ws ++ if wantR F ys ⟨ro, rk, rn, ra⟩ then [rn.data.toList] else []) := by
                      rw [Hid, hsl, ← hws]; simp only [List.append_assoc]
                    have HBR2 : Hid (Below w.heap.size w (wr.alloc (.cells #[.int .u32 ro, .int .u8 rk, .string rn, .int .u32 ra] 133))) := HBR.out.alloc HBR.out.size _
                    have HMN := Lib.hid (HM.out.below HBR2.out HMl.out)
                    have HMO := Lib.hid (HMR.out.alloc (.cells #[.int .u32 ro, .int .u8 rk, .string rn, .int .u32 ra] 133))
                    have HRW := Lib.hid (erow_below HROW3.out (alloc_old wr (.cells #[.int .u32 ro, .int .u8 rk, .string rn, .int .u32 ra] 133)))
                    have hnsr : rn.size ≤ 9223372036854775807 := by omega
                    have k1 := cell_keep HBR2.out hsb h1
                    have hsb2 := size_keep HBR2.out hsb
                    have e2 : (wr.alloc (.cells #[.int .u32 ro, .int .u8 rk, .string rn, .int .u32 ra] 133)).cell? ⟨wr.heap.size, 2, none⟩ = some (.string rn) := by simp [go_sem]
                    have hz2 : wr.heap.size < (wr.alloc (.cells #[.int .u32 ro, .int .u8 rk, .string rn, .int .u32 ra] 133)).heap.size := by simp
                    have hV1 := boolF_get F rn.data.toList
                    have hV2 := ownF_get ys rn.data.toList
                    have hwr : wantR F ys ⟨ro, rk, rn, ra⟩ = (!F rn.data.toList && cntS ys rn.data.toList == 0) := rfl
                    generalize F rn.data.toList = fb2 at hV1 hwr
                    generalize cntS ys rn.data.toList = c at hV2 hwr
                    rw [hwr] at HNX
                    clear hx hsl hws hwr hrow
                    have l1 := bw_look HMN.out Tryz.underlying129 zeroB hnsr hV1
                    have l2 := bw_look HMO.out Tryz.underlying78 zeroInt hnsr hV2
                    have c1 := bw_cell hsb2 k1
                    have c2 := bw_cell hz2 e2
                    clear hV1 hV2 k1
                    go_wp2
                    generalize (wr.alloc (.cells #[.int .u32 ro, .int .u8 rk, .string rn, .int .u32 ra] 133)) = wB at *
                    cases hfb2 : fb2 with
                    | true =>
                      rw [hfb2] at HNX l1
                      clear hfb2
                      simp only [Bool.not_true, Bool.false_and, Bool.false_eq_true, if_false, List.append_nil] at HNX
                      refine wp_region_below rfl (by kernel_rfl) ?_
                      repeat (first | go_big_quiet_skip | quiet_step (fail))
                      refine wpQuiet_nil ?_
                      rintro w4 hx4
                      have hB4 : Below wB.heap.size wB w4 := bw_of hx4
                      clear hx4 c1 c2 l1 l2
                      have HR4 := Lib.hid (erow_below HRW.out hB4)
                      have HM4 := Lib.hid (HMO.out.below hB4 HMO.out.lt)
                      have HB4 := Lib.hid (HBR2.out.trans (hB4.mono HBR2.out.size))
                      clear hB4
                      go_wp2
                      go_roundw
                      case rel => exact ⟨r + 1, by omega, by go_num, by rw [HNX.out]; exact HR4.out, HM4.out, HB4.out⟩
                      case measure => simp [intOf]; omega
                    | false =>
                      rw [hfb2] at HNX l1
                      clear hfb2
                      by_cases hc0 : c = 0
                      · subst hc0
                        simp only [Bool.not_false, Bool.true_and, beq_self_eq_true, if_true] at HNX
                        refine wp_region_below rfl (by kernel_rfl) ?_
                        repeat (first | go_big_quiet_skip | quiet_step (fail))
                        refine wpQuiet_nil ?_
                        rintro w4 hx4
                        have hB4 : Below wB.heap.size wB w4 := bw_of hx4
                        clear hx4 c1 c2 l1 l2
                        have HR4 := Lib.hid (erow_below HRW.out hB4)
                        have HM4 := Lib.hid (HMO.out.below hB4 HMO.out.lt)
                        have HB4 := Lib.hid (HBR2.out.trans (hB4.mono HBR2.out.size))
                        replace e2 := cell_keep hB4 hz2 e2
                        have hw4 : w.heap.size ≤ w4.heap.size := HB4.out.size
                        clear hB4
                        have HR5 : Hid (w4.ownsRow w.heap.size 9 1 (.slice pz ws.length cz) ws.length (cellsE encStr ws)) := HR4.out
                        go_wp2_with (at_builtin; refine wpList_append_own _ rfl _ _ 44 rfl w.heap.size 9 iS _ 1 16 Tryz.underlying44 HI.out.1 HI.out.2.1 HI.out.2.2.1 HI.out.2.2.2 rfl (by decide) (.slice pz ws.length cz) ws.length (cellsE encStr ws) rfl (HR5.out.alloc _) _ 1 1 [.string rn] rfl rfl (str_news (by simp [go_sem])) str_one (by unfold maxLen; omega) (by omega) (by simp; omega) ?_)
                        intro v5 w5 hown hgrow _
                        have HR6 := Lib.hid (erow_snoc rfl hown)
                        have HM6 := Lib.hid ((HM4.out.alloc (.cells #[.string rn] 9)).kept (hgrow.block _ (by have := HM4.out.lt; simp; omega) (fun e => own_ne_map (HR5.out) HM4.out e.symm)))
                        have HB6 := Lib.hid ((HB4.out.alloc hw4 (.cells #[.string rn] 9)).grown hgrow (by simp; omega) (fun k hk => (World.ownsRow.lt HR5.out k hk).1))
                        obtain ⟨p5, c5, rfl⟩ := own_shape hown
                        clear hown hgrow
                        go_wp2
                        go_roundw
                        case rel => exact ⟨r + 1, by omega, by go_num, by rw [HNX.out]; exact HR6.out, HM6.out, HB6.out⟩
                        case measure => simp [intOf]; omega
                      · have hcb : ((c : Int) == 0) = false := by simpa using hc0
                        have hcn : (c == 0) = false := by simpa using hc0
                        have hcd : decide ((c : Int) = 0) = false := by simpa using hc0
                        rw [hcn] at HNX
                        simp only [Bool.and_false, Bool.false_eq_true, if_false, List.append_nil] at HNX
                        clear hc0 hcn
                        refine wp_region_below rfl (by kernel_rfl) ?_
                        repeat (first | go_big_quiet_skip | quiet_step (fail))
                        refine wpQuiet_nil ?_
                        rintro w4 hx4
                        have hB4 : Below wB.heap.size wB w4 := bw_of hx4
                        clear hx4 c1 c2 l1 l2
                        have HR4 := Lib.hid (erow_below HRW.out hB4)
                        have HM4 := Lib.hid (HMO.out.below hB4 HMO.out.lt)
                        have HB4 := Lib.hid (HBR2.out.trans (hB4.mono HBR2.out.size))
                        clear hB4
                        go_wp2
                        go_roundw
                        case rel => exact ⟨r + 1, by omega, by go_num, by rw [HNX.out]; exact HR4.out, HM4.out, HB4.out⟩
                        case measure => simp [intOf]; omega
                  · obtain rfl : r = xr.length := by omega
                    rw [List.take_length, List.append_assoc, ← HSS.out] at HROW3
                    go_wp2
                    go_roundw
                    case rel => exact ⟨j + 1, by omega, by go_num, HROW3.out, HMR.out, HBR.out⟩
                    case measure => simp [intOf]; omega
              · obtain rfl : j = ys.length := by omega
                rw [List.take_length, ← HSO.out] at HROW2
                go_wp2
                go_roundw
                case rel => exact ⟨i + 1, by omega, by go_num, HROW2.out, HBJ.out⟩
                case measure => simp [intOf]; omega
      · obtain rfl : i = l.length := by omega
        rw [List.take_length] at HROW
        have hle : (wantsE F nm.data.toList ++ wantsO F l).length ≤ 1000000000 := by
          have h1 := wantsO_len F l
          have h2 := HSM.out
          have h3 := HEL.out
          rw [List.length_append]; omega
        have HS1 := Lib.hid (sortStr_row _ _ _ wr HROW.out hle)
        have HROW5 := Lib.hid HROW.out
        clear HROW
        go_wp2_with fail
        refine HS1.out.mono ?_
        rintro e w5 ⟨rfl, hs5, hk5⟩
        have hle2 : (sortT (wantsE F nm.data.toList ++ wantsO F l)).length ≤ 1000000000 := by rw [sortT_length]; exact hle
        have HS2 := Lib.hid (compactStr_row _ _ _ w5 hs5 hle2)
        have HB5 : Hid (Below w.heap.size w w5) := HB.out.trans (hk5.below HB.out.size (fun g hg e => by have := (World.ownsRow.lt HROW5.out g e).1; omega))
        have HROW6 := Lib.hid hs5
        clear hs5 hk5
        go_wp2_with fail
        refine HS2.out.mono ?_
        rintro e w6 ⟨v6, rfl, hr6, -, hk6⟩
        have HB6 : Hid (Below w.heap.size w w6) := HB5.out.trans (hk6.below HB5.out.size (fun g hg e => by have := (World.ownsRow.lt HROW6.out g e).1; omega))
        have HR6 := Lib.hid hr6
        clear hr6 hk6
        go_wp2_with fail
        go_ret
        exact ⟨_, rfl, HR6.out, HB6.out⟩
end Go.Proofs.YtboegjdkedjhcaaGreatDoor
namespace Go.Proofs.YtboegjdkedjhcaaGreatDoor
open Go.RowKit Go.Maps
def entsO (k : Nat) (ss : List GSym) : List GEnt := (ss.filter fun s => s.bind != 0).map fun s => ⟨s.name, k, s.bind⟩
def entsFrom : Nat → List GObj → List GEnt
  | _, [] => []
  | k, o :: r => entsO k o.syms ++ entsFrom (k + 1) r
def symsN (l : List GObj) : Nat := (l.flatMap fun o => o.syms).length
theorem entsFrom_app : ∀ (l r : List GObj) (k : Nat), entsFrom k (l ++ r) = entsFrom k l ++ entsFrom (k + l.length) r
  | [], r, k => by simp [entsFrom]
  | o :: l, r, k => by
    have ih := entsFrom_app l r (k + 1)
    simp only [List.cons_append, entsFrom, ih, List.append_assoc, List.length_cons]
    rw [show k + 1 + l.length = k + (l.length + 1) by omega]
theorem entsFrom_snoc {l : List GObj} {k : Nat} {x : GObj} (h : k < l.length) (hx : l[k] = x) : entsFrom 0 (l.take (k + 1)) = entsFrom 0 (l.take k) ++ entsO k x.syms := by
  rw [List.take_succ_eq_append_getElem h, hx, entsFrom_app]
  simp only [entsFrom, List.append_nil, List.length_take, Nat.zero_add]
  rw [Nat.min_eq_left (by omega)]
theorem entsO_snoc {k : Nat} {l : List GSym} {j : Nat} {x : GSym} (h : j < l.length) (hx : l[j] = x) : entsO k (l.take (j + 1)) = entsO k (l.take j) ++ if x.bind = 0 then [] else [⟨x.name, k, x.bind⟩] := by
  rw [List.take_succ_eq_append_getElem h, hx, entsO, List.filter_append, List.map_append]
  by_cases hb : x.bind = 0 <;> simp [entsO, hb]
theorem entsO_len (k : Nat) (ss : List GSym) : (entsO k ss).length ≤ ss.length := by
  unfold entsO; rw [List.length_map]; exact List.length_filter_le _ _
theorem entsFrom_len : ∀ (l : List GObj) (k : Nat), (entsFrom k l).length ≤ symsN l
  | [], k => by simp [entsFrom]
  | o :: r, k => by
    have ih := entsFrom_len r (k + 1)
    have h1 := entsO_len k o.syms
    simp only [entsFrom, symsN, List.flatMap_cons, List.length_append] at ih ⊢; omega
theorem ents_pre {l : List GObj} {k : Nat} (hk : k < l.length) (j : Nat) : (entsFrom 0 (l.take k) ++ entsO k (l[k].syms.take j)).length ≤ symsN l := by
  have a1 := entsFrom_len (l.take k) 0
  have a2 := entsO_len k (l[k].syms.take j)
  rw [List.length_take] at a2
  have e : symsN l = symsN (l.take k) + (l[k].syms.length + symsN (l.drop (k + 1))) := by
    unfold symsN
    conv => lhs; rw [← List.take_append_drop k l, List.drop_eq_getElem_cons hk]
    rw [List.flatMap_append, List.flatMap_cons, List.length_append, List.length_append]
  rw [List.length_append]; omega
theorem mem_entsO {k : Nat} {ss : List GSym} {x : GEnt} : x ∈ entsO k ss ↔ ∃ s ∈ ss, s.bind ≠ 0 ∧ x = ⟨s.name, k, s.bind⟩ := by
  unfold entsO
  simp only [List.mem_map, List.mem_filter, bne_iff_ne, ne_eq]
  constructor
  · rintro ⟨s, ⟨h1, h2⟩, rfl⟩; exact ⟨s, h1, h2, rfl⟩
  · rintro ⟨s, h1, h2, rfl⟩; exact ⟨s, ⟨h1, h2⟩, rfl⟩
theorem mem_entsFrom : ∀ {l : List GObj} {a : Nat} {x : GEnt}, x ∈ entsFrom a l ↔ ∃ (k : Nat) (h : k < l.length), ∃ s ∈ l[k].syms, s.bind ≠ 0 ∧ x = ⟨s.name, a + k, s.bind⟩
  | [], a, x => by simp [entsFrom]
  | o :: r, a, x => by
    rw [entsFrom, List.mem_append, mem_entsO, mem_entsFrom (l := r)]
    constructor
    · rintro (⟨s, h1, h2, rfl⟩ | ⟨k, hk, s, h1, h2, rfl⟩)
      · exact ⟨0, by simp, s, by simpa using h1, h2, rfl⟩
      · exact ⟨k + 1, by simpa using hk, s, by simpa using h1, h2, by rw [show a + (k + 1) = a + 1 + k by omega]⟩
    · rintro ⟨k, hk, s, h1, h2, rfl⟩
      match k, hk, h1 with
      | 0, hk, h1 => exact .inl ⟨s, by simpa using h1, h2, rfl⟩
      | k + 1, hk, h1 => exact .inr ⟨k, by simpa using hk, s, by simpa using h1, h2, by rw [show a + (k + 1) = a + 1 + k by omega]⟩
theorem info_ent : (Tryz.prog.info? 47).map (fun i => (i.zero, i.size, i.bytes)) = some (some (.agg #[.string ⟨#[]⟩, .int .i64 0, .int .u8 0]), 3, 32) := by kernel_rfl
theorem ent_news {w : World} {g : Nat} {a b c : Value} (h0 : w.cell? ⟨g, 0, none⟩ = some a) (h1 : w.cell? ⟨g, 1, none⟩ = some b) (h2 : w.cell? ⟨g, 2, none⟩ = some c) : ∀ j u, [a, b, c][j]? = some u → w.cell? ((⟨g, 0, none⟩ : Addr).add j) = some u := by
  intro j u hu
  match j, hu with
  | 0, hu => simp at hu; subst hu; simpa [Addr.add] using h0
  | 1, hu => simp at hu; subst hu; simpa [Addr.add] using h1
  | 2, hu => simp at hu; subst hu; simpa [Addr.add] using h2
theorem ent_one {a : ByteArray} {b c : Int} : ∀ u ∈ [Value.string a, .int .i64 b, .int .u8 c], u.oneCell' = true := by
  intro u hu
  simp at hu
  rcases hu with rfl | rfl | rfl <;> rfl
theorem EntRow.snoc {w : World} {B : Nat} {v : Value} {es : List GEnt} {x : GEnt} (h : w.ownsRow B 47 3 v (es.length + 1) (es.flatMap entCells ++ [.string x.name, .int .i64 x.mem, .int .u8 x.bind])) : EntRow B w v (es ++ [x]) := by
  unfold EntRow
  rw [List.length_append, List.flatMap_append]; simpa [entCells] using h
def IndexPost (l : List GObj) (w : World) (e : Ending) (w' : World) : Prop := ∃ vo es, e = .returned vo ∧ EntRow w.heap.size w' vo es ∧ es.Perm (entsFrom 0 l) ∧ Below w.heap.size w w'
set_option maxRecDepth 100000 in
set_option maxHeartbeats 4000000 in
theorem index_any (v : Value) (l : List GArc) (w : World) (h : ArcsAt w v l) (hsm : (memsOf l).length ≤ 100000) (hsy : symsN (memsOf l) ≤ 1000000000) :
    Calls Tryz.prog 19 #[v] w (IndexPost (memsOf l) w) := by
  have HME := Lib.hid (members_any w v l w h (Below.refl _ _) hsm)
  obtain ⟨p, cap, b, o, rfl, -⟩ := h
  obtain ⟨iE, s0, s1, s2, s3⟩ := info_parts info_ent
  have HI := Lib.hid (And.intro s0 (And.intro s1 (And.intro s2 s3)))
  clear s0 s1 s2 s3
  go_enter Tryz.func19, Tryz.ntmps19
  go_wp2_with fail
  refine HME.out.mono ?_
  rintro e w1 ⟨vo, ts, rfl, how, hts, hB1⟩
  have HB1 := Lib.hid hB1
  have htl : Hid (ts.length = (memsOf l).length) := by rw [Hid, ← hts, List.length_map]
  have hob := how.objs hB1 (by rw [htl.out]; omega)
  rw [hts] at hob
  clear HME how hts htl hB1 ts
  generalize memsOf l = m at *
  obtain ⟨pm, cm, bm, om, rfl, hcm, hmm, hpm, hcm2⟩ := hob
  have HP := Lib.hid hpm
  have HC := Lib.hid hcm2
  have HSY := Lib.hid hsy
  have hz1 : w.heap.size ≤ w1.heap.size := HB1.out.size
  clear hpm hcm2 hsy
  go_wp2_with fail
  go_loopw [2, 10] (fun v2 v10 wr => ∃ k : Nat, k ≤ m.length ∧ v10 = .int .i64 k ∧ EntRow w1.heap.size wr v2 (entsFrom 0 (m.take k)) ∧ Below w1.heap.size w1 wr) (fun _ v10 _ => m.length - (intOf v10).toNat)
  case atStart => exact ⟨0, Nat.zero_le _, rfl, World.ownsRow_nil _ _ _ _, Below.refl _ _⟩
  case round =>
    obtain ⟨k, hk, rfl, hrow, hbel⟩ := hrel
    have HROW := Lib.hid hrow
    have HB := Lib.hid hbel
    clear hrow hbel
    by_cases hlt : k < m.length
    · obtain rfl := HP.out (by omega)
      obtain ⟨vs, g0, g1, g2, hin⟩ := HC.out k hlt
      replace g1 := cell_keep HB.out g0 g1
      replace g2 := cell_keep HB.out g0 g2
      replace g0 := size_keep HB.out g0
      have hpre := fun j => ents_pre hlt j
      have hsn := entsFrom_snoc hlt rfl
      generalize hx : m[k] = x at g1 g2 hin hsn hpre
      obtain ⟨yn, ys⟩ := x
      simp only [] at g1 g2 hin hsn hpre
      have HPRE := Lib.hid hpre
      have HSN := Lib.hid hsn
      obtain ⟨⟨pS, capS, bS, oS, rfl, hcapS, hmaxS, hpS, hcS⟩, hnmx⟩ := hin
      have HCS := Lib.hid hcS
      have HPS := Lib.hid hpS
      have HOR : Hid (EntRow w1.heap.size (wr.alloc (.cells #[.string yn, .slice pS ys.length capS] 50)) _ (entsFrom 0 (m.take k))) := own_congr HROW.out fun g hg => Below.heap_alloc _ _ _ (World.ownsRow.lt HROW.out g hg).2
      have HBA : Hid (Below w1.heap.size w1 (wr.alloc (.cells #[.string yn, .slice pS ys.length capS] 50))) := HB.out.alloc HB.out.size _
      clear hx hpre hsn hcS hpS hnmx HROW
      go_wp2
      obtain ⟨wo, rfl⟩ : ∃ wo : World, wo = wr := ⟨_, rfl⟩
      go_loopw [2, 18] (fun v2 v18 wr => ∃ j : Nat, j ≤ ys.length ∧ v18 = .int .i64 j ∧ EntRow w1.heap.size wr v2 (entsFrom 0 (m.take k) ++ entsO k (ys.take j)) ∧ Below w1.heap.size w1 wr) (fun _ v18 _ => ys.length - (intOf v18).toNat)
      case atStart => exact ⟨0, Nat.zero_le _, rfl, by simpa [entsO] using HOR.out, HBA.out⟩
      case round =>
        clear HOR HBA
        obtain ⟨j, hj, rfl, hrow, hbel⟩ := hrel
        have HROW := Lib.hid hrow
        have HBJ := Lib.hid hbel
        clear hbel
        by_cases hlj : j < ys.length
        · obtain rfl := HPS.out (by omega)
          obtain ⟨vr, vn, g0, g1, g2, g3, g4, g5, g6, g7, hsin⟩ := HCS.out j hlj
          replace g1 := cell_keep HBJ.out g0 g1
          replace g2 := cell_keep HBJ.out g0 g2
          replace g3 := cell_keep HBJ.out g0 g3
          replace g4 := cell_keep HBJ.out g0 g4
          replace g5 := cell_keep HBJ.out g0 g5
          replace g6 := cell_keep HBJ.out g0 g6
          replace g7 := cell_keep HBJ.out g0 g7
          replace g0 := size_keep HBJ.out g0
          obtain ⟨p1, q1, p2, q2, rfl, rfl⟩ := hsin.shape
          have hpr := HPRE.out j
          have hbd := hsin.2.2.1
          have hes := entsO_snoc (k := k) hlj rfl
          generalize hy : ys[j] = y at g1 g2 g3 g4 g5 g6 g7 hsin hbd hes
          obtain ⟨xn, xb, xk, xz, xy, xr, xt⟩ := y
          simp only [] at g1 g2 g3 g4 g5 g6 g7 hbd hes
          clear hy hsin
          have HES : Hid (entsFrom 0 (m.take k) ++ entsO k (ys.take (j + 1)) = (entsFrom 0 (m.take k) ++ entsO k (ys.take j)) ++ if xb = 0 then [] else [⟨xn, k, xb⟩]) := by rw [Hid, hes, List.append_assoc]
          clear hes
          generalize entsFrom 0 (m.take k) ++ entsO k (ys.take j) = es at hrow HROW hpr HES
          obtain ⟨pe, ce, rfl⟩ := own_shape hrow
          have hel : es.length ≤ 1000000000 := Nat.le_trans hpr HSY.out
          clear hrow hpr
          have HRA : Hid ((wr.alloc (.cells #[.string xn, .int .u8 xb, .int .u8 xk, .int .u32 xz, .string xy, .slice p1 xr.length q1, .slice p2 xt.length q2] 55)).ownsRow w1.heap.size 47 3 (.slice pe es.length ce) es.length (es.flatMap entCells)) := own_congr HROW.out fun g hg => Below.heap_alloc _ _ _ (World.ownsRow.lt HROW.out g hg).2
          have HBA : Hid (Below w1.heap.size w1 (wr.alloc (.cells #[.string xn, .int .u8 xb, .int .u8 xk, .int .u32 xz, .string xy, .slice p1 xr.length q1, .slice p2 xt.length q2] 55))) := HBJ.out.alloc HBJ.out.size _
          have hwz : w1.heap.size ≤ wr.heap.size := HBJ.out.size
          by_cases hb0 : xb = 0
          · subst hb0
            rw [if_pos rfl, List.append_nil] at HES
            go_wp2
            go_roundw
            case rel => exact ⟨j + 1, by omega, by go_num, by rw [HES.out]; exact HRA.out, HBA.out⟩
            case measure => simp [intOf]; omega
          · have hbb : (xb != 0) = true := by simpa using hb0
            rw [if_neg hb0] at HES
            clear hb0
            go_wp2_with (at_builtin; refine wpList_append_own _ rfl _ _ 42 rfl w1.heap.size 47 iE _ 3 32 Tryz.underlying42 HI.out.1 HI.out.2.1 HI.out.2.2.1 HI.out.2.2.2 rfl (by decide) (.slice pe es.length ce) es.length (es.flatMap entCells) rfl (HRA.out.alloc _) _ 1 1 [.string xn, .int .i64 k, .int .u8 xb] rfl rfl (ent_news (by simp [go_sem]) (by simp [go_sem]) (by simp [go_sem])) ent_one (by unfold maxLen; omega) (by omega) (by simp; omega) ?_)
            intro v' w' hown hgrow _
            have HR6 := Lib.hid (EntRow.snoc (x := ⟨xn, k, xb⟩) hown)
            have HB6 := Lib.hid ((HBA.out.alloc HBA.out.size (.cells #[.string xn, .int .i64 k, .int .u8 xb] 47)).grown hgrow (by simp; omega) (fun q hq => (World.ownsRow.lt HRA.out q hq).1))
            obtain ⟨p5, c5, rfl⟩ := own_shape hown
            clear hown hgrow
            go_wp2
            go_roundw
            case rel => exact ⟨j + 1, by omega, by go_num, by rw [HES.out]; exact HR6.out, HB6.out⟩
            case measure => simp [intOf]; omega
        · obtain rfl : j = ys.length := by omega
          rw [List.take_length, ← HSN.out] at HROW
          go_wp2
          go_roundw
          case rel => exact ⟨k + 1, by omega, by go_num, HROW.out, HBJ.out⟩
          case measure => simp [intOf]; omega
    · obtain rfl : k = m.length := by omega
      rw [List.take_length] at HROW
      have hel : (entsFrom 0 m).length ≤ 1000000000 := Nat.le_trans (entsFrom_len m 0) HSY.out
      have HS1 := Lib.hid (sortE_any _ _ _ wr HROW.out hel)
      go_wp2_with fail
      refine HS1.out.mono ?_
      rintro e w5 ⟨rfl, l', hp', hr', hk'⟩
      have HB5 : Hid (Below w.heap.size w w5) := HB1.out.trans ((HB.out.mono hz1).trans (hk'.below (Nat.le_trans hz1 HB.out.size) (fun g hg e => by have := (World.ownsRow.lt HROW.out g e).1; omega)))
      have HR' : Hid (EntRow w.heap.size w5 _ l') := owns_mono hr' hz1
      have HP' := Lib.hid hp'
      clear hp' hr' hk'
      go_wp2_with fail
      go_ret
      exact ⟨_, l', rfl, HR'.out, HP'.out, HB5.out⟩
end Go.Proofs.YtboegjdkedjhcaaGreatDoor
namespace Go.Proofs.YtboegjdkedjhcaaGreatDoor
open Go.RowKit Go.Maps
set_option maxRecDepth 100000 in
set_option maxHeartbeats 2000000 in
theorem put_any (base sb mb : Nat) (ov v : Value) (L : List PP) (F : PP → Option PP) (p q : PP) (w : World) (h : SrchSt base sb mb ov v L F w) (hp : placeOkK p) (hL : L.length ≤ 100000) :
    Calls Tryz.prog 144 #[.pointer (some ⟨sb, 0, none⟩), placeV p, placeV q] w (PutPost base sb mb ov v L F p q w) := by
  obtain ⟨pv, cv, rfl⟩ := own_shape h.row
  have HS := Lib.hid h
  have HSL := Lib.hid h.lt
  have HML := Lib.hid h.map.lt
  have c0 : w.cell? ⟨sb, 0, none⟩ = some (.slice pv L.length cv) := Lib.cell_of_heap h.box 0
  have c1 : w.cell? ⟨sb, 1, none⟩ = some (.map (some mb)) := Lib.cell_of_heap h.box 1
  have f0 : w.frozen? ⟨sb, 0, none⟩ = false := Lib.frozen_of_heap h.box 0
  have hlk : ∀ W : World, Below w.heap.size w W → (Instr.lookup 192 (.map (some mb)) (placeV p) true).run Tryz.prog W = .ok (.tuple #[((F p).map placeV).getD (placeV (0, 0)), .bool (F p).isSome]) W := fun W hW => by
    have := (h.map.below hW h.map.lt).look_ok (a := p) placeKeyed Tryz.underlying192 (zeroPl W) hp
    rw [Option.isSome_map] at this; exact this
  clear h
  obtain ⟨p1, p2⟩ := p
  obtain ⟨q1, q2⟩ := q
  unfold placeV
  simp only []
  have hzs : sb < w.heap.size := HSL.out
  have HBB : Hid (Below w.heap.size w ((w.alloc (.cells #[.int .i64 p1, .int .i64 p2] 185)).alloc (.cells #[.int .i64 q1, .int .i64 q2] 185))) := (alloc_old w _).alloc (by simp) _
  have k0 := HBB.out
  have b0 : ((w.alloc (.cells #[.int .i64 p1, .int .i64 p2] 185)).alloc (.cells #[.int .i64 q1, .int .i64 q2] 185)).cell? ⟨w.heap.size, 0, none⟩ = some (.int .i64 p1) := by simp [go_sem]
  have b1 : ((w.alloc (.cells #[.int .i64 p1, .int .i64 p2] 185)).alloc (.cells #[.int .i64 q1, .int .i64 q2] 185)).cell? ⟨w.heap.size, 1, none⟩ = some (.int .i64 p2) := by simp [go_sem]
  have b2 : ((w.alloc (.cells #[.int .i64 p1, .int .i64 p2] 185)).alloc (.cells #[.int .i64 q1, .int .i64 q2] 185)).cell? ⟨w.heap.size + 1, 0, none⟩ = some (.int .i64 q1) := by simp [go_sem]
  have b3 : ((w.alloc (.cells #[.int .i64 p1, .int .i64 p2] 185)).alloc (.cells #[.int .i64 q1, .int .i64 q2] 185)).cell? ⟨w.heap.size + 1, 1, none⟩ = some (.int .i64 q2) := by simp [go_sem]
  have hz2 : w.heap.size + 1 < ((w.alloc (.cells #[.int .i64 p1, .int .i64 p2] 185)).alloc (.cells #[.int .i64 q1, .int .i64 q2] 185)).heap.size := by simp
  replace c0 := cell_keep k0 hzs c0
  replace c1 := cell_keep k0 hzs c1
  replace f0 := (k0.frozen (p := ⟨sb, 0, none⟩) hzs).trans f0
  clear k0
  go_enter Tryz.func144, Tryz.ntmps144
  go_wp2
  generalize (w.alloc (.cells #[.int .i64 p1, .int .i64 p2] 185)).alloc (.cells #[.int .i64 q1, .int .i64 q2] 185) = w2 at *
  have hzs2 : sb < w2.heap.size := by omega
  have hz3 : w.heap.size < w2.heap.size := by omega
  cases hF : (F (p1, p2)).isSome with
  | true =>
    obtain ⟨y, hy⟩ := Option.isSome_iff_exists.1 hF
    obtain ⟨y1, y2⟩ := y
    rw [hy] at hlk
    simp only [Option.map_some, Option.getD_some, Option.isSome_some, placeV] at hlk
    have HLK := Lib.hid hlk; clear hlk
    have HFH := Lib.hid hF; clear hF
    have HY := Lib.hid hy; clear hy
    go_region_held3 (fun w' => w'.cell? ⟨sb, 1, none⟩ = some (.map (some mb)) ∧ w'.cell? ⟨w.heap.size, 0, none⟩ = some (.int .i64 p1) ∧ w'.cell? ⟨w.heap.size, 1, none⟩ = some (.int .i64 p2) ∧ (Instr.lookup 192 (.map (some mb)) (.agg #[.int .i64 p1, .int .i64 p2]) true).run Tryz.prog w' = .ok (.tuple #[.agg #[.int .i64 y1, .int .i64 y2], .bool true]) w') ((refine ⟨?_, ?_, ?_, HLK.out _ ?_⟩; go_keep; go_keep; go_keep; (have k0 := HBB.out; go_grown))) (fail)
    all_goals
      go_wp2
      go_end0
      exact ⟨rfl, _, by unfold newL newF; rw [if_pos HFH.out, if_pos HFH.out]; exact HS.out.keep (by have k0 := HBB.out; go_grown), KB.of_below (by have k0 := HBB.out; go_grown), .inl rfl⟩
  | false =>
    obtain hn : F (p1, p2) = none := by simpa using hF
    rw [hn] at hlk
    simp only [Option.map_none, Option.getD_none, Option.isSome_none, placeV] at hlk
    have HLK := Lib.hid hlk; clear hlk
    have HFH := Lib.hid hF; clear hF
    have HN := Lib.hid hn; clear hn
    go_cut [7] (fun v7 wx => v7 = .bool false ∧ Below w2.heap.size w2 wx)
    case first =>
      go_region_held3 (fun w' => w'.cell? ⟨sb, 1, none⟩ = some (.map (some mb)) ∧ w'.cell? ⟨w.heap.size, 0, none⟩ = some (.int .i64 p1) ∧ w'.cell? ⟨w.heap.size, 1, none⟩ = some (.int .i64 p2) ∧ (Instr.lookup 192 (.map (some mb)) (.agg #[.int .i64 p1, .int .i64 p2]) true).run Tryz.prog w' = .ok (.tuple #[.agg #[.int .i64 0, .int .i64 0], .bool false]) w') ((refine ⟨?_, ?_, ?_, HLK.out _ ?_⟩; go_keep; go_keep; go_keep; (have k0 := HBB.out; go_grown))) (fail)
      all_goals
        go_wp2
        go_meet
        exact ⟨rfl, by go_grown⟩
    case rest =>
      obtain ⟨rfl, hbx⟩ := hcut
      replace c0 := cell_keep hbx hzs2 c0
      replace c1 := cell_keep hbx hzs2 c1
      replace f0 := (hbx.frozen (p := ⟨sb, 0, none⟩) hzs2).trans f0
      replace b0 := cell_keep hbx hz3 b0
      replace b1 := cell_keep hbx hz3 b1
      replace b2 := cell_keep hbx hz2 b2
      replace b3 := cell_keep hbx hz2 b3
      have HBC : Hid (Below w.heap.size w wc) := HBB.out.trans (hbx.mono HBB.out.size)
      have hzc : w.heap.size + 1 < wc.heap.size := by have := hbx.size; omega
      clear hbx
      have hzs3 : sb < wc.heap.size := by omega
      have hz4 : w.heap.size < wc.heap.size := by omega
      have HMC := Lib.hid (HS.out.map.below HBC.out HML.out)
      have hnm : sb ≠ mb := HS.out.ne
      have HNM := Lib.hid hnm
      go_wp2
      go_still_tail 6, (by kernel_rfl)
      refine wpList_putK _ rfl _ _ _ 192 rfl 185 placeKeyed Tryz.underlying192 rfl HMC.out.drew (by unfold maxLen; omega) (p1, p2) (placeV (q1, q2)) rfl rfl hp ?_
      intro w4 hM4 hg4
      rw [updF_map] at hM4
      have hml := HML.out
      replace c0 := cell_grown hg4 hzs3 hnm c0
      replace f0 := (hg4.frozen_far (a := ⟨sb, 0, none⟩) hzs3 (by simpa using hnm)).trans f0
      replace b0 := cell_grown hg4 hz4 (by omega) b0
      replace b1 := cell_grown hg4 hz4 (by omega) b1
      have hsz4 : wc.heap.size ≤ w4.heap.size := hg4.size
      clear b2 b3 c1 hml
      have HM4 := Lib.hid hM4; clear hM4
      have HG4 := Lib.hid hg4; clear hg4
      have HNM2 := Lib.hid hnm; clear hnm
      have hzs5 : sb < w4.heap.size := by omega
      have hz5 : w.heap.size < w4.heap.size := by omega
      have HOWN : Hid ((w4.alloc (.cells #[.int .i64 p1, .int .i64 p2] 185)).drew.ownsRow base 185 2 (.slice pv L.length cv) L.length (placeCells L)) := ((HS.out.row4 HBC.out HG4.out).alloc _).drew
      have HNEWS : Hid (∀ j u, [Value.int .i64 (p1 : Nat), Value.int .i64 (p2 : Nat)][j]? = some u → (w4.alloc (.cells #[.int .i64 p1, .int .i64 p2] 185)).drew.cell? ((⟨w4.heap.size, 0, none⟩ : Addr).add j) = some u) := two_news (by simp [go_sem]) (by simp [go_sem])
      have HB5 := Lib.hid (HS.out.box4 HBC.out HG4.out)
      have hbz : base ≤ w4.heap.size := by have := HS.out.sbl; omega
      obtain ⟨iP, s0, s1, s2, s3⟩ := info_parts info_place
      have HI := Lib.hid (And.intro s0 (And.intro s1 (And.intro s2 s3)))
      clear s0 s1 s2 s3
      go_wp2
      go_region_law ((refine step_append_own_at rfl (.tmp 29) (.tmp 31) 134 rfl base 185 iP _ 2 16 Tryz.underlying134 HI.out.1 HI.out.2.1 HI.out.2.2.1 HI.out.2.2.2 rfl (by decide) (.slice pv L.length cv) L.length (placeCells L) (by simp [Act.eval]) HOWN.out ⟨w4.heap.size, 0, none⟩ 1 1 [.int .i64 p1, .int .i64 p2] (by simp [Act.eval]) rfl HNEWS.out two_one (by unfold maxLen; omega) (by omega) (by simp; omega) ?_; intro v' w5 hown hgrow hv; obtain ⟨pw, cw, rfl⟩ := own_shape hown; have HG := Lib.hid (And.intro hown (And.intro hgrow hv)); have hb5 : w5.heap[sb]? = some (.cells #[.slice pv L.length cv, .map (some mb), ov] 196 (0, 0)) := (hgrow.block sb (by simp; omega) (fun e => own_ne_box HOWN.out ((Below.heap_alloc w4 _ sb hzs5).trans HB5.out) (by decide) e.symm)).trans ((Below.heap_alloc w4 _ sb hzs5).trans HB5.out); have e1 : w5.cell? ⟨sb, 0, none⟩ = some (.slice pv L.length cv) := Lib.cell_of_heap hb5 0; have e2 : w5.frozen? ⟨sb, 0, none⟩ = false := Lib.frozen_of_heap hb5 0; clear hown hgrow hv hb5))
      all_goals
        go_wp2_with fail
        go_end0
        exact HS.out.add HFH.out HBC.out HM4.out HG4.out HG.out.1 HG.out.2.1 HG.out.2.2
end Go.Proofs.YtboegjdkedjhcaaGreatDoor
