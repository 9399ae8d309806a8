/- An image as a world holds it. The walk of where.Table, at an image that was linked. -/
import Derived.Test.YtdjgkmpjhpnkeaaGreatDoorBd19
import Derived.Test.YtdjgkmpjhpnkeaaGreatDoorBd11
import Derived.Test.YtdjgkmpjhpnkeaaGreatDoorBd12
import Derived.Test.YtdjgkmpjhpnkeaaGreatDoorBd07
namespace Go.Proofs.YtdjgkmpjhpnkeaaGreatDoor
open Go.RowKit Go.Maps
def ExtR (w : World) (b o : Nat) (x : Int × Int) : Prop := b < w.heap.size ∧ w.cell? ⟨b, o, none⟩ = some (.int .u32 x.1) ∧ w.cell? ⟨b, o + 1, none⟩ = some (.int .u32 x.2) ∧ (0 ≤ x.1 ∧ x.1 ≤ 4294967295) ∧ (0 ≤ x.2 ∧ x.2 ≤ 4294967295)
def PortR (w : World) (b o : Nat) (x : Int) : Prop := b < w.heap.size ∧ w.cell? ⟨b, o, none⟩ = some (.int .u16 x) ∧ 0 ≤ x ∧ x ≤ 65535
def SegR (w : World) (b o : Nat) (x : GSeg) : Prop :=
  b < w.heap.size ∧ w.cell? ⟨b, o, none⟩ = some (.int .u32 x.addr) ∧ w.cell? ⟨b, o + 1, none⟩ = some (.int .u8 x.perm) ∧ w.cell? ⟨b, o + 2, none⟩ = some (.string x.bytes) ∧ (0 ≤ x.addr ∧ x.addr ≤ 4294967295) ∧ (0 ≤ x.perm ∧ x.perm ≤ 255) ∧ x.bytes.size ≤ 140737488355328
theorem extR_keeps : Keeps ExtR := fun _ _ _ _ _ hb ⟨h0, h1, h2, r⟩ => ⟨size_keep hb h0, cell_keep hb h0 h1, cell_keep hb h0 h2, r⟩
theorem portR_keeps : Keeps PortR := fun _ _ _ _ _ hb ⟨h0, h1, r⟩ => ⟨size_keep hb h0, cell_keep hb h0 h1, r⟩
theorem segR_keeps : Keeps SegR := fun _ _ _ _ _ hb ⟨h0, h1, h2, h3, r⟩ => ⟨size_keep hb h0, cell_keep hb h0 h1, cell_keep hb h0 h2, cell_keep hb h0 h3, r⟩
def ManAt (w : World) (m : GMan) (ve vp : Value) : Prop := RowAt 2 ExtR w ve m.exts ∧ RowAt 1 PortR w vp m.ports ∧ 0 ≤ m.pages ∧ m.pages ≤ 4294967295
def LinkAt (w : World) (x : GLink) (ve vp vs va : Value) : Prop := ManAt w x.man ve vp ∧ RowAt 3 SegR w vs x.segs ∧ RowAt 3 AddrR w va x.addrs ∧ 0 ≤ x.entry ∧ x.entry ≤ 4294967295
theorem ManAt.keep {w w' : World} {m : GMan} {ve vp : Value} (hb : Below w.heap.size w w') (h : ManAt w m ve vp) : ManAt w' m ve vp := ⟨h.1.keep extR_keeps hb, h.2.1.keep portR_keeps hb, h.2.2⟩
theorem LinkAt.keep {w w' : World} {x : GLink} {ve vp vs va : Value} (hb : Below w.heap.size w w') (h : LinkAt w x ve vp vs va) : LinkAt w' x ve vp vs va := ⟨h.1.keep hb, h.2.1.keep segR_keeps hb, h.2.2.1.keep addrR_keeps hb, h.2.2.2⟩
def linkV (x : GLink) (ve vp vs va : Value) : Value := .agg #[.int .u32 x.man.pages, ve, vp, .bool x.man.cons, .int .u32 x.entry, vs, va]
def LPost (w : World) (r : GLink × ByteArray × Int) (e : Ending) (w' : World) : Prop :=
  ∃ ve vp vs va, e = .returned (.tuple #[linkV r.1 ve vp vs va, .string r.2.1, .int .i64 r.2.2]) ∧ LinkAt w' r.1 ve vp vs va ∧ Below w.heap.size w w'
theorem link0_at (w : World) : LinkAt w link0 (.slice none 0 0) (.slice none 0 0) (.slice none 0 0) (.slice none 0 0) :=
  ⟨⟨rowAt_nil, rowAt_nil, by simp [link0, man0], by simp [link0, man0]⟩, rowAt_nil, rowAt_nil, by simp [link0], by simp [link0]⟩
/-- what a manifest of notes may have -/
theorem extsFrom_ok : ∀ (k : Nat) (l : List Int), (∀ x ∈ l, 0 ≤ x ∧ x ≤ 1024) → ∀ y ∈ extsFrom k l, (k : Int) ≤ y.1 ∧ y.1 < k + l.length ∧ 1 ≤ y.2 ∧ y.2 ≤ 1024
  | k, [], _, y, hy => by cases hy
  | k, n :: r, h, y, hy => by
    have h0 := h n (by simp)
    rw [extsFrom] at hy
    have ih := extsFrom_ok (k + 1) r (fun x hx => h x (by simp [hx]))
    split at hy
    · rcases List.mem_cons.1 hy with rfl | hy
      · simp; omega
      · have := ih y hy; simp at this ⊢; omega
    · have := ih y hy; simp at this ⊢; omega
theorem extsFrom_len : ∀ (k : Nat) (l : List Int), (extsFrom k l).length ≤ l.length
  | k, [] => by simp [extsFrom]
  | k, n :: r => by
    have := extsFrom_len (k + 1) r
    rw [extsFrom]
    split <;> simp <;> omega
structure ManOk (m : GMan) : Prop where
  pg : 0 ≤ m.pages ∧ m.pages ≤ 1024
  ex : ∀ y ∈ m.exts, 0 ≤ y.1 ∧ y.1 < 16 ∧ 1 ≤ y.2 ∧ y.2 ≤ 1024
  el : m.exts.length ≤ 16
  po : ∀ x ∈ m.ports, 1 ≤ x ∧ x ≤ 65535
  pl : m.ports.length ≤ 16
theorem man0_ok : ManOk man0 := ⟨by simp [man0], fun y hy => by simp [man0] at hy, by simp [man0], fun y hy => by simp [man0] at hy, by simp [man0]⟩
theorem once_mem (l : List Int) : ∀ x ∈ onceI l, x ∈ l := by
  intro x hx
  unfold onceI Lib.compact Lib.compactUpTo at hx
  obtain ⟨j, hj, rfl⟩ := List.mem_map.1 hx
  have hj' : j < l.length := List.mem_range.1 (List.mem_filter.1 hj).1
  have e : l.toArray[j]! = l[j] := by simp [hj']
  rw [e]
  exact List.getElem_mem hj'
theorem gatEnd_ok {g : Gat} (h : GatOk g) : ManOk (gatEnd g).1 := by
  unfold gatEnd
  split
  · exact man0_ok
  · rename_i hn
    refine ⟨⟨h.p0, h.p1⟩, fun y hy => ?_, ?_, fun x hx => ?_, by simpa [gatMan] using hn⟩
    · have := extsFrom_ok 0 g.blocks h.b y hy
      rw [h.n] at this
      simp at this; omega
    · have := extsFrom_len 0 g.blocks
      rw [h.n] at this; exact this
    · have h1 := once_mem _ x hx
      rw [sortI, List.mem_mergeSort] at h1
      exact h.q x h1
theorem demandR_ok {l : List GNote} (h0 : ∀ x ∈ l, 0 ≤ x.n) : ManOk (demandR l).1 := by
  unfold demandR
  split
  · rename_i h
    exact gatEnd_ok (gatL_ok h h0).1
  · exact man0_ok
theorem man_at {base : Nat} {w : World} {m : GMan} {ve vp : Value} (hm : ManOk m) (h1 : w.ownsRow base 217 2 ve m.exts.length (extCells m.exts)) (h2 : URow .u16 60 base w vp m.ports) : ManAt w m ve vp := by
  refine ⟨?_, ?_, hm.pg.1, by have := hm.pg; omega⟩
  · exact owned_row (k := 2) (f := fun x : Int × Int => [Value.int .u32 x.1, Value.int .u32 x.2]) (fun _ => rfl) h1 (by have := hm.el; omega) fun g o' i hi hg hcell =>
      ⟨hg, by simpa using hcell 0 (.int .u32 m.exts[i].1) (by omega) rfl, hcell 1 (.int .u32 m.exts[i].2) (by omega) rfl, by have := hm.ex _ (List.getElem_mem hi); omega, by have := hm.ex _ (List.getElem_mem hi); omega⟩
  · have h' : w.ownsRow base 60 1 vp m.ports.length (m.ports.flatMap fun x => [.int .u16 x]) := by rw [← cellsU_flat]; exact h2
    exact owned_row (k := 1) (f := fun x => [Value.int .u16 x]) (fun _ => rfl) h' (by have := hm.pl; omega) fun g o' i hi hg hcell => ⟨hg, by simpa using hcell 0 (.int .u16 m.ports[i]) (by omega) rfl, by have := hm.po _ (List.getElem_mem hi); omega, by have := hm.po _ (List.getElem_mem hi); omega⟩
theorem permK_bd (k : Int) : 0 ≤ permK k ∧ permK k ≤ 7 := by unfold permK; repeat' split
                                                             all_goals omega
theorem seg_row {base : Nat} {w : World} {vs : Value} {b : BL} {spans : List GSpan} (h : w.ownsRow base 107 3 vs spans.length ((spans.map (segOf b)).flatMap segCells)) (hs : SpUp 131072 spans) (hl : spans.length ≤ 3) : RowAt 3 SegR w vs (spans.map (segOf b)) := by
  have h' : w.ownsRow base 107 3 vs (spans.map (segOf b)).length ((spans.map (segOf b)).flatMap segCells) := by rw [List.length_map]; exact h
  refine owned_row (k := 3) (f := segCells) (fun _ => rfl) h' (by simp; omega) fun g o' i hi hg hcell => ?_
  have hi' : i < spans.length := by simpa using hi
  have he := hs.each _ (List.getElem_mem hi')
  have e : (spans.map (segOf b))[i] = segOf b spans[i] := by simp
  refine ⟨hg, by simpa using hcell 0 _ (by omega) rfl, hcell 1 _ (by omega) rfl, hcell 2 _ (by omega) rfl, ?_, ?_, ?_⟩
  · rw [e]; show 0 ≤ spans[i].at_ ∧ spans[i].at_ ≤ 4294967295; omega
  · rw [e]; have := permK_bd spans[i].kind; show 0 ≤ permK spans[i].kind ∧ permK spans[i].kind ≤ 255; omega
  · rw [e]; show (bsOf ((b.drop spans[i].at_.toNat).take spans[i].size.toNat)).size ≤ _
    rw [bsOf_size, List.length_take]; omega
end Go.Proofs.YtdjgkmpjhpnkeaaGreatDoor
namespace Go.Proofs.YtdjgkmpjhpnkeaaGreatDoor
open Go.RowKit Go.Maps Go.WideMaps
def gCells (p : GP) : List Value := [.int .i64 p.1, .int .i64 p.2]
theorem gCells_len (p : GP) : (gCells p).length = 2 := rfl
theorem info_placeT : (Tryz.prog.info? 63).map (fun i => (i.zero, i.size, i.bytes)) = some (some (.agg #[.int .i64 0, .int .i64 0]), 2, 16) := by kernel_rfl
theorem info_symT : (Tryz.prog.info? 56).map (fun i => (i.zero, i.size, i.bytes)) = some (some (.agg #[.string ⟨#[]⟩, .string ⟨#[]⟩, .int .u32 0, .int .u32 0, .int .u8 0]), 5, 48) := by kernel_rfl
theorem g_one {a b : Int} : ∀ u ∈ [Value.int .i64 a, Value.int .i64 b], u.oneCell' = true := by
  intro u hu
  simp at hu
  rcases hu with rfl | rfl <;> rfl
theorem ts_one {a b : ByteArray} {c d e : Int} : ∀ u ∈ [Value.string a, .string b, .int .u32 c, .int .u32 d, .int .u8 e], u.oneCell' = true := by
  intro u hu
  simp at hu
  rcases hu with rfl | rfl | rfl | rfl | rfl <;> rfl
theorem newsL {w : World} {g : Nat} {vs : List Value} (h : ∀ j u, vs[j]? = some u → w.cell? ⟨g, j, none⟩ = some u) : ∀ j u, vs[j]? = some u → w.cell? ((⟨g, 0, none⟩ : Addr).add j) = some u := fun j u hu => by
  rw [add_zero_eq]; exact h j u hu
def GRow (base : Nat) (w : World) (v : Value) (l : List GP) : Prop := w.ownsRow base 63 2 v l.length (l.flatMap gCells)
theorem GRow.at {base : Nat} {w : World} {v : Value} {l : List GP} (h : GRow base w v l) (hl : l.length ≤ 140737488355328) : RowAt 2 PlcR w v l :=
  owned_row gCells_len h hl fun _ _ _ hi hg hcell => ⟨hg, hcell 0 _ (by omega) rfl, hcell 1 _ (by omega) rfl⟩
theorem ts_bd {s : GTs} (h : tsOk 256 s = true) : TsBd s := by
  simp only [tsOk, Bool.and_eq_true, decide_eq_true_eq] at h
  obtain ⟨⟨⟨⟨⟨⟨⟨⟨h1, h2⟩, h3⟩, h4⟩, h5⟩, h6⟩, h7⟩, h8⟩, h9⟩ := h
  simp only [isName, Bool.and_eq_true, decide_eq_true_eq] at h1 h2
  exact ⟨by omega, by omega, by omega, by omega, by omega⟩
theorem linkAt_shapeT {w : World} {x : GLink} {ve vp vs va : Value} (h : LinkAt w x ve vp vs va) : ∃ (p1 : Option Addr) (c1 : Nat) (p2 : Option Addr) (c2 : Nat) (p3 : Option Addr) (c3 : Nat) (p4 : Option Addr) (c4 : Nat), ve = .slice p1 x.man.exts.length c1 ∧ vp = .slice p2 x.man.ports.length c2 ∧ vs = .slice p3 x.segs.length c3 ∧ va = .slice p4 x.addrs.length c4 := by
  obtain ⟨⟨⟨p1, c1, _, _, h1, _⟩, ⟨p2, c2, _, _, h2, _⟩, _⟩, ⟨p3, c3, _, _, h3, _⟩, ⟨p4, c4, _, _, h4, _⟩, _⟩ := h
  exact ⟨p1, c1, p2, c2, p3, c3, p4, c4, h1, h2, h3, h4⟩
def TabIs (l : List GObj) (wh : List GAddr) (w : World) (e : Ending) (w' : World) : Prop := ∃ T tv, e = .returned (.tuple #[tv, .int .i64 0]) ∧ TabAt w' tv T ∧ TabOf l wh T ∧ Below w.heap.size w w'
set_option maxRecDepth 100000 in
set_option maxHeartbeats 8000000 in
theorem table_any (l : List GObj) (ps : List GP) (wh : List GAddr) (sp : List GSpan) (x : GLink) (ve vp vs va v : Value) (w : World) (hlay : layOf l ps = (wh, sp, 0)) (hlen : ps.length ≤ 1024) (h : ObjsAt w v l) (hx : LinkAt w x ve vp vs va) (hxa : x.addrs = wh) :
    Calls Tryz.prog 22 #[linkV x ve vp vs va, v] w (TabIs l wh w) := by
  have HLO : Hid (∀ W pv, Below w.heap.size w W → RowAt 2 PlcR W pv ps → Calls Tryz.prog 56 #[v, pv] W (OfPost W (layOf l ps))) := fun W pv hW hp => layOf_any v pv l ps W (h.keep hW) hp (by omega)
  rw [hlay] at HLO
  have HO := Lib.hid h
  have HLAY := Lib.hid hlay
  have hl := laid_of hlay
  have HLAID := Lib.hid hl
  have HWL : Hid (wh.length = ps.length) := hl.len
  obtain ⟨p1, c1, p2, c2, p3, c3, p4, c4, rfl, rfl, rfl, rfl⟩ := linkAt_shapeT hx
  have HXA := hx.2.2.1
  obtain ⟨⟨xp, xe, xq, xc⟩, xen, xs, xa⟩ := x
  simp only [] at hxa HXA
  subst hxa
  obtain ⟨p, cap, rfl⟩ : ∃ (p : Option Addr) (cap : Nat), v = .slice p l.length cap := by obtain ⟨p, cap, b, o, rfl, _⟩ := h; exact ⟨p, cap, rfl⟩
  have HAR := Lib.hid HXA; clear HXA
  clear h hx hl hlay
  obtain ⟨iP, s0, s1, s2, s3⟩ := info_parts info_placeT
  have HI := Lib.hid (And.intro s0 (And.intro s1 (And.intro s2 s3)))
  clear s0 s1 s2 s3
  unfold linkV
  simp only []
  obtain ⟨w1, hw1⟩ : ∃ w1, w1 = w.alloc (.cells #[.int .u32 xp, .slice p1 xe.length c1, .slice p2 xq.length c2, .bool xc, .int .u32 xen, .slice p3 xs.length c3, .slice p4 xa.length c4] 37) := ⟨_, rfl⟩
  have HB1 : Hid (Below w.heap.size w w1) := by rw [hw1]; exact alloc_old w _
  have HXB : Hid (w1.heap[w.heap.size]? = some (.cells #[.int .u32 xp, .slice p1 xe.length c1, .slice p2 xq.length c2, .bool xc, .int .u32 xen, .slice p3 xs.length c3, .slice p4 xa.length c4] 37 (0, 0))) := by rw [hw1]; exact new_block w _
  have hz1 : w1.heap.size = w.heap.size + 1 := by rw [hw1]; simp
  go_enter Tryz.func22, Tryz.ntmps22
  go_wp2
  rw [← hw1]
  clear hw1
  go_loopw [6, 20] (fun v6 v20 wr => ∃ k : Nat, v20 = .int .i64 k ∧ k ≤ xa.length ∧ GRow (w.heap.size + 1) wr v6 (ps.take k) ∧ Below (w.heap.size + 1) w1 wr) (fun _ v20 _ => xa.length - (intOf v20).toNat)
  case atStart => exact ⟨0, by go_num, Nat.zero_le _, World.ownsRow_nil _ _ _ _, Below.refl _ _⟩
  case round =>
    obtain ⟨k, rfl, hk, hU, hB⟩ := hrel
    have HU := Lib.hid hU
    have HB := Lib.hid hB; clear hB
    obtain ⟨M, hM⟩ : ∃ M, M = ps.take k := ⟨_, rfl⟩
    rw [← hM] at hU
    have HUM := Lib.hid hU
    have HML : Hid (M.length = k) := by have := HWL.out; rw [Hid, hM, List.length_take]; omega
    obtain ⟨pu, cu, rfl⟩ := own_shape (show wr.ownsRow _ _ _ _ M.length _ from hU)
    have HM := Lib.hid hM; clear hU hM HU
    have HBO : Hid (Below w.heap.size w wr) := HB1.out.trans (HB.out.mono (by omega))
    by_cases hlt : k < xa.length
    · have hlt2 : k < ps.length := by have := HWL.out; omega
      obtain ⟨_, _, ba, oa, he, -, -, hpa, hca⟩ := HAR.out.keep addrR_keeps HBO.out
      cases he
      cases hpa (by omega)
      obtain ⟨g0, g1, g2, g3, -⟩ := hca k hlt
      have hp := HLAID.out.pl k hlt2
      have hpa' : pAt ps k = ps[k] := by unfold pAt; rw [List.getD_eq_getElem?_getD, List.getElem?_eq_getElem hlt2]; rfl
      rw [aAt_get hlt, hpa'] at hp
      have HSN : Hid (ps.take (k + 1) = M ++ [(xa[k].obj, xa[k].sym)]) := by
        rw [Hid, HM.out, List.take_succ_eq_append_getElem hlt2]
        congr 2
        exact (Prod.ext hp.1 hp.2).symm
      generalize xa[k] = y at g1 g2 g3 HSN
      obtain ⟨y1, y2, y3⟩ := y
      simp only [] at g1 g2 g3 HSN
      clear hp hpa' hca hpa
      go_wp2_with (at_builtin; refine wpList_append_own _ rfl _ _ 22 rfl (w.heap.size + 1) 63 iP _ 2 16 Tryz.underlying22 HI.out.1 HI.out.2.1 HI.out.2.2.1 HI.out.2.2.2 rfl (by decide) _ M.length (M.flatMap gCells) rfl ((World.ownsRow.alloc HUM.out _).alloc _) _ 1 1 [.int .i64 y1, .int .i64 y2] rfl rfl (two_newsG (by simp [go_sem]) (by simp [go_sem])) g_one (by have := HML.out; unfold maxLen; omega) (by have := HML.out; omega) (by have := HB.out.size; simp; omega) ?_)
      intro v4 w4 hown4 hgrow4 _
      have HN4 : Hid (GRow (w.heap.size + 1) w4 v4 (ps.take (k + 1))) := by
        rw [Hid, HSN.out]
        unfold GRow
        rw [List.length_append, List.flatMap_append]
        exact hown4
      have HB4 : Hid (Below (w.heap.size + 1) w1 w4) := HB.out.trans (((((alloc_old wr _).alloc (by simp) _).mono (by have := HB.out.size; omega))).grown hgrow4 (by have := HB.out.size; simp; omega) (fun q e => (World.ownsRow.lt HUM.out q e).1))
      obtain ⟨pr4, cr4, rfl⟩ := own_shape hown4
      clear hown4 hgrow4
      go_wp2
      go_roundw
      case rel => exact ⟨k + 1, by go_num, by omega, HN4.out, HB4.out⟩
      case measure => simp [intOf]; omega
    · obtain rfl : k = xa.length := by omega
      have hme : ps = M := by rw [HM.out]; exact (List.take_of_length_le (by have := HWL.out; omega)).symm
      clear HM HML
      subst hme
      have HLC := Lib.hid (HLO.out wr _ HBO.out (GRow.at HUM.out (by omega)))
      have HXBR := Lib.hid ((HB.out.block _ (by omega)).trans HXB.out)
      have hzr : w.heap.size < wr.heap.size := by have := HB.out.size; omega
      clear HUM
      go_wp2_with fail
      refine HLC.out.mono ?_
      rintro e w5 ⟨wa, wx, rfl, hwa, hws, hB5⟩
      simp only [] at hwa hws ⊢
      obtain ⟨pw, cw, _, _, rfl, -⟩ := id hwa
      obtain ⟨pz, cz, _, _, rfl, -⟩ := hws
      have HB5 : Hid (Below w.heap.size w w5) := HBO.out.trans (hB5.mono HBO.out.size)
      have HW5 := Lib.hid hwa
      have b6 := cell_keep hB5 hzr (Lib.cell_of_heap HXBR.out 6)
      have HEQ := Lib.hid (equalA_any _ _ xa w5 hwa (HAR.out.keep addrR_keeps HB5.out))
      clear hwa HBO HLC HLO HXBR HXB HB HB1 hzr
      have hz5 : w.heap.size < w5.heap.size := by have := hB5.size; have := HB5.out.size; exact World.block_lt_of_cell? w5 ⟨w.heap.size, 6, none⟩ b6
      clear hB5
      go_wp2_with fail
      refine HEQ.out.mono ?_
      rintro e w6 ⟨rfl, hB6⟩
      have HB6 : Hid (Below w.heap.size w w6) := HB5.out.trans (hB6.mono HB5.out.size)
      have HW6 := Lib.hid (HW5.out.keep addrR_keeps hB6)
      have hz6 : w.heap.size < w6.heap.size := by have := hB6.size; omega
      clear b6 hB6 HEQ HW5 HB5 hz5
      obtain ⟨iS, s0, s1, s2, s3⟩ := info_parts info_symT
      have HIS := Lib.hid (And.intro s0 (And.intro s1 (And.intro s2 s3)))
      clear s0 s1 s2 s3
      go_wp2
      go_loopw [12, 48] (fun v12 v48 wt => ∃ k : Nat, v48 = .int .i64 k ∧ k ≤ xa.length ∧ SRow w6.heap.size wt v12 ((xa.take k).map (tsAt l)) ∧ Below w6.heap.size w6 wt) (fun _ v48 _ => xa.length - (intOf v48).toNat)
      case atStart => exact ⟨0, by go_num, Nat.zero_le _, World.ownsRow_nil _ _ _ _, Below.refl _ _⟩
      case round =>
        obtain ⟨k, rfl, hk, hU, hB⟩ := hrel
        have HB := Lib.hid hB; clear hB
        obtain ⟨M, hM⟩ : ∃ M, M = (xa.take k).map (tsAt l) := ⟨_, rfl⟩
        rw [← hM] at hU
        have HUM := Lib.hid hU
        have HML : Hid (M.length = k) := by rw [Hid, hM, List.length_map, List.length_take]; omega
        obtain ⟨pu, cu, rfl⟩ := own_shape (show wr.ownsRow _ _ _ _ M.length _ from hU)
        have HM := Lib.hid hM; clear hU hM
        have HBO : Hid (Below w.heap.size w wr) := HB6.out.trans (HB.out.mono (by omega))
        have HWR := HB
        by_cases hlt : k < xa.length
        · have hlt2 : k < ps.length := by have := HWL.out; omega
          obtain ⟨_, _, ba, oa, he, -, -, hpa, hca⟩ := HW6.out.keep addrR_keeps HWR.out
          cases he
          cases hpa (by omega)
          obtain ⟨g0, g1, g2, g3, -⟩ := hca k hlt
          obtain ⟨o, s, e1, e2, -, -, -, e3, -, e4, e5, -⟩ := tsAt_of HLAY.out hlt2 hlt
          have HSN : Hid ((xa.take (k + 1)).map (tsAt l) = M ++ [⟨s.name, o.name, xa[k].at_, s.size, s.kind⟩]) := by
            rw [Hid, HM.out, List.take_succ_eq_append_getElem hlt, List.map_append, ← e3]; rfl
          obtain ⟨x1, hx1⟩ := Int.eq_ofNat_of_zero_le e4
          obtain ⟨x2, hx2⟩ := Int.eq_ofNat_of_zero_le e5
          rw [hx1] at g1 e1
          rw [hx2] at g2 e2
          simp only [Int.toNat_natCast] at e1 e2
          clear e3 e4 e5 hx1 hx2 hca hpa
          generalize xa[k].at_ = y3 at g3 HSN
          obtain ⟨ha, hae⟩ := List.getElem?_eq_some_iff.1 e1
          obtain ⟨hb, hbe⟩ := List.getElem?_eq_some_iff.1 e2
          obtain ⟨_, _, bo, oo, heo, -, -, hpo, hco⟩ := HO.out.keep HBO.out
          cases heo
          cases hpo (by omega)
          obtain ⟨vs, i0, i1, i2, hin, -⟩ := hco x1 ha
          rw [hae] at i1 hin
          obtain ⟨_, _, bs, os, rfl, -, -, hps, hcs⟩ := hin
          cases hps (by omega)
          obtain ⟨vr, vn, j0, j1, j2, j3, j4, j5, j6, j7, hin2⟩ := hcs x2 hb
          rw [hbe] at j1 j2 j3 j4 j5 hin2
          obtain ⟨q1, d1, q2, d2, rfl, rfl⟩ := hin2.shape
          clear hin2 hcs hps hco hpo e1 e2 hae hbe
          obtain ⟨on, osy⟩ := o
          obtain ⟨sn, sbd, sk, sz, sby, srl, snt⟩ := s
          simp only [] at i1 i2 j1 j2 j3 j4 j5 j6 j7 HSN hb
          go_wp2_with (at_builtin; refine wpList_append_own _ rfl _ _ 50 rfl w6.heap.size 56 iS _ 5 48 Tryz.underlying50 HIS.out.1 HIS.out.2.1 HIS.out.2.2.1 HIS.out.2.2.2 rfl (by decide) _ M.length (M.flatMap tsCells) rfl ((((World.ownsRow.alloc HUM.out _).alloc _).alloc _).alloc _) _ 1 1 [.string sn, .string on, .int .u32 y3, .int .u32 sz, .int .u8 sk] rfl rfl (newsL (fun j u hu => by
            match j, hu with
            | 0, hu => cases hu; simp [go_sem]
            | 1, hu => cases hu; simp [go_sem]
            | 2, hu => cases hu; simp [go_sem]
            | 3, hu => cases hu; simp [go_sem]
            | 4, hu => cases hu; simp [go_sem])) ts_one (by have := HML.out; unfold maxLen; omega) (by have := HML.out; omega) (by have := HB.out.size; simp; omega) ?_)
          intro v4 w4 hown4 hgrow4 _
          have HN4 : Hid (SRow w6.heap.size w4 v4 ((xa.take (k + 1)).map (tsAt l))) := by
            rw [Hid, HSN.out]
            unfold SRow
            rw [List.length_append, List.flatMap_append]
            exact hown4
          have HB4 : Hid (Below w6.heap.size w6 w4) := HB.out.trans ((((((alloc_old wr _).alloc (by simp) _).alloc (by simp; omega) _).alloc (by simp; omega) _).mono (by have := HB.out.size; omega)).grown hgrow4 (by have := HB.out.size; simp; omega) (fun q e => (World.ownsRow.lt HUM.out q e).1))
          obtain ⟨pr4, cr4, rfl⟩ := own_shape hown4
          clear hown4 hgrow4
          go_wp2
          go_roundw
          case rel => exact ⟨k + 1, by go_num, by omega, HN4.out, HB4.out⟩
          case measure => simp [intOf]; omega
        · obtain rfl : k = xa.length := by omega
          have HME : Hid (M = xa.map (tsAt l)) := by rw [Hid, HM.out, List.take_length]
          clear HM
          have HSO := Lib.hid (sortS_any _ _ M wr HUM.out (by have := HML.out; have := HWL.out; omega))
          go_wp2_with fail
          refine HSO.out.mono ?_
          rintro e w8 ⟨rfl, T, hpm, hup, hrow, hkb⟩
          have hbw : Below w.heap.size w w8 := HBO.out.trans ((hkb.below (by have := HBO.out.size; omega) (fun q hq hs => by have := (World.ownsRow.lt HUM.out q hs).1; omega)))
          have htl : T.length = xa.length := by rw [hpm.length_eq, HML.out]
          have HTO : Hid (TabOf l xa T) := ⟨by rw [← HME.out]; exact hpm, hup.imp fun h => Int.not_lt.2 h⟩
          have HTA : Hid (TabAt w8 (.slice pu M.length cu) T) := by
            refine ts_back (fun s hs => ?_) (by have := HML.out; have := HWL.out; omega) hrow
            obtain ⟨i, hi, hi2, rfl⟩ := tab_each HLAY.out HTO.out s hs
            exact ts_bd (ts_ok HLAY.out hi2 hi)
          have HBW := Lib.hid hbw
          clear hbw hkb hrow hpm hup htl HSO HML HME
          go_wp2
          refine bodyPost_ret (v := .tuple #[.slice pu M.length cu, .int .i64 0]) (by simp [results, Tryz.results22, go_sem]) rfl ?_
          exact ⟨T, _, rfl, HTA.out, HTO.out, HBW.out⟩
end Go.Proofs.YtdjgkmpjhpnkeaaGreatDoor
