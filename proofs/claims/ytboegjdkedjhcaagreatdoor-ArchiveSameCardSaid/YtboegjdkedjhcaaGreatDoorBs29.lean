/- An image linked of symbols (layer 18), in plain words. No program in sight. The walk of link's segs. Where the bytes of an image come from, in plain words. No program in sight. An image as a world holds. -/
import Derived.Test.YtboegjdkedjhcaaGreatDoorBs07
import Derived.Test.YtboegjdkedjhcaaGreatDoorBs21
import Derived.Test.YtboegjdkedjhcaaGreatDoorBs11
import Derived.Test.YtboegjdkedjhcaaGreatDoorBs19
import Derived.Test.YtboegjdkedjhcaaGreatDoorBs26
import Derived.Deep.OwnRows
import Derived.Test.YtboegjdkedjhcaaGreatDoorBs17
import Derived.Test.YtboegjdkedjhcaaGreatDoorBs25
namespace Go.Proofs.YtboegjdkedjhcaaGreatDoor
set_option maxRecDepth 100000
section
structure GSeg where
 addr : Int
 perm : Int
 bytes : ByteArray
structure GLink where
 man : GMan
 entry : Int
 segs : List GSeg
 addrs : List GAddr
def link0 : GLink := ⟨man0, 0, [], []⟩
def fillGo (l : List GObj) (wh : List GAddr) : List GP → List GAddr → BL → BL × ByteArray × Int
 | p :: r, a :: q, b =>
   match symAt l p with
   | some s => if (filledR l wh p s).2 = 0 then fillGo l wh r q (putB b (filledR l wh p s).1.data.toList a.at_.toNat) else (b, s.name, (filledR l wh p s).2)
   | none => (b, emptyB, 0)
 | _, _, b => (b, emptyB, 0)
def segOf (b : BL) (x : GSpan) : GSeg := ⟨x.at_, permK x.kind, bsOf ((b.drop x.at_.toNat).take x.size.toNat)⟩
def zeros18 : BL := List.replicate 131072 0
structure SegsOk (l : List GObj) (wh : List GAddr) (ps : List GP) (spans : List GSpan) : Prop where
 len : wh.length = ps.length
 sym : ∀ k (h : k < ps.length) (h2 : k < wh.length), ∃ s, symAt l ps[k] = some s ∧ s.bytes.size < 4294967296 ∧ (refsV (beginR l) l ps[k].1 ps[k].2).1.length ≤ 100000 ∧ 0 ≤ wh[k].at_ ∧ wh[k].at_ < 131072 ∧ ((filledR l wh ps[k] s).2 = 0 → wh[k].at_ + (filledR l wh ps[k] s).1.size ≤ 131072)
 spn : ∀ x ∈ spans, 0 ≤ x.at_ ∧ 1 ≤ x.size ∧ x.at_ + x.size ≤ 131072
 few : spans.length ≤ 3
theorem fillGo_step {l : List GObj} {wh : List GAddr} {ps : List GP} {k : Nat} {b : BL} {p : GP} {a : GAddr} {s : GSym} (h : k < ps.length) (h2 : k < wh.length) (hp : ps[k] = p) (ha : wh[k] = a) (hs : symAt l p = some s) :
 fillGo l wh (ps.drop k) (wh.drop k) b = if (filledR l wh p s).2 = 0 then fillGo l wh (ps.drop (k + 1)) (wh.drop (k + 1)) (putB b (filledR l wh p s).1.data.toList a.at_.toNat) else (b, s.name, (filledR l wh p s).2) := by
 rw [List.drop_eq_getElem_cons h, List.drop_eq_getElem_cons h2, hp, ha, fillGo, hs]
theorem fillGo_end {l : List GObj} {wh : List GAddr} {ps : List GP} {k : Nat} {b : BL} (h : ¬ k < ps.length) : fillGo l wh (ps.drop k) (wh.drop k) b = (b, emptyB, 0) := by
 rw [List.drop_of_length_le (by omega)]; cases wh.drop k <;> rfl
end
section
open Go.RowKit Go.Maps Go.WideMaps
def segCells (x : GSeg) : List Value := [.int .u32 x.addr, .int .u8 x.perm, .string x.bytes]
def lkCells (m0 m1 m2 m3 en sg av ov pv sv : Value) : Array Value := #[m0, m1, m2, m3, en, sg, av, ov, pv, sv]
def SegsPost (xb : Nat) (c : Value → Array Value) (w : World) (spans : List GSpan) (R : BL × ByteArray × Int) (e : Ending) (w' : World) : Prop :=
 KB (fun q => q = xb) w w' ∧ if R.2.2 = 0 then e = .returned (.tuple #[.string ⟨#[]⟩, .int .i64 0]) ∧ ∃ vs, w'.heap[xb]? = some (.cells (c vs) 204 (0, 0)) ∧ w'.ownsRow w.heap.size 146 3 vs spans.length ((spans.map (segOf R.1)).flatMap segCells)
  else e = .returned (.tuple #[.string R.2.1, .int .i64 R.2.2])
theorem make18 (w : World) : (Instr.makeSlice 81 (.int .i64 131072) (.int .i64 131072)).run Tryz.prog w = .ok (.slice (some ⟨w.heap.size, 0, none⟩) 131072 131072) (w.alloc (.cells (madeCells #[.int .u8 0] 131072) 5)) :=
 run_make_row' 81 5 (.int .u8 0) 1 Tryz.underlying81 info_byte rfl .i64 .i64 131072 (by omega) (by omega) w
theorem made18 (w : World) : ByteRow (w.alloc (.cells (madeCells #[.int .u8 0] 131072) 5)) w.heap.size zeros18 :=
 ⟨5, by unfold zeros18; rw [← madeBytes]; exact new_block w _⟩
theorem three_news {w : World} {g : Nat} {a b c : Value} (h0 : w.cell? ⟨g, 0, none⟩ = some a) (h1 : w.cell? ⟨g, 1, none⟩ = some b) (h2 : w.cell? ⟨g, 2, none⟩ = some c) : ∀ j u, [a, b, c][j]? = some u → w.cell? ((⟨g, 0, none⟩ : Addr).add j) = some u := by
 intro j u hu
 match j, hu with
 | 0, hu => simp at hu; subst hu; simpa [Addr.add] using h0
 | 1, hu => simp at hu; subst hu; simpa [Addr.add] using h1
 | 2, hu => simp at hu; subst hu; simpa [Addr.add] using h2
theorem three_one {a b : Int} {s : ByteArray} : ∀ u ∈ [Value.int .u32 a, Value.int .u8 b, Value.string s], u.oneCell' = true := by
 intro u hu; simp at hu; rcases hu with rfl | rfl | rfl <;> rfl
theorem info_seg : (Tryz.prog.info? 146).map (fun i => (i.zero, i.size, i.bytes)) = some (some (.agg #[.int .u32 0, .int .u8 0, .string ⟨#[]⟩]), 3, 24) := by kernel_rfl
theorem grow_boxS {wn w5 : World} {B ob k n : Nat} {e t : TypeId} {v : Value} {xs : List Value} {cs : Array Value} {o : Obj} (hg : (wn.alloc o).grownBy w5 v.ownBlock) (hown : (wn.alloc o).ownsRow B e k v n xs) (hb : wn.heap[ob]? = some (.cells cs t (0, 0))) (hne : e ≠ t) :
    w5.heap[ob]? = some (.cells cs t (0, 0)) := by
  have hlt := (Array.getElem?_eq_some_iff.1 hb).1
  have h1 : (wn.alloc o).heap[ob]? = some (.cells cs t (0, 0)) := (Below.heap_alloc _ _ _ hlt).trans hb
  exact (hg.block ob (by simp; omega) fun e' => own_ne_box hown h1 hne e'.symm).trans h1
set_option maxHeartbeats 4000000 in
theorem segs_any (xb : Nat) (m0 m1 m2 m3 en av ov pv sv : Value) (l : List GObj) (wh : List GAddr) (ps : List GP) (spans : List GSpan) (w : World) (hbx : w.heap[xb]? = some (.cells (lkCells m0 m1 m2 m3 en (.slice none 0 0) av ov pv sv) 204 (0, 0)))
 (h : ObjsAt w ov l) (ha : RowAt 3 AddrR w av wh) (hp : RowAt 2 PlcR w pv ps) (hsp : RowAt 3 SpanR w sv spans) (hne : ∀ w', KB (fun q => q = xb) w w' → ObjsAt w' ov l ∧ RowAt 3 AddrR w' av wh ∧ RowAt 2 PlcR w' pv ps ∧ RowAt 3 SpanR w' sv spans) (ok : SegsOk l wh ps spans) :
 Calls Tryz.prog 118 #[.pointer (some ⟨xb, 0, none⟩)] w (SegsPost xb (fun v => lkCells m0 m1 m2 m3 en v av ov pv sv) w spans (fillGo l wh ps wh zeros18)) := by
 have hmk := make18; have hmr := made18 w; generalize hZ : Obj.cells (madeCells #[.int .u8 0] 131072) 5 = Z at hmk hmr; clear hZ; have HR0 := Lib.hid hmr; clear hmr; have hxb : xb < w.heap.size := (Array.getElem?_eq_some_iff.1 hbx).1; have HBX := Lib.hid hbx; clear hbx; have HNE := Lib.hid hne; clear hne; have HOK := Lib.hid ok; clear ok; obtain ⟨pv', cv', hv⟩ : ∃ (pv : Option Addr) (cv : Nat), ov = .slice pv l.length cv := by obtain ⟨p, cap, b, o, rfl, _⟩ := h; exact ⟨p, cap, rfl⟩
 obtain ⟨pp, cp, bp, op, rfl, hcp, hmp, hpp, hcc⟩ := hp; obtain ⟨pa, ca, ba, oa, rfl, hca, hma, hpa, hac⟩ := ha; obtain ⟨pS, cS, bS, oS, rfl, hcS, hmS, hpS, hsc⟩ := hsp; have HPP := Lib.hid hpp; clear hpp hcc; have HPA := Lib.hid hpa; clear hpa hac; have HPS := Lib.hid hpS; clear hpS hsc; have hlen := HOK.out.len; have HB0 : Hid (Below w.heap.size w (w.alloc Z)) := alloc_old w Z; have z1 : (w.alloc Z).heap.size = w.heap.size + 1 := by simp
 have HBX1 := Lib.hid ((HB0.out.block xb hxb).trans HBX.out); generalize hW1 : w.alloc Z = w1 at HR0 HB0 z1 HBX1; have k8 : w1.cell? ⟨xb, 8, none⟩ = some (.slice pp ps.length cp) := Lib.cell_of_heap HBX1.out 8; go_enter Tryz.func118, Tryz.ntmps118; go_wp2; try rw [hW1]
 clear hW1 hmk k8
 go_loopw [17] (fun v17 wr => ∃ (k : Nat) (b : BL), v17 = .int .i64 k ∧ k ≤ ps.length ∧ b.length = 131072 ∧ ByteRow wr w.heap.size b ∧ fillGo l wh (ps.drop k) (wh.drop k) b = fillGo l wh ps wh zeros18 ∧ Below w.heap.size w wr) (fun v17 _ => ps.length - (intOf v17).toNat)
 case atStart => exact ⟨0, zeros18, by go_num, Nat.zero_le _, List.length_replicate, HR0.out, rfl, HB0.out⟩
 case round =>
  obtain ⟨k, b, rfl, hk, hbl, hrow, hgo, hB⟩ := hrel; have HBL := Lib.hid hbl; clear hbl; have HRW := Lib.hid hrow; clear hrow; have HGO := Lib.hid hgo; clear hgo; have HB := Lib.hid hB; clear hB; have hbr := (HB.out.block xb hxb).trans HBX.out; have d6 : wr.cell? ⟨xb, 6, none⟩ = some (.slice pa wh.length ca) := Lib.cell_of_heap hbr 6; have d7 : wr.cell? ⟨xb, 7, none⟩ = some ov := Lib.cell_of_heap hbr 7; have d9 : wr.cell? ⟨xb, 9, none⟩ = some (.slice pS spans.length cS) := Lib.cell_of_heap hbr 9; have HBR := Lib.hid hbr; clear hbr; have hxr : xb < wr.heap.size := size_keep HB.out hxb
  by_cases hlt : k < ps.length
  ·obtain ⟨hO, hA, hP, -⟩ := HNE.out wr (KB.of_below HB.out); have hkw : k < wh.length := by omega
   obtain ⟨s, hs, hsb, hrl, ha0, ha1, hfit⟩ := HOK.out.sym k hlt hkw; obtain rfl := HPP.out (by omega)
   obtain rfl := HPA.out (by omega)
   have HO := Lib.hid hO; have HA := Lib.hid hA; obtain ⟨p', cap', b', o', he, -, -, hp', hc'⟩ := hP; cases he; cases hp' (by omega)
   obtain ⟨g0, g1, g2⟩ := hc' k hlt; obtain ⟨p', cap', b', o', he, -, -, hp', hc2⟩ := hA; cases he; cases hp' (by omega)
   obtain ⟨e0, -, -, e3, -⟩ := hc2 k hkw; have HG : Hid (fillGo l wh (ps.drop k) (wh.drop k) b = if (filledR l wh ps[k] s).2 = 0 then fillGo l wh (ps.drop (k + 1)) (wh.drop (k + 1)) (putB b (filledR l wh ps[k] s).1.data.toList wh[k].at_.toNat) else (b, s.name, (filledR l wh ps[k] s).2)) := fillGo_step hlt hkw rfl rfl hs
   have HF : Hid (∀ W, Below wr.heap.size wr W → Calls Tryz.prog 157 #[.pointer (some ⟨xb, 0, none⟩), .agg #[.int .i64 ps[k].1, .int .i64 ps[k].2]] W fun e w' => e = .returned (.tuple #[.string (filledR l wh ps[k] s).1, .int .i64 (filledR l wh ps[k] s).2]) ∧ Below W.heap.size W w') := fun W hW =>
    linkFill_any xb ov _ l wh ps[k] s W (HO.out.keep hW) (HA.out.keep addrR_keeps hW) (size_keep hW hxr) (cell_keep hW hxr d6) (cell_keep hW hxr d7) hs hsb hrl
   have HSY : Hid (∀ W, Below wr.heap.size wr W → Calls Tryz.prog 117 #[.pointer (some ⟨xb, 0, none⟩), .agg #[.int .i64 ps[k].1, .int .i64 ps[k].2]] W (SymLPost W s)) := fun W hW =>
    linkSym_any xb ov l ps[k] s W (HO.out.keep hW) (size_keep hW hxr) (cell_keep hW hxr d7) hs
   generalize filledR l wh ps[k] s = fr at HG HF hfit; generalize ps[k] = p at g1 g2 HF HSY; obtain ⟨p1, p2⟩ := p; obtain ⟨fb, fc⟩ := fr; simp only [] at g1 g2 HF HSY HG hfit; generalize wh[k] = a at e3 HG ha0 ha1 hfit; obtain ⟨a1, a2, a3⟩ := a; simp only [] at e3 HG ha0 ha1 hfit; obtain ⟨an, rfl⟩ := Int.eq_ofNat_of_zero_le ha0; clear hs hsb hrl hc' hc2 ha0; go_wp2_with fail; refine (HF.out _ (alloc_old wr _)).mono ?_; rintro e w2 ⟨rfl, hB2⟩; have n0 := cell_keep hB2 (by simp) (show (wr.alloc (.cells #[.int .i64 p1, .int .i64 p2] 185)).cell? ⟨wr.heap.size, 0, none⟩ = some (.int .i64 p1) by simp [go_sem])
   have n1 := cell_keep hB2 (by simp) (show (wr.alloc (.cells #[.int .i64 p1, .int .i64 p2] 185)).cell? ⟨wr.heap.size, 1, none⟩ = some (.int .i64 p2) by simp [go_sem])
   have hB2w : Below wr.heap.size wr w2 := (alloc_old wr _).trans (hB2.mono (by simp))
   have HB2 := Lib.hid hB2w; have x6 := cell_keep hB2w hxr d6; have xe := cell_keep hB2w e0 e3; have hz2 : wr.heap.size < w2.heap.size := by have := hB2.size; simp at this; omega
   have HR2 := Lib.hid (HRW.out.below hB2w); have hx2 : xb < w2.heap.size := size_keep hB2w hxr; have hea : ba < w2.heap.size := size_keep hB2w e0; clear hB2 hB2w g1 g2 g0 d6 e3 e0
   by_cases hfc : fc = 0
   ·subst hfc; have han : an < 131072 := by omega
    have hfit2 : an + fb.size ≤ 131072 := by have := hfit rfl; omega
    have HG2 : Hid (fillGo l wh (ps.drop k) (wh.drop k) b = fillGo l wh (ps.drop (k + 1)) (wh.drop (k + 1)) (putB b fb.data.toList an)) := HG.out.trans (by rw [if_pos rfl]; rfl)
    obtain ⟨w3, hcopy, hr3, hk3⟩ := HR2.out.copy (P := Tryz.prog) 81 9 3 5 an (131072 - an) (131072 - an) fb Tryz.underlying81 (by kernel_rfl) (by omega) (by rw [HBL.out]; omega)
    have HR3 := Lib.hid hr3; have HK3 := Lib.hid hk3; clear hr3 hk3; go_wp2; go_roundw
    case rel =>
     have hw0 := HB.out.size; refine ⟨k + 1, _, by go_num, by omega, ?_, HR3.out, HG2.out.symm.trans HGO.out, ?_⟩
     ·have e : fb.size = fb.data.toList.length := by simp
      rw [putB_length (by rw [HBL.out, ← e]; omega), HBL.out]
     ·exact (HB.out.trans (HB2.out.mono HB.out.size)).trans (HK3.out.below (by have := HB2.out.size; omega) (fun q hq => by omega))
    case measure => simp [intOf]; omega
   ·have b1 : (fc != 0) = true := by simpa using hfc
    have HS2 := Lib.hid (HSY.out w2 HB2.out); unfold SymLPost at HS2; go_wp2_with fail; refine HS2.out.mono ?_; rintro e w3 ⟨⟨vr, vn, rfl, hin⟩, hB3⟩; unfold symV; obtain ⟨q1, c1, q2, c2, rfl, rfl⟩ := hin.shape; have hfn := field_name s.name s.bytes s.bind s.kind s.size (.slice q1 s.rels.length c1) (.slice q2 s.notes.length c2) w3; go_wp2; go_ret2; have HRES : Hid (fillGo l wh ps wh zeros18 = (b, s.name, fc)) := HGO.out.symm.trans (HG.out.trans (by rw [if_neg hfc]))
    rw [HRES.out]; refine ⟨KB.of_below (HB.out.trans ((HB2.out.trans (hB3.mono HB2.out.size)).mono HB.out.size)), ?_⟩; rw [if_neg hfc]; rfl
  ·have HE := Lib.hid (HGO.out.symm.trans (fillGo_end hlt)); obtain ⟨iS, s0, s1, s2, s3⟩ := info_parts info_seg; have HI := Lib.hid (And.intro s0 (And.intro s1 (And.intro s2 s3))); clear s0 s1 s2 s3 d6 d7; obtain ⟨wo, hwo⟩ : ∃ wo : World, wo = wr := ⟨_, rfl⟩; have HKO : Hid (KB (fun q => q = xb) w wo) := by rw [hwo]; exact KB.of_below HB.out
   have hzo : w.heap.size < wo.heap.size := by rw [hwo]; exact HRW.out.lt
   have hxo : xb < wo.heap.size := by omega
   go_wp2
   go_loopw [54] (fun v54 wy => ∃ (j : Nat) (vs : Value), v54 = .int .i64 j ∧ j ≤ spans.length ∧ wy.heap[xb]? = some (.cells (lkCells m0 m1 m2 m3 en vs (.slice pa wh.length ca) ov (.slice pp ps.length cp) (.slice pS spans.length cS)) 204 (0, 0)) ∧
    wy.ownsRow wo.heap.size 146 3 vs j (((spans.take j).map (segOf b)).flatMap segCells) ∧ KB (fun q => q = xb) wo wy) (fun v54 _ => spans.length - (intOf v54).toNat)
   case atStart => exact ⟨0, .slice none 0 0, by go_num, Nat.zero_le _, HBR.out, World.ownsRow_nil _ _ _ _, by rw [hwo]; exact KB.refl _ _⟩
   case round =>
    obtain ⟨j, vs, rfl, hj, hby, hoy, hky⟩ := hrel; have HBY := Lib.hid hby; clear hby; have HOY := Lib.hid hoy; have HKY := Lib.hid hky; clear hky; obtain ⟨pv2, cv2, rfl⟩ := own_shape hoy; clear hoy; have hzy := HKY.out.size
    by_cases hlj : j < spans.length
    ·obtain ⟨-, -, -, hSp⟩ := HNE.out wr (HKO.out.trans HKY.out); obtain rfl := HPS.out (by omega)
     obtain ⟨p', cap', b', o', he, -, -, hp', hc'⟩ := hSp; cases he; cases hp' (by omega)
     obtain ⟨g0, g1, g2, g3, hk, hat, hsz⟩ := hc' j hlj; obtain ⟨hs1, hs2, hs3⟩ := HOK.out.spn _ (List.getElem_mem hlj)
     have hSN : Hid (((spans.take (j + 1)).map (segOf b)).flatMap segCells = ((spans.take j).map (segOf b)).flatMap segCells ++ segCells (segOf b spans[j])) := by
      rw [Hid, List.take_succ_eq_append_getElem hlj, List.map_append, List.flatMap_append]; simp only [List.map_cons, List.map_nil, List.flatMap_cons, List.flatMap_nil, List.append_nil]
     generalize spans[j] = x at g1 g2 g3 hk hat hsz hs1 hs2 hs3 hSN; obtain ⟨xk, xa, xz⟩ := x; simp only [] at g1 g2 g3 hk hat hsz hs1 hs2 hs3 hSN; obtain ⟨an, rfl⟩ := Int.eq_ofNat_of_zero_le hs1; obtain ⟨zn, rfl⟩ := Int.eq_ofNat_of_zero_le (show 0 ≤ xz by omega)
     have hfit : an + zn ≤ 131072 := by omega
     have hz1 : 1 ≤ zn := by omega
     have hsum : IntKind.u32.wrap ((an : Int) + (zn : Int)) = ((an + zn : Nat) : Int) := by rw [IntKind.wrap_u32]; omega
     have s1 : 0 ≤ (an : Int) + (zn : Int) ∧ (an : Int) + (zn : Int) ≤ 131072 := by omega
     have s2 : an ≤ ((an : Int) + (zn : Int)).toNat := by omega
     have s3 : ¬ 131072 = an := by omega
     have s4 : ((an : Int) + (zn : Int)).toNat - an = zn := by omega
     have hBy : ByteRow wr w.heap.size b := by
      have := HRW.out; rw [← hwo] at this; exact this.congr (HKY.out.block _ hzo (by omega))
     clear hp' hc' hs1 hs2 hs3; have q0 : (wr.alloc (.cells #[.int .u8 xk, .int .u32 an, .int .u32 zn] 251)).cell? ⟨wr.heap.size, 0, none⟩ = some (.int .u8 xk) := by simp [go_sem]
     have q1 : (wr.alloc (.cells #[.int .u8 xk, .int .u32 an, .int .u32 zn] 251)).cell? ⟨wr.heap.size, 1, none⟩ = some (.int .u32 an) := by simp [go_sem]
     have q2 : (wr.alloc (.cells #[.int .u8 xk, .int .u32 an, .int .u32 zn] 251)).cell? ⟨wr.heap.size, 2, none⟩ = some (.int .u32 zn) := by simp [go_sem]
     have hby1 : xb < wr.heap.size := (Array.getElem?_eq_some_iff.1 HBY.out).1; have HSB0 := new_block wr (.cells #[.int .u8 xk, .int .u32 an, .int .u32 zn] 251); have HBA : Hid (Below wr.heap.size wr (wr.alloc (.cells #[.int .u8 xk, .int .u32 an, .int .u32 zn] 251))) := alloc_old wr _; have zA : (wr.alloc (.cells #[.int .u8 xk, .int .u32 an, .int .u32 zn] 251)).heap.size = wr.heap.size + 1 := by simp
     go_wp2; generalize hWA : (wr.alloc (.cells #[.int .u8 xk, .int .u32 an, .int .u32 zn] 251)) = wA at *; clear hWA; have HOA := Lib.hid (own_congr HOY.out fun q hq => HBA.out.block q (HOY.out.lt q hq).2)
     have HBXA := Lib.hid ((HBA.out.block xb (Array.getElem?_eq_some_iff.1 HBY.out).1).trans HBY.out); have hBA := (hBy.below HBA.out); have HRA := Lib.hid hBA; clear hBA hBy; have x5 : wA.cell? ⟨xb, 5, none⟩ = some (.slice pv2 j cv2) := Lib.cell_of_heap HBXA.out 5; have HPM : Hid (∀ W, Calls Tryz.prog 158 #[.int .u8 xk] W fun e w' => e = .returned (.int .u8 (permK xk)) ∧ Below W.heap.size W w') := fun W => perm_any xk W hk.1 hk.2
     have hst : Hid (segOf b ⟨xk, an, zn⟩ = ⟨(an : Int), permK xk, bsOf ((b.drop an).take zn)⟩) := rfl; rw [hst.out] at hSN; generalize hbs : bsOf ((b.drop an).take zn) = bs at hSN; have HBS := Lib.hid hbs; have hcv0 := run_bytes_of_row (P := Tryz.prog) (HRA.out.below (Below.refl _ _).drew) 81 9 5 an zn (131072 - an) Tryz.underlying81 Tryz.underlying5 Tryz.underlying9 (by rw [HBL.out]; omega)
     rw [hbs] at hcv0; clear hbs hst g1 g2 g3 hat hsz hk; generalize permK xk = pk at HPM hSN; have hx5 : wA.drew.cell? ⟨xb, 5, none⟩ = some (.slice pv2 j cv2) := x5; have HSB : Hid (wA.heap[wr.heap.size]? = some (.cells #[.int .u8 xk, .int .u32 an, .int .u32 zn] 251 (0, 0))) := HSB0; have hq0 : wA.drew.cell? ⟨wr.heap.size, 0, none⟩ = some (.int .u8 xk) := Lib.cell_of_heap HSB.out 0; have hq1 : wA.drew.cell? ⟨wr.heap.size, 1, none⟩ = some (.int .u32 an) := Lib.cell_of_heap HSB.out 1; have hq2 : wA.drew.cell? ⟨wr.heap.size, 2, none⟩ = some (.int .u32 zn) := Lib.cell_of_heap HSB.out 2; have hj3 : j ≤ 3 := by have := HOK.out.few; omega
     have hnx : ¬ wr.heap.size = xb := by have := hby1; omega
     clear q0 q1 q2 x5; obtain ⟨S, hSd⟩ : ∃ S : World → Prop, ∀ w', S w' ↔ (w'.cell? ⟨xb, 5, none⟩ = some (.slice pv2 j cv2) ∧ w'.cell? ⟨wr.heap.size, 0, none⟩ = some (.int .u8 xk) ∧ w'.cell? ⟨wr.heap.size, 1, none⟩ = some (.int .u32 an) ∧ w'.cell? ⟨wr.heap.size, 2, none⟩ = some (.int .u32 zn) ∧ (convert 81 9 (.slice (some ⟨w.heap.size, an, none⟩) zn (131072 - an))).run Tryz.prog w' = .ok (.string bs) w') := ⟨_, fun _ => Iff.rfl⟩
     have HSD := Lib.hid hSd; clear hSd; have hS0 : S wA.drew := (HSD.out _).2 ⟨hx5, hq0, hq1, hq2, hcv0⟩; have hS1 := fun x : HW S => (HSD.out _).1 x.h
     have c5 := fun x => (hS1 x).1
     have c0 := fun x => (hS1 x).2.1
     have c1 := fun x => (hS1 x).2.2.1
     have c2 := fun x => (hS1 x).2.2.2.1
     have c3 := fun x => (hS1 x).2.2.2.2
     haveI : Nonempty (HW S) := ⟨⟨_, hS0⟩⟩
     refine wp_region_marks S [.r, .r, .r, .r, .r, .r, .r, .r, .r, .r, .r, .u, .r, .r, .r, .r, .r, .r, .r, .r, .r, .r, .u, .u, .u, .p, .p, .p, .p, .p] rfl (by kernel_rfl) hS0 ?_
     clear hS0 hcv0 hx5 hq0 hq1 hq2 hS1
     repeat (refine wpReads_step (fun K hK => ?_); go_simp; refine hK _ ?_; clear hK K)
     refine wpReads_nil ?_; clear c5 c0 c1 c2 c3; refine wpTurns_step fun K hK => ?_
     refine step_call rfl 158 #[.tmp 68] #[5] rfl Tryz.func158 (by kernel_rfl) (by kernel_rfl) #[.int .u8 xk] (by simp [Act.eval]) (HPM.out _) ?_
     rintro e wn ⟨rfl, hBn⟩; have ds : wn.heap[wr.heap.size]? = some (.cells #[.int .u8 xk, .int .u32 an, .int .u32 zn] 251 (0, 0)) := (hBn.block _ (by show _ < wA.heap.size; omega)).trans HSB.out
     have db : wn.heap[xb]? = some (.cells (lkCells m0 m1 m2 m3 en (.slice pv2 j cv2) (.slice pa wh.length ca) ov (.slice pp ps.length cp) (.slice (some ⟨bS, oS, none⟩) spans.length cS)) 204 (0, 0)) := (hBn.block xb (by show _ < wA.heap.size; omega)).trans HBXA.out
     have hrn := (HRA.out.below (Below.refl _ _).drew).below hBn
     have hSof : Hid (∀ u : World, u.heap[wr.heap.size]? = wn.heap[wr.heap.size]? → u.heap[xb]? = wn.heap[xb]? → u.heap[w.heap.size]? = wn.heap[w.heap.size]? → S u) := fun u h1 h2 h3 =>
      (HSD.out u).2 ⟨Lib.cell_of_heap (h2.trans db) 5, Lib.cell_of_heap (h1.trans ds) 0, Lib.cell_of_heap (h1.trans ds) 1, Lib.cell_of_heap (h1.trans ds) 2, by
        have := run_bytes_of_row (P := Tryz.prog) (hrn.congr h3) 81 9 5 an zn (131072 - an) Tryz.underlying81 Tryz.underlying5 Tryz.underlying9 (by rw [HBL.out]; omega)
        rw [HBS.out] at this; exact this⟩
     have HOWN : Hid ((wn.alloc (.cells #[.int .u32 an, .int .u8 pk, .string bs] 146)).ownsRow wo.heap.size 146 3 (.slice pv2 j cv2) j (((spans.take j).map (segOf b)).flatMap segCells)) := (own_congr HOA.out fun g hg => hBn.block g (HOA.out.lt g hg).2).alloc _
     have hzn : wA.heap.size ≤ wn.heap.size := hBn.size; have HBN := Lib.hid hBn; have HDB := Lib.hid db; have HDS := Lib.hid ds; clear hBn db ds hrn; refine ⟨_, rfl, hK _ _ (hSof.out _ rfl rfl rfl) ?_⟩; clear hK K; simp only [Act.put, List.setIfInBounds_toArray, List.set_cons_zero, List.set_cons_succ]; refine wpTurns_step fun K hK => ?_
     go_simp
     refine hK _ _ (hSof.out _ rfl rfl rfl) ?_; clear hK K; refine wpTurns_step fun K hK => ?_
     go_simp
     have hA : ∀ q, q < wn.heap.size → (wn.alloc (.cells #[.int .u32 an, .int .u8 pk, .string bs] 146)).heap[q]? = wn.heap[q]? := fun q hq => Below.heap_alloc _ _ _ hq
     refine hK _ _ (hSof.out _ (hA _ (by omega)) (hA _ (by omega)) (hA _ (by omega))) ?_
     clear hK K; refine wpTurns_step fun K hK => ?_
     refine step_append_own_at rfl (.tmp 64) (.tmp 81) 63 rfl wo.heap.size 146 iS _ 3 24 Tryz.underlying63 HI.out.1 HI.out.2.1 HI.out.2.2.1 HI.out.2.2.2 rfl (by decide) (.slice pv2 j cv2) j (((spans.take j).map (segOf b)).flatMap segCells) (by simp [Act.eval]) HOWN.out ⟨wn.heap.size, 0, none⟩ 1 1 [.int .u32 an, .int .u8 pk, .string bs] (by simp [Act.eval]) rfl (three_news (by simp [go_sem]) (by simp [go_sem]) (by simp [go_sem])) three_one (by unfold maxLen; omega) (by omega) (by simp; omega) ?_
     intro v' w5 hown hgrow hv; obtain ⟨pw, cw, rfl⟩ := own_shape hown; have hb5 := grow_boxS hgrow HOWN.out HDB.out (by decide)
     have hs5 := grow_boxS hgrow HOWN.out HDS.out (by decide)
     have hr5 : w5.heap[w.heap.size]? = wn.heap[w.heap.size]? := (hgrow.block _ (by simp; omega) (fun e => by have := (HOWN.out.lt _ e.symm).1; omega)).trans (hA _ (by omega))
     refine hK _ _ (hSof.out _ (hs5.trans HDS.out.symm) (hb5.trans HDB.out.symm) hr5) ?_; clear hK K; simp only [Act.put, List.setIfInBounds_toArray, List.set_cons_zero, List.set_cons_succ]; refine wpTurns_nil ?_; have e3 : w5.cell? ⟨xb, 5, none⟩ = some (.slice pv2 j cv2) := Lib.cell_of_heap hb5 5; have e4 : w5.frozen? ⟨xb, 5, none⟩ = false := Lib.frozen_of_heap hb5 5; have HB5 := Lib.hid hb5; have HG5 := Lib.hid (And.intro hown hgrow); clear hown hgrow hv hb5 hs5 hr5 hA; simp only [pickP]; go_wp2; refine NoPanic.normal ?_; go_wp2; go_roundw
     case rel =>
      have hb2 := heap_setCell_same _ xb 5 _ _ (.slice pw (j + 1) cw) HB5.out; have hno : ¬ (Value.slice pw (j + 1) cw).ownBlock = some xb := own_ne_box HG5.out.1 HB5.out (by decide)
      have hw0 : wo.heap.size ≤ wn.heap.size := by omega
      refine ⟨j + 1, .slice pw (j + 1) cw, by go_num, by omega, by simpa [lkCells] using hb2, ?_, ?_⟩
      ·rw [hSN.out]; exact own_congr HG5.out.1 fun q hq => Below.heap_setCell _ _ _ _ (fun e => hno (hq.trans (congrArg some e)))
      ·exact ((((((HKY.out.trans (KB.of_below HBA.out)).drew).trans (KB.of_below HBN.out)).alloc _).grown HG5.out.2 (fun q hq => .inr ((HOWN.out.lt q hq).1))).setCell (.inl rfl) _)
     case measure => simp [intOf]; omega
    ·obtain rfl : j = spans.length := by omega
     have htk : spans.take spans.length = spans := List.take_length; rw [htk] at HOY; go_wp2; go_ret2; rw [HE.out]; refine ⟨HKO.out.trans HKY.out, ?_⟩; rw [if_pos rfl]; exact ⟨rfl, _, HBY.out, own_mono HOY.out (by omega)⟩
end
section
theorem relsGo_ge {n : Int} : ∀ {e : Int} {l : List GRel}, relsGo n e l = true → 0 ≤ e → ∀ x ∈ l, 0 ≤ x.off
 | _, [], _, _, x, hx => by cases hx
 | e, y :: r, h, he, x, hx => by
   simp only [relsGo, Bool.and_eq_true, decide_eq_true_eq] at h; obtain ⟨⟨⟨⟨⟨h1, h2⟩, h3⟩, h4⟩, h5⟩, h6⟩ := h; have hw := widthOf_bd y.kind; rcases List.mem_cons.1 hx with rfl | hx
   ·omega
   ·exact relsGo_ge h6 (by omega) x hx
theorem fillL_length : ∀ (rs : List GRel) (ys : List Int) (b : BL), (∀ x ∈ rs, 0 ≤ x.off ∧ x.off + widthOf x.kind ≤ b.length) → ∀ b', fillL b rs ys = some b' → b'.length = b.length
 | [], ys, b, _, b', h => by
   cases ys <;> (simp only [fillL, Option.some.injEq] at h; rw [h])
 | x :: r, [], b, _, b', h => by simp only [fillL, Option.some.injEq] at h; rw [h]
 | x :: r, a :: q, b, hx, b', h => by
   rw [fillL] at h; split at h
   ·cases h
   ·have h0 := hx x (by simp)
    have hw := widthOf_bd x.kind; have hl : (putB b (leB (widthOf x.kind).toNat (fillV x a)) x.off.toNat).length = b.length := putB_length (by rw [leB_length]; omega)
    rw [fillL_length r q _ (fun y hy => by rw [hl]; exact hx y (by simp [hy])) b' h, hl]
theorem fillR_size {s : GSym} {ys : List Int} (hb : s.bytes.size < 4294967296) (h : (fillR s ys).2 = 0) : ((fillR s ys).1.size : Int) = s.size ∧ symOkP s = true := by
 unfold fillR at h ⊢
 by_cases h1 : symOkP s = true
 ·rw [if_pos h1] at h ⊢
  by_cases h2 : ys.length = s.rels.length
  ·rw [if_pos h2] at h ⊢; cases hf : fillL (bytes0 s) s.rels ys with
   | none => rw [hf] at h; simp at h
   | some b =>
     obtain ⟨f1, f2, f3, f4, f5⟩ := symOk_fits h1 hb; have hl := bytes0_length f1
     have hge : ∀ x ∈ s.rels, 0 ≤ x.off := by
      have h1' := h1; simp only [symOkP, Bool.and_eq_true, placesOk] at h1'; exact relsGo_ge h1'.1.1.2.1 (by omega)
     have := fillL_length _ _ _ (fun x hx => ⟨hge x hx, by have := (f5 x hx).2.2; omega⟩) b hf
     refine ⟨?_, h1⟩; show ((bsOf b).size : Int) = s.size; rw [bsOf_size, this, hl]; omega
  ·rw [if_neg h2] at h; simp at h
 ·rw [if_neg h1] at h; simp at h
theorem refsGo_len {l : List GObj} {a : Int} : ∀ (rs : List GRel) (acc : List (Nat × Nat)), (refsGo l a acc rs).1.length ≤ acc.length + rs.length
 | [], acc => by simp [refsGo]
 | x :: r, acc => by
   rw [refsGo]; cases findR l a x.name.data.toList with
   | none => simp
   | some p =>
     have := refsGo_len (l := l) (a := a) r (acc ++ [p]); simp at this ⊢; omega
theorem relsAt_sym {l : List GObj} {p : GP} {s : GSym} (h : symAt l p = some s) : relsAt l p.1.toNat p.2.toNat = s.rels := by
 obtain ⟨a, b, ha, hb, rfl, rfl⟩ := symAt_some h; simp [relsAt, List.getElem?_eq_getElem ha, List.getElem?_eq_getElem hb]
theorem mem_sym {l : List GObj} {p : GP} {s : GSym} (h : symAt l p = some s) : ∃ o ∈ l, s ∈ o.syms := by
 obtain ⟨a, b, ha, hb, rfl, rfl⟩ := symAt_some h; exact ⟨_, List.getElem_mem ha, List.getElem_mem hb⟩
theorem may_symOk {l : List GObj} {p : GP} {s : GSym} (hm : mayAll l = true) (h : symAt l p = some s) : symOkP s = true := by
 obtain ⟨o, ho, hs⟩ := mem_sym h; simp only [mayAll, Bool.and_eq_true, List.all_eq_true] at hm; have h1 := hm.2 o ho; simp only [mayP, Bool.and_eq_true] at h1; exact symsGo_each _ _ h1.1.1 _ hs
theorem refs_len {l : List GObj} {p : GP} {s : GSym} (hm : mayAll l = true) (h : symAt l p = some s) : (refsV (beginR l) l p.1 p.2).1.length ≤ 1024 := by
 unfold refsV; split
 ·simp
 ·split
  ·have h1 := refsGo_len (l := l) (a := p.1) (relsAt l p.1.toNat p.2.toNat) []; rw [relsAt_sym h] at h1 ⊢; have h2 := may_symOk hm h; simp only [symOkP, Bool.and_eq_true, placesOk, decide_eq_true_eq] at h2; have := h2.1.1.2.2; simp at h1; omega
  ·simp
structure SpUp (e : Int) (spans : List GSpan) : Prop where
 each : ∀ x ∈ spans, x.at_ % 256 = 0 ∧ 256 ≤ x.at_ ∧ 1 ≤ x.size ∧ x.at_ + x.size ≤ e
 up : spans.Pairwise (fun x y => x.at_ + x.size ≤ y.at_)
theorem laySyms_to {l : List GObj} {kd : Int} (hz : ∀ p s, symAt l p = some s → 0 ≤ s.size) : ∀ (r : List GP) (k : Nat) (out : List GAddr) (e : Int) {out' e'}, laySyms l kd r k out e = some (out', e') → e ≤ e' ∧ (e ≤ 131072 → e' ≤ 131072)
 | [], k, out, e, out', e', h => by
   simp only [laySyms, Option.some.injEq, Prod.mk.injEq] at h; omega
 | p :: r, k, out, e, out', e', h => by
   rw [laySyms] at h; cases hs : symAt l p with
   | none => rw [hs] at h; exact laySyms_to hz r _ _ _ h
   | some s =>
     rw [hs] at h; simp only [] at h; split at h
     ·split at h
      ·cases h
      ·have h1 := laySyms_to hz r _ _ _ h; have h2 := upTo8 e; have h3 := hz p s hs; omega
     ·exact laySyms_to hz r _ _ _ h
theorem layKinds_up {l : List GObj} {ps : List GP} (hz : ∀ p s, symAt l p = some s → 0 ≤ s.size) : ∀ (rest : List Int) (out : List GAddr) (spans : List GSpan) (e : Int) {out' spans'}, layKinds l ps rest out spans e = some (out', spans') → SpUp e spans → 256 ≤ e → e ≤ 131072 →
 SpUp 131072 spans' ∧ spans'.length ≤ spans.length + rest.length ∧ (∀ x ∈ spans', x ∈ spans ∨ x.kind ∈ rest)
 | [], out, spans, e, out', spans', h, hs, _, he => by
   simp only [layKinds, Option.some.injEq, Prod.mk.injEq] at h; obtain ⟨-, rfl⟩ := h; exact ⟨⟨fun x hx => by have := hs.each x hx; omega, hs.up⟩, by simp, fun x hx => .inl hx⟩
 | kd :: rest, out, spans, e, out', spans', h, hs, he0, he => by
   rw [layKinds] at h; cases hl : laySyms l kd ps 0 out (upTo e 256) with
   | none => rw [hl] at h; cases h
   | some r =>
     obtain ⟨o1, e1⟩ := r; rw [hl] at h; simp only [] at h; have hu := upTo256 e he0; have h1 := laySyms_to hz _ _ _ _ hl; have h2 := h1.2 (hu.2.2 he)
     by_cases hpos : 0 < e1 - upTo e 256
     ·rw [if_pos hpos] at h
      obtain ⟨a1, a2, a3⟩ := layKinds_up hz rest o1 _ e1 h ⟨fun x hx => by
       rcases List.mem_append.1 hx with hx | hx
       ·have := hs.each x hx; omega
       ·obtain rfl : x = _ := by simpa using hx
        simp only []; omega, by
       rw [List.pairwise_append]; refine ⟨hs.up, List.pairwise_singleton _ _, fun x hx y hy => ?_⟩
       obtain rfl : y = _ := by simpa using hy
       have := hs.each x hx; simp only []; omega⟩ (by omega) h2
      refine ⟨a1, by simp at a2 ⊢; omega, fun x hx => ?_⟩
      rcases a3 x hx with h3 | h3
      ·rcases List.mem_append.1 h3 with h3 | h3
       ·exact .inl h3
       ·obtain rfl : x = _ := by simpa using h3
        exact .inr List.mem_cons_self
      ·exact .inr (List.mem_cons_of_mem _ h3)
     ·rw [if_neg hpos] at h; obtain ⟨a1, a2, a3⟩ := layKinds_up hz rest o1 _ e1 h ⟨fun x hx => by have := hs.each x hx; omega, hs.up⟩ (by omega) h2
      exact ⟨a1, by simp at a2 ⊢; omega, fun x hx => (a3 x hx).imp id (List.mem_cons_of_mem _)⟩
theorem spans_of {l : List GObj} {ps : List GP} {wh : List GAddr} {spans : List GSpan} (h : layOf l ps = (wh, spans, 0)) : SpUp 131072 spans ∧ spans.length ≤ 3 ∧ ∀ x ∈ spans, x.kind = 1 ∨ x.kind = 3 ∨ x.kind = 2 := by
 obtain ⟨hm, hk⟩ := layOf_zero h; simp only [layMay, Bool.and_eq_true] at hm; obtain ⟨h1, h2, h3⟩ := layKinds_up (fun p s hs => by have := (sym_facts hm.1 hs).1; omega) _ _ _ _ hk ⟨fun x hx => (by cases hx), List.Pairwise.nil⟩ (by omega) (by omega)
 exact ⟨h1, by simpa using h2, fun x hx => by rcases h3 x hx with h4 | h4; cases h4; simpa using h4⟩
theorem aAt_get {wh : List GAddr} {k : Nat} (h : k < wh.length) : aAt wh k = wh[k] := by unfold aAt; rw [List.getD_eq_getElem?_getD, List.getElem?_eq_getElem h]; rfl
theorem segsOk_of {l : List GObj} {ps : List GP} {wh : List GAddr} {spans : List GSpan} (h : layOf l ps = (wh, spans, 0)) (hb : ∀ o ∈ l, ∀ s ∈ o.syms, s.bytes.size < 4294967296) : SegsOk l wh ps spans := by
 have hl := laid_of h; obtain ⟨hm, -⟩ := layOf_zero h; have hma : mayAll l = true := by simp only [layMay, Bool.and_eq_true] at hm; exact hm.1
 obtain ⟨h1, h2, -⟩ := spans_of h; refine ⟨hl.len, fun k hk hk2 => ?_, fun x hx => by have := h1.each x hx; omega, h2⟩
 obtain ⟨s, q1, q2, q3, -, q5, -⟩ := may_each hm hk; obtain ⟨o, ho, hso⟩ := mem_sym q1; have hlo := hl.lo k hk; rw [aAt_get hk2, q3] at hlo; refine ⟨s, q1, hb o ho s hso, by have := refs_len hma q1; omega, by omega, by omega, fun hc => ?_⟩
 have := (fillR_size (hb o ho s hso) hc).1; unfold filledR; omega
end
section
open Go.RowKit Go.Maps
def ExtR (w : World) (b o : Nat) (x : Int × Int) : Prop := b < w.heap.size ∧ w.cell? ⟨b, o, none⟩ = some (.int .u32 x.1) ∧ w.cell? ⟨b, o + 1, none⟩ = some (.int .u32 x.2) ∧ (0 ≤ x.1 ∧ x.1 ≤ 4294967295) ∧ (0 ≤ x.2 ∧ x.2 ≤ 4294967295)
def PortR (w : World) (b o : Nat) (x : Int) : Prop := b < w.heap.size ∧ w.cell? ⟨b, o, none⟩ = some (.int .u16 x) ∧ 0 ≤ x ∧ x ≤ 65535
def SegR (w : World) (b o : Nat) (x : GSeg) : Prop :=
 b < w.heap.size ∧ w.cell? ⟨b, o, none⟩ = some (.int .u32 x.addr) ∧ w.cell? ⟨b, o + 1, none⟩ = some (.int .u8 x.perm) ∧ w.cell? ⟨b, o + 2, none⟩ = some (.string x.bytes) ∧ (0 ≤ x.addr ∧ x.addr ≤ 4294967295) ∧ (0 ≤ x.perm ∧ x.perm ≤ 255) ∧ x.bytes.size ≤ 140737488355328
theorem extR_keeps : Keeps ExtR := fun _ _ _ _ _ hb ⟨h0, h1, h2, r⟩ => ⟨size_keep hb h0, cell_keep hb h0 h1, cell_keep hb h0 h2, r⟩
theorem portR_keeps : Keeps PortR := fun _ _ _ _ _ hb ⟨h0, h1, r⟩ => ⟨size_keep hb h0, cell_keep hb h0 h1, r⟩
theorem segR_keeps : Keeps SegR := fun _ _ _ _ _ hb ⟨h0, h1, h2, h3, r⟩ => ⟨size_keep hb h0, cell_keep hb h0 h1, cell_keep hb h0 h2, cell_keep hb h0 h3, r⟩
def ManAt (w : World) (m : GMan) (ve vp : Value) : Prop := RowAt 2 ExtR w ve m.exts ∧ RowAt 1 PortR w vp m.ports ∧ 0 ≤ m.pages ∧ m.pages ≤ 4294967295
def LinkAt (w : World) (x : GLink) (ve vp vs va : Value) : Prop := ManAt w x.man ve vp ∧ RowAt 3 SegR w vs x.segs ∧ RowAt 3 AddrR w va x.addrs ∧ 0 ≤ x.entry ∧ x.entry ≤ 4294967295
theorem ManAt.keep {w w' : World} {m : GMan} {ve vp : Value} (hb : Below w.heap.size w w') (h : ManAt w m ve vp) : ManAt w' m ve vp := ⟨h.1.keep extR_keeps hb, h.2.1.keep portR_keeps hb, h.2.2⟩
theorem LinkAt.keep {w w' : World} {x : GLink} {ve vp vs va : Value} (hb : Below w.heap.size w w') (h : LinkAt w x ve vp vs va) : LinkAt w' x ve vp vs va := ⟨h.1.keep hb, h.2.1.keep segR_keeps hb, h.2.2.1.keep addrR_keeps hb, h.2.2.2⟩
def linkV (x : GLink) (ve vp vs va : Value) : Value := .agg #[.int .u32 x.man.pages, ve, vp, .bool x.man.cons, .int .u32 x.entry, vs, va]
def LPost (w : World) (r : GLink × ByteArray × Int) (e : Ending) (w' : World) : Prop :=
 ∃ ve vp vs va, e = .returned (.tuple #[linkV r.1 ve vp vs va, .string r.2.1, .int .i64 r.2.2]) ∧ LinkAt w' r.1 ve vp vs va ∧ Below w.heap.size w w'
theorem link0_at (w : World) : LinkAt w link0 (.slice none 0 0) (.slice none 0 0) (.slice none 0 0) (.slice none 0 0) :=
 ⟨⟨rowAt_nil, rowAt_nil, by simp [link0, man0], by simp [link0, man0]⟩, rowAt_nil, rowAt_nil, by simp [link0], by simp [link0]⟩
theorem extsFrom_ok : ∀ (k : Nat) (l : List Int), (∀ x ∈ l, 0 ≤ x ∧ x ≤ 1024) → ∀ y ∈ extsFrom k l, (k : Int) ≤ y.1 ∧ y.1 < k + l.length ∧ 1 ≤ y.2 ∧ y.2 ≤ 1024
 | k, [], _, y, hy => by cases hy
 | k, n :: r, h, y, hy => by
   have h0 := h n (by simp)
   rw [extsFrom] at hy; have ih := extsFrom_ok (k + 1) r (fun x hx => h x (by simp [hx]))
   split at hy
   ·rcases List.mem_cons.1 hy with rfl | hy
    ·simp; omega
    ·have := ih y hy; simp at this ⊢; omega
   ·have := ih y hy; simp at this ⊢; omega
theorem extsFrom_len : ∀ (k : Nat) (l : List Int), (extsFrom k l).length ≤ l.length
 | k, [] => by simp [extsFrom]
 | k, n :: r => by
   have := extsFrom_len (k + 1) r; rw [extsFrom]; split <;> simp <;> omega
structure ManOk (m : GMan) : Prop where
 pg : 0 ≤ m.pages ∧ m.pages ≤ 1024
 ex : ∀ y ∈ m.exts, 0 ≤ y.1 ∧ y.1 < 16 ∧ 1 ≤ y.2 ∧ y.2 ≤ 1024
 el : m.exts.length ≤ 16
 po : ∀ x ∈ m.ports, 1 ≤ x ∧ x ≤ 65535
 pl : m.ports.length ≤ 16
theorem man0_ok : ManOk man0 := ⟨by simp [man0], fun y hy => by simp [man0] at hy, by simp [man0], fun y hy => by simp [man0] at hy, by simp [man0]⟩
theorem once_mem (l : List Int) : ∀ x ∈ onceI l, x ∈ l := by
 intro x hx; unfold onceI Lib.compact Lib.compactUpTo at hx; obtain ⟨j, hj, rfl⟩ := List.mem_map.1 hx; have hj' : j < l.length := List.mem_range.1 (List.mem_filter.1 hj).1; have e : l.toArray[j]! = l[j] := by simp [hj']
 rw [e]; exact List.getElem_mem hj'
theorem gatEnd_ok {g : Gat} (h : GatOk g) : ManOk (gatEnd g).1 := by
 unfold gatEnd; split
 ·exact man0_ok
 ·rename_i hn; refine ⟨⟨h.p0, h.p1⟩, fun y hy => ?_, ?_, fun x hx => ?_, by simpa [gatMan] using hn⟩
  ·have := extsFrom_ok 0 g.blocks h.b y hy; rw [h.n] at this; simp at this; omega
  ·have := extsFrom_len 0 g.blocks; rw [h.n] at this; exact this
  ·have h1 := once_mem _ x hx; rw [sortI, List.mem_mergeSort] at h1; exact h.q x h1
theorem demandR_ok {l : List GNote} (h0 : ∀ x ∈ l, 0 ≤ x.n) : ManOk (demandR l).1 := by
 unfold demandR; split
 ·rename_i h; exact gatEnd_ok (gatL_ok h h0).1
 ·exact man0_ok
theorem man_at {base : Nat} {w : World} {m : GMan} {ve vp : Value} (hm : ManOk m) (h1 : w.ownsRow base 143 2 ve m.exts.length (extCells m.exts)) (h2 : URow .u16 144 base w vp m.ports) : ManAt w m ve vp := by
 refine ⟨?_, ?_, hm.pg.1, by have := hm.pg; omega⟩
 ·exact owned_row (k := 2) (f := fun x : Int × Int => [Value.int .u32 x.1, Value.int .u32 x.2]) (fun _ => rfl) h1 (by have := hm.el; omega) fun g o' i hi hg hcell =>
   ⟨hg, by simpa using hcell 0 (.int .u32 m.exts[i].1) (by omega) rfl, hcell 1 (.int .u32 m.exts[i].2) (by omega) rfl, by have := hm.ex _ (List.getElem_mem hi); omega, by have := hm.ex _ (List.getElem_mem hi); omega⟩
 ·have h' : w.ownsRow base 144 1 vp m.ports.length (m.ports.flatMap fun x => [.int .u16 x]) := by rw [← cellsU_flat]; exact h2
  exact owned_row (k := 1) (f := fun x => [Value.int .u16 x]) (fun _ => rfl) h' (by have := hm.pl; omega) fun g o' i hi hg hcell => ⟨hg, by simpa using hcell 0 (.int .u16 m.ports[i]) (by omega) rfl, by have := hm.po _ (List.getElem_mem hi); omega, by have := hm.po _ (List.getElem_mem hi); omega⟩
theorem permK_bd (k : Int) : 0 ≤ permK k ∧ permK k ≤ 7 := by unfold permK; repeat' split
                                                             all_goals omega
theorem seg_row {base : Nat} {w : World} {vs : Value} {b : BL} {spans : List GSpan} (h : w.ownsRow base 146 3 vs spans.length ((spans.map (segOf b)).flatMap segCells)) (hs : SpUp 131072 spans) (hl : spans.length ≤ 3) : RowAt 3 SegR w vs (spans.map (segOf b)) := by
 have h' : w.ownsRow base 146 3 vs (spans.map (segOf b)).length ((spans.map (segOf b)).flatMap segCells) := by rw [List.length_map]; exact h
 refine owned_row (k := 3) (f := segCells) (fun _ => rfl) h' (by simp; omega) fun g o' i hi hg hcell => ?_
 have hi' : i < spans.length := by simpa using hi
 have he := hs.each _ (List.getElem_mem hi'); have e : (spans.map (segOf b))[i] = segOf b spans[i] := by simp
 refine ⟨hg, by simpa using hcell 0 _ (by omega) rfl, hcell 1 _ (by omega) rfl, hcell 2 _ (by omega) rfl, ?_, ?_, ?_⟩
 ·rw [e]; show 0 ≤ spans[i].at_ ∧ spans[i].at_ ≤ 4294967295; omega
 ·rw [e]; have := permK_bd spans[i].kind; show 0 ≤ permK spans[i].kind ∧ permK spans[i].kind ≤ 255; omega
 ·rw [e]; show (bsOf ((b.drop spans[i].at_.toNat).take spans[i].size.toNat)).size ≤ _; rw [bsOf_size, List.length_take]; omega
end
section
open Go.RowKit Go.Maps
def toldR (l : List GObj) : List PP → ByteArray × Int
 | [] => (emptyB, 0)
 | x :: r => if (refsV (beginR l) l x.1 x.2).2.2 = 0 then toldR l r else ((refsV (beginR l) l x.1 x.2).2.1, (refsV (beginR l) l x.1 x.2).2.2)
theorem toldR_step {l : List GObj} {ks : List PP} {k : Nat} (h : k < ks.length) : toldR l (ks.drop k) = if (refsV (beginR l) l ks[k].1 ks[k].2).2.2 = 0 then toldR l (ks.drop (k + 1)) else ((refsV (beginR l) l ks[k].1 ks[k].2).2.1, (refsV (beginR l) l ks[k].1 ks[k].2).2.2) := by
 rw [List.drop_eq_getElem_cons h, toldR]
theorem toldR_all {l : List GObj} : ∀ {ks : List PP} {n : ByteArray}, toldR l ks = (n, 0) → ∀ x ∈ ks, refsC l x = 0
 | [], _, _, x, hx => by cases hx
 | y :: r, n, h, x, hx => by
   rw [toldR] at h; split at h
   ·rename_i h0; rcases List.mem_cons.1 hx with rfl | hx
    ·exact h0
    ·exact toldR_all h x hx
   ·rename_i h0; simp only [Prod.mk.injEq] at h; exact absurd h.2 h0
def Told18Post (l : List GObj) (pv : Value) (ks : List PP) (w : World) (e : Ending) (w' : World) : Prop :=
 (if (toldR l ks).2 = 0 then e = .returned (.tuple #[pv, .string ⟨#[]⟩, .int .i64 0]) else e = .returned (.tuple #[.slice none 0 0, .string (toldR l ks).1, .int .i64 (toldR l ks).2])) ∧ Below w.heap.size w w'
def KeptErr (l : List GObj) (nm n : ByteArray) (c : Int) : Prop :=
 ((entryR l nm).2.2 ≠ 0 ∧ n = (entryR l nm).2.1 ∧ c = (entryR l nm).2.2) ∨ ((entryR l nm).2.2 = 0 ∧ ∃ p K, findR l (-1) nm.data.toList = some p ∧ KeptOf l p K ∧ toldR l K = (n, c))
def Kept18Post (l : List GObj) (nm : ByteArray) (w : World) (e : Ending) (w' : World) : Prop :=
 ((∃ p K vo, KeptYes l nm p K ∧ RowAt 2 PlaceR w' vo K ∧ e = .returned (.tuple #[vo, .string ⟨#[]⟩, .int .i64 0])) ∨ (∃ n c, c ≠ 0 ∧ e = .returned (.tuple #[.slice none 0 0, .string n, .int .i64 c]) ∧ KeptErr l nm n c)) ∧ Below w.heap.size w w'
set_option maxHeartbeats 2000000 in
theorem told18_any (v pv : Value) (l : List GObj) (ks : List PP) (w : World) (h : ObjsAt w v l) (hk : RowAt 2 PlaceR w pv ks) :
 Calls Tryz.prog 113 #[v, pv] w (Told18Post l pv ks w) := by
 have HO := Lib.hid h; obtain ⟨p, cap, bb, o, rfl, -⟩ := h; obtain ⟨pk, ck, bk, ok, rfl, hck, hmk, hpk, hrk⟩ := hk; have HPK := Lib.hid hpk; clear hpk; have HRK := Lib.hid hrk; clear hrk; go_enter Tryz.func113, Tryz.ntmps113; go_wp2
 go_loopw [14] (fun v14 wr => ∃ k : Nat, k ≤ ks.length ∧ v14 = .int .i64 k ∧ toldR l (ks.drop k) = toldR l ks ∧ Below w.heap.size w wr) (fun v14 _ => ks.length - (intOf v14).toNat)
 case atStart => exact ⟨0, Nat.zero_le _, rfl, rfl, Below.refl _ _⟩
 case round =>
  obtain ⟨k, hk, rfl, hall, hbel⟩ := hrel; have HA := Lib.hid hall; clear hall; have HB := Lib.hid hbel; clear hbel
  by_cases hlt : k < ks.length
  ·obtain rfl := HPK.out (by omega)
   obtain ⟨-, y0, y1⟩ := placeR_keeps _ _ _ _ _ HB.out (HRK.out k hlt); have HRF := Lib.hid (fun (W : World) (hW : Below wr.heap.size wr W) => refs_any (.slice p l.length cap) l ks[k].1 ks[k].2 W (ObjsAt.keep (HB.out.trans (hW.mono HB.out.size)) HO.out))
   have HC : Hid (toldR l (ks.drop k) = if (refsV (beginR l) l ks[k].1 ks[k].2).2.2 = 0 then toldR l (ks.drop (k + 1)) else ((refsV (beginR l) l ks[k].1 ks[k].2).2.1, (refsV (beginR l) l ks[k].1 ks[k].2).2.2)) := toldR_step hlt
   generalize (refsV (beginR l) l ks[k].1 ks[k].2).2.2 = c at HRF HC; generalize (refsV (beginR l) l ks[k].1 ks[k].2).2.1 = bn at HRF HC; generalize (refsV (beginR l) l ks[k].1 ks[k].2).1 = qs at HRF; generalize ks[k] = y at *; obtain ⟨y1', y2'⟩ := y; simp only [] at y0 y1 HRF; have d2 : (0 : Int) ≤ (k : Int) := by omega
   go_wp2_with fail; refine (HRF.out _ ?_).mono ?_
   ·exact alloc_old _ _
   rintro e w1 ⟨vo, rfl, -, hB1⟩; have HB1 : Hid (Below w.heap.size w w1) := HB.out.trans (((alloc_old wr _).trans (hB1.mono (by simp))).mono HB.out.size)
   clear hB1
   by_cases hc0 : c = 0
   ·subst hc0; go_wp2; go_roundw
    case rel => exact ⟨k + 1, by omega, by go_num, by rw [← HA.out, HC.out]; simp, HB1.out⟩
    case measure => simp [intOf]; omega
   ·have hcb : (c != 0) = true := by simpa using hc0
    have HC0 := Lib.hid hc0; clear hc0; go_wp2; go_ret3; have HE : Hid (toldR l ks = (bn, c)) := by rw [Hid, ← HA.out, HC.out, if_neg HC0.out]
    refine ⟨?_, HB1.out⟩; rw [HE.out, if_neg HC0.out]; rfl
  ·go_wp2; go_ret3; have HE : Hid (toldR l ks = (emptyB, 0)) := by rw [Hid, ← HA.out, List.drop_of_length_le (by omega)]; rfl
   refine ⟨?_, HB.out⟩; rw [HE.out, if_pos rfl]; rfl
set_option maxHeartbeats 4000000 in
theorem kept18_any (hsort : SortOk) (v : Value) (l : List GObj) (nm : ByteArray) (w : World) (h : ObjsAt w v l) (hn : nm.size ≤ 9223372036854775807) :
 Calls Tryz.prog 69 #[.string nm, v] w (Kept18Post l nm w) := by
 have HSORT := Lib.hid hsort; clear hsort; have HO := Lib.hid h; have HE := Lib.hid (entry_any v l nm w h hn); obtain ⟨p, cap, bb, o, rfl, -⟩ := h; unfold EntryPost placeV at HE; obtain ⟨⟨pa, pb⟩, bn, c, her⟩ : ∃ (pq : PP) (bn : ByteArray) (c : Int), entryR l nm = (pq, bn, c) := ⟨_, _, _, rfl⟩; rw [her] at HE; simp only [] at HE; have HER := Lib.hid her; clear her
 by_cases hc0 : c = 0
 ·subst hc0
  obtain ⟨hb0, hf⟩ : (beginR l).2 = 0 ∧ findR l (-1) nm.data.toList = some (pa, pb) := by
   have h1 := HER.out; unfold entryR at h1
   by_cases hb : (beginR l).2 ≠ 0
   ·rw [if_pos hb] at h1; simp only [Prod.mk.injEq] at h1; exact absurd h1.2.2 hb
   ·rw [if_neg hb] at h1; refine ⟨by simpa using hb, ?_⟩
    cases hf : findR l (-1) nm.data.toList with
    | none => rw [hf] at h1; simp at h1
    | some q => rw [hf] at h1; simp only [Prod.mk.injEq] at h1; rw [h1.1]
  have HV := Lib.hid (findR_valid hf); have HB0 := Lib.hid hb0; clear hb0; have HF := Lib.hid hf; clear hf; go_enter Tryz.func69, Tryz.ntmps69; go_wp2_with fail; refine HE.out.mono ?_; rintro e w1 ⟨rfl, hB⟩; have HB1 := Lib.hid hB; clear hB; clear HE; go_wp2_with fail; refine (rbegin_any _ _ _ _).mono ?_; rintro e w3 ⟨⟨sb, mb, rfl, hs3⟩, hB3⟩; obtain ⟨q0, q1, -, -, hz, -⟩ := box2 w1 _ _ _ hB3; have HGO := Lib.hid (goes_any HSORT.out sb mb (.slice p l.length cap) l (pa, pb) _ w3 hs3 hB3 (ObjsAt.keep (HB1.out.alloc HB1.out.size _) HO.out) HB0.out HV.out); unfold placeV at HGO; simp only [] at HGO; have HB2 : Hid (Below w.heap.size w (w1.alloc (.cells #[.int .i64 pa, .int .i64 pb] 185))) := HB1.out.alloc HB1.out.size _; clear hs3 hB3; generalize w1.alloc (.cells #[.int .i64 pa, .int .i64 pb] 185) = w2 at HGO HB2; go_wp2_with fail; refine HGO.out.mono ?_; rintro e w4 ⟨rfl, v4, L, F, hs4, hg4, hb4⟩; clear q0 q1 HGO; obtain ⟨pv, cv, rfl⟩ := own_shape hs4.row; have c0 : w4.cell? ⟨sb, 0, none⟩ = some (.slice pv L.length cv) := Lib.cell_of_heap hs4.box 0; have hL := hg4.len HV.out HB0.out; have HSC := Lib.hid (HSORT.out _ _ L w4 hs4.row (by omega))
  have HS4 := Lib.hid hs4; clear hs4; have HG4 := Lib.hid hg4; clear hg4; have HB4 : Hid (Below w.heap.size w w4) := HB2.out.trans (hb4.mono HB2.out.size); have hb24 : w.heap.size ≤ w2.heap.size := HB2.out.size; clear hb4; go_wp2_with fail; refine HSC.out.mono ?_; rintro e w5 ⟨rfl, K, hperm, hsort, hrow, hkb⟩; have c1 : w5.cell? ⟨sb, 0, none⟩ = some (.slice pv L.length cv) := hkb.cell HS4.out.lt (fun e => HS4.out.nev e) c0
  clear c0; have hlen := hperm.length_eq; have HK : Hid (KeptOf l (pa, pb) K) := Lib.hid (keptOf_sorted HG4.out hperm hsort); have HR := Lib.hid (PRow.row hrow (by omega))
  have HB5 : Hid (Below w.heap.size w w5) := HB4.out.trans (hkb.below HB4.out.size (fun k hk e => by have := (HS4.out.row.lt k e).1; omega))
  clear hperm hsort hrow hkb HSC; have HT := Lib.hid (told18_any (.slice p l.length cap) (.slice pv L.length cv) l K w5 (ObjsAt.keep HB5.out HO.out) HR.out); go_wp2_with fail; refine HT.out.mono ?_; rintro e w6 ⟨hcase, hB6⟩; have HB6 : Hid (Below w.heap.size w w6) := HB5.out.trans (hB6.mono HB5.out.size); have HR6 := Lib.hid (HR.out.keep placeR_keeps hB6); clear hB6; generalize htr : toldR l K = tr at hcase; obtain ⟨n, c⟩ := tr; simp only [] at hcase; have HTR := Lib.hid htr; clear htr
  by_cases hc : c = 0
  ·subst hc; rw [if_pos rfl] at hcase; subst hcase; have HALL := Lib.hid (toldR_all HTR.out); go_wp2; go_ret3; exact ⟨.inl ⟨_, K, _, ⟨HB0.out, HF.out, HK.out, HALL.out⟩, HR6.out, rfl⟩, HB6.out⟩
  ·rw [if_neg hc] at hcase; subst hcase; have hcn : (c != 0) = true := by simpa using hc
   have HC := Lib.hid hc; clear hc; go_wp2; go_ret3; exact ⟨.inr ⟨n, c, HC.out, rfl, .inr ⟨by rw [HER.out], _, K, HF.out, HK.out, HTR.out⟩⟩, HB6.out⟩
 ·have hcb : (c != 0) = true := by simpa using hc0
  have HC0 := Lib.hid hc0; clear hc0; go_enter Tryz.func69, Tryz.ntmps69; go_wp2_with fail; refine HE.out.mono ?_; rintro e w1 ⟨rfl, hB⟩; have HB1 := Lib.hid hB; clear hB; go_wp2; go_ret3; exact ⟨.inr ⟨bn, c, HC0.out, rfl, .inl ⟨by rw [HER.out]; exact HC0.out, by rw [HER.out], by rw [HER.out]⟩⟩, HB1.out.alloc HB1.out.size _⟩
end
end Go.Proofs.YtboegjdkedjhcaaGreatDoor
