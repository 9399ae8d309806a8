/- The walk of link's segs. -/
import Derived.Test.YtboegjdkedjhcaaGreatDoorBd35
import Derived.Test.YtboegjdkedjhcaaGreatDoorBd18
import Derived.Test.YtboegjdkedjhcaaGreatDoorBd26
import Derived.Test.YtboegjdkedjhcaaGreatDoorBd06
import Derived.Test.YtboegjdkedjhcaaGreatDoorBd24
import Derived.Deep.OwnRows
import Derived.Test.YtboegjdkedjhcaaGreatDoorBd13
namespace Go.Proofs.YtboegjdkedjhcaaGreatDoor
open Go.RowKit Go.Maps Go.WideMaps
def segCells (x : GSeg) : List Value := [.int .u32 x.addr, .int .u8 x.perm, .string x.bytes]
def lkCells (m0 m1 m2 m3 en sg av ov pv sv : Value) : Array Value := #[m0, m1, m2, m3, en, sg, av, ov, pv, sv]
def SegsPost (xb : Nat) (c : Value → Array Value) (w : World) (spans : List GSpan) (R : BL × ByteArray × Int) (e : Ending) (w' : World) : Prop :=
  KB (fun q => q = xb) w w' ∧ if R.2.2 = 0 then e = .returned (.tuple #[.string ⟨#[]⟩, .int .i64 0]) ∧ ∃ vs, w'.heap[xb]? = some (.cells (c vs) 204 (0, 0)) ∧ w'.ownsRow w.heap.size 146 3 vs spans.length ((spans.map (segOf R.1)).flatMap segCells)
    else e = .returned (.tuple #[.string R.2.1, .int .i64 R.2.2])
theorem make18 (w : World) : (Instr.makeSlice 81 (.int .i64 131072) (.int .i64 131072)).run Tryz.prog w = .ok (.slice (some ⟨w.heap.size, 0, none⟩) 131072 131072) (w.alloc (.cells (madeCells #[.int .u8 0] 131072) 5)) :=
  run_make_row' 81 5 (.int .u8 0) 1 Tryz.underlying81 info_byte rfl .i64 .i64 131072 (by omega) (by omega) w
theorem made18 (w : World) : ByteRow (w.alloc (.cells (madeCells #[.int .u8 0] 131072) 5)) w.heap.size zeros18 :=
  ⟨5, by unfold zeros18; rw [← madeBytes]; exact new_block w _⟩
theorem three_news {w : World} {g : Nat} {a b c : Value} (h0 : w.cell? ⟨g, 0, none⟩ = some a) (h1 : w.cell? ⟨g, 1, none⟩ = some b) (h2 : w.cell? ⟨g, 2, none⟩ = some c) : ∀ j u, [a, b, c][j]? = some u → w.cell? ((⟨g, 0, none⟩ : Addr).add j) = some u := by
  intro j u hu
  match j, hu with
  | 0, hu => simp at hu; subst hu; simpa [Addr.add] using h0
  | 1, hu => simp at hu; subst hu; simpa [Addr.add] using h1
  | 2, hu => simp at hu; subst hu; simpa [Addr.add] using h2
theorem three_one {a b : Int} {s : ByteArray} : ∀ u ∈ [Value.int .u32 a, Value.int .u8 b, Value.string s], u.oneCell' = true := by
  intro u hu
  simp at hu
  rcases hu with rfl | rfl | rfl <;> rfl
theorem grow_boxS {wn w5 : World} {B ob k n : Nat} {e t : TypeId} {v : Value} {xs : List Value} {cs : Array Value} {o : Obj} (hg : (wn.alloc o).grownBy w5 v.ownBlock) (hown : (wn.alloc o).ownsRow B e k v n xs) (hb : wn.heap[ob]? = some (.cells cs t (0, 0))) (hne : e ≠ t) :
    w5.heap[ob]? = some (.cells cs t (0, 0)) := by
  have hlt := (Array.getElem?_eq_some_iff.1 hb).1
  have h1 : (wn.alloc o).heap[ob]? = some (.cells cs t (0, 0)) := (Below.heap_alloc _ _ _ hlt).trans hb
  exact (hg.block ob (by simp; omega) fun e' => own_ne_box hown h1 hne e'.symm).trans h1
theorem info_seg : (Tryz.prog.info? 146).map (fun i => (i.zero, i.size, i.bytes)) = some (some (.agg #[.int .u32 0, .int .u8 0, .string ⟨#[]⟩]), 3, 24) := by kernel_rfl
set_option maxRecDepth 100000 in
set_option maxHeartbeats 4000000 in
theorem segs_any (xb : Nat) (m0 m1 m2 m3 en av ov pv sv : Value) (l : List GObj) (wh : List GAddr) (ps : List GP) (spans : List GSpan) (w : World) (hbx : w.heap[xb]? = some (.cells (lkCells m0 m1 m2 m3 en (.slice none 0 0) av ov pv sv) 204 (0, 0)))
    (h : ObjsAt w ov l) (ha : RowAt 3 AddrR w av wh) (hp : RowAt 2 PlcR w pv ps) (hsp : RowAt 3 SpanR w sv spans) (hne : ∀ w', KB (fun q => q = xb) w w' → ObjsAt w' ov l ∧ RowAt 3 AddrR w' av wh ∧ RowAt 2 PlcR w' pv ps ∧ RowAt 3 SpanR w' sv spans) (ok : SegsOk l wh ps spans) :
    Calls Tryz.prog 118 #[.pointer (some ⟨xb, 0, none⟩)] w (SegsPost xb (fun v => lkCells m0 m1 m2 m3 en v av ov pv sv) w spans (fillGo l wh ps wh zeros18)) := by
  have hmk := make18
  have hmr := made18 w
  generalize hZ : Obj.cells (madeCells #[.int .u8 0] 131072) 5 = Z at hmk hmr
  clear hZ
  have HR0 := Lib.hid hmr; clear hmr
  have hxb : xb < w.heap.size := (Array.getElem?_eq_some_iff.1 hbx).1
  have HBX := Lib.hid hbx; clear hbx
  have HNE := Lib.hid hne; clear hne
  have HOK := Lib.hid ok; clear ok
  obtain ⟨pv', cv', hv⟩ : ∃ (pv : Option Addr) (cv : Nat), ov = .slice pv l.length cv := by obtain ⟨p, cap, b, o, rfl, _⟩ := h; exact ⟨p, cap, rfl⟩
  obtain ⟨pp, cp, bp, op, rfl, hcp, hmp, hpp, hcc⟩ := hp
  obtain ⟨pa, ca, ba, oa, rfl, hca, hma, hpa, hac⟩ := ha
  obtain ⟨pS, cS, bS, oS, rfl, hcS, hmS, hpS, hsc⟩ := hsp
  have HPP := Lib.hid hpp; clear hpp hcc
  have HPA := Lib.hid hpa; clear hpa hac
  have HPS := Lib.hid hpS; clear hpS hsc
  have hlen := HOK.out.len
  have HB0 : Hid (Below w.heap.size w (w.alloc Z)) := alloc_old w Z
  have z1 : (w.alloc Z).heap.size = w.heap.size + 1 := by simp
  have HBX1 := Lib.hid ((HB0.out.block xb hxb).trans HBX.out)
  generalize hW1 : w.alloc Z = w1 at HR0 HB0 z1 HBX1
  have k8 : w1.cell? ⟨xb, 8, none⟩ = some (.slice pp ps.length cp) := Lib.cell_of_heap HBX1.out 8
  go_enter Tryz.func118, Tryz.ntmps118
  go_wp2
  try rw [hW1]
  clear hW1 hmk k8
  go_loopw [17] (fun v17 wr => ∃ (k : Nat) (b : BL), v17 = .int .i64 k ∧ k ≤ ps.length ∧ b.length = 131072 ∧ ByteRow wr w.heap.size b ∧ fillGo l wh (ps.drop k) (wh.drop k) b = fillGo l wh ps wh zeros18 ∧ Below w.heap.size w wr) (fun v17 _ => ps.length - (intOf v17).toNat)
  case atStart => exact ⟨0, zeros18, by go_num, Nat.zero_le _, List.length_replicate, HR0.out, rfl, HB0.out⟩
  case round =>
    obtain ⟨k, b, rfl, hk, hbl, hrow, hgo, hB⟩ := hrel
    have HBL := Lib.hid hbl; clear hbl
    have HRW := Lib.hid hrow; clear hrow
    have HGO := Lib.hid hgo; clear hgo
    have HB := Lib.hid hB; clear hB
    have hbr := (HB.out.block xb hxb).trans HBX.out
    have d6 : wr.cell? ⟨xb, 6, none⟩ = some (.slice pa wh.length ca) := Lib.cell_of_heap hbr 6
    have d7 : wr.cell? ⟨xb, 7, none⟩ = some ov := Lib.cell_of_heap hbr 7
    have d9 : wr.cell? ⟨xb, 9, none⟩ = some (.slice pS spans.length cS) := Lib.cell_of_heap hbr 9
    have HBR := Lib.hid hbr; clear hbr
    have hxr : xb < wr.heap.size := size_keep HB.out hxb
    by_cases hlt : k < ps.length
    · obtain ⟨hO, hA, hP, -⟩ := HNE.out wr (KB.of_below HB.out)
      have hkw : k < wh.length := by omega
      obtain ⟨s, hs, hsb, hrl, ha0, ha1, hfit⟩ := HOK.out.sym k hlt hkw
      obtain rfl := HPP.out (by omega)
      obtain rfl := HPA.out (by omega)
      have HO := Lib.hid hO; have HA := Lib.hid hA
      obtain ⟨p', cap', b', o', he, -, -, hp', hc'⟩ := hP
      cases he
      cases hp' (by omega)
      obtain ⟨g0, g1, g2⟩ := hc' k hlt
      obtain ⟨p', cap', b', o', he, -, -, hp', hc2⟩ := hA
      cases he
      cases hp' (by omega)
      obtain ⟨e0, -, -, e3, -⟩ := hc2 k hkw
      have HG : Hid (fillGo l wh (ps.drop k) (wh.drop k) b = if (filledR l wh ps[k] s).2 = 0 then fillGo l wh (ps.drop (k + 1)) (wh.drop (k + 1)) (putB b (filledR l wh ps[k] s).1.data.toList wh[k].at_.toNat) else (b, s.name, (filledR l wh ps[k] s).2)) := fillGo_step hlt hkw rfl rfl hs
      have HF : Hid (∀ W, Below wr.heap.size wr W → Calls Tryz.prog 157 #[.pointer (some ⟨xb, 0, none⟩), .agg #[.int .i64 ps[k].1, .int .i64 ps[k].2]] W fun e w' => e = .returned (.tuple #[.string (filledR l wh ps[k] s).1, .int .i64 (filledR l wh ps[k] s).2]) ∧ Below W.heap.size W w') := fun W hW =>
        linkFill_any xb ov _ l wh ps[k] s W (HO.out.keep hW) (HA.out.keep addrR_keeps hW) (size_keep hW hxr) (cell_keep hW hxr d6) (cell_keep hW hxr d7) hs hsb hrl
      have HSY : Hid (∀ W, Below wr.heap.size wr W → Calls Tryz.prog 117 #[.pointer (some ⟨xb, 0, none⟩), .agg #[.int .i64 ps[k].1, .int .i64 ps[k].2]] W (SymLPost W s)) := fun W hW =>
        linkSym_any xb ov l ps[k] s W (HO.out.keep hW) (size_keep hW hxr) (cell_keep hW hxr d7) hs
      generalize filledR l wh ps[k] s = fr at HG HF hfit
      generalize ps[k] = p at g1 g2 HF HSY
      obtain ⟨p1, p2⟩ := p
      obtain ⟨fb, fc⟩ := fr
      simp only [] at g1 g2 HF HSY HG hfit
      generalize wh[k] = a at e3 HG ha0 ha1 hfit
      obtain ⟨a1, a2, a3⟩ := a
      simp only [] at e3 HG ha0 ha1 hfit
      obtain ⟨an, rfl⟩ := Int.eq_ofNat_of_zero_le ha0
      clear hs hsb hrl hc' hc2 ha0
      go_wp2_with fail
      refine (HF.out _ (alloc_old wr _)).mono ?_
      rintro e w2 ⟨rfl, hB2⟩
      have n0 := cell_keep hB2 (by simp) (show (wr.alloc (.cells #[.int .i64 p1, .int .i64 p2] 185)).cell? ⟨wr.heap.size, 0, none⟩ = some (.int .i64 p1) by simp [go_sem])
      have n1 := cell_keep hB2 (by simp) (show (wr.alloc (.cells #[.int .i64 p1, .int .i64 p2] 185)).cell? ⟨wr.heap.size, 1, none⟩ = some (.int .i64 p2) by simp [go_sem])
      have hB2w : Below wr.heap.size wr w2 := (alloc_old wr _).trans (hB2.mono (by simp))
      have HB2 := Lib.hid hB2w
      have x6 := cell_keep hB2w hxr d6
      have xe := cell_keep hB2w e0 e3
      have hz2 : wr.heap.size < w2.heap.size := by have := hB2.size; simp at this; omega
      have HR2 := Lib.hid (HRW.out.below hB2w)
      have hx2 : xb < w2.heap.size := size_keep hB2w hxr
      have hea : ba < w2.heap.size := size_keep hB2w e0
      clear hB2 hB2w g1 g2 g0 d6 e3 e0
      by_cases hfc : fc = 0
      · subst hfc
        have han : an < 131072 := by omega
        have hfit2 : an + fb.size ≤ 131072 := by have := hfit rfl; omega
        have HG2 : Hid (fillGo l wh (ps.drop k) (wh.drop k) b = fillGo l wh (ps.drop (k + 1)) (wh.drop (k + 1)) (putB b fb.data.toList an)) := HG.out.trans (by rw [if_pos rfl]; rfl)
        obtain ⟨w3, hcopy, hr3, hk3⟩ := HR2.out.copy (P := Tryz.prog) 81 9 3 5 an (131072 - an) (131072 - an) fb Tryz.underlying81 (by kernel_rfl) (by omega) (by rw [HBL.out]; omega)
        have HR3 := Lib.hid hr3
        have HK3 := Lib.hid hk3
        clear hr3 hk3
        go_wp2
        go_roundw
        case rel =>
          have hw0 := HB.out.size
          refine ⟨k + 1, _, by go_num, by omega, ?_, HR3.out, HG2.out.symm.trans HGO.out, ?_⟩
          · have e : fb.size = fb.data.toList.length := by simp
            rw [putB_length (by rw [HBL.out, ← e]; omega), HBL.out]
          · exact (HB.out.trans (HB2.out.mono HB.out.size)).trans (HK3.out.below (by have := HB2.out.size; omega) (fun q hq => by omega))
        case measure => simp [intOf]; omega
      · have b1 : (fc != 0) = true := by simpa using hfc
        have HS2 := Lib.hid (HSY.out w2 HB2.out)
        unfold SymLPost at HS2
        go_wp2_with fail
        refine HS2.out.mono ?_
        rintro e w3 ⟨⟨vr, vn, rfl, hin⟩, hB3⟩
        unfold symV
        obtain ⟨q1, c1, q2, c2, rfl, rfl⟩ := hin.shape
        have hfn := field_name s.name s.bytes s.bind s.kind s.size (.slice q1 s.rels.length c1) (.slice q2 s.notes.length c2) w3
        go_wp2
        go_ret2
        have HRES : Hid (fillGo l wh ps wh zeros18 = (b, s.name, fc)) := HGO.out.symm.trans (HG.out.trans (by rw [if_neg hfc]))
        rw [HRES.out]
        refine ⟨KB.of_below (HB.out.trans ((HB2.out.trans (hB3.mono HB2.out.size)).mono HB.out.size)), ?_⟩
        rw [if_neg hfc]
        rfl
    · have HE := Lib.hid (HGO.out.symm.trans (fillGo_end hlt))
      obtain ⟨iS, s0, s1, s2, s3⟩ := info_parts info_seg
      have HI := Lib.hid (And.intro s0 (And.intro s1 (And.intro s2 s3)))
      clear s0 s1 s2 s3 d6 d7
      obtain ⟨wo, hwo⟩ : ∃ wo : World, wo = wr := ⟨_, rfl⟩
      have HKO : Hid (KB (fun q => q = xb) w wo) := by rw [hwo]; exact KB.of_below HB.out
      have hzo : w.heap.size < wo.heap.size := by rw [hwo]; exact HRW.out.lt
      have hxo : xb < wo.heap.size := by omega
      go_wp2
      go_loopw [54] (fun v54 wy => ∃ (j : Nat) (vs : Value), v54 = .int .i64 j ∧ j ≤ spans.length ∧ wy.heap[xb]? = some (.cells (lkCells m0 m1 m2 m3 en vs (.slice pa wh.length ca) ov (.slice pp ps.length cp) (.slice pS spans.length cS)) 204 (0, 0)) ∧
        wy.ownsRow wo.heap.size 146 3 vs j (((spans.take j).map (segOf b)).flatMap segCells) ∧ KB (fun q => q = xb) wo wy) (fun v54 _ => spans.length - (intOf v54).toNat)
      case atStart => exact ⟨0, .slice none 0 0, by go_num, Nat.zero_le _, HBR.out, World.ownsRow_nil _ _ _ _, by rw [hwo]; exact KB.refl _ _⟩
      case round =>
        obtain ⟨j, vs, rfl, hj, hby, hoy, hky⟩ := hrel
        have HBY := Lib.hid hby; clear hby
        have HOY := Lib.hid hoy
        have HKY := Lib.hid hky; clear hky
        obtain ⟨pv2, cv2, rfl⟩ := own_shape hoy
        clear hoy
        have hzy := HKY.out.size
        by_cases hlj : j < spans.length
        · obtain ⟨-, -, -, hSp⟩ := HNE.out wr (HKO.out.trans HKY.out)
          obtain rfl := HPS.out (by omega)
          obtain ⟨p', cap', b', o', he, -, -, hp', hc'⟩ := hSp
          cases he
          cases hp' (by omega)
          obtain ⟨g0, g1, g2, g3, hk, hat, hsz⟩ := hc' j hlj
          obtain ⟨hs1, hs2, hs3⟩ := HOK.out.spn _ (List.getElem_mem hlj)
          have hSN : Hid (((spans.take (j + 1)).map (segOf b)).flatMap segCells = ((spans.take j).map (segOf b)).flatMap segCells ++ segCells (segOf b spans[j])) := by
            rw [Hid, List.take_succ_eq_append_getElem hlj, List.map_append, List.flatMap_append]; simp only [List.map_cons, List.map_nil, List.flatMap_cons, List.flatMap_nil, List.append_nil]
          generalize spans[j] = x at g1 g2 g3 hk hat hsz hs1 hs2 hs3 hSN
          obtain ⟨xk, xa, xz⟩ := x
          simp only [] at g1 g2 g3 hk hat hsz hs1 hs2 hs3 hSN
          obtain ⟨an, rfl⟩ := Int.eq_ofNat_of_zero_le hs1
          obtain ⟨zn, rfl⟩ := Int.eq_ofNat_of_zero_le (show 0 ≤ xz by omega)
          have hfit : an + zn ≤ 131072 := by omega
          have hz1 : 1 ≤ zn := by omega
          have hsum : IntKind.u32.wrap ((an : Int) + (zn : Int)) = ((an + zn : Nat) : Int) := by rw [IntKind.wrap_u32]; omega
          have s1 : 0 ≤ (an : Int) + (zn : Int) ∧ (an : Int) + (zn : Int) ≤ 131072 := by omega
          have s2 : an ≤ ((an : Int) + (zn : Int)).toNat := by omega
          have s3 : ¬ 131072 = an := by omega
          have s4 : ((an : Int) + (zn : Int)).toNat - an = zn := by omega
          have hBy : ByteRow wr w.heap.size b := by
            have := HRW.out
            rw [← hwo] at this
            exact this.congr (HKY.out.block _ hzo (by omega))
          clear hp' hc' hs1 hs2 hs3
          have q0 : (wr.alloc (.cells #[.int .u8 xk, .int .u32 an, .int .u32 zn] 251)).cell? ⟨wr.heap.size, 0, none⟩ = some (.int .u8 xk) := by simp [go_sem]
          have q1 : (wr.alloc (.cells #[.int .u8 xk, .int .u32 an, .int .u32 zn] 251)).cell? ⟨wr.heap.size, 1, none⟩ = some (.int .u32 an) := by simp [go_sem]
          have q2 : (wr.alloc (.cells #[.int .u8 xk, .int .u32 an, .int .u32 zn] 251)).cell? ⟨wr.heap.size, 2, none⟩ = some (.int .u32 zn) := by simp [go_sem]
          have hby1 : xb < wr.heap.size := (Array.getElem?_eq_some_iff.1 HBY.out).1
          have HSB0 := new_block wr (.cells #[.int .u8 xk, .int .u32 an, .int .u32 zn] 251)
          have HBA : Hid (Below wr.heap.size wr (wr.alloc (.cells #[.int .u8 xk, .int .u32 an, .int .u32 zn] 251))) := alloc_old wr _
          have zA : (wr.alloc (.cells #[.int .u8 xk, .int .u32 an, .int .u32 zn] 251)).heap.size = wr.heap.size + 1 := by simp
          go_wp2
          generalize hWA : (wr.alloc (.cells #[.int .u8 xk, .int .u32 an, .int .u32 zn] 251)) = wA at *
          clear hWA
          have HOA := Lib.hid (own_congr HOY.out fun q hq => HBA.out.block q (HOY.out.lt q hq).2)
          have HBXA := Lib.hid ((HBA.out.block xb (Array.getElem?_eq_some_iff.1 HBY.out).1).trans HBY.out)
          have hBA := (hBy.below HBA.out)
          have HRA := Lib.hid hBA; clear hBA hBy
          have x5 : wA.cell? ⟨xb, 5, none⟩ = some (.slice pv2 j cv2) := Lib.cell_of_heap HBXA.out 5
          have HPM : Hid (∀ W, Calls Tryz.prog 158 #[.int .u8 xk] W fun e w' => e = .returned (.int .u8 (permK xk)) ∧ Below W.heap.size W w') := fun W => perm_any xk W hk.1 hk.2
          have hst : Hid (segOf b ⟨xk, an, zn⟩ = ⟨(an : Int), permK xk, bsOf ((b.drop an).take zn)⟩) := rfl
          rw [hst.out] at hSN
          generalize hbs : bsOf ((b.drop an).take zn) = bs at hSN
          have HBS := Lib.hid hbs
          have hcv0 := run_bytes_of_row (P := Tryz.prog) (HRA.out.below (Below.refl _ _).drew) 81 9 5 an zn (131072 - an) Tryz.underlying81 Tryz.underlying5 Tryz.underlying9 (by rw [HBL.out]; omega)
          rw [hbs] at hcv0
          clear hbs hst g1 g2 g3 hat hsz hk
          generalize permK xk = pk at HPM hSN
          have hx5 : wA.drew.cell? ⟨xb, 5, none⟩ = some (.slice pv2 j cv2) := x5
          have HSB : Hid (wA.heap[wr.heap.size]? = some (.cells #[.int .u8 xk, .int .u32 an, .int .u32 zn] 251 (0, 0))) := HSB0
          have hq0 : wA.drew.cell? ⟨wr.heap.size, 0, none⟩ = some (.int .u8 xk) := Lib.cell_of_heap HSB.out 0
          have hq1 : wA.drew.cell? ⟨wr.heap.size, 1, none⟩ = some (.int .u32 an) := Lib.cell_of_heap HSB.out 1
          have hq2 : wA.drew.cell? ⟨wr.heap.size, 2, none⟩ = some (.int .u32 zn) := Lib.cell_of_heap HSB.out 2
          have hj3 : j ≤ 3 := by have := HOK.out.few; omega
          have hnx : ¬ wr.heap.size = xb := by have := hby1; omega
          clear q0 q1 q2 x5
          obtain ⟨S, hSd⟩ : ∃ S : World → Prop, ∀ w', S w' ↔ (w'.cell? ⟨xb, 5, none⟩ = some (.slice pv2 j cv2) ∧ w'.cell? ⟨wr.heap.size, 0, none⟩ = some (.int .u8 xk) ∧ w'.cell? ⟨wr.heap.size, 1, none⟩ = some (.int .u32 an) ∧ w'.cell? ⟨wr.heap.size, 2, none⟩ = some (.int .u32 zn) ∧ (convert 81 9 (.slice (some ⟨w.heap.size, an, none⟩) zn (131072 - an))).run Tryz.prog w' = .ok (.string bs) w') := ⟨_, fun _ => Iff.rfl⟩
          have HSD := Lib.hid hSd; clear hSd
          have hS0 : S wA.drew := (HSD.out _).2 ⟨hx5, hq0, hq1, hq2, hcv0⟩
          have hS1 := fun x : HW S => (HSD.out _).1 x.h
          have c5 := fun x => (hS1 x).1
          have c0 := fun x => (hS1 x).2.1
          have c1 := fun x => (hS1 x).2.2.1
          have c2 := fun x => (hS1 x).2.2.2.1
          have c3 := fun x => (hS1 x).2.2.2.2
          haveI : Nonempty (HW S) := ⟨⟨_, hS0⟩⟩
          refine wp_region_marks S [.r, .r, .r, .r, .r, .r, .r, .r, .r, .r, .r, .u, .r, .r, .r, .r, .r, .r, .r, .r, .r, .r, .u, .u, .u, .p, .p, .p, .p, .p] rfl (by kernel_rfl) hS0 ?_
          clear hS0 hcv0 hx5 hq0 hq1 hq2 hS1
          repeat (refine wpReads_step (fun K hK => ?_); go_simp; refine hK _ ?_; clear hK K)
          refine wpReads_nil ?_
          clear c5 c0 c1 c2 c3
          refine wpTurns_step fun K hK => ?_
          refine step_call rfl 158 #[.tmp 68] #[5] rfl Tryz.func158 (by kernel_rfl) (by kernel_rfl) #[.int .u8 xk] (by simp [Act.eval]) (HPM.out _) ?_
          rintro e wn ⟨rfl, hBn⟩
          have ds : wn.heap[wr.heap.size]? = some (.cells #[.int .u8 xk, .int .u32 an, .int .u32 zn] 251 (0, 0)) := (hBn.block _ (by show _ < wA.heap.size; omega)).trans HSB.out
          have db : wn.heap[xb]? = some (.cells (lkCells m0 m1 m2 m3 en (.slice pv2 j cv2) (.slice pa wh.length ca) ov (.slice pp ps.length cp) (.slice (some ⟨bS, oS, none⟩) spans.length cS)) 204 (0, 0)) := (hBn.block xb (by show _ < wA.heap.size; omega)).trans HBXA.out
          have hrn := (HRA.out.below (Below.refl _ _).drew).below hBn
          have hSof : Hid (∀ u : World, u.heap[wr.heap.size]? = wn.heap[wr.heap.size]? → u.heap[xb]? = wn.heap[xb]? → u.heap[w.heap.size]? = wn.heap[w.heap.size]? → S u) := fun u h1 h2 h3 =>
            (HSD.out u).2 ⟨Lib.cell_of_heap (h2.trans db) 5, Lib.cell_of_heap (h1.trans ds) 0, Lib.cell_of_heap (h1.trans ds) 1, Lib.cell_of_heap (h1.trans ds) 2, by
              have := run_bytes_of_row (P := Tryz.prog) (hrn.congr h3) 81 9 5 an zn (131072 - an) Tryz.underlying81 Tryz.underlying5 Tryz.underlying9 (by rw [HBL.out]; omega)
              rw [HBS.out] at this; exact this⟩
          have HOWN : Hid ((wn.alloc (.cells #[.int .u32 an, .int .u8 pk, .string bs] 146)).ownsRow wo.heap.size 146 3 (.slice pv2 j cv2) j (((spans.take j).map (segOf b)).flatMap segCells)) := (own_congr HOA.out fun g hg => hBn.block g (HOA.out.lt g hg).2).alloc _
          have hzn : wA.heap.size ≤ wn.heap.size := hBn.size
          have HBN := Lib.hid hBn; have HDB := Lib.hid db; have HDS := Lib.hid ds
          clear hBn db ds hrn
          refine ⟨_, rfl, hK _ _ (hSof.out _ rfl rfl rfl) ?_⟩
          clear hK K
          simp only [Act.put, List.setIfInBounds_toArray, List.set_cons_zero, List.set_cons_succ]
          refine wpTurns_step fun K hK => ?_
          go_simp
          refine hK _ _ (hSof.out _ rfl rfl rfl) ?_
          clear hK K
          refine wpTurns_step fun K hK => ?_
          go_simp
          have hA : ∀ q, q < wn.heap.size → (wn.alloc (.cells #[.int .u32 an, .int .u8 pk, .string bs] 146)).heap[q]? = wn.heap[q]? := fun q hq => Below.heap_alloc _ _ _ hq
          refine hK _ _ (hSof.out _ (hA _ (by omega)) (hA _ (by omega)) (hA _ (by omega))) ?_
          clear hK K
          refine wpTurns_step fun K hK => ?_
          refine step_append_own_at rfl (.tmp 64) (.tmp 81) 63 rfl wo.heap.size 146 iS _ 3 24 Tryz.underlying63 HI.out.1 HI.out.2.1 HI.out.2.2.1 HI.out.2.2.2 rfl (by decide) (.slice pv2 j cv2) j (((spans.take j).map (segOf b)).flatMap segCells) (by simp [Act.eval]) HOWN.out ⟨wn.heap.size, 0, none⟩ 1 1 [.int .u32 an, .int .u8 pk, .string bs] (by simp [Act.eval]) rfl (three_news (by simp [go_sem]) (by simp [go_sem]) (by simp [go_sem])) three_one (by unfold maxLen; omega) (by omega) (by simp; omega) ?_
          intro v' w5 hown hgrow hv
          obtain ⟨pw, cw, rfl⟩ := own_shape hown
          have hb5 := grow_boxS hgrow HOWN.out HDB.out (by decide)
          have hs5 := grow_boxS hgrow HOWN.out HDS.out (by decide)
          have hr5 : w5.heap[w.heap.size]? = wn.heap[w.heap.size]? := (hgrow.block _ (by simp; omega) (fun e => by have := (HOWN.out.lt _ e.symm).1; omega)).trans (hA _ (by omega))
          refine hK _ _ (hSof.out _ (hs5.trans HDS.out.symm) (hb5.trans HDB.out.symm) hr5) ?_
          clear hK K
          simp only [Act.put, List.setIfInBounds_toArray, List.set_cons_zero, List.set_cons_succ]
          refine wpTurns_nil ?_
          have e3 : w5.cell? ⟨xb, 5, none⟩ = some (.slice pv2 j cv2) := Lib.cell_of_heap hb5 5
          have e4 : w5.frozen? ⟨xb, 5, none⟩ = false := Lib.frozen_of_heap hb5 5
          have HB5 := Lib.hid hb5
          have HG5 := Lib.hid (And.intro hown hgrow)
          clear hown hgrow hv hb5 hs5 hr5 hA
          simp only [pickP]
          go_wp2
          refine NoPanic.normal ?_
          go_wp2
          go_roundw
          case rel =>
            have hb2 := heap_setCell_same _ xb 5 _ _ (.slice pw (j + 1) cw) HB5.out
            have hno : ¬ (Value.slice pw (j + 1) cw).ownBlock = some xb := own_ne_box HG5.out.1 HB5.out (by decide)
            have hw0 : wo.heap.size ≤ wn.heap.size := by omega
            refine ⟨j + 1, .slice pw (j + 1) cw, by go_num, by omega, by simpa [lkCells] using hb2, ?_, ?_⟩
            · rw [hSN.out]
              exact own_congr HG5.out.1 fun q hq => Below.heap_setCell _ _ _ _ (fun e => hno (hq.trans (congrArg some e)))
            · exact ((((((HKY.out.trans (KB.of_below HBA.out)).drew).trans (KB.of_below HBN.out)).alloc _).grown HG5.out.2 (fun q hq => .inr ((HOWN.out.lt q hq).1))).setCell (.inl rfl) _)
          case measure => simp [intOf]; omega
        · obtain rfl : j = spans.length := by omega
          have htk : spans.take spans.length = spans := List.take_length
          rw [htk] at HOY
          go_wp2
          go_ret2
          rw [HE.out]
          refine ⟨HKO.out.trans HKY.out, ?_⟩
          rw [if_pos rfl]
          exact ⟨rfl, _, HBY.out, own_mono HOY.out (by omega)⟩
end Go.Proofs.YtboegjdkedjhcaaGreatDoor
