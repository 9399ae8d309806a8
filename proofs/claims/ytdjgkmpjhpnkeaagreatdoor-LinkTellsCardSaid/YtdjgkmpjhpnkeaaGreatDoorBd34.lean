/- The walk of aediculeref18.Of. -/
import Derived.Test.YtdjgkmpjhpnkeaaGreatDoorBd23
import Derived.Test.YtdjgkmpjhpnkeaaGreatDoorBd28
import Derived.Test.YtdjgkmpjhpnkeaaGreatDoorBd31
import Derived.Test.YtdjgkmpjhpnkeaaGreatDoorBd32
import Derived.Test.YtdjgkmpjhpnkeaaGreatDoorBd33
namespace Go.Proofs.YtdjgkmpjhpnkeaaGreatDoor
open Go.RowKit Go.Maps Go.WideMaps
theorem zcell {w : World} {b o : Nat} {u : Value} (hb : w.heap[b]? = some (.cells zlink 37 (0, 0))) (hc : w.cell? ⟨b, o, none⟩ = some u) : ((o = 0 ∨ o = 4) ∧ u = .int .u32 0) ∨ u = .slice none 0 0 ∨ u = .bool false := by
  have h1 := Lib.cell_of_heap hb o
  rw [hc] at h1
  match o, h1 with
  | 0, h1 => exact .inl ⟨.inl rfl, by simpa [zlink] using h1⟩
  | 1, h1 => exact .inr (.inl (by simpa [zlink] using h1))
  | 2, h1 => exact .inr (.inl (by simpa [zlink] using h1))
  | 3, h1 => exact .inr (.inr (by simpa [zlink] using h1))
  | 4, h1 => exact .inl ⟨.inr rfl, by simpa [zlink] using h1⟩
  | 5, h1 => exact .inr (.inl (by simpa [zlink] using h1))
  | 6, h1 => exact .inr (.inl (by simpa [zlink] using h1))
  | n + 7, h1 => simp [zlink] at h1
theorem man_z {w w' : World} {b : Nat} {m : GMan} {ve vp : Value} (h : ManAt w m ve vp) (hb : w.heap[b]? = some (.cells zlink 37 (0, 0))) (hk : KB (fun q => q = b) w w') : ManAt w' m ve vp := by
  refine ⟨row_kb h.1 fun _ _ _ hx => hx.kb hk ?_, row_kb h.2.1 fun _ _ _ hx => hx.kb hk ?_, h.2.2⟩
  · rintro rfl
    rcases zcell hb hx.2.1 with ⟨h1, -⟩ | h1 | h1
    · rcases zcell hb hx.2.2.1 with ⟨h2, -⟩ | h2 | h2
      · omega
      · cases h2
      · cases h2
    · cases h1
    · cases h1
  · rintro rfl
    rcases zcell hb hx.2.1 with ⟨-, h1⟩ | h1 | h1 <;> cases h1
theorem layMay_two {l : List GObj} {ps : List GP} (h : layMay l ps = false) : (layOf l ps).2.2 = 2 := by unfold layOf; rw [h]; rfl
theorem layMay_not {l : List GObj} {ps : List GP} (h : layMay l ps = true) : (layOf l ps).2.2 ≠ 2 := by
  unfold layOf; rw [if_pos h]
  split <;> simp
def xcells (dp : Int) (e p : Value) (dc : Bool) (la : Int) (sg ad : Value) : Array Value := #[.int .u32 dp, e, p, .bool dc, .int .u32 la, sg, ad]
theorem x_seg {w : World} {b : Nat} {dp la : Int} {e p sg ad u : Value} {dc : Bool} (h : w.heap[b]? = some (.cells (xcells dp e p dc la sg ad) 37 (0, 0))) :
    (w.setCell ⟨b, 5, none⟩ u).heap[b]? = some (.cells (xcells dp e p dc la u ad) 37 (0, 0)) := by
  have e1 := heap_setCell_same w b 5 _ _ u h
  simpa [xcells] using e1
theorem x_ent {w : World} {b : Nat} {dp la n : Int} {e p sg ad : Value} {dc : Bool} (h : w.heap[b]? = some (.cells (xcells dp e p dc la sg ad) 37 (0, 0))) :
    (w.setCell ⟨b, 4, none⟩ (.int .u32 n)).heap[b]? = some (.cells (xcells dp e p dc n sg ad) 37 (0, 0)) := by
  have e1 := heap_setCell_same w b 4 _ _ (.int .u32 n) h
  simpa [xcells] using e1
set_option maxRecDepth 100000 in
set_option maxHeartbeats 8000000 in
theorem rOf18_any (v pv : Value) (l : List GObj) (ps : List GP) (nm : ByteArray) (w : World) (h : ObjsAt w v l) (hp : RowAt 2 PlcR w pv ps) (hlen : ps.length ≤ 1200) (hs : SameR l)
    (hb : mayAll l = true → ∀ o ∈ l, ∀ s ∈ o.syms, s.bytes.size < 4294967296) :
    Calls Tryz.prog 18 #[.string nm, pv, v] w fun e w' => ∃ r, Of18 l nm ps r ∧ LPost w r e w' := by
  have HO := Lib.hid h
  have HP := Lib.hid hp
  have HKC : Hid (∀ W, Below w.heap.size w W → Calls Tryz.prog 54 #[.string nm, v] W (Kept18Post l nm W)) := fun W hW => rKept13_any v l nm W (h.keep hW) hs
  have HRF : Hid (∀ W, Below w.heap.size w W → Calls Tryz.prog 62 #[v, .int .i64 (-1), .string nm] W fun e w' => e = .returned (findV (findAll l (-1) nm.data.toList)) ∧ Below W.heap.size W w') := fun W hW => by
    have := refFind_any v l (-1) nm W (h.keep hW)
    rw [hs.find] at this; exact this
  have HLO : Hid (∀ W, Below w.heap.size w W → Calls Tryz.prog 65 #[v, pv] W (OfPost W (layOf l ps))) := fun W hW => refOf14_any v pv l ps W (h.keep hW) (hp.keep plcR_keeps hW) hlen hs.may.symm
  have HMY : Hid (∀ W, Below w.heap.size w W → Calls Tryz.prog 63 #[v, pv] W fun e w' => e = .returned (.bool (layMay l ps)) ∧ Below W.heap.size W w') := fun W hW => by
    have := ref14May_any v pv l ps W (h.keep hW) (hp.keep plcR_keeps hW)
    rw [hs.may, Bool.and_comm] at this; exact this
  have HCL : Hid (∀ W m, Below w.heap.size w W → Calls Tryz.prog 64 #[v, .agg #[.int .i64 (toG m).1, .int .i64 (toG m).2], pv] W fun e w' => e = .returned (.bool (closedB l ps (toG m))) ∧ Below W.heap.size W w') := fun W m hW => rclosed_any v l pv ps (toG m) W (h.keep hW) (hp.keep plcR_keeps hW) hs
  have HSR := Lib.hid hs; clear hs
  have HBB := Lib.hid hb; clear hb
  have hmk := make18
  have HMR := Lib.hid made18
  generalize hZ : Obj.cells (madeCells #[.int .u8 0] 131072) 5 = Z at hmk HMR
  clear hZ
  have HMK := Lib.hid hmk; clear hmk
  obtain ⟨qv, cv, hv⟩ : ∃ (pv : Option Addr) (cv : Nat), v = .slice pv l.length cv := by obtain ⟨p, cap, b, o, rfl, _⟩ := h; exact ⟨p, cap, rfl⟩
  obtain ⟨qp, cp, hpv⟩ : ∃ (qp : Option Addr) (cp : Nat), pv = .slice qp ps.length cp := by obtain ⟨p, cap, b, o, rfl, _⟩ := hp; exact ⟨p, cap, rfl⟩
  subst hv hpv
  clear h hp
  generalize hW : (w.alloc (.cells #[.int .u32 0, .slice none 0 0, .slice none 0 0, .bool false, .int .u32 0, .slice none 0 0, .slice none 0 0] 37)) = w1
  have z1 : w1.heap.size = w.heap.size + 1 := by subst hW; simp
  have HB1 : Hid (Below w.heap.size w w1) := by subst hW; exact alloc_old w _
  have HR1 : Hid (w1.heap[w.heap.size]? = some (.cells zlink 37 (0, 0))) := by subst hW; exact new_block w _
  go_enter Tryz.func18, Tryz.ntmps18
  go_wp2_with fail
  try rw [hW]
  clear hW
  refine (HKC.out _ HB1.out).mono ?_
  rintro e w2 ⟨⟨p, K, vo, hky, hrow, rfl⟩ | ⟨n, c, hc, rfl, hke⟩, hB2⟩
  · have HKY := Lib.hid hky
    have hfa : findAll l (-1) nm.data.toList = (p, 0) := by rw [findOut hky.1, hky.2.1]; rfl
    rw [hfa] at HRF
    obtain ⟨pa, pb⟩ := p
    unfold findV at HRF
    simp only [] at HRF
    obtain ⟨p2, c2, b2, o2, rfl, -⟩ := hrow
    have HB2 : Hid (Below w.heap.size w w2) := HB1.out.trans (hB2.mono (by omega))
    have HR2 : Hid (w2.heap[w.heap.size]? = some (.cells zlink 37 (0, 0))) := (hB2.block _ (by omega)).trans HR1.out
    have z2 : w.heap.size < w2.heap.size := by have := hB2.size; omega
    clear hky hfa hB2 HKC
    go_wp2_with fail
    refine (HRF.out _ HB2.out).mono ?_
    rintro e w3 ⟨rfl, hB3⟩
    have HB3 : Hid (Below w.heap.size w w3) := HB2.out.trans (hB3.mono HB2.out.size)
    have HR3 : Hid (w3.heap[w.heap.size]? = some (.cells zlink 37 (0, 0))) := (hB3.block _ z2).trans HR2.out
    have z3 : w.heap.size < w3.heap.size := by have := hB3.size; omega
    clear hB3 HRF
    go_wp2_with fail
    have hm4 : Hid ((w3.alloc (.cells #[.int .i64 pa, .int .i64 pb] 63)).heap[w3.heap.size]? = some (.cells #[.int .i64 pa, .int .i64 pb] 63 (0, 0))) := new_block w3 _
    have hb4 : Hid (Below w3.heap.size w3 (w3.alloc (.cells #[.int .i64 pa, .int .i64 pb] 63))) := alloc_old w3 _
    have z4 : (w3.alloc (.cells #[.int .i64 pa, .int .i64 pb] 63)).heap.size = w3.heap.size + 1 := by simp
    generalize (w3.alloc (.cells #[.int .i64 pa, .int .i64 pb] 63)) = w4 at hm4 hb4 z4 ⊢
    have HB4 : Hid (Below w.heap.size w w4) := HB3.out.trans (hb4.out.mono HB3.out.size)
    have HR4 := (hb4.out.block _ z3).trans HR3.out
    have HMY4 := HMY.out w4 HB4.out
    obtain ⟨lm, hlm⟩ : ∃ b, layMay l ps = b := ⟨_, rfl⟩
    rw [hlm] at HMY4
    clear HMY
    refine HMY4.mono ?_
    clear HMY4
    rintro e w5 ⟨rfl, hB5⟩
    have HM5 := Lib.hid ((hB5.block _ (by omega)).trans hm4.out)
    have HR5 := Lib.hid ((hB5.block _ (by omega)).trans HR4)
    have HB5 : Hid (Below w.heap.size w w5) := HB4.out.trans (hB5.mono HB4.out.size)
    have z5 : w3.heap.size < w5.heap.size := by have := hB5.size; omega
    clear hm4 hb4 z4 HR4 hB5 HB4
    cases lm with
    | false =>
      have HPUT := Lib.hid (sevens (zput (u0 := .int .u32 0) (u1 := .slice none 0 0) (u2 := .slice none 0 0) (u3 := .bool false) (u4 := .int .u32 0) (u5 := .slice none 0 0) (u6 := .slice none 0 0) HR5.out))
      obtain ⟨r0, r1, r2, r3, r4, r5, r6, rz⟩ := zfacts HR5.out
      go_wp2_with fail
      obtain ⟨x0, x1, x2, x3, x4, x5, x6⟩ := HPUT.out
      refine bodyPost_ret (v := .tuple #[.agg #[.int .u32 0, .slice none 0 0, .slice none 0 0, .bool false, .int .u32 0, .slice none 0 0, .slice none 0 0], .string ⟨#[]⟩, .int .i64 2]) (by simp [results, Tryz.results18, go_sem, x0, x1, x2, x3, x4, x5, x6]) rfl ?_
      have hres : linkR l nm (pa, pb) ps = (link0, emptyB, 2) := by unfold linkR; rw [if_pos (.inl (layMay_two hlm))]
      exact ⟨(link0, emptyB, 2), .inr ⟨_, K, HKY.out, hres.symm⟩, _, _, _, _, rfl, link0_at _, put7_below HB5.out (Nat.le_refl _)⟩
    | true =>
      have HL2 := Lib.hid (layMay_not hlm)
      have HLM := Lib.hid hlm; clear hlm
      have m0 : w5.cell? ⟨w3.heap.size, 0, none⟩ = some (.int .i64 pa) := Lib.cell_of_heap HM5.out 0
      have m1 : w5.cell? ⟨w3.heap.size, 1, none⟩ = some (.int .i64 pb) := Lib.cell_of_heap HM5.out 1
      have HC5 := HCL.out w5 (pa, pb) HB5.out
      obtain ⟨cb, hcb⟩ : ∃ b, closedB l ps (toG (pa, pb)) = b := ⟨_, rfl⟩
      rw [hcb] at HC5
      have HCB := Lib.hid hcb; clear hcb HCL
      unfold toG at HC5
      simp only [] at HC5
      have HC6 := Lib.hid HC5; clear HC5
      go_wp2_with fail
      clear m0 m1
      refine HC6.out.mono ?_
      rintro e w6 ⟨rfl, hB6⟩
      have HM6 := Lib.hid ((hB6.block _ (by omega)).trans HM5.out)
      have HR6 := Lib.hid ((hB6.block _ (by omega)).trans HR5.out)
      have HB6 : Hid (Below w.heap.size w w6) := HB5.out.trans (hB6.mono HB5.out.size)
      have z6 : w3.heap.size < w6.heap.size := by have := hB6.size; omega
      clear hB6 HC6 HM5 HR5 HB5 z5
      cases cb with
      | false =>
        have HPUT := Lib.hid (sevens (zput (u0 := .int .u32 0) (u1 := .slice none 0 0) (u2 := .slice none 0 0) (u3 := .bool false) (u4 := .int .u32 0) (u5 := .slice none 0 0) (u6 := .slice none 0 0) HR6.out))
        obtain ⟨r0, r1, r2, r3, r4, r5, r6, rz⟩ := zfacts HR6.out
        go_wp2_with fail
        obtain ⟨x0, x1, x2, x3, x4, x5, x6⟩ := HPUT.out
        refine bodyPost_ret (v := .tuple #[.agg #[.int .u32 0, .slice none 0 0, .slice none 0 0, .bool false, .int .u32 0, .slice none 0 0, .slice none 0 0], .string ⟨#[]⟩, .int .i64 2]) (by simp [results, Tryz.results18, go_sem, x0, x1, x2, x3, x4, x5, x6]) rfl ?_
        have hres : linkR l nm (pa, pb) ps = (link0, emptyB, 2) := by unfold linkR; rw [if_pos (.inr HCB.out)]
        exact ⟨(link0, emptyB, 2), .inr ⟨_, K, HKY.out, hres.symm⟩, _, _, _, _, rfl, link0_at _, put7_below HB6.out (Nat.le_refl _)⟩
      | true =>
        have m0 : w6.cell? ⟨w3.heap.size, 0, none⟩ = some (.int .i64 pa) := Lib.cell_of_heap HM6.out 0
        have m1 : w6.cell? ⟨w3.heap.size, 1, none⟩ = some (.int .i64 pb) := Lib.cell_of_heap HM6.out 1
        obtain ⟨s, hpa, hpb, hs⟩ : ∃ (s : GSym) (ha : pa < l.length) (hb : pb < l[pa].syms.length), l[pa].syms[pb] = s := by
          obtain ⟨o, s, h1, h2⟩ := findR_valid HKY.out.2.1
          obtain ⟨ha, rfl⟩ := List.getElem?_eq_some_iff.1 h1
          obtain ⟨hb, rfl⟩ := List.getElem?_eq_some_iff.1 h2
          exact ⟨_, ha, hb, rfl⟩
        have HKD : Hid (kindAt l (toG (pa, pb)) = s.kind) := by
          have : symAt l ((pa : Int), (pb : Int)) = some s := by rw [symAt_nat hpa, List.getElem?_eq_getElem hpb, hs]
          rw [Hid, kindAt]; unfold toG; simp only []; rw [this]
        obtain ⟨pT, capT, bT, oT, heT, -, hmT, hpT, hcT⟩ := HO.out.keep HB6.out
        cases heT
        obtain rfl := hpT (by omega)
        obtain ⟨vs, e0, e1, e2, ⟨pS, capS, bS, oS, rfl, hcapS, hmaxS, hpS, hcS⟩, -⟩ := hcT pa hpa
        obtain rfl := hpS (by omega)
        obtain ⟨vr, vn, s0, s1, s2, s3, -⟩ := hcS pb hpb
        rw [hs] at s3
        clear hcT hpT hcS hpS e1 s1 s2 hs
        generalize hnS : l[pa].syms.length = nS at e2 hpb hcapS hmaxS
        generalize s.kind = sk at s3 HKD
        clear hnS
        go_wp2_with fail
        go_quiet (fail)
        rename_i nq
        clear m0 m1 e2 s3 e0 s0 hcapS hmaxS
        have hb7 : Below w6.heap.size w6 (w6.drewN nq) := below_drewN (Below.refl _ _) nq
        have HM7 := Lib.hid ((hb7.block _ z6).trans HM6.out)
        have HR7 := Lib.hid ((hb7.block _ (by omega)).trans HR6.out)
        have HB7 : Hid (Below w.heap.size w (w6.drewN nq)) := HB6.out.trans (hb7.mono HB6.out.size)
        have z7 : w3.heap.size < (w6.drewN nq).heap.size := by have := hb7.size; omega
        clear hb7 HM6 HR6 HB6 z6
        generalize w6.drewN nq = w7 at *
        by_cases hkd : sk = 1
        rotate_left
        · have hkb : (sk != 1) = true := by simpa using hkd
          have HKN := Lib.hid hkd; clear hkd
          have HPUT := Lib.hid (sevens (zput (u0 := .int .u32 0) (u1 := .slice none 0 0) (u2 := .slice none 0 0) (u3 := .bool false) (u4 := .int .u32 0) (u5 := .slice none 0 0) (u6 := .slice none 0 0) HR7.out))
          obtain ⟨r0, r1, r2, r3, r4, r5, r6, rz⟩ := zfacts HR7.out
          go_wp2_with fail
          obtain ⟨x0, x1, x2, x3, x4, x5, x6⟩ := HPUT.out
          refine bodyPost_ret (v := .tuple #[.agg #[.int .u32 0, .slice none 0 0, .slice none 0 0, .bool false, .int .u32 0, .slice none 0 0, .slice none 0 0], .string nm, .int .i64 180]) (by simp [results, Tryz.results18, go_sem, x0, x1, x2, x3, x4, x5, x6]) rfl ?_
          have hres : linkR l nm (pa, pb) ps = (link0, nm, 180) := by
            unfold linkR
            rw [if_neg (by rw [HCB.out]; simp only [not_or]; exact ⟨HL2.out, by simp⟩), if_pos (by rw [HKD.out]; exact HKN.out)]
          exact ⟨(link0, nm, 180), .inr ⟨_, K, HKY.out, hres.symm⟩, _, _, _, _, rfl, link0_at _, put7_below HB7.out (Nat.le_refl _)⟩
        have hkb : (sk != 1) = false := by simpa using hkd
        have HKN := Lib.hid hkd; clear hkd
        have HLOC := Lib.hid (HLO.out w7 HB7.out)
        obtain ⟨wh, sp, lc, hlay⟩ : ∃ wh sp lc, layOf l ps = (wh, sp, lc) := ⟨_, _, _, rfl⟩
        rw [hlay] at HLOC HL2
        have HL := Lib.hid hlay; clear hlay HLO
        unfold OfPost at HLOC
        simp only [] at HLOC HL2
        go_wp2_with fail
        refine HLOC.out.mono ?_
        rintro e w9 ⟨va, vs, rfl, hwa, hws, hB9⟩
        have HWA := Lib.hid hwa
        have HWS := Lib.hid hws
        obtain ⟨pw, cw, bw, ow, rfl, hcw, hmw, hpw, -⟩ := hwa
        obtain ⟨pS', cS', bS', oS', rfl, hcs', hms', hpS', -⟩ := hws
        have HPW := Lib.hid hpw; have HPS' := Lib.hid hpS'; clear hpw hpS'
        have HM9 := Lib.hid ((hB9.block _ z7).trans HM7.out)
        have HR9 := Lib.hid ((hB9.block _ (by omega)).trans HR7.out)
        have HB9 : Hid (Below w.heap.size w w9) := HB7.out.trans (hB9.mono HB7.out.size)
        have z9 : w3.heap.size < w9.heap.size := by have := hB9.size; omega
        clear hB9 HLOC HM7 HR7 HB7 z7
        by_cases hl0 : lc = 0
        rotate_left
        · have hlb : (lc != 0) = true := by simpa using hl0
          have HL0 := Lib.hid hl0; clear hl0
          have HPUT := Lib.hid (sevens (zput (u0 := .int .u32 0) (u1 := .slice none 0 0) (u2 := .slice none 0 0) (u3 := .bool false) (u4 := .int .u32 0) (u5 := .slice none 0 0) (u6 := .slice none 0 0) HR9.out))
          obtain ⟨r0, r1, r2, r3, r4, r5, r6, rz⟩ := zfacts HR9.out
          go_wp2_with fail
          obtain ⟨x0, x1, x2, x3, x4, x5, x6⟩ := HPUT.out
          refine bodyPost_ret (v := .tuple #[.agg #[.int .u32 0, .slice none 0 0, .slice none 0 0, .bool false, .int .u32 0, .slice none 0 0, .slice none 0 0], .string ⟨#[]⟩, .int .i64 lc]) (by simp [results, Tryz.results18, go_sem, x0, x1, x2, x3, x4, x5, x6]) rfl ?_
          have hres : linkR l nm (pa, pb) ps = (link0, emptyB, lc) := by
            unfold linkR
            rw [if_neg (by rw [HL.out, HCB.out]; simp only [not_or]; exact ⟨HL2.out, by simp⟩), if_neg (by rw [HKD.out, HKN.out]; simp), if_pos (by rw [HL.out]; exact HL0.out), HL.out]
          exact ⟨(link0, emptyB, lc), .inr ⟨_, K, HKY.out, hres.symm⟩, _, _, _, _, rfl, link0_at _, put7_below HB9.out (Nat.le_refl _)⟩
        subst hl0
        have HLR : Hid (linkR l nm (pa, pb) ps = linkEnd l (pa, pb) ps wh sp (fillGo l wh ps wh zeros18)) := by
          unfold linkR
          rw [Hid, if_neg (by rw [HL.out, HCB.out]; simp), if_neg (by rw [HKD.out, HKN.out]; simp), if_neg (by rw [HL.out]; simp), HL.out]
        have hmay : mayAll l = true := by
          have h1 := HLM.out
          simp only [layMay, Bool.and_eq_true] at h1
          exact h1.1
        have HOK := Lib.hid (segsOk_of HL.out (HBB.out hmay))
        have HSP := Lib.hid (spans_of HL.out)
        have HMAY := Lib.hid hmay; clear hmay
        have HLEN := Lib.hid HOK.out.len
        clear HLM HCB HKD HKN HL2
        have hmk := HMK.out w9
        have HB10 : Hid (Below w9.heap.size w9 (w9.alloc Z)) := alloc_old w9 Z
        have HRZ := Lib.hid (HMR.out w9)
        have z10 : (w9.alloc Z).heap.size = w9.heap.size + 1 := by simp
        generalize w9.alloc Z = w10 at HB10 HRZ z10 hmk
        clear HMK HMR
        go_wp2_with fail
        clear hmk
        generalize hN : (131072 : Nat) = N at *
        obtain ⟨iN, s0, s1, s2, s3⟩ := info_parts info_note18
        have HI := Lib.hid (And.intro s0 (And.intro s1 (And.intro s2 s3)))
        clear s0 s1 s2 s3
        go_loopw [17, 18] (fun v17 v18 wr => ∃ (k : Nat) (b : BL), v18 = .int .i64 k ∧ k ≤ ps.length ∧ b.length = N ∧ ByteRow wr w9.heap.size b ∧ fillGo l wh (ps.drop k) (wh.drop k) b = fillGo l wh ps wh zeros18 ∧ (notesOf l (ps.take k)).length ≤ 8 * k ∧ (∀ x ∈ notesOf l (ps.take k), NoteNum x) ∧ wr.ownsRow w10.heap.size 219 3 v17 (notesOf l (ps.take k)).length ((notesOf l (ps.take k)).flatMap noteCells) ∧ Below w9.heap.size w9 wr) (fun v17 v18 _ => ps.length - (intOf v18).toNat)
        case atStart => exact ⟨0, zeros18, by go_num, Nat.zero_le _, by rw [← hN]; exact List.length_replicate, HRZ.out, rfl, by simp [notesOf], fun x hx => by simp [notesOf] at hx, World.ownsRow_nil _ _ _ _, HB10.out⟩
        case round =>
          obtain ⟨k, b, rfl, hk, hbl, hrow, hgo, hnl, hnn, hon, hB⟩ := hrel
          have HBL := Lib.hid hbl; clear hbl
          have HRW := Lib.hid hrow; clear hrow
          have HGO := Lib.hid hgo; clear hgo
          have HNN := Lib.hid hnn; clear hnn
          have HON := Lib.hid hon
          obtain ⟨pn, cn, rfl⟩ := own_shape hon
          clear hon
          have HB := Lib.hid hB; clear hB
          have HBW : Hid (Below w.heap.size w wr) := HB9.out.trans (HB.out.mono HB9.out.size)
          have hgr : w9.heap.size < wr.heap.size := HRW.out.lt
          by_cases hlt : k < ps.length
          · have hkw : k < wh.length := by have := HLEN.out; omega
            obtain ⟨s, hs, hsb, hrl, ha0, ha1, hfit⟩ := HOK.out.sym k hlt hkw
            have HFD := Lib.hid (rfilled_any _ _ l wh ps[k] s wr (HO.out.keep HBW.out) (HWA.out.keep addrR_keeps HB.out) hs hsb hrl HSR.out)
            have HG : Hid (fillGo l wh (ps.drop k) (wh.drop k) b = if (filledR l wh ps[k] s).2 = 0 then fillGo l wh (ps.drop (k + 1)) (wh.drop (k + 1)) (putB b (filledR l wh ps[k] s).1.data.toList wh[k].at_.toNat) else (b, s.name, (filledR l wh ps[k] s).2)) := fillGo_step hlt hkw rfl rfl hs
            have HSK : Hid (notesOf l (ps.take (k + 1)) = notesOf l (ps.take k) ++ s.notes) := notesOf_snoc hlt rfl hs
            have h8 := notes8 HMAY.out hs
            generalize notesOf l (ps.take k) = nt at HNN HON HSK hnl
            obtain ⟨an, bn, han, hbn, hpk, hsy⟩ := symAt_some hs
            obtain ⟨pQ, capQ, bq, oq, heq, -, hmq, hpq, hcq⟩ := HP.out
            cases heq
            obtain rfl := hpq (by omega)
            obtain ⟨u0, u1, u2⟩ := hcq k hlt
            rw [hpk] at u1 u2
            obtain ⟨pT, capT, bT', oT', heT, -, hmT, hpT, hcT⟩ := HO.out
            cases heT
            cases hpT (by omega)
            obtain ⟨vs, e0, -, e2, ⟨pS, capS, bS, oS, rfl, hcapS, hmaxS, hpS, hcS⟩, -⟩ := hcT an han
            obtain rfl := hpS (by omega)
            obtain ⟨vr, vn, s0, s1, s2, s3, s4, s5, s6, s7, hin⟩ := hcS bn hbn
            rw [hsy] at s1 s2 s3 s4 s5 hin
            obtain ⟨q1, d1, q2, d2, rfl, rfl⟩ := hin.shape
            have HIN := Lib.hid hin
            have hnb : bn < l[an].syms.length := hbn
            obtain ⟨pw', cw', bw', ow', hew, -, -, hpw2, hcw2⟩ := HWA.out
            cases hew
            obtain rfl := hpw2 (by omega)
            obtain ⟨a0, -, -, a3, -⟩ := hcw2 k hkw
            generalize filledR l wh ps[k] s = fr at HG HFD hfit
            obtain ⟨fb, fc⟩ := fr
            simp only [] at HFD HG hfit
            rw [hpk] at HFD
            simp only [] at HFD u1 u2
            generalize wh[k] = a at a3 HG ha0 ha1 hfit
            obtain ⟨a1', a2', a3'⟩ := a
            simp only [] at a3 HG ha0 ha1 hfit
            obtain ⟨ad, rfl⟩ := Int.eq_ofNat_of_zero_le ha0
            obtain ⟨yn, yb, yk, yz, yy, yr, yt⟩ := s
            simp only [] at s1 s2 s3 s4 s5 s6 s7 HIN HSK HG h8
            clear hs hsb hrl hcq hcT hcS hpS hpT hpq hpw2 hcw2 ha0 hin hpk hsy
            have v1 := cell_keep HBW.out u0 u1
            have v2 := cell_keep HBW.out u0 u2
            go_wp2_with fail
            clear v1 v2
            refine HFD.out.mono ?_
            rintro e w11 ⟨rfl, hB11⟩
            have HB11 := Lib.hid hB11
            have HBW11 : Hid (Below w.heap.size w w11) := HBW.out.trans (hB11.mono HBW.out.size)
            have hz11 : wr.heap.size ≤ w11.heap.size := hB11.size
            have hzw : w.heap.size ≤ w11.heap.size := HBW11.out.size
            have hzw9 : w.heap.size ≤ w9.heap.size := HB9.out.size
            clear hB11 HFD
            replace u1 := cell_keep HBW11.out u0 u1
            replace u2 := cell_keep HBW11.out u0 u2
            replace e2 := cell_keep HBW11.out e0 e2
            replace s1 := cell_keep HBW11.out s0 s1
            replace s2 := cell_keep HBW11.out s0 s2
            replace s3 := cell_keep HBW11.out s0 s3
            replace s4 := cell_keep HBW11.out s0 s4
            replace s5 := cell_keep HBW11.out s0 s5
            replace s6 := cell_keep HBW11.out s0 s6
            replace s7 := cell_keep HBW11.out s0 s7
            have u0' : bq < w11.heap.size := by omega
            have e0' : bT < w11.heap.size := by omega
            have s0' : bS < w11.heap.size := by omega
            go_wp2
            obtain ⟨S, hSd⟩ : ∃ S : World → Prop, ∀ w', S w' ↔ (w'.cell? ⟨bq, oq + k * 2, none⟩ = some (.int .i64 an) ∧ w'.cell? ⟨bq, oq + k * 2 + 1, none⟩ = some (.int .i64 bn) ∧ w'.cell? ⟨bT, oT + an * 2 + 1, none⟩ = some (.slice (some ⟨bS, oS, none⟩) l[an].syms.length capS) ∧
                w'.cell? ⟨bS, oS + bn * 7, none⟩ = some (.string yn) ∧ w'.cell? ⟨bS, oS + bn * 7 + 1, none⟩ = some (.int .u8 yb) ∧ w'.cell? ⟨bS, oS + bn * 7 + 2, none⟩ = some (.int .u8 yk) ∧ w'.cell? ⟨bS, oS + bn * 7 + 3, none⟩ = some (.int .u32 yz) ∧
                w'.cell? ⟨bS, oS + bn * 7 + 4, none⟩ = some (.string yy) ∧ w'.cell? ⟨bS, oS + bn * 7 + 5, none⟩ = some (.slice q1 yr.length d1) ∧ w'.cell? ⟨bS, oS + bn * 7 + 6, none⟩ = some (.slice q2 yt.length d2)) := ⟨_, fun _ => Iff.rfl⟩
            have HSD := Lib.hid hSd; clear hSd
            have hS0 : S w11.drew := (HSD.out _).2 ⟨u1, u2, e2, s1, s2, s3, s4, s5, s6, s7⟩
            have hS1 := fun x : HW S => (HSD.out _).1 x.h
            have hSa : ∀ b, S (w11.drew.alloc b) := fun b => (HSD.out _).2 ⟨cell_keep (alloc_old _ _) u0' u1, cell_keep (alloc_old _ _) u0' u2, cell_keep (alloc_old _ _) e0' e2, cell_keep (alloc_old _ _) s0' s1, cell_keep (alloc_old _ _) s0' s2, cell_keep (alloc_old _ _) s0' s3, cell_keep (alloc_old _ _) s0' s4, cell_keep (alloc_old _ _) s0' s5, cell_keep (alloc_old _ _) s0' s6, cell_keep (alloc_old _ _) s0' s7⟩
            have HSA := Lib.hid hSa
            have c0 := fun x => (hS1 x).1
            have c1 := fun x => (hS1 x).2.1
            have c2 := fun x => (hS1 x).2.2.1
            have c3 := fun x => (hS1 x).2.2.2.1
            have c4 := fun x => (hS1 x).2.2.2.2.1
            have c5 := fun x => (hS1 x).2.2.2.2.2.1
            have c6 := fun x => (hS1 x).2.2.2.2.2.2.1
            have c7 := fun x => (hS1 x).2.2.2.2.2.2.2.1
            have c8 := fun x => (hS1 x).2.2.2.2.2.2.2.2.1
            have c9 := fun x => (hS1 x).2.2.2.2.2.2.2.2.2
            haveI : Nonempty (HW S) := ⟨⟨_, hS0⟩⟩
            have HS0 := Lib.hid hS0
            clear hS0 hSa hS1 s1 s2 s3 s4 s5 s6 s7 e2 u1 u2
            refine wp_region_marks S [.r, .r, .r, .r, .r, .r, .r, .r, .r, .r, .r, .r, .r, .r, .r, .r, .u, .p] rfl (by kernel_rfl) HS0.out ?_
            repeat (refine wpReads_step (fun K hK => ?_); go_simp; refine hK _ ?_; clear hK K)
            refine wpReads_nil ?_
            clear c0 c1 c2 c3 c4 c5 c6 c7 c8 c9
            refine wpTurns_step fun K hK => ?_
            go_simp
            refine hK _ _ (HSA.out _) ?_
            clear hK K
            refine wpTurns_nil ?_
            simp only [pickP]
            go_wp2
            refine NoPanic.normal ?_
            clear HSA HS0 HSD
            have HBC : Hid (Below w11.heap.size w11 (w11.alloc (.cells #[.string yn, .int .u8 yb, .int .u8 yk, .int .u32 yz, .string yy, .slice q1 yr.length d1, .slice q2 yt.length d2] 72)).drew) := (alloc_old w11 _).drew
            have HSB : Hid ((w11.alloc (.cells #[.string yn, .int .u8 yb, .int .u8 yk, .int .u32 yz, .string yy, .slice q1 yr.length d1, .slice q2 yt.length d2] 72)).drew.heap[w11.heap.size]? = some (.cells #[.string yn, .int .u8 yb, .int .u8 yk, .int .u32 yz, .string yy, .slice q1 yr.length d1, .slice q2 yt.length d2] 72 (0, 0))) := new_block w11 _
            have zC : w11.heap.size < (w11.alloc (.cells #[.string yn, .int .u8 yb, .int .u8 yk, .int .u32 yz, .string yy, .slice q1 yr.length d1, .slice q2 yt.length d2] 72)).drew.heap.size := by show _ < (World.alloc _ _).heap.size; simp
            generalize (w11.alloc (.cells #[.string yn, .int .u8 yb, .int .u8 yk, .int .u32 yz, .string yy, .slice q1 yr.length d1, .slice q2 yt.length d2] 72)).drew = wC at HBC HSB zC ⊢
            have HBC9 : Hid (Below w9.heap.size w9 wC) := HB.out.trans ((HB11.out.trans (HBC.out.mono HB11.out.size)).mono HB.out.size)
            have HBCW : Hid (Below w.heap.size w wC) := HB9.out.trans (HBC9.out.mono HB9.out.size)
            by_cases hfc : fc = 0
            rotate_left
            · have hfb : (fc != 0) = true := by simpa using hfc
              have HFC := Lib.hid hfc; clear hfc
              have n0 : wC.cell? ⟨w11.heap.size, 0, none⟩ = some (.string yn) := Lib.cell_of_heap HSB.out 0
              have hr := (HBC9.out.block _ (by omega)).trans HR9.out
              obtain ⟨r0, r1, r2, r3, r4, r5, r6, rz⟩ := zfacts hr
              have HPUT := Lib.hid (sevens (zput (u0 := .int .u32 0) (u1 := .slice none 0 0) (u2 := .slice none 0 0) (u3 := .bool false) (u4 := .int .u32 0) (u5 := .slice none 0 0) (u6 := .slice none 0 0) hr))
              have HRES : Hid (fillGo l wh ps wh zeros18 = (b, yn, fc)) := HGO.out.symm.trans (HG.out.trans (if_neg HFC.out))
              clear hr
              go_wp2_with fail
              go_region
              all_goals
                go_wp2_with fail
                obtain ⟨x0, x1, x2, x3, x4, x5, x6⟩ := HPUT.out
                refine bodyPost_ret (v := .tuple #[.agg #[.int .u32 0, .slice none 0 0, .slice none 0 0, .bool false, .int .u32 0, .slice none 0 0, .slice none 0 0], .string yn, .int .i64 fc]) (by simp [results, Tryz.results18, go_sem, x0, x1, x2, x3, x4, x5, x6]) rfl ?_
                have hres : linkR l nm (pa, pb) ps = (link0, yn, fc) := by rw [HLR.out, HRES.out, linkEnd, if_pos HFC.out]
                exact ⟨(link0, yn, fc), .inr ⟨_, K, HKY.out, hres.symm⟩, _, _, _, _, rfl, link0_at _, (put7_below HBCW.out (Nat.le_refl _)).drew⟩
            · subst hfc
              have HG2 : Hid (fillGo l wh (ps.drop k) (wh.drop k) b = fillGo l wh (ps.drop (k + 1)) (wh.drop (k + 1)) (putB b fb.data.toList ad)) := HG.out.trans (by rw [if_pos rfl]; rfl)
              have hfit2 : ad + fb.size ≤ N := by have := hfit rfl; omega
              have had : ad < N := by omega
              have HBRC : Hid (Below wr.heap.size wr wC) := HB11.out.trans (HBC.out.mono HB11.out.size)
              have HRC := Lib.hid (HRW.out.below HBRC.out)
              have a3c := cell_keep HBC9.out a0 a3
              have hzc : wr.heap.size ≤ wC.heap.size := HBRC.out.size
              clear hfit ha1 HG
              go_wp2_with fail
              go_loopw [22] (fun v22 wy => ∃ i : Nat, v22 = .int .i64 i ∧ i ≤ fb.size ∧ ByteRow wy w9.heap.size (putB b (fb.data.toList.take i) ad) ∧ KB (fun q => q = w9.heap.size) wC wy) (fun v22 _ => fb.size - (intOf v22).toNat)
              case atStart => exact ⟨0, by go_num, Nat.zero_le _, by rw [List.take_zero, putB_nil]; exact HRC.out, KB.refl _ _⟩
              case round =>
                obtain ⟨i, rfl, hi, hrow, hkb⟩ := hrel
                have HRI := Lib.hid hrow
                have HKI := Lib.hid hkb
                clear hrow hkb
                by_cases hli : i < fb.size
                · have hpl : (putB b (fb.data.toList.take i) ad).length = N := by rw [putB_length (by rw [HBL.out]; simp; omega), HBL.out]
                  have hcl := HRI.out.cell (ad + i) (by rw [hpl]; omega)
                  have hfz := HRI.out.frozen (ad + i)
                  generalize (putB b (fb.data.toList.take i) ad)[ad + i].toNat = o9 at hcl
                  have a3i := HKI.out.cell (Nat.lt_of_lt_of_le a0 HBC9.out.size) (fun e : bw' = w9.heap.size => by omega) a3c
                  have HST : Hid (ByteRow ((wr.drew).setCell ⟨w9.heap.size, ad + i, none⟩ (.int .u8 (fb[i].toNat : Int))) w9.heap.size (putB b (fb.data.toList.take (i + 1)) ad)) := by
                    have h0 : ByteRow wr.drew w9.heap.size (putB b (fb.data.toList.take i) ad) := HRI.out.congr rfl
                    have h1 := h0.set (ad + i) (fb[i].toNat : Int) (by omega) (by have := fb[i].toNat_lt; omega)
                    have h3 : (fb.data.toList.take i).length = i := by simp; omega
                    have h2 := putB_snoc (b := b) (s := fb.data.toList.take i) (o := ad) (x := UInt8.ofNat (Int.toNat (fb[i].toNat : Int))) (by rw [h3, HBL.out]; omega)
                    rw [h3] at h2
                    rw [h2, ← take_snocB fb i hli] at h1
                    exact h1
                  have HK2 : Hid (KB (fun q => q = w9.heap.size) wC ((wr.drew).setCell ⟨w9.heap.size, ad + i, none⟩ (.int .u8 (fb[i].toNat : Int)))) := HKI.out.drew.setCell (.inl rfl) _
                  have hw1 : IntKind.i64.wrap (ad : Int) = (ad : Int) := IntWalk.i64_in _ (by omega)
                  have hw2 : IntKind.i64.wrap ((ad : Int) + (i : Int)) = ((ad + i : Nat) : Int) := (IntWalk.i64_in _ (by omega)).trans (by omega)
                  have hs1 : 0 ≤ (ad : Int) + (i : Int) := by omega
                  have hs2 : (ad : Int) + (i : Int) < (N : Int) := by omega
                  have hs3 : ((ad : Int) + (i : Int)).toNat = ad + i := by omega
                  have hs4 : ad + i < N := by omega
                  clear hpl
                  go_wp2
                  go_still_tail 13, (by kernel_rfl)
                  change wpList _ _ _ _ _ wr.drew
                  go_wp2_with fail
                  exact ⟨⟨i + 1, by go_num, by omega, HST.out, HK2.out⟩, by simp [intOf]; omega⟩
                · have hzi : wC.heap.size ≤ wr.heap.size := HKI.out.size
                  have hie : fb.data.toList.take i = fb.data.toList := List.take_of_length_le (by simp; omega)
                  rw [hie] at HRI
                  have hk6 := (HKI.out.block _ zC (fun e : w11.heap.size = w9.heap.size => by omega)).trans HSB.out
                  have y6 : wr.cell? ⟨w11.heap.size, 6, none⟩ = some (.slice q2 yt.length d2) := Lib.cell_of_heap hk6 6
                  have HBI9 : Hid (Below w9.heap.size w9 wr) := HBC9.out.trans (HKI.out.below HBC9.out.size (fun q hq e => by omega))
                  have HBIW : Hid (Below w.heap.size w wr) := HB9.out.trans (HBI9.out.mono HB9.out.size)
                  have HNR := Lib.hid (SymIn.keep HBIW.out HIN.out).2.1
                  obtain ⟨pz, cz, bz, oz, hez, -, -, hpz, hcz⟩ := HNR.out
                  cases hez
                  have HPZ := Lib.hid hpz
                  have HCZ := Lib.hid hcz
                  have HOI : Hid (wr.ownsRow w10.heap.size 219 3 (.slice pn nt.length cn) nt.length (nt.flatMap noteCells)) := own_congr HON.out fun q hq => (HKI.out.block q (by have := (HON.out.lt q hq).2; omega) (fun e : q = w9.heap.size => by have := (HON.out.lt q hq).1; omega)).trans (HBRC.out.block q (HON.out.lt q hq).2)
                  simp only [] at hpz hcz HPZ HCZ
                  clear hk6 hie hpz hcz
                  go_wp2_with (at_builtin; refine wpList_append_src rfl _ _ 70 rfl w10.heap.size 219 iN _ 3 12 Tryz.underlying70 HI.out.1 HI.out.2.1 HI.out.2.2.1 HI.out.2.2.2 rfl (by decide) (.slice pn nt.length cn) nt.length (nt.flatMap noteCells) rfl HOI.out q2 yt.length d2 bz oz (yt.flatMap noteCells) rfl HPZ.out (by rw [flat_len noteCells_len]) (fun _ => note_news HCZ.out) noteCells_one (by unfold maxLen; omega) (by omega) (by omega) ?_)
                  intro v' w' hown3 hgrow3
                  obtain ⟨pw3, cw3, rfl⟩ := own_shape hown3
                  have HO3 := Lib.hid hown3
                  have HBF : Hid (Below w9.heap.size w9 w') := HBI9.out.grown hgrow3 HBI9.out.size (fun q e => by have := (HOI.out.lt q e).1; omega)
                  have HRF : Hid (ByteRow w' w9.heap.size (putB b fb.data.toList ad)) := HRI.out.congr (hgrow3.block _ HRI.out.lt (fun e => by have := (HOI.out.lt _ e.symm).1; omega))
                  clear hown3 hgrow3
                  go_wp2
                  go_roundw
                  case rel =>
                    refine ⟨k + 1, putB b fb.data.toList ad, by go_num, by omega, ?_, HRF.out, HG2.out.symm.trans HGO.out, ?_, ?_, ?_, HBF.out⟩
                    · have e : fb.size = fb.data.toList.length := by simp
                      rw [putB_length (by rw [HBL.out, ← e]; omega), HBL.out]
                    · rw [HSK.out, List.length_append]; omega
                    · rw [HSK.out]; intro x hx
                      rcases List.mem_append.1 hx with hx | hx
                      · exact HNN.out x hx
                      · exact row_num HNR.out x hx
                    · rw [HSK.out, List.length_append, List.flatMap_append, z10]; exact HO3.out
                  case measure => simp [intOf]; omega
          · have hke : k = ps.length := by omega
            subst hke
            have HE := Lib.hid (HGO.out.symm.trans (fillGo_end hlt))
            have htk : ps.take ps.length = ps := List.take_length
            rw [htk] at hnl HNN HON
            rw [HE.out, linkEnd, if_neg (by simp)] at HLR
            have HDM := Lib.hid (rOf11_any _ (notesOf l ps) wr (note_row HON.out (by omega) HNN.out) (by omega))
            clear htk hlt HGO HE
            generalize demandR (notesOf l ps) = D at HDM HLR
            obtain ⟨⟨dp, de, dq, dc⟩, dn⟩ := D
            unfold ManPost11 at HDM
            simp only [] at HDM HLR
            go_wp2_with fail
            refine HDM.out.mono ?_
            rintro e w12 ⟨ve, vp, rfl, hma, hB12⟩
            have HMA := Lib.hid hma
            obtain ⟨⟨pe, ce, _, _, rfl, -⟩, ⟨pu, cu, _, _, rfl, -⟩, -⟩ := hma
            simp only [] at *
            have HB12 : Hid (Below w9.heap.size w9 w12) := HB.out.trans (hB12.mono HB.out.size)
            have HR12 := Lib.hid ((HB12.out.block _ (by omega)).trans HR9.out)
            have HM12 := Lib.hid ((HB12.out.block _ z9).trans HM9.out)
            have HRW12 := Lib.hid (HRW.out.below hB12)
            have hg12 : w9.heap.size < w12.heap.size := HRW12.out.lt
            clear hB12 HDM HON HNN HRW HB
            by_cases hdn : dn = 0
            rotate_left
            · have hdb : (dn != 0) = true := by simpa using hdn
              rw [if_pos hdn] at HLR
              clear hdn
              have hr := ((alloc_old w12 (.cells #[.int .u32 dp, .slice pe de.length ce, .slice pu dq.length cu, .bool dc] 31)).block _ (by omega)).trans HR12.out
              obtain ⟨r0, r1, r2, r3, r4, r5, r6, rz⟩ := zfacts hr
              have HPUT := Lib.hid (sevens (zput (u0 := .int .u32 0) (u1 := .slice none 0 0) (u2 := .slice none 0 0) (u3 := .bool false) (u4 := .int .u32 0) (u5 := .slice none 0 0) (u6 := .slice none 0 0) hr))
              have HB13 : Hid (Below w.heap.size w (w12.alloc (.cells #[.int .u32 dp, .slice pe de.length ce, .slice pu dq.length cu, .bool dc] 31))) := HB9.out.trans ((HB12.out.alloc HB12.out.size _).mono HB9.out.size)
              clear hr
              go_wp2_with fail
              obtain ⟨x0, x1, x2, x3, x4, x5, x6⟩ := HPUT.out
              refine bodyPost_ret (v := .tuple #[.agg #[.int .u32 0, .slice none 0 0, .slice none 0 0, .bool false, .int .u32 0, .slice none 0 0, .slice none 0 0], .string ⟨#[]⟩, .int .i64 dn]) (by simp [results, Tryz.results18, go_sem, x0, x1, x2, x3, x4, x5, x6]) rfl ?_
              exact ⟨(link0, emptyB, dn), .inr ⟨_, K, HKY.out, HLR.out.symm⟩, _, _, _, _, rfl, link0_at _, put7_below HB13.out (Nat.le_refl _)⟩
            · subst hdn
              rw [if_neg (by simp)] at HLR
              have m0 : w12.cell? ⟨w3.heap.size, 0, none⟩ = some (.int .i64 pa) := Lib.cell_of_heap HM12.out 0
              have m1 : w12.cell? ⟨w3.heap.size, 1, none⟩ = some (.int .i64 pb) := Lib.cell_of_heap HM12.out 1
              have hm12 : w3.heap.size < w12.heap.size := by omega
              have HX14 : Hid (((w12.alloc (.cells #[.int .u32 dp, .slice pe de.length ce, .slice pu dq.length cu, .bool dc] 31)).alloc (.cells #[.int .u32 dp, .slice pe de.length ce, .slice pu dq.length cu, .bool dc, .int .u32 0, .slice none 0 0, .slice pw wh.length cw] 37)).heap[w12.heap.size + 1]? = some (.cells (xcells dp (.slice pe de.length ce) (.slice pu dq.length cu) dc 0 (.slice none 0 0) (.slice pw wh.length cw)) 37 (0, 0))) := by
                have := new_block (w12.alloc (.cells #[.int .u32 dp, .slice pe de.length ce, .slice pu dq.length cu, .bool dc] 31)) (.cells #[.int .u32 dp, .slice pe de.length ce, .slice pu dq.length cu, .bool dc, .int .u32 0, .slice none 0 0, .slice pw wh.length cw] 37)
                rw [Hid]; simpa [xcells] using this
              have HB14 : Hid (Below w12.heap.size w12 ((w12.alloc (.cells #[.int .u32 dp, .slice pe de.length ce, .slice pu dq.length cu, .bool dc] 31)).alloc (.cells #[.int .u32 dp, .slice pe de.length ce, .slice pu dq.length cu, .bool dc, .int .u32 0, .slice none 0 0, .slice pw wh.length cw] 37))) := (alloc_old w12 _).alloc (by simp) _
              have z14 : ((w12.alloc (.cells #[.int .u32 dp, .slice pe de.length ce, .slice pu dq.length cu, .bool dc] 31)).alloc (.cells #[.int .u32 dp, .slice pe de.length ce, .slice pu dq.length cu, .bool dc, .int .u32 0, .slice none 0 0, .slice pw wh.length cw] 37)).heap.size = w12.heap.size + 2 := by simp
              go_wp2_with fail
              generalize ((w12.alloc (.cells #[.int .u32 dp, .slice pe de.length ce, .slice pu dq.length cu, .bool dc] 31)).alloc (.cells #[.int .u32 dp, .slice pe de.length ce, .slice pu dq.length cu, .bool dc, .int .u32 0, .slice none 0 0, .slice pw wh.length cw] 37)) = w14 at HX14 HB14 z14 ⊢
              have HB149 : Hid (Below w9.heap.size w9 w14) := HB12.out.trans (HB14.out.mono HB12.out.size)
              have HLN := Lib.hid (layFind_num HWA.out (toG (pa, pb)))
              have HLF := Lib.hid (refFind14_any _ wh (toG (pa, pb)) w14 (HWA.out.keep addrR_keeps HB149.out))
              generalize layFind wh (toG (pa, pb)) = lf at HLF HLN HLR
              obtain ⟨la, lb⟩ := lf
              unfold toG at HLF
              simp only [] at HLF HLN HLR
              clear m0 m1
              refine HLF.out.mono ?_
              rintro e w15 ⟨rfl, hB15⟩
              have HX15 := Lib.hid ((hB15.block _ (by omega)).trans HX14.out)
              have HB15 : Hid (Below w12.heap.size w12 w15) := HB14.out.trans (hB15.mono HB14.out.size)
              have k4 : w15.cell? ⟨w12.heap.size + 1, 4, none⟩ = some (.int .u32 0) := Lib.cell_of_heap HX15.out 4
              have kz : w15.frozen? ⟨w12.heap.size + 1, 4, none⟩ = false := Lib.frozen_of_heap HX15.out 4
              have HX16 := Lib.hid (x_ent (n := la) HX15.out)
              have HB16 : Hid (Below w12.heap.size w12 (w15.setCell ⟨w12.heap.size + 1, 4, none⟩ (.int .u32 la))) := HB15.out.setCell (by show w12.heap.size ≤ w12.heap.size + 1; omega) _
              clear hB15 HLF HX14 HB14 HB149 z14 HX15 HB15
              obtain ⟨iS, s0, s1, s2, s3⟩ := info_parts info_seg
              have HIS := Lib.hid (And.intro s0 (And.intro s1 (And.intro s2 s3)))
              clear s0 s1 s2 s3
              go_wp2_with fail
              clear k4 kz
              generalize (w15.setCell ⟨w12.heap.size + 1, 4, none⟩ (.int .u32 la)) = wo at HX16 HB16 ⊢
              have HXB : Hid (w12.heap.size < w12.heap.size + 1) := Nat.lt_succ_self _
              generalize w12.heap.size + 1 = xb at HX16 HXB ⊢
              have HB169 : Hid (Below w9.heap.size w9 wo) := HB12.out.trans (HB16.out.mono HB12.out.size)
              have HRo := Lib.hid ((HB16.out.block _ (by omega)).trans HR12.out)
              have HRWo := Lib.hid (HRW12.out.below HB16.out)
              have hxo : xb < wo.heap.size := (Array.getElem?_eq_some_iff.1 HX16.out).1
              have hzo : w12.heap.size ≤ wo.heap.size := HB16.out.size
              go_loopw [25] (fun v25 wy => ∃ (j : Nat) (vs : Value), v25 = .int .i64 j ∧ j ≤ sp.length ∧ wy.heap[xb]? = some (.cells (xcells dp (.slice pe de.length ce) (.slice pu dq.length cu) dc la vs (.slice pw wh.length cw)) 37 (0, 0)) ∧
                wy.ownsRow wo.heap.size 107 3 vs j (((sp.take j).map (segOf b)).flatMap segCells) ∧ KB (fun q => q = xb) wo wy) (fun v25 _ => sp.length - (intOf v25).toNat)
              case atStart => exact ⟨0, .slice none 0 0, by go_num, Nat.zero_le _, HX16.out, World.ownsRow_nil _ _ _ _, KB.refl _ _⟩
              case round =>
                obtain ⟨j, vs, rfl, hj, hby, hoy, hky⟩ := hrel
                have HBY := Lib.hid hby; clear hby
                have HOY := Lib.hid hoy
                have HKY2 := Lib.hid hky; clear hky
                obtain ⟨pv2, cv2, rfl⟩ := own_shape hoy
                clear hoy
                have hzy := HKY2.out.size
                have HBY12 : Hid (Below w12.heap.size w12 wr) := HB16.out.trans (HKY2.out.below HB16.out.size (fun q hq e => by have := HXB.out; omega))
                have HBY9 : Hid (Below w9.heap.size w9 wr) := HB12.out.trans (HBY12.out.mono HB12.out.size)
                by_cases hlj : j < sp.length
                · obtain ⟨p', cap', b', o', he, -, -, hp', hc'⟩ := HWS.out.keep spanR_keeps HBY9.out
                  cases he
                  obtain rfl := hp' (by omega)
                  obtain ⟨g0, g1, g2, g3, hk, hat, hsz⟩ := hc' j hlj
                  obtain ⟨hs1, hs2, hs3⟩ := HOK.out.spn _ (List.getElem_mem hlj)
                  have hkk := HSP.out.2.2 _ (List.getElem_mem hlj)
                  have hfew := HOK.out.few
                  have hSN : Hid (((sp.take (j + 1)).map (segOf b)).flatMap segCells = ((sp.take j).map (segOf b)).flatMap segCells ++ segCells (segOf b sp[j])) := by
                    rw [Hid, List.take_succ_eq_append_getElem hlj, List.map_append, List.flatMap_append]; simp only [List.map_cons, List.map_nil, List.flatMap_cons, List.flatMap_nil, List.append_nil]
                  generalize sp[j] = x at g1 g2 g3 hk hat hsz hs1 hs2 hs3 hSN hkk
                  obtain ⟨xk, xa, xz⟩ := x
                  simp only [] at g1 g2 g3 hk hat hsz hs1 hs2 hs3 hSN hkk
                  obtain ⟨an, rfl⟩ := Int.eq_ofNat_of_zero_le hs1
                  obtain ⟨zn, rfl⟩ := Int.eq_ofNat_of_zero_le (show 0 ≤ xz by omega)
                  have hfit : an + zn ≤ N := by omega
                  have hz1 : 1 ≤ zn := by omega
                  have hsum : IntKind.u32.wrap ((an : Int) + (zn : Int)) = ((an + zn : Nat) : Int) := by rw [IntKind.wrap_u32]; omega
                  have s1 : 0 ≤ (an : Int) + (zn : Int) ∧ (an : Int) + (zn : Int) ≤ 131072 := by omega
                  have s1N : (an : Int) + (zn : Int) ≤ (N : Int) := by omega
                  have s2 : an ≤ ((an : Int) + (zn : Int)).toNat := by omega
                  have s2N : ((an : Int) + (zn : Int)).toNat ≤ N := by omega
                  have s2M : an < N := by omega
                  have s3 : ¬ N = an := by omega
                  have s4 : ((an : Int) + (zn : Int)).toNat - an = zn := by omega
                  have hBy : ByteRow wr w9.heap.size b := HRWo.out.congr (HKY2.out.block _ HRWo.out.lt (fun e : w9.heap.size = xb => by have := HXB.out; omega))
                  clear hp' hc' hs1 hs2 hs3 hat hsz
                  have q0 : (wr.alloc (.cells #[.int .u8 xk, .int .u32 an, .int .u32 zn] 136)).cell? ⟨wr.heap.size, 0, none⟩ = some (.int .u8 xk) := by simp [go_sem]
                  have q1 : (wr.alloc (.cells #[.int .u8 xk, .int .u32 an, .int .u32 zn] 136)).cell? ⟨wr.heap.size, 1, none⟩ = some (.int .u32 an) := by simp [go_sem]
                  have q2 : (wr.alloc (.cells #[.int .u8 xk, .int .u32 an, .int .u32 zn] 136)).cell? ⟨wr.heap.size, 2, none⟩ = some (.int .u32 zn) := by simp [go_sem]
                  have hby1 : xb < wr.heap.size := (Array.getElem?_eq_some_iff.1 HBY.out).1
                  have HSB0 := new_block wr (.cells #[.int .u8 xk, .int .u32 an, .int .u32 zn] 136)
                  have HBA : Hid (Below wr.heap.size wr (wr.alloc (.cells #[.int .u8 xk, .int .u32 an, .int .u32 zn] 136))) := alloc_old wr _
                  have zA : (wr.alloc (.cells #[.int .u8 xk, .int .u32 an, .int .u32 zn] 136)).heap.size = wr.heap.size + 1 := by simp
                  go_wp2
                  generalize hWA : (wr.alloc (.cells #[.int .u8 xk, .int .u32 an, .int .u32 zn] 136)) = wA at *
                  clear hWA
                  have HOA := Lib.hid (own_congr HOY.out fun q hq => HBA.out.block q (HOY.out.lt q hq).2)
                  have HBXA := Lib.hid ((HBA.out.block xb hby1).trans HBY.out)
                  have hBA := (hBy.below HBA.out)
                  have HRA := Lib.hid hBA; clear hBA hBy
                  have x5 : wA.cell? ⟨xb, 5, none⟩ = some (.slice pv2 j cv2) := Lib.cell_of_heap HBXA.out 5
                  have HPM : Hid (∀ W, Calls Tryz.prog 69 #[.int .u8 xk] W fun e w' => e = .returned (.int .u8 (permK xk)) ∧ Below W.heap.size W w') := fun W => rperm_any xk W hkk
                  have hst : Hid (segOf b ⟨xk, an, zn⟩ = ⟨(an : Int), permK xk, bsOf ((b.drop an).take zn)⟩) := rfl
                  rw [hst.out] at hSN
                  generalize hbs : bsOf ((b.drop an).take zn) = bs at hSN
                  have HBS := Lib.hid hbs
                  have hcv0 := run_bytes_of_row (P := Tryz.prog) (HRA.out.below (Below.refl _ _).drew) 130 9 5 an zn (N - an) Tryz.underlying130 Tryz.underlying5 Tryz.underlying9 (by rw [HBL.out]; omega)
                  rw [hbs] at hcv0
                  clear hbs hst g1 g2 g3 hk hkk
                  generalize permK xk = pk at HPM hSN
                  have hx5 : wA.drew.cell? ⟨xb, 5, none⟩ = some (.slice pv2 j cv2) := x5
                  have HSB : Hid (wA.heap[wr.heap.size]? = some (.cells #[.int .u8 xk, .int .u32 an, .int .u32 zn] 136 (0, 0))) := HSB0
                  have hq0 : wA.drew.cell? ⟨wr.heap.size, 0, none⟩ = some (.int .u8 xk) := Lib.cell_of_heap HSB.out 0
                  have hq1 : wA.drew.cell? ⟨wr.heap.size, 1, none⟩ = some (.int .u32 an) := Lib.cell_of_heap HSB.out 1
                  have hq2 : wA.drew.cell? ⟨wr.heap.size, 2, none⟩ = some (.int .u32 zn) := Lib.cell_of_heap HSB.out 2
                  have hj3 : j ≤ 3 := by omega
                  have hnx : ¬ wr.heap.size = xb := by omega
                  have h9r : w9.heap.size < wr.heap.size := by omega
                  clear q0 q1 q2 x5
                  obtain ⟨S, hSd⟩ : ∃ S : World → Prop, ∀ w', S w' ↔ (w'.cell? ⟨xb, 5, none⟩ = some (.slice pv2 j cv2) ∧ w'.cell? ⟨wr.heap.size, 0, none⟩ = some (.int .u8 xk) ∧ w'.cell? ⟨wr.heap.size, 1, none⟩ = some (.int .u32 an) ∧ w'.cell? ⟨wr.heap.size, 2, none⟩ = some (.int .u32 zn) ∧ (convert 130 9 (.slice (some ⟨w9.heap.size, an, none⟩) zn (N - an))).run Tryz.prog w' = .ok (.string bs) w') := ⟨_, fun _ => Iff.rfl⟩
                  have HSD := Lib.hid hSd; clear hSd
                  have hS0 : S wA.drew := (HSD.out _).2 ⟨hx5, hq0, hq1, hq2, hcv0⟩
                  have hS1 := fun x : HW S => (HSD.out _).1 x.h
                  have c5 := fun x => (hS1 x).1
                  have c0 := fun x => (hS1 x).2.1
                  have c1 := fun x => (hS1 x).2.2.1
                  have c2 := fun x => (hS1 x).2.2.2.1
                  have c3 := fun x => (hS1 x).2.2.2.2
                  haveI : Nonempty (HW S) := ⟨⟨_, hS0⟩⟩
                  refine wp_region_marks S [.r, .r, .r, .r, .r, .r, .r, .u, .r, .r, .r, .r, .r, .r, .r, .r, .r, .r, .u, .u, .u, .p, .p, .p] rfl (by kernel_rfl) hS0 ?_
                  clear hS0 hcv0 hx5 hq0 hq1 hq2 hS1
                  repeat (refine wpReads_step (fun K hK => ?_); go_simp; refine hK _ ?_; clear hK K)
                  refine wpReads_nil ?_
                  clear c5 c0 c1 c2 c3
                  refine wpTurns_step fun K hK => ?_
                  refine step_call rfl 69 #[.tmp 181] #[5] rfl Tryz.func69 (by kernel_rfl) (by kernel_rfl) #[.int .u8 xk] (by simp [Act.eval]) (HPM.out _) ?_
                  rintro e wn ⟨rfl, hBn⟩
                  have ds : wn.heap[wr.heap.size]? = some (.cells #[.int .u8 xk, .int .u32 an, .int .u32 zn] 136 (0, 0)) := (hBn.block _ (by show _ < wA.heap.size; omega)).trans HSB.out
                  have db : wn.heap[xb]? = some (.cells (xcells dp (.slice pe de.length ce) (.slice pu dq.length cu) dc la (.slice pv2 j cv2) (.slice pw wh.length cw)) 37 (0, 0)) := (hBn.block xb (by show _ < wA.heap.size; omega)).trans HBXA.out
                  have hrn := (HRA.out.below (Below.refl _ _).drew).below hBn
                  have hSof : Hid (∀ u : World, u.heap[wr.heap.size]? = wn.heap[wr.heap.size]? → u.heap[xb]? = wn.heap[xb]? → u.heap[w9.heap.size]? = wn.heap[w9.heap.size]? → S u) := fun u h1 h2 h3 =>
                    (HSD.out u).2 ⟨Lib.cell_of_heap (h2.trans db) 5, Lib.cell_of_heap (h1.trans ds) 0, Lib.cell_of_heap (h1.trans ds) 1, Lib.cell_of_heap (h1.trans ds) 2, by
                      have := run_bytes_of_row (P := Tryz.prog) (hrn.congr h3) 130 9 5 an zn (N - an) Tryz.underlying130 Tryz.underlying5 Tryz.underlying9 (by rw [HBL.out]; omega)
                      rw [HBS.out] at this; exact this⟩
                  have HOWN : Hid ((wn.alloc (.cells #[.int .u32 an, .int .u8 pk, .string bs] 107)).ownsRow wo.heap.size 107 3 (.slice pv2 j cv2) j (((sp.take j).map (segOf b)).flatMap segCells)) := (own_congr HOA.out fun g hg => hBn.block g (HOA.out.lt g hg).2).alloc _
                  have hzn : wA.heap.size ≤ wn.heap.size := hBn.size
                  have HBN := Lib.hid hBn; have HDB := Lib.hid db; have HDS := Lib.hid ds
                  clear hBn db ds hrn
                  refine ⟨_, rfl, hK _ _ (hSof.out _ rfl rfl rfl) ?_⟩
                  clear hK K
                  simp only [Act.put, List.setIfInBounds_toArray, List.set_cons_zero, List.set_cons_succ]
                  refine wpTurns_step fun K hK => ?_
                  go_simp
                  refine hK _ _ (hSof.out _ rfl rfl rfl) ?_
                  clear hK K
                  refine wpTurns_step fun K hK => ?_
                  go_simp
                  have hA : ∀ q, q < wn.heap.size → (wn.alloc (.cells #[.int .u32 an, .int .u8 pk, .string bs] 107)).heap[q]? = wn.heap[q]? := fun q hq => Below.heap_alloc _ _ _ hq
                  refine hK _ _ (hSof.out _ (hA _ (by omega)) (hA _ (by omega)) (hA _ (by omega))) ?_
                  clear hK K
                  refine wpTurns_step fun K hK => ?_
                  refine step_append_own_at rfl (.tmp 177) (.tmp 194) 32 rfl wo.heap.size 107 iS _ 3 24 Tryz.underlying32 HIS.out.1 HIS.out.2.1 HIS.out.2.2.1 HIS.out.2.2.2 rfl (by decide) (.slice pv2 j cv2) j (((sp.take j).map (segOf b)).flatMap segCells) (by simp [Act.eval]) HOWN.out ⟨wn.heap.size, 0, none⟩ 1 1 [.int .u32 an, .int .u8 pk, .string bs] (by simp [Act.eval]) rfl (three_news (by simp [go_sem]) (by simp [go_sem]) (by simp [go_sem])) three_one (by unfold maxLen; omega) (by omega) (by simp; omega) ?_
                  intro v' w5 hown hgrow hv
                  obtain ⟨pw5, cw5, rfl⟩ := own_shape hown
                  have hb5 := grow_box hgrow HOWN.out HDB.out (by decide)
                  have hs5 := grow_box hgrow HOWN.out HDS.out (by decide)
                  have hr5 : w5.heap[w9.heap.size]? = wn.heap[w9.heap.size]? := (hgrow.block _ (by simp; omega) (fun e => by have := (HOWN.out.lt _ e.symm).1; omega)).trans (hA _ (by omega))
                  refine hK _ _ (hSof.out _ (hs5.trans HDS.out.symm) (hb5.trans HDB.out.symm) hr5) ?_
                  clear hK K
                  simp only [Act.put, List.setIfInBounds_toArray, List.set_cons_zero, List.set_cons_succ]
                  refine wpTurns_nil ?_
                  have e3 : w5.cell? ⟨xb, 5, none⟩ = some (.slice pv2 j cv2) := Lib.cell_of_heap hb5 5
                  have e4 : w5.frozen? ⟨xb, 5, none⟩ = false := Lib.frozen_of_heap hb5 5
                  have HB5 := Lib.hid hb5
                  have HG5 := Lib.hid (And.intro hown hgrow)
                  clear hown hgrow hv hb5 hs5 hr5 hA
                  simp only [pickP]
                  go_wp2
                  refine NoPanic.normal ?_
                  go_wp2
                  go_roundw
                  case rel =>
                    have hb2 := x_seg (u := .slice pw5 (j + 1) cw5) HB5.out
                    have hno : ¬ (Value.slice pw5 (j + 1) cw5).ownBlock = some xb := own_ne_box HG5.out.1 HB5.out (by decide)
                    have hw0 : wo.heap.size ≤ wn.heap.size := by omega
                    refine ⟨j + 1, .slice pw5 (j + 1) cw5, by go_num, by omega, hb2, ?_, ?_⟩
                    · rw [hSN.out]
                      exact own_congr HG5.out.1 fun q hq => Below.heap_setCell _ _ _ _ (fun e => hno (hq.trans (congrArg some e)))
                    · exact ((((((HKY2.out.trans (KB.of_below HBA.out)).drew).trans (KB.of_below HBN.out)).alloc _).grown HG5.out.2 (fun q hq => .inr ((HOWN.out.lt q hq).1))).setCell (.inl rfl) _)
                  case measure => simp [intOf]; omega
                · obtain rfl : j = sp.length := by omega
                  have htk : sp.take sp.length = sp := List.take_length
                  rw [htk] at HOY
                  have b0 : wr.cell? ⟨xb, 0, none⟩ = some (.int .u32 dp) := Lib.cell_of_heap HBY.out 0
                  have b1 : wr.cell? ⟨xb, 1, none⟩ = some (.slice pe de.length ce) := Lib.cell_of_heap HBY.out 1
                  have b2 : wr.cell? ⟨xb, 2, none⟩ = some (.slice pu dq.length cu) := Lib.cell_of_heap HBY.out 2
                  have b3 : wr.cell? ⟨xb, 3, none⟩ = some (.bool dc) := Lib.cell_of_heap HBY.out 3
                  have b4 : wr.cell? ⟨xb, 4, none⟩ = some (.int .u32 la) := Lib.cell_of_heap HBY.out 4
                  have b5 : wr.cell? ⟨xb, 5, none⟩ = some (.slice pv2 sp.length cv2) := Lib.cell_of_heap HBY.out 5
                  have b6 : wr.cell? ⟨xb, 6, none⟩ = some (.slice pw wh.length cw) := Lib.cell_of_heap HBY.out 6
                  have hr := (HBY12.out.block _ (by omega)).trans HR12.out
                  have HRf := Lib.hid hr
                  obtain ⟨r0, r1, r2, r3, r4, r5, r6, rz⟩ := zfacts hr
                  have HPUT := Lib.hid (sevens (zput (u0 := .int .u32 dp) (u1 := .slice pe de.length ce) (u2 := .slice pu dq.length cu) (u3 := .bool dc) (u4 := .int .u32 la) (u5 := .slice pv2 sp.length cv2) (u6 := .slice pw wh.length cw) hr))
                  have HBYW : Hid (Below w.heap.size w wr) := HB9.out.trans (HBY9.out.mono HB9.out.size)
                  have hwo9 : w.heap.size < wo.heap.size := by omega
                  clear hr htk
                  go_wp2_with fail
                  obtain ⟨x0, x1, x2, x3, x4, x5, x6⟩ := HPUT.out
                  refine bodyPost_ret (v := .tuple #[.agg #[.int .u32 dp, .slice pe de.length ce, .slice pu dq.length cu, .bool dc, .int .u32 la, .slice pv2 sp.length cv2, .slice pw wh.length cw], .string ⟨#[]⟩, .int .i64 0]) (by simp [results, Tryz.results18, go_sem, x0, x1, x2, x3, x4, x5, x6]) rfl ?_
                  refine ⟨(⟨⟨dp, de, dq, dc⟩, la, sp.map (segOf b), wh⟩, emptyB, 0), .inr ⟨_, K, HKY.out, HLR.out.symm⟩, .slice pe de.length ce, .slice pu dq.length cu, .slice pv2 sp.length cv2, .slice pw wh.length cw, rfl, ⟨?_, ?_, ?_, HLN.out.1, HLN.out.2⟩, put7_below HBYW.out (Nat.le_refl _)⟩
                  · exact man_z (HMA.out.keep HBY12.out) HRf.out (put7_kb wr w.heap.size)
                  · exact seg_row (own_congr HOY.out fun q hq => by have := HOY.out.lt q hq; exact put7_other (by omega)) HSP.out.1 HSP.out.2.1
                  · exact addr_kb (HWA.out.keep addrR_keeps HBY9.out) (put7_kb wr w.heap.size) (fun j n => zlink_cells HRf.out _ (by simp [zlink]) j)
  · have HKE := Lib.hid hke
    have hcb : (c != 0) = true := by simpa using hc
    have hr := (hB2.block _ (by omega)).trans HR1.out
    obtain ⟨r0, r1, r2, r3, r4, r5, r6, rz⟩ := zfacts hr
    have HPUT := Lib.hid (sevens (zput (u0 := .int .u32 0) (u1 := .slice none 0 0) (u2 := .slice none 0 0) (u3 := .bool false) (u4 := .int .u32 0) (u5 := .slice none 0 0) (u6 := .slice none 0 0) hr))
    have HB2 : Hid (Below w.heap.size w w2) := HB1.out.trans (hB2.mono (by omega))
    have HC := Lib.hid hc
    clear hB2 hke hr hc
    go_wp2_with fail
    obtain ⟨x0, x1, x2, x3, x4, x5, x6⟩ := HPUT.out
    refine bodyPost_ret (v := .tuple #[.agg #[.int .u32 0, .slice none 0 0, .slice none 0 0, .bool false, .int .u32 0, .slice none 0 0, .slice none 0 0], .string n, .int .i64 c]) (by simp [results, Tryz.results18, go_sem, x0, x1, x2, x3, x4, x5, x6]) rfl ?_
    exact ⟨(link0, n, c), .inl ⟨n, c, HC.out, HKE.out, rfl⟩, _, _, _, _, rfl, link0_at _, put7_below HB2.out (Nat.le_refl _)⟩
end Go.Proofs.YtdjgkmpjhpnkeaaGreatDoor
