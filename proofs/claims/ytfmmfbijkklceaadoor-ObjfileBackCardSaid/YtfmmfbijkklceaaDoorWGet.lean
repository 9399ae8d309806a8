/- The walk of objfile.Get. -/
import Derived.Test.YtfmmfbijkklceaaDoorWGet1
import Derived.Test.YtfmmfbijkklceaaDoorPackFit
import Derived.Test.YtfmmfbijkklceaaDoorWObjMay
namespace Go.Proofs.YtfmmfbijkklceaaDoor
open Go.RowKit Go.Maps
/-- an object that was made: its row of symbols and their rows are new -/
def Fresh (B : Nat) (w : World) (o : GObj) (vs : Value) : Prop := ∃ ts : List SymT, ts.map (·.1) = o.syms ∧ w.ownsRow B 47 7 vs ts.length (ts.flatMap symCells) ∧ ∀ t ∈ ts, SymOwn B w vs t
theorem Fresh.keep {B : Nat} {w w' : World} {o : GObj} {vs : Value} (h : Fresh B w o vs) (hb : Below w.heap.size w w') : Fresh B w' o vs := by
  obtain ⟨ts, h1, h2, h3⟩ := h
  exact ⟨ts, h1, ownsRow_below hb h2, fun t ht => SymOwn.keep hb (h3 t ht)⟩
theorem Fresh.mono {B B' : Nat} {w : World} {o : GObj} {vs : Value} (h : Fresh B w o vs) (hb : B' ≤ B) : Fresh B' w o vs := by
  obtain ⟨ts, h1, h2, h3⟩ := h
  exact ⟨ts, h1, owns_mono h2 hb, fun t ht => ⟨owns_mono (h3 t ht).1 hb, owns_mono (h3 t ht).2.1 hb, (h3 t ht).2.2⟩⟩
theorem Fresh.shape {B : Nat} {w : World} {o : GObj} {vs : Value} (h : Fresh B w o vs) : ∃ p c, vs = .slice p o.syms.length c := by
  obtain ⟨ts, h1, h2, h3⟩ := h
  rw [← h1, List.length_map]; exact own_shape h2
theorem rel_in {w : World} {v : Value} {base : Nat} {e : TypeId} {l : List GRel} (hf : ∀ x ∈ l, RelFit x) (hl : l.length ≤ 140737488355328) (h : w.ownsRow base e 4 v l.length (l.flatMap relCells)) : RowAt 4 RelR w v l := by
  refine owned_row relCells_len h hl fun g o' i hi hg hcell => ?_
  obtain ⟨f1, f2, f3, f4⟩ := hf _ (List.getElem_mem hi)
  exact ⟨hg, hcell 0 _ (by omega) rfl, hcell 1 _ (by omega) rfl, hcell 2 _ (by omega) rfl, hcell 3 _ (by omega) rfl, by omega, by omega, by omega, by omega⟩
theorem note_in {w : World} {v : Value} {base : Nat} {e : TypeId} {l : List GNote} (hf : ∀ x ∈ l, NoteFit x) (hl : l.length ≤ 140737488355328) (h : w.ownsRow base e 3 v l.length (l.flatMap noteCells)) : RowAt 3 NoteR w v l := by
  refine owned_row noteCells_len h hl fun g o' i hi hg hcell => ?_
  obtain ⟨f1, f2, f3⟩ := hf _ (List.getElem_mem hi)
  exact ⟨hg, hcell 0 _ (by omega) rfl, hcell 1 _ (by omega) rfl, hcell 2 _ (by omega) rfl, by omega, by omega, by omega⟩
theorem Fresh.objIn {B : Nat} {w : World} {o : GObj} {vs : Value} (h : Fresh B w o vs) (hf : ObjFit o) : ObjIn w o vs := by
  obtain ⟨ts, h1, h2, h3⟩ := h
  obtain ⟨f1, f2, f3⟩ := hf
  refine ⟨?_, by omega⟩
  have hl : ts.length = o.syms.length := by rw [← h1, List.length_map]
  rw [← h1]
  refine sym_back h2 (by omega) fun t ht => ?_
  obtain ⟨q1, q2, q3, q4, q5, q6, q7, q8, q9⟩ := f3 t.1 (by rw [← h1]; exact List.mem_map_of_mem ht)
  obtain ⟨s1, s2, -, -⟩ := h3 t ht
  exact ⟨rel_in q7 (by omega) s1, note_in q9 (by omega) s2, by omega, by omega, by omega, by omega, by omega⟩
theorem Fresh.congr {B : Nat} {w w' : World} {o : GObj} {vs : Value} (h : Fresh B w o vs) (hk : ∀ g, B ≤ g → w'.heap[g]? = w.heap[g]?) : Fresh B w' o vs := by
  obtain ⟨ts, h1, h2, h3⟩ := h
  refine ⟨ts, h1, own_congr h2 fun g hg => hk g (h2.lt g hg).1, fun t ht => ?_⟩
  obtain ⟨a, b, c, d⟩ := h3 t ht
  exact ⟨own_congr a fun g hg => hk g (a.lt g hg).1, own_congr b fun g hg => hk g (b.lt g hg).1, c, d⟩
theorem fresh_away {B B' : Nat} {w w' : World} {o : GObj} {vs : Value} (h : Fresh B w o vs) (hb : B' ≤ B) (hk : ∀ g, B ≤ g → w'.heap[g]? = w.heap[g]?) : Fresh B' w' o vs := (h.congr hk).mono hb
/-- what is read to its end fits -/
theorem rObj_fit {s m : BL} {o : GObj} (h : rObj s = (m, o, some [])) : ObjFit o := by
  unfold rObj at h
  simp only [] at h
  generalize ha : rTake 4 (some s) = a at h
  obtain ⟨a1, a2⟩ := a
  generalize hb : rText a2 = b at h
  obtain ⟨b1, b2⟩ := b
  generalize hn : rNum 2 b2 = n at h
  obtain ⟨n1, n2⟩ := n
  simp only [] at h
  generalize hr : rMany rSym n1.toNat n2 = rr at h
  obtain ⟨r1, r2⟩ := rr
  simp only [Prod.mk.injEq] at h
  obtain ⟨-, rfl, rfl⟩ := h
  obtain ⟨rfl, q1, q2⟩ := rMany_some (fun _ _ _ => rSym_some) hr
  obtain ⟨rfl, q3⟩ := rNum_some hn
  obtain ⟨rfl, q4⟩ := rText_some hb
  rw [p2] at q3
  exact ⟨q4, by simp only []; omega, q2⟩
def GetPost (s : ByteArray) (w : World) (e : Ending) (w' : World) : Prop :=
  (match getB s.data.toList with
    | some o => ∃ vs, e = .returned (.tuple #[.agg #[.string o.name, vs], .int .i64 0]) ∧ Fresh w.heap.size w' o vs
    | none => e = .returned (.tuple #[.agg #[.string ⟨#[]⟩, .slice none 0 0], .int .i64 7])) ∧ Below w.heap.size w w'
theorem goesO_int (Q : Nat → Prop) (qb ob rb : Nat) (hq : Q qb) (s : ByteArray) (st : RS) (nm : ByteArray) (w0 w : World) (k : Int) (h : ObjSt (fun w st => RdS w rb s st) Q ob rb st nm [] w0 w) (hk : 0 ≤ k ∧ k < 65536) :
    Calls Tryd.prog 29 #[.agg #[.pointer (some ⟨rb, 0, none⟩)], .int .u32 k, .func (.func 31) #[] #[.pointer (some ⟨ob, 0, none⟩), .pointer (some ⟨qb, 0, none⟩)]] w fun e w' => e = .returned (.tuple #[]) ∧ ObjSt (fun w st => RdS w rb s st) Q ob rb (rMany rSym k.toNat st).2 nm (rMany rSym k.toNat st).1 w0 w' := by
  obtain ⟨n, rfl⟩ := Int.eq_ofNat_of_zero_le hk.1
  have := goesO Q qb ob rb hq s st nm [] w0 w n h (by simp; omega)
  rw [List.nil_append] at this
  exact this
theorem rdTake4 (rb : Nat) (s : ByteArray) (st : RS) (w : World) (h : RdS w rb s st) : Calls Tryd.prog 27 #[.pointer (some ⟨rb, 0, none⟩), .int .i64 4] w (TkPost rb 4 s st w) := rdTake_any rb 4 s st w h
set_option maxRecDepth 100000 in
set_option maxHeartbeats 2000000 in
theorem get_any (s : ByteArray) (w : World) (hz : s.size ≤ 140737488355328) :
    Calls Tryd.prog 13 #[.string s] w (GetPost s w) := by
  go_enter Tryd.func13, Tryd.ntmps13
  go_upto_region 1 with fail
  generalize hw0 : w.alloc (.cells #[.string ⟨#[]⟩, .slice none 0 0] 24) = w0
  have HB0 : Hid (Below w.heap.size w w0) := by subst hw0; exact alloc_old _ _
  have hz0 : w.heap.size < w0.heap.size := by subst hw0; simp
  have HR0 : Hid (w0.heap[w.heap.size]? = some (.cells #[.string ⟨#[]⟩, .slice none 0 0] 24 (0, 0))) := by subst hw0; exact heap_alloc_new w _
  clear hw0
  go_wp2_with fail
  refine (new_any s w0 hz).mono ?_
  rintro e w1 ⟨rfl, k1, k2⟩
  have K1 : Hid (RdS w1 w0.heap.size s (some s.data.toList)) := ⟨0, 0, k1, by rw [stOf_ok]; rfl⟩
  have hz1 : w0.heap.size < w1.heap.size := k1.lt
  have HB1 : Hid (Below w.heap.size w w1) := HB0.out.trans (k2.mono (by omega))
  replace HR0 := Lib.hid ((k2.block w.heap.size hz0).trans HR0.out)
  clear k1 k2 HB0
  generalize hrb : w0.heap.size = rb at K1 hz1
  have hrw : w.heap.size < rb := by omega
  clear hrb hz0
  go_upto_region 2 with fail
  generalize hw2 : w1.alloc (.cells #[.pointer (some ⟨rb, 0, none⟩)] 74) = w2
  have HB2 : Hid (Below w1.heap.size w1 w2) := by subst hw2; exact alloc_old _ _
  have HQ : Hid (w2.heap[w1.heap.size]? = some (.cells #[.pointer (some ⟨rb, 0, none⟩)] 74 (0, 0))) := by subst hw2; exact heap_alloc_new w1 _
  have K2 : Hid (RdS w2 rb s (some s.data.toList)) := K1.out.congr (HB2.out.block rb hz1)
  clear hw2 K1
  generalize hqb : w1.heap.size = qb at HQ
  have HQB := Lib.hid hqb; clear hqb
  have c : w2.cell? ⟨qb, 0, none⟩ = some (.pointer (some ⟨rb, 0, none⟩)) := Lib.cell_of_heap HQ.out 0
  go_wp2_with fail
  refine (rdTake4 rb s _ w2 K2.out).mono ?_
  rintro e w3 ⟨c3, rfl, -, k1, k2⟩
  have K3 := Lib.hid k1
  have HK3 : Hid (KR rb w1 w3) := (KB.of_below HB2.out).trans k2
  have HQ3 : Hid (w3.heap[qb]? = some (.cells #[.pointer (some ⟨rb, 0, none⟩)] 74 (0, 0))) := (k2.block qb (Array.getElem?_eq_some_iff.1 HQ.out).1 (by have := HQB.out; omega)).trans HQ.out
  clear k1 k2 K2 HB2 HQ c
  have HM : Hid ((rObj s.data.toList).1 = (rTake 4 (some s.data.toList)).1) := rfl
  have c : w3.cell? ⟨qb, 0, none⟩ = some (.pointer (some ⟨rb, 0, none⟩)) := Lib.cell_of_heap HQ3.out 0
  go_upto_region 3 with fail
  go_wp2_with fail
  refine (readWord_any rb s _ w3 K3.out).mono ?_
  rintro e w4 ⟨rfl, k1, k2⟩
  have K4 := Lib.hid k1
  have HK4 : Hid (KR rb w1 w4) := HK3.out.trans k2
  have HQ4 : Hid (w4.heap[qb]? = some (.cells #[.pointer (some ⟨rb, 0, none⟩)] 74 (0, 0))) := (k2.block qb (Array.getElem?_eq_some_iff.1 HQ3.out).1 (by have := HQB.out; omega)).trans HQ3.out
  clear k1 k2 K3 HK3 HQ3 c
  go_upto_region 4 with fail
  generalize hst4 : rText (rTake 4 (some s.data.toList)).2 = tt at K4 ⊢
  have HT := Lib.hid hst4; clear hst4
  obtain ⟨nm, st4⟩ := tt
  simp only [] at K4 ⊢
  have HS : Hid (ObjSt (fun w st => RdS w rb s st) (fun g => g = qb) w4.heap.size rb st4 nm [] w1 (w4.alloc (.cells #[.string nm, .slice none 0 0] 24))) := by
    have hb := alloc_old w4 (.cells #[.string nm, .slice none 0 0] 24)
    refine ⟨rdr_obj rb s, fun g hg => ?_, ⟨.slice none 0 0, [], ⟨heap_alloc_new w4 _, World.ownsRow_nil _ _ _ _, fun t ht => by cases ht⟩, rfl⟩, K4.out.congr (hb.block rb K4.out.lt), HK4.out.trans (KB.of_below hb), hz1, HK4.out.size⟩
    subst hg
    exact ⟨(hb.block _ (Array.getElem?_eq_some_iff.1 HQ4.out).1).trans HQ4.out, Nat.le_of_eq HQB.out⟩
  have HOB4 : Hid (w1.heap.size ≤ w4.heap.size) := HK4.out.size
  generalize w4.alloc (.cells #[.string nm, .slice none 0 0] 24) = w5 at HS ⊢
  generalize w4.heap.size = ob at HS HOB4 ⊢
  clear K4 HK4 HQ4 w2 w3 w4
  replace HS := Lib.hid (HS.out.keep (Below.refl _ _).drew)
  have c := HS.out.c (qb := qb) rfl
  have HBD := Lib.hid (rNum_bd 2 st4)
  rw [p2] at HBD
  go_cut [24] from 20 to 24 (fun _ wx => ObjSt (fun w st => RdS w rb s st) (fun g => g = qb) ob rb (rMany rSym (rNum 2 st4).1.toNat (rNum 2 st4).2).2 nm (rMany rSym (rNum 2 st4).1.toNat (rNum 2 st4).2).1 w1 wx)
  case first =>
    go_region_held3 (fun w' => w'.cell? ⟨qb, 0, none⟩ = some (.pointer (some ⟨rb, 0, none⟩))) (go_keep) (first | (go_at_call 30; (with_reducible refine (readNum2 rb s _ _ HS.out.rd).mono ?_); rintro e wn ⟨rfl, k1, k2⟩; replace HS := Lib.hid (HS.out.read k1 k2); have cn := HS.out.c (qb := qb) rfl; clear k1 k2) | (go_at_call 29; (with_reducible refine (goesO_int (fun g => g = qb) qb ob rb rfl s _ nm w1 _ _ HS.out HBD.out).mono ?_); rintro e wn ⟨rfl, hs2⟩; replace HS := Lib.hid hs2; have cn := HS.out.c (qb := qb) rfl; clear hs2))
    all_goals (go_wp2_with fail; go_meet; exact HS.out)
  case rest =>
  replace HS := Lib.hid hcut
  clear hcut c
  have HRO : Hid (rObj s.data.toList = ((rTake 4 (some s.data.toList)).1, ⟨nm, (rMany rSym (rNum 2 st4).1.toNat (rNum 2 st4).2).1⟩, (rMany rSym (rNum 2 st4).1.toNat (rNum 2 st4).2).2)) := by
    rw [Hid, rObj, HT.out]
  generalize rMany rSym (rNum 2 st4).1.toNat (rNum 2 st4).2 = rs at HS HRO
  obtain ⟨ys, st5⟩ := rs
  simp only [] at HS HRO
  generalize (rTake 4 (some s.data.toList)).1 = mg at HRO ⊢
  have c := HS.out.c (qb := qb) rfl
  clear HM HBD HT
  go_wp2_with fail
  refine (rdEnd_any rb s st5 _ HS.out.rd).mono ?_
  rintro e w7 ⟨c7, rfl, hc7, k1⟩
  obtain ⟨v, ts, ho, hts⟩ := HS.out.o
  have HO : Hid (ObjRow w1.heap.size ob nm v ts w7) := ho.congr HOB4.out fun g hg hb => k1.block g hg (by omega)
  have HK7 : Hid (KR rb w1 w7) := HS.out.kb.trans k1
  have HTS := Lib.hid hts
  clear ho hts k1 HS c
  obtain ⟨pv, cv, rfl⟩ := own_shape HO.out.2.1
  have HR7 : Hid (w7.heap[w.heap.size]? = some (.cells #[.string ⟨#[]⟩, .slice none 0 0] 24 (0, 0))) := (HK7.out.block _ (by omega) (by omega)).trans HR0.out
  have HB7 : Hid (Below w.heap.size w w7) := HB1.out.trans (HK7.out.below HB1.out.size (fun g hg => by omega))
  have HC7 := Lib.hid hc7; clear hc7
  have q0 : w7.cell? ⟨w.heap.size, 0, none⟩ = some (.string ⟨#[]⟩) := Lib.cell_of_heap HR7.out 0
  have q1 : w7.cell? ⟨w.heap.size, 1, none⟩ = some (.slice none 0 0) := Lib.cell_of_heap HR7.out 1
  have e0 : w7.frozen? ⟨w.heap.size, 0, none⟩ = false := Lib.frozen_of_heap HR7.out 0
  have e1 : w7.frozen? ⟨w.heap.size, 1, none⟩ = false := Lib.frozen_of_heap HR7.out 1
  have a0 : w7.cell? ⟨ob, 0, none⟩ = some (.string nm) := Lib.cell_of_heap HO.out.1 0
  have a1 : w7.cell? ⟨ob, 1, none⟩ = some (.slice pv ts.length cv) := Lib.cell_of_heap HO.out.1 1
  by_cases hst : st5 = some []
  · have hc0 : c7 = 0 := HC7.out.2 hst
    subst hc0
    by_cases hmg : mg = magicB
    · have bl : (bsOf mg).toList = [65, 79, 66, 49] := by rw [hmg, ByteArray.toList_eq]; rfl
      have hro := HRO.out
      rw [hst] at hro
      have hfit := rObj_fit hro
      have HFR : Hid (Fresh w1.heap.size w7 ⟨nm, ys⟩ (.slice pv ts.length cv)) := ⟨ts, HTS.out, HO.out.2.1, HO.out.2.2⟩
      have HCK := Lib.hid (objCheck_any ⟨nm, ys⟩ (.slice pv ts.length cv) w7 (HFR.out.objIn hfit))
      simp only [] at HCK
      clear hro hfit
      by_cases hmay : mayP ⟨nm, ys⟩ = true
      · rw [hmay] at HCK
        simp only [errB, if_true] at HCK
        have HN : Hid (getB s.data.toList = some ⟨nm, ys⟩) := by rw [Hid, getB, if_pos]; rw [HRO.out]; rw [HRO.out]; exact ⟨hst, hmg, hmay⟩
        clear hmg hst hmay
        go_wp2_with fail
        refine HCK.out.mono ?_
        rintro e w8 ⟨rfl, hB8⟩
        have HR8 : Hid (w8.heap[w.heap.size]? = some (.cells #[.string ⟨#[]⟩, .slice none 0 0] 24 (0, 0))) := (hB8.block _ (Array.getElem?_eq_some_iff.1 HR7.out).1).trans HR7.out
        have HB8 : Hid (Below w.heap.size w w8) := HB7.out.trans (hB8.mono HB7.out.size)
        replace HFR := Lib.hid (HFR.out.keep hB8)
        have HO8 : Hid (w8.heap[ob]? = some (.cells #[.string nm, .slice pv ts.length cv] 24 (0, 0))) := (hB8.block ob (Array.getElem?_eq_some_iff.1 HO.out.1).1).trans HO.out.1
        clear hB8 HCK q0 q1 e0 e1 a0 a1
        have q0 : w8.cell? ⟨w.heap.size, 0, none⟩ = some (.string ⟨#[]⟩) := Lib.cell_of_heap HR8.out 0
        have q1 : w8.cell? ⟨w.heap.size, 1, none⟩ = some (.slice none 0 0) := Lib.cell_of_heap HR8.out 1
        have e0 : w8.frozen? ⟨w.heap.size, 0, none⟩ = false := Lib.frozen_of_heap HR8.out 0
        have e1 : w8.frozen? ⟨w.heap.size, 1, none⟩ = false := Lib.frozen_of_heap HR8.out 1
        have a0 : w8.cell? ⟨ob, 0, none⟩ = some (.string nm) := Lib.cell_of_heap HO8.out 0
        have a1 : w8.cell? ⟨ob, 1, none⟩ = some (.slice pv ts.length cv) := Lib.cell_of_heap HO8.out 1
        go_wp2
        refine bodyPost_ret (v := .tuple #[.agg #[.string nm, .slice pv ts.length cv], .int .i64 0]) (by simp [results, Tryd.results13, go_sem, *]) rfl ?_
        unfold GetPost
        rw [HN.out]
        have hle : w.heap.size ≤ w1.heap.size := HB1.out.size
        refine ⟨⟨_, rfl, fresh_away (HFR.out) (by omega) (fun g hg => ?_)⟩, (HB8.out.setCell (Nat.le_refl _) _).setCell (Nat.le_refl _) _⟩
        have hset : ∀ (W : World) (j : Nat) (u : Value), (W.setCell ⟨w.heap.size, j, none⟩ u).heap[g]? = W.heap[g]? := fun W j u => Below.heap_setCell _ _ _ _ (by simp; omega)
        simp only [hset]
      · have hmay' : mayP ⟨nm, ys⟩ = false := by simpa using hmay
        rw [hmay'] at HCK
        simp only [errB, Bool.false_eq_true, if_false] at HCK
        have HN : Hid (getB s.data.toList = none) := by rw [Hid, getB, if_neg]; rw [HRO.out]; exact fun h => hmay h.2.2
        clear hmg hst hmay hmay'
        go_wp2_with fail
        refine HCK.out.mono ?_
        rintro e w8 ⟨rfl, hB8⟩
        have HR8 : Hid (w8.heap[w.heap.size]? = some (.cells #[.string ⟨#[]⟩, .slice none 0 0] 24 (0, 0))) := (hB8.block _ (Array.getElem?_eq_some_iff.1 HR7.out).1).trans HR7.out
        have HB8 : Hid (Below w.heap.size w w8) := HB7.out.trans (hB8.mono HB7.out.size)
        clear hB8 HCK q0 q1 e0 e1 a0 a1
        have q0 : w8.cell? ⟨w.heap.size, 0, none⟩ = some (.string ⟨#[]⟩) := Lib.cell_of_heap HR8.out 0
        have q1 : w8.cell? ⟨w.heap.size, 1, none⟩ = some (.slice none 0 0) := Lib.cell_of_heap HR8.out 1
        have e0 : w8.frozen? ⟨w.heap.size, 0, none⟩ = false := Lib.frozen_of_heap HR8.out 0
        have e1 : w8.frozen? ⟨w.heap.size, 1, none⟩ = false := Lib.frozen_of_heap HR8.out 1
        go_wp2
        refine bodyPost_ret (v := .tuple #[.agg #[.string ⟨#[]⟩, .slice none 0 0], .int .i64 7]) (by simp [results, Tryd.results13, go_sem, *]) rfl ?_
        unfold GetPost
        rw [HN.out]
        exact ⟨rfl, (HB8.out.setCell (Nat.le_refl _) _).setCell (Nat.le_refl _) _⟩
    · have bl : ¬ (bsOf mg).toList = [65, 79, 66, 49] := by rw [ByteArray.toList_eq]; exact hmg
      have HN : Hid (getB s.data.toList = none) := by rw [Hid, getB, if_neg]; rw [HRO.out]; exact fun h => hmg h.2.1
      clear hmg hst
      go_wp2
      refine bodyPost_ret (v := .tuple #[.agg #[.string ⟨#[]⟩, .slice none 0 0], .int .i64 7]) (by simp [results, Tryd.results13, go_sem, *]) rfl ?_
      unfold GetPost
      rw [HN.out]
      exact ⟨rfl, (HB7.out.setCell (Nat.le_refl _) _).setCell (Nat.le_refl _) _⟩
  · have bc : (c7 != 0) = true := by simp; exact fun e => hst (HC7.out.1 e)
    have HN : Hid (getB s.data.toList = none) := by rw [Hid, getB, if_neg]; rw [HRO.out]; exact fun h => hst h.1
    clear hst
    go_wp2
    refine bodyPost_ret (v := .tuple #[.agg #[.string ⟨#[]⟩, .slice none 0 0], .int .i64 7]) (by simp [results, Tryd.results13, go_sem, *]) rfl ?_
    unfold GetPost
    rw [HN.out]
    exact ⟨rfl, (HB7.out.setCell (Nat.le_refl _) _).setCell (Nat.le_refl _) _⟩
/-- what Get answers -/
def getV (s : ByteArray) : GObj × Int := match getB s.data.toList with | some o => (o, 0) | none => (⟨⟨#[]⟩, []⟩, 7)
def GotPost (x : GObj) (c : Int) (w : World) (e : Ending) (w' : World) : Prop := ∃ vs, e = .returned (.tuple #[.agg #[.string x.name, vs], .int .i64 c]) ∧ (∃ p k, vs = .slice p x.syms.length k) ∧ ObjIn w' x vs ∧ Below w.heap.size w w'
theorem GetPost.got {s : ByteArray} {w w' : World} {e : Ending} (h : GetPost s w e w') : GotPost (getV s).1 (getV s).2 w e w' := by
  obtain ⟨h1, h2⟩ := h
  unfold getV
  cases hg : getB s.data.toList with
  | none =>
    rw [hg] at h1
    exact ⟨_, h1, ⟨_, _, rfl⟩, ⟨⟨none, 0, 0, 0, rfl, Nat.le_refl _, by simp, fun h => by simp at h, fun i h => by simp at h⟩, by decide⟩, h2⟩
  | some o =>
    rw [hg] at h1
    obtain ⟨vs, he, hf⟩ := h1
    exact ⟨vs, he, hf.shape, hf.objIn (getB_some hg).2.1, h2⟩
end Go.Proofs.YtfmmfbijkklceaaDoor
