/- The walk of objfile.All. -/
import Derived.Test.YtfmmfbijkklceaaDoorWGet
namespace Go.Proofs.YtfmmfbijkklceaaDoor
open Go.RowKit Go.Maps
def StrR (w : World) (b o : Nat) (s : ByteArray) : Prop := b < w.heap.size ∧ w.cell? ⟨b, o, none⟩ = some (.string s) ∧ s.size ≤ 140737488355328
theorem strR_keeps : Keeps StrR := fun _ _ _ _ _ hb ⟨h0, h1, h2⟩ => ⟨size_keep hb h0, cell_keep hb h0 h1, h2⟩
def getS (s : ByteArray) : Option GObj := getB s.data.toList
theorem Fresh.sep {B : Nat} {w : World} {o : GObj} {vs : Value} (h : Fresh B w o vs) : ObjSep w ⟨o, vs, B, w.heap.size⟩ := by
  obtain ⟨ts, h1, h2, h3⟩ := h
  exact ⟨ts, h1, h2, fun t ht => ⟨h3 t ht, (h3 t ht).1.lt, (h3 t ht).2.1.lt⟩, h2.lt⟩
theorem ObjSep.fit {w : World} {c : CT} (h : ObjSep w c) (hf : ObjFit c.o) : ObjIn w c.o c.vs := by
  obtain ⟨ts, h1, h2, h3, -⟩ := h
  exact Fresh.objIn (B := c.lo) ⟨ts, h1, h2, fun t ht => (h3 t ht).1⟩ hf
theorem AllSep.fits {B : Nat} {w : World} {v : Value} {l : List GObj} {us : List CT} (hf : ∀ o ∈ l, ObjFit o) (hn : l.length ≤ 140737488355328) (hl : us.map (·.o) = l) (h : AllSep B w v us) : ObjsAt w v l := by
  obtain ⟨h1, h2, -⟩ := h
  have hlen : us.length = l.length := by rw [← hl, List.length_map]
  have h5 : RowAt 2 (fun w b o (u : CT) => ObjR w b o u.o) w v us := owned_row objCells_len h1 (by omega) fun g o' i hi hg hcell =>
    ⟨us[i].vs, hg, hcell 0 _ (by omega) rfl, hcell 1 _ (by omega) rfl, (h2 _ (List.getElem_mem hi)).1.fit (hf _ (by rw [← hl]; exact List.mem_map_of_mem (List.getElem_mem hi)))⟩
  obtain ⟨p, cap, b, o, rfl, q2, q3, q4, q5⟩ := h5
  subst hl
  exact ⟨p, cap, b, o, by simp, by simpa using q2, by simpa using q3, by simpa using q4, fun i hi => by simpa using q5 i (by simpa using hi)⟩
theorem getB_fit {s : BL} {o : GObj} (h : getB s = some o) : ObjFit o := (getB_some h).2.1
def AllPost (l : List ByteArray) (w : World) (e : Ending) (w' : World) : Prop :=
  ((∃ (os : List GObj) (v : Value) (us : List CT), l.map getS = os.map some ∧ e = .returned (.tuple #[v, .int .i64 l.length, .int .i64 0]) ∧ us.map (·.o) = os ∧ AllSep w.heap.size w' v us) ∨
   (∃ (k : Nat) (os : List GObj) (h : k < l.length), (l.take k).map getS = os.map some ∧ getS l[k] = none ∧ e = .returned (.tuple #[.slice none 0 0, .int .i64 k, .int .i64 7]))) ∧ Below w.heap.size w w'
theorem two_cells' {w : World} {g : Nat} {a b : Value} (h0 : w.cell? ⟨g, 0, none⟩ = some a) (h1 : w.cell? ⟨g, 1, none⟩ = some b) : ∀ j u, [a, b][j]? = some u → w.cell? ((⟨g, 0, none⟩ : Addr).add j) = some u := by
  intro j u hu
  rw [add_at, Nat.zero_add]
  match j, hu with
  | 0, hu => cases hu; exact h0
  | 1, hu => cases hu; exact h1
theorem two_single' {s : ByteArray} {p : Option Addr} {n c : Nat} : ∀ u ∈ [Value.string s, .slice p n c], u.oneCell' = true := by
  intro u hu
  simp only [List.mem_cons, List.not_mem_nil, or_false] at hu
  rcases hu with rfl | rfl <;> rfl
set_option maxRecDepth 100000 in
set_option maxHeartbeats 2000000 in
theorem all_any (v : Value) (l : List ByteArray) (w : World) (h : RowAt 1 StrR w v l) (hn : l.length ≤ 1000) :
    Calls Tryd.prog 15 #[v] w (AllPost l w) := by
  obtain ⟨p, cap, b, o, rfl, hcap, hmax, hp, hc⟩ := h
  have HP := Lib.hid hp; clear hp
  have HC := Lib.hid hc; clear hc
  obtain ⟨iS, s0, s1, s2, s3⟩ := info_parts info_obj
  have HS := Lib.hid (And.intro s0 (And.intro s1 (And.intro s2 s3)))
  clear s0 s1 s2 s3
  go_enter Tryd.func15, Tryd.ntmps15
  go_wp2
  go_loopw [5, 12] (fun v5 v12 wr => ∃ (i : Nat) (os : List GObj) (us : List CT), i ≤ l.length ∧ v12 = .int .i64 i ∧ us.length = i ∧ us.map (·.o) = os ∧ (l.take i).map getS = os.map some ∧ AllSep w.heap.size wr v5 us ∧ Below w.heap.size w wr) (fun _ v12 _ => l.length - (intOf v12).toNat)
  case atStart => exact ⟨0, [], [], Nat.zero_le _, rfl, rfl, rfl, rfl, ⟨World.ownsRow_nil _ _ _ _, fun u hu => (by cases hu), List.Pairwise.nil⟩, Below.refl _ _⟩
  case round =>
    obtain ⟨i, os, us, hi, rfl, hul, hum, hos, hsep, hbel⟩ := hrel
    have HUL := Lib.hid hul; clear hul
    have HUM := Lib.hid hum; clear hum
    have HOS := Lib.hid hos; clear hos
    have HSEP := Lib.hid hsep; clear hsep
    have HB := Lib.hid hbel; clear hbel
    by_cases hlt : i < l.length
    · obtain rfl := HP.out (by omega)
      have hci := HC.out i hlt
      rw [Nat.mul_one] at hci
      obtain ⟨g0, g1, g2⟩ := strR_keeps _ _ _ _ _ HB.out hci
      have HTN : Hid (l.take (i + 1) = l.take i ++ [l[i]]) := List.take_succ_eq_append_getElem hlt
      have HCON := Lib.hid (get_any l[i] wr g2)
      have HBAD : Hid (getS l[i] = none → ∃ (k : Nat) (os : List GObj) (h : k < l.length), k = i ∧ (l.take k).map getS = os.map some ∧ getS l[k] = none) := fun h => ⟨i, os, hlt, rfl, HOS.out, h⟩
      clear hci
      generalize l[i] = s at g1 g2 HTN HCON HBAD
      unfold GetPost at HCON
      rw [show getB s.data.toList = getS s from rfl] at HCON
      cases hgs : getS s with
      | none =>
        rw [hgs] at HCON
        have HK := Lib.hid (HBAD.out hgs)
        clear HBAD hgs HTN
        simp only [] at HCON
        go_wp2_with fail
        refine HCON.out.mono ?_
        rintro e w1 ⟨rfl, hb1⟩
        have HB1 := Lib.hid hb1; clear hb1 HCON
        go_wp2
        refine bodyPost_ret (v := .tuple #[.slice none 0 0, .int .i64 i, .int .i64 7]) (by simp [results, Tryd.results15, go_sem]) rfl ?_
        obtain ⟨k, os', hk, rfl, k1, k2⟩ := HK.out
        exact ⟨.inr ⟨k, os', hk, k1, k2, rfl⟩, (HB.out.trans (HB1.out.mono HB.out.size)).alloc (by have := HB.out.size; have := HB1.out.size; omega) _⟩
      | some x =>
        rw [hgs] at HCON
        have HX := Lib.hid hgs
        clear HBAD hgs
        simp only [] at HCON
        go_wp2_with fail
        refine HCON.out.mono ?_
        rintro e w1 ⟨⟨vs, rfl, hfr⟩, hb1⟩
        have HB1 := Lib.hid hb1; clear hb1 HCON
        obtain ⟨ps, cs, rfl⟩ := hfr.shape
        have HFR := Lib.hid hfr; clear hfr
        obtain ⟨xn, xs⟩ := x
        simp only [] at HFR ⊢
        go_upto_region 6 with fail
        generalize hw2 : w1.alloc (.cells #[.string xn, .slice ps xs.length cs] 24) = w2
        have HB2 : Hid (Below w1.heap.size w1 w2) := by subst hw2; exact alloc_old _ _
        have HN2 : Hid (w2.heap[w1.heap.size]? = some (.cells #[.string xn, .slice ps xs.length cs] 24 (0, 0))) := by subst hw2; exact heap_alloc_new w1 _
        clear hw2
        have HBX : Hid (Below wr.heap.size wr w2) := HB1.out.trans (HB2.out.mono HB1.out.size)
        have HSX : Hid (ObjSep w2 ⟨⟨xn, xs⟩, .slice ps xs.length cs, wr.heap.size, w2.heap.size⟩) := (HFR.out.keep HB2.out).sep
        have b0 : w2.cell? ⟨w1.heap.size, 0, none⟩ = some (.string xn) := Lib.cell_of_heap HN2.out 0
        have b1 : w2.cell? ⟨w1.heap.size, 1, none⟩ = some (.slice ps xs.length cs) := Lib.cell_of_heap HN2.out 1
        have hsz := HBX.out.size
        have hsz0 := HB.out.size
        go_wp2_with (at_builtin; refine wpList_append_own_at _ rfl _ _ 38 rfl w.heap.size 24 iS _ 2 40 Tryd.underlying38 HS.out.1 HS.out.2.1 HS.out.2.2.1 HS.out.2.2.2 rfl (by decide) _ us.length (us.flatMap objCells) rfl ?c0 _ 1 1 [.string xn, .slice ps xs.length cs] rfl rfl ?c1 two_single' ?c3 ?c4 ?c5 ?_)
        case c0 => exact ownsRow_below (HBX.out.alloc hsz _) HSEP.out.1
        case c1 => exact two_cells' (by simp [go_sem]) (by simp [go_sem])
        case c3 => have := HUL.out; unfold maxLen; omega
        case c4 => have := HUL.out; omega
        case c5 => simp; omega
        intro v' w' hown3 hgrow3 _ hblk
        have HSEP2 := Lib.hid (AllSep.snoc HSEP.out HBX.out HSX.out hsz0 hown3 hgrow3 (by simpa using hblk))
        have HB4 : Hid (Below w.heap.size w w') := ((HB.out.trans (HBX.out.mono hsz0)).alloc (by omega) _).grown hgrow3 (by simp; omega) (fun q e => (World.ownsRow.lt HSEP.out.1 q e).1)
        clear hown3 hgrow3 hblk
        go_wp2
        go_roundw
        case rel => exact ⟨i + 1, os ++ [⟨xn, xs⟩], _, by omega, by go_num, by simp [HUL.out], by rw [List.map_append, HUM.out]; rfl, by rw [HTN.out, List.map_append, HOS.out, List.map_append]; simp [HX.out], HSEP2.out, HB4.out⟩
        case measure => simp [intOf]; omega
    · have hie : i = l.length := by omega
      have hos := HOS.out
      rw [hie, List.take_length] at hos
      have HOS2 := Lib.hid hos; clear hos hie
      obtain ⟨pv, cv, hv⟩ := own_shape HSEP.out.1
      subst hv
      go_wp2
      refine bodyPost_ret (v := .tuple #[.slice pv us.length cv, .int .i64 l.length, .int .i64 0]) (by simp [results, Tryd.results15, go_sem]) rfl ?_
      exact ⟨.inl ⟨os, _, us, HOS2.out, rfl, HUM.out, HSEP.out⟩, HB.out⟩
end Go.Proofs.YtfmmfbijkklceaaDoor
