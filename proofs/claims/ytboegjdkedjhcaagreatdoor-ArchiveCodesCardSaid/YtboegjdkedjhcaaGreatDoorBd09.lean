/- slices.ContainsFunc at objects and at archives: whether one may not be. A region that only reads, and whose callees make memory but change nothing that was there: one walk in the order of the text. No program in sight. The walk of aediculelaw08.Large. The walk of aediculeref08.Name: it returns isName. The walk of aediculeref08.Width. The walk of aediculeref08.rels. The walks of aediculeref08's Note and Sym. The walks of aediculeref08.May and aediculeref12.May. -/
import Derived.Test.YtboegjdkedjhcaaGreatDoorBd08
import Derived.Test.YtboegjdkedjhcaaGreatDoorEqLay
import Derived.Lib.Hide
import Derived.Deep.QuietTactic
import Derived.BigQuiet
import Derived.WalkKit
import Derived.Test.YtboegjdkedjhcaaGreatDoorRows
import Derived.Test.YtboegjdkedjhcaaGreatDoorBd02
import Derived.WalkLawsBesides
import Derived.Deep.Light
import Derived.Handy
import Derived.Test.YtboegjdkedjhcaaGreatDoorBd01
import Derived.WalkSpells
namespace Go.Proofs.YtboegjdkedjhcaaGreatDoor
open Go.RowKit Go.Maps Go.Shelf Go.Lib
def arCells (t : GArc × Value) : List Value := [.string t.1.name, t.2]
theorem arCells_len (t : GArc × Value) : (arCells t).length = 2 := rfl
theorem arcs_pairs {w : World} {v : Value} {l : List GArc} (h : ArcsAt w v l) : ∃ (p : Option Addr) (cap b o : Nat) (ts : List (GArc × Value)), v = .slice p l.length cap ∧ ts.map (·.1) = l ∧ l.length ≤ cap ∧ l.length ≤ 140737488355328 ∧ (0 < l.length → p = some ⟨b, o, none⟩ ∧ b < w.heap.size) ∧ (∀ t ∈ ts, ArcIn w t.1 t.2) ∧
    ∀ j u, (ts.flatMap arCells)[j]? = some u → w.cell? ((⟨b, o, none⟩ : Addr).add j) = some u := by
  obtain ⟨p, cap, b, o, rfl, h1, hm, h2, h3⟩ := h
  have hg : ∃ g : Nat → Value, ∀ i (hi : i < l.length), w.cell? ⟨b, o + i * 2, none⟩ = some (.string l[i].name) ∧ w.cell? ⟨b, o + i * 2 + 1, none⟩ = some (g i) ∧ ArcIn w l[i] (g i) := by
    refine ⟨fun i => if hi : i < l.length then Classical.choose (h3 i hi) else .slice none 0 0, fun i hi => ?_⟩
    simp only [hi, dif_pos]
    obtain ⟨-, k1, k2, k3⟩ := Classical.choose_spec (h3 i hi)
    exact ⟨k1, k2, k3⟩
  obtain ⟨g, hg⟩ := hg
  have hget : ∀ i (hi : i < l.length), (l.zipIdx.map fun q => (q.1, g q.2))[i]'(by simpa using hi) = (l[i], g i) := fun i hi => by simp
  refine ⟨p, cap, b, o, l.zipIdx.map fun q => (q.1, g q.2), rfl, ?_, h1, hm, fun h0 => ⟨h2 h0, ?_⟩, ?_, ?_⟩
  · apply List.ext_getElem
    · simp
    · intro i h1 h2; simp
  · obtain ⟨vs, k, -⟩ := h3 0 h0; exact k
  · intro t ht
    obtain ⟨i, hi, rfl⟩ := List.mem_iff_getElem.1 ht
    rw [hget i (by simpa using hi)]
    exact (hg i (by simpa using hi)).2.2
  · refine row_news arCells_len (by omega) fun i hi j u hu => ?_
    have hi' : i < l.length := by simpa using hi
    rw [hget i hi'] at hu
    obtain ⟨k1, k2, -⟩ := hg i hi'
    match j, hu with
    | 0, hu => simp only [arCells] at hu; cases hu; exact k1
    | 1, hu => simp only [arCells] at hu; cases hu; exact k2
theorem objs_pairs2 {w : World} {v : Value} {l : List GObj} (h : ObjsAt w v l) : ∃ (p : Option Addr) (cap b o : Nat) (ts : List (GObj × Value)), v = .slice p l.length cap ∧ ts.map (·.1) = l ∧ l.length ≤ cap ∧ l.length ≤ 140737488355328 ∧ (0 < l.length → p = some ⟨b, o, none⟩ ∧ b < w.heap.size) ∧ (∀ t ∈ ts, ObjIn w t.1 t.2) ∧
    ∀ j u, (ts.flatMap obCells)[j]? = some u → w.cell? ((⟨b, o, none⟩ : Addr).add j) = some u := by
  have h' := h
  obtain ⟨p, cap, b, o, hv, h1, hm, h2, h3⟩ := h
  obtain ⟨p', cap', b', o', ts, hv', k1, k2, k3, k4, k5⟩ := objs_pairs h'
  rw [hv] at hv'
  cases hv'
  refine ⟨p, cap, b', o', ts, hv, k1, k2, hm, fun h0 => ⟨k3 h0, ?_⟩, k4, k5⟩
  have e := (h2 h0).symm.trans (k3 h0)
  cases e
  obtain ⟨vs, k, -⟩ := h3 0 h0; exact k
set_option maxHeartbeats 400000 in
theorem indexO_nil (a : Option Addr) (c : Nat) (fv : Value) (w : World) : Calls Tryz.prog 98 #[.slice a 0 c, fv] w fun e w' => e = .returned (.int .i64 (-1)) ∧ w' = w := by
  go_enter Tryz.func98, Tryz.ntmps98
  go_wp2
  go_loopw [8] (fun i wr => i = .int .i64 0 ∧ wr = w) (fun _ _ => 0)
  case atStart => exact ⟨rfl, rfl⟩
  case round =>
    obtain ⟨rfl, rfl⟩ := hrel
    go_wp2
    go_ret
    exact ⟨rfl, rfl⟩
set_option maxHeartbeats 400000 in
theorem containsO_nil (a : Option Addr) (c : Nat) (fv : Value) (w : World) : Calls Tryz.prog 54 #[.slice a 0 c, fv] w fun e w' => e = .returned (.bool false) ∧ w' = w := by
  have HI := Lib.hid (indexO_nil a c fv w)
  go_enter Tryz.func54, Tryz.ntmps54
  go_wp2_with (go_at_call 98; refine HI.out.mono ?_; rintro e w1 ⟨rfl, rfl⟩)
  go_ret
  exact ⟨rfl, rfl⟩
set_option maxHeartbeats 1000000 in
theorem pullO_any (x : GObj) (vs : Value) (w : World) (h : ObjIn w x vs) : Calls Tryz.prog 55 #[.agg #[.string x.name, vs]] w fun e w' => e = .returned (.bool (!mayP x)) ∧ Below w.heap.size w w' := by
  have HCK := Lib.hid (objCheck_any x vs _ (ObjIn.keep (alloc_old w (.cells #[.string x.name, vs] 50)) h))
  obtain ⟨p, c, rfl⟩ : ∃ p c, vs = .slice p (x.syms).length c := by
    obtain ⟨⟨p, c, _, _, h1, _⟩, _⟩ := h
    exact ⟨p, c, h1⟩
  clear h
  generalize mayP x = ok at HCK
  obtain ⟨xn, xs⟩ := x
  simp only [] at HCK
  cases ok
  all_goals
    simp only [errB, if_true, Bool.false_eq_true, if_false] at HCK
    go_enter Tryz.func55, Tryz.ntmps55
    go_wp2_with (go_at_call 30; refine HCK.out.mono ?_; rintro e w1 ⟨rfl, hB⟩)
    go_ret
    exact ⟨rfl, (alloc_old w _).trans (hB.mono (by simp))⟩
theorem pullO_enters (args : Array Value) (w : World) : (callFunc 55 args).run Tryz.prog w = .ok (.enter 55 args) w := enters_of Tryz.func55 (by kernel_rfl) rfl args w
theorem containsO_any (v : Value) (l : List GObj) (w : World) (h : RowAt 2 ObjR w v l) :
    Calls Tryz.prog 54 #[v, .func (.func 55) #[] #[]] w fun e w' => e = .returned (.bool (l.any fun o => !mayP o)) ∧ Below w.heap.size w w' := by
  obtain ⟨p, cap, b, o, ts, rfl, hts, hcap, hmax, hp, hin, hc⟩ := objs_pairs2 h
  by_cases h0 : l.length = 0
  · obtain rfl : l = [] := List.eq_nil_of_length_eq_zero h0
    refine (containsO_nil p cap _ w).mono ?_
    rintro e w' ⟨rfl, rfl⟩
    exact ⟨rfl, Below.refl _ _⟩
  · obtain ⟨rfl, hb⟩ := hp (by omega)
    have hl : ts.length = l.length := by rw [← hts, List.length_map]
    have h00 : 0 < ts.length := by omega
    letI : Inhabited {t : GObj × Value // ObjIn w t.1 t.2} := ⟨⟨ts[0], hin _ (List.getElem_mem h00)⟩⟩
    have hzl : (ts.pmap (fun t ht => (⟨t, ht⟩ : {t : GObj × Value // ObjIn w t.1 t.2})) hin).length = l.length := by rw [List.length_pmap, hl]
    have := Go.Proofs.AnyQ.slices_ContainsFunc Tryz.containsFuncObject 2 Tryz.isAgg50 Tryz.sizeOf50 (fun t : {t : GObj × Value // ObjIn w t.1 t.2} => obCells t.1) (fun _ => rfl) (fun t => !mayP t.1.1) 55 #[] pullO_enters b o l.length cap (ts.pmap (fun t ht => ⟨t, ht⟩) hin) w
      (fun W t hW => (pullO_any t.1.1 t.1.2 W (ObjIn.keep hW t.2)).mono fun e w' ⟨h1, h2⟩ => ⟨h1, hW.trans (h2.mono hW.size)⟩) (by omega) (by omega) hb (fun j hj i u hv => by
      have hj' : j < ts.length := by rw [hzl] at hj; omega
      rw [getElem!_pos _ j hj, List.getElem_pmap] at hv
      have hi : i < 2 := by
        have := (List.getElem?_eq_some_iff.1 hv).1
        exact this
      have h1 := flat_get obCells_len ts j i hj' hi
      have h2 := hc (j * 2 + i) u (h1.trans hv)
      rw [add_at, ← Nat.add_assoc] at h2
      exact h2)
    rw [List.take_of_length_le (by omega)] at this
    have e : ((ts.pmap (fun t ht => (⟨t, ht⟩ : {t : GObj × Value // ObjIn w t.1 t.2})) hin).any fun t => !mayP t.1.1) = l.any fun o => !mayP o := by
      rw [← hts, List.any_map]
      rw [Bool.eq_iff_iff]
      simp only [List.any_eq_true, List.mem_pmap, Function.comp]
      constructor
      · rintro ⟨t, ⟨a, ha, rfl⟩, h2⟩; exact ⟨a, ha, h2⟩
      · rintro ⟨a, ha, h2⟩; exact ⟨⟨a, hin a ha⟩, ⟨a, ha, rfl⟩, h2⟩
    rw [e] at this
    exact this
set_option maxHeartbeats 400000 in
theorem indexA_nil (a : Option Addr) (c : Nat) (fv : Value) (w : World) : Calls Tryz.prog 99 #[.slice a 0 c, fv] w fun e w' => e = .returned (.int .i64 (-1)) ∧ w' = w := by
  go_enter Tryz.func99, Tryz.ntmps99
  go_wp2
  go_loopw [8] (fun i wr => i = .int .i64 0 ∧ wr = w) (fun _ _ => 0)
  case atStart => exact ⟨rfl, rfl⟩
  case round =>
    obtain ⟨rfl, rfl⟩ := hrel
    go_wp2
    go_ret
    exact ⟨rfl, rfl⟩
set_option maxHeartbeats 400000 in
theorem containsA_nil (a : Option Addr) (c : Nat) (fv : Value) (w : World) : Calls Tryz.prog 56 #[.slice a 0 c, fv] w fun e w' => e = .returned (.bool false) ∧ w' = w := by
  have HI := Lib.hid (indexA_nil a c fv w)
  go_enter Tryz.func56, Tryz.ntmps56
  go_wp2_with (go_at_call 99; refine HI.out.mono ?_; rintro e w1 ⟨rfl, rfl⟩)
  go_ret
  exact ⟨rfl, rfl⟩
set_option maxHeartbeats 1000000 in
theorem pullA_any (x : GArc) (vs : Value) (w : World) (h : ArcIn w x vs) : Calls Tryz.prog 57 #[.agg #[.string x.name, vs]] w fun e w' => e = .returned (.bool (!arcOk x)) ∧ Below w.heap.size w w' := by
  have HCK := Lib.hid (arcCheck_any x vs _ (ArcIn.keep (alloc_old w (.cells #[.string x.name, vs] 24)) h))
  obtain ⟨p, c, rfl⟩ : ∃ p c, vs = .slice p (x.members).length c := by
    obtain ⟨⟨p, c, _, _, h1, _⟩, _⟩ := h
    exact ⟨p, c, h1⟩
  clear h
  generalize arcOk x = ok at HCK
  obtain ⟨xn, xs⟩ := x
  simp only [] at HCK
  cases ok
  all_goals
    simp only [errB, if_true, Bool.false_eq_true, if_false] at HCK
    go_enter Tryz.func57, Tryz.ntmps57
    go_wp2_with (go_at_call 10; refine HCK.out.mono ?_; rintro e w1 ⟨rfl, hB⟩)
    go_ret
    exact ⟨rfl, (alloc_old w _).trans (hB.mono (by simp))⟩
theorem pullA_enters (args : Array Value) (w : World) : (callFunc 57 args).run Tryz.prog w = .ok (.enter 57 args) w := enters_of Tryz.func57 (by kernel_rfl) rfl args w
theorem containsA_any (v : Value) (l : List GArc) (w : World) (h : RowAt 2 ArcR w v l) :
    Calls Tryz.prog 56 #[v, .func (.func 57) #[] #[]] w fun e w' => e = .returned (.bool (l.any fun o => !arcOk o)) ∧ Below w.heap.size w w' := by
  obtain ⟨p, cap, b, o, ts, rfl, hts, hcap, hmax, hp, hin, hc⟩ := arcs_pairs h
  by_cases h0 : l.length = 0
  · obtain rfl : l = [] := List.eq_nil_of_length_eq_zero h0
    refine (containsA_nil p cap _ w).mono ?_
    rintro e w' ⟨rfl, rfl⟩
    exact ⟨rfl, Below.refl _ _⟩
  · obtain ⟨rfl, hb⟩ := hp (by omega)
    have hl : ts.length = l.length := by rw [← hts, List.length_map]
    have h00 : 0 < ts.length := by omega
    letI : Inhabited {t : GArc × Value // ArcIn w t.1 t.2} := ⟨⟨ts[0], hin _ (List.getElem_mem h00)⟩⟩
    have hzl : (ts.pmap (fun t ht => (⟨t, ht⟩ : {t : GArc × Value // ArcIn w t.1 t.2})) hin).length = l.length := by rw [List.length_pmap, hl]
    have := Go.Proofs.AnyQ.slices_ContainsFunc Tryz.containsFuncArchive 2 Tryz.isAgg24 Tryz.sizeOf24 (fun t : {t : GArc × Value // ArcIn w t.1 t.2} => arCells t.1) (fun _ => rfl) (fun t => !arcOk t.1.1) 57 #[] pullA_enters b o l.length cap (ts.pmap (fun t ht => ⟨t, ht⟩) hin) w
      (fun W t hW => (pullA_any t.1.1 t.1.2 W (ArcIn.keep hW t.2)).mono fun e w' ⟨h1, h2⟩ => ⟨h1, hW.trans (h2.mono hW.size)⟩) (by omega) (by omega) hb (fun j hj i u hv => by
      have hj' : j < ts.length := by rw [hzl] at hj; omega
      rw [getElem!_pos _ j hj, List.getElem_pmap] at hv
      have hi : i < 2 := by
        have := (List.getElem?_eq_some_iff.1 hv).1
        exact this
      have h1 := flat_get arCells_len ts j i hj' hi
      have h2 := hc (j * 2 + i) u (h1.trans hv)
      rw [add_at, ← Nat.add_assoc] at h2
      exact h2)
    rw [List.take_of_length_le (by omega)] at this
    have e : ((ts.pmap (fun t ht => (⟨t, ht⟩ : {t : GArc × Value // ArcIn w t.1 t.2})) hin).any fun t => !arcOk t.1.1) = l.any fun o => !arcOk o := by
      rw [← hts, List.any_map]
      rw [Bool.eq_iff_iff]
      simp only [List.any_eq_true, List.mem_pmap, Function.comp]
      constructor
      · rintro ⟨t, ⟨a, ha, rfl⟩, h2⟩; exact ⟨a, ha, h2⟩
      · rintro ⟨a, ha, h2⟩; exact ⟨⟨a, hin a ha⟩, ⟨a, ha, rfl⟩, h2⟩
    rw [e] at this
    exact this
end Go.Proofs.YtboegjdkedjhcaaGreatDoor
namespace Go.Proofs.YtboegjdkedjhcaaGreatDoor
open Go.RowKit
/-- a world that keeps all that w has -/
structure BW (w : World) where
  u : World
  b : Below w.heap.size w u
instance (w : World) : Nonempty (BW w) := ⟨⟨w, Below.refl _ _⟩⟩
instance (w : World) : Inhabited (BW w) := ⟨⟨w, Below.refl _ _⟩⟩
theorem wp_region_below {P : Program} {id : Nat} {Q : Exit → Act → World → Prop} {a : Act} {w : World} {l : List Oper} (hm : P.follows .mixedOrders = true) (hB : Region.lexB .any l.toArray = true)
    (h : wpQuiet P l.toArray (fun w' => ∃ x : BW w, w' = x.u) (fun a' => ∀ w', (∃ x : BW w, w' = x.u) → Q .normal a' w') l a) : (Code.region id l.toArray true).wp P Q a w :=
  wp_region_quiet (C := fun w' => ∃ x : BW w, w' = x.u) hm hB ⟨⟨_, (Below.refl _ _).drew⟩, rfl⟩ (by simpa using h)
/-- a callee that makes memory, in a world of the class -/
theorem calls_below {P : Program} {f : FuncId} {args : Array Value} {w : World} {v : Value} {x : BW w}
    (h : Calls P f args x.u fun e w' => e = .returned v ∧ Below x.u.heap.size x.u w') : Calls P f args x.u fun e w'' => e = .returned v ∧ ∃ y : BW w, w'' = y.u :=
  h.mono fun _ w' ⟨he, hb⟩ => ⟨he, ⟨w', x.b.trans (hb.mono x.b.size)⟩, rfl⟩
theorem bw_of {w w' : World} (h : ∃ x : BW w, w' = x.u) : Below w.heap.size w w' := by obtain ⟨x, rfl⟩ := h; exact x.b
theorem bw_cell {w : World} {b o : Nat} {v : Value} (h0 : b < w.heap.size) (h : w.cell? ⟨b, o, none⟩ = some v) : ∀ x : BW w, x.u.cell? ⟨b, o, none⟩ = some v := fun x => by
  rw [x.b.cell (p := ⟨b, o, none⟩) h0]; exact h
end Go.Proofs.YtboegjdkedjhcaaGreatDoor
namespace Go.Proofs.YtboegjdkedjhcaaGreatDoor
open Go.RowKit
set_option maxRecDepth 100000 in
set_option maxHeartbeats 2000000 in
theorem large_any (v : Value) (l : List GObj) (w : World) (h : ObjsAt w v l) :
    Calls Tryz.prog 26 #[v] w fun e w' => e = .returned (.bool (largeB l)) ∧ Below w.heap.size w w' := by
  obtain ⟨p, cap, b, o, rfl, hcap, hmax, hp, hc⟩ := h
  have HC := Lib.hid hc; clear hc
  have HP := Lib.hid hp; clear hp
  go_enter Tryz.func26, Tryz.ntmps26
  go_wp2
  go_loopw [3, 4] (fun v3 v4 wr => ∃ (i : Nat) (n : Int), i ≤ l.length ∧ i ≤ 40 ∧ v4 = .int .i64 i ∧ v3 = .int .i64 n ∧ n = wrap64 (sumI objS (l.take i)) ∧ Below w.heap.size w wr) (fun _ v4 _ => l.length - (intOf v4).toNat)
  case atStart => exact ⟨0, 0, Nat.zero_le _, by omega, rfl, rfl, by simp [sumI, wrap64], Below.refl _ _⟩
  case round =>
    obtain ⟨i, n, hi, hi40, rfl, rfl, hn, hbel⟩ := hrel
    have HN := Lib.hid hn; clear hn
    have HB := Lib.hid hbel; clear hbel
    by_cases hlt : i < l.length ∧ i < 40
    · obtain ⟨hlt1, hlt2⟩ := hlt
      obtain rfl := HP.out (by omega)
      obtain ⟨vs, g0, g1, g2, hin⟩ := HC.out i hlt1
      replace g2 := cell_keep HB.out g0 g2
      have g0' := size_keep HB.out g0
      have c2 : Hid (w.cell? ⟨b, o + i * 2 + 1, none⟩ = some vs) := by have := g2; rwa [HB.out.cell (p := ⟨b, o + i * 2 + 1, none⟩) g0] at this
      generalize hx : l[i] = x at g1 hin
      obtain ⟨xn, xs⟩ := x
      simp only [] at g1 hin
      have HX := Lib.hid hx; clear hx
      obtain ⟨⟨pS, capS, bS, oS, rfl, hcapS, hmaxS, hpS, hcS⟩, hnmx⟩ := hin
      have HCS := Lib.hid hcS; clear hcS
      have HPS := Lib.hid hpS; clear hpS
      clear g1
      go_wp2
      obtain ⟨wo, rfl⟩ : ∃ wo : World, wo = wr := ⟨_, rfl⟩
      go_loopw [3, 5] (fun v3 v5 wr => ∃ (k : Nat) (m : Int), k ≤ xs.length ∧ k ≤ 200 ∧ v5 = .int .i64 k ∧ v3 = .int .i64 m ∧ m = wrap64 (sumI objS (l.take i) + xs.length + sumI symS (xs.take k)) ∧ Below w.heap.size w wr) (fun _ v5 _ => xs.length - (intOf v5).toNat)
      case atStart => exact ⟨0, _, Nat.zero_le _, by omega, rfl, rfl, by rw [HN.out, wrap64_add_left]; simp [sumI], HB.out⟩
      case round =>
        clear g2 g0' HB
        obtain ⟨k, m, hk, hk2, rfl, rfl, hm, hbel⟩ := hrel
        have HM := Lib.hid hm; clear hm
        have HB := Lib.hid hbel; clear hbel
        have g2 := cell_keep HB.out g0 c2.out
        have g0' := size_keep HB.out g0
        by_cases hlk : k < xs.length ∧ k < 200
        · obtain ⟨hlk1, hlk2⟩ := hlk
          obtain rfl := HPS.out (by omega)
          obtain ⟨vr, vn, s0, s1, s2, s3, s4, s5, s6, s7, hsin⟩ := symR_keeps _ _ _ _ _ HB.out (HCS.out k hlk1)
          generalize hy : xs[k] = y at s1 s2 s3 s4 s5 s6 s7 hsin
          obtain ⟨yn, yb, yk, ys, yy, yr, yt⟩ := y
          simp only [] at s1 s2 s3 s4 s5 s6 s7 hsin
          have HY := Lib.hid hy; clear hy
          obtain ⟨⟨pR, capR, bR, oR, rfl, hcapR, hmaxR, hpR, hcR⟩, ⟨pT, capT, bT, oT, rfl, hcapT, hmaxT, -, -⟩, -, -, -, hny, hby⟩ := hsin
          simp only [] at hny hby hmaxR hmaxT
          have HCR := Lib.hid hcR; clear hcR
          have HPR := Lib.hid hpR; clear hpR
          have HBW := Lib.hid (HB.out.alloc HB.out.size (.cells #[.string yn, .int .u8 yb, .int .u8 yk, .int .u32 ys, .string yy, .slice pR yr.length capR, .slice pT yt.length capT] 55))
          go_wp2
          go_loop [3, 7] (fun v3 v7 => ∃ (j : Nat) (q : Int), j ≤ yr.length ∧ j ≤ 1100 ∧ v7 = .int .i64 j ∧ v3 = .int .i64 q ∧ q = wrap64 (sumI objS (l.take i) + xs.length + sumI symS (xs.take k) + ((yr.length : Int) / 4 + (yt.length : Int) / 4 + (yy.size : Int) / 64 + (yn.size : Int) / 16) + sumI relS (yr.take j))) (fun _ v7 => yr.length - (intOf v7).toNat)
          case atStart =>
            refine ⟨0, _, Nat.zero_le _, by omega, rfl, rfl, ?_⟩
            rw [HM.out, wrap5]
            simp only [sumI, List.take_zero]
            congr 1; omega
          case round =>
            obtain ⟨j, q, hj, hj2, rfl, rfl, hq⟩ := hrel
            have HQ := Lib.hid hq; clear hq
            by_cases hlj : j < yr.length ∧ j < 1100
            · obtain ⟨hlj1, hlj2⟩ := hlj
              obtain rfl := HPR.out (by omega)
              obtain ⟨r0, r1, r2, r3, r4, r5, r6, r7, r8⟩ := HCR.out j hlj1
              generalize hz : yr[j] = z at r1 r2 r3 r4 r5 r6 r7 r8
              obtain ⟨zo, zk, zn, za⟩ := z
              simp only [] at r1 r2 r3 r4 r5 r6 r7 r8
              have HZ := Lib.hid hz; clear hz
              go_wp2
              go_round
              case rel =>
                refine ⟨j + 1, _, by omega, by omega, by go_num, rfl, ?_⟩
                rw [HQ.out, wrap64_add_left, sumI_take_succ relS hlj1 HZ.out]
                simp only [relS]
                congr 1; omega
              case measure => simp [intOf]; omega
            · have HTE := Lib.hid (take_end hj hj2 hlj)
              have HFQ : Hid (q = wrap64 (sumI objS (l.take i) + xs.length + sumI symS (xs.take (k + 1)))) := by
                rw [HQ.out, HTE.out, sumI_take_succ symS hlk1 HY.out]
                simp only [symS]
                congr 1; omega
              by_cases hj1 : j < yr.length
              · have hj3 : ¬ j < 1100 := fun h => hlj ⟨hj1, h⟩
                clear hlj
                go_wp2
                go_roundw
                case rel => exact ⟨k + 1, _, by omega, by omega, by go_num, rfl, HFQ.out, HBW.out⟩
                case measure => simp [intOf]; omega
              · clear hlj
                go_wp2
                go_roundw
                case rel => exact ⟨k + 1, _, by omega, by omega, by go_num, rfl, HFQ.out, HBW.out⟩
                case measure => simp [intOf]; omega
        · have HTE := Lib.hid (take_end hk hk2 hlk)
          have HFM : Hid (m = wrap64 (sumI objS (l.take (i + 1)))) := by
            rw [HM.out, HTE.out, sumI_take_succ objS hlt1 HX.out]
            simp only [objS]
            congr 1; omega
          by_cases hk1 : k < xs.length
          · have hk3 : ¬ k < 200 := fun h => hlk ⟨hk1, h⟩
            clear hlk
            go_wp2
            go_roundw
            case rel => exact ⟨i + 1, _, by omega, by omega, by go_num, rfl, HFM.out, HB.out⟩
            case measure => simp [intOf]; omega
          · clear hlk
            go_wp2
            go_roundw
            case rel => exact ⟨i + 1, _, by omega, by omega, by go_num, rfl, HFM.out, HB.out⟩
            case measure => simp [intOf]; omega
    · have HTE := Lib.hid (take_end hi hi40 hlt)
      have HFN : Hid (n = wrap64 (largeSum l)) := by rw [HN.out, HTE.out]; rfl
      by_cases hi1 : i < l.length
      · have hi3 : ¬ i < 40 := fun h => hlt ⟨hi1, h⟩
        clear hlt
        go_wp2
        all_goals
          go_ret
          exact ⟨ret_bool (by unfold largeB; rw [← HFN.out] <;> (go_light; simp; try omega)), HB.out⟩
      · clear hlt
        go_wp2
        all_goals
          go_ret
          exact ⟨ret_bool (by unfold largeB; rw [← HFN.out] <;> (go_light; simp; try omega)), HB.out⟩
end Go.Proofs.YtboegjdkedjhcaaGreatDoor
namespace Go.Proofs.YtboegjdkedjhcaaGreatDoor
open Go.RowKit

set_option maxHeartbeats 400000 in
theorem refName_any (s : ByteArray) (w : World) (hs : s.size ≤ maxLen) :
    Calls Tryz.prog 38 #[.string s] w fun e w' => e = .returned (.bool (isName s)) ∧ w = w' := by
  unfold maxLen at hs
  go_enter Tryz.func38, Tryz.ntmps38
  go_wp2
  go_loop [3] (fun i => ∃ k : Nat, k ≤ s.size ∧ i = .int .i64 k ∧ (s.data.toList.take k).all nameByte = true) (fun i => s.size - (intOf i).toNat)
  case atStart => exact ⟨0, Nat.zero_le _, rfl, rfl⟩
  case round =>
    obtain ⟨k, hk, rfl, hall⟩ := hrel
    have HA := Lib.hid hall; clear hall
    by_cases hlt : k < s.size
    · go_wp2
      all_goals first
        | (go_ret; exact ⟨ret_bool (isName_bad hlt (by rw [nameByte_int]; go_light; simp_all; try omega)).symm, rfl⟩)
        | (go_round
           case rel => exact ⟨k + 1, by omega, by go_num, all_take_snoc hlt HA.out (by rw [nameByte_int]; go_light; simp_all; try omega)⟩
           case measure => simp [intOf]; omega)
    · go_wp2
      all_goals
        go_ret
        exact ⟨ret_bool (isName_end' hlt HA.out (by go_light; simp; try omega)), rfl⟩
end Go.Proofs.YtboegjdkedjhcaaGreatDoor
namespace Go.Proofs.YtboegjdkedjhcaaGreatDoor
open Go.RowKit
set_option maxHeartbeats 400000 in
theorem refWidth_any (k : Int) (w : World) :
    Calls Tryz.prog 177 #[.int .u8 k] w fun e w' => e = .returned (.int .i64 (widthOf k)) ∧ w = w' := by
  unfold widthOf
  by_cases h1 : k = 1
  · subst h1
    go_enter Tryz.func177, Tryz.ntmps177
    go_wp2
    go_ret
    exact ⟨rfl, rfl⟩
  · rw [if_neg h1]
    have g1 : (k == 1) = false := by simpa using h1
    clear h1
    by_cases h2 : k = 2
    · subst h2
      go_enter Tryz.func177, Tryz.ntmps177
      go_wp2
      go_ret
      exact ⟨rfl, rfl⟩
    · rw [if_neg h2]
      have g2 : (k == 2) = false := by simpa using h2
      clear h2
      go_enter Tryz.func177, Tryz.ntmps177
      go_wp2
      go_ret
      exact ⟨rfl, rfl⟩
end Go.Proofs.YtboegjdkedjhcaaGreatDoor
namespace Go.Proofs.YtboegjdkedjhcaaGreatDoor
open Go.RowKit
set_option maxHeartbeats 1000000 in
theorem refRels_any (s : GSym) (vr vn : Value) (w : World) (h : SymIn w s vr vn) :
    Calls Tryz.prog 129 #[.agg #[.string s.name, .int .u8 s.bind, .int .u8 s.kind, .int .u32 s.size, .string s.bytes, vr, vn]] w fun e w' => e = .returned (.bool (relsOk s)) ∧ Below w.heap.size w w' := by
  obtain ⟨hr, -, -, -, -, -, hbs⟩ := h
  obtain ⟨p, cap, b, o, rfl, hcap, hmax, hp, hc⟩ := hr
  have HC := Lib.hid hc; clear hc
  have HP := Lib.hid hp; clear hp
  go_enter Tryz.func129, Tryz.ntmps129
  go_wp2
  go_loopw [3, 4] (fun v3 v4 wr => ∃ (k : Nat) (e : Int), k ≤ s.rels.length ∧ v4 = .int .i64 k ∧ v3 = .int .i64 e ∧ 0 ≤ e ∧ e ≤ 5000000000 ∧ relsGo s.bytes.size e (s.rels.drop k) = relsGo s.bytes.size 0 s.rels ∧ Below (w.heap.size + 1) (w.alloc (.cells #[.string s.name, .int .u8 s.bind, .int .u8 s.kind, .int .u32 s.size, .string s.bytes, .slice p s.rels.length cap, vn] 55)) wr) (fun _ v4 _ => s.rels.length - (intOf v4).toNat)
  case atStart => exact ⟨0, 0, Nat.zero_le _, rfl, rfl, by omega, by omega, rfl, Below.refl _ _⟩
  case round =>
    obtain ⟨k, e, hk, rfl, rfl, he0, he1, hgo, hbel⟩ := hrel
    have HGO := Lib.hid hgo; clear hgo
    have c5 : wr.cell? ⟨w.heap.size, 5, none⟩ = some (.slice p s.rels.length cap) := by rw [hbel.cell (by simp)]; simp [go_sem]
    have c4 : wr.cell? ⟨w.heap.size, 4, none⟩ = some (.string s.bytes) := by rw [hbel.cell (by simp)]; simp [go_sem]
    have hsz : w.heap.size + 1 ≤ wr.heap.size := by have := hbel.size; simpa using this
    have HB := Lib.hid hbel; clear hbel
    by_cases hlt : k < s.rels.length
    · obtain rfl := HP.out (by omega)
      obtain ⟨g0, g1, g2, g3, g4, g5, g6, g7, g8⟩ := relR_keeps _ _ _ _ _ ((alloc_old w _).trans (HB.out.mono (by omega))) (HC.out k hlt)
      generalize hx : s.rels[k] = x at *
      obtain ⟨xo, xk, xn, xa⟩ := x
      simp only [] at *
      have hwd := widthOf_bd xk
      have HX := Lib.hid hx; clear hx
      have hsz' : w.heap.size < wr.heap.size := by omega
      have hsz2 : b < wr.heap.size := by omega
      have HBW : Hid (Below w.heap.size w wr) := (alloc_old w _).trans (HB.out.mono (by omega))
      go_wp2_with (first | (go_at_call 177; refine (refWidth_any _ _).mono ?_; rintro e w' ⟨rfl, rfl⟩) | (go_at_call 38; refine (refName_any _ _ (by unfold maxLen; omega)).mono ?_; rintro e w' ⟨rfl, rfl⟩))
      all_goals first
        | (go_ret; exact ⟨ret_bool (relsOk_no hlt HX.out HGO.out (by go_light; simp_all; try omega)), HBW.out.alloc (by omega) _⟩)
        | (go_roundw
           case rel => exact ⟨k + 1, _, by omega, by go_num, rfl, by omega, by omega, relsGo_yes hlt HX.out HGO.out (by go_light; simp_all; try omega) rfl, HB.out.alloc (by omega) _⟩
           case measure => simp [intOf]; omega)
    · go_wp2
      go_ret
      exact ⟨ret_bool (relsOk_end hlt HGO.out), (alloc_old w _).trans (HB.out.mono (by omega))⟩
end Go.Proofs.YtboegjdkedjhcaaGreatDoor
namespace Go.Proofs.YtboegjdkedjhcaaGreatDoor
open Go.RowKit
set_option maxHeartbeats 1000000 in
theorem refNote_any (x : GNote) (w : World) (h1 : 0 ≤ x.kind ∧ x.kind ≤ 255) (h2 : 0 ≤ x.n ∧ x.n ≤ 4294967295) (h3 : 0 ≤ x.m ∧ x.m ≤ 4294967295) :
    Calls Tryz.prog 128 #[.agg #[.int .u8 x.kind, .int .u32 x.n, .int .u32 x.m]] w fun e w' => e = .returned (.bool (noteOk x)) ∧ Below w.heap.size w w' := by
  obtain ⟨k, n, m⟩ := x
  simp only [] at *
  go_enter Tryz.func128, Tryz.ntmps128
  go_wp2
  all_goals
    go_ret
    exact ⟨ret_bool (by go_light; first | (simp_all [noteOk, ibeq]; done) | (simp_all [noteOk]; omega)), alloc_old w _⟩
set_option maxHeartbeats 1000000 in
theorem refSym_noA (s : GSym) (vr vn : Value) (w : World) (h : SymIn w s vr vn) (hA : ¬ symA s) :
    Calls Tryz.prog 81 #[.agg #[.string s.name, .int .u8 s.bind, .int .u8 s.kind, .int .u32 s.size, .string s.bytes, vr, vn]] w fun e w' => e = .returned (.bool (symOk s)) ∧ Below w.heap.size w w' := by
  obtain ⟨-, -, hb, hk, hz, hn, hbs⟩ := h
  rw [← symOk_noA hA]
  unfold symA at hA
  obtain ⟨yn, yb, yk, ys, yy, yr, yt⟩ := s
  simp only [] at hA hb hk hz hn hbs ⊢
  have HA := Lib.hid hA; clear hA
  by_cases c1 : isName yn = true
  · by_cases c2 : yb ≤ 2
    · by_cases c3 : 1 ≤ yk
      · by_cases c4 : yk ≤ 3
        · by_cases c5 : 1 ≤ ys
          · by_cases c6 : ys ≤ 8192
            · by_cases c7 : (yy.size : Int) ≤ ys
              · exact absurd ⟨c1, c2, c3, c4, c5, c6, c7⟩ HA.out
              · go_enter Tryz.func81, Tryz.ntmps81
                go_wp2_with (go_at_call 38; refine (refName_any _ _ (by unfold maxLen; omega)).mono ?_; rintro e w' ⟨rfl, rfl⟩)
                go_ret
                exact ⟨rfl, alloc_old w _⟩
            · go_enter Tryz.func81, Tryz.ntmps81
              go_wp2_with (go_at_call 38; refine (refName_any _ _ (by unfold maxLen; omega)).mono ?_; rintro e w' ⟨rfl, rfl⟩)
              go_ret
              exact ⟨rfl, alloc_old w _⟩
          · go_enter Tryz.func81, Tryz.ntmps81
            go_wp2_with (go_at_call 38; refine (refName_any _ _ (by unfold maxLen; omega)).mono ?_; rintro e w' ⟨rfl, rfl⟩)
            go_ret
            exact ⟨rfl, alloc_old w _⟩
        · go_enter Tryz.func81, Tryz.ntmps81
          go_wp2_with (go_at_call 38; refine (refName_any _ _ (by unfold maxLen; omega)).mono ?_; rintro e w' ⟨rfl, rfl⟩)
          go_ret
          exact ⟨rfl, alloc_old w _⟩
      · go_enter Tryz.func81, Tryz.ntmps81
        go_wp2_with (go_at_call 38; refine (refName_any _ _ (by unfold maxLen; omega)).mono ?_; rintro e w' ⟨rfl, rfl⟩)
        go_ret
        exact ⟨rfl, alloc_old w _⟩
    · go_enter Tryz.func81, Tryz.ntmps81
      go_wp2_with (go_at_call 38; refine (refName_any _ _ (by unfold maxLen; omega)).mono ?_; rintro e w' ⟨rfl, rfl⟩)
      go_ret
      exact ⟨rfl, alloc_old w _⟩
  · have n1 : isName yn = false := by simpa using c1
    clear c1
    go_enter Tryz.func81, Tryz.ntmps81
    go_wp2_with (go_at_call 38; refine (refName_any _ _ (by unfold maxLen; omega)).mono ?_; rintro e w' ⟨rfl, rfl⟩)
    go_ret
    exact ⟨rfl, alloc_old w _⟩
set_option maxHeartbeats 1000000 in
theorem refSym_noB (s : GSym) (vr vn : Value) (w : World) (h : SymIn w s vr vn) (hA : symA s) (hB : ¬ symB s) :
    Calls Tryz.prog 81 #[.agg #[.string s.name, .int .u8 s.bind, .int .u8 s.kind, .int .u32 s.size, .string s.bytes, vr, vn]] w fun e w' => e = .returned (.bool (symOk s)) ∧ Below w.heap.size w w' := by
  obtain ⟨-, -, hb, hk, hz, hn, hbs⟩ := h
  rw [← symOk_noB hB]
  unfold symA at hA
  unfold symB at hB
  obtain ⟨yn, yb, yk, ys, yy, yr, yt⟩ := s
  simp only [] at hA hB hb hk hz hn hbs ⊢
  obtain ⟨c1, c2, c3, c4, c5, c6, c7⟩ := hA
  obtain rfl : yk = 1 := by omega
  by_cases c8 : (yy.size : Int) = ys
  · have c9 : ¬ ys % 8 = 0 := fun h => hB (.inr ⟨c8, h⟩)
    have b8 : ((yy.size : Int) != ys) = false := by simp [c8]
    have b9 : (ys % 8 != 0) = true := by simpa using c9
    clear hB c8 c9
    go_enter Tryz.func81, Tryz.ntmps81
    go_wp2_with (go_at_call 38; refine (refName_any _ _ (by unfold maxLen; omega)).mono ?_; rintro e w' ⟨rfl, rfl⟩)
    go_ret
    exact ⟨rfl, alloc_old w _⟩
  · have b8 : ((yy.size : Int) != ys) = true := by simpa using c8
    clear hB c8
    go_enter Tryz.func81, Tryz.ntmps81
    go_wp2_with (go_at_call 38; refine (refName_any _ _ (by unfold maxLen; omega)).mono ?_; rintro e w' ⟨rfl, rfl⟩)
    go_ret
    exact ⟨rfl, alloc_old w _⟩
set_option maxRecDepth 100000 in
set_option maxHeartbeats 2000000 in
theorem refSym_go (s : GSym) (vr vn : Value) (w : World) (h : SymIn w s vr vn) (hA : symA s) (hB : symB s) :
    Calls Tryz.prog 81 #[.agg #[.string s.name, .int .u8 s.bind, .int .u8 s.kind, .int .u32 s.size, .string s.bytes, vr, vn]] w fun e w' => e = .returned (.bool (symOk s)) ∧ Below w.heap.size w w' := by
  have HS := Lib.hid h
  have HE := Lib.hid (symOk_AB hA hB)
  obtain ⟨hr, hnt, hb, hk, hz, hn, hbs⟩ := h
  obtain ⟨p, cap, b, o, rfl, hcap, hmax, hp, hc⟩ := hnt
  have HC := Lib.hid hc; clear hc
  have HP := Lib.hid hp; clear hp
  obtain ⟨pr, capr, br, or', rfl, -⟩ := hr
  unfold symA at hA
  obtain ⟨c1, c2, c3, c4, c5, c6, c7⟩ := hA
  have hbb : Hid (symB s) := hB
  clear hB
  have HW : Hid (Below w.heap.size w (w.alloc (.cells #[.string s.name, .int .u8 s.bind, .int .u8 s.kind, .int .u32 s.size, .string s.bytes, .slice pr s.rels.length capr, .slice p s.notes.length cap] 55))) := alloc_old w _
  have main : ∀ (sl : Value), True := fun _ => trivial
  clear main
  have hcase : (((s.kind == 1) = false) ∨ ((s.kind == 1) = true ∧ ((s.bytes.size : Int) != s.size) = false ∧ (s.size % 8 != 0) = false)) := by
    rcases hbb.out with h1 | ⟨h1, h2⟩
    · exact .inl (by simpa using h1)
    · by_cases h3 : s.kind = 1
      · exact .inr ⟨by simp [h3], by simp [h1], by simp [h2]⟩
      · exact .inl (by simpa using h3)
  have tail : True := trivial
  rcases hcase with d1 | ⟨d1, d2, d3⟩
  all_goals
    go_enter Tryz.func81, Tryz.ntmps81
    go_wp2_with (go_at_call 38; refine (refName_any _ _ (by unfold maxLen; omega)).mono ?_; rintro e w' ⟨rfl, rfl⟩)
    go_loopw [3] (fun v3 wr => ∃ k : Nat, k ≤ s.notes.length ∧ v3 = .int .i64 k ∧ (s.notes.take k).all noteOk = true ∧ Below (w.heap.size + 1) (w.alloc (.cells #[.string s.name, .int .u8 s.bind, .int .u8 s.kind, .int .u32 s.size, .string s.bytes, .slice pr s.rels.length capr, .slice p s.notes.length cap] 55)) wr) (fun v3 _ => s.notes.length - (intOf v3).toNat)
    case atStart => exact ⟨0, Nat.zero_le _, rfl, rfl, Below.refl _ _⟩
    case round =>
      obtain ⟨k, hkk, rfl, hall, hbel⟩ := hrel
      have HAL := Lib.hid hall; clear hall
      have k0 : wr.cell? ⟨w.heap.size, 0, none⟩ = some (.string s.name) := by rw [hbel.cell (by simp)]; simp [go_sem]
      have k1 : wr.cell? ⟨w.heap.size, 1, none⟩ = some (.int .u8 s.bind) := by rw [hbel.cell (by simp)]; simp [go_sem]
      have k2 : wr.cell? ⟨w.heap.size, 2, none⟩ = some (.int .u8 s.kind) := by rw [hbel.cell (by simp)]; simp [go_sem]
      have k3 : wr.cell? ⟨w.heap.size, 3, none⟩ = some (.int .u32 s.size) := by rw [hbel.cell (by simp)]; simp [go_sem]
      have k4 : wr.cell? ⟨w.heap.size, 4, none⟩ = some (.string s.bytes) := by rw [hbel.cell (by simp)]; simp [go_sem]
      have k5 : wr.cell? ⟨w.heap.size, 5, none⟩ = some (.slice pr s.rels.length capr) := by rw [hbel.cell (by simp)]; simp [go_sem]
      have k6 : wr.cell? ⟨w.heap.size, 6, none⟩ = some (.slice p s.notes.length cap) := by rw [hbel.cell (by simp)]; simp [go_sem]
      have zz : w.heap.size < wr.heap.size := by have := hbel.size; simp at this; omega
      have HBW : Hid (Below w.heap.size w wr) := HW.out.trans (hbel.mono (by omega))
      have HB := Lib.hid hbel; clear hbel
      by_cases hlt : k < s.notes.length
      · obtain rfl := HP.out (by omega)
        obtain ⟨g0, g1, g2, g3, g5, g6, g7⟩ := noteR_keeps _ _ _ _ _ HBW.out (HC.out k hlt)
        have HCON := Lib.hid (refNote_any s.notes[k] wr g5 g6 g7)
        generalize hx : s.notes[k] = x at g1 g2 g3 g5 g6 g7 HCON
        obtain ⟨xk, xn, xm⟩ := x
        simp only [] at g1 g2 g3 g5 g6 g7 HCON
        have HX := Lib.hid hx; clear hx
        go_wp2_with (go_at_call 128; refine HCON.out.mono ?_; rintro e w' ⟨rfl, hB1⟩)
        · have hbad : (!noteOk ⟨xk, xn, xm⟩) = true := by assumption
          go_ret
          exact ⟨ret_bool (by rw [HE.out, all_bad hlt HX.out (by simpa using hbad)]; rfl), HBW.out.trans (hB1.mono HBW.out.size)⟩
        · have hok : (!noteOk ⟨xk, xn, xm⟩) = false := by assumption
          go_roundw
          case rel => exact ⟨k + 1, by omega, by go_num, take_all_snoc hlt HX.out HAL.out (by simpa using hok), HB.out.trans (hB1.mono (by omega))⟩
          case measure => simp [intOf]; omega
      · have HCON := Lib.hid (refRels_any s _ _ wr (HS.out.keep HBW.out))
        go_wp2_with (go_at_call 129; refine HCON.out.mono ?_; rintro e w' ⟨rfl, hB1⟩; obtain ⟨hc1, hf1⟩ := bcell hB1)
        all_goals
          go_ret
          exact ⟨ret_bool (by rw [HE.out, all_end hlt HAL.out]; go_light; simp_all; try omega), HBW.out.trans (hB1.mono HBW.out.size)⟩
theorem refSym_any (s : GSym) (vr vn : Value) (w : World) (h : SymIn w s vr vn) :
    Calls Tryz.prog 81 #[.agg #[.string s.name, .int .u8 s.bind, .int .u8 s.kind, .int .u32 s.size, .string s.bytes, vr, vn]] w fun e w' => e = .returned (.bool (symOk s)) ∧ Below w.heap.size w w' := by
  by_cases hA : symA s
  · by_cases hB : symB s
    · exact refSym_go s vr vn w h hA hB
    · exact refSym_noB s vr vn w h hA hB
  · exact refSym_noA s vr vn w h hA
end Go.Proofs.YtboegjdkedjhcaaGreatDoor
namespace Go.Proofs.YtboegjdkedjhcaaGreatDoor
open Go.RowKit
theorem toList_beq' (a b : ByteArray) : (a.toList == b.toList) = (a.data.toList == b.data.toList) := by rw [ByteArray.toList_eq, ByteArray.toList_eq]
theorem hasName_take {l : List GSym} {k : Nat} {x : GSym} {n : List UInt8} (h : k < l.length) (hx : l[k] = x) : hasName (l.take (k + 1)) n = (hasName (l.take k) n || x.name.data.toList == n) := by
  rw [List.take_succ_eq_append_getElem h, hx, hasName_snoc]
theorem hasName_hit {l : List GSym} {i k : Nat} {x : GSym} {n : List UInt8} (hk : k < i) (h : k < l.length) (hx : l[k] = x) (hn : x.name.data.toList = n) : hasName (l.take i) n = true := by
  unfold hasName
  rw [List.any_eq_true]
  refine ⟨x, ?_, by simp [hn]⟩
  rw [List.mem_take_iff_getElem]
  exact ⟨k, by omega, hx⟩
set_option maxRecDepth 100000 in
set_option maxHeartbeats 2000000 in
theorem refMay_any (x : GObj) (vs : Value) (w : World) (h : ObjIn w x vs) :
    Calls Tryz.prog 37 #[.agg #[.string x.name, vs]] w fun e w' => e = .returned (.bool (mayOk x)) ∧ Below w.heap.size w w' := by
  obtain ⟨hr, hnm⟩ := h
  obtain ⟨p, cap, b, o, rfl, hcap, hmax, hp, hc⟩ := hr
  have HC := Lib.hid hc; clear hc
  have HP := Lib.hid hp; clear hp
  go_enter Tryz.func37, Tryz.ntmps37
  go_wp2
  go_loopw [3] (fun v3 wr => ∃ i : Nat, i ≤ x.syms.length ∧ v3 = .int .i64 i ∧ symsGoR (x.syms.take i) (x.syms.drop i) = symsGoR [] x.syms ∧ Below (w.heap.size + 1) (w.alloc (.cells #[.string x.name, .slice p x.syms.length cap] 50)) wr) (fun v3 _ => x.syms.length - (intOf v3).toNat)
  case atStart => exact ⟨0, Nat.zero_le _, rfl, rfl, Below.refl _ _⟩
  case round =>
    obtain ⟨i, hi, rfl, hgo, hbel⟩ := hrel
    have HGO := Lib.hid hgo; clear hgo
    have c0 : wr.cell? ⟨w.heap.size, 0, none⟩ = some (.string x.name) := by rw [hbel.cell (by simp)]; simp [go_sem]
    have c1 : wr.cell? ⟨w.heap.size, 1, none⟩ = some (.slice p x.syms.length cap) := by rw [hbel.cell (by simp)]; simp [go_sem]
    have hsz1 : w.heap.size < wr.heap.size := by have := hbel.size; simp at this; omega
    have HBW : Hid (Below w.heap.size w wr) := (alloc_old w _).trans (hbel.mono (by omega))
    have HB := Lib.hid hbel; clear hbel
    by_cases hlt : i < x.syms.length
    · obtain rfl := HP.out (by omega)
      obtain ⟨vr, vn, g0, g1, g2, g3, g4, g5, g6, g7, hsin⟩ := symR_keeps _ _ _ _ _ HBW.out (HC.out i hlt)
      have N0 := Lib.hid (HC.out i hlt)
      have HCON := Lib.hid (refSym_any x.syms[i] vr vn wr hsin); clear hsin
      generalize hx : x.syms[i] = y at g1 g2 g3 g4 g5 g6 g7 HCON N0
      obtain ⟨yn, yb, yk, ys, yy, yr, yt⟩ := y
      simp only [] at g1 g2 g3 g4 g5 g6 g7 HCON
      have HX := Lib.hid hx; clear hx
      go_wp2_with (go_at_call 81; refine HCON.out.mono ?_; rintro e w1 ⟨rfl, hB1⟩; have HB1 := Lib.hid hB1; clear hB1)
      · have hbad : (!symOk ⟨yn, yb, yk, ys, yy, yr, yt⟩) = true := by assumption
        go_ret
        exact ⟨ret_bool (mayOk_no hlt HX.out HGO.out (.inr (by simpa using hbad))), HBW.out.trans (HB1.out.mono HBW.out.size)⟩
      · have hok : (!symOk ⟨yn, yb, yk, ys, yy, yr, yt⟩) = false := by assumption
        have HOK : Hid (symOk ⟨yn, yb, yk, ys, yy, yr, yt⟩ = true) := by simpa [Hid] using hok
        have HB2 := Lib.hid (HB.out.trans (HB1.out.mono (by omega)))
        clear c0 c1 g0 g1 g2 g3 g4 g5 g6 g7 HBW HB
        obtain ⟨wo, rfl⟩ : ∃ wo : World, wo = wr := ⟨_, rfl⟩
        go_loopw [4] (fun v4 wr => ∃ k : Nat, k ≤ i ∧ v4 = .int .i64 k ∧ hasName (x.syms.take k) yn.data.toList = false ∧ Below (w.heap.size + 1) (w.alloc (.cells #[.string x.name, .slice (some ⟨b, o, none⟩) x.syms.length cap] 50)) wr) (fun v4 _ => i - (intOf v4).toNat)
        case atStart => exact ⟨0, Nat.zero_le _, rfl, by simp [hasName], HB2.out⟩
        case round =>
          obtain ⟨k, hk, rfl, hno, hbel⟩ := hrel
          have HNO := Lib.hid hno; clear hno
          have c1 : wr.cell? ⟨w.heap.size, 1, none⟩ = some (.slice (some ⟨b, o, none⟩) x.syms.length cap) := by rw [hbel.cell (by simp)]; simp [go_sem]
          have hsz2 : w.heap.size < wr.heap.size := by have := hbel.size; simp at this; omega
          have HBW : Hid (Below w.heap.size w wr) := (alloc_old w _).trans (hbel.mono (by omega))
          have HB := Lib.hid hbel; clear hbel
          by_cases hki : k < i
          · obtain ⟨vr2, vn2, q0, q1, -⟩ := symR_keeps _ _ _ _ _ HBW.out (HC.out k (by omega))
            obtain ⟨vr3, vn3, g0, g1, -⟩ := symR_keeps _ _ _ _ _ HBW.out N0.out
            simp only [] at g1
            generalize hz : x.syms[k] = z at q1
            obtain ⟨zn, zb, zk, zs, zy, zr, zt⟩ := z
            simp only [] at q1
            have HZ := Lib.hid hz; clear hz
            have e1 : (0 : Int) ≤ (k : Int) := by omega
            have e2 : (k : Int) < (x.syms.length : Int) := by omega
            have e3 : (0 : Int) ≤ (i : Int) := by omega
            have e4 : (i : Int) < (x.syms.length : Int) := by omega
            by_cases hnn : zn.data.toList = yn.data.toList
            · have bq : (zn.toList == yn.toList) = true := by rw [toList_beq', hnn]; simp
              have HNN := Lib.hid hnn; clear hnn
              go_wp2
              go_quiet (fail)
              go_wp2
              go_ret
              exact ⟨ret_bool (mayOk_no hlt HX.out HGO.out (.inl (hasName_hit hki (by omega) HZ.out HNN.out))), below_drewN HBW.out _⟩
            · have bq : (zn.toList == yn.toList) = false := by rw [toList_beq', beq_eq_false_iff_ne]; exact hnn
              have HNN := Lib.hid hnn; clear hnn
              go_wp2
              go_quiet (fail)
              go_wp2
              go_roundw
              case rel => exact ⟨k + 1, by omega, by go_num, by rw [hasName_take (by omega) HZ.out, HNO.out]; simp only [Bool.false_or, beq_eq_false_iff_ne]; exact HNN.out, below_drewN HB.out _⟩
              case measure => simp [intOf]; omega
          · obtain rfl : k = i := by omega
            go_wp2
            go_roundw
            case rel => exact ⟨k + 1, by omega, by go_num, symsGoR_yes hlt HX.out HGO.out HNO.out HOK.out, HB.out⟩
            case measure => simp [intOf]; omega
    · go_wp2_with (go_at_call 38; refine (refName_any _ _ (by unfold maxLen; omega)).mono ?_; rintro e w' ⟨rfl, rfl⟩)
      all_goals
        go_ret
        exact ⟨ret_bool (by rw [mayOk_end hlt HGO.out]; go_light; simp_all; try omega), HBW.out⟩
end Go.Proofs.YtboegjdkedjhcaaGreatDoor
