/- The walk of the archive's begin. What is pulled, in plain words. No program in sight. The walk of aediculelaw35.refers. What is pulled is needed, and a second pull brings nothing, in plain words. No program in sight. The walk of. -/
import Derived.Test.YtboegjdkedjhcaaGreatDoorBs37
import Derived.Test.YtboegjdkedjhcaaGreatDoorBs04
import Derived.Test.YtboegjdkedjhcaaGreatDoorBs28
import Derived.Test.YtboegjdkedjhcaaGreatDoorBs36
import Derived.Test.YtboegjdkedjhcaaGreatDoorBs25
import Derived.Test.YtboegjdkedjhcaaGreatDoorBs07
import Derived.Test.YtboegjdkedjhcaaGreatDoorRows
import Derived.Lib.Hide
import Derived.Deep.QuietTactic
import Derived.BigQuiet
namespace Go.Proofs.YtboegjdkedjhcaaGreatDoor
set_option maxRecDepth 100000
section
open Go.RowKit Go.Maps Go.WideMaps
def EntR (w : World) (b o : Nat) (x : GEnt) : Prop := b < w.heap.size ∧ w.cell? ⟨b, o, none⟩ = some (.string x.name) ∧ w.cell? ⟨b, o + 1, none⟩ = some (.int .i64 x.mem) ∧ w.cell? ⟨b, o + 2, none⟩ = some (.int .u8 x.bind)
theorem EntRow.rows {B : Nat} {w : World} {v : Value} {es : List GEnt} (h : EntRow B w v es) (hl : es.length ≤ 140737488355328) : RowAt 3 EntR w v es :=
 owned_row entCells_len h hl fun _ _ _ _ hg hcell => ⟨hg, hcell 0 _ (by omega) rfl, hcell 1 _ (by omega) rfl, hcell 2 _ (by omega) rfl⟩
def BestOf (es : List GEnt) (G : List UInt8 → Option GEnt) : Prop := (∀ n x, G n = some x → x ∈ es ∧ x.name.data.toList = n) ∧ ∀ x ∈ es, (G x.name.data.toList).isSome = true
theorem BestOf.add {es : List GEnt} {G G' : List UInt8 → Option GEnt} {x : GEnt} (h : BestOf es G) (hG : G' = G ∧ (G x.name.data.toList).isSome = true ∨ G' = updG G x) : BestOf (es ++ [x]) G' := by
 rcases hG with ⟨rfl, hs⟩ | rfl
 ·refine ⟨fun n y hy => ?_, fun y hy => ?_⟩
  ·obtain ⟨h1, h2⟩ := h.1 n y hy; exact ⟨List.mem_append_left _ h1, h2⟩
  ·rcases List.mem_append.1 hy with hy | hy
   ·exact h.2 y hy
   ·obtain rfl : y = x := by simpa using hy
    exact hs
 ·refine ⟨fun n y hy => ?_, fun y hy => ?_⟩
  ·unfold updG at hy; split at hy
   ·rename_i e; cases hy; exact ⟨by simp, e.symm⟩
   ·obtain ⟨h1, h2⟩ := h.1 n y hy; exact ⟨List.mem_append_left _ h1, h2⟩
  ·unfold updG; split
   ·rfl
   ·rename_i hne; rcases List.mem_append.1 hy with hy | hy
    ·exact h.2 y hy
    ·obtain rfl : y = x := by simpa using hy
     exact absurd rfl hne
theorem BestOf.perm {es es' : List GEnt} {G : List UInt8 → Option GEnt} (h : BestOf es G) (hp : es.Perm es') : BestOf es' G :=
 ⟨fun n x hx => ⟨hp.mem_iff.1 (h.1 n x hx).1, (h.1 n x hx).2⟩, fun x hx => h.2 x (hp.mem_iff.2 hx)⟩
theorem objIn_names {w : World} {o : GObj} {v : Value} (h : ObjIn w o v) : ∀ s ∈ o.syms, s.name.size ≤ 140737488355328 := by
 obtain ⟨⟨_, _, _, _, -, -, -, -, hc⟩, -⟩ := h; intro s hs; obtain ⟨i, hi, rfl⟩ := List.mem_iff_getElem.1 hs; obtain ⟨_, _, -, -, -, -, -, -, -, -, hin⟩ := hc i hi; exact hin.2.2.2.2.2.1
theorem scope_new (w : World) : ScopeOf w (w.heap.size + 1) w.heap.size (.slice none 0 0) [] ((w.alloc (.map #[] 0)).alloc (.cells #[.slice none 0 0, .map (some w.heap.size)] 131)) := by
 refine ⟨?_, OwnObs.nil _ _, ?_, by omega, Nat.le_refl _, ((alloc_old w _).alloc (by simp) _)⟩
 ·have := new_block (w.alloc (.map #[] 0)) (.cells #[.slice none 0 0, .map (some w.heap.size)] 131); simpa using this
 ·have := MapFn.made Tryz.prog 9 w; rw [show (fun _ => none) = boolF (defB (([] : List (GObj × Value)).map (·.1))) from defB_nil.symm] at this
  exact this.alloc _
theorem made_int (w : World) : MapKFn intE (w.alloc (.map #[] 0)) w.heap.size 0 (inF fun _ => false) := by
 have := MapKFn.made intE w; exact this
def BegPost (w : World) (lb ms : List GObj) (e : Ending) (w' : World) : Prop :=
 ∃ pb sb mb bb ib va v us ts nb G, e = .returned (.pointer (some ⟨pb, 0, none⟩)) ∧ PullSt w pb sb mb bb ib va v us ts nb G 0 (fun _ => false) w' ∧ ts.map (·.1) = lb ∧ us.map (·.1) = ms ∧ BestOf (entsFrom 0 ms) G
set_option maxHeartbeats 4000000 in
theorem begin35_any (vb : Value) (lb : List GObj) (v : Value) (l : List GArc) (w : World) (hb : ObjsAt w vb lb) (h : ArcsAt w v l) (hlb : lb.length ≤ 1000) (hml : (memsOf l).length ≤ 1000) (hs : ∀ o ∈ lb, SmallO o) (hs2 : ∀ o ∈ memsOf l, SmallO o) :
 Calls Tryz.prog 58 #[vb, v] w (BegPost w lb (memsOf l)) := by
 have hsy := symsN_le hs2; have HME := Lib.hid (members_any w v l ((w.alloc (.map #[] 0)).alloc (.cells #[.slice none 0 0, .map (some w.heap.size)] 131)) h ((alloc_old w _).alloc (by simp) _) (by omega))
 have HIX : Hid (∀ W, Below w.heap.size w W → Calls Tryz.prog 19 #[v] W (IndexPost (memsOf l) W)) := fun W hW => index_any v l W (h.keep hW) (by omega) (by omega)
 have HSC := Lib.hid (scope_new w); have HLB := Lib.hid hlb; have HS := Lib.hid hs; have HML : Hid ((memsOf l).length ≤ 1000 ∧ symsN (memsOf l) ≤ 10000000) := ⟨hml, by omega⟩
 obtain ⟨p, cap, b, o, rfl, hcap, hmax, hp, hc⟩ := hb; have HP := Lib.hid hp; have HC := Lib.hid hc; obtain ⟨pl, cl, _, _, rfl, -⟩ := h; clear hp hc hs hs2 hml hsy; generalize memsOf l = ms at *; have hmm := @run_makeMap Tryz.prog; go_enter Tryz.func58, Tryz.ntmps58; go_wp2_with fail; have HB2 : Hid (Below w.heap.size w ((w.alloc (.map #[] 0)).alloc (.cells #[.slice none 0 0, .map (some w.heap.size)] 131))) := (alloc_old w _).alloc (by simp) _
 have z2 : ((w.alloc (.map #[] 0)).alloc (.cells #[.slice none 0 0, .map (some w.heap.size)] 131)).heap.size = w.heap.size + 2 := by simp
 generalize ((w.alloc (.map #[] 0)).alloc (.cells #[.slice none 0 0, .map (some w.heap.size)] 131)) = w2 at *; refine HME.out.mono ?_; rintro e w3 ⟨va, us, rfl, hus, hum, hB3⟩; have HUS := Lib.hid (hus.mono (B' := w.heap.size) (by omega))
 have HUM := Lib.hid hum; have HSC3 := Lib.hid (HSC.out.keep hB3); have HB3 : Hid (Below w.heap.size w w3) := HB2.out.trans (hB3.mono (by omega))
 have hz3 : w.heap.size + 2 ≤ w3.heap.size := by have := hB3.size; omega
 obtain ⟨pa, ca, rfl⟩ := own_shape hus.row; clear HME HSC HB2 hus hum hB3; go_wp2_with fail
 have HPS : Hid (PullSt w (w3.heap.size + 2) (w.heap.size + 1) w.heap.size w3.heap.size (w3.heap.size + 1) (.slice pa us.length ca) (.slice none 0 0) us [] 0 (fun _ => none) 0 (fun _ => false) (((w3.alloc (.map #[] 0)).alloc (.map #[] 0)).alloc (.cells #[.pointer (some ⟨w.heap.size + 1, 0, none⟩), .slice pa us.length ca, .map (some w3.heap.size), .map (some (w3.heap.size + 1))] 119))) := by
  have hbw : Below w3.heap.size w3 (((w3.alloc (.map #[] 0)).alloc (.map #[] 0)).alloc (.cells #[.pointer (some ⟨w.heap.size + 1, 0, none⟩), .slice pa us.length ca, .map (some w3.heap.size), .map (some (w3.heap.size + 1))] 119)) := ((alloc_old w3 _).alloc (by simp) _).alloc (by simp; omega) _
  refine ⟨?_, HSC3.out.keep hbw, HUS.out.keep hbw, ?_, ?_, by omega, by omega, by omega, by omega, by omega, by omega, fun g hg e => by cases e⟩
  ·have := new_block ((w3.alloc (.map #[] 0)).alloc (.map #[] 0)) (.cells #[.pointer (some ⟨w.heap.size + 1, 0, none⟩), .slice pa us.length ca, .map (some w3.heap.size), .map (some (w3.heap.size + 1))] 119); simpa using this
  ·have := MapFn.made Tryz.prog 9 w3; exact (this.alloc _).alloc _
  ·have := made_int (w3.alloc (.map #[] 0)); have e : (w3.alloc (.map #[] 0)).heap.size = w3.heap.size + 1 := by simp
   rw [e] at this; exact this.alloc _
 clear hmm; generalize (((w3.alloc (.map #[] 0)).alloc (.map #[] 0)).alloc (.cells #[.pointer (some ⟨w.heap.size + 1, 0, none⟩), .slice pa us.length ca, .map (some w3.heap.size), .map (some (w3.heap.size + 1))] 119)) = w6 at *; generalize w3.heap.size + 2 = pb at *; generalize w3.heap.size + 1 = ib at *; generalize w3.heap.size = bb at *; generalize w.heap.size + 1 = sb at *
 go_loopw [21] (fun v21 wr => ∃ (k : Nat) (vs : Value) (ts : List (GObj × Value)), k ≤ lb.length ∧ v21 = .int .i64 k ∧ ts.map (·.1) = lb.take k ∧ PullSt w pb sb w.heap.size bb ib (.slice pa us.length ca) vs us ts 0 (fun _ => none) 0 (fun _ => false) wr) (fun v21 _ => lb.length - (intOf v21).toNat)
 case atStart => exact ⟨0, _, [], Nat.zero_le _, rfl, rfl, HPS.out⟩
 case round =>
  clear HPS; obtain ⟨k, vs, ts, hk, rfl, hts, hst⟩ := hrel; have HTS := Lib.hid hts; have HST := Lib.hid hst; have hpl : pb < wr.heap.size := hst.lt; have c0 : wr.cell? ⟨pb, 0, none⟩ = some (.pointer (some ⟨sb, 0, none⟩)) := Lib.cell_of_heap hst.box 0
  have HSM : Hid (∀ t ∈ ts, SmallO t.1) := fun t ht => by
   have : t.1 ∈ lb.take k := by rw [← hts]; exact List.mem_map_of_mem ht
   exact HS.out _ (List.mem_of_mem_take this)
  have HLT : Hid (ts.length ≤ 5000) := by
   have : (ts.map (·.1)).length ≤ lb.length := by rw [hts, List.length_take]; omega
   rw [List.length_map] at this; rw [Hid]; have := HLB.out; omega
  have HBL : Hid (Below w.heap.size w wr) := hst.scope.blw; clear hts hst
  by_cases hlt : k < lb.length
  ·obtain rfl := HP.out (by omega)
   obtain ⟨vs2, g0, g1, g2, hin⟩ := HC.out k hlt; replace g1 := cell_keep HBL.out g0 g1; replace g2 := cell_keep HBL.out g0 g2; replace g0 := size_keep HBL.out g0; have htk : lb.take (k + 1) = lb.take k ++ [lb[k]] := List.take_succ_eq_append_getElem hlt; have hso := HS.out _ (List.getElem_mem hlt); generalize hx : lb[k] = x at g1 g2 hin htk hso; obtain ⟨yn, ys⟩ := x; have HIN := Lib.hid hin; obtain ⟨pS, capS, rfl⟩ := hin.form; simp only [] at g1 g2 HIN; have HTK := Lib.hid htk; have HSO := Lib.hid hso; clear hx htk hso hin; have HSA := Lib.hid ((HST.out.keep (alloc_old wr (.cells #[.string yn, .slice pS ys.length capS] 50))).keep (Below.refl _ _).drew); have HPUT := Lib.hid (HSA.out.scope.put HIN.out HSM.out HSO.out HLT.out); have k0 := cell_keep (alloc_old wr (.cells #[.string yn, .slice pS ys.length capS] 50)) hpl c0; have k1 : (wr.alloc (.cells #[.string yn, .slice pS ys.length capS] 50)).cell? ⟨wr.heap.size, 0, none⟩ = some (.string yn) := by simp [go_sem]
   have k2 : (wr.alloc (.cells #[.string yn, .slice pS ys.length capS] 50)).cell? ⟨wr.heap.size, 1, none⟩ = some (.slice pS ys.length capS) := by simp [go_sem]
   go_wp2; generalize (wr.alloc (.cells #[.string yn, .slice pS ys.length capS] 50)) = wA at *
   go_still_tail 5, (by kernel_rfl)
   change wpList _ _ _ _ _ wA.drew; go_wp2_with fail; refine HPUT.out.mono ?_; rintro e w7 ⟨rfl, v7, hs7, hk7, hv7⟩; have HP7 := Lib.hid (HSA.out.scoped hk7 hs7 hv7); clear hs7 hk7 hv7 HPUT; go_wp2; go_roundw
   case rel => exact ⟨k + 1, v7, ts ++ [(⟨yn, ys⟩, .slice pS ys.length capS)], by omega, by go_num, by rw [List.map_append, HTS.out, HTK.out]; rfl, HP7.out⟩
   case measure => simp [intOf]; omega
  ·obtain rfl : k = lb.length := by omega
   rw [List.take_length] at HTS; have HIW := Lib.hid (HIX.out wr HBL.out); clear HIX; go_wp2_with fail; refine HIW.out.mono ?_; rintro e w8 ⟨ve, es, rfl, hes, hpm, hB8⟩; have HP8 := Lib.hid (HST.out.keep hB8); have HES := Lib.hid hes; have HPM := Lib.hid hpm
   have hel : es.length ≤ 10000000 := by
    have h1 := hpm.length_eq; have h2 := entsFrom_len ms 0; have h3 := HML.out.2; omega
   have HNM : Hid (∀ x ∈ es, x.name.size ≤ 140737488355328) := fun x hx => by
    obtain ⟨q, hq, s, hs, -, rfl⟩ := mem_entsFrom.1 (hpm.mem_iff.1 hx); have hql : q < us.length := by rw [← HUM.out, List.length_map] at hq; exact hq
    have e1 : ms[q] = us[q].1 := by simp [← HUM.out]
    rw [e1] at hs; exact objIn_names (HUS.out.mem _ (List.getElem_mem hql)) s hs
   obtain ⟨pe, ce, rfl⟩ := own_shape hes; clear hes hpm hB8 HIW HST c0 hpl HBL; go_wp2_with fail; obtain ⟨wz, rfl⟩ : ∃ wz : World, wz = wr := ⟨_, rfl⟩
   go_loopw [35] (fun v35 wq => ∃ (j : Nat) (G : List UInt8 → Option GEnt), j ≤ es.length ∧ v35 = .int .i64 j ∧ PullSt w pb sb w.heap.size bb ib (.slice pa us.length ca) vs us ts j G 0 (fun _ => false) wq ∧ BestOf (es.take j) G ∧ EntRow wz.heap.size wq (.slice pe es.length ce) es) (fun v35 _ => es.length - (intOf v35).toNat)
   case atStart => exact ⟨0, _, Nat.zero_le _, rfl, HP8.out, ⟨fun n x hx => (by cases hx), fun x hx => (by simp at hx)⟩, HES.out⟩
   case round =>
    clear HP8 HES; obtain ⟨j, G, hj, rfl, hst, hbo, hrow⟩ := hrel; have HSJ := Lib.hid hst; have HBO := Lib.hid hbo; have HRJ := Lib.hid hrow; clear hst hbo
    by_cases hlj : j < es.length
    ·obtain ⟨_, _, be, oe, he, -, -, hpe, hce⟩ := EntRow.rows hrow (by omega)
     cases he; obtain rfl := hpe (by omega)
     obtain ⟨g0, g1, g2, g3⟩ := hce j hlj; have hsn : es.take (j + 1) = es.take j ++ [es[j]] := List.take_succ_eq_append_getElem hlj; have hnm := HNM.out _ (List.getElem_mem hlj); generalize hx : es[j] = x at g1 g2 g3 hsn hnm; have HSN := Lib.hid hsn; clear hx hsn hce hpe hrow; obtain ⟨xn, xm, xb⟩ := x; simp only [] at g1 g2 g3 hnm; have HSA := Lib.hid (HSJ.out.keep (alloc_old wr (.cells #[.string xn, .int .i64 xm, .int .u8 xb] 47))); have HCL := Lib.hid (member_any w pb sb w.heap.size bb ib (.slice pa us.length ca) vs us ts j G 0 (fun _ => false) ⟨xn, xm, xb⟩ _ HSA.out hnm (by omega))
     have HRA : Hid (EntRow wz.heap.size (wr.alloc (.cells #[.string xn, .int .i64 xm, .int .u8 xb] 47)) (.slice (some ⟨be, oe, none⟩) es.length ce) es) := own_congr HRJ.out fun g hg => Below.heap_alloc _ _ _ (World.ownsRow.lt HRJ.out g hg).2
     unfold entV at HCL; simp only [] at HCL; go_wp2_with fail; refine HCL.out.mono ?_; rintro e w9 ⟨rfl, hk9, G', hs9, hG⟩; have HS9 := Lib.hid hs9; have HG9 : Hid (BestOf (es.take (j + 1)) G') := by rw [Hid, HSN.out]; exact HBO.out.add hG
     have HR9 : Hid (EntRow wz.heap.size w9 (.slice (some ⟨be, oe, none⟩) es.length ce) es) := own_congr HRA.out fun g hg => hk9.block g (World.ownsRow.lt HRA.out g hg).2 (fun e => own_ne_map HRA.out HSA.out.best (e ▸ hg))
     clear hk9 hs9 hG HCL; go_wp2; go_roundw
     case rel => exact ⟨j + 1, G', by omega, by go_num, HS9.out, HG9.out, HR9.out⟩
     case measure => simp [intOf]; omega
    ·obtain rfl : j = es.length := by omega
     rw [List.take_length] at HBO; have HBP := Lib.hid (HBO.out.perm HPM.out); go_wp2; go_ret; exact ⟨pb, sb, w.heap.size, bb, ib, .slice pa us.length ca, vs, us, ts, _, G, rfl, HSJ.out, HTS.out, HUM.out, HBP.out⟩
end
section
def refO (o : GObj) (n : List UInt8) : Bool := o.syms.any fun s => s.rels.any fun r => r.name.data.toList == n
def selGo (I : Nat → Bool) : Nat → List GObj → List GObj
 | _, [] => []
 | k, o :: r => (if I k = true then [o] else []) ++ selGo I (k + 1) r
theorem selGo_app (I : Nat → Bool) : ∀ (l r : List GObj) (k : Nat), selGo I k (l ++ r) = selGo I k l ++ selGo I (k + l.length) r
 | [], r, k => by simp [selGo]
 | o :: l, r, k => by
   have ih := selGo_app I l r (k + 1); simp only [List.cons_append, selGo, ih, List.append_assoc, List.length_cons]; rw [show k + 1 + l.length = k + (l.length + 1) by omega]
theorem selGo_snoc {I : Nat → Bool} {l : List GObj} {k : Nat} {x : GObj} (h : k < l.length) (hx : l[k] = x) : selGo I 0 (l.take (k + 1)) = selGo I 0 (l.take k) ++ if I k = true then [x] else [] := by
 rw [List.take_succ_eq_append_getElem h, hx, selGo_app]; simp only [selGo, List.append_nil, List.length_take, Nat.zero_add]; rw [Nat.min_eq_left (by omega)]
theorem selGo_len (I : Nat → Bool) : ∀ (l : List GObj) (k : Nat), (selGo I k l).length ≤ l.length
 | [], k => by simp [selGo]
 | o :: r, k => by
   have ih := selGo_len I r (k + 1); simp only [selGo, List.length_append, List.length_cons]; split <;> simp <;> omega
theorem mem_selGo {I : Nat → Bool} : ∀ {l : List GObj} {a : Nat} {x : GObj}, x ∈ selGo I a l ↔ ∃ (k : Nat) (h : k < l.length), I (a + k) = true ∧ l[k] = x
 | [], a, x => by simp [selGo]
 | o :: r, a, x => by
   rw [selGo, List.mem_append, mem_selGo (l := r)]; constructor
   ·rintro (h1 | ⟨k, hk, h1, h2⟩)
    ·split at h1
     ·rename_i hi; obtain rfl : x = o := by simpa using h1
      exact ⟨0, by simp, hi, rfl⟩
     ·cases h1
    ·exact ⟨k + 1, by simpa using hk, by rw [show a + (k + 1) = a + 1 + k by omega]; exact h1, by simpa using h2⟩
   ·rintro ⟨k, hk, h1, h2⟩
    match k, hk, h1, h2 with
    | 0, hk, h1, h2 => exact .inl (by rw [if_pos (by simpa using h1)]; simpa using h2.symm)
    | k + 1, hk, h1, h2 => exact .inr ⟨k, by simpa using hk, by rw [show a + 1 + k = a + (k + 1) by omega]; exact h1, by simpa using h2⟩
def NeedOf0 (nm : List UInt8) (lb ms : List GObj) (I : Nat → Bool) (k : Nat) : Prop :=
 ∃ (h : k < ms.length), ∃ s ∈ ms[k].syms, s.bind ≠ 0 ∧ (s.name.data.toList = nm ∨ (∃ o ∈ lb, refO o s.name.data.toList = true) ∨ ∃ (j : Nat) (hj : j < ms.length), j ≠ k ∧ I j = true ∧ refO ms[j] s.name.data.toList = true)
def Wants0 (nm : List UInt8) (lb ms : List GObj) : Prop := ∃ n ∈ wantsRaw (defB lb) nm lb, ∃ o ∈ ms, defS o.syms n = true
def NeedOf (nm : List UInt8) (lb ms : List GObj) (I : Nat → Bool) (k : Nat) : Prop := Wants0 nm lb ms ∧ NeedOf0 nm lb ms I k
theorem NeedOf.mono {nm : List UInt8} {lb ms : List GObj} {I I' : Nat → Bool} {k : Nat} (h : NeedOf nm lb ms I k) (hi : ∀ j, I j = true → I' j = true) : NeedOf nm lb ms I' k := by
 obtain ⟨hw, h0, s, hs, h1, h2⟩ := h; refine ⟨hw, h0, s, hs, h1, ?_⟩; rcases h2 with h2 | h2 | ⟨j, hj, h3, h4, h5⟩
 ·exact .inl h2
 ·exact .inr (.inl h2)
 ·exact .inr (.inr ⟨j, hj, h3, hi j h4, h5⟩)
structure PullOk (nm : List UInt8) (lb ms : List GObj) (I : Nat → Bool) : Prop where
 stop : ∀ n ∈ wantsRaw (defB (lb ++ selGo I 0 ms)) nm (lb ++ selGo I 0 ms), ∀ o ∈ ms, defS o.syms n = false
 need : ∀ k, I k = true → NeedOf nm lb ms I k
def InSet (lb ms objs : List GObj) (I : Nat → Bool) : Prop := ∀ o, o ∈ objs ↔ o ∈ lb ∨ ∃ (k : Nat) (h : k < ms.length), I k = true ∧ ms[k] = o
theorem inSet_sel (lb ms : List GObj) (I : Nat → Bool) : InSet lb ms (lb ++ selGo I 0 ms) I := fun o => by
 rw [List.mem_append, mem_selGo]; constructor
 ·rintro (h | ⟨k, hk, h1, h2⟩)
  ·exact .inl h
  ·exact .inr ⟨k, hk, by simpa using h1, h2⟩
 ·rintro (h | ⟨k, hk, h1, h2⟩)
  ·exact .inl h
  ·exact .inr ⟨k, hk, by simpa using h1, h2⟩
theorem defB_true {l : List GObj} {n : List UInt8} : defB l n = true ↔ ∃ o ∈ l, defS o.syms n = true := by simp [defB]
theorem defB_same {a b : List GObj} (h : ∀ o, o ∈ a ↔ o ∈ b) : defB a = defB b := by
 funext n
 rw [Bool.eq_iff_iff, defB_true, defB_true]; exact ⟨fun ⟨o, h1, h2⟩ => ⟨o, (h o).1 h1, h2⟩, fun ⟨o, h1, h2⟩ => ⟨o, (h o).2 h1, h2⟩⟩
theorem mem_wantsO {F : List UInt8 → Bool} {l : List GObj} {n : List UInt8} : n ∈ wantsO F l ↔ ∃ o ∈ l, ∃ s ∈ o.syms, ∃ r ∈ s.rels, wantR F o.syms r = true ∧ r.name.data.toList = n := by
 simp only [wantsO, wantsS, wantsL, List.mem_flatMap, List.mem_map, List.mem_filter]; constructor
 ·rintro ⟨o, h1, s, h2, r, ⟨h3, h4⟩, h5⟩; exact ⟨o, h1, s, h2, r, h3, h4, h5⟩
 ·rintro ⟨o, h1, s, h2, r, h3, h4, h5⟩; exact ⟨o, h1, s, h2, r, ⟨h3, h4⟩, h5⟩
theorem mem_wantsRaw_same {a b : List GObj} (h : ∀ o, o ∈ a ↔ o ∈ b) (nm n : List UInt8) : n ∈ wantsRaw (defB a) nm a ↔ n ∈ wantsRaw (defB b) nm b := by
 rw [defB_same h]; simp only [wantsRaw, List.mem_append, mem_wantsO]; constructor
 ·rintro (h1 | ⟨o, h2, h3⟩)
  ·exact .inl h1
  ·exact .inr ⟨o, (h o).1 h2, h3⟩
 ·rintro (h1 | ⟨o, h2, h3⟩)
  ·exact .inl h1
  ·exact .inr ⟨o, (h o).2 h2, h3⟩
theorem wants_of {l : List GObj} {nm n : List UInt8} (h : n ∈ wantsRaw (defB l) nm l) : defB l n = false ∧ (n = nm ∨ ∃ o ∈ l, refO o n = true) := by
 rw [wantsRaw, List.mem_append, mem_wantsO] at h; rcases h with h | ⟨o, h1, s, h2, r, h3, h4, rfl⟩
 ·unfold wantsE at h; split at h
  ·cases h
  ·rename_i hd; obtain rfl : n = nm := by simpa using h
   exact ⟨by simpa using hd, .inl rfl⟩
 ·simp only [wantR, Bool.and_eq_true, Bool.not_eq_true'] at h4; refine ⟨h4.1, .inr ⟨o, h1, ?_⟩⟩; simp only [refO, List.any_eq_true]; exact ⟨s, h2, r, h3, by simp⟩
theorem mem_sortT {l : List (List UInt8)} {n : List UInt8} : n ∈ sortT l ↔ n ∈ l := List.mem_mergeSort
theorem mem_onceT {l : List (List UInt8)} {n : List UInt8} : n ∈ onceT l ↔ n ∈ l := by
 unfold onceT Lib.compact Lib.compactUpTo; rw [List.mem_map]; constructor
 ·rintro ⟨j, hj, rfl⟩; have hj2 := List.mem_range.1 (List.mem_filter.1 hj).1; rw [getElem!_pos _ j (by simpa using hj2)]
  simp
 ·intro hn; have hex : ∃ j, ∃ (h : j < l.length), l[j] = n := by obtain ⟨j, hj, e⟩ := List.mem_iff_getElem.1 hn; exact ⟨j, hj, e⟩
  have hmin : ∃ j, (∃ (h : j < l.length), l[j] = n) ∧ ∀ i, i < j → ¬ ∃ (h : i < l.length), l[i] = n := by
   obtain ⟨j, hj⟩ := hex
   induction j using Nat.strongRecOn with
   | _ j ih =>
     by_cases h : ∃ i, i < j ∧ ∃ (h : i < l.length), l[i] = n
     ·obtain ⟨i, hi, h2⟩ := h; exact ih i hi h2
     ·exact ⟨j, hj, fun i hi h2 => h ⟨i, hi, h2⟩⟩
  obtain ⟨j, ⟨hj, e⟩, hm⟩ := hmin; refine ⟨j, List.mem_filter.2 ⟨List.mem_range.2 hj, ?_⟩, ?_⟩
  ·unfold Lib.keeps
   by_cases h0 : j = 0
   ·simp [h0]
   ·have hj1 : j - 1 < l.length := by omega
    have h3 : l[j - 1] ≠ n := fun h => hm (j - 1) (by omega) ⟨hj1, h⟩
    rw [getElem!_pos l.toArray j (by simpa using hj), getElem!_pos l.toArray (j - 1) (by simpa using hj1)]
    simp [h0, e]; intro h4
    first | exact absurd h4 h3 | exact absurd h4.symm h3
  ·rw [getElem!_pos _ j (by simpa using hj)]; simpa using e
theorem pull_stop {nm : List UInt8} {lb ms objs : List GObj} {I : Nat → Bool} {G : List UInt8 → Option GEnt} (hS : InSet lb ms objs I) (hG : BestOf (entsFrom 0 ms) G)
 (hw : ∀ n ∈ onceT (sortT (wantsRaw (defB objs) nm objs)), G n = none ∨ ∃ x, G n = some x ∧ I x.mem = true) : ∀ n ∈ wantsRaw (defB (lb ++ selGo I 0 ms)) nm (lb ++ selGo I 0 ms), ∀ o ∈ ms, defS o.syms n = false := by
 intro n hn o ho; have hsame : ∀ o, o ∈ lb ++ selGo I 0 ms ↔ o ∈ objs := fun o => (inSet_sel lb ms I o).trans (hS o).symm
 have hn2 := (mem_wantsRaw_same hsame nm n).1 hn; cases hd : defS o.syms n with
 | false => rfl
 | true =>
   exfalso; simp only [defS, List.any_eq_true, Bool.and_eq_true, bne_iff_ne, ne_eq, beq_iff_eq] at hd; obtain ⟨s, hs, hb, rfl⟩ := hd; obtain ⟨k, hk, rfl⟩ := List.mem_iff_getElem.1 ho; have hx := hG.2 ⟨s.name, k, s.bind⟩ (mem_entsFrom.2 ⟨k, hk, s, hs, hb, by simp⟩)
   simp only [] at hx; rcases hw _ (mem_onceT.2 (mem_sortT.2 hn2)) with h1 | ⟨x, h1, h2⟩
   ·rw [h1] at hx; cases hx
   ·obtain ⟨h3, h4⟩ := hG.1 _ _ h1; obtain ⟨q, hq, s', hs', hb', rfl⟩ := mem_entsFrom.1 h3; simp only [Nat.zero_add] at h2 h4; have h5 : ms[q] ∈ objs := (hS _).2 (.inr ⟨q, hq, h2, rfl⟩)
    have h6 : defB objs s.name.data.toList = true := defB_true.2 ⟨_, h5, by
     simp only [defS, List.any_eq_true, Bool.and_eq_true, bne_iff_ne, ne_eq, beq_iff_eq]; exact ⟨s', hs', hb', h4⟩⟩
    rw [(wants_of hn2).1] at h6; cases h6
theorem pull_need {nm n : List UInt8} {lb ms objs : List GObj} {I : Nat → Bool} {G : List UInt8 → Option GEnt} {x : GEnt} (hS : InSet lb ms objs I) (hN : ∀ k, I k = true → NeedOf nm lb ms I k) (hG : BestOf (entsFrom 0 ms) G) (hn : n ∈ onceT (sortT (wantsRaw (defB objs) nm objs))) (hx : G n = some x) (hi : I x.mem = false) :
 x.mem < ms.length ∧ NeedOf nm lb ms I x.mem := by
 obtain ⟨h3, h4⟩ := hG.1 _ _ hx; obtain ⟨q, hq, s, hs, hb, rfl⟩ := mem_entsFrom.1 h3; simp only [Nat.zero_add] at *; have hn2 := mem_sortT.1 (mem_onceT.1 hn); obtain ⟨-, h5⟩ := wants_of hn2; refine ⟨hq, ?_, hq, s, hs, hb, ?_⟩
 ·by_cases hE : ∃ k, I k = true
  ·obtain ⟨k, hk⟩ := hE; exact (hN k hk).1
  ·refine ⟨n, (mem_wantsRaw_same (fun o => ?_) nm n).1 hn2, _, List.getElem_mem hq, ?_⟩
   ·exact (hS o).trans ⟨fun h => h.elim id fun ⟨k, _, h2, _⟩ => absurd ⟨k, h2⟩ hE, .inl⟩
   ·simp only [defS, List.any_eq_true, Bool.and_eq_true, bne_iff_ne, ne_eq, beq_iff_eq]; exact ⟨s, hs, hb, h4⟩
 rw [h4]; rcases h5 with h5 | ⟨o, ho, h5⟩
 ·exact .inl h5
 ·rcases (hS o).1 ho with h6 | ⟨j, hj, h6, rfl⟩
  ·exact .inr (.inl ⟨o, h6, h5⟩)
  ·exact .inr (.inr ⟨j, hj, fun e => (by rw [e, hi] at h6; cases h6), h6, h5⟩)
end
section
open Go.RowKit Go.Maps
end
section
def selP (I : Nat → Bool) : Nat → List GObj → List (Nat × GObj)
 | _, [] => []
 | k, o :: r => (if I k = true then [(k, o)] else []) ++ selP I (k + 1) r
theorem selP_snd (I : Nat → Bool) : ∀ (l : List GObj) (k : Nat), (selP I k l).map (·.2) = selGo I k l
 | [], k => rfl
 | o :: r, k => by
   rw [selP, selGo, List.map_append, selP_snd I r (k + 1)]
   congr 1
   split <;> rfl
theorem mem_selP {I : Nat → Bool} : ∀ {l : List GObj} {a : Nat} {x : Nat × GObj}, x ∈ selP I a l ↔ ∃ (k : Nat) (h : k < l.length), I (a + k) = true ∧ x = (a + k, l[k])
 | [], a, x => by simp [selP]
 | o :: r, a, x => by
   rw [selP, List.mem_append, mem_selP (l := r)]; constructor
   ·rintro (h1 | ⟨k, hk, h1, h2⟩)
    ·split at h1
     ·rename_i hi; obtain rfl : x = (a, o) := by simpa using h1
      exact ⟨0, by simp, hi, rfl⟩
     ·cases h1
    ·exact ⟨k + 1, by simpa using hk, by rw [show a + (k + 1) = a + 1 + k by omega]; exact h1, by rw [h2, show a + (k + 1) = a + 1 + k by omega]; rfl⟩
   ·rintro ⟨k, hk, h1, h2⟩
    match k, hk, h1, h2 with
    | 0, hk, h1, h2 => exact .inl (by rw [if_pos (by simpa using h1)]; simpa using h2)
    | k + 1, hk, h1, h2 => exact .inr ⟨k, by simpa using hk, by rw [show a + 1 + k = a + (k + 1) by omega]; exact h1, by rw [h2, show a + (k + 1) = a + 1 + k by omega]; rfl⟩
theorem selP_up (I : Nat → Bool) : ∀ (l : List GObj) (k : Nat), (selP I k l).Pairwise fun a b => a.1 < b.1
 | [], k => List.Pairwise.nil
 | o :: r, k => by
   rw [selP]; refine List.pairwise_append.2 ⟨?_, selP_up I r (k + 1), fun a ha b hb => ?_⟩
   ·split <;> simp
   ·obtain ⟨j, hj, -, rfl⟩ := mem_selP.1 hb; split at ha
    ·obtain rfl : a = (k, o) := by simpa using ha
     simp only []; omega
    ·cases ha
theorem selP_len (I : Nat → Bool) (l : List GObj) (k : Nat) : (selP I k l).length = (selGo I k l).length := by rw [← selP_snd, List.length_map]
theorem selP_at {I : Nat → Bool} {l : List GObj} {k i : Nat} (h : i < (selGo I k l).length) : (selGo I k l)[i] = ((selP I k l)[i]'(by rw [selP_len]; exact h)).2 := by
 have : ∀ (L : List GObj) (hL : L = (selP I k l).map (·.2)) (hi2 : i < L.length) (h3 : i < (selP I k l).length), L[i] = ((selP I k l)[i]).2 := fun L hL hi2 h3 => by subst hL; simp
 exact this _ (selP_snd I l k).symm h _
end
section
open Go.RowKit Go.Maps Go.WideMaps
set_option maxHeartbeats 1000000 in
theorem clone_any (w0 : World) (v : Value) (l : List GObj) (w : World) (h : ObjsAt w0 v l) (hb0 : Below w0.heap.size w0 w) (hl : l.length ≤ 100000) :
 Calls Tryz.prog 61 #[v] w fun e w' => ∃ vo ts, e = .returned vo ∧ OwnObsB w.heap.size w0 w' vo ts ∧ ts.map (·.1) = l ∧ Below w.heap.size w w' := by
 obtain ⟨p, cap, b, o, ts, rfl, hts, hcap, hmax, hp, hin, hc⟩ := objs_pairs2 h; have htl : Hid (ts.length = l.length) := by rw [Hid, ← hts, List.length_map]
 have HTS := Lib.hid hts; have HIN := Lib.hid hin; have HPP : Hid (0 < l.length → p = some ⟨b, o, none⟩) := fun h0 => (hp h0).1
 have HCC : Hid (0 < l.length → ∀ j u, (ts.flatMap obCells)[j]? = some u → w.cell? ((⟨b, o, none⟩ : Addr).add j) = some u) := fun h0 j u hj => by
  have h1 := hc j u hj; rw [add_at] at h1 ⊢; exact cell_keep hb0 (hp h0).2 h1
 obtain ⟨iO, s0, s1, s2, s3⟩ := info_parts info_obj; have HI := Lib.hid (And.intro s0 (And.intro s1 (And.intro s2 s3))); clear s0 s1 s2 s3 h hts hp hc hin hb0; have q22 : ∀ (w : World) (a : Option Addr) (n c n' c' : Nat), (binOp .eql 22 (.slice a n c) (.slice none n' c')).run Tryz.prog w = .ok (.bool a.isNone) w := fun w a n c n' c' => Lib.run_eql_slice_nil w _ _ a n c n' c' Tryz.underlying22
 cases p with
 | none =>
   have h0 : l.length = 0 := by
    by_cases h0 : 0 < l.length
    ·cases HPP.out h0
    ·omega
   obtain rfl : l = [] := List.eq_nil_of_length_eq_zero h0; obtain rfl : ts = [] := List.eq_nil_of_length_eq_zero (by rw [htl.out]; rfl)
   clear htl HPP HCC; go_enter Tryz.func61, Tryz.ntmps61; go_wp2; go_ret; exact ⟨_, [], rfl, OwnObsB.nil _ _ _, rfl, Below.refl _ _⟩
 | some a =>
   have HM : Hid ((w.alloc (.cells #[] 50)).ownsRow w.heap.size 50 2 (.slice (some ⟨w.heap.size, 0, none⟩) 0 0) 0 []) := World.ownsRow_made w #[] 0 (Nat.le_refl _) (by unfold maxLen; omega) rfl
   have HCA : Hid (0 < l.length → ∀ j u, (ts.flatMap obCells)[j]? = some u → (w.alloc (.cells #[] 50)).cell? ((⟨b, o, none⟩ : Addr).add j) = some u) := fun h0 j u hj => by
    have h1 := HCC.out h0 j u hj; rw [add_at] at h1 ⊢
    have h2 : b < w.heap.size := by
     by_cases h3 : b < w.heap.size
     ·exact h3
     ·rw [World.cell?, Array.getElem?_eq_none (by simpa using h3)] at h1; cases h1
    exact cell_keep (alloc_old w _) h2 h1
   go_enter Tryz.func61, Tryz.ntmps61; go_wp2_with (at_builtin; refine wpList_append_src rfl _ _ 22 rfl w.heap.size 50 iO _ 2 40 Tryz.underlying22 HI.out.1 HI.out.2.1 HI.out.2.2.1 HI.out.2.2.2 rfl (by decide) (.slice (some ⟨w.heap.size, 0, none⟩) 0 0) 0 [] rfl HM.out (some a) l.length cap b o (ts.flatMap obCells) rfl HPP.out (by rw [flat_len obCells_len, htl.out]) HCA.out (obs_one HIN.out) (by unfold maxLen; omega) (by omega) (by simp) ?_)
   intro v' w' hown hgrow; have HO3 : Hid (OwnObsB w.heap.size w0 w' v' ts) := ⟨by rw [htl.out]; simpa using hown, HIN.out⟩
   have HBF : Hid (Below w.heap.size w w') := (alloc_old w _).grown hgrow (by simp) (fun q e => by cases e; exact Nat.le_refl _)
   obtain ⟨pw3, cw3, rfl⟩ := own_shape hown; clear hown hgrow; go_wp2; go_ret; exact ⟨_, ts, rfl, HO3.out, HTS.out, HBF.out⟩
theorem inF_get (I : Nat → Bool) (k : Nat) : (inF I k).getD (.bool false) = .bool (I k) := by unfold inF; cases I k <;> rfl
open Classical in
noncomputable def inW (ib : Nat) (w : World) (k : Nat) : Bool := decide (∃ (ni : Nat) (I : Nat → Bool), MapKFn intE w ib ni (inF I) ∧ I k = true)
theorem in_look {w : World} {ib ni k : Nat} {I : Nat → Bool} (h : MapKFn intE w ib ni (inF I)) (hk : k ≤ 9223372036854775807) : (Instr.lookup 117 (.map (some ib)) (.int .i64 k) false).run Tryz.prog w = .ok (.bool (I k)) w := by
 have := h.look (a := k) intKeyed Tryz.underlying117 (zeroB w) hk; rw [inF_get] at this; exact this
open Classical in
theorem inW_eq {w : World} {ib ni k : Nat} {I : Nat → Bool} (h : MapKFn intE w ib ni (inF I)) (hk : k ≤ 9223372036854775807) : inW ib w k = I k := by
 unfold inW; cases hi : I k with
 | true => exact decide_eq_true ⟨ni, I, h, hi⟩
 | false =>
   refine decide_eq_false ?_; rintro ⟨n2, I2, h2, hi2⟩; have e1 := in_look h hk; have e2 := in_look h2 hk; rw [e1] at e2; rw [hi, hi2] at e2; cases e2
def cnI (n : Nat) (I : Nat → Bool) : Nat := (List.range n).countP I
noncomputable def leftW (ib n : Nat) (w : World) : Nat := n - cnI n (inW ib w)
theorem leftW_eq {w : World} {ib ni n : Nat} {I : Nat → Bool} (h : MapKFn intE w ib ni (inF I)) (hn : n ≤ 1000000) : leftW ib n w = n - cnI n I := by
 unfold leftW cnI
 congr 1
 refine List.countP_congr fun k hk => ?_
 rw [inW_eq h (by have := List.mem_range.1 hk; omega)]
theorem cnI_le (n : Nat) (I : Nat → Bool) : cnI n I ≤ n := by
 have := List.countP_le_length (p := I) (l := List.range n); rw [List.length_range] at this; exact this
def updI (I : Nat → Bool) (m k : Nat) : Bool := I k || k == m
theorem inF_upd (I : Nat → Bool) (m : Nat) : (fun x => if x = m then some (Value.bool true) else inF I x) = inF (updI I m) := by
 funext x
 unfold inF updI
 by_cases h : x = m <;> simp [h]
theorem cnI_upd : ∀ (n : Nat) {I : Nat → Bool} {m : Nat}, m < n → I m = false → cnI n (updI I m) = cnI n I + 1
 | 0, I, m, h, _ => by omega
 | n + 1, I, m, h, hi => by
   unfold cnI; rw [List.range_succ, List.countP_append, List.countP_append]
   by_cases e : m = n
   ·subst e
    have h1 : (List.range m).countP (updI I m) = (List.range m).countP I := List.countP_congr fun k hk => by
     have := List.mem_range.1 hk; have h2 : (k == m) = false := by simp; omega
     simp [updI, h2]
    rw [h1]; simp [updI, hi]
   ·have ih := cnI_upd n (I := I) (m := m) (by omega) hi
    unfold cnI at ih; rw [ih]; have h2 : (n == m) = false := by simp; omega
    simp [updI, List.countP_cons, h2]; omega
theorem inSet_more {lb ms objs new : List GObj} {I I' : Nat → Bool} {M : List Nat} (h : InSet lb ms objs I) (hI : ∀ k, I' k = (I k || decide (k ∈ M))) (hM : ∀ o, o ∈ new ↔ ∃ (k : Nat) (hk : k < ms.length), k ∈ M ∧ ms[k] = o) : InSet lb ms (objs ++ new) I' := fun o => by
 rw [List.mem_append, h o, hM o]; constructor
 ·rintro ((h1 | ⟨k, hk, h1, h2⟩) | ⟨k, hk, h1, h2⟩)
  ·exact .inl h1
  ·exact .inr ⟨k, hk, by rw [hI, h1]; rfl, h2⟩
  ·exact .inr ⟨k, hk, by rw [hI]; simp [h1], h2⟩
 ·rintro (h1 | ⟨k, hk, h1, h2⟩)
  ·exact .inl (.inl h1)
  ·rw [hI, Bool.or_eq_true, decide_eq_true_eq] at h1; rcases h1 with h1 | h1
   ·exact .inl (.inr ⟨k, hk, h1, h2⟩)
   ·exact .inr ⟨k, hk, h1, h2⟩
theorem PullSt.byRow {w0 : World} {pb sb mb bb ib : Nat} {va v : Value} {us ts : List (GObj × Value)} {nb : Nat} {G : List UInt8 → Option GEnt} {ni : Nat} {I : Nat → Bool} {w w' : World} (h : PullSt w0 pb sb mb bb ib va v us ts nb G ni I w)
 {B : Nat} {k n : Nat} {r : Value} {xs : List Value} (hr : w.ownsRow B 3 k r n xs) (hB : w0.heap.size ≤ B) (hk : KB (fun q => r.ownBlock = some q) w w') : PullSt w0 pb sb mb bb ib va v us ts nb G ni I w' where
 box := (hk.block _ h.lt (own_ne_box hr h.box (by decide))).trans h.box
 scope := ⟨(hk.block _ (ScopeSt.lt h.scope) (own_ne_box hr h.scope.box (by decide))).trans h.scope.box, h.scope.row.congr fun g hg => hk.block g (h.scope.row.row.lt g hg).2 (fun e => own_ne hr h.scope.row.row (by decide) e hg),
  h.scope.map.kept (hk.block _ h.scope.map.lt (own_ne_map hr h.scope.map)), h.scope.sbl, h.scope.mbl, h.scope.blw.trans (hk.below h.scope.blw.size (fun q hq e => by have := (World.ownsRow.lt hr q e).1; omega))⟩
 all := h.all.congr fun g hg => hk.block g (h.all.row.lt g hg).2 (fun e => own_ne hr h.all.row (by decide) e hg)
 best := h.best.kept (hk.block _ h.best.lt (own_ne_map hr h.best))
 inm := h.inm.kept (hk.block _ h.inm.lt (own_ne_mapK hr h.inm))
 pbl := h.pbl
 bbl := h.bbl
 ibl := h.ibl
 bm := h.bm
 im := h.im
 bi := h.bi
 av := h.av
def pullOkB (lb : List GObj) (l : List GArc) : Bool := decide (lb.length ≤ 16) && decide (l.length ≤ 8) && lb.all mayP && l.all arcOk
def PullPost (w : World) (nm : List UInt8) (lb ms : List GObj) (e : Ending) (w' : World) : Prop :=
 ∃ I, PullOk nm lb ms I ∧ (16 < (lb ++ selGo I 0 ms).length ∧ e = .returned (.tuple #[.slice none 0 0, .int .i64 4]) ∨ (lb ++ selGo I 0 ms).length ≤ 16 ∧ ∃ vo, e = .returned (.tuple #[vo, .int .i64 0]) ∧ ObjsAt w' vo (lb ++ selGo I 0 ms)) ∧ Below w.heap.size w w'
theorem any_not {α : Type} (l : List α) (p : α → Bool) : (l.any fun o => !p o) = !l.all p := by induction l <;> simp_all
end
section
def m35 : List UInt8 := [109, 97, 105, 110]
def oa35 : GObj := ⟨⟨#[97]⟩, [gsym35 1 ⟨#[102]⟩ [⟨4, 1, ⟨#[103]⟩, 0⟩]]⟩
def ob35 : GObj := ⟨⟨#[98]⟩, [gsym35 2 ⟨#[103]⟩ []]⟩
def oc35 : GObj := ⟨⟨#[99]⟩, [gsym35 2 ⟨#[104]⟩ []]⟩
def sel3 (a b c : Bool) : List GObj := (if a = true then [oa35] else []) ++ ((if b = true then [ob35] else []) ++ ((if c = true then [oc35] else []) ++ []))
theorem selGo3 (I : Nat → Bool) : selGo I 0 mems35 = sel3 (I 0) (I 1) (I 2) := rfl
theorem stop35 : ∀ a b c : Bool, (∀ n ∈ wantsRaw (defB (base35 ++ sel3 a b c)) m35 (base35 ++ sel3 a b c), ∀ o ∈ [oa35, ob35, oc35], defS o.syms n = false) → a = true ∧ b = true := by
 decide +kernel
theorem need35 (I : Nat → Bool) : ¬ NeedOf m35 base35 mems35 I 2 := by
 rintro ⟨-, h, s, hs, hb, hn⟩; obtain rfl : s = gsym35 2 ⟨#[104]⟩ [] := List.mem_singleton.1 hs; rcases hn with hn | ⟨o, ho, hr⟩ | ⟨j, hj, -, -, hr⟩
 ·revert hn; decide +kernel
 ·obtain rfl := List.mem_singleton.1 ho
  revert hr; decide +kernel
 ·have : ∀ (j : Nat) (hj : j < 3), refO ([oa35, ob35, oc35][j]) [104] = false := by decide +kernel
  have h2 : refO ([oa35, ob35, oc35][j]'hj) [104] = true := hr; rw [this j hj] at h2; cases h2
theorem sel35 {I : Nat → Bool} (h : PullOk m35 base35 mems35 I) : selGo I 0 mems35 = [oa35, ob35] := by
 have h1 := stop35 (I 0) (I 1) (I 2) (by have := h.stop; rw [selGo3] at this; exact this)
 have h2 : I 2 = false := by
  cases h3 : I 2 with
  | false => rfl
  | true => exact absurd (h.need 2 h3) (need35 I)
 rw [selGo3, h1.1, h1.2, h2]; rfl
end
section
def arc35 : GArc := ⟨lib35, mems35⟩
theorem arc35_ok : arcOk arc35 = true := by decide +kernel
theorem base35_may : base35.all mayP = true := by decide +kernel
theorem mayL35 : mayL base35 = base35 := by kernel_rfl
theorem wants35 : wantsRaw (defB base35) m35 base35 = [[102]] := by decide +kernel
theorem wanting35 : onceT (sortT (wantsRaw (defB (mayL base35)) m35 (mayL base35))) = [[102]] := by
 rw [mayL35, wants35, sortT, List.mergeSort_singleton]; rfl
theorem memsOf35 : memsOf [arc35] = mems35 := by kernel_rfl
theorem ents35 : (entsFrom 0 (memsOf [arc35])).length = 3 := by decide +kernel
theorem enc35_x : arcGet (encArc arc35 ++ [120]) = none := by decide +kernel
theorem enc35 : arcGet (encArc arc35) = some arc35 := by kernel_rfl
theorem empty35 : arcOk ⟨⟨#[]⟩, []⟩ = false := by decide +kernel
end
section
open Go.RowKit
theorem below_draws {B : Nat} {a w : World} (h : Below B a w) (n : Nat) : Below B a (w.drewN n) := ⟨h.os, h.tape, h.output, h.size, h.block⟩
set_option maxHeartbeats 1000000 in
theorem same07_any (b1 o1 c1 b2 o2 c2 : Nat) (l : List ByteArray) (w : World) (hl : l.length ≤ 1000000000) (h1 : ∀ i (h : i < l.length), w.cell? ⟨b1, o1 + i, none⟩ = some (.string l[i])) (h2 : ∀ i (h : i < l.length), w.cell? ⟨b2, o2 + i, none⟩ = some (.string l[i])) (hb1 : b1 < w.heap.size) (hb2 : b2 < w.heap.size) :
 Calls Tryz.prog 28 #[.slice (some ⟨b1, o1, none⟩) l.length c1, .slice (some ⟨b2, o2, none⟩) l.length c2] w fun e w' => e = .returned (.bool true) ∧ Below w.heap.size w w' := by
 have H1 := Lib.hid h1; have H2 := Lib.hid h2; clear h1 h2; go_enter Tryz.func28, Tryz.ntmps28; go_wp2
 go_loopw [5] (fun v5 wr => ∃ k : Nat, k ≤ l.length ∧ v5 = .int .i64 k ∧ Below w.heap.size w wr) (fun v5 _ => l.length - (intOf v5).toNat)
 case atStart => exact ⟨0, Nat.zero_le _, rfl, Below.refl _ _⟩
 case round =>
  obtain ⟨k, hk, rfl, hbel⟩ := hrel; have HB := Lib.hid hbel; clear hbel
  by_cases hlt : k < l.length
  ·have x1 := (HB.out.cell (p := ⟨b1, o1 + k, none⟩) hb1).trans (H1.out k hlt); have x2 := (HB.out.cell (p := ⟨b2, o2 + k, none⟩) hb2).trans (H2.out k hlt); generalize l[k] = s at x1 x2; go_wp2
   go_quiet (fail)
   go_wp2; go_roundw
   case rel => exact ⟨k + 1, by omega, by go_num, below_draws HB.out _⟩
   case measure => simp [intOf]; omega
  ·go_wp2; go_ret; exact ⟨rfl, HB.out⟩
end
end Go.Proofs.YtboegjdkedjhcaaGreatDoor
