/- The walk of archive.Check. The walk of archive.Get. append onto a row of one's own from whatever row of cells. No program in sight. Rows of objects of one's own; the walk of archive.members. -/
import Derived.Test.YtboegjdkedjhcaaGreatDoorBd07
import Derived.Test.YtboegjdkedjhcaaGreatDoorBd03
namespace Go.Proofs.YtboegjdkedjhcaaGreatDoor
open Go.RowKit Go.Maps Go.WideMaps
def ArcIn (w : World) (x : GArc) (vs : Value) : Prop := ObjsAt w vs x.members ∧ x.name.size ≤ 140737488355328
theorem ArcIn.keep {w w' : World} {x : GArc} {vs : Value} (hb : Below w.heap.size w w') (h : ArcIn w x vs) : ArcIn w' x vs := ⟨ObjsAt.keep hb h.1, h.2⟩
theorem hasObj_snoc (l : List GObj) (s : GObj) (n : List UInt8) : hasObj (l ++ [s]) n = (hasObj l n || s.name.data.toList == n) := by simp [hasObj]
/-- the table of names seen: each once -/
def seenO (l : List GObj) (n : List UInt8) : Option Value := if hasObj l n then some (.int .i64 1) else none
theorem seenO_snoc {l : List GObj} {k : Nat} {x : GObj} (hlt : k < l.length) (hx : l[k] = x) : (fun n => if n = x.name.data.toList then some (Value.int .i64 1) else seenO (l.take k) n) = seenO (l.take (k + 1)) := by
  funext n
  simp only [seenO]
  rw [List.take_succ_eq_append_getElem hlt, hx, hasObj_snoc]
  by_cases h : n = x.name.data.toList
  · simp [h]
  · have h2 : (x.name.data.toList == n) = false := by simp; exact fun e => h e.symm
    simp [h, h2]
theorem seenO_nil : (fun _ => none) = seenO [] := by funext n; simp [seenO, hasObj]
theorem seenO_yes {l : List GObj} {n : List UInt8} (h : hasObj l n = true) : (seenO l n).getD (.int .i64 0) = .int .i64 1 := by simp [seenO, h]
theorem seenO_no {l : List GObj} {n : List UInt8} (h : hasObj l n = false) : (seenO l n).getD (.int .i64 0) = .int .i64 0 := by simp [seenO, h]
theorem memsGo_yes {l : List GObj} {k : Nat} {x : GObj} (hlt : k < l.length) (hx : l[k] = x) (hgo : memsGo (l.take k) (l.drop k) = memsGo [] l)
    (h1 : hasObj (l.take k) x.name.data.toList = false) (h2 : mayP x = true) : memsGo (l.take (k + 1)) (l.drop (k + 1)) = memsGo [] l := by
  rw [← hgo, List.drop_eq_getElem_cons hlt, hx, memsGo, h1, h2, List.take_succ_eq_append_getElem hlt, hx]; simp
theorem arcOk_no {o : GArc} {k : Nat} {x : GObj} (hlt : k < o.members.length) (hx : o.members[k] = x) (hgo : memsGo (o.members.take k) (o.members.drop k) = memsGo [] o.members)
    (h : hasObj (o.members.take k) x.name.data.toList = true ∨ mayP x = false) : arcOk o = false := by
  rw [List.drop_eq_getElem_cons hlt, hx, memsGo] at hgo
  rcases h with h | h <;> simp [arcOk, ← hgo, h]
theorem arcOk_end {o : GArc} {k : Nat} (hlt : ¬ k < o.members.length) (hgo : memsGo (o.members.take k) (o.members.drop k) = memsGo [] o.members) : arcOk o = (isName o.name && decide (o.members.length ≤ 32)) := by
  rw [List.drop_of_length_le (by omega), memsGo] at hgo
  simp [arcOk, ← hgo]
theorem mayP_name (n : ByteArray) : mayP ⟨n, []⟩ = isName n := by simp [mayP, symsGo]
set_option maxRecDepth 100000 in
set_option maxHeartbeats 2000000 in
theorem arcCheck_any (x : GArc) (vs : Value) (w : World) (h : ArcIn w x vs) :
    Calls Tryz.prog 10 #[.agg #[.string x.name, vs]] w fun e w' => e = .returned (.int .i64 (errB (arcOk x))) ∧ Below w.heap.size w w' := by
  obtain ⟨hr, hnm⟩ := h
  have HR := Lib.hid hr
  obtain ⟨p, cap, b, o, hvs, hcap, hmax, hp, -⟩ := hr
  subst hvs
  have HP := Lib.hid hp; clear hp
  obtain ⟨an, am⟩ := x
  simp only [] at *
  have hmm := @run_makeMap Tryz.prog
  go_enter Tryz.func10, Tryz.ntmps10
  go_wp2
  clear hmm
  go_loopw [10] (fun i wr => ∃ k : Nat, k ≤ am.length ∧ i = .int .i64 k ∧ memsGo (am.take k) (am.drop k) = memsGo [] am ∧ MapFn Tryz.prog 9 wr (w.heap.size + 1) k (seenO (am.take k)) ∧ Below (w.heap.size + 1) (w.alloc (.cells #[.string an, .slice p am.length cap] 24)) wr) (fun i _ => am.length - (intOf i).toNat)
  case atStart =>
    refine ⟨0, Nat.zero_le _, rfl, rfl, ?_, (Below.refl _ _).alloc (by simp) _⟩
    have := MapFn.made Tryz.prog 9 (w.alloc (.cells #[.string an, .slice p am.length cap] 24))
    rw [seenO_nil] at this
    simpa using this
  case round =>
    obtain ⟨k, hk, rfl, hgo, hmap, hbel⟩ := hrel
    have HGO := Lib.hid hgo; clear hgo
    have c0 : wr.cell? ⟨w.heap.size, 0, none⟩ = some (.string an) := by rw [hbel.cell (by simp)]; simp [go_sem]
    have c1 : wr.cell? ⟨w.heap.size, 1, none⟩ = some (.slice p am.length cap) := by rw [hbel.cell (by simp)]; simp [go_sem]
    have hsz : w.heap.size + 1 < wr.heap.size := hmap.lt
    have hsz1 : w.heap.size < wr.heap.size := by omega
    have HBW : Hid (Below w.heap.size w wr) := (alloc_old w _).trans (hbel.mono (by omega))
    have HB := Lib.hid hbel; clear hbel
    have HM := Lib.hid hmap; clear hmap
    by_cases hlt : k < am.length
    · obtain rfl := HP.out (by omega)
      obtain ⟨p', cap', b', o', he, -, -, hp', hc'⟩ := ObjsAt.keep HBW.out HR.out
      cases he
      cases hp' (by omega)
      obtain ⟨vs, g0, g1, g2, hin⟩ := hc' k hlt
      generalize hx : am[k] = y at g1 g2 hin
      have HX := Lib.hid hx; clear hx hc' hp'
      obtain ⟨yn, ys⟩ := y
      simp only [] at g1 g2
      have hns : yn.size ≤ maxLen := by have := hin.2; simp only [] at this; unfold maxLen; omega
      have hns' : yn.size ≤ 9223372036854775807 := hns
      have HIN := Lib.hid hin
      obtain ⟨⟨p1, q1, b1, o1, rfl, -⟩, -⟩ := hin
      simp only [] at g2 HIN
      have HB1 : Hid (Below (w.heap.size + 1) wr (wr.alloc (.cells #[.string yn, .slice p1 ys.length q1] 50))) := (Below.refl _ _).alloc (by omega) _
      replace HM := Lib.hid (HM.out.alloc (.cells #[.string yn, .slice p1 ys.length q1] 50))
      by_cases hseen : hasObj (am.take k) yn.data.toList = true
      · have HV := Lib.hid (seenO_yes hseen)
        have HS := Lib.hid hseen; clear hseen
        go_wp2_with (at_lookup; refine wpList_look _ rfl _ _ 78 rfl 9 3 keyedS Tryz.underlying78 Tryz.underlying9 (zeroInt _) rfl HM.out _ rfl hns' HV.out ?_)
        go_ret
        rw [arcOk_no (o := ⟨an, am⟩) hlt HX.out HGO.out (.inl HS.out)]
        exact ⟨rfl, HBW.out.alloc (by omega) _⟩
      · have hseen' : hasObj (am.take k) yn.data.toList = false := by simpa using hseen
        have HV := Lib.hid (seenO_no hseen')
        have HS := Lib.hid hseen'; clear hseen' hseen
        have HCK := Lib.hid (objCheck_any ⟨yn, ys⟩ _ _ (ObjIn.keep (alloc_old wr (.cells #[.string yn, .slice p1 ys.length q1] 50)) HIN.out))
        have HMY : Hid (mayP ⟨yn, ys⟩ = mayP ⟨yn, ys⟩) := rfl
        generalize hmy : mayP ⟨yn, ys⟩ = my at HCK HMY
        have HMY2 := Lib.hid hmy; clear hmy HMY
        cases my with
        | false =>
          simp only [errB] at HCK
          go_wp2_with (first | (at_lookup; refine wpList_look _ rfl _ _ 78 rfl 9 3 keyedS Tryz.underlying78 Tryz.underlying9 (zeroInt _) rfl HM.out _ rfl hns' HV.out ?_) | (go_at_call 30; refine HCK.out.mono ?_; rintro e w1 ⟨rfl, hB⟩))
          go_ret
          rw [arcOk_no (o := ⟨an, am⟩) hlt HX.out HGO.out (.inr HMY2.out)]
          exact ⟨rfl, HBW.out.trans ((HB1.out.trans (hB.mono (by simp; omega))).mono (by omega))⟩
        | true =>
          simp only [errB] at HCK
          have d0 : (wr.alloc (.cells #[.string yn, .slice p1 ys.length q1] 50)).cell? ⟨wr.heap.size, 0, none⟩ = some (.string yn) := by simp [go_sem]
          have hza : wr.heap.size < (wr.alloc (.cells #[.string yn, .slice p1 ys.length q1] 50)).heap.size := by simp
          go_wp2_with (first | (at_lookup; refine wpList_look _ rfl _ _ 78 rfl 9 3 keyedS Tryz.underlying78 Tryz.underlying9 (zeroInt _) rfl HM.out _ rfl hns' HV.out ?_) | (go_at_call 30; refine HCK.out.mono ?_; rintro e w1 ⟨rfl, hB⟩; have d1 : w1.cell? ⟨wr.heap.size, 0, none⟩ = some (.string yn) := cell_keep hB hza d0; replace HM : Hid (MapFn Tryz.prog 9 w1 (w.heap.size + 1) k (seenO (am.take k))) := HM.out.below hB (by simp; omega); replace HB1 : Hid (Below (w.heap.size + 1) wr w1) := HB1.out.trans (hB.mono (by simp; omega)); have hz1 : w.heap.size + 1 < w1.heap.size := (by have := hB.size; simp at this; omega); clear hB) | (at_mapUpdate; refine wpList_put _ rfl _ _ _ 78 rfl 9 3 keyedS Tryz.underlying78 Tryz.underlying9 rfl HM.out (by unfold maxLen; omega) yn (.int .i64 1) rfl rfl hns' ?_; intro w2 hM2 hg2; have HM2 := Lib.hid hM2; have HG2 := Lib.hid hg2; clear hM2 hg2))
          have HM3 : Hid (MapFn Tryz.prog 9 w2 (w.heap.size + 1) (k + 1) (seenO (am.take (k + 1)))) := (seenO_snoc (x := ⟨yn, ys⟩) hlt HX.out) ▸ HM2.out
          go_roundw
          case rel => exact ⟨k + 1, by omega, by go_num, memsGo_yes hlt HX.out HGO.out HS.out HMY2.out, HM3.out, HB.out.trans (HB1.out.grown HG2.out (by omega) (fun j e => by simp at e; omega))⟩
          case measure => simp [intOf]; omega
    · have HCK := Lib.hid (objCheck_any ⟨an, []⟩ (.slice none 0 0) wr ⟨rowAt_nil, hnm⟩)
      have HE := Lib.hid (arcOk_end (o := ⟨an, am⟩) hlt HGO.out)
      rw [mayP_name] at HCK
      simp only [] at HCK HE
      generalize isName an = nb at HCK HE
      by_cases h32 : am.length ≤ 32
      · have d1 : decide ((32 : Int) < (am.length : Int)) = false := by simp; omega
        have d2 : decide (32 < am.length) = false := by simp; omega
        have d3 : decide (am.length ≤ 32) = true := by simp; omega
        rw [d3] at HE
        clear h32 d3
        cases nb
        all_goals
          simp only [errB] at HCK
          go_wp2_with fail
          refine HCK.out.mono ?_
          rintro e w1 ⟨rfl, hB⟩
          replace c1 := cell_keep hB hsz1 c1
          go_wp2_with fail
          go_ret
          rw [HE.out]
          exact ⟨rfl, HBW.out.trans (hB.mono HBW.out.size)⟩
      · have d1 : decide ((32 : Int) < (am.length : Int)) = true := by simp; omega
        have d2 : decide (32 < am.length) = true := by simp; omega
        have d3 : decide (am.length ≤ 32) = false := by simp; omega
        rw [d3] at HE
        clear h32 d3
        cases nb
        all_goals
          simp only [errB] at HCK
          go_wp2_with fail
          refine HCK.out.mono ?_
          rintro e w1 ⟨rfl, hB⟩
          replace c1 := cell_keep hB hsz1 c1
          go_wp2_with fail
          go_ret
          rw [HE.out]
          exact ⟨rfl, HBW.out.trans (hB.mono HBW.out.size)⟩
end Go.Proofs.YtboegjdkedjhcaaGreatDoor
namespace Go.Proofs.YtboegjdkedjhcaaGreatDoor
open Go.RowKit Go.Maps
def obCells (t : GObj × Value) : List Value := [.string t.1.name, t.2]
theorem obCells_len (t : GObj × Value) : (obCells t).length = 2 := rfl
theorem Fresh.stay {B : Nat} {w w' : World} {o : GObj} {vs : Value} (h : Fresh B w o vs) (hk : ∀ g cur e, B ≤ g → w.heap[g]? = some (.cells cur e (0, 0)) → e ≠ 50 → w'.heap[g]? = w.heap[g]?) : Fresh B w' o vs := by
  obtain ⟨ts, h1, h2, h3⟩ := h
  refine ⟨ts, h1, own_congr h2 fun g hg => ?_, fun t ht => ?_⟩
  · obtain ⟨cur, hc⟩ := own_type h2 hg
    exact hk g cur _ (h2.lt g hg).1 hc (by decide)
  · obtain ⟨a, b, c, d⟩ := h3 t ht
    refine ⟨own_congr a fun g hg => ?_, own_congr b fun g hg => ?_, c, d⟩
    · obtain ⟨cur, hc⟩ := own_type a hg
      exact hk g cur _ (a.lt g hg).1 hc (by decide)
    · obtain ⟨cur, hc⟩ := own_type b hg
      exact hk g cur _ (b.lt g hg).1 hc (by decide)
/-- an archive under construction: its box and its row of members -/
structure ArcRow (B xb : Nat) (nm : ByteArray) (v : Value) (ts : List (GObj × Value)) (w : World) : Prop where
  box : w.heap[xb]? = some (.cells #[.string nm, v] 24 (0, 0))
  row : w.ownsRow B 50 2 v ts.length (ts.flatMap obCells)
  mem : ∀ t ∈ ts, Fresh B w t.1 t.2 ∧ ObjFit t.1
  lt : xb < B
theorem ArcRow.stay {B xb : Nat} {nm : ByteArray} {v : Value} {ts : List (GObj × Value)} {w w' : World} (h : ArcRow B xb nm v ts w) (hk : ∀ g, g < w.heap.size → xb ≤ g → w'.heap[g]? = w.heap[g]?) : ArcRow B xb nm v ts w' where
  box := (hk xb (Array.getElem?_eq_some_iff.1 h.box).1 (Nat.le_refl _)).trans h.box
  row := own_congr h.row fun g hg => hk g (h.row.lt g hg).2 (by have := (h.row.lt g hg).1; have := h.lt; omega)
  mem := fun t ht => ⟨(h.mem t ht).1.stay fun g cur e hg hc _ => hk g (Array.getElem?_eq_some_iff.1 hc).1 (by have := h.lt; omega), (h.mem t ht).2⟩
  lt := h.lt
theorem ArcRow.below {B xb : Nat} {nm : ByteArray} {v : Value} {ts : List (GObj × Value)} {w w' : World} (h : ArcRow B xb nm v ts w) (hb : Below w.heap.size w w') : ArcRow B xb nm v ts w' := h.stay fun g hg _ => hb.block g hg
theorem ArcRow.add {B xb : Nat} {nm : ByteArray} {v v' : Value} {ts : List (GObj × Value)} {w w' : World} {o : GObj} {vs : Value} (h : ArcRow B xb nm v ts w) (hg : w.grownBy w' v.ownBlock)
    (hown : w'.ownsRow B 50 2 v' (ts.length + 1) (ts.flatMap obCells ++ [.string o.name, vs])) (hf : Fresh B w o vs) (hfit : ObjFit o) : ArcRow B xb nm v' (ts ++ [(o, vs)]) (w'.setCell ⟨xb, 1, none⟩ v') := by
  have hlt := h.lt
  have hset : ∀ g, g ≠ xb → (w'.setCell ⟨xb, 1, none⟩ v').heap[g]? = w'.heap[g]? := fun g hg => Below.heap_setCell _ _ _ _ hg
  have hnot : ∀ g, v.ownBlock = some g → B ≤ g := fun g hg => (h.row.lt g hg).1
  have hgr : ∀ g cur e, B ≤ g → w.heap[g]? = some (.cells cur e (0, 0)) → e ≠ 50 → (w'.setCell ⟨xb, 1, none⟩ v').heap[g]? = w.heap[g]? := fun g cur e hB hc he => by
    rw [hset g (by omega)]
    refine hg.block g (Array.getElem?_eq_some_iff.1 hc).1 fun e' => ?_
    obtain ⟨cur', hc'⟩ := own_type h.row e'.symm
    rw [hc] at hc'
    injection hc' with h2; injection h2 with _ h3 _; exact he h3
  have hb' : w'.heap[xb]? = some (.cells #[.string nm, v] 24 (0, 0)) := (hg.block xb (Array.getElem?_eq_some_iff.1 h.box).1 (fun e => by have := hnot _ e.symm; omega)).trans h.box
  refine ⟨?_, ?_, fun t ht => ?_, hlt⟩
  · have := heap_setCell_same w' xb 1 _ _ v' hb'
    simpa using this
  · have e2 : (ts ++ [(o, vs)]).flatMap obCells = ts.flatMap obCells ++ [.string o.name, vs] := by simp [obCells]
    rw [List.length_append, e2]
    exact own_congr hown fun g hg' => hset g (by have := (hown.lt g hg').1; omega)
  · rcases List.mem_append.1 ht with ht | ht
    · exact ⟨(h.mem t ht).1.stay hgr, (h.mem t ht).2⟩
    · obtain rfl : t = (o, vs) := by simpa using ht
      exact ⟨hf.stay hgr, hfit⟩
theorem ArcRow.arcIn {B xb : Nat} {nm : ByteArray} {v : Value} {ts : List (GObj × Value)} {w : World} (h : ArcRow B xb nm v ts w) (hn : nm.size ≤ 140737488355328) (hl : ts.length ≤ 140737488355328) : ArcIn w ⟨nm, ts.map (·.1)⟩ v := by
  refine ⟨?_, hn⟩
  have h5 : RowAt 2 (fun w b o (u : GObj × Value) => ObjR w b o u.1) w v ts := owned_row obCells_len h.row hl fun g o' i hi hg hcell =>
    ⟨ts[i].2, hg, hcell 0 _ (by omega) rfl, hcell 1 _ (by omega) rfl, (h.mem _ (List.getElem_mem hi)).1.objIn (h.mem _ (List.getElem_mem hi)).2⟩
  obtain ⟨p, cap, b, o, rfl, q2, q3, q4, q5⟩ := h5
  exact ⟨p, cap, b, o, by simp, by simpa using q2, by simpa using q3, by simpa using q4, fun i hi => by simpa using q5 i (by simpa using hi)⟩
theorem rTake_cap {w : World} {rb : Nat} {s : ByteArray} {st : RS} (h : RdS w rb s st) (k : Nat) (hk : s.size + 1 < k) : rTake (s.size + 1) st = rTake k st := by
  obtain ⟨a, f, hb, rfl⟩ := h
  by_cases hf : f = 0
  · subst hf
    rw [rTake_stOf hb.2.1, rTake_stOf hb.2.1, if_neg (by omega), if_neg (by omega)]
  · rw [stOf_spoilt hf]; rfl
/-- what Get answers -/
def arcGetV (s : ByteArray) : GArc × Int := match arcGet s.data.toList with | some a => (a, 0) | none => (⟨⟨#[]⟩, []⟩, 7)
def ArcGot (x : GArc) (c : Int) (w : World) (e : Ending) (w' : World) : Prop := ∃ vs, e = .returned (.tuple #[.agg #[.string x.name, vs], .int .i64 c]) ∧ (∃ p k, vs = .slice p x.members.length k) ∧ ArcIn w' x vs ∧ Below w.heap.size w w'
theorem arcNo_got {w w' : World} (h : Below w.heap.size w w') : ArcGot ⟨⟨#[]⟩, []⟩ 7 w (.returned (.tuple #[.agg #[.string ⟨#[]⟩, .slice none 0 0], .int .i64 7])) w' := ⟨_, rfl, ⟨_, _, rfl⟩, ⟨rowAt_nil, by decide⟩, h⟩
def arcEnd (mg : BL) (nm : ByteArray) : Option (List GObj × RS) → Option GArc
  | none => none
  | some (l, st) => if st = some [] ∧ mg = aMagic ∧ arcOk ⟨nm, l⟩ = true then some ⟨nm, l⟩ else none
theorem arcGet_is {s : BL} {nm : ByteArray} {mg : BL} {M : Option (List GObj × RS)} (h0 : (rTake 4 (some s)).1 = mg) (h1 : (rText (rTake 4 (some s)).2).1 = nm) (h2 : rMems (rNum 1 (rText (rTake 4 (some s)).2).2).1.toNat (rNum 1 (rText (rTake 4 (some s)).2).2).2 = M) :
    arcGet s = arcEnd mg nm M := by
  unfold arcGet
  rw [h2, h1, h0]
  cases M <;> rfl
theorem ob_one {a : ByteArray} {p : Option Addr} {n c : Nat} : ∀ u ∈ [Value.string a, Value.slice p n c], u.oneCell' = true := by
  intro u hu
  simp at hu
  rcases hu with rfl | rfl <;> rfl
theorem ob_news {w : World} {g : Nat} {a b : Value} (h0 : w.cell? ⟨g, 0, none⟩ = some a) (h1 : w.cell? ⟨g, 1, none⟩ = some b) : ∀ j u, [a, b][j]? = some u → w.cell? ((⟨g, 0, none⟩ : Addr).add j) = some u := by
  intro j u hu
  match j, hu with
  | 0, hu => simp at hu; subst hu; simpa [Addr.add] using h0
  | 1, hu => simp at hu; subst hu; simpa [Addr.add] using h1
/-- the stores of a result -/
theorem two_put {w : World} {b : Nat} {a0 a1 u0 u1 : Value} {T : TypeId} (h : w.heap[b]? = some (.cells #[a0, a1] T (0, 0))) : ((w.setCell ⟨b, 0, none⟩ u0).setCell ⟨b, 1, none⟩ u1).heap[b]? = some (.cells #[u0, u1] T (0, 0)) := by
  have e1 := heap_setCell_same _ b 1 _ _ u1 (heap_setCell_same w b 0 _ _ u0 h)
  simpa using e1
theorem twos {w : World} {b : Nat} {u0 u1 : Value} {T : TypeId} (h : w.heap[b]? = some (.cells #[u0, u1] T (0, 0))) : w.cell? ⟨b, 0, none⟩ = some u0 ∧ w.cell? ⟨b, 1, none⟩ = some u1 ∧ ∀ j, w.frozen? ⟨b, j, none⟩ = false :=
  ⟨Lib.cell_of_heap h 0, Lib.cell_of_heap h 1, fun _ => Lib.frozen_of_heap h _⟩
set_option maxRecDepth 100000 in
set_option maxHeartbeats 4000000 in
theorem arcGet_any (s : ByteArray) (w : World) (hs : s.size ≤ 2000000000) :
    Calls Tryz.prog 15 #[.string s] w (ArcGot (arcGetV s).1 (arcGetV s).2 w) := by
  generalize hw0 : w.alloc (.cells #[.string ⟨#[]⟩, .slice none 0 0] 24) = w0
  have HB0 : Hid (Below w.heap.size w w0) := by subst hw0; exact alloc_old _ _
  have hz0 : w.heap.size < w0.heap.size := by subst hw0; simp
  have HR0 : Hid (w0.heap[w.heap.size]? = some (.cells #[.string ⟨#[]⟩, .slice none 0 0] 24 (0, 0))) := by subst hw0; exact heap_alloc_new w _
  go_enter Tryz.func15, Tryz.ntmps15
  go_wp2_with fail
  try rw [hw0]
  clear hw0
  refine (new_any s w0 (by omega)).mono ?_
  rintro e w1 ⟨rfl, k1, k2⟩
  have K1 : Hid (RdS w1 w0.heap.size s (some s.data.toList)) := ⟨0, 0, k1, by rw [stOf_ok]; rfl⟩
  have hz1 : w0.heap.size < w1.heap.size := k1.lt
  have HB1 : Hid (Below w.heap.size w w1) := HB0.out.trans (k2.mono (by omega))
  replace HR0 := Lib.hid ((k2.block w.heap.size hz0).trans HR0.out)
  clear k1 k2 HB0
  generalize hrb : w0.heap.size = rb at K1 hz1 ⊢
  have hrw : w.heap.size < rb := by omega
  clear hrb hz0
  go_wp2_with fail
  refine (rdTake4 rb s _ w1 K1.out).mono ?_
  rintro e w3 ⟨c3, rfl, -, k1, k2⟩
  have K3 := Lib.hid k1
  have HK3 : Hid (KR rb w1 w3) := k2
  clear k1 k2 K1
  go_wp2_with fail
  refine (rdText_any rb s _ w3 K3.out).mono ?_
  rintro e w4 ⟨c4, rfl, -, k1, k2⟩
  have K4 := Lib.hid k1
  have HK4 : Hid (KR rb w1 w4) := HK3.out.trans k2
  clear k1 k2 K3 HK3
  go_wp2_with fail
  refine (rdNum_any rb 1 s _ w4 K4.out (by omega) (by omega)).mono ?_
  rintro e w5 ⟨c5, rfl, -, k1, k2⟩
  have K5 := Lib.hid k1
  have HK5 : Hid (KR rb w1 w5) := HK4.out.trans k2
  clear k1 k2 K4 HK4
  have HNB := rNum_bd 1 (rText (rTake 4 (some s.data.toList)).2).2
  rw [p1] at HNB
  have HAG := Lib.hid (fun M h2 => arcGet_is (s := s.data.toList) (M := M) rfl rfl h2)
  have hns : (rText (rTake 4 (some s.data.toList)).2).1.size < 65536 := by
    unfold rText
    simp only []
    have h1 := rTake_len (rNum 2 (rTake 4 (some s.data.toList)).2).1.toNat (rNum 2 (rTake 4 (some s.data.toList)).2).2
    have h2 := rNum_bd 2 (rTake 4 (some s.data.toList)).2
    rw [p2] at h2
    rw [bsOf_size]; omega
  generalize (rTake 4 (some s.data.toList)).1 = mg at HAG ⊢
  generalize rText (rTake 4 (some s.data.toList)).2 = tx at HAG HNB K5 hns ⊢
  obtain ⟨nm, st4⟩ := tx
  simp only [] at HAG HNB K5 hns ⊢
  generalize rNum 1 st4 = nn at HAG HNB K5 ⊢
  obtain ⟨n1, st5⟩ := nn
  simp only [] at HAG HNB K5 ⊢
  obtain ⟨n, rfl⟩ := Int.eq_ofNat_of_zero_le HNB.1
  rw [Int.toNat_natCast] at HAG
  obtain ⟨M, hM⟩ : ∃ M, rMems n st5 = M := ⟨_, rfl⟩
  have HM := Lib.hid hM
  replace HAG := Lib.hid (HAG.out M hM)
  clear hM
  have hn255 : n ≤ 255 := by omega
  clear HNB
  have HR5 := Lib.hid ((HK5.out.block _ (by omega) (by omega)).trans HR0.out)
  have HB5 : Hid (Below w.heap.size w w5) := HB1.out.trans (HK5.out.below HB1.out.size (fun g hg e => by omega))
  have hz5 : rb < w5.heap.size := K5.out.lt
  clear HR0 HB1 HK5 hz1
  have HX6 : Hid (ArcRow (w5.heap.size + 1) w5.heap.size nm (.slice none 0 0) [] (w5.alloc (.cells #[.string nm, .slice none 0 0] 24))) := ⟨heap_alloc_new w5 _, World.ownsRow_nil _ _ _ _, (fun t ht => by cases ht), Nat.lt_succ_self _⟩
  have HB6 : Hid (Below w5.heap.size w5 (w5.alloc (.cells #[.string nm, .slice none 0 0] 24))) := alloc_old _ _
  go_wp2_with fail
  generalize w5.alloc (.cells #[.string nm, .slice none 0 0] 24) = w6 at HX6 HB6 ⊢
  generalize hxb : w5.heap.size = xb at HX6 HB6 hz5 ⊢
  have HXB := Lib.hid hxb; clear hxb
  have K6 : Hid (RdS w6 rb s st5) := K5.out.congr (HB6.out.block rb hz5)
  have HR6 : Hid (w6.heap[w.heap.size]? = some (.cells #[.string ⟨#[]⟩, .slice none 0 0] 24 (0, 0))) := (HB6.out.block _ (by omega)).trans HR5.out
  have HBW6 : Hid (Below w.heap.size w w6) := HB5.out.trans (HB6.out.mono (by rw [← HXB.out]; exact HB5.out.size))
  clear HB6 HR5 HB5 K5
  obtain ⟨iO, s0, s1, s2, s3⟩ := info_parts info_obj
  have HI := Lib.hid (And.intro s0 (And.intro s1 (And.intro s2 s3)))
  clear s0 s1 s2 s3
  have hgw : IntKind.u32.wrap ((s.size : Int) + 1) = ((s.size + 1 : Nat) : Int) := by rw [IntKind.wrap_u32]; omega
  go_loopw [9] (fun v9 wr => ∃ (m : Nat) (ts : List (GObj × Value)) (v : Value) (st : RS), v9 = .int .u32 m ∧ ts.length + m ≤ 255 ∧ RdS wr rb s st ∧ ArcRow (xb + 1) xb nm v ts wr ∧ (rMems m st).map (fun r => (ts.map (·.1) ++ r.1, r.2)) = M ∧ wr.heap[w.heap.size]? = some (.cells #[.string ⟨#[]⟩, .slice none 0 0] 24 (0, 0)) ∧ Below w.heap.size w wr) (fun v9 _ => (intOf v9).toNat)
  case atStart => exact ⟨n, [], .slice none 0 0, st5, rfl, by simpa using hn255, K6.out, HX6.out, by rw [HM.out]; cases M <;> simp, HR6.out, HBW6.out⟩
  case round =>
    obtain ⟨m, ts, v, st, rfl, hml, hrd, har, hrel, hrr, hbw⟩ := hrel
    have HRD := Lib.hid hrd; have HAR := Lib.hid har; have HREL := Lib.hid hrel; have HRR := Lib.hid hrr; have HBW := Lib.hid hbw
    obtain ⟨pv, cv, rfl⟩ := own_shape har.row
    have hxr : xb < wr.heap.size := (Array.getElem?_eq_some_iff.1 har.box).1
    clear hrd har hrel hrr hbw HM HX6 HR6 HBW6 K6
    by_cases hm : m = 0
    · subst hm
      have HMM : Hid (M = some (ts.map (·.1), st)) := by rw [Hid, ← HREL.out]; simp [rMems]
      clear HREL
      have HENDC := Lib.hid (rdEnd_any rb s st wr HRD.out)
      go_wp2_with fail
      refine HENDC.out.mono ?_
      rintro e w7 ⟨c7, rfl, hc7, k1⟩
      have HC7 := Lib.hid hc7
      have HAR7 : Hid (ArcRow (xb + 1) xb nm (.slice pv ts.length cv) ts w7) := HAR.out.stay fun g hg hx => k1.block g hg (by omega)
      have HRR7 := Lib.hid ((k1.block _ (by omega) (by omega)).trans HRR.out)
      have HBW7 : Hid (Below w.heap.size w w7) := HBW.out.trans (k1.below HBW.out.size (fun g hg e => by omega))
      have hz7 : xb < w7.heap.size := (Array.getElem?_eq_some_iff.1 HAR7.out.box).1
      rw [HMM.out, arcEnd] at HAG
      clear hc7 k1 HENDC HAR HRR HBW HRD
      obtain ⟨r0, r1, rz⟩ := twos HRR7.out
      by_cases hok : st = some [] ∧ mg = aMagic
      · obtain ⟨hst, hmg⟩ := hok
        have hc0 : c7 = 0 := HC7.out.2 hst
        subst hc0
        have bl : (bsOf mg).toList = [65, 65, 82, 49] := by rw [hmg, ByteArray.toList_eq]; rfl
        have HCK := Lib.hid (arcCheck_any ⟨nm, ts.map (·.1)⟩ (.slice pv ts.length cv) w7 (HAR7.out.arcIn (by omega) (by omega)))
        simp only [] at HCK
        have a0 : w7.cell? ⟨xb, 0, none⟩ = some (.string nm) := Lib.cell_of_heap HAR7.out.box 0
        have a1 : w7.cell? ⟨xb, 1, none⟩ = some (.slice pv ts.length cv) := Lib.cell_of_heap HAR7.out.box 1
        by_cases hmay : arcOk ⟨nm, ts.map (·.1)⟩ = true
        · rw [hmay] at HCK
          rw [if_pos ⟨hst, hmg, hmay⟩] at HAG
          simp only [errB, if_true] at HCK
          have HV : Hid (arcGetV s = (⟨nm, ts.map (·.1)⟩, 0)) := by unfold arcGetV; rw [HAG.out]; rfl
          clear hst hmg hmay r0 r1 rz
          go_wp2_with fail
          refine HCK.out.mono ?_
          rintro e w8 ⟨rfl, hB8⟩
          have HAR8 := Lib.hid (HAR7.out.below hB8)
          have hr8 := (hB8.block _ (by omega)).trans HRR7.out
          have HBW8 : Hid (Below w.heap.size w w8) := HBW7.out.trans (hB8.mono HBW7.out.size)
          obtain ⟨r0, r1, rz⟩ := twos hr8
          have HPUT := Lib.hid (twos (two_put (u0 := .string nm) (u1 := .slice pv ts.length cv) hr8))
          replace a0 : w8.cell? ⟨xb, 0, none⟩ = some (.string nm) := Lib.cell_of_heap HAR8.out.box 0
          replace a1 : w8.cell? ⟨xb, 1, none⟩ = some (.slice pv ts.length cv) := Lib.cell_of_heap HAR8.out.box 1
          clear hB8 hr8 HCK
          go_wp2_with fail
          obtain ⟨x0, x1, -⟩ := HPUT.out
          refine bodyPost_ret (v := .tuple #[.agg #[.string nm, .slice pv ts.length cv], .int .i64 0]) (by simp [results, Tryz.results15, go_sem, x0, x1]) rfl ?_
          rw [HV.out]
          refine ⟨_, rfl, ⟨pv, cv, by simp⟩, ArcRow.arcIn (B := xb + 1) (xb := xb) (HAR8.out.stay fun g hg hx => ?_) (by omega) (by omega), (HBW8.out.setCell (Nat.le_refl _) _).setCell (Nat.le_refl _) _⟩
          exact (Below.heap_setCell _ _ _ _ (by show g ≠ w.heap.size; omega)).trans (Below.heap_setCell _ _ _ _ (by show g ≠ w.heap.size; omega))
        · have hmay' : arcOk ⟨nm, ts.map (·.1)⟩ = false := by simpa using hmay
          rw [hmay'] at HCK
          rw [if_neg (fun h => hmay h.2.2)] at HAG
          simp only [errB, Bool.false_eq_true, if_false] at HCK
          have HV : Hid (arcGetV s = (⟨⟨#[]⟩, []⟩, 7)) := by rw [Hid, arcGetV, HAG.out]
          clear hst hmg hmay hmay' r0 r1 rz
          go_wp2_with fail
          refine HCK.out.mono ?_
          rintro e w8 ⟨rfl, hB8⟩
          have hr8 := (hB8.block _ (by omega)).trans HRR7.out
          have HBW8 : Hid (Below w.heap.size w w8) := HBW7.out.trans (hB8.mono HBW7.out.size)
          obtain ⟨r0, r1, rz⟩ := twos hr8
          have HPUT := Lib.hid (twos (two_put (u0 := .string ⟨#[]⟩) (u1 := .slice none 0 0) hr8))
          clear hB8 hr8 HCK
          go_wp2_with fail
          obtain ⟨x0, x1, -⟩ := HPUT.out
          refine bodyPost_ret (v := .tuple #[.agg #[.string ⟨#[]⟩, .slice none 0 0], .int .i64 7]) (by simp [results, Tryz.results15, go_sem, x0, x1]) rfl ?_
          rw [HV.out]
          exact arcNo_got ((HBW8.out.setCell (Nat.le_refl _) _).setCell (Nat.le_refl _) _)
      · rw [if_neg (fun h => hok ⟨h.1, h.2.1⟩)] at HAG
        have HV : Hid (arcGetV s = (⟨⟨#[]⟩, []⟩, 7)) := by rw [Hid, arcGetV, HAG.out]
        have HPUT := Lib.hid (twos (two_put (u0 := .string ⟨#[]⟩) (u1 := .slice none 0 0) HRR7.out))
        by_cases hc0 : c7 = 0
        · have bl : ¬ (bsOf mg).toList = [65, 65, 82, 49] := by rw [ByteArray.toList_eq]; exact fun e => hok ⟨HC7.out.1 hc0, e⟩
          subst hc0
          clear hok
          go_wp2_with fail
          obtain ⟨x0, x1, -⟩ := HPUT.out
          refine bodyPost_ret (v := .tuple #[.agg #[.string ⟨#[]⟩, .slice none 0 0], .int .i64 7]) (by simp [results, Tryz.results15, go_sem, x0, x1]) rfl ?_
          rw [HV.out]
          exact arcNo_got ((HBW7.out.setCell (Nat.le_refl _) _).setCell (Nat.le_refl _) _)
        · have bc : (c7 != 0) = true := by simpa using hc0
          clear hok hc0
          go_wp2_with fail
          obtain ⟨x0, x1, -⟩ := HPUT.out
          refine bodyPost_ret (v := .tuple #[.agg #[.string ⟨#[]⟩, .slice none 0 0], .int .i64 7]) (by simp [results, Tryz.results15, go_sem, x0, x1]) rfl ?_
          rw [HV.out]
          exact arcNo_got ((HBW7.out.setCell (Nat.le_refl _) _).setCell (Nat.le_refl _) _)
    · obtain ⟨m', rfl⟩ : ∃ m', m = m' + 1 := ⟨m - 1, by omega⟩
      clear hm
      obtain ⟨a, f, hrb, hst⟩ := HRD.out
      have HFA := Lib.hid (fault_any rb s a f wr hrb)
      by_cases hf : f = 0
      rotate_left
      · rw [stOf_spoilt hf] at hst
        subst hst
        have HMM : Hid (M = some (ts.map (·.1), none)) := by rw [Hid, ← HREL.out]; simp [rMems]
        have hfb : (f == 0) = false := by simpa using hf
        clear HREL hrb hf
        go_wp2_with fail
        refine HFA.out.mono ?_
        rintro e w6' ⟨rfl, rfl⟩
        clear HFA
        have HENDC := Lib.hid (rdEnd_any rb s none wr HRD.out)
        go_wp2_with fail
        refine HENDC.out.mono ?_
        rintro e w7 ⟨c7, rfl, hc7, k1⟩
        have HC7 := Lib.hid hc7
        have HAR7 : Hid (ArcRow (xb + 1) xb nm (.slice pv ts.length cv) ts w7) := HAR.out.stay fun g hg hx => k1.block g hg (by omega)
        have HRR7 := Lib.hid ((k1.block _ (by omega) (by omega)).trans HRR.out)
        have HBW7 : Hid (Below w.heap.size w w7) := HBW.out.trans (k1.below HBW.out.size (fun g hg e => by omega))
        have hz7 : xb < w7.heap.size := (Array.getElem?_eq_some_iff.1 HAR7.out.box).1
        rw [HMM.out, arcEnd] at HAG
        clear hc7 k1 HENDC HAR HRR HBW HRD
        obtain ⟨r0, r1, rz⟩ := twos HRR7.out
        by_cases hok : (none : RS) = some [] ∧ mg = aMagic
        · obtain ⟨hst, hmg⟩ := hok
          have hc0 : c7 = 0 := HC7.out.2 hst
          subst hc0
          have bl : (bsOf mg).toList = [65, 65, 82, 49] := by rw [hmg, ByteArray.toList_eq]; rfl
          have HCK := Lib.hid (arcCheck_any ⟨nm, ts.map (·.1)⟩ (.slice pv ts.length cv) w7 (HAR7.out.arcIn (by omega) (by omega)))
          simp only [] at HCK
          have a0 : w7.cell? ⟨xb, 0, none⟩ = some (.string nm) := Lib.cell_of_heap HAR7.out.box 0
          have a1 : w7.cell? ⟨xb, 1, none⟩ = some (.slice pv ts.length cv) := Lib.cell_of_heap HAR7.out.box 1
          by_cases hmay : arcOk ⟨nm, ts.map (·.1)⟩ = true
          · rw [hmay] at HCK
            rw [if_pos ⟨hst, hmg, hmay⟩] at HAG
            simp only [errB, if_true] at HCK
            have HV : Hid (arcGetV s = (⟨nm, ts.map (·.1)⟩, 0)) := by unfold arcGetV; rw [HAG.out]; rfl
            clear hst hmg hmay r0 r1 rz
            go_wp2_with fail
            refine HCK.out.mono ?_
            rintro e w8 ⟨rfl, hB8⟩
            have HAR8 := Lib.hid (HAR7.out.below hB8)
            have hr8 := (hB8.block _ (by omega)).trans HRR7.out
            have HBW8 : Hid (Below w.heap.size w w8) := HBW7.out.trans (hB8.mono HBW7.out.size)
            obtain ⟨r0, r1, rz⟩ := twos hr8
            have HPUT := Lib.hid (twos (two_put (u0 := .string nm) (u1 := .slice pv ts.length cv) hr8))
            replace a0 : w8.cell? ⟨xb, 0, none⟩ = some (.string nm) := Lib.cell_of_heap HAR8.out.box 0
            replace a1 : w8.cell? ⟨xb, 1, none⟩ = some (.slice pv ts.length cv) := Lib.cell_of_heap HAR8.out.box 1
            clear hB8 hr8 HCK
            go_wp2_with fail
            obtain ⟨x0, x1, -⟩ := HPUT.out
            refine bodyPost_ret (v := .tuple #[.agg #[.string nm, .slice pv ts.length cv], .int .i64 0]) (by simp [results, Tryz.results15, go_sem, x0, x1]) rfl ?_
            rw [HV.out]
            refine ⟨_, rfl, ⟨pv, cv, by simp⟩, ArcRow.arcIn (B := xb + 1) (xb := xb) (HAR8.out.stay fun g hg hx => ?_) (by omega) (by omega), (HBW8.out.setCell (Nat.le_refl _) _).setCell (Nat.le_refl _) _⟩
            exact (Below.heap_setCell _ _ _ _ (by show g ≠ w.heap.size; omega)).trans (Below.heap_setCell _ _ _ _ (by show g ≠ w.heap.size; omega))
          · have hmay' : arcOk ⟨nm, ts.map (·.1)⟩ = false := by simpa using hmay
            rw [hmay'] at HCK
            rw [if_neg (fun h => hmay h.2.2)] at HAG
            simp only [errB, Bool.false_eq_true, if_false] at HCK
            have HV : Hid (arcGetV s = (⟨⟨#[]⟩, []⟩, 7)) := by rw [Hid, arcGetV, HAG.out]
            clear hst hmg hmay hmay' r0 r1 rz
            go_wp2_with fail
            refine HCK.out.mono ?_
            rintro e w8 ⟨rfl, hB8⟩
            have hr8 := (hB8.block _ (by omega)).trans HRR7.out
            have HBW8 : Hid (Below w.heap.size w w8) := HBW7.out.trans (hB8.mono HBW7.out.size)
            obtain ⟨r0, r1, rz⟩ := twos hr8
            have HPUT := Lib.hid (twos (two_put (u0 := .string ⟨#[]⟩) (u1 := .slice none 0 0) hr8))
            clear hB8 hr8 HCK
            go_wp2_with fail
            obtain ⟨x0, x1, -⟩ := HPUT.out
            refine bodyPost_ret (v := .tuple #[.agg #[.string ⟨#[]⟩, .slice none 0 0], .int .i64 7]) (by simp [results, Tryz.results15, go_sem, x0, x1]) rfl ?_
            rw [HV.out]
            exact arcNo_got ((HBW8.out.setCell (Nat.le_refl _) _).setCell (Nat.le_refl _) _)
        · rw [if_neg (fun h => hok ⟨h.1, h.2.1⟩)] at HAG
          have HV : Hid (arcGetV s = (⟨⟨#[]⟩, []⟩, 7)) := by rw [Hid, arcGetV, HAG.out]
          have HPUT := Lib.hid (twos (two_put (u0 := .string ⟨#[]⟩) (u1 := .slice none 0 0) HRR7.out))
          by_cases hc0 : c7 = 0
          · have bl : ¬ (bsOf mg).toList = [65, 65, 82, 49] := by rw [ByteArray.toList_eq]; exact fun e => hok ⟨HC7.out.1 hc0, e⟩
            subst hc0
            clear hok
            go_wp2_with fail
            obtain ⟨x0, x1, -⟩ := HPUT.out
            refine bodyPost_ret (v := .tuple #[.agg #[.string ⟨#[]⟩, .slice none 0 0], .int .i64 7]) (by simp [results, Tryz.results15, go_sem, x0, x1]) rfl ?_
            rw [HV.out]
            exact arcNo_got ((HBW7.out.setCell (Nat.le_refl _) _).setCell (Nat.le_refl _) _)
          · have bc : (c7 != 0) = true := by simpa using hc0
            clear hok hc0
            go_wp2_with fail
            obtain ⟨x0, x1, -⟩ := HPUT.out
            refine bodyPost_ret (v := .tuple #[.agg #[.string ⟨#[]⟩, .slice none 0 0], .int .i64 7]) (by simp [results, Tryz.results15, go_sem, x0, x1]) rfl ?_
            rw [HV.out]
            exact arcNo_got ((HBW7.out.setCell (Nat.le_refl _) _).setCell (Nat.le_refl _) _)
      · subst hf
        have hsm : ∃ r, st = some r := ⟨_, hst.trans stOf_ok⟩
        obtain ⟨r, rfl⟩ := hsm
        clear hst hrb
        go_wp2_with fail
        refine HFA.out.mono ?_
        rintro e w6' ⟨rfl, rfl⟩
        clear HFA
        go_wp2_with fail
        refine (rdNum_any rb 4 s _ wr HRD.out (by omega) (by omega)).mono ?_
        rintro e w7 ⟨c7, rfl, -, k1, k2⟩
        have hkb := rNum_bd 4 (some r)
        rw [p4] at hkb
        have HRM : Hid (rMems (m' + 1) (some r) = match getB (rTake (rNum 4 (some r)).1.toNat (rNum 4 (some r)).2).1 with
            | none => none
            | some o => match rMems m' (rTake (rNum 4 (some r)).1.toNat (rNum 4 (some r)).2).2 with
              | none => none
              | some (l, st) => some (o :: l, st)) := rfl
        generalize rNum 4 (some r) = nk at hkb HRM k1 ⊢
        obtain ⟨kk, st7⟩ := nk
        simp only [] at hkb HRM k1 ⊢
        obtain ⟨kn, rfl⟩ := Int.eq_ofNat_of_zero_le hkb.1
        rw [Int.toNat_natCast] at HRM
        have hkn : kn ≤ 4294967295 := by omega
        clear hkb
        have hcap : ∃ q : Nat, (if kn ≤ s.size + 1 then kn else s.size + 1) = q ∧ rTake kn st7 = rTake q st7 ∧ q ≤ s.size + 1 ∧ q ≤ kn := by
          by_cases hq : kn ≤ s.size + 1
          · exact ⟨kn, if_pos hq, rfl, hq, Nat.le_refl _⟩
          · exact ⟨s.size + 1, if_neg hq, (rTake_cap k1 kn (by omega)).symm, Nat.le_refl _, by omega⟩
        obtain ⟨q, hq1, hq2, hq3, hq4⟩ := hcap
        rw [hq2] at HRM
        have hmin : min (kn : Int) ((s.size + 1 : Nat) : Int) = (q : Int) := by
          rw [← hq1]; split <;> omega
        have hmin' : min (kn : Int) ((s.size : Int) + 1) = (q : Int) := by
          rw [← hq1]; split <;> omega
        have K7 := Lib.hid k1
        have HK7 := Lib.hid k2
        clear k1 k2 HRD hq1 hq2
        go_wp2_with fail
        refine (rdTake_any rb q s _ w7 K7.out).mono ?_
        rintro e w8 ⟨c8, rfl, -, k1, k2⟩
        have hbl := rTake_len q st7
        generalize rTake q st7 = tk at hbl HRM k1 ⊢
        obtain ⟨bb, st8⟩ := tk
        simp only [] at hbl HRM k1 ⊢
        have K8 := Lib.hid k1
        have HK8 : Hid (KR rb wr w8) := HK7.out.trans k2
        clear k1 k2 K7 HK7 hmin hmin'
        have HGT := Lib.hid (get_any (bsOf bb) w8 (by rw [bsOf_size]; omega))
        go_wp2_with fail
        refine HGT.out.mono ?_
        rintro e w9 ⟨hget, hB9⟩
        rw [bsOf_list] at hget
        have K9 : Hid (RdS w9 rb s st8) := K8.out.congr (hB9.block rb K8.out.lt)
        have HAR9 : Hid (ArcRow (xb + 1) xb nm (.slice pv ts.length cv) ts w9) := (HAR.out.stay fun g hg hx => HK8.out.block g hg (by omega)).below hB9
        have hz8 : wr.heap.size ≤ w8.heap.size := HK8.out.size
        have hz9 : w8.heap.size ≤ w9.heap.size := hB9.size
        have HRR9 := Lib.hid ((hB9.block _ (by omega)).trans ((HK8.out.block _ (by omega) (by omega)).trans HRR.out))
        have HBW9 : Hid (Below w.heap.size w w9) := (HBW.out.trans (HK8.out.below HBW.out.size (fun g hg e => by omega))).trans (hB9.mono (Nat.le_trans HBW.out.size hz8))
        clear HGT hB9 K8 HK8 HAR HRR HBW
        cases hg : getB bb with
        | none =>
          rw [hg] at hget HRM
          obtain rfl := hget
          have HMM : Hid (M = none) := by rw [Hid, ← HREL.out, HRM.out]; rfl
          have HV : Hid (arcGetV s = (⟨⟨#[]⟩, []⟩, 7)) := by rw [Hid, arcGetV, HAG.out, HMM.out]; rfl
          have hr := ((alloc_old w9 (.cells #[.string ⟨#[]⟩, .slice none 0 0] 50)).block _ (by omega)).trans HRR9.out
          obtain ⟨r0, r1, rz⟩ := twos hr
          have HPUT := Lib.hid (twos (two_put (u0 := .string ⟨#[]⟩) (u1 := .slice none 0 0) hr))
          have HBF : Hid (Below w.heap.size w (w9.alloc (.cells #[.string ⟨#[]⟩, .slice none 0 0] 50))) := HBW9.out.alloc HBW9.out.size _
          clear hr hg
          go_wp2_with fail
          obtain ⟨x0, x1, -⟩ := HPUT.out
          refine bodyPost_ret (v := .tuple #[.agg #[.string ⟨#[]⟩, .slice none 0 0], .int .i64 7]) (by simp [results, Tryz.results15, go_sem, x0, x1]) rfl ?_
          rw [HV.out]
          exact arcNo_got ((HBF.out.setCell (Nat.le_refl _) _).setCell (Nat.le_refl _) _)
        | some o =>
          rw [hg] at hget HRM
          obtain ⟨vs, rfl, hfr⟩ := hget
          obtain ⟨-, hfit, -⟩ := getB_some hg
          simp only [] at HRM
          obtain ⟨po, co, rfl⟩ := hfr.shape
          have HFR := Lib.hid (hfr.mono (B' := xb + 1) (by omega))
          have HFIT := Lib.hid hfit
          have hxz9 : xb < w9.heap.size := by omega
          have HARA : Hid (ArcRow (xb + 1) xb nm (.slice pv ts.length cv) ts ((w9.alloc (.cells #[.string o.name, .slice po o.syms.length co] 50)).alloc (.cells #[.string o.name, .slice po o.syms.length co] 50))) := (HAR9.out.below (alloc_old _ _)).below (alloc_old _ _)
          have HFRA : Hid (Fresh (xb + 1) ((w9.alloc (.cells #[.string o.name, .slice po o.syms.length co] 50)).alloc (.cells #[.string o.name, .slice po o.syms.length co] 50)) o (.slice po o.syms.length co)) := (HFR.out.keep (alloc_old _ _)).keep (alloc_old _ _)
          have x1 : w9.cell? ⟨xb, 1, none⟩ = some (.slice pv ts.length cv) := Lib.cell_of_heap HAR9.out.box 1
          have xz : w9.frozen? ⟨xb, 1, none⟩ = false := Lib.frozen_of_heap HAR9.out.box 1
          clear hfr hfit hg
          go_wp2_with (at_builtin; refine wpList_append_own _ rfl _ _ 22 rfl (xb + 1) 50 iO _ 2 40 Tryz.underlying22 HI.out.1 HI.out.2.1 HI.out.2.2.1 HI.out.2.2.2 rfl (by decide) (.slice pv ts.length cv) ts.length (ts.flatMap obCells) rfl HARA.out.row _ 1 1 [.string o.name, .slice po o.syms.length co] rfl rfl (ob_news (by simp [go_sem]) (by simp [go_sem])) ob_one (by unfold maxLen; omega) (by omega) (by simp; omega) ?_)
          intro v' w' hown hgrow _
          obtain ⟨pv', cv', rfl⟩ := own_shape hown
          have HADD := Lib.hid (HARA.out.add hgrow hown HFRA.out HFIT.out)
          have hown0 : ∀ g, (Value.slice pv ts.length cv).ownBlock = some g → xb + 1 ≤ g := fun g hg => (HARA.out.row.lt g hg).1
          have hkeep : ∀ g, g < xb → w'.heap[g]? = w9.heap[g]? := fun g hg => (hgrow.block g (by simp; omega) (fun e => by have := hown0 _ e.symm; omega)).trans ((Below.heap_alloc _ _ _ (by simp; omega)).trans (Below.heap_alloc _ _ _ (by omega)))
          have hset : ∀ g u, g < xb → (w'.setCell ⟨xb, 1, none⟩ u).heap[g]? = w'.heap[g]? := fun g u hg => Below.heap_setCell _ _ _ _ (by show g ≠ xb; omega)
          have K10 : Hid (∀ u, RdS (w'.setCell ⟨xb, 1, none⟩ u) rb s st8) := fun u => K9.out.congr ((hset rb u hz5).trans (hkeep rb hz5))
          have HRR10 : Hid (∀ u, (w'.setCell ⟨xb, 1, none⟩ u).heap[w.heap.size]? = some (.cells #[.string ⟨#[]⟩, .slice none 0 0] 24 (0, 0))) := fun u => (hset _ u (by omega)).trans ((hkeep _ (by omega)).trans HRR9.out)
          have HBW10 : Hid (∀ u, Below w.heap.size w (w'.setCell ⟨xb, 1, none⟩ u)) := fun u => (((((HBW9.out.alloc HBW9.out.size _).alloc (by simp; have := HBW9.out.size; omega) _)).grown hgrow (by simp; have := HBW9.out.size; omega) (fun g e => by have := hown0 _ e; omega)).setCell (by show w.heap.size ≤ xb; omega) _)
          have hbx : w'.heap[xb]? = some (.cells #[.string nm, .slice pv ts.length cv] 24 (0, 0)) := (hgrow.block xb (by simp; omega) (fun e => by have := hown0 _ e.symm; omega)).trans HARA.out.box
          have y1 : w'.cell? ⟨xb, 1, none⟩ = some (.slice pv ts.length cv) := Lib.cell_of_heap hbx 1
          have yz : w'.frozen? ⟨xb, 1, none⟩ = false := Lib.frozen_of_heap hbx 1
          clear hown hgrow hown0 hkeep hset x1 xz hbx
          go_wp2
          go_roundw
          case rel =>
            refine ⟨m', ts ++ [(o, .slice po o.syms.length co)], _, st8, ?_, ?_, K10.out _, HADD.out, ?_, HRR10.out _, HBW10.out _⟩
            · go_num
            · simp; omega
            · rw [← HREL.out, HRM.out]
              cases rMems m' st8 with
              | none => rfl
              | some p => simp
          case measure => simp [intOf]
end Go.Proofs.YtboegjdkedjhcaaGreatDoor
namespace Go.Proofs.YtboegjdkedjhcaaGreatDoor
open Go.RowKit
theorem run_append_own_empty {P : Program} {w : World} (base : Nat) (t ty e : TypeId) (i : TypeInfo) (size : Nat) (ht : P.underlying t = some (.slice e)) (hi : P.info? e = some i)
    (v : Value) (n : Nat) (xs : List Value) (hown : w.ownsRow base e size v n xs) (p : Option Addr) (c : Nat) :
    (Builtin.append_ #[t, t] ty #[v, .slice p 0 c]).run P w = .ok v w := by
  rcases hown.2 with ⟨rfl, rfl⟩ | ⟨g, cap, cur, rfl, _, _, hnc, _⟩
  · cases p <;> simp [Builtin.append_, run_underlying ht, sizeOf, typeInfo, hi, Builtin.lenOf, Builtin.firstCells, loadCells, loadCellsFrom]
  · cases p <;> simp [Builtin.append_, run_underlying ht, sizeOf, typeInfo, hi, Builtin.lenOf, Builtin.firstCells, hnc, storeCells, loadCells, loadCellsFrom]
theorem wpList_append_src {P : Program} {w : World} {ops : Array Oper} {rest : List Oper} {o : Oper} {a : Act} {Q : Exit → Act → World → Prop} (hgd : o.guard = none) (s x : Operand) (t : TypeId)
    (ho : o.op = .call { callee := .builtin .append, args := #[s, x], argTypes := #[t, t] })
    (base : Nat) (e : TypeId) (i : TypeInfo) (z : Value) (size bytes : Nat) (ht : P.underlying t = some (.slice e)) (hi : P.info? e = some i) (hz : i.zero = some z)
    (hsize : i.size = size) (hby : i.bytes = bytes) (hzs : z.cells.size = size) (hsz : 0 < size) (v : Value) (n : Nat) (xs : List Value) (hs : a.eval s = v) (hown : w.ownsRow base e size v n xs)
    (p : Option Addr) (m c b off : Nat) (news : List Value) (hx : a.eval x = .slice p m c) (hp : 0 < m → p = some ⟨b, off, none⟩) (hl : news.length = m * size) (hnews : 0 < m → ∀ j u, news[j]? = some u → w.cell? ((⟨b, off, none⟩ : Addr).add j) = some u) (h1 : ∀ u ∈ news, u.oneCell' = true)
    (hm : n + m ≤ maxLen) (hbytes : (n + m) * bytes ≤ 140737488355328) (hbase : base ≤ w.heap.size)
    (h : ∀ v' w', w'.ownsRow base e size v' (n + m) (xs ++ news) → w.grownBy w' v.ownBlock → wpList P ops Q rest (a.put o.dst v') w') : wpList P ops Q (o :: rest) a w := by
  by_cases h0 : m = 0
  · subst h0
    refine wpList_plain hgd fun K hK => ?_
    have hrun := run_append_own_empty (P := P) (w := w) base t o.type e i size ht hi v n xs hown p c
    have hn : news = [] := List.eq_nil_of_length_eq_zero (by rw [hl, Nat.zero_mul])
    subst hn
    unfold Oper.wp
    simp [execOp, ho, resolve, invoke, builtin, hs, hx, hrun, Result.andThen]
    exact hK _ _ (h _ _ (by simpa using hown) (World.grownBy.refl w _))
  · obtain rfl := hp (by omega)
    refine wpList_append_own w hgd s x t ho base e i z size bytes ht hi hz hsize hby hzs hsz v n xs hs hown _ m c news hx hl (hnews (by omega)) h1 hm hbytes hbase ?_
    intro v' w' h2 h3 _
    exact h v' w' h2 h3
end Go.Proofs.YtboegjdkedjhcaaGreatDoor
namespace Go.Proofs.YtboegjdkedjhcaaGreatDoor
open Go.RowKit Go.Maps
def ArcR (w : World) (b o : Nat) (x : GArc) : Prop := ∃ vs, b < w.heap.size ∧ w.cell? ⟨b, o, none⟩ = some (.string x.name) ∧ w.cell? ⟨b, o + 1, none⟩ = some vs ∧ ArcIn w x vs
theorem arcR_keeps : Keeps ArcR := fun _ _ _ _ _ hb ⟨vs, h0, h1, h2, r⟩ => ⟨vs, size_keep hb h0, cell_keep hb h0 h1, cell_keep hb h0 h2, ArcIn.keep hb r⟩
/-- archives, as a slice -/
def ArcsAt (w : World) (v : Value) (l : List GArc) : Prop := RowAt 2 ArcR w v l
theorem ArcsAt.keep {w w' : World} {v : Value} {l : List GArc} (hb : Below w.heap.size w w') (h : ArcsAt w v l) : ArcsAt w' v l := RowAt.keep arcR_keeps hb h
/-- the members of those that may be -/
def memsA (x : GArc) : List GObj := if arcOk x = true then x.members else []
def memsOf (l : List GArc) : List GObj := l.flatMap memsA
theorem memsOf_snoc {l : List GArc} {k : Nat} {x : GArc} (h : k < l.length) (hx : l[k] = x) : memsOf (l.take (k + 1)) = memsOf (l.take k) ++ memsA x := by
  rw [List.take_succ_eq_append_getElem h, hx, memsOf, List.flatMap_append]; simp [memsOf]
theorem memsOf_take (l : List GArc) (k : Nat) : (memsOf (l.take k)).length ≤ (memsOf l).length := by
  have e : memsOf l = memsOf (l.take k) ++ memsOf (l.drop k) := by unfold memsOf; rw [← List.flatMap_append, List.take_append_drop]
  rw [e, List.length_append]; omega
/-- a row of objects of one's own, made above B, of objects that w0 has -/
structure OwnObsB (B : Nat) (w0 w : World) (v : Value) (ts : List (GObj × Value)) : Prop where
  row : w.ownsRow B 50 2 v ts.length (ts.flatMap obCells)
  mem : ∀ t ∈ ts, ObjIn w0 t.1 t.2
abbrev OwnObs (w0 w : World) (v : Value) (ts : List (GObj × Value)) : Prop := OwnObsB w0.heap.size w0 w v ts
theorem OwnObsB.nil (B : Nat) (w0 w : World) : OwnObsB B w0 w (.slice none 0 0) [] := ⟨World.ownsRow_nil _ _ _ _, fun t ht => by cases ht⟩
theorem OwnObs.nil (w0 w : World) : OwnObs w0 w (.slice none 0 0) [] := OwnObsB.nil _ _ _
theorem OwnObsB.mono {B B' : Nat} {w0 w : World} {v : Value} {ts : List (GObj × Value)} (h : OwnObsB B w0 w v ts) (hb : B' ≤ B) : OwnObsB B' w0 w v ts := ⟨owns_mono h.row hb, h.mem⟩
theorem OwnObsB.congr {B : Nat} {w0 w w' : World} {v : Value} {ts : List (GObj × Value)} (h : OwnObsB B w0 w v ts) (hk : ∀ g, v.ownBlock = some g → w'.heap[g]? = w.heap[g]?) : OwnObsB B w0 w' v ts := ⟨own_congr h.row hk, h.mem⟩
theorem OwnObsB.keep {B : Nat} {w0 w w' : World} {v : Value} {ts : List (GObj × Value)} (h : OwnObsB B w0 w v ts) (hb : Below w.heap.size w w') : OwnObsB B w0 w' v ts := h.congr fun g hg => hb.block g (h.row.lt g hg).2
theorem OwnObsB.objs {B : Nat} {w0 w : World} {v : Value} {ts : List (GObj × Value)} (h : OwnObsB B w0 w v ts) (hb : Below w0.heap.size w0 w) (hl : ts.length ≤ 140737488355328) : ObjsAt w v (ts.map (·.1)) := by
  have h5 : RowAt 2 (fun w b o (u : GObj × Value) => ObjR w b o u.1) w v ts := owned_row obCells_len h.row hl fun g o' i hi hg hcell =>
    ⟨ts[i].2, hg, hcell 0 _ (by omega) rfl, hcell 1 _ (by omega) rfl, (h.mem _ (List.getElem_mem hi)).keep hb⟩
  obtain ⟨p, cap, b, o, rfl, q2, q3, q4, q5⟩ := h5
  exact ⟨p, cap, b, o, by simp, by simpa using q2, by simpa using q3, by simpa using q4, fun i hi => by simpa using q5 i (by simpa using hi)⟩
theorem ObjIn.form {w : World} {x : GObj} {v : Value} (h : ObjIn w x v) : ∃ p c, v = .slice p x.syms.length c := by
  obtain ⟨⟨p, c, _, _, h1, _⟩, _⟩ := h
  exact ⟨p, c, h1⟩
theorem obs_one {w : World} {ts : List (GObj × Value)} (h : ∀ t ∈ ts, ObjIn w t.1 t.2) : ∀ u ∈ ts.flatMap obCells, u.oneCell' = true := by
  intro u hu
  obtain ⟨t, ht, hu⟩ := List.mem_flatMap.1 hu
  obtain ⟨p, c, e⟩ := (h t ht).form
  simp only [obCells, List.mem_cons, List.not_mem_nil, or_false] at hu
  rcases hu with rfl | rfl
  · rfl
  · rw [e]; rfl
/-- a row of objects, with the rows of symbols -/
theorem objs_pairs {w : World} {v : Value} {l : List GObj} (h : ObjsAt w v l) : ∃ (p : Option Addr) (cap b o : Nat) (ts : List (GObj × Value)), v = .slice p l.length cap ∧ ts.map (·.1) = l ∧ l.length ≤ cap ∧ (0 < l.length → p = some ⟨b, o, none⟩) ∧ (∀ t ∈ ts, ObjIn w t.1 t.2) ∧
    ∀ j u, (ts.flatMap obCells)[j]? = some u → w.cell? ((⟨b, o, none⟩ : Addr).add j) = some u := by
  obtain ⟨p, cap, b, o, rfl, h1, -, h2, h3⟩ := h
  have hg : ∃ g : Nat → Value, ∀ i (hi : i < l.length), w.cell? ⟨b, o + i * 2, none⟩ = some (.string l[i].name) ∧ w.cell? ⟨b, o + i * 2 + 1, none⟩ = some (g i) ∧ ObjIn w l[i] (g i) := by
    refine ⟨fun i => if hi : i < l.length then Classical.choose (h3 i hi) else .slice none 0 0, fun i hi => ?_⟩
    simp only [hi, dif_pos]
    obtain ⟨-, k1, k2, k3⟩ := Classical.choose_spec (h3 i hi)
    exact ⟨k1, k2, k3⟩
  obtain ⟨g, hg⟩ := hg
  have hlen : (l.zipIdx.map fun q => (q.1, g q.2)).length = l.length := by simp
  have hget : ∀ i (hi : i < l.length), (l.zipIdx.map fun q => (q.1, g q.2))[i]'(by simpa using hi) = (l[i], g i) := fun i hi => by simp
  refine ⟨p, cap, b, o, l.zipIdx.map fun q => (q.1, g q.2), rfl, ?_, h1, h2, ?_, ?_⟩
  · apply List.ext_getElem
    · simp
    · intro i h1 h2; simp
  · intro t ht
    obtain ⟨i, hi, rfl⟩ := List.mem_iff_getElem.1 ht
    rw [hget i (by simpa using hi)]
    exact (hg i (by simpa using hi)).2.2
  · refine row_news obCells_len (by omega) fun i hi j u hu => ?_
    have hi' : i < l.length := by simpa using hi
    rw [hget i hi'] at hu
    obtain ⟨k1, k2, -⟩ := hg i hi'
    match j, hu with
    | 0, hu => simp only [obCells] at hu; cases hu; exact k1
    | 1, hu => simp only [obCells] at hu; cases hu; exact k2
theorem OwnObsB.more {B : Nat} {w0 w w' : World} {v v' : Value} {ts us : List (GObj × Value)} (h : OwnObsB B w0 w v ts) (hu : ∀ t ∈ us, ObjIn w0 t.1 t.2) (hown : w'.ownsRow B 50 2 v' (ts.length + us.length) (ts.flatMap obCells ++ us.flatMap obCells)) :
    OwnObsB B w0 w' v' (ts ++ us) := by
  refine ⟨by rw [List.length_append, List.flatMap_append]; exact hown, fun t ht => ?_⟩
  rcases List.mem_append.1 ht with h1 | h1
  · exact h.mem t h1
  · exact hu t h1
set_option maxRecDepth 100000 in
set_option maxHeartbeats 2000000 in
theorem members_any (w0 : World) (v : Value) (l : List GArc) (w : World) (h : ArcsAt w0 v l) (hb0 : Below w0.heap.size w0 w) (hsm : (memsOf l).length ≤ 100000) :
    Calls Tryz.prog 63 #[v] w fun e w' => ∃ vo ts, e = .returned vo ∧ OwnObsB w.heap.size w0 w' vo ts ∧ ts.map (·.1) = memsOf l ∧ Below w.heap.size w w' := by
  have HO := Lib.hid h
  have HB0 := Lib.hid hb0
  have hz0 : w0.heap.size ≤ w.heap.size := hb0.size
  clear hb0
  obtain ⟨p, cap, b, o, hvs, hcap, hmax, hp, -⟩ := h
  subst hvs
  have HP := Lib.hid hp; clear hp
  obtain ⟨iO, s0, s1, s2, s3⟩ := info_parts info_obj
  have HI := Lib.hid (And.intro s0 (And.intro s1 (And.intro s2 s3)))
  clear s0 s1 s2 s3
  go_enter Tryz.func63, Tryz.ntmps63
  go_wp2
  go_loopw [2, 7] (fun v2 v7 wr => ∃ (k : Nat) (ts : List (GObj × Value)), v7 = .int .i64 k ∧ k ≤ l.length ∧ ts.map (·.1) = memsOf (l.take k) ∧ OwnObsB w.heap.size w0 wr v2 ts ∧ Below w.heap.size w wr) (fun _ v7 _ => l.length - (intOf v7).toNat)
  case atStart => exact ⟨0, [], by go_num, Nat.zero_le _, rfl, OwnObsB.nil _ _ _, Below.refl _ _⟩
  case round =>
    obtain ⟨k, ts, rfl, hk, hts, hown, hbel⟩ := hrel
    have HTS := Lib.hid hts
    have HOW := Lib.hid hown
    have HB := Lib.hid hbel
    have HBZ : Hid (Below w0.heap.size w0 wr) := HB0.out.trans (hbel.mono hz0)
    obtain ⟨pv, cv, rfl⟩ := own_shape hown.row
    have htl : Hid (ts.length = (memsOf (l.take k)).length) := by rw [Hid, ← hts, List.length_map]
    clear hts hown hbel
    by_cases hlt : k < l.length
    · obtain rfl := HP.out (by omega)
      obtain ⟨p', cap', b', o', he, -, -, hp', hc'⟩ := ArcsAt.keep HBZ.out HO.out
      cases he
      cases hp' (by omega)
      obtain ⟨_, _, b0, o0, he0, -, -, hp0, hc0⟩ := HO.out
      cases he0
      cases hp0 (by omega)
      obtain ⟨vs, g0, g1, g2, hin⟩ := hc' k hlt
      obtain ⟨vs', g0', -, g2', hin0⟩ := hc0 k hlt
      have hvv : vs' = vs := by have := cell_keep HBZ.out g0' g2'; rw [g2] at this; injection this with e; exact e.symm
      subst hvv
      have hml := memsOf_take l (k + 1)
      have hms := memsOf_snoc hlt rfl
      rw [hms, List.length_append, ← htl.out] at hml
      generalize hx : l[k] = y at g1 g2 hin hin0 hms hml
      have HMS := Lib.hid hms
      clear hx hc' hp' hc0 hp0 g0' g2' hms
      obtain ⟨yn, ym⟩ := y
      simp only [] at g1 g2
      have HIN := Lib.hid hin
      have HIN0 := Lib.hid hin0
      obtain ⟨⟨p1, q1, b1, o1, rfl, -⟩, hyn⟩ := hin
      simp only [] at g2 HIN HIN0
      clear hin0 hyn
      have HCK := Lib.hid (arcCheck_any ⟨yn, ym⟩ _ _ (ArcIn.keep (alloc_old wr (.cells #[.string yn, .slice p1 ym.length q1] 24)) HIN.out))
      have hma : memsA ⟨yn, ym⟩ = if arcOk ⟨yn, ym⟩ = true then ym else [] := rfl
      generalize arcOk ⟨yn, ym⟩ = ok at HCK hma
      rw [hma] at hml HMS
      clear hma
      simp only [] at HCK
      cases ok with
      | false =>
        simp only [errB, Bool.false_eq_true, if_false, List.append_nil] at HCK HMS
        clear hml
        go_wp2_with (go_at_call 10; refine HCK.out.mono ?_; rintro e w1 ⟨rfl, hB⟩)
        have HB1 : Hid (Below wr.heap.size wr w1) := (alloc_old wr _).trans (hB.mono (by simp))
        go_roundw
        case rel => exact ⟨k + 1, ts, by go_num, by omega, HTS.out.trans HMS.out.symm, HOW.out.keep HB1.out, HB.out.trans (HB1.out.mono HB.out.size)⟩
        case measure => simp [intOf]; omega
      | true =>
        simp only [errB, if_true] at HCK HMS hml
        go_wp2_with fail
        refine HCK.out.mono ?_
        rintro e w1 ⟨rfl, hB⟩
        have d1 : w1.cell? ⟨wr.heap.size, 1, none⟩ = some (.slice p1 ym.length q1) := by rw [hB.cell (by simp)]; simp [go_sem]
        have HB1 : Hid (Below wr.heap.size wr w1) := (alloc_old wr _).trans (hB.mono (by simp))
        have HBW1 : Hid (Below w.heap.size w w1) := HB.out.trans (HB1.out.mono HB.out.size)
        have HBZ1 : Hid (Below w0.heap.size w0 w1) := HB0.out.trans (HBW1.out.mono hz0)
        have HOW1 := Lib.hid (HOW.out.keep HB1.out)
        obtain ⟨pu, cu, bu, ou, us, heu, hus, -, hpu, hmu, hcu⟩ := objs_pairs HIN0.out.1
        cases heu
        simp only [] at hus hpu
        have hul : Hid (us.length = ym.length) := by rw [Hid, ← hus, List.length_map]
        have HCU : Hid (0 < ym.length → ∀ j u, (us.flatMap obCells)[j]? = some u → w1.cell? ((⟨bu, ou, none⟩ : Addr).add j) = some u) := fun h0 j u hj => by
          have h1 := hcu j u hj
          rw [add_at] at h1 ⊢
          have h2 : bu < w0.heap.size := by
            by_cases h3 : bu < w0.heap.size
            · exact h3
            · rw [World.cell?, Array.getElem?_eq_none (by simpa using h3)] at h1; cases h1
          exact cell_keep HBZ1.out h2 h1
        have HMU := Lib.hid hmu
        have HPU := Lib.hid hpu
        have HUS := Lib.hid hus
        have hw1 : w.heap.size ≤ w1.heap.size := HBW1.out.size
        clear hB hcu hmu hpu hus
        go_wp2_with (at_builtin; refine wpList_append_src rfl _ _ 22 rfl w.heap.size 50 iO _ 2 40 Tryz.underlying22 HI.out.1 HI.out.2.1 HI.out.2.2.1 HI.out.2.2.2 rfl (by decide) (.slice pv ts.length cv) ts.length (ts.flatMap obCells) rfl HOW1.out.row p1 ym.length q1 bu ou (us.flatMap obCells) rfl HPU.out (by rw [flat_len obCells_len, hul.out]) HCU.out (obs_one HMU.out) (by unfold maxLen; omega) (by omega) hw1 ?_)
        intro v' w' hown3 hgrow3
        obtain ⟨pw3, cw3, rfl⟩ := own_shape hown3
        have HO3 : Hid (OwnObsB w.heap.size w0 w' (.slice pw3 (ts.length + ym.length) cw3) (ts ++ us)) := HOW1.out.more HMU.out (by rw [hul.out]; exact hown3)
        have HBF : Hid (Below w.heap.size w w') := HBW1.out.grown hgrow3 hw1 (fun q e => (HOW1.out.row.lt q e).1)
        clear hown3 hgrow3
        go_wp2
        go_roundw
        case rel => exact ⟨k + 1, ts ++ us, by go_num, by omega, by rw [List.map_append, HTS.out, HUS.out]; exact HMS.out.symm, HO3.out, HBF.out⟩
        case measure => simp [intOf]; omega
    · obtain rfl : k = l.length := by omega
      rw [List.take_length] at HTS
      go_wp2
      go_ret
      exact ⟨_, ts, rfl, HOW.out, HTS.out, HB.out⟩
end Go.Proofs.YtboegjdkedjhcaaGreatDoor
