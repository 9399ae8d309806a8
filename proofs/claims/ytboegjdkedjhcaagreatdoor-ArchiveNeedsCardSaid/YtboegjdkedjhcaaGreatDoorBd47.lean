/- The walk of aediculelaw35.refers. What is pulled is needed, and a second pull brings nothing, in plain words. No program in sight. What ArchiveNeeds asks of what was pulled, in plain words; and Pull at anything. The walk of aediculelaw35.ArchiveNeeds. -/
import Derived.Test.YtboegjdkedjhcaaGreatDoorBd28
import Derived.Test.YtboegjdkedjhcaaGreatDoorBd09
import Derived.Test.YtboegjdkedjhcaaGreatDoorBd08
import Derived.Test.YtboegjdkedjhcaaGreatDoorBd43
import Derived.Test.YtboegjdkedjhcaaGreatDoorBd36
import Derived.Test.YtboegjdkedjhcaaGreatDoorBd45
namespace Go.Proofs.YtboegjdkedjhcaaGreatDoor
open Go.RowKit Go.Maps
def symRef (s : GSym) (n : List UInt8) : Bool := s.rels.any fun r => r.name.data.toList == n
theorem refO_symRef {o : GObj} {n : List UInt8} : refO o n = o.syms.any fun s => symRef s n := rfl
/-- an object that is not the k-th refers to the name -/
def RefersP (l : List GObj) (k : Int) (n : List UInt8) : Prop := ∃ (i : Nat) (h : i < l.length), (i : Int) ≠ k ∧ refO l[i] n = true
def Refers35 (l : List GObj) (k : Int) (n : List UInt8) (w : World) (e : Ending) (w' : World) : Prop := (∃ b, e = .returned (.bool b) ∧ (b = true ↔ RefersP l k n)) ∧ Below w.heap.size w w'
theorem Refers35.yes {l : List GObj} {k : Int} {n : List UInt8} {w : World} (h : RefersP l k n) : Refers35 l k n w (.returned (.bool true)) w := ⟨⟨_, rfl, fun _ => h, fun _ => rfl⟩, Below.refl _ _⟩
theorem Refers35.no {l : List GObj} {k : Int} {n : List UInt8} {w : World} (h : ¬ RefersP l k n) : Refers35 l k n w (.returned (.bool false)) w := ⟨⟨_, rfl, fun h => (by cases h), fun hh => absurd hh h⟩, Below.refl _ _⟩
set_option maxRecDepth 100000 in
set_option maxHeartbeats 4000000 in
theorem refers35_any (vb : Value) (lb : List GObj) (k : Int) (nm : ByteArray) (w : World) (hb : ObjsAt w vb lb) :
    Calls Tryz.prog 21 #[vb, .int .i64 k, .string nm] w (Refers35 lb k nm.data.toList w) := by
  obtain ⟨p, cap, b, o, rfl, hcap, hmax, hp, hc⟩ := hb
  have HC := Lib.hid hc
  have HP := Lib.hid hp
  clear hc hp
  go_enter Tryz.func21, Tryz.ntmps21
  go_wp2
  go_loop [7] (fun v7 => ∃ i : Nat, i ≤ lb.length ∧ v7 = .int .i64 i ∧ ∀ (i' : Nat) (h : i' < lb.length), i' < i → (i' : Int) ≠ k → refO lb[i'] nm.data.toList = false) (fun v7 => lb.length - (intOf v7).toNat)
  case atStart => exact ⟨0, Nat.zero_le _, rfl, fun i' h h2 => by omega⟩
  case round =>
    obtain ⟨i, hi, rfl, hno⟩ := hrel
    have HNO := Lib.hid hno; clear hno
    by_cases hlt : i < lb.length
    · obtain rfl := HP.out (by omega)
      obtain ⟨vs, f0, f1, f2, hin⟩ := HC.out i hlt
      have HX : Hid (∀ x, x = lb[i] → x = lb[i]) := fun _ h => h
      obtain ⟨x, hx⟩ : ∃ x, x = lb[i] := ⟨_, rfl⟩
      rw [← hx] at f1 hin
      have HXE := Lib.hid hx
      clear hx HX
      obtain ⟨xn, xs⟩ := x
      obtain ⟨⟨p1, q1, b1, o1, rfl, -, hxm, hps, hcs⟩, hxn⟩ := hin
      simp only [] at f1 f2 hxm hps hcs hxn
      have HPS := Lib.hid hps
      have HCS := Lib.hid hcs
      clear hps hcs f1
      go_wp2
      go_loop [8] (fun v8 => ∃ j : Nat, j ≤ xs.length ∧ v8 = .int .i64 j ∧ ((i : Int) ≠ k → ∀ (j' : Nat) (h : j' < xs.length), j' < j → symRef xs[j'] nm.data.toList = false)) (fun v8 => xs.length - (intOf v8).toNat)
      case atStart => exact ⟨0, Nat.zero_le _, rfl, fun _ j' h h2 => by omega⟩
      case round =>
        obtain ⟨j, hj, rfl, hno⟩ := hrel
        have HNJ := Lib.hid hno; clear hno
        by_cases hik : (i : Int) = k
        · have hkk : decide ((i : Int) = k) = true := by simpa using hik
          have HNI : Hid (∀ (i' : Nat) (h : i' < lb.length), i' < i + 1 → (i' : Int) ≠ k → refO lb[i'] nm.data.toList = false) := fun i' h h1 h2 => HNO.out i' h (by have : i' ≠ i := (fun e => h2 (by rw [e]; exact hik)); omega) h2
          subst hik
          by_cases hlj : j < xs.length
          · go_wp2
            go_round
            case rel => exact ⟨i + 1, by omega, by go_num, HNI.out⟩
            case measure => simp [intOf]; omega
          · go_wp2
            go_round
            case rel => exact ⟨i + 1, by omega, by go_num, HNI.out⟩
            case measure => simp [intOf]; omega
        by_cases hlj : j < xs.length
        · have hQ := HPS.out (by omega)
          cases hQ
          obtain ⟨vr, vn, t0, -, -, -, -, -, t5, -, ⟨⟨p2, c2, b2, o2, rfl, -, hrm, hpr, hcr⟩, -, -, -, -, -, -⟩⟩ := HCS.out j hlj
          obtain ⟨rs, hrs⟩ : ∃ rs, rs = xs[j].rels := ⟨_, rfl⟩
          rw [← hrs] at t5 hrm hpr
          have HCR : Hid (∀ (q : Nat) (h : q < rs.length), RelR w b2 (o2 + q * 4) rs[q]) := by subst hrs; exact hcr
          have HPR := Lib.hid hpr
          have HRS := Lib.hid hrs
          clear hrs hpr hcr
          go_wp2
          go_loop [9] (fun v9 => ∃ q : Nat, q ≤ rs.length ∧ v9 = .int .i64 q ∧ ∀ (q' : Nat) (h : q' < rs.length), q' < q → (rs[q'].name.data.toList == nm.data.toList) = false) (fun v9 => rs.length - (intOf v9).toNat)
          case atStart => exact ⟨0, Nat.zero_le _, rfl, fun q' h h2 => by omega⟩
          case round =>
            obtain ⟨q, hq, rfl, hno⟩ := hrel
            have HNQ := Lib.hid hno; clear hno
            by_cases hlq : q < rs.length
            · have hQ := HPR.out (by omega)
              cases hQ
              obtain ⟨r0, r1, r2, r3, r4, -⟩ := HCR.out q hlq
              have HZ : Hid (∀ z, z = rs[q].name → z = rs[q].name) := fun _ h => h
              obtain ⟨z, hz⟩ : ∃ z, z = rs[q].name := ⟨_, rfl⟩
              rw [← hz] at r3
              have HZE := Lib.hid hz
              clear hz HZ r1 r2 r4
              by_cases hnn : z.toList = nm.toList
              · have hn1 : (z.toList == nm.toList) = true := by rw [hnn]; exact beq_self_eq_true _
                have HE : Hid (Refers35 lb k nm.data.toList w (.returned (.bool true)) w) := Refers35.yes ⟨i, hlt, hik, by
                  rw [refO_symRef, ← HXE.out, List.any_eq_true]
                  refine ⟨xs[j], List.getElem_mem _, ?_⟩
                  rw [symRef, List.any_eq_true]
                  refine ⟨rs[q], by rw [← HRS.out]; exact List.getElem_mem _, ?_⟩
                  rw [← HZE.out, ← toList_beq']; exact hn1⟩
                go_wp2
                go_ret
                exact HE.out
              · have hn1 : (z.toList == nm.toList) = false := by rw [beq_eq_false_iff_ne]; exact hnn
                have HNQ2 : Hid (∀ (q' : Nat) (h : q' < rs.length), q' < q + 1 → (rs[q'].name.data.toList == nm.data.toList) = false) := fun q' h h2 => by
                  by_cases h3 : q' < q
                  · exact HNQ.out q' h h3
                  · obtain rfl : q' = q := by omega
                    rw [← HZE.out, ← toList_beq']; exact hn1
                go_wp2
                go_round
                case rel => exact ⟨q + 1, by omega, by go_num, HNQ2.out⟩
                case measure => simp [intOf]; omega
            · obtain rfl : q = rs.length := by omega
              have HNJ2 : Hid ((i : Int) ≠ k → ∀ (j' : Nat) (h : j' < xs.length), j' < j + 1 → symRef xs[j'] nm.data.toList = false) := fun hik j' h h2 => by
                by_cases h3 : j' < j
                · exact HNJ.out hik j' h h3
                · obtain rfl : j' = j := by omega
                  rw [symRef, ← HRS.out, List.any_eq_false]
                  intro r hr
                  obtain ⟨q', hq', rfl⟩ := List.getElem_of_mem hr
                  simpa using HNQ.out q' hq' hq'
              go_wp2
              go_round
              case rel => exact ⟨j + 1, by omega, by go_num, HNJ2.out⟩
              case measure => simp [intOf]; omega
        · obtain rfl : j = xs.length := by omega
          have HNI : Hid (∀ (i' : Nat) (h : i' < lb.length), i' < i + 1 → (i' : Int) ≠ k → refO lb[i'] nm.data.toList = false) := fun i' h h1 h2 => by
            by_cases h3 : i' < i
            · exact HNO.out i' h h3 h2
            · obtain rfl : i' = i := by omega
              rw [refO_symRef, ← HXE.out, List.any_eq_false]
              intro s hs
              obtain ⟨j', hj', rfl⟩ := List.getElem_of_mem hs
              simpa using HNJ.out h2 j' hj' hj'
          go_wp2
          go_round
          case rel => exact ⟨i + 1, by omega, by go_num, HNI.out⟩
          case measure => simp [intOf]; omega
    · obtain rfl : i = lb.length := by omega
      have HE : Hid (Refers35 lb k nm.data.toList w (.returned (.bool false)) w) := Refers35.no fun ⟨i', h, h1, h2⟩ => by
        rw [HNO.out i' h h h1] at h2; cases h2
      go_wp2
      go_ret
      exact HE.out
end Go.Proofs.YtboegjdkedjhcaaGreatDoor
namespace Go.Proofs.YtboegjdkedjhcaaGreatDoor
/-- the members that are in, with their numbers -/
def selP (I : Nat → Bool) : Nat → List GObj → List (Nat × GObj)
  | _, [] => []
  | k, o :: r => (if I k = true then [(k, o)] else []) ++ selP I (k + 1) r
theorem selP_snd (I : Nat → Bool) : ∀ (l : List GObj) (k : Nat), (selP I k l).map (·.2) = selGo I k l
  | [], k => rfl
  | o :: r, k => by
    rw [selP, selGo, List.map_append, selP_snd I r (k + 1)]
    congr 1
    split <;> rfl
theorem mem_selP {I : Nat → Bool} : ∀ {l : List GObj} {a : Nat} {x : Nat × GObj}, x ∈ selP I a l ↔ ∃ (k : Nat) (h : k < l.length), I (a + k) = true ∧ x = (a + k, l[k])
  | [], a, x => by simp [selP]
  | o :: r, a, x => by
    rw [selP, List.mem_append, mem_selP (l := r)]
    constructor
    · rintro (h1 | ⟨k, hk, h1, h2⟩)
      · split at h1
        · rename_i hi
          obtain rfl : x = (a, o) := by simpa using h1
          exact ⟨0, by simp, hi, rfl⟩
        · cases h1
      · exact ⟨k + 1, by simpa using hk, by rw [show a + (k + 1) = a + 1 + k by omega]; exact h1, by rw [h2, show a + (k + 1) = a + 1 + k by omega]; rfl⟩
    · rintro ⟨k, hk, h1, h2⟩
      match k, hk, h1, h2 with
      | 0, hk, h1, h2 => exact .inl (by rw [if_pos (by simpa using h1)]; simpa using h2)
      | k + 1, hk, h1, h2 => exact .inr ⟨k, by simpa using hk, by rw [show a + 1 + k = a + (k + 1) by omega]; exact h1, by rw [h2, show a + (k + 1) = a + 1 + k by omega]; rfl⟩
theorem selP_len (I : Nat → Bool) (l : List GObj) (k : Nat) : (selP I k l).length = (selGo I k l).length := by rw [← selP_snd, List.length_map]
theorem selP_at {I : Nat → Bool} {l : List GObj} {k i : Nat} (h : i < (selGo I k l).length) : (selGo I k l)[i] = ((selP I k l)[i]'(by rw [selP_len]; exact h)).2 := by
  have : ∀ (L : List GObj) (hL : L = (selP I k l).map (·.2)) (hi2 : i < L.length) (h3 : i < (selP I k l).length), L[i] = ((selP I k l)[i]).2 := fun L hL hi2 h3 => by subst hL; simp
  exact this _ (selP_snd I l k).symm h _
theorem needs_ref {nm : List UInt8} {lb ms : List GObj} {I : Nat → Bool} (h : PullOk nm lb ms I) {i : Nat} (hi : i < (selGo I 0 ms).length) :
    ∃ s ∈ ((selGo I 0 ms)[i]).syms, s.bind ≠ 0 ∧ (s.name.data.toList = nm ∨ RefersP (lb ++ selGo I 0 ms) ((lb.length + i : Nat) : Int) s.name.data.toList) := by
  have hi' : i < (selP I 0 ms).length := by rw [selP_len]; exact hi
  obtain ⟨k, hk, hI, hx⟩ := mem_selP.1 (List.getElem_mem hi')
  rw [selP_at hi, hx]
  rw [Nat.zero_add] at hI hx
  obtain ⟨-, hk2, s, hs, hb, hn⟩ := h.need k hI
  refine ⟨s, hs, hb, ?_⟩
  rcases hn with hn | ⟨o, ho, hr⟩ | ⟨j, hj, hjk, hIj, hr⟩
  · exact .inl hn
  · right
    obtain ⟨q, hq, rfl⟩ := List.mem_iff_getElem.1 ho
    refine ⟨q, by simp; omega, by omega, ?_⟩
    rw [List.getElem_append_left hq]; exact hr
  · right
    have hm : (j, ms[j]) ∈ selP I 0 ms := mem_selP.2 ⟨j, hj, by simpa using hIj, by simp⟩
    obtain ⟨q, hq, hqe⟩ := List.mem_iff_getElem.1 hm
    have hq2 : q < (selGo I 0 ms).length := by rw [selP_len] at hq; exact hq
    refine ⟨lb.length + q, by simp; omega, fun he => ?_, ?_⟩
    · have : q = i := by omega
      subst this
      rw [hqe] at hx
      exact hjk (congrArg Prod.fst hx)
    · rw [List.getElem_append_right (by omega)]
      simp only [Nat.add_sub_cancel_left]
      rw [selP_at hq2, hqe]; exact hr
theorem selGo_none {I : Nat → Bool} (h : ∀ k, I k = false) : ∀ (l : List GObj) (a : Nat), selGo I a l = []
  | [], a => rfl
  | o :: r, a => by rw [selGo, selGo_none h r, h a]; rfl
theorem again_none {nm : List UInt8} {lb ms : List GObj} {I I' : Nat → Bool} (h : PullOk nm lb ms I) (h' : PullOk nm (lb ++ selGo I 0 ms) ms I') : selGo I' 0 ms = [] :=
  selGo_none (fun k => by
    cases hk : I' k with
    | false => rfl
    | true =>
      obtain ⟨⟨n, hn, o, ho, hd⟩, -⟩ := h'.need k hk
      rw [h.stop n hn o ho] at hd; cases hd) ms 0
/-- what is wanting no member defines -/
theorem stop_names {nm : List UInt8} {lb ms : List GObj} {I : Nat → Bool} (h : PullOk nm lb ms I) (hm : ∀ o ∈ lb ++ selGo I 0 ms, mayP o = true) {n : List UInt8} (hn : n ∈ onceT (sortT (wantsRaw (defB (mayL (lb ++ selGo I 0 ms))) nm (mayL (lb ++ selGo I 0 ms)))))
    {x : GEnt} (hx : x ∈ entsFrom 0 ms) : ¬ x.name.data.toList = n := fun e => by
  rw [mayL_all hm] at hn
  obtain ⟨k, hk, s, hs, hb, rfl⟩ := mem_entsFrom.1 hx
  have h1 := h.stop n (mem_sortT.1 (mem_onceT.1 hn)) _ (List.getElem_mem hk)
  have h2 : defS ms[k].syms n = true := by
    simp only [defS, List.any_eq_true, Bool.and_eq_true, bne_iff_ne, ne_eq, beq_iff_eq]
    exact ⟨s, hs, hb, e⟩
  rw [h1] at h2; cases h2
end Go.Proofs.YtboegjdkedjhcaaGreatDoor
namespace Go.Proofs.YtboegjdkedjhcaaGreatDoor
open Go.RowKit Go.Maps
theorem memsA_may {x : GArc} {o : GObj} (h : o ∈ memsA x) : mayP o = true := by
  unfold memsA at h
  split at h
  · rename_i hk; exact (arc_mem_may hk).1 o h
  · cases h
theorem memsA_len (x : GArc) : (memsA x).length ≤ 32 := by
  unfold memsA
  split
  · rename_i hk; exact (arc_mem_may hk).2.1
  · simp
theorem memsOf_may {l : List GArc} {o : GObj} (h : o ∈ memsOf l) : mayP o = true := by
  obtain ⟨x, -, hx⟩ := List.mem_flatMap.1 h
  exact memsA_may hx
theorem memsOf_len (l : List GArc) : (memsOf l).length ≤ l.length * 32 := flat35_le memsA 32 l fun x _ => memsA_len x
theorem small_ok {lb : List GObj} {l : List GArc} (h : pullOkB lb l = true) : SmallA lb l := by
  obtain ⟨h1, h2, h3, h4⟩ := pullOkB_iff.1 h
  have h5 := memsOf_len l
  exact ⟨by omega, fun o ho => small_may (List.all_eq_true.1 h3 o ho), fun o ho => small_may (memsOf_may ho)⟩
theorem pullS_any (nm : ByteArray) (vb : Value) (lb : List GObj) (v : Value) (l : List GArc) (w : World) (hb : ObjsAt w vb lb) (h : ArcsAt w v l) (hn : nm.size ≤ 140737488355328) :
    Calls Tryz.prog 17 #[.string nm, vb, v] w (PullAny w nm.data.toList lb l) := by
  cases hok : pullOkB lb l with
  | false => exact (pull_bad nm vb lb v l w hb h hok).mono fun e w' ⟨h1, h2⟩ => .inl ⟨hok, h1, h2⟩
  | true => exact pull_any nm vb lb v l w hb h (small_ok hok) hn
/-- what is asked of what was pulled -/
structure NeedsOk (nm : List UInt8) (lb : List GObj) (l : List GArc) (got : List GObj) : Prop where
  le : lb.length ≤ got.length
  l16 : got.length ≤ 16
  pre : got.take lb.length = lb
  may : ∀ o ∈ got, mayP o = true
  need : ∀ i (h : i < got.length), lb.length ≤ i → ∃ s ∈ got[i].syms, s.bind ≠ 0 ∧ (s.name.data.toList = nm ∨ RefersP got (i : Int) s.name.data.toList)
  stop : ∀ n ∈ onceT (sortT (wantsRaw (defB (mayL got)) nm (mayL got))), ∀ x ∈ entsFrom 0 (memsOf l), ¬ x.name.data.toList = n
  ok : pullOkB got l = true
  again : ∀ I', PullOk nm got (memsOf l) I' → got ++ selGo I' 0 (memsOf l) = got
  arcs : l.length ≤ 8
theorem needs_ok {nm : List UInt8} {lb : List GObj} {l : List GArc} {I : Nat → Bool} (hok : pullOkB lb l = true) (h : PullOk nm lb (memsOf l) I) (h16 : (lb ++ selGo I 0 (memsOf l)).length ≤ 16) : NeedsOk nm lb l (lb ++ selGo I 0 (memsOf l)) := by
  obtain ⟨h1, h2, h3, h4⟩ := pullOkB_iff.1 hok
  have hm : ∀ o ∈ lb ++ selGo I 0 (memsOf l), mayP o = true := fun o ho => by
    rcases List.mem_append.1 ho with h5 | h5
    · exact List.all_eq_true.1 h3 o h5
    · obtain ⟨k, hk, -, rfl⟩ := mem_selGo.1 h5
      exact memsOf_may (List.getElem_mem hk)
  refine ⟨by rw [List.length_append]; omega, h16, by simp, hm, fun i hi hl => ?_, fun n hn x hx => stop_names h hm hn hx, pullOkB_iff.2 ⟨h16, h2, List.all_eq_true.2 hm, h4⟩, fun I' h' => by rw [again_none h h', List.append_nil], h2⟩
  have hj : i - lb.length < (selGo I 0 (memsOf l)).length := by rw [List.length_append] at hi; omega
  obtain ⟨s, hs, hb, hr⟩ := needs_ref h hj
  rw [List.getElem_append_right hl]
  rw [show lb.length + (i - lb.length) = i by omega] at hr
  exact ⟨s, hs, hb, hr⟩
/-- a symbol for which a member is needed -/
def NeedS (nm : List UInt8) (got : List GObj) (i : Nat) (s : GSym) : Prop := s.bind ≠ 0 ∧ (s.name.data.toList = nm ∨ RefersP got (i : Int) s.name.data.toList)
theorem obs_pre {w : World} {p : Option Addr} {c : Nat} {l : List GObj} {n : Nat} (h : ObjsAt w (.slice p l.length c) l) (hn : n ≤ l.length) : ObjsAt w (.slice p n c) (l.take n) := by
  obtain ⟨p', c', b, o, e, h1, h2, h3, h4⟩ := h
  cases e
  have hl : (l.take n).length = n := by rw [List.length_take]; omega
  refine ⟨p, c, b, o, by rw [hl], by omega, by omega, fun hh => h3 (by omega), fun i hi => ?_⟩
  rw [List.getElem_take]; exact h4 i (by omega)
theorem ent_at {w : World} {B : Nat} {p : Option Addr} {c : Nat} {es : List GEnt} (h : EntRow B w (.slice p es.length c) es) {k : Nat} (hk : k < es.length) : ∃ g, p = some ⟨g, 0, none⟩ ∧ g < w.heap.size ∧ w.cell? ⟨g, k * 3, none⟩ = some (.string es[k].name) := by
  rcases h.2 with ⟨-, h0⟩ | ⟨g, cap, cur, h3, hb, h4, -⟩
  · omega
  · cases h3
    have e0 := flat_get entCells_len es k 0 hk (by omega)
    have h2 := World.ownsRow.cells h (g := g) rfl (k * 3 + 0) _ e0
    rw [add_at, Nat.zero_add] at h2
    exact ⟨g, rfl, (Array.getElem?_eq_some_iff.1 h4).1, h2⟩
end Go.Proofs.YtboegjdkedjhcaaGreatDoor
namespace Go.Proofs.YtboegjdkedjhcaaGreatDoor
open Go.RowKit Go.Maps
set_option maxRecDepth 100000 in
set_option maxHeartbeats 4000000 in
theorem arcNeeds_any (hsort : SortOk) (nm : ByteArray) (vb : Value) (lb : List GObj) (v : Value) (l : List GArc) (w : World) (hb : ObjsAt w vb lb) (h : ArcsAt w v l) (hn : nm.size ≤ 140737488355328) :
    Calls Tryz.prog 5 #[.string nm, vb, v] w fun e w' => e = .returned (.bool true) ∧ Below w.heap.size w w' := by
  have HAL : Hid (∀ W, Calls Tryz.prog 8 #[] W fun e w' => e = .returned (.bool true) ∧ Below W.heap.size W w') := fun W => alive35_any hsort W
  have HO := Lib.hid hb
  have HA := Lib.hid h
  have HLA := Lib.hid (large35_any vb v lb l w hb h)
  obtain ⟨pb, cb, hvb⟩ : ∃ (p : Option Addr) (c : Nat), vb = .slice p lb.length c := by obtain ⟨p1, c1, _, _, rfl, -⟩ := hb; exact ⟨_, _, rfl⟩
  obtain ⟨pv, cv, hvv⟩ : ∃ (p : Option Addr) (c : Nat), v = .slice p l.length c := by obtain ⟨p1, c1, _, _, rfl, -⟩ := h; exact ⟨_, _, rfl⟩
  subst hvb hvv
  clear hb h hsort
  go_enter Tryz.func5, Tryz.ntmps5
  go_wp2_with fail
  refine HLA.out.mono ?_
  rintro e w1 ⟨⟨b, rfl, -⟩, hB⟩
  have HB := Lib.hid hB
  clear hB HLA
  by_cases hg : b = true ∨ 1024 < nm.size
  · have hg1 : b = true ∨ (b = false ∧ (1024 : Int) < (nm.size : Int)) := by
      cases b with
      | true => exact .inl rfl
      | false => exact .inr ⟨rfl, by rcases hg with h | h; cases h; omega⟩
    clear hg
    rcases hg1 with rfl | ⟨rfl, hg⟩
    all_goals
      go_wp2_with fail
      refine (HAL.out _).mono ?_
      rintro e w3 ⟨rfl, hB⟩
      have HB3 := Lib.hid (HB.out.trans (hB.mono HB.out.size))
      clear hB
      go_wp2
      go_ret
      exact ⟨rfl, HB3.out⟩
  · have hbf : b = false := by cases b with | true => exact absurd (.inl rfl) hg | false => rfl
    subst hbf
    have hg1 : ¬ (1024 : Int) < (nm.size : Int) := fun h => hg (.inr (by omega))
    clear hg
    have HPU := Lib.hid (pullS_any nm _ lb _ l w1 (HO.out.keep HB.out) (HA.out.keep HB.out) hn)
    go_wp2_with fail
    refine HPU.out.mono ?_
    rintro e w2 (⟨-, rfl, hB⟩ | ⟨hok, I, hpo, ⟨-, rfl⟩ | ⟨hl16, vo, rfl, hob⟩, hB⟩)
    rotate_left 2
    · have HN := Lib.hid (needs_ok hok hpo hl16)
      obtain ⟨got, hgot⟩ : ∃ got, lb ++ selGo I 0 (memsOf l) = got := ⟨_, rfl⟩
      rw [hgot] at HN hob
      have HG := Lib.hid hob
      replace HB := Lib.hid (HB.out.trans (hB.mono HB.out.size))
      obtain ⟨po, co, hvo⟩ : ∃ (p : Option Addr) (c : Nat), vo = .slice p got.length c := by obtain ⟨p1, c1, _, _, rfl, -⟩ := hob; exact ⟨_, _, rfl⟩
      subst hvo
      have hco : got.length ≤ co := by obtain ⟨p1, c1, _, _, e, h1, -⟩ := hob; cases e; exact h1
      have hle := HN.out.le
      have h16 := HN.out.l16
      have HPRE := obs_pre HG.out hle
      rw [HN.out.pre] at HPRE
      have HSM := Lib.hid (sameObjs35_any _ _ lb w2 HPRE (HO.out.keep HB.out))
      clear hB hok hpo hl16 hgot hob HPU HPRE
      go_wp2_with fail
      refine HSM.out.mono ?_
      rintro e w3 ⟨rfl, hB⟩
      replace HB := Lib.hid (HB.out.trans (hB.mono HB.out.size)); replace HG := Lib.hid (HG.out.keep hB)
      clear hB HSM
      have hml := memsOf_len l
      have har := HN.out.arcs
      have hsy := symsN_le fun o ho => small_may (memsOf_may (l := l) ho)
      have HIX := Lib.hid (index_any _ l w3 (HA.out.keep HB.out) (by omega) (by omega))
      have hel0 := entsFrom_len (memsOf l) 0
      have hesl : (entsFrom 0 (memsOf l)).length ≤ 10000000 := by omega
      clear hml har hsy hel0
      go_wp2_with fail
      refine HIX.out.mono ?_
      rintro e w4 ⟨ve, es, rfl, her, hperm, hB⟩
      obtain ⟨pe, ce, rfl⟩ := own_shape her
      rw [← hperm.length_eq] at hesl
      replace HB := Lib.hid (HB.out.trans (hB.mono HB.out.size)); replace HG := Lib.hid (HG.out.keep hB)
      have HWA := Lib.hid (wanting_any _ got nm w4 HG.out (fun o ho => small_may (HN.out.may o ho)) (by omega) hn)
      clear hB HIX
      go_wp2_with fail
      refine HWA.out.mono ?_
      rintro e w5 ⟨vw, rfl, hwr, hB⟩
      replace HB := Lib.hid (HB.out.trans (hB.mono HB.out.size)); replace HG := Lib.hid (HG.out.keep hB)
      have HER : Hid (∀ k (hk : k < es.length), ∃ g, pe = some ⟨g, 0, none⟩ ∧ g < w5.heap.size ∧ w5.cell? ⟨g, k * 3, none⟩ = some (.string es[k].name)) := fun k hk => by
        obtain ⟨g, h1, h2, h3⟩ := ent_at her hk
        exact ⟨g, h1, size_keep hB h2, cell_keep hB h2 h3⟩
      have hst := HN.out.stop
      have hwl := want_len (defB (mayL got)) nm.data.toList (mayL got)
      rw [mayL_all HN.out.may] at hwl hst hwr
      have hrl := relsN_le fun o ho => small_may (HN.out.may o ho)
      generalize onceT (sortT (wantsRaw (defB got) nm.data.toList got)) = ws at hwr hst hwl
      have hwsl : ws.length ≤ 10000000 := by omega
      obtain ⟨pw, cw, rfl⟩ := own_shape hwr
      have HWR : Hid (∀ i (hi : i < ws.length), ∃ g, pw = some ⟨g, 0, none⟩ ∧ g < w5.heap.size ∧ w5.cell? ⟨g, i, none⟩ = some (.string ⟨ws[i].toArray⟩)) := fun i hi => erow_at hwr hi
      have HST : Hid (∀ i (hi : i < ws.length) k (hk : k < es.length), (es[k].name.toList == (⟨ws[i].toArray⟩ : ByteArray).toList) = false) := fun i hi k hk => by
        rw [beq_eq_false_iff_ne, ByteArray.toList_eq, ByteArray.toList_eq]
        intro e
        exact hst _ (List.getElem_mem hi) _ (hperm.mem_iff.1 (List.getElem_mem hk)) (by simpa using e)
      clear hst hwl hrl hwr her hperm hB HWA
      go_wp2
      go_loopw [11] (fun v11 wr => ∃ i : Nat, i ≤ ws.length ∧ v11 = .int .i64 i ∧ Below w5.heap.size w5 wr) (fun v11 _ => ws.length - (intOf v11).toNat)
      case atStart => exact ⟨0, Nat.zero_le _, rfl, Below.refl _ _⟩
      case round =>
        obtain ⟨i, hi, rfl, hbw⟩ := hrel
        have HBW := Lib.hid hbw; clear hbw
        by_cases hlt : i < ws.length
        · obtain ⟨gw, rfl, hgw, hcw⟩ := HWR.out i hlt
          have HCW := Lib.hid hcw; clear hcw
          obtain ⟨wo, hwo⟩ : ∃ wo : World, wo = wr := ⟨_, rfl⟩
          subst hwo
          go_wp2
          go_loopw [12] (fun v12 wr => ∃ k : Nat, k ≤ es.length ∧ v12 = .int .i64 k ∧ Below w5.heap.size w5 wr) (fun v12 _ => es.length - (intOf v12).toNat)
          case atStart => exact ⟨0, Nat.zero_le _, rfl, HBW.out⟩
          case round =>
            clear HBW
            obtain ⟨k, hk, rfl, hbw⟩ := hrel
            have HBW := Lib.hid hbw; clear hbw
            by_cases hlk : k < es.length
            · obtain ⟨ge, rfl, hge, hce⟩ := HER.out k hlk
              have x1 := cell_keep HBW.out hge hce
              have x2 := cell_keep HBW.out hgw HCW.out
              have hne := HST.out i hlt k hlk
              generalize es[k].name = en at x1 hne
              generalize (⟨ws[i].toArray⟩ : ByteArray) = wn at x2 hne
              clear hce
              go_wp2
              go_quiet (fail)
              go_wp2
              go_roundw
              case rel => exact ⟨k + 1, by omega, by go_num, below_draws HBW.out _⟩
              case measure => simp [intOf]; omega
            · go_wp2
              go_roundw
              case rel => exact ⟨i + 1, by omega, by go_num, HBW.out⟩
              case measure => simp [intOf]; omega
        · clear HST HWR HER
          obtain ⟨wo, hwo⟩ : ∃ wo : World, wo = wr := ⟨_, rfl⟩
          subst hwo
          replace HB := Lib.hid (HB.out.trans (HBW.out.mono HB.out.size)); replace HG := Lib.hid (HG.out.keep HBW.out)
          clear HBW
          go_wp2
          go_loopw [13] (fun v13 wr => ∃ i : Nat, lb.length ≤ i ∧ i ≤ got.length ∧ v13 = .int .i64 i ∧ Below wo.heap.size wo wr) (fun v13 _ => got.length - (intOf v13).toNat)
          case atStart => exact ⟨lb.length, Nat.le_refl _, hle, rfl, Below.refl _ _⟩
          case round =>
            obtain ⟨i, hil, hi, rfl, hbw⟩ := hrel
            have HBW := Lib.hid hbw; clear hbw
            by_cases hlt : i < got.length
            · obtain ⟨y, hy⟩ : ∃ y, got[i] = y := ⟨_, rfl⟩
              have HNE := HN.out.need i hlt hil
              rw [hy] at HNE
              replace HNE := Lib.hid HNE
              have HY := Lib.hid hy; clear hy
              obtain ⟨yn, ys⟩ := y
              obtain ⟨wq, hwq⟩ : ∃ wq : World, wq = wr := ⟨_, rfl⟩
              subst hwq
              go_wp2
              go_loopw [14, 15] (fun v14 v15 wr => ∃ (k : Nat) (nd : Bool), k ≤ ys.length ∧ v15 = .int .i64 k ∧ v14 = .bool nd ∧ (nd = true ∨ ∀ j (hj : j < ys.length), j < k → ¬ NeedS nm.data.toList got i ys[j]) ∧ Below wo.heap.size wo wr) (fun _ v15 _ => ys.length - (intOf v15).toNat)
              case atStart => exact ⟨0, false, Nat.zero_le _, rfl, rfl, .inr fun j hj h => by omega, HBW.out⟩
              case round =>
                clear HBW
                obtain ⟨k, nd, hk, rfl, rfl, hnd, hbw⟩ := hrel
                have HBW := Lib.hid hbw; have HND := Lib.hid hnd; clear hbw hnd
                have HGW := Lib.hid (HG.out.keep HBW.out)
                obtain ⟨pg, cg, bg, og, he, -, -, hpg, hcg⟩ := HGW.out
                cases he
                obtain rfl := hpg (by omega)
                obtain ⟨vs, f0, f1, f2, hin⟩ := hcg i hlt
                rw [HY.out] at f1 hin
                clear hpg hcg f1
                obtain ⟨⟨ps, cs, bs, os, rfl, -, hsm, hps, hcs⟩, -⟩ := hin
                simp only [] at f2 hsm hps hcs
                by_cases hlk : k < ys.length
                · obtain rfl := hps (by omega)
                  obtain ⟨vr, vn, t0, t1, t2, t3, t4, t5, t6, t7, hsin⟩ := hcs k hlk
                  obtain ⟨q1, q2, q3, q4, rfl, rfl⟩ := hsin.shape
                  have hnsz := hsin.2.2.2.2.2.1
                  have hno : ∀ nd', (nd' = true ∨ (¬ NeedS nm.data.toList got i ys[k] ∧ nd = false)) → (nd' = true ∨ ∀ j (hj : j < ys.length), j < k + 1 → ¬ NeedS nm.data.toList got i ys[j]) := fun nd' h => by
                    rcases h with h | ⟨h, h0⟩
                    · exact .inl h
                    · right
                      intro j hj hjk
                      rcases Nat.lt_or_ge j k with h1 | h1
                      · exact (HND.out.resolve_left (by rw [h0]; simp)) j hj h1
                      · obtain rfl : j = k := by omega
                        exact h
                  have HNO := Lib.hid hno
                  clear hno hcs hsin
                  obtain ⟨z, hz⟩ : ∃ z, ys[k] = z := ⟨_, rfl⟩
                  rw [hz] at t1 t2 t3 t4 t5 t6 t7 HNO hnsz
                  clear hz
                  obtain ⟨zn, zb, zk, zs, zy, zr, zt⟩ := z
                  simp only [] at t1 t2 t3 t4 t5 t6 t7 hnsz
                  have HBA : Hid (Below wo.heap.size wo (wr.alloc (.cells #[.string zn, .int .u8 zb, .int .u8 zk, .int .u32 zs, .string zy, .slice q1 zr.length q2, .slice q3 zt.length q4] 55))) := HBW.out.alloc HBW.out.size _
                  have HGA := Lib.hid (HGW.out.keep (alloc_old wr (.cells #[.string zn, .int .u8 zb, .int .u8 zk, .int .u32 zs, .string zy, .slice q1 zr.length q2, .slice q3 zt.length q4] 55)))
                  clear HND HBW HGW
                  cases nd with
                  | true =>
                    go_wp2
                    go_roundw
                    case rel => exact ⟨k + 1, true, by omega, by go_num, rfl, .inl rfl, HBA.out⟩
                    case measure => simp [intOf]; omega
                  | false =>
                    by_cases hb : zb = 0
                    · have hb1 : (zb != 0) = false := by simpa using hb
                      have HR := Lib.hid (HNO.out false (.inr ⟨fun h => h.1 hb, by simp⟩))
                      clear hb HNO
                      go_wp2
                      go_roundw
                      case rel => exact ⟨k + 1, false, by omega, by go_num, rfl, HR.out, HBA.out⟩
                      case measure => simp [intOf]; omega
                    · have hb1 : (zb != 0) = true := by simpa using hb
                      by_cases hnm : zn.toList = nm.toList
                      · have e1 : (zn.toList == nm.toList) = true := by simpa using hnm
                        clear hb hnm HNO
                        go_wp2
                        go_roundw
                        case rel => exact ⟨k + 1, true, by omega, by go_num, rfl, .inl rfl, HBA.out⟩
                        case measure => simp [intOf]; omega
                      · have e1 : (zn.toList == nm.toList) = false := by simpa using hnm
                        have HRF := Lib.hid (refers35_any _ got (i : Int) zn _ HGA.out)
                        have HNM := Lib.hid hnm
                        clear hb hnm
                        go_wp2_with fail
                        refine HRF.out.mono ?_
                        rintro e w7 ⟨⟨b, rfl, hbi⟩, hB⟩
                        have HR : Hid (b = true ∨ ∀ j (hj : j < ys.length), j < k + 1 → ¬ NeedS nm.data.toList got i ys[j]) := by
                          cases b with
                          | true => exact .inl rfl
                          | false =>
                            refine HNO.out false (.inr ⟨?_, by simp⟩)
                            rintro ⟨-, h1 | h1⟩
                            · exact HNM.out (by rw [ByteArray.toList_eq, ByteArray.toList_eq]; exact h1)
                            · have := hbi.2 h1; cases this
                        replace HBA := Lib.hid (HBA.out.trans (hB.mono HBA.out.size))
                        clear hbi hB HNO HRF
                        go_wp2
                        go_roundw
                        case rel => exact ⟨k + 1, b, by omega, by go_num, rfl, HR.out, HBA.out⟩
                        case measure => simp [intOf]; omega
                · have hn1 : nd = true := by
                    refine HND.out.resolve_right fun h => ?_
                    obtain ⟨s, hs, h1, h2⟩ := HNE.out
                    obtain ⟨j, hj, rfl⟩ := List.getElem_of_mem hs
                    exact h j hj (by omega) ⟨h1, h2⟩
                  subst hn1
                  clear HND hps hcs
                  go_wp2
                  go_roundw
                  case rel => exact ⟨i + 1, by omega, by omega, by go_num, HBW.out⟩
                  case measure => simp [intOf]; omega
            · replace HB := Lib.hid (HB.out.trans (HBW.out.mono HB.out.size)); replace HG := Lib.hid (HG.out.keep HBW.out)
              clear HBW
              have HPU2 := Lib.hid (pullS_any nm _ got _ l wr HG.out (HA.out.keep HB.out) hn)
              go_wp2_with fail
              refine HPU2.out.mono ?_
              rintro e w7 hpa
              obtain ⟨vo2, rfl, hob2, hB⟩ : ∃ vo2, e = .returned (.tuple #[vo2, .int .i64 0]) ∧ ObjsAt w7 vo2 got ∧ Below wr.heap.size wr w7 := by
                rcases hpa with ⟨h1, -⟩ | ⟨-, I', hpo, h1, hB⟩
                · rw [HN.out.ok] at h1; cases h1
                · rw [HN.out.again I' hpo] at h1
                  rcases h1 with ⟨h2, -⟩ | ⟨-, vo2, rfl, h2⟩
                  · omega
                  · exact ⟨vo2, rfl, h2, hB⟩
              obtain ⟨p2, c2, hv2⟩ : ∃ (p : Option Addr) (c : Nat), vo2 = .slice p got.length c := by obtain ⟨p1, c1, _, _, rfl, -⟩ := hob2; exact ⟨_, _, rfl⟩
              subst hv2
              replace HB := Lib.hid (HB.out.trans (hB.mono HB.out.size)); replace HG := Lib.hid (HG.out.keep hB)
              have HSM := Lib.hid (sameObjs35_any _ _ got w7 hob2 HG.out)
              clear hB HPU2 hpa hob2
              go_wp2_with fail
              refine HSM.out.mono ?_
              rintro e w8 ⟨rfl, hB⟩
              replace HB := Lib.hid (HB.out.trans (hB.mono HB.out.size))
              clear hB HSM
              go_wp2_with fail
              refine (HAL.out _).mono ?_
              rintro e w9 ⟨rfl, hB⟩
              replace HB := Lib.hid (HB.out.trans (hB.mono HB.out.size))
              clear hB
              go_wp2
              go_ret
              exact ⟨rfl, HB.out⟩
    all_goals
      replace HB := Lib.hid (HB.out.trans (hB.mono HB.out.size))
      clear hB HPU
      go_wp2_with fail
      refine (HAL.out _).mono ?_
      rintro e w3 ⟨rfl, hB⟩
      have HB3 := Lib.hid (HB.out.trans (hB.mono HB.out.size))
      clear hB
      go_wp2
      go_ret
      exact ⟨rfl, HB3.out⟩
end Go.Proofs.YtboegjdkedjhcaaGreatDoor
