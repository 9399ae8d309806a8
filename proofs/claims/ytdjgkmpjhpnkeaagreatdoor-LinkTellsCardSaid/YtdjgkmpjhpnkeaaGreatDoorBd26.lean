/- The walks of aediculeref13's known, closed and sorted. The walks of aediculeref14's up, kinds and May. The walk of lay.At. -/
import Derived.Test.YtdjgkmpjhpnkeaaGreatDoorBd24
import Derived.Test.YtdjgkmpjhpnkeaaGreatDoorBd25
import Derived.Test.YtdjgkmpjhpnkeaaGreatDoorBd22
import Derived.Test.YtdjgkmpjhpnkeaaGreatDoorBd05
import Derived.Test.YtdjgkmpjhpnkeaaGreatDoorBd04
import Derived.Test.YtdjgkmpjhpnkeaaGreatDoorBd06
namespace Go.Proofs.YtdjgkmpjhpnkeaaGreatDoor
open Go.RowKit Go.Maps Go.WideMaps
/-- the reference accepts the same objects -/
structure SameR (l : List GObj) : Prop where
  may : mayAllR l = mayAll l
  beg : beginRR l = beginR l
theorem SameR.find {l : List GObj} (h : SameR l) (i : Int) (n : List UInt8) : findAllR l i n = findAll l i n := by
  unfold findAllR findAll; rw [h.beg]
/-- a search under way, without where each was found from -/
structure Clo (l : List GObj) (p : PP) (L : List PP) (n : Nat) : Prop where
  head : p ∈ L
  nd : L.Nodup
  reach : ∀ x ∈ L, Reach l p x
  closed : ∀ i (h : i < L.length), i < n → ∀ q, knowsP l L[i] q → q ∈ L
theorem Clo.start (l : List GObj) (p : PP) : Clo l p [p] 0 where
  head := by simp
  nd := List.nodup_cons.2 ⟨by simp, List.nodup_nil⟩
  reach x hx := by rw [List.mem_singleton.1 hx]; exact .refl
  closed i h hn := by omega
theorem Clo.len {l : List GObj} {p : PP} {L : List PP} {n : Nat} (g : Clo l p L n) (hp : validP l p) (hm : mayAll l = true) : L.length ≤ 1024 := valid_len hm g.nd fun x hx => (g.reach x hx).valid hp
theorem Clo.put {l : List GObj} {p q x : PP} {L : List PP} {n : Nat} (g : Clo l p L n) (hn : n ≤ L.length) (hx : x ∈ L) (hk : knowsP l x q) (hq : q ∉ L) : Clo l p (L ++ [q]) n where
  head := List.mem_append.2 (.inl g.head)
  nd := by
    rw [List.nodup_append]
    refine ⟨g.nd, List.nodup_cons.2 ⟨by simp, List.nodup_nil⟩, fun a ha b hb => ?_⟩
    rw [List.mem_singleton.1 hb]
    rintro rfl
    exact hq ha
  reach y hy := by
    rcases List.mem_append.1 hy with hy | hy
    · exact g.reach y hy
    · rw [List.mem_singleton.1 hy]; exact .step (g.reach x hx) hk
  closed i h hin y hy := by
    have hi : i < L.length := by omega
    rw [List.getElem_append_left hi] at hy
    exact List.mem_append.2 (.inl (g.closed i hi hin y hy))
theorem Clo.next {l : List GObj} {p x : PP} {L : List PP} {n : Nat} (g : Clo l p L n) (hx : L[n]? = some x) (h : ∀ q, knowsP l x q → q ∈ L) : Clo l p L (n + 1) :=
  ⟨g.head, g.nd, g.reach, fun i hi hin q hq => by
    by_cases h1 : i < n
    · exact g.closed i hi h1 q hq
    · obtain rfl : i = n := by omega
      rw [List.getElem?_eq_getElem hi] at hx
      rw [Option.some.inj hx] at hq
      exact h q hq⟩
theorem Clo.done {l : List GObj} {p : PP} {L : List PP} {n : Nat} (g : Clo l p L n) (hn : L.length ≤ n) (x : PP) : x ∈ L ↔ Reach l p x := by
  refine ⟨g.reach x, fun h => ?_⟩
  induction h with
  | refl => exact g.head
  | step _ k ih =>
    obtain ⟨i, hi, rfl⟩ := List.mem_iff_getElem.1 ih
    exact g.closed i hi (by omega) _ k
theorem toG_inj {a b : PP} (h : toG a = toG b) : a = b := by
  unfold toG at h
  simp only [Prod.mk.injEq, Int.natCast_inj] at h
  exact Prod.ext h.1 h.2
theorem inG_map {L : List PP} {q : PP} : inG (L.map toG) (toG q) = decide (q ∈ L) := by
  rw [Bool.eq_iff_iff, inG_iff, decide_eq_true_eq]
  constructor
  · intro h
    obtain ⟨y, hy, he⟩ := List.mem_map.1 h
    rw [← toG_inj he]; exact hy
  · intro h; exact List.mem_map.2 ⟨q, h, rfl⟩
theorem pHas13_any (v : Value) (l : List PP) (a b : Nat) (w : World) (h : RowAt 2 PlaceR w v l) :
    Calls Tryz.prog 221 #[v, .agg #[.int .i64 a, .int .i64 b]] w fun e w' => e = .returned (.bool (decide ((a, b) ∈ l))) ∧ Below w.heap.size w w' := by
  have h1 := has13_any v (l.map toG) (toG (a, b)) w (places_g h)
  rw [inG_map] at h1
  exact h1
set_option maxRecDepth 100000 in
set_option maxHeartbeats 4000000 in
theorem known13_any (v : Value) (l : List GObj) (a b : Nat) (w : World) (h : ObjsAt w v l) (hs : SameR l) (hc : (beginR l).2 = 0) (ha : a < l.length) (hb : b < l[a].syms.length) :
    Calls Tryz.prog 222 #[v, .agg #[.int .i64 a, .int .i64 b]] w (KnownPost l (a, b) w) := by
  have HO := Lib.hid h
  have HS := Lib.hid hs; clear hs
  have hrl := relsP_le (beginR_zero hc).1 ha hb
  have HC := Lib.hid hc; clear hc
  have hkn : ∀ q, knowsP l (a, b) q ↔ ∃ x ∈ l[a].syms[b].rels, findR l a x.name.data.toList = some q := fun q => by
    unfold knowsP; rw [relsAt_eq ha hb]
  have HKN := Lib.hid hkn; clear hkn
  obtain ⟨p, cap, bb, o, rfl, hcap, hmax, hp, hcc⟩ := h
  obtain rfl := hp (by omega)
  obtain ⟨vs, g0, -, g2, ⟨pS, capS, bS, oS, rfl, hcapS, hmaxS, hpS, hcS⟩, -⟩ := hcc a ha
  obtain rfl := hpS (by omega)
  obtain ⟨vr, vn, s0, -, -, -, -, -, s6, -, ⟨pR, capR, bR, oR, rfl, hcapR, hmaxR, hpR, hcR⟩, -⟩ := hcS b hb
  clear hcc hp hpS hcS
  generalize l[a].syms[b].rels = rs at *
  generalize l[a].syms.length = nS at *
  have HCR := Lib.hid hcR
  have HPR := Lib.hid hpR
  clear hcR hpR
  obtain ⟨i0, hin0, hz0, hz1, hz2⟩ := info_parts info_place
  have HI := Lib.hid (And.intro hin0 (And.intro hz0 (And.intro hz1 hz2)))
  clear hin0 hz0 hz1 hz2
  have d5 : decide (l.length ≤ a) = false := by simpa using ha
  have d6 : decide (nS ≤ b) = false := by simpa using hb
  go_enter Tryz.func222, Tryz.ntmps222
  go_wp2_with fail
  go_quiet (fail)
  go_wp2
  have HB3 : Hid (Below w.heap.size w ((w.alloc (.cells #[.int .i64 a, .int .i64 b] 63)).drewN nq)) := below_drewN (alloc_old w _) nq
  have p0 : ((w.alloc (.cells #[.int .i64 a, .int .i64 b] 63)).drewN nq).cell? ⟨w.heap.size, 0, none⟩ = some (.int .i64 a) := by simp [go_sem]
  have hz3 : w.heap.size < ((w.alloc (.cells #[.int .i64 a, .int .i64 b] 63)).drewN nq).heap.size := by simp
  clear g0 g2 s0 s6 d5 d6
  have P0 := Lib.hid p0; clear p0
  generalize (w.alloc (.cells #[.int .i64 a, .int .i64 b] 63)).drewN nq = w3 at *
  go_loopw [5, 7] (fun v5 v7 wr => ∃ (j : Nat) (acc : List PP), j ≤ rs.length ∧ v7 = .int .i64 j ∧ acc.length ≤ j ∧ (∀ q, q ∈ acc ↔ ∃ x ∈ rs.take j, findR l a x.name.data.toList = some q) ∧ PRow w3.heap.size wr v5 acc ∧ Below w3.heap.size w3 wr) (fun _ v7 _ => rs.length - (intOf v7).toNat)
  case atStart => exact ⟨0, [], Nat.zero_le _, rfl, Nat.le_refl _, fun q => by simp, PRow.nil _ _, Below.refl _ _⟩
  case round =>
    obtain ⟨j, acc, hj, rfl, hal, hacc, hown, hbel⟩ := hrel
    have HACC := Lib.hid hacc; clear hacc
    have HOWN := Lib.hid hown; clear hown
    have HBW := Lib.hid hbel; clear hbel
    have HBV : Hid (Below w.heap.size w wr) := HB3.out.trans (HBW.out.mono HB3.out.size)
    by_cases hlt : j < rs.length
    · obtain rfl := HPR.out (by omega)
      obtain ⟨s0, s1, s2, s3, s4, -, -, -, hnm⟩ := relR_keeps _ _ _ _ _ HBV.out (HCR.out j hlt)
      have HKT := Lib.hid (known_take hlt HACC.out)
      generalize hx : rs[j] = x at s1 s2 s3 s4 hnm HKT
      obtain ⟨xo, xk, xn, xa⟩ := x
      simp only [] at s1 s2 s3 s4 hnm HKT
      clear hx
      have t0 : wr.cell? ⟨w.heap.size, 0, none⟩ = some (.int .i64 a) := cell_keep HBW.out hz3 P0.out
      have hzr : w.heap.size < wr.heap.size := size_keep HBW.out hz3
      have hne0 : ¬ wr.heap.size = w.heap.size := by omega
      have hne1 : ¬ wr.heap.size = bR := by omega
      have HF : Hid (∀ W, Below wr.heap.size wr W → Calls Tryz.prog 62 #[.slice (some ⟨bb, o, none⟩) l.length cap, .int .i64 a, .string xn] W fun e w' => e = .returned (findV (fndR (findR l a xn.data.toList))) ∧ Below W.heap.size W w') := fun W hW => by
        have := refFind_any (.slice (some ⟨bb, o, none⟩) l.length cap) l a xn W (ObjsAt.keep (HBV.out.trans (hW.mono HBV.out.size)) HO.out)
        rw [HS.out.find, findAll_at HC.out ha] at this
        exact this
      generalize findR l a xn.data.toList = fp at HF HKT
      obtain ⟨pa, pb, c, hfp⟩ : ∃ (pa pb : Nat) (c : Int), fndR fp = ((pa, pb), c) := ⟨_, _, _, rfl⟩
      have HF2 : Hid (∀ W, Below wr.heap.size wr W → Calls Tryz.prog 62 #[.slice (some ⟨bb, o, none⟩) l.length cap, .int .i64 a, .string xn] W fun e w' => e = .returned (.tuple #[.agg #[.int .i64 pa, .int .i64 pb], .int .i64 c]) ∧ Below W.heap.size W w') := fun W hW => by
        have := HF.out W hW
        rw [hfp] at this
        exact this
      have HFP := Lib.hid hfp; clear hfp HF
      go_wp2_with fail
      go_cut [8, 9] (fun v8 v9 wx => ∃ g, v8 = .pointer (some ⟨g, 0, none⟩) ∧ v9 = .int .i64 c ∧ PlaceAt wx g pa pb ∧ Below wr.heap.size wr wx)
      case first =>
        go_region_held3 (fun w' => w'.cell? ⟨w.heap.size, 0, none⟩ = some (.int .i64 a) ∧ w'.cell? ⟨bR, oR + j * 4 + 2, none⟩ = some (.string xn)) (go_keep) (first | (go_at_call 62; refine (HF2.out _ ?_).mono ?_; (go_grown); rintro e w' ⟨rfl, hB⟩; have k2 : w'.cell? ⟨w.heap.size, 0, none⟩ = some (.int .i64 a) := cell_keep hB (by simp <;> omega) (by simp [go_sem, *]); have k3 : w'.cell? ⟨bR, oR + j * 4 + 2, none⟩ = some (.string xn) := cell_keep hB (by simp <;> omega) (by simp [go_sem, *]); obtain ⟨hc1, hf1⟩ := bcell hB))
        all_goals (go_wp2_with fail)
        all_goals go_meet
        · have hz := hB.size
          simp only [World.size_drew] at hz
          exact ⟨_, rfl, rfl, ⟨by simp, by simp [go_sem], by simp [go_sem]⟩, (((Below.refl wr.heap.size wr).drew.trans hB).alloc (by omega) _)⟩
        · have hz := hB.size
          simp only [World.size_alloc, World.size_drew] at hz
          have q0 : w'.cell? ⟨wr.heap.size, 0, none⟩ = some (.int .i64 0) := by rw [hB.cell (by simp)]; simp [go_sem]
          have q1 : w'.cell? ⟨wr.heap.size, 1, none⟩ = some (.int .i64 0) := by rw [hB.cell (by simp)]; simp [go_sem]
          exact ⟨_, rfl, rfl, ⟨by simp; omega, by simp [go_sem, q0], by simp [go_sem, q1]⟩, ((((alloc_old wr _).drew.trans (hB.mono (by simp))).setCell (by simp) _).setCell (by simp) _)⟩
      case rest =>
        obtain ⟨g, rfl, rfl, hat, hbx⟩ := hcut
        obtain ⟨g1, g2, g3⟩ := hat
        have HBX := Lib.hid hbx; clear hbx
        clear s0 s1 s2 s3 s4 t0
        by_cases hc0 : c = 0
        · subst hc0
          obtain ⟨pq, hpq⟩ : ∃ pq, fp = some pq := by
            cases fp with
            | none => have := HFP.out; simp [fndR] at this
            | some pq => exact ⟨pq, rfl⟩
          have HP : Hid (fp = some (pa, pb)) := by
            have := HFP.out; rw [hpq] at this ⊢; simp only [fndR, Prod.mk.injEq] at this; rw [this.1]; rfl
          clear hpq
          go_wp2_with (at_builtin; refine wpList_append_own _ rfl _ _ 22 rfl w3.heap.size 63 i0 (.agg #[.int .i64 0, .int .i64 0]) 2 16 Tryz.underlying22 HI.out.1 HI.out.2.1 HI.out.2.2.1 HI.out.2.2.2 rfl (by decide) _ acc.length (placeCells acc) rfl ?c0 _ 1 1 [.int .i64 pa, .int .i64 pb] rfl rfl ?c1 two_one ?c3 ?c4 ?c5 ?_)
          case c0 => exact PRow.keep (HBX.out.alloc HBX.out.size _) HOWN.out
          case c1 => exact two_news (by simp [go_sem]) (by simp [go_sem])
          case c3 => unfold maxLen; omega
          case c4 => omega
          case c5 => have := HBW.out.size; have := HBX.out.size; simp; omega
          intro v5 w4 hown3 hgrow3 _
          have HOW3 := Lib.hid (PRow.snoc hown3); clear hown3
          have HB4 : Hid (Below w3.heap.size w3 w4) := ((HBW.out.trans (HBX.out.mono HBW.out.size)).alloc (Nat.le_trans HBW.out.size HBX.out.size) _).grown hgrow3 (by have := HBW.out.size; have := HBX.out.size; simp; omega) (fun q e => (World.ownsRow.lt HOWN.out q e).1)
          clear hgrow3
          go_wp2
          go_roundw
          case rel => exact ⟨j + 1, _, by omega, by go_num, by simp; omega, HKT.out.1 _ HP.out, HOW3.out, HB4.out⟩
          case measure => simp [intOf]; omega
        · have hcb : (c == 0) = false := by simpa using hc0
          have HN : Hid (fp = none) := by
            cases fp with
            | none => exact Lib.hid rfl
            | some pq => have := HFP.out; simp only [fndR, Prod.mk.injEq] at this; exact absurd this.2.symm hc0
          clear hc0
          go_wp2
          go_roundw
          case rel => exact ⟨j + 1, acc, by omega, by go_num, by omega, HKT.out.2 HN.out, PRow.keep HBX.out HOWN.out, HBW.out.trans (HBX.out.mono HBW.out.size)⟩
          case measure => simp [intOf]; omega
    · have hall := HACC.out
      rw [List.take_of_length_le (by omega)] at hall
      have HALL := Lib.hid hall; clear hall
      have HRW := Lib.hid (HOWN.out.row (by omega))
      go_wp2
      go_ret
      refine ⟨_, rfl, acc, HRW.out, fun q => ?_, by omega, fun g hg => ?_, HBV.out⟩
      · rw [HALL.out q, HKN.out q]
      · have := (HOWN.out.lt g hg).1; have := HB3.out.size; omega
/-- what is found from a place, in the objects' order -/
def ClosedPost (l : List GObj) (p : PP) (w : World) (e : Ending) (w' : World) : Prop :=
  ∃ vo, e = .returned vo ∧ ∃ L : List PP, RowAt 2 PlaceR w' vo L ∧ (∀ x, x ∈ L ↔ Reach l p x) ∧ Below w.heap.size w w'
/-- a search under way, while what one symbol refers to is gone through -/
structure CloIn (base : Nat) (w0 wk : World) (l : List GObj) (p x : PP) (n : Nat) (ks : List PP) (bk k : Nat) (v : Value) (L : List PP) (w : World) : Prop where
  g : Clo l p L n
  lt : n < L.length
  x : L[n]? = some x
  m : ∀ j (h : j < ks.length), j < k → ks[j] ∈ L
  row : PRow base w v L
  blk : 0 < ks.length → w.heap[bk]? = wk.heap[bk]? ∧ bk < w.heap.size ∧ v.ownBlock ≠ some bk
  b : Below w0.heap.size w0 w
theorem CloIn.same {base : Nat} {w0 wk : World} {l : List GObj} {p x : PP} {n : Nat} {ks : List PP} {bk k : Nat} {v : Value} {L : List PP} {w w' : World} (h : CloIn base w0 wk l p x n ks bk k v L w) (hk : k < ks.length) (hm : ks[k] ∈ L) (hb : Below w.heap.size w w') : CloIn base w0 wk l p x n ks bk (k + 1) v L w' where
  g := h.g
  lt := h.lt
  x := h.x
  m j hj hjk := by
    rcases Nat.lt_succ_iff_lt_or_eq.1 hjk with h1 | h1
    · exact h.m j hj h1
    · subst h1; exact hm
  row := h.row.keep hb
  blk h0 := ⟨(hb.block bk (h.blk h0).2.1).trans (h.blk h0).1, Nat.lt_of_lt_of_le (h.blk h0).2.1 hb.size, (h.blk h0).2.2⟩
  b := h.b.trans (hb.mono h.b.size)
theorem CloIn.add {base : Nat} {w0 wk : World} {l : List GObj} {p x : PP} {n : Nat} {ks : List PP} {bk k : Nat} {v v' : Value} {L : List PP} {w wa w4 : World} (h : CloIn base w0 wk l p x n ks bk k v L w) (hk : k < ks.length) (hkn : knowsP l x ks[k]) (hm : ks[k] ∉ L) (hb0 : base = w0.heap.size) (hb : Below w.heap.size w wa) (hg : wa.grownBy w4 v.ownBlock) (hown : PRow base w4 v' (L ++ [ks[k]])) (hv : v'.ownBlock = v.ownBlock ∨ v'.ownBlock = some wa.heap.size) : CloIn base w0 wk l p x n ks bk (k + 1) v' (L ++ [ks[k]]) w4 where
  g := h.g.put (Nat.le_of_lt h.lt) (List.mem_of_getElem? h.x) hkn hm
  lt := by rw [List.length_append]; have := h.lt; omega
  x := by rw [List.getElem?_append_left h.lt]; exact h.x
  m j hj hjk := by
    rcases Nat.lt_succ_iff_lt_or_eq.1 hjk with h1 | h1
    · exact List.mem_append.2 (.inl (h.m j hj h1))
    · subst h1; simp
  row := hown
  blk h0 := by
    obtain ⟨h1, h2, h3⟩ := h.blk h0
    have hs := hb.size
    refine ⟨((hg.block bk (by omega) (fun e => h3 e.symm)).trans (hb.block bk h2)).trans h1, Nat.lt_of_lt_of_le (by omega) hg.size, fun e => ?_⟩
    rcases hv with hv | hv
    · rw [hv] at e; exact h3 e
    · rw [hv] at e
      have := Option.some.inj e
      omega
  b := by
    refine (h.b.trans (hb.mono h.b.size)).grown hg (Nat.le_trans h.b.size hb.size) (fun q e => ?_)
    subst hb0
    exact (World.ownsRow.lt h.row q e).1
theorem place_one (w : World) (a b : Nat) (X : Obj) : PRow w.heap.size ((w.alloc X).alloc (.cells #[.int .i64 a, .int .i64 b] 63)) (.slice (some ⟨w.heap.size + 1, 0, none⟩) 1 1) [(a, b)] := by
  refine ⟨rfl, .inr ⟨w.heap.size + 1, 1, #[.int .i64 a, .int .i64 b], rfl, by omega, ?_, Nat.le_refl _, by unfold maxLen; omega, rfl, rfl⟩⟩
  have := heap_alloc_new (w.alloc X) (.cells #[.int .i64 a, .int .i64 b] 63)
  rw [World.size_alloc] at this
  exact this
set_option maxRecDepth 100000 in
set_option maxHeartbeats 4000000 in
theorem closed13_any (v : Value) (l : List GObj) (p : PP) (w : World) (h : ObjsAt w v l) (hs : SameR l) (hc : (beginR l).2 = 0) (hv : validP l p) :
    Calls Tryz.prog 142 #[v, .agg #[.int .i64 p.1, .int .i64 p.2]] w (ClosedPost l p w) := by
  have HO := Lib.hid h
  have HS := Lib.hid hs; clear hs
  have HM := Lib.hid (beginR_zero hc).1
  have HC := Lib.hid hc; clear hc
  have HV := Lib.hid hv; clear hv
  obtain ⟨pv, cap, _, _, rfl, -⟩ := h
  have HKN : Hid (∀ W x, Below w.heap.size w W → validP l x → Calls Tryz.prog 222 #[.slice pv l.length cap, .agg #[.int .i64 x.1, .int .i64 x.2]] W (KnownPost l x W)) := fun W x hW hx => by
    obtain ⟨o, s, h1, h2⟩ := hx
    obtain ⟨ha, hae⟩ := List.getElem?_eq_some_iff.1 h1
    obtain ⟨hb, hbe⟩ := List.getElem?_eq_some_iff.1 h2
    exact known13_any _ l x.1 x.2 W (HO.out.keep hW) HS.out HC.out ha (by rw [hae]; exact hb)
  obtain ⟨p1, p2⟩ := p
  simp only []
  obtain ⟨i0, hin0, hz0, hz1, hz2⟩ := info_parts info_place
  have HI2 := Lib.hid (And.intro hin0 (And.intro hz0 (And.intro hz1 hz2)))
  clear hin0 hz0 hz1 hz2
  go_enter Tryz.func142, Tryz.ntmps142
  go_wp2_with fail
  have HPR := Lib.hid (place_one w p1 p2 (.cells #[.int .i64 p1, .int .i64 p2] 63))
  have HB0 : Hid (Below w.heap.size w ((w.alloc (.cells #[.int .i64 p1, .int .i64 p2] 63)).alloc (.cells #[.int .i64 p1, .int .i64 p2] 63))) := (alloc_old w _).alloc (by simp) _
  generalize (w.alloc (.cells #[.int .i64 p1, .int .i64 p2] 63)).alloc (.cells #[.int .i64 p1, .int .i64 p2] 63) = w1 at *
  go_loopw [5, 6] (fun v5 v6 wr => ∃ (L : List PP) (i : Nat), v6 = .int .i64 i ∧ i ≤ L.length ∧ Clo l (p1, p2) L i ∧ PRow w.heap.size wr v5 L ∧ Below w.heap.size w wr) (fun _ v6 _ => 2000 - (intOf v6).toNat)
  case atStart => exact ⟨[(p1, p2)], 0, by go_num, Nat.zero_le _, Clo.start l _, HPR.out, HB0.out⟩
  case round =>
    clear HPR HB0
    obtain ⟨L, i, rfl, hi, hg, hrow, hbel⟩ := hrel
    have HG := Lib.hid hg
    have HR := Lib.hid hrow
    have HB := Lib.hid hbel
    have hL := hg.len HV.out HM.out
    clear hg hrow hbel
    by_cases hlt : i < L.length
    · obtain ⟨gv, cv, rfl, hgb, hgl⟩ := World.ownsRow.form HR.out (by omega)
      obtain ⟨-, e0, e1⟩ := placeRow_at HR.out i hlt
      have HX : Hid (L[i]? = some L[i]) := List.getElem?_eq_getElem hlt
      have hxr := HG.out.reach L[i] (List.getElem_mem hlt)
      have HXV := Lib.hid (hxr.valid HV.out)
      clear hxr
      have HKX := Lib.hid (HKN.out wr L[i] HB.out HXV.out)
      generalize L[i] = x at e0 e1 HX HXV HKX
      obtain ⟨x1, x2⟩ := x
      simp only [] at e0 e1 HKX
      go_wp2_with fail
      refine HKX.out.mono ?_
      rintro e wk ⟨vo, rfl, ks, hks, hmem, hkl, hob, hB1⟩
      have HMEM := Lib.hid hmem
      have HBK : Hid (Below w.heap.size w wk) := HB.out.trans (hB1.mono HB.out.size)
      have HRK := Lib.hid (HR.out.keep hB1)
      obtain ⟨pk, ck, bk, ok, rfl, hck, hmk, hpk, hrk⟩ := hks
      have HPK := Lib.hid hpk
      have HCK := Lib.hid hrk
      have HIN : Hid (CloIn w.heap.size w wk l (p1, p2) (x1, x2) i ks bk 0 (.slice (some ⟨gv, 0, none⟩) L.length cv) L wk) := by
        refine ⟨HG.out, hlt, HX.out, fun j hj hj0 => by omega, HRK.out, fun h0 => ⟨rfl, (hrk 0 h0).1, fun e => ?_⟩, HBK.out⟩
        have h1 := hob bk (by rw [hpk h0]; rfl)
        have h2 : gv = bk := Option.some.inj e
        omega
      clear hmem hB1 hob hck hmk hpk hrk e0 e1 HKX HX HG HR HB HRK hgb hgl
      go_wp2_with fail
      go_loopw [5, 8] (fun v5 v8 wq => ∃ (k : Nat) (M : List PP), v8 = .int .i64 k ∧ k ≤ ks.length ∧ CloIn w.heap.size w wk l (p1, p2) (x1, x2) i ks bk k v5 M wq) (fun _ v8 _ => ks.length - (intOf v8).toNat)
      case atStart => exact ⟨0, L, by go_num, Nat.zero_le _, HIN.out⟩
      case round =>
        clear HIN
        obtain ⟨k, M, rfl, hk, hin⟩ := hrel
        have HI := Lib.hid hin; clear hin
        have hM := HI.out.g.len HV.out HM.out
        by_cases hlk : k < ks.length
        · obtain rfl := HPK.out (by omega)
          obtain ⟨hb1, hb2, hb3⟩ := HI.out.blk (by omega)
          obtain ⟨-, y0, y1⟩ := HCK.out k hlk
          have t0 : wr.cell? ⟨bk, ok + k * 2, none⟩ = some (.int .i64 ks[k].1) := (World.cell?_of_block (w := wk) (a := ⟨bk, ok + k * 2, none⟩) hb1).trans y0
          have t1 : wr.cell? ⟨bk, ok + k * 2 + 1, none⟩ = some (.int .i64 ks[k].2) := (World.cell?_of_block (w := wk) (a := ⟨bk, ok + k * 2 + 1, none⟩) hb1).trans y1
          have HKK := Lib.hid ((HMEM.out ks[k]).1 (List.getElem_mem hlk))
          have HSAME := Lib.hid (fun (w' : World) (hm : ks[k] ∈ M) (hb : Below wr.heap.size wr w') => HI.out.same hlk hm hb)
          have HADD := Lib.hid (fun (v' : Value) (wa w4 : World) (hm : ks[k] ∉ M) (hb : Below wr.heap.size wr wa) (hg : wa.grownBy w4 u5.ownBlock) (hown : PRow w.heap.size w4 v' (M ++ [ks[k]])) (hv : v'.ownBlock = u5.ownBlock ∨ v'.ownBlock = some wa.heap.size) => HI.out.add hlk HKK.out hm rfl hb hg hown hv)
          have hbk : bk < wr.heap.size := hb2
          clear y0 y1 hb1 hb2 hb3
          generalize ks[k] = y at t0 t1 HKK HSAME HADD
          obtain ⟨y1, y2⟩ := y
          simp only [] at t0 t1
          have HHA := Lib.hid (pHas13_any u5 M y1 y2 wr (HI.out.row.row (by omega)))
          have HRO := Lib.hid HI.out.row
          have HBQ := Lib.hid HI.out.b
          obtain ⟨pq, cq, hu5⟩ := own_shape HI.out.row
          clear HI
          subst hu5
          by_cases hm : (y1, y2) ∈ M
          · rw [decide_eq_true hm] at HHA
            have HMM := Lib.hid hm; clear hm
            go_wp2_with fail
            refine HHA.out.mono ?_
            rintro e w5 ⟨rfl, hB5⟩
            have HB5 := Lib.hid hB5; clear hB5
            go_wp2
            go_roundw
            case rel => exact ⟨k + 1, M, by go_num, by omega, HSAME.out _ HMM.out HB5.out⟩
            case measure => simp [intOf]; omega
          · rw [decide_eq_false hm] at HHA
            have HMM := Lib.hid hm; clear hm
            go_wp2_with fail
            refine HHA.out.mono ?_
            rintro e w5 ⟨rfl, hB5⟩
            replace t0 := cell_keep hB5 hbk t0
            replace t1 := cell_keep hB5 hbk t1
            replace hbk := size_keep hB5 hbk
            have hsz := hB5.size
            have HB5 := Lib.hid hB5; clear hB5
            go_wp2_with (at_builtin; refine wpList_append_own_at _ rfl _ _ 22 rfl w.heap.size 63 i0 (.agg #[.int .i64 0, .int .i64 0]) 2 16 Tryz.underlying22 HI2.out.1 HI2.out.2.1 HI2.out.2.2.1 HI2.out.2.2.2 rfl (by decide) _ M.length (placeCells M) rfl ?c0 _ 1 1 [.int .i64 y1, .int .i64 y2] rfl rfl ?c1 two_one ?c3 ?c4 ?c5 ?_)
            case c0 => exact PRow.keep (HB5.out.alloc HB5.out.size _) HRO.out
            case c1 => exact two_news (by simp [go_sem]) (by simp [go_sem])
            case c3 => unfold maxLen; omega
            case c4 => omega
            case c5 => have := HBQ.out.size; simp; omega
            intro v9 w4 hown hgrow _ hv9
            have HAD := Lib.hid (HADD.out v9 _ w4 HMM.out (HB5.out.alloc HB5.out.size _) hgrow (PRow.snoc hown) (by rw [World.size_alloc]; exact hv9))
            clear hown hgrow hv9 t0 t1
            go_wp2
            go_roundw
            case rel => exact ⟨k + 1, _, by go_num, by omega, HAD.out⟩
            case measure => simp [intOf]; omega
        · have HG2 : Hid (Clo l (p1, p2) M (i + 1)) := HI.out.g.next HI.out.x fun q hq => by
            obtain ⟨j, hj, rfl⟩ := List.mem_iff_getElem.1 ((HMEM.out q).2 hq)
            exact HI.out.m j hj (by omega)
          have HRO := Lib.hid HI.out.row
          have HBQ := Lib.hid HI.out.b
          have hn := HI.out.lt
          obtain ⟨pq, cq, hu5⟩ := own_shape HI.out.row
          clear HI
          subst hu5
          go_wp2
          go_roundw
          case rel => exact ⟨M, i + 1, by go_num, by omega, HG2.out, HRO.out, HBQ.out⟩
          case measure => simp [intOf]; omega
    · have HD := Lib.hid (HG.out.done (by omega))
      have HRW := Lib.hid (HR.out.row (by omega))
      obtain ⟨pq, cq, hu5⟩ := own_shape HR.out
      clear HG HR
      subst hu5
      go_wp2
      go_ret
      exact ⟨_, rfl, L, HRW.out, HD.out, HB.out⟩
end Go.Proofs.YtdjgkmpjhpnkeaaGreatDoor
namespace Go.Proofs.YtdjgkmpjhpnkeaaGreatDoor
open Go.RowKit Go.Maps Go.WideMaps
set_option maxHeartbeats 400000 in
theorem rup_any (n k : Int) (w : World) (h0 : 0 ≤ n) (h1 : n ≤ 200000) (hk : k = 256 ∨ k = 8) : Calls Tryz.prog 165 #[.int .u32 n, .int .u32 k] w fun e w' => e = .returned (.int .u32 (upTo n k)) ∧ w = w' := by
  rcases hk with rfl | rfl
  · have d1 : (n + 256 - 1).tdiv 256 = (n + 255) / 256 := by rw [Int.tdiv_eq_ediv_of_nonneg (by omega)]; omega
    go_enter Tryz.func165, Tryz.ntmps165
    go_wp2
    go_ret
    exact ⟨ret_int (by unfold upTo; first | rfl | omega), rfl⟩
  · have d1 : (n + 8 - 1).tdiv 8 = (n + 7) / 8 := by rw [Int.tdiv_eq_ediv_of_nonneg (by omega)]; omega
    go_enter Tryz.func165, Tryz.ntmps165
    go_wp2
    go_ret
    exact ⟨ret_int (by unfold upTo; first | rfl | omega), rfl⟩
set_option maxHeartbeats 400000 in
theorem kinds_any (w : World) : Calls Tryz.prog 164 #[] w fun e w' => e = .returned (.slice (some ⟨w.heap.size, 0, none⟩) 3 3) ∧ w' = w.alloc (.cells #[.int .u8 1, .int .u8 3, .int .u8 2] 5) := by
  go_enter Tryz.func164, Tryz.ntmps164
  go_wp2
  go_ret
  exact ⟨rfl, rfl⟩
theorem hasR_symAt (l : List GObj) (p : GP) : hasR l p.1 p.2 = (symAt l p).isSome := by
  cases hs : symAt l p with
  | none =>
    rcases symAt_none hs with h | h | h | ⟨a, b, ha, rfl, hb⟩
    · exact hasR_no0 (.inl h)
    · exact hasR_no0 (.inr (.inl h))
    · exact hasR_no0 (.inr (.inr h))
    · rw [hasR_at ha]; simpa using hb
  | some s =>
    obtain ⟨a, b, ha, hb, rfl, -⟩ := symAt_some hs
    rw [hasR_at ha]; simpa using hb
set_option maxRecDepth 100000 in
set_option maxHeartbeats 4000000 in
theorem ref14May_any (v v2 : Value) (l : List GObj) (ps : List GP) (w : World) (h : ObjsAt w v l) (h2 : RowAt 2 PlcR w v2 ps) :
    Calls Tryz.prog 63 #[v, v2] w fun e w' => e = .returned (.bool (mayGo l none ps && mayAllR l)) ∧ Below w.heap.size w w' := by
  have HO := Lib.hid h
  obtain ⟨p, cap, b, o, rfl, hcap, hmax, -, -⟩ := h
  obtain ⟨p2, cap2, b2, o2, rfl, hcap2, hmax2, hp2, hc2⟩ := h2
  have HP := Lib.hid hp2; clear hp2
  have HC := Lib.hid hc2; clear hc2
  go_enter Tryz.func63, Tryz.ntmps63
  go_wp2
  go_loopw [5] (fun v5 wr => ∃ k : Nat, k ≤ ps.length ∧ v5 = .int .i64 k ∧ mayGo l (prevP ps k) (ps.drop k) = mayGo l none ps ∧ Below w.heap.size w wr) (fun v5 _ => ps.length - (intOf v5).toNat)
  case atStart => exact ⟨0, Nat.zero_le _, rfl, rfl, Below.refl _ _⟩
  case round =>
    obtain ⟨k, hk, rfl, hgo, hbel⟩ := hrel
    have HGO := Lib.hid hgo; clear hgo
    have HB := Lib.hid hbel; clear hbel
    by_cases hlt : k < ps.length
    · obtain rfl := HP.out (by omega)
      obtain ⟨g0, g1, g2⟩ := plcR_keeps _ _ _ _ _ HB.out (HC.out k hlt)
      generalize hx : ps[k] = x at g1 g2
      have HX := Lib.hid hx; clear hx
      have HPR : Hid (∀ (hk1 : 0 < k), ∃ q : GP, prevP ps k = some q ∧ wr.cell? ⟨b2, o2 + (k - 1) * 2, none⟩ = some (.int .i64 q.1) ∧ wr.cell? ⟨b2, o2 + (k - 1) * 2 + 1, none⟩ = some (.int .i64 q.2)) := fun hk1 => by
        obtain ⟨-, e1, e2⟩ := plcR_keeps _ _ _ _ _ HB.out (HC.out (k - 1) (by omega))
        exact ⟨_, by simp [prevP, show ¬ k = 0 by omega, List.getElem?_eq_getElem (show k - 1 < ps.length by omega)], e1, e2⟩
      have HCON := Lib.hid (has_any _ l x.1 x.2 wr (ObjsAt.keep HB.out HO.out))
      rw [hasR_symAt l x] at HCON
      obtain ⟨x1, x2⟩ := x
      simp only [] at g1 g2 HCON
      cases hs : symAt l (x1, x2) with
      | none =>
        rw [hs] at HCON
        have HF := Lib.hid (mayGo_no hlt HX.out HGO.out (.inl (by rw [hs]; rfl)))
        clear hs
        go_wp2_with (go_at_call 27; refine HCON.out.mono ?_; rintro e w2 ⟨rfl, hB2⟩)
        go_ret
        exact ⟨ret_bool (by rw [← HF.out]; rfl), HB.out.trans (hB2.mono HB.out.size)⟩
      | some s =>
        rw [hs] at HCON
        have HS : Hid ((symAt l (x1, x2)).isSome = true) := by rw [Hid, hs]; rfl
        clear hs
        go_wp2_with fail
        refine HCON.out.mono ?_
        rintro e w2 ⟨rfl, hB2⟩
        replace g1 := cell_keep hB2 g0 g1
        replace g2 := cell_keep hB2 g0 g2
        have HB2 := Lib.hid (HB.out.trans (hB2.mono HB.out.size))
        by_cases hk0 : k = 0
        · subst hk0
          have HST := Lib.hid (mayGo_yes hlt HX.out HGO.out HS.out (fun q hq => by simp [prevP] at hq))
          clear hB2
          go_wp2
          go_quiet (fail)
          rename_i nq
          go_wp2
          go_roundw
          case rel => exact ⟨0 + 1, by omega, by go_num, HST.out, below_drewN HB2.out nq⟩
          case measure => simp [intOf]; omega
        · obtain ⟨q, hq, e1, e2⟩ := HPR.out (by omega)
          replace e1 := cell_keep hB2 g0 e1
          replace e2 := cell_keep hB2 g0 e2
          obtain ⟨q1, q2⟩ := q
          have HQ := Lib.hid hq; clear hq hB2
          obtain ⟨k', rfl⟩ : ∃ k', k = k' + 1 := ⟨k - 1, by omega⟩
          simp only [Nat.add_sub_cancel] at e1 e2
          have dk : decide ((0 : Int) < ((k' + 1 : Nat) : Int)) = true := by simp
          have hs1 : ((k' : Int) + 1) - 1 = (k' : Int) := by omega
          have b1 : (k' : Int) < (ps.length : Int) := by omega
          have hbad : ∀ (hb : x1 < q1 ∨ (x1 = q1 ∧ x2 ≤ q2)), Hid (false = mayGo l none ps) := fun hb => mayGo_no hlt HX.out HGO.out (.inr ⟨_, HQ.out, by
            rcases hb with hb | ⟨hb, hb2⟩
            · simp [ordP, hb]
            · simp [ordP, hb, hb2]⟩)
          have hgood : ∀ (hb : ¬ x1 < q1) (hb2 : ¬ (x1 = q1 ∧ x2 ≤ q2)), Hid (mayGo l (prevP ps (k' + 1 + 1)) (ps.drop (k' + 1 + 1)) = mayGo l none ps) := fun hb hb2 => mayGo_yes hlt HX.out HGO.out HS.out (fun q hq => by
            rw [HQ.out] at hq; cases hq
            simp only [ordP, hb, decide_false, Bool.false_or, Bool.not_eq_true', Bool.and_eq_false_iff, decide_eq_false_iff_not]
            by_cases c2 : x1 = q1
            · exact .inr (fun h => hb2 ⟨c2, h⟩)
            · exact .inl c2)
          by_cases c1 : x1 < q1
          · have d1 : decide (x1 < q1) = true := by simpa using c1
            have HF := hbad (.inl c1)
            clear hbad hgood
            go_wp2
            go_quiet (fail)
            rename_i nq
            go_wp2
            go_ret
            exact ⟨ret_bool (by rw [← HF.out]; rfl), below_drewN HB2.out nq⟩
          · have d1 : decide (x1 < q1) = false := by simpa using c1
            by_cases c2 : x1 = q1
            · have d2 : decide (x1 = q1) = true := by simpa using c2
              by_cases c3 : x2 ≤ q2
              · have d3 : decide (x2 ≤ q2) = true := by simpa using c3
                have HF := hbad (.inr ⟨c2, c3⟩)
                clear hbad hgood
                subst c2
                go_wp2
                go_quiet (fail)
                rename_i nq
                go_wp2
                go_ret
                exact ⟨ret_bool (by rw [← HF.out]; rfl), below_drewN HB2.out nq⟩
              · have d3 : decide (x2 ≤ q2) = false := by simpa using c3
                have HST := hgood c1 (fun h => c3 h.2)
                clear hbad hgood
                subst c2
                go_wp2
                go_quiet (fail)
                rename_i nq
                go_wp2
                go_roundw
                case rel => exact ⟨k' + 1 + 1, by omega, by go_num, HST.out, below_drewN HB2.out nq⟩
                case measure => simp [intOf]; omega
            · have d2 : decide (x1 = q1) = false := by simpa using c2
              have d2' : (x1 == q1) = false := by simpa using c2
              have HST := hgood c1 (fun h => c2 h.1)
              clear hbad hgood
              go_wp2
              go_quiet (fail)
              rename_i nq
              go_wp2
              go_roundw
              case rel => exact ⟨k' + 1 + 1, by omega, by go_num, HST.out, below_drewN HB2.out nq⟩
              case measure => simp [intOf]; omega
    · have hgo := HGO.out
      rw [List.drop_of_length_le (by omega), mayGo] at hgo
      have HF := Lib.hid hgo
      have HCON := Lib.hid (ref12May_any _ l wr (ObjsAt.keep HB.out HO.out))
      clear hgo HGO
      go_wp2_with (go_at_call 161; refine HCON.out.mono ?_; rintro e w2 ⟨rfl, hB2⟩)
      go_ret
      exact ⟨ret_bool (by rw [← HF.out]; rfl), HB.out.trans (hB2.mono HB.out.size)⟩
end Go.Proofs.YtdjgkmpjhpnkeaaGreatDoor
namespace Go.Proofs.YtdjgkmpjhpnkeaaGreatDoor
open Go.RowKit Go.Maps Go.WideMaps
def AtPost (w : World) (r : GP × Int × Bool) (e : Ending) (w' : World) : Prop := e = .returned (.tuple #[.agg #[.int .i64 r.1.1, .int .i64 r.1.2], .int .u32 r.2.1, .bool r.2.2]) ∧ Below w.heap.size w w'
set_option maxRecDepth 100000 in
set_option maxHeartbeats 2000000 in
theorem layAt_any (v v2 : Value) (l : List GObj) (wh : List GAddr) (addr : Int) (w : World) (h : ObjsAt w v l) (h2 : RowAt 3 AddrR w v2 wh) (ha : 0 ≤ addr) (ha1 : addr ≤ 4294967295) :
    Calls Tryz.prog 25 #[v, v2, .int .u32 addr] w (AtPost w (layAt l wh addr)) := by
  have HO := Lib.hid h
  obtain ⟨p, cap, b, o, rfl, hcap, hmax, -, -⟩ := h
  obtain ⟨p2, cap2, b2, o2, rfl, hcap2, hmax2, hp2, hc2⟩ := h2
  have HP := Lib.hid hp2; clear hp2
  have HC := Lib.hid hc2; clear hc2
  go_enter Tryz.func25, Tryz.ntmps25
  go_wp2
  generalize hw0 : w.alloc (.cells #[.int .i64 0, .int .i64 0] 63) = w0
  have HB0 : Hid (Below w.heap.size w w0) := by subst hw0; exact alloc_old w _
  have hz0 : w.heap.size < w0.heap.size := by subst hw0; simp
  have HQ : Hid (w0.cell? ⟨w.heap.size, 0, none⟩ = some (.int .i64 0) ∧ w0.cell? ⟨w.heap.size, 1, none⟩ = some (.int .i64 0) ∧ w0.frozen? ⟨w.heap.size, 0, none⟩ = false ∧ w0.frozen? ⟨w.heap.size, 1, none⟩ = false) := by
    subst hw0; refine ⟨?_, ?_, ?_, ?_⟩ <;> simp [go_sem]
  clear hw0
  go_loopw [15] (fun v15 wr => ∃ k : Nat, k ≤ wh.length ∧ v15 = .int .i64 k ∧ (wh.take k).all (fun x => !atHit l addr x) = true ∧ Below w0.heap.size w0 wr) (fun v15 _ => wh.length - (intOf v15).toNat)
  case atStart => exact ⟨0, Nat.zero_le _, rfl, rfl, Below.refl _ _⟩
  case round =>
    obtain ⟨k, hk, rfl, hall, hbel⟩ := hrel
    have HA := Lib.hid hall; clear hall
    have HB := Lib.hid hbel; clear hbel
    have HW : Hid (Below w.heap.size w wr) := HB0.out.trans (HB.out.mono HB0.out.size)
    have r0 := cell_keep HB.out hz0 HQ.out.1
    have r1 := cell_keep HB.out hz0 HQ.out.2.1
    have f0 : wr.frozen? ⟨w.heap.size, 0, none⟩ = false := by rw [HB.out.frozen hz0]; exact HQ.out.2.2.1
    have f1 : wr.frozen? ⟨w.heap.size, 1, none⟩ = false := by rw [HB.out.frozen hz0]; exact HQ.out.2.2.2
    have zr : w.heap.size < wr.heap.size := size_keep HB.out hz0
    by_cases hlt : k < wh.length
    · obtain rfl := HP.out (by omega)
      obtain ⟨g0, g1, g2, g3, g4, g5⟩ := addrR_keeps _ _ _ _ _ HW.out (HC.out k hlt)
      generalize hx : wh[k] = x at g1 g2 g3 g4 g5
      have HX := Lib.hid hx; clear hx
      obtain ⟨x1, x2, x3⟩ := x
      simp only [] at g1 g2 g3 g4 g5
      have HCON := Lib.hid (laySym_any _ l (x1, x2) (wr.alloc (.cells #[.int .i64 x1, .int .i64 x2, .int .u32 x3] 133)) (ObjsAt.keep (HW.out.alloc HW.out.size _) HO.out))
      simp only [] at HCON
      go_wp2_with fail
      refine HCON.out.mono ?_
      clear HCON
      rintro en w4 ⟨hsp, hB4⟩
      have k0 : w4.cell? ⟨wr.heap.size, 0, none⟩ = some (.int .i64 x1) := by rw [hB4.cell (by simp)]; simp [go_sem]
      have k1 : w4.cell? ⟨wr.heap.size, 1, none⟩ = some (.int .i64 x2) := by rw [hB4.cell (by simp)]; simp [go_sem]
      have k2 : w4.cell? ⟨wr.heap.size, 2, none⟩ = some (.int .u32 x3) := by rw [hB4.cell (by simp)]; simp [go_sem]
      have z4 : wr.heap.size < w4.heap.size := by have := hB4.size; simp at this; omega
      have HB4 : Hid (Below wr.heap.size wr w4) := (alloc_old wr _).trans (hB4.mono (by simp))
      replace r0 := cell_keep HB4.out zr r0
      replace r1 := cell_keep HB4.out zr r1
      replace f0 : w4.frozen? ⟨w.heap.size, 0, none⟩ = false := by rw [HB4.out.frozen zr]; exact f0
      replace f1 : w4.frozen? ⟨w.heap.size, 1, none⟩ = false := by rw [HB4.out.frozen zr]; exact f1
      clear hB4 g1 g2 g3
      have z04 : w.heap.size < w4.heap.size := by omega
      cases hs : symAt l (x1, x2) with
      | none =>
        rw [hs] at hsp
        simp only [] at hsp
        subst hsp
        have HNH : Hid (atHit l addr ⟨x1, x2, x3⟩ = false) := by simp [Hid, atHit, hs]
        have HST := Lib.hid (take_all_snoc hlt HX.out HA.out (show (!atHit l addr ⟨x1, x2, x3⟩) = true by rw [HNH.out]; rfl))
        clear hs
        go_wp2
        go_roundw
        case rel => exact ⟨k + 1, by omega, by go_num, HST.out, (HB.out.trans (HB4.out.mono HB.out.size)).alloc (Nat.le_trans HB.out.size HB4.out.size) _⟩
        case measure => simp [intOf]; omega
      | some s =>
        rw [hs] at hsp
        obtain ⟨vr, vn, rfl, hin⟩ := hsp
        obtain ⟨p1, q1, p3, q3, rfl, rfl⟩ := hin.shape
        have hsz := hin.2.2.2.2.1
        clear hin
        have HHIT : Hid (atHit l addr ⟨x1, x2, x3⟩ = (decide (x3 ≤ addr) && decide (addr - x3 < s.size))) := by simp [Hid, atHit, hs]
        obtain ⟨yn, yb, yk, ys, yy, yr, yt⟩ := s
        simp only [symV] at HHIT hsz ⊢
        clear hs
        by_cases c1 : x3 ≤ addr
        · have d1 : decide (x3 ≤ addr) = true := by simpa using c1
          by_cases c2 : addr - x3 < ys
          · have d2 : decide (addr - x3 < ys) = true := by simpa using c2
            have HF : Hid (layAt l wh addr = ((x1, x2), addr - x3, true)) := by
              have h1 : wh.find? (atHit l addr) = some ⟨x1, x2, x3⟩ := by
                rw [List.find?_eq_some_iff_getElem]
                refine ⟨by rw [HHIT.out, d1, d2]; rfl, k, hlt, HX.out, fun j hj => ?_⟩
                have := List.all_eq_true.1 HA.out (wh[j]'(by omega)) (List.mem_iff_getElem.2 ⟨j, by simp; omega, by simp⟩)
                simpa using this
              unfold layAt; rw [Hid, h1]
            go_wp2
            go_region
            all_goals
              go_wp2
              refine bodyPost_ret (v := .tuple #[.agg #[.int .i64 x1, .int .i64 x2], .int .u32 (addr - x3), .bool true]) (by simp [results, Tryz.results25, go_sem, *]) rfl ?_
              rw [HF.out]
              exact ⟨rfl, ((((HW.out.trans (HB4.out.mono HW.out.size)).setCell (by simp) _).setCell (by simp) _).alloc (by simp; omega) _).drew⟩
          · have d2 : decide (addr - x3 < ys) = false := by simpa using c2
            have HST := Lib.hid (take_all_snoc hlt HX.out HA.out (show (!atHit l addr ⟨x1, x2, x3⟩) = true by rw [HHIT.out, d2]; simp))
            go_wp2
            go_roundw
            case rel => exact ⟨k + 1, by omega, by go_num, HST.out, (HB.out.trans (HB4.out.mono HB.out.size)).alloc (Nat.le_trans HB.out.size HB4.out.size) _⟩
            case measure => simp [intOf]; omega
        · have d1 : decide (x3 ≤ addr) = false := by simpa using c1
          have HST := Lib.hid (take_all_snoc hlt HX.out HA.out (show (!atHit l addr ⟨x1, x2, x3⟩) = true by rw [HHIT.out, d1]; simp))
          go_wp2
          go_roundw
          case rel => exact ⟨k + 1, by omega, by go_num, HST.out, (HB.out.trans (HB4.out.mono HB.out.size)).alloc (Nat.le_trans HB.out.size HB4.out.size) _⟩
          case measure => simp [intOf]; omega
    · have HF : Hid (layAt l wh addr = ((0, 0), 0, false)) := by
        have h1 := (findIdxA_none (all_end hlt HA.out)).2
        unfold layAt; rw [Hid, h1]
      go_wp2
      refine bodyPost_ret (v := .tuple #[.agg #[.int .i64 0, .int .i64 0], .int .u32 0, .bool false]) (by simp [results, Tryz.results25, go_sem, *]) rfl ?_
      rw [HF.out]
      exact ⟨rfl, (HW.out.setCell (by simp) _).setCell (by simp) _⟩
end Go.Proofs.YtdjgkmpjhpnkeaaGreatDoor
