/- The walk of reloc.Fill. Rows of one's own: shapes, blocks, types. No program in sight. A row of integers of one's own under slices.Sort and slices.Compact. No program in sight but its types. A region that only reads, and whose callees make memory but change nothing that was there: one walk in the order of the text. No program in sight. The walks of slices.Contains and slices.ContainsFunc at places, and of link's closure. The walk of link's fill. -/
import Derived.Test.YtdjgkmpjhpnkeaaGreatDoorBd08
import Derived.WalkKit
import Derived.OwnWalk
import Derived.Test.YtdjgkmpjhpnkeaaGreatDoorBd05
import Derived.Lib.Builder
import Derived.Lib.SlicesCompact
import Derived.Sort.Row
import Derived.Sort.Walk13
import Derived.Deep.QuietTactic
import Derived.BigQuiet
import Derived.Test.YtdjgkmpjhpnkeaaGreatDoorBd06
import Derived.Test.YtdjgkmpjhpnkeaaGreatDoorBd07
import Derived.Test.YtdjgkmpjhpnkeaaGreatDoorBd04
import Derived.Deep.RegionHeld3
import Derived.Deep.DeepCutAuto
namespace Go.Proofs.YtdjgkmpjhpnkeaaGreatDoor
open Go.RowKit
def NumR (w : World) (b o : Nat) (x : Int) : Prop := b < w.heap.size ∧ w.cell? ⟨b, o, none⟩ = some (.int .u32 x) ∧ 0 ≤ x ∧ x ≤ 4294967295
theorem numR_keeps : Keeps NumR := fun _ _ _ _ _ hb ⟨h0, h1, r⟩ => ⟨size_keep hb h0, cell_keep hb h0 h1, r⟩
set_option maxHeartbeats 2000000 in
set_option maxRecDepth 100000 in
theorem fill_any (s : GSym) (vr vn av : Value) (addrs : List Int) (w : World) (h : SymIn w s vr vn) (hb : s.bytes.size < 4294967296) (ha : RowAt 1 NumR w av addrs) :
    Calls Tryz.prog 229 #[.agg #[.string s.name, .int .u8 s.bind, .int .u8 s.kind, .int .u32 s.size, .string s.bytes, vr, vn], av] w fun e w' =>
      e = .returned (.tuple #[.string (fillR s addrs).1, .int .i64 (fillR s addrs).2]) ∧ Below w.heap.size w w' := by
  have HX := Lib.hid (begin15_any s vr vn _ (SymIn.keep (alloc_old w (.cells #[.string s.name, .int .u8 s.bind, .int .u8 s.kind, .int .u32 s.size, .string s.bytes, vr, vn] 72)) h) hb)
  have HS := Lib.hid h
  have HA := Lib.hid ha
  obtain ⟨pa, ca, ba, oa, rfl, -, hamax, -, -⟩ := ha
  obtain ⟨p1, q1, p2, q2, rfl, rfl⟩ := h.shape
  clear h
  have HB0 : Hid (Below w.heap.size w (w.alloc (.cells #[.string s.name, .int .u8 s.bind, .int .u8 s.kind, .int .u32 s.size, .string s.bytes, .slice p1 s.rels.length q1, .slice p2 s.notes.length q2] 72))) := alloc_old w _
  go_enter Tryz.func229, Tryz.ntmps229
  go_wp2_with fail
  refine HX.out.mono ?_
  rintro e w1 ⟨hB, ⟨hs, rfl⟩ | ⟨hs, fb, gb, rfl, hst⟩⟩
  · go_wp2
    go_ret2
    rw [fillR_bad hs]
    exact ⟨rfl, HB0.out.trans (hB.mono (by simp))⟩
  · have HB1 : Hid (Below w.heap.size w w1) := HB0.out.trans (hB.mono (by simp))
    have HFS : Hid (FillSt w1 w.heap.size fb gb s (.slice p1 s.rels.length q1) (.slice p2 s.notes.length q2) (bytes0 s)) := ⟨hst.bx, hst.row, by have := hst.fle; simp at this; omega, by have := hst.gle; simp at this; omega, hst.ne⟩
    clear hst hB HX HB0
    obtain ⟨hfb, hc5, hc7, hfz⟩ := HFS.out.fbox
    by_cases hlen : addrs.length = s.rels.length
    · have HY := Lib.hid (fillR_yes hs hlen)
      obtain ⟨f1, f2, f3, f4, f5⟩ := symOk_fits hs hb
      have HZL := Lib.hid (bytes0_length f1)
      have HF5 := Lib.hid f5; clear f5
      clear hs
      generalize bytes0 s = bz at HY HFS HZL hc7
      have hd : (addrs.length != s.rels.length) = false := by simpa using hlen
      go_wp2
      go_loopw [36] (fun v0 wr => ∃ (k : Nat) (b : BL), v0 = .int .i64 k ∧ k ≤ s.rels.length ∧ b.length = bz.length ∧ FillSt wr w.heap.size fb gb s (.slice p1 s.rels.length q1) (.slice p2 s.notes.length q2) b ∧ fillL b (s.rels.drop k) (addrs.drop k) = fillL bz s.rels addrs ∧ Below w.heap.size w wr) (fun v0 _ => s.rels.length - (intOf v0).toNat)
      case atStart => exact ⟨0, bz, by go_num, Nat.zero_le _, rfl, HFS.out, by simp, HB1.out⟩
      case round =>
        obtain ⟨k, b, rfl, hk, hbl, hst, hgo, hB⟩ := hrel
        have HG := Lib.hid hgo; clear hgo
        have HBL := Lib.hid hbl; clear hbl
        have HB : Hid (Below w.heap.size w wr) := hB; clear hB
        have HST := Lib.hid hst; clear hst
        obtain ⟨hfb2, hr5, hr7, hrz⟩ := HST.out.fbox
        by_cases hlt : k < s.rels.length
        · have HR := Lib.hid (HS.out.keep HB.out).1
          have HAk := Lib.hid (HA.out.keep numR_keeps HB.out)
          obtain ⟨p1', q1', br, orr, he1, -, -, hp1, hcells⟩ := HR.out
          cases he1
          obtain rfl := hp1 (by omega)
          obtain ⟨pa', ca', bra, ora, he2, -, -, hp2, hcells2⟩ := HAk.out
          cases he2
          obtain rfl := hp2 (by omega)
          obtain ⟨r0, r1, r2, r3, r4, r5, r6, r7, r8⟩ := hcells k hlt
          have hlta : k < addrs.length := by omega
          obtain ⟨a0, a1, a2, a3⟩ := hcells2 k hlta
          have HSTEP := Lib.hid (fillL_step (b := b) hlt hlta rfl rfl)
          obtain ⟨x1, x2, x3⟩ := HF5.out s.rels[k] (List.getElem_mem hlt)
          clear hcells hcells2 hp1 hp2
          generalize s.rels[k] = x at r0 r1 r2 r3 r4 r5 r6 r7 r8 HSTEP x1 x2 x3
          generalize addrs[k] = av at a0 a1 a2 a3 HSTEP
          obtain ⟨xo, xk, xn, xa⟩ := x
          simp only [] at r0 r1 r2 r3 r4 r5 r6 r7 r8 HSTEP x1 x2 x3
          obtain ⟨o, rfl⟩ : ∃ o : Nat, xo = o := ⟨xo.toNat, by omega⟩
          rw [HG.out] at HSTEP
          have hwv : IntKind.u32.wrap (av + xa) = fillV ⟨o, xk, xn, xa⟩ av := by rw [IntKind.wrap_u32]; rfl
          have hv0 : 0 ≤ fillV ⟨o, xk, xn, xa⟩ av := by unfold fillV; omega
          have hv1 : fillV ⟨o, xk, xn, xa⟩ av ≤ 4294967295 := by unfold fillV; omega
          generalize fillV ⟨o, xk, xn, xa⟩ av = fv at hwv hv0 hv1 HSTEP
          have HBx : Hid (Below wr.heap.size wr (wr.alloc (.cells #[.int .u32 (o : Int), .int .u8 xk, .string xn, .int .u32 xa] 211))) := alloc_old wr _
          rw [Nat.mul_one] at a1
          have a1' := cell_keep HBx.out a0 a1
          have HSTx := Lib.hid (HST.out.keep HBx.out)
          by_cases hov : xk = 2 ∧ 65536 ≤ fv
          · obtain ⟨rfl, hv5⟩ := hov
            rw [if_pos ⟨rfl, hv5⟩] at HSTEP
            have hfit : o + 2 ≤ b.length := by have := HZL.out; have := HBL.out; simp only [widthOf] at x3; simp at x3; omega
            have hbl8 : b.length ≤ 8192 := by have := HZL.out; have := HBL.out; omega
            go_wp2_with fail
            go_region_with ((go_at_call 280; refine (put15_over w.heap.size fb gb s _ _ b o xn xa fv _ (FillSt.keep HSTx.out (by go_grown)) hfit hbl8 hv5 hv1).mono ?_; rintro e w3 ⟨rfl, hB3⟩))
            all_goals
              go_wp2_with fail
              go_ret2
              rw [HY.out, HSTEP.out]
              exact ⟨rfl, HB.out.trans ((HBx.out.drew.trans (hB3.mono (by simp))).mono HB.out.size)⟩
          · rw [if_neg hov] at HSTEP
            obtain ⟨wd, hwd, hk2, hfit⟩ : ∃ wd : Nat, (widthOf xk).toNat = wd ∧ ((xk = 1 ∧ wd = 4) ∨ (xk = 2 ∧ wd = 2 ∧ fv < 65536)) ∧ o + wd ≤ b.length := by
              have := HZL.out; have := HBL.out
              rcases x1 with rfl | rfl
              · refine ⟨4, rfl, .inl ⟨rfl, rfl⟩, ?_⟩
                simp only [widthOf] at x3; simp at x3; omega
              · refine ⟨2, rfl, .inr ⟨rfl, rfl, by omega⟩, ?_⟩
                simp only [widthOf] at x3; simp at x3; omega
            rw [hwd] at HSTEP
            simp only [Int.toNat_natCast] at HSTEP
            have hbl8 : b.length ≤ 8192 := by have := HZL.out; have := HBL.out; omega
            have HPL := Lib.hid (putB_length (b := b) (s := leB wd fv) (o := o) (by simp [leB_length]; omega))
            clear hov hwd x1 x2 x3
            go_wp2_with fail
            go_region_with ((go_at_call 280; refine (put15_any w.heap.size fb gb s _ _ b o xk xn xa wd fv _ (FillSt.keep HSTx.out (by go_grown)) hk2 hfit hbl8 hv0 hv1).mono ?_; rintro e w3 ⟨rfl, hB3, hF3⟩))
            all_goals
              go_wp2_with fail
              go_roundw
              case rel => exact ⟨k + 1, _, by go_num, by omega, HPL.out.trans HBL.out, hF3, HSTEP.out.symm, HB.out.trans ((HBx.out.drew.mono HB.out.size).trans hB3)⟩
              case measure => simp [intOf]; omega
        · have hcv := run_bytes_of_row HST.out.row 130 9 5 0 b.length b.length Tryz.underlying130 Tryz.underlying5 Tryz.underlying9 (by omega)
          rw [List.drop_zero, List.take_length] at hcv
          have HE := Lib.hid (fillL_end (addrs := addrs) (b := b) hlt)
          go_wp2
          go_ret2
          rw [HY.out, ← HG.out, HE.out]
          exact ⟨rfl, HB.out⟩
    · have hd : (addrs.length != s.rels.length) = true := by simpa using hlen
      go_wp2
      go_ret2
      rw [fillR_len hlen]
      exact ⟨rfl, HB1.out⟩
end Go.Proofs.YtdjgkmpjhpnkeaaGreatDoor
namespace Go.Proofs.YtdjgkmpjhpnkeaaGreatDoor
open Go.RowKit
theorem owns_setCell {w : World} {base : Nat} {e : TypeId} {k : Nat} {v : Value} {n : Nat} {xs : List Value} (h : w.ownsRow base e k v n xs) {a : Addr} (ha : a.block < base) (u : Value) : (w.setCell a u).ownsRow base e k v n xs := by
  refine ⟨h.1, ?_⟩
  rcases h.2 with hn | ⟨g, cap, cur, rfl, hb, hg, rest⟩
  · exact .inl hn
  · exact .inr ⟨g, cap, cur, rfl, hb, by rw [Below.heap_setCell w a u g (by omega)]; exact hg, rest⟩
theorem owns_mono {w : World} {base base' : Nat} {e : TypeId} {k : Nat} {v : Value} {n : Nat} {xs : List Value} (h : w.ownsRow base e k v n xs) (hb : base' ≤ base) : w.ownsRow base' e k v n xs := by
  refine ⟨h.1, ?_⟩
  rcases h.2 with hn | ⟨g, cap, cur, rfl, hg, rest⟩
  · exact .inl hn
  · exact .inr ⟨g, cap, cur, rfl, by omega, rest⟩
theorem own_away {w w' : World} {base base' : Nat} {e e' : TypeId} {k k' : Nat} {v v' : Value} {n n' : Nat} {xs xs' : List Value} (h : w.ownsRow base e k v n xs) (h' : w'.ownsRow base' e' k' v' n' xs') (hb : w'.heap.size ≤ base) : v.ownBlock = none ∨ v.ownBlock ≠ v'.ownBlock := by
  cases hv : v.ownBlock with
  | none => exact .inl rfl
  | some g =>
    refine .inr fun h1 => ?_
    have h2 := (h.lt g hv).1
    have h3 := (h'.lt g h1.symm).2
    omega
theorem own_shape {w : World} {base : Nat} {e : TypeId} {k : Nat} {v : Value} {n : Nat} {xs : List Value} (h : w.ownsRow base e k v n xs) : ∃ p c, v = .slice p n c := by
  rcases h.2 with ⟨rfl, rfl⟩ | ⟨g, cap, cur, rfl, -⟩
  · exact ⟨_, _, rfl⟩
  · exact ⟨_, _, rfl⟩
theorem own_type {w : World} {B : Nat} {e : TypeId} {k n : Nat} {v : Value} {xs : List Value} (h : w.ownsRow B e k v n xs) {g : Nat} (hg : v.ownBlock = some g) : ∃ cur, w.heap[g]? = some (.cells cur e (0, 0)) := by
  rcases h.2 with ⟨rfl, -⟩ | ⟨g', cap, cur, rfl, -, h1, -⟩
  · cases hg
  · cases hg; exact ⟨cur, h1⟩
theorem own_ne {w : World} {B B' : Nat} {e e' : TypeId} {k k' n n' : Nat} {v v' : Value} {xs xs' : List Value} (h : w.ownsRow B e k v n xs) (h' : w.ownsRow B' e' k' v' n' xs') (hne : e ≠ e') {g : Nat} (hg : v.ownBlock = some g) (hg' : v'.ownBlock = some g) : False := by
  obtain ⟨cur, h1⟩ := own_type h hg
  obtain ⟨cur', h2⟩ := own_type h' hg'
  rw [h1] at h2
  injection h2 with h2; injection h2 with _ h3 _; exact hne h3
theorem own_ne_box {w : World} {B : Nat} {e t : TypeId} {k n g : Nat} {v : Value} {xs : List Value} {cs : Array Value} (h : w.ownsRow B e k v n xs) (hb : w.heap[g]? = some (.cells cs t (0, 0))) (hne : e ≠ t) : v.ownBlock ≠ some g := fun hg => by
  obtain ⟨cur, h1⟩ := own_type h hg
  rw [h1] at hb
  injection hb with h2; injection h2 with _ h3 _; exact hne h3
end Go.Proofs.YtdjgkmpjhpnkeaaGreatDoor
namespace Go.Proofs.YtdjgkmpjhpnkeaaGreatDoor
open Go.RowKit Go.Sort Go.Lib
variable {K : IntKind} {e : TypeId}
def cellsU (K : IntKind) (l : List Int) : List Value := l.map (.int K)
def URow (K : IntKind) (e : TypeId) (base : Nat) (w : World) (v : Value) (l : List Int) : Prop := w.ownsRow base e 1 v l.length (cellsU K l)
theorem cellsU_length (l : List Int) : (cellsU K l).length = l.length := by simp [cellsU]
theorem URow.holds {base : Nat} {w : World} {l : List Int} {g cap : Nat} (h : URow K e base w (.slice (some ⟨g, 0, none⟩) l.length cap) l) : Holds (Value.int K) w g 0 l.toArray := by
  intro j hj
  have hj' : j < l.length := by simpa using hj
  have h1 : (cellsU K l)[j]? = some (.int K l[j]) := by simp [cellsU, hj']
  have h2 := World.ownsRow.cells h (g := g) rfl j _ h1
  rw [show ((⟨g, 0, none⟩ : Addr).add j) = ⟨g, j, none⟩ by unfold Addr.add; by_cases hz : j = 0 <;> simp [hz]] at h2
  refine ⟨by rw [Nat.zero_add]; simpa [hj'] using h2, ?_⟩
  rcases h.2 with ⟨h3, -⟩ | ⟨g', cap', cur, h3, -, h4, -⟩
  · cases h3
  · cases h3; exact Lib.frozen_of_heap h4 _
theorem putRow_block {w : World} {g n : Nat} {D : Array Int} {os : Array Obj} {cur : Array Value} (h : w.heap[g]? = some (.cells cur e (0, 0))) :
    (grow (putRow (Value.int K) (Sort.ahead w n) g 0 D) os).heap[g]? = some (.cells (putCells (Value.int K) 0 D cur) e (0, 0)) := by
  have hlt := (Array.getElem?_eq_some_iff.1 h).1
  unfold putRow grow mapBlock Sort.ahead
  rw [Array.getElem?_append_left (by simpa using hlt), Array.getElem?_modify]
  simp only [if_true]
  rw [h]
  rfl
theorem putRow_far {w : World} {g n : Nat} {D : Array Int} {os : Array Obj} {k : Nat} (hk : k < w.heap.size) (hne : k ≠ g) : (grow (putRow (Value.int K) (Sort.ahead w n) g 0 D) os).heap[k]? = w.heap[k]? := by
  unfold putRow grow mapBlock Sort.ahead
  rw [Array.getElem?_append_left (by simpa using hk), Array.getElem?_modify, if_neg (fun e => hne e.symm)]
theorem putRow_size {w : World} {g n : Nat} {D : Array Int} {os : Array Obj} : w.heap.size ≤ (grow (putRow (Value.int K) (Sort.ahead w n) g 0 D) os).heap.size := by
  unfold putRow grow mapBlock Sort.ahead
  simp
/-- the row behind the writing: its first part -/
theorem URow.put {base : Nat} {w : World} {l D l' : List Int} {g cap n : Nat} {os : Array Obj} (h : URow K e base w (.slice (some ⟨g, 0, none⟩) l.length cap) l) (hD : D.length = l.length) (hl : l' = D.take l'.length) :
    URow K e base (grow (putRow (Value.int K) (Sort.ahead w n) g 0 D.toArray) os) (.slice (some ⟨g, 0, none⟩) l'.length cap) l' := by
  have hle : l'.length ≤ D.length := by
    have := congrArg List.length hl
    rw [List.length_take] at this; omega
  refine ⟨by rw [cellsU_length]; omega, ?_⟩
  rcases h.2 with ⟨h3, -⟩ | ⟨g', cap', cur, h3, hb, h4, h5, h6, h7, h8⟩
  · cases h3
  · cases h3
    refine .inr ⟨g, cap, putCells (Value.int K) 0 D.toArray cur, rfl, hb, putRow_block h4, by omega, h6, by simp [putCells, h7], ?_⟩
    apply List.ext_getElem?
    intro t
    by_cases ht : t < l'.length
    · have hc : t < cur.size := by omega
      have ht2 : t < D.length := by omega
      have e1 : l'[t]? = some D[t] := by rw [hl, List.getElem?_take, if_pos (by omega)]; simp [ht2]
      rw [List.getElem?_take, if_pos (by omega)]
      simp [putCells, hc, cellsU, e1, ht2]
    · rw [List.getElem?_eq_none (by simp; omega), List.getElem?_eq_none (by rw [cellsU_length]; omega)]
theorem putRow_kb {w : World} {g n : Nat} {D : Array Int} {os : Array Obj} {cap m : Nat} : KB (fun k => (Value.slice (some ⟨g, 0, none⟩) m cap).ownBlock = some k) w (grow (putRow (Value.int K) (Sort.ahead w n) g 0 D) os) :=
  ⟨rfl, rfl, rfl, putRow_size, fun k hk hne => putRow_far hk fun e => hne (by rw [e]; rfl)⟩
end Go.Proofs.YtdjgkmpjhpnkeaaGreatDoor
namespace Go.Proofs.YtdjgkmpjhpnkeaaGreatDoor
open Go.RowKit
/-- a world that keeps all that w has -/
structure BW (w : World) where
  u : World
  b : Below w.heap.size w u
instance (w : World) : Nonempty (BW w) := ⟨⟨w, Below.refl _ _⟩⟩
instance (w : World) : Inhabited (BW w) := ⟨⟨w, Below.refl _ _⟩⟩
theorem wp_region_below {P : Program} {id : Nat} {Q : Exit → Act → World → Prop} {a : Act} {w : World} {l : List Oper} (hm : P.follows .mixedOrders = true) (hB : Region.lexB .any l.toArray = true)
    (h : wpQuiet P l.toArray (fun w' => ∃ x : BW w, w' = x.u) (fun a' => ∀ w', (∃ x : BW w, w' = x.u) → Q .normal a' w') l a) : (Code.region id l.toArray true).wp P Q a w :=
  wp_region_quiet (C := fun w' => ∃ x : BW w, w' = x.u) hm hB ⟨⟨_, (Below.refl _ _).drew⟩, rfl⟩ (by simpa using h)
/-- a callee that makes memory, in a world of the class -/
theorem calls_below {P : Program} {f : FuncId} {args : Array Value} {w : World} {v : Value} {x : BW w}
    (h : Calls P f args x.u fun e w' => e = .returned v ∧ Below x.u.heap.size x.u w') : Calls P f args x.u fun e w'' => e = .returned v ∧ ∃ y : BW w, w'' = y.u :=
  h.mono fun _ w' ⟨he, hb⟩ => ⟨he, ⟨w', x.b.trans (hb.mono x.b.size)⟩, rfl⟩
theorem bw_of {w w' : World} (h : ∃ x : BW w, w' = x.u) : Below w.heap.size w w' := by obtain ⟨x, rfl⟩ := h; exact x.b
theorem bw_cell {w : World} {b o : Nat} {v : Value} (h0 : b < w.heap.size) (h : w.cell? ⟨b, o, none⟩ = some v) : ∀ x : BW w, x.u.cell? ⟨b, o, none⟩ = some v := fun x => by
  rw [x.b.cell (p := ⟨b, o, none⟩) h0]; exact h
end Go.Proofs.YtdjgkmpjhpnkeaaGreatDoor
namespace Go.Proofs.YtdjgkmpjhpnkeaaGreatDoor
open Go.RowKit Go.Maps Go.WideMaps
def eqG (q x : GP) : Bool := decide (q.1 = x.1) && decide (q.2 = x.2)
theorem eqG_iff {q x : GP} : eqG q x = true ↔ q = x := by
  obtain ⟨a, b⟩ := q; obtain ⟨c, d⟩ := x
  simp [eqG]
def inG (ps : List GP) (q : GP) : Bool := ps.any (eqG q)
theorem inG_iff {ps : List GP} {q : GP} : inG ps q = true ↔ q ∈ ps := by
  unfold inG
  rw [List.any_eq_true]
  constructor
  · rintro ⟨x, hx, h⟩; rw [eqG_iff.1 h]; exact hx
  · intro h; exact ⟨q, h, eqG_iff.2 rfl⟩
theorem idxA_geq {α : Type} {p : α → Bool} {l : List α} : decide (0 ≤ idxA (l.findIdx? p)) = l.any p := by
  cases h : l.findIdx? p with
  | none =>
    rw [List.findIdx?_eq_none_iff] at h
    have : l.any p = false := by rw [List.any_eq_false]; intro x hx; simpa using h x hx
    rw [this]; rfl
  | some k =>
    obtain ⟨hk, hp, -⟩ := List.findIdx?_eq_some_iff_getElem.1 h
    have : l.any p = true := List.any_eq_true.2 ⟨_, List.getElem_mem hk, hp⟩
    rw [this]; simp [idxA]
set_option maxHeartbeats 400000 in
theorem indexPlc_any (v : Value) (ps : List GP) (q : GP) (w : World) (h : RowAt 2 PlcR w v ps) :
    Calls Tryz.prog 227 #[v, .agg #[.int .i64 q.1, .int .i64 q.2]] w fun e w' => e = .returned (.int .i64 (idxA (ps.findIdx? (eqG q)))) ∧ Below w.heap.size w w' := by
  obtain ⟨q1, q2⟩ := q
  simp only []
  obtain ⟨pp, cap, b, o, rfl, hcap, hmax, hp, hc⟩ := h
  have HC := Lib.hid hc; clear hc
  have HP := Lib.hid hp; clear hp
  go_enter Tryz.func227, Tryz.ntmps227
  go_wp2
  go_loopw [8] (fun i wr => ∃ k : Nat, k ≤ ps.length ∧ i = .int .i64 k ∧ (ps.take k).all (fun x => !eqG (q1, q2) x) = true ∧ Below w.heap.size w wr ∧ w.heap.size < wr.heap.size ∧ wr.cell? ⟨w.heap.size, 0, none⟩ = some (.int .i64 q1) ∧ wr.cell? ⟨w.heap.size, 1, none⟩ = some (.int .i64 q2)) (fun i _ => ps.length - (intOf i).toNat)
  case atStart => exact ⟨0, Nat.zero_le _, rfl, rfl, alloc_old w _, by simp, by simp [go_sem], by simp [go_sem]⟩
  case round =>
    obtain ⟨k, hk, rfl, hall, hbel, hz, n0, n1⟩ := hrel
    have HA := Lib.hid hall; clear hall
    have HB := Lib.hid hbel; clear hbel
    by_cases hlt : k < ps.length
    · obtain rfl := HP.out (by omega)
      obtain ⟨g0, g1, g2⟩ := plcR_keeps _ _ _ _ _ HB.out (HC.out k hlt)
      generalize hx : ps[k] = x at g1 g2
      obtain ⟨x1, x2⟩ := x
      simp only [] at g1 g2
      have HX := Lib.hid hx; clear hx
      by_cases e1 : q1 = x1
      · subst e1
        by_cases e2 : q2 = x2
        · subst e2
          have hyes : Hid (eqG (q1, q2) (q1, q2) = true) := by rw [Hid]; simp [eqG]
          go_wp2
          go_region
          all_goals
            go_wp2_with fail
            go_ret
            exact ⟨ret_int (by rw [findIdx_some hlt HX.out hyes.out HA.out]; rfl), HB.out.drew⟩
        · have hno : Hid (eqG (q1, q2) (q1, x2) = false) := by rw [Hid]; simp [eqG, e2]
          go_wp2
          go_region
          all_goals
            go_wp2_with fail
            go_roundw
            case rel => exact ⟨k + 1, by omega, by go_num, take_all_snoc hlt HX.out HA.out (by simpa using hno.out), HB.out.drew, by simpa using hz, by simpa [go_sem] using n0, by simpa [go_sem] using n1⟩
            case measure => simp [intOf]; omega
      · have hno : Hid (eqG (q1, q2) (x1, x2) = false) := by rw [Hid]; simp [eqG, e1]
        go_wp2
        go_region
        all_goals
          go_wp2_with fail
          go_roundw
          case rel => exact ⟨k + 1, by omega, by go_num, take_all_snoc hlt HX.out HA.out (by simpa using hno.out), HB.out.drew, by simpa using hz, by simpa [go_sem] using n0, by simpa [go_sem] using n1⟩
          case measure => simp [intOf]; omega
    · go_wp2
      go_ret
      exact ⟨ret_int (by rw [findIdx_none (all_end hlt HA.out)]; rfl), HB.out⟩
set_option maxHeartbeats 400000 in
theorem containsPlc_any (v : Value) (ps : List GP) (q : GP) (w : World) (h : RowAt 2 PlcR w v ps) :
    Calls Tryz.prog 148 #[v, .agg #[.int .i64 q.1, .int .i64 q.2]] w fun e w' => e = .returned (.bool (inG ps q)) ∧ Below w.heap.size w w' := by
  have HI := Lib.hid (indexPlc_any v ps q (w.alloc (.cells #[.int .i64 q.1, .int .i64 q.2] 63)) (RowAt.keep plcR_keeps (alloc_old w _) h))
  have hE : decide (0 ≤ idxA (ps.findIdx? (eqG q))) = inG ps q := idxA_geq
  generalize idxA (ps.findIdx? (eqG q)) = n at hE HI
  have HE := Lib.hid hE; clear hE
  obtain ⟨q1, q2⟩ := q
  obtain ⟨pp, cap, b, o, rfl, -⟩ := h
  go_enter Tryz.func148, Tryz.ntmps148
  go_wp2_with (go_at_call 227; refine HI.out.mono ?_; rintro e w1 ⟨rfl, hB1⟩)
  go_ret
  exact ⟨ret_bool (by rw [← HE.out]), (alloc_old w _).trans (hB1.mono (by simp))⟩
set_option maxHeartbeats 400000 in
theorem closed1_any (q : GP) (nb xb : Nat) (v : Value) (ps : List GP) (w : World) (h : RowAt 2 PlcR w v ps) (hnb : nb < w.heap.size) (hn : w.cell? ⟨nb, 0, none⟩ = some (.pointer (some ⟨xb, 0, none⟩))) (hx : xb < w.heap.size) (hx8 : w.cell? ⟨xb, 8, none⟩ = some v) :
    Calls Tryz.prog 151 #[.agg #[.int .i64 q.1, .int .i64 q.2], .pointer (some ⟨nb, 0, none⟩)] w fun e w' => e = .returned (.bool (!inG ps q)) ∧ Below w.heap.size w w' := by
  have HCON : Hid (∀ x : BW (w.alloc (.cells #[.int .i64 q.1, .int .i64 q.2] 63)), Calls Tryz.prog 148 #[v, .agg #[.int .i64 q.1, .int .i64 q.2]] x.u fun e w' => e = .returned (.bool (inG ps q)) ∧ ∃ y : BW (w.alloc (.cells #[.int .i64 q.1, .int .i64 q.2] 63)), w' = y.u) :=
    fun x => calls_below (containsPlc_any v ps q x.u ((h.keep plcR_keeps (alloc_old w _)).keep plcR_keeps x.b))
  generalize inG ps q = bq at HCON
  obtain ⟨q1, q2⟩ := q
  obtain ⟨pp, cap, b, o, rfl, -⟩ := h
  simp only [] at *
  have hBw := alloc_old w (.cells #[.int .i64 q1, .int .i64 q2] 63)
  have n0 : (w.alloc (.cells #[.int .i64 q1, .int .i64 q2] 63)).cell? ⟨w.heap.size, 0, none⟩ = some (.int .i64 q1) := by simp [go_sem]
  have n1 : (w.alloc (.cells #[.int .i64 q1, .int .i64 q2] 63)).cell? ⟨w.heap.size, 1, none⟩ = some (.int .i64 q2) := by simp [go_sem]
  have m0 := cell_keep hBw hnb hn
  have m1 := cell_keep hBw hx hx8
  have HB0 : Hid (Below w.heap.size w (w.alloc (.cells #[.int .i64 q1, .int .i64 q2] 63))) := hBw
  have hz : (w.alloc (.cells #[.int .i64 q1, .int .i64 q2] 63)).heap.size = w.heap.size + 1 := by simp
  go_enter Tryz.func151, Tryz.ntmps151
  go_wp2
  generalize w.alloc (.cells #[.int .i64 q1, .int .i64 q2] 63) = w1 at *
  have c0 := bw_cell (by omega) n0
  have c1 := bw_cell (by omega) n1
  have c2 := bw_cell (by omega) m0
  have c3 := bw_cell (by omega) m1
  refine wp_region_below rfl (by kernel_rfl) ?_
  repeat (first | go_big_quiet_skip | quiet_step ((go_at_call 148; exact HCON.out _)))
  refine wpQuiet_nil ?_
  rintro w4 hx4; have hB4 : Below w1.heap.size w1 w4 := bw_of hx4; clear hx4
  clear c0 c1 c2 c3
  go_wp2
  go_ret
  exact ⟨rfl, HB0.out.trans (hB4.mono (by omega))⟩
def toG (p : Nat × Nat) : GP := ((p.1 : Int), (p.2 : Int))
set_option maxHeartbeats 400000 in
theorem indexFPlc_any (v : Value) (qs : List (Nat × Nat)) (pv : Value) (ps : List GP) (nb xb : Nat) (w : World) (h : RowAt 2 PlaceR w v qs) (hps : RowAt 2 PlcR w pv ps) (hnb : nb < w.heap.size) (hn : w.cell? ⟨nb, 0, none⟩ = some (.pointer (some ⟨xb, 0, none⟩))) (hx : xb < w.heap.size) (hx8 : w.cell? ⟨xb, 8, none⟩ = some pv) :
    Calls Tryz.prog 228 #[v, .func (.func 151) #[] #[.pointer (some ⟨nb, 0, none⟩)]] w fun e w' => e = .returned (.int .i64 (idxA (qs.findIdx? (fun q => !inG ps (toG q))))) ∧ Below w.heap.size w w' := by
  obtain ⟨pp, cap, b, o, rfl, hcap, hmax, hp, hc⟩ := h
  have HC := Lib.hid hc; clear hc
  have HP := Lib.hid hp; clear hp
  have HPS := Lib.hid hps; clear hps
  have HN := Lib.hid hn; clear hn
  have HX8 := Lib.hid hx8; clear hx8
  go_enter Tryz.func228, Tryz.ntmps228
  go_wp2
  go_loopw [8] (fun i wr => ∃ k : Nat, k ≤ qs.length ∧ i = .int .i64 k ∧ (qs.take k).all (fun q => !(!inG ps (toG q))) = true ∧ Below w.heap.size w wr) (fun i _ => qs.length - (intOf i).toNat)
  case atStart => exact ⟨0, Nat.zero_le _, rfl, rfl, Below.refl _ _⟩
  case round =>
    obtain ⟨k, hk, rfl, hall, hbel⟩ := hrel
    have HA := Lib.hid hall; clear hall
    have HB := Lib.hid hbel; clear hbel
    by_cases hlt : k < qs.length
    · obtain rfl := HP.out (by omega)
      obtain ⟨g0, g1, g2⟩ := placeR_keeps _ _ _ _ _ HB.out (HC.out k hlt)
      have HCON := Lib.hid (closed1_any (toG qs[k]) nb xb pv ps wr (HPS.out.keep plcR_keeps HB.out) (size_keep HB.out hnb) (cell_keep HB.out hnb HN.out) (size_keep HB.out hx) (cell_keep HB.out hx HX8.out))
      unfold toG at HCON
      generalize hx : qs[k] = x at g1 g2 HCON
      obtain ⟨x1, x2⟩ := x
      simp only [] at g1 g2 HCON
      have HX := Lib.hid hx; clear hx
      generalize hbq : (!inG ps (↑x1, ↑x2)) = bq at HCON
      have HBQ := Lib.hid hbq; clear hbq
      go_wp2_with (go_at_call 151; refine HCON.out.mono ?_; rintro e w' ⟨rfl, hB⟩)
      · have hyes : bq = true := by assumption
        go_ret
        exact ⟨ret_int (by rw [findIdx_some hlt HX.out (by rw [← hyes, ← HBQ.out]; rfl) HA.out]; rfl), HB.out.trans (hB.mono HB.out.size)⟩
      · have hno : bq = false := by assumption
        go_roundw
        case rel => exact ⟨k + 1, by omega, by go_num, take_all_snoc hlt HX.out HA.out (by rw [show (!inG ps (toG (x1, x2))) = bq from HBQ.out, hno]; rfl), HB.out.trans (hB.mono HB.out.size)⟩
        case measure => simp [intOf]; omega
    · go_wp2
      go_ret
      exact ⟨ret_int (by rw [findIdx_none (all_end hlt HA.out)]; rfl), HB.out⟩
def outB (ps : List GP) (qs : List (Nat × Nat)) : Bool := qs.any (fun q => !inG ps (toG q))
set_option maxHeartbeats 400000 in
theorem containsFPlc_any (v : Value) (qs : List (Nat × Nat)) (pv : Value) (ps : List GP) (nb xb : Nat) (w : World) (h : RowAt 2 PlaceR w v qs) (hps : RowAt 2 PlcR w pv ps) (hnb : nb < w.heap.size) (hn : w.cell? ⟨nb, 0, none⟩ = some (.pointer (some ⟨xb, 0, none⟩))) (hx : xb < w.heap.size) (hx8 : w.cell? ⟨xb, 8, none⟩ = some pv) :
    Calls Tryz.prog 150 #[v, .func (.func 151) #[] #[.pointer (some ⟨nb, 0, none⟩)]] w fun e w' => e = .returned (.bool (outB ps qs)) ∧ Below w.heap.size w w' := by
  have HI := Lib.hid (indexFPlc_any v qs pv ps nb xb w h hps hnb hn hx hx8)
  have hE : decide (0 ≤ idxA (qs.findIdx? (fun q => !inG ps (toG q)))) = outB ps qs := idxA_geq
  generalize idxA (qs.findIdx? (fun q => !inG ps (toG q))) = n at hE HI
  have HE := Lib.hid hE; clear hE
  obtain ⟨pp, cap, b, o, rfl, -⟩ := h
  clear hn hx8 hps
  go_enter Tryz.func150, Tryz.ntmps150
  go_wp2_with (go_at_call 228; refine HI.out.mono ?_; rintro e w1 ⟨rfl, hB1⟩)
  go_ret
  exact ⟨ret_bool (by rw [← HE.out]), hB1⟩
end Go.Proofs.YtdjgkmpjhpnkeaaGreatDoor
namespace Go.Proofs.YtdjgkmpjhpnkeaaGreatDoor
open Go.RowKit Go.Maps Go.WideMaps
def addrsOf (wh : List GAddr) (qs : List (Nat × Nat)) : List Int := qs.map fun q => (layFind wh (toG q)).1
theorem addrsOf_snoc {wh : List GAddr} {qs : List (Nat × Nat)} {k : Nat} {q : Nat × Nat} (h : k < qs.length) (hq : qs[k] = q) : addrsOf wh (qs.take (k + 1)) = addrsOf wh (qs.take k) ++ [(layFind wh (toG q)).1] := by
  rw [List.take_succ_eq_append_getElem h, hq]; simp [addrsOf]
theorem addrsOf_len (wh : List GAddr) (qs : List (Nat × Nat)) : (addrsOf wh qs).length = qs.length := by simp [addrsOf]
def filledR (l : List GObj) (wh : List GAddr) (p : GP) (s : GSym) : ByteArray × Int := fillR s (addrsOf wh (refsV (beginR l) l p.1 p.2).1)
theorem layFind_num {w : World} {v : Value} {wh : List GAddr} (h : RowAt 3 AddrR w v wh) (q : GP) : 0 ≤ (layFind wh q).1 ∧ (layFind wh q).1 ≤ 4294967295 := by
  unfold layFind
  cases hf : wh.find? (fun a => decide (a.obj = q.1) && decide (a.sym = q.2)) with
  | none => simp
  | some a =>
    obtain ⟨i, hi, rfl⟩ := List.getElem_of_mem (List.mem_of_find?_eq_some hf)
    obtain ⟨p, cap, b, o, -, -, -, -, hc⟩ := h
    exact (hc i hi).2.2.2.2
theorem info_u32 : (Tryz.prog.info? 27).map (fun i => (i.zero, i.size, i.bytes)) = some (some (.int .u32 0), 1, 4) := by kernel_rfl
theorem one_u32 {n : Int} : ∀ u ∈ [Value.int .u32 n], u.oneCell' = true := by
  intro u hu
  simp at hu; subst hu; rfl
theorem one_new {w : World} {g : Nat} {a : Value} (h0 : w.cell? ⟨g, 0, none⟩ = some a) : ∀ j u, [a][j]? = some u → w.cell? ((⟨g, 0, none⟩ : Addr).add j) = some u := by
  intro j u hu
  match j, hu with
  | 0, hu => simp at hu; subst hu; simpa [Addr.add] using h0
theorem cellsU_flat {K : IntKind} : ∀ l : List Int, cellsU K l = l.flatMap fun x => [.int K x]
  | [] => rfl
  | x :: r => by rw [List.flatMap_cons, ← cellsU_flat r]; rfl
theorem urow_num {base : Nat} {w : World} {v : Value} {l : List Int} (h : URow .u32 27 base w v l) (hl : l.length ≤ 140737488355328) (hn : ∀ x ∈ l, 0 ≤ x ∧ x ≤ 4294967295) : RowAt 1 NumR w v l := by
  have h' : w.ownsRow base 27 1 v l.length (l.flatMap fun x => [.int .u32 x]) := by rw [← cellsU_flat]; exact h
  exact owned_row (k := 1) (f := fun x => [Value.int .u32 x]) (fun _ => rfl) h' hl fun g o' i hi hg hcell => ⟨hg, by simpa using hcell 0 (.int .u32 l[i]) (by omega) rfl, hn _ (List.getElem_mem hi)⟩
theorem urow_snoc {K : IntKind} {e : TypeId} {base : Nat} {w : World} {v : Value} {l : List Int} {x : Int} (h : w.ownsRow base e 1 v (l.length + 1) (cellsU K l ++ [.int K x])) : URow K e base w v (l ++ [x]) := by
  unfold URow
  have e1 : cellsU K (l ++ [x]) = cellsU K l ++ [.int K x] := by simp [cellsU]
  rw [e1, List.length_append]; exact h
set_option maxRecDepth 100000 in
set_option maxHeartbeats 4000000 in
theorem linkFill_any (xb : Nat) (v av : Value) (l : List GObj) (wh : List GAddr) (p : GP) (s : GSym) (w : World) (h : ObjsAt w v l) (ha : RowAt 3 AddrR w av wh) (hx : xb < w.heap.size) (hx6 : w.cell? ⟨xb, 6, none⟩ = some av) (hx7 : w.cell? ⟨xb, 7, none⟩ = some v)
    (hs : symAt l p = some s) (hb : s.bytes.size < 4294967296) (hrl : (refsV (beginR l) l p.1 p.2).1.length ≤ 100000) :
    Calls Tryz.prog 152 #[.pointer (some ⟨xb, 0, none⟩), .agg #[.int .i64 p.1, .int .i64 p.2]] w fun e w' =>
      e = .returned (.tuple #[.string (filledR l wh p s).1, .int .i64 (filledR l wh p s).2]) ∧ Below w.heap.size w w' := by
  have HSY : Hid (∀ W, Below w.heap.size w W → Calls Tryz.prog 58 #[.pointer (some ⟨xb, 0, none⟩), .agg #[.int .i64 p.1, .int .i64 p.2]] W (SymLPost W s)) := fun W hB =>
    linkSym_any xb v l p s W (h.keep hB) (size_keep hB hx) (cell_keep hB hx hx7) hs
  have HRF : Hid (∀ W, Below w.heap.size w W → Calls Tryz.prog 149 #[v, .agg #[.int .i64 p.1, .int .i64 p.2]] W (RefsPost W (refsV (beginR l) l p.1 p.2).1 (refsV (beginR l) l p.1 p.2).2.1 (refsV (beginR l) l p.1 p.2).2.2)) := fun W hB =>
    refs_any v l p.1 p.2 W (h.keep hB)
  have HFI : Hid (filledR l wh p s = fillR s (addrsOf wh (refsV (beginR l) l p.1 p.2).1)) := rfl
  have HH := Lib.hid h
  have HAD := Lib.hid ha
  have HS := Lib.hid hs; clear hs
  generalize refsV (beginR l) l p.1 p.2 = rv at HRF HFI hrl
  obtain ⟨rl, rn, rc⟩ := rv
  simp only [] at HRF HFI hrl
  obtain ⟨p1, p2⟩ := p
  simp only [] at HSY HRF
  obtain ⟨pv, cv, hv⟩ : ∃ (pv : Option Addr) (cv : Nat), v = .slice pv l.length cv := by obtain ⟨p, cap, b, o, rfl, _⟩ := h; exact ⟨p, cap, rfl⟩
  obtain ⟨pa, ca, hav⟩ : ∃ (pa : Option Addr) (ca : Nat), av = .slice pa wh.length ca := by obtain ⟨p, cap, b, o, rfl, _⟩ := ha; exact ⟨p, cap, rfl⟩
  subst hv hav
  clear h ha
  have n0 : (w.alloc (.cells #[.int .i64 p1, .int .i64 p2] 63)).cell? ⟨w.heap.size, 0, none⟩ = some (.int .i64 p1) := by simp [go_sem]
  have n1 : (w.alloc (.cells #[.int .i64 p1, .int .i64 p2] 63)).cell? ⟨w.heap.size, 1, none⟩ = some (.int .i64 p2) := by simp [go_sem]
  generalize hW : (w.alloc (.cells #[.int .i64 p1, .int .i64 p2] 63)) = w1 at n0 n1
  have z1 : w1.heap.size = w.heap.size + 1 := by subst hW; simp
  have HB1 : Hid (Below w.heap.size w w1) := by subst hW; exact alloc_old w _
  have k6 := cell_keep HB1.out hx hx6
  have k7 := cell_keep HB1.out hx hx7
  have hx1 : xb < w1.heap.size := by omega
  have hne : ¬ w.heap.size = xb := by omega
  clear hx6 hx7
  go_enter Tryz.func152, Tryz.ntmps152
  go_wp2
  try rw [hW]
  clear hW
  go_cut [6] (fun v6 wx => RowAt 2 PlaceR wx v6 rl ∧ Below w1.heap.size w1 wx)
  case first =>
    clear HSY HFI HH HAD HS
    go_region_with ((go_at_call 149; refine (HRF.out _ (by first | exact HB1.out.drew | go_grown)).mono ?_; rintro e w' ⟨vo, rfl, hrow, hB⟩))
    all_goals (go_wp2_with fail)
    all_goals go_meet
    all_goals exact ⟨hrow, (Below.refl _ _).drew.trans hB⟩
  case rest =>
    obtain ⟨hrow, hBc⟩ := hcut
    have HRO := Lib.hid hrow
    have HBC : Hid (Below w.heap.size w wc) := HB1.out.trans (hBc.mono (by omega))
    replace n0 := cell_keep hBc (by omega) n0
    replace n1 := cell_keep hBc (by omega) n1
    replace k6 := cell_keep hBc hx1 k6
    replace k7 := cell_keep hBc hx1 k7
    have hzc : w.heap.size < wc.heap.size := by have := hBc.size; omega
    have hxc : xb < wc.heap.size := by omega
    obtain ⟨pr, cr, br, orr, rfl, -, -, hpr, hrr⟩ := hrow
    have HPR := Lib.hid hpr; clear hpr
    have HRR := Lib.hid hrr; clear hrr
    clear hBc hx1
    go_wp2
    obtain ⟨iU, s0, s1, s2, s3⟩ := info_parts info_u32
    have HI := Lib.hid (And.intro s0 (And.intro s1 (And.intro s2 s3)))
    clear s0 s1 s2 s3
    go_loopw [9, 26] (fun v9 v26 wr => ∃ k : Nat, v26 = .int .i64 k ∧ k ≤ rl.length ∧ wr.ownsRow wc.heap.size 27 1 v9 k (cellsU .u32 (addrsOf wh (rl.take k))) ∧ Below w.heap.size w wr ∧ Below wc.heap.size wc wr) (fun v9 v26 _ => rl.length - (intOf v26).toNat)
    case atStart => exact ⟨0, by go_num, Nat.zero_le _, World.ownsRow_nil _ _ _ _, HBC.out, Below.refl _ _⟩
    case round =>
      obtain ⟨k, rfl, hk, hu, hB, hBr⟩ := hrel
      have HU := Lib.hid hu
      have HB := Lib.hid hB; clear hB
      have HBR := Lib.hid hBr; clear hBr
      obtain ⟨pu, cu, rfl⟩ := own_shape hu
      clear hu
      have m0 := cell_keep HBR.out hzc n0
      have m1 := cell_keep HBR.out hzc n1
      have m6 := cell_keep HBR.out hxc k6
      have hzr : w.heap.size < wr.heap.size := size_keep HBR.out hzc
      have hxr : xb < wr.heap.size := size_keep HBR.out hxc
      have hcr := HBR.out.size
      by_cases hlt : k < rl.length
      · obtain rfl := HPR.out (by omega)
        obtain ⟨g0, g1, g2⟩ := placeR_keeps _ _ _ _ _ HBR.out (HRR.out k hlt)
        generalize hqq : rl[k] = q at g1 g2
        have HQ := Lib.hid hqq; clear hqq
        obtain ⟨qa, qb⟩ := q
        simp only [] at g1 g2
        have b0 : (wr.alloc (.cells #[.int .i64 qa, .int .i64 qb] 63)).cell? ⟨wr.heap.size, 0, none⟩ = some (.int .i64 qa) := by simp [go_sem]
        have b1 : (wr.alloc (.cells #[.int .i64 qa, .int .i64 qb] 63)).cell? ⟨wr.heap.size, 1, none⟩ = some (.int .i64 qb) := by simp [go_sem]
        have b6 := cell_keep (alloc_old wr (.cells #[.int .i64 qa, .int .i64 qb] 63)) hxr m6
        have HU2 : Hid ((wr.alloc (.cells #[.int .i64 qa, .int .i64 qb] 63)).ownsRow wc.heap.size 27 1 (.slice pu k cu) k (cellsU .u32 (addrsOf wh (rl.take k)))) := HU.out.alloc _
        have z2 : (wr.alloc (.cells #[.int .i64 qa, .int .i64 qb] 63)).heap.size = wr.heap.size + 1 := by simp
        have HBA : Hid (Below wr.heap.size wr (wr.alloc (.cells #[.int .i64 qa, .int .i64 qb] 63))) := alloc_old wr _
        generalize hW2 : (wr.alloc (.cells #[.int .i64 qa, .int .i64 qb] 63)) = w2 at b0 b1 b6 HU2 z2 HBA
        have c0 := bw_cell (by omega) b0
        have c1 := bw_cell (by omega) b1
        have c6 := bw_cell (by omega) b6
        have HLF : Hid (∀ x : BW w2, Calls Tryz.prog 61 #[.slice pa wh.length ca, .agg #[.int .i64 qa, .int .i64 qb]] x.u fun e w' => e = .returned (.tuple #[.int .u32 (layFind wh (qa, qb)).1, .bool (layFind wh (qa, qb)).2]) ∧ ∃ y : BW w2, w' = y.u) :=
          fun x => calls_below (layFind_any _ wh (qa, qb) x.u ((HAD.out.keep addrR_keeps (HB.out.trans (HBA.out.mono HB.out.size))).keep addrR_keeps x.b))
        have HSN : Hid (addrsOf wh (rl.take (k + 1)) = addrsOf wh (rl.take k) ++ [(layFind wh (qa, qb)).1]) := addrsOf_snoc hlt HQ.out
        generalize layFind wh (qa, qb) = lf at HLF HSN
        obtain ⟨la, lb⟩ := lf
        simp only [] at HLF HSN
        go_wp2
        try rw [hW2]
        clear hW2
        refine wp_region_below (by kernel_rfl) (by kernel_rfl) ?_
        repeat (first | go_big_quiet_skip | quiet_step ((go_at_call 61; exact HLF.out _)))
        refine wpQuiet_nil ?_
        rintro w4 hx4; have hB4 : Below w2.heap.size w2 w4 := bw_of hx4; clear hx4
        have HU4 := Lib.hid (own_congr HU2.out fun q hq => hB4.block q (HU2.out.lt q hq).2)
        have HB4 : Hid (Below wr.heap.size wr w4) := HBA.out.trans (hB4.mono (by omega))
        have hz4 : wr.heap.size < w4.heap.size := by have := hB4.size; omega
        clear c0 c1 c6 b0 b1 b6 hB4
        go_wp2_with (at_builtin; refine wpList_append_own _ rfl _ _ 264 rfl wc.heap.size 27 iU _ 1 4 Tryz.underlying264 HI.out.1 HI.out.2.1 HI.out.2.2.1 HI.out.2.2.2 rfl (by decide) _ k (cellsU .u32 (addrsOf wh (rl.take k))) rfl ?c0 _ 1 1 [.int .u32 la] rfl rfl ?c1 one_u32 ?c3 ?c4 ?c5 ?_)
        case c0 => exact HU4.out.alloc _
        case c1 => exact one_new (by simp [go_sem])
        case c3 => unfold maxLen; omega
        case c4 => omega
        case c5 => simp; omega
        intro v' w' hown3 hgrow3 _
        have HO3 : Hid (w'.ownsRow wc.heap.size 27 1 v' (k + 1) (cellsU .u32 (addrsOf wh (rl.take (k + 1))))) := by
          have e : cellsU .u32 (addrsOf wh (rl.take (k + 1))) = cellsU .u32 (addrsOf wh (rl.take k)) ++ [.int .u32 la] := by rw [HSN.out]; simp [cellsU]
          rw [Hid, e]; exact hown3
        have hlast : Below wc.heap.size wr w' := (((HB4.out.mono hcr).alloc (by omega) _).grown hgrow3 (by simp; omega) (fun q e => (HU4.out.lt q e).1))
        have HL := Lib.hid hlast
        clear hown3 hgrow3 hlast
        have hwc := HBC.out.size
        go_wp2
        go_roundw
        case rel => exact ⟨k + 1, by go_num, by omega, HO3.out, HB.out.trans (HL.out.mono (by omega)), HBR.out.trans HL.out⟩
        case measure => simp [intOf]; omega
      · obtain rfl : k = rl.length := by omega
        have hke : rl.take rl.length = rl := List.take_length
        rw [hke] at HU
        have hls : (addrsOf wh rl).length = rl.length := addrsOf_len _ _
        have hrow : RowAt 1 NumR wr (.slice pu rl.length cu) (addrsOf wh rl) := urow_num (base := wc.heap.size) (by unfold URow; rw [hls]; exact HU.out) (by rw [addrsOf_len]; omega) (fun x hx => by
          simp only [addrsOf, List.mem_map] at hx
          obtain ⟨q, -, rfl⟩ := hx
          exact layFind_num HAD.out _)
        have HNU := Lib.hid hrow
        have HSC := Lib.hid (HSY.out wr HB.out)
        unfold SymLPost at HSC
        go_wp2_with fail
        refine HSC.out.mono ?_
        rintro e w2 ⟨⟨vr, vn, rfl, hin⟩, hB2⟩
        have HFC := Lib.hid (fill_any s vr vn _ (addrsOf wh rl) w2 hin hb (HNU.out.keep numR_keeps hB2))
        unfold symV
        obtain ⟨q1, c1, q2, c2, rfl, rfl⟩ := hin.shape
        go_wp2_with fail
        refine HFC.out.mono ?_
        rintro e w3 ⟨rfl, hB3⟩
        go_wp2
        go_ret2
        rw [HFI.out]
        exact ⟨rfl, HB.out.trans ((hB2.trans (hB3.mono hB2.size)).mono HB.out.size)⟩
end Go.Proofs.YtdjgkmpjhpnkeaaGreatDoor
