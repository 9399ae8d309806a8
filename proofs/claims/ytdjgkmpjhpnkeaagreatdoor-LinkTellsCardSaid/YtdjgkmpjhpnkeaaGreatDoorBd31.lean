/- The walks of aediculeref11's Add and Of. The walk of aediculeref11.Of. What aediculeref14.Of keeps in its loops. -/
import Derived.Test.YtdjgkmpjhpnkeaaGreatDoorBd30
import Derived.Test.YtdjgkmpjhpnkeaaGreatDoorBd24
import Derived.Test.YtdjgkmpjhpnkeaaGreatDoorBd27
namespace Go.Proofs.YtdjgkmpjhpnkeaaGreatDoor
open Go.RowKit
def ManPostR (m : GMan) (w : World) (e : Ending) (w' : World) : Prop := ∃ ve vp, e = .returned (.agg #[.int .u32 m.pages, ve, vp, .bool m.cons]) ∧ ManAt w' m ve vp ∧ Below w.heap.size w w'
/-- the boxes of a manifest, a note and a result -/
structure AddSt (w0 w : World) (b : Nat) (p : Int) (ve vp : Value) (c : Bool) (k n m : Int) : Prop where
  bm : w.heap[b]? = some (.cells #[.int .u32 p, ve, vp, .bool c] 31 (0, 0))
  bn : w.heap[b + 1]? = some (.cells #[.int .u8 k, .int .u32 n, .int .u32 m] 219 (0, 0))
  br : w.heap[b + 2]? = some (.cells #[.int .u32 0, .slice none 0 0, .slice none 0 0, .bool false] 31 (0, 0))
  bl : Below w0.heap.size w0 w
  be : b = w0.heap.size
theorem AddSt.new (w : World) (p : Int) (ve vp : Value) (c : Bool) (k n m : Int) : AddSt w (((w.alloc (.cells #[.int .u32 p, ve, vp, .bool c] 31)).alloc (.cells #[.int .u8 k, .int .u32 n, .int .u32 m] 219)).alloc (.cells #[.int .u32 0, .slice none 0 0, .slice none 0 0, .bool false] 31)) w.heap.size p ve vp c k n m where
  bm := (Below.heap_alloc _ _ _ (by simp; omega)).trans ((Below.heap_alloc _ _ _ (by simp)).trans (new_block w _))
  bn := by
    refine (Below.heap_alloc _ _ _ (by simp)).trans ?_
    have := new_block (w.alloc (.cells #[.int .u32 p, ve, vp, .bool c] 31)) (.cells #[.int .u8 k, .int .u32 n, .int .u32 m] 219)
    rw [World.size_alloc] at this; exact this
  br := by
    have := new_block ((w.alloc (.cells #[.int .u32 p, ve, vp, .bool c] 31)).alloc (.cells #[.int .u8 k, .int .u32 n, .int .u32 m] 219)) (.cells #[.int .u32 0, .slice none 0 0, .slice none 0 0, .bool false] 31)
    rw [World.size_alloc, World.size_alloc] at this; exact this
  bl := (((Below.refl _ _).alloc (Nat.le_refl _) _).alloc (by simp) _).alloc (by simp; omega) _
  be := rfl
theorem AddSt.keep {w0 w w' : World} {b : Nat} {p : Int} {ve vp : Value} {c : Bool} {k n m : Int} (h : AddSt w0 w b p ve vp c k n m) (hb : Below w.heap.size w w') : AddSt w0 w' b p ve vp c k n m :=
  ⟨(hb.block _ (Array.getElem?_eq_some_iff.1 h.bm).1).trans h.bm, (hb.block _ (Array.getElem?_eq_some_iff.1 h.bn).1).trans h.bn, (hb.block _ (Array.getElem?_eq_some_iff.1 h.br).1).trans h.br, h.bl.trans (hb.mono h.bl.size), h.be⟩
theorem AddSt.cells {w0 w : World} {b : Nat} {p : Int} {ve vp : Value} {c : Bool} {k n m : Int} (h : AddSt w0 w b p ve vp c k n m) :
    (w.cell? ⟨b, 0, none⟩ = some (.int .u32 p) ∧ w.cell? ⟨b, 1, none⟩ = some ve ∧ w.cell? ⟨b, 2, none⟩ = some vp ∧ w.cell? ⟨b, 3, none⟩ = some (.bool c)) ∧ (w.cell? ⟨b + 1, 0, none⟩ = some (.int .u8 k) ∧ w.cell? ⟨b + 1, 1, none⟩ = some (.int .u32 n) ∧ w.cell? ⟨b + 1, 2, none⟩ = some (.int .u32 m)) ∧ (∀ j, w.frozen? ⟨b, j, none⟩ = false) ∧ (∀ j, w.frozen? ⟨b + 2, j, none⟩ = false) ∧
      (w.cell? ⟨b + 2, 0, none⟩ = some (.int .u32 0) ∧ w.cell? ⟨b + 2, 1, none⟩ = some (.slice none 0 0) ∧ w.cell? ⟨b + 2, 2, none⟩ = some (.slice none 0 0) ∧ w.cell? ⟨b + 2, 3, none⟩ = some (.bool false)) ∧ b + 2 < w.heap.size :=
  ⟨⟨Lib.cell_of_heap h.bm 0, Lib.cell_of_heap h.bm 1, Lib.cell_of_heap h.bm 2, Lib.cell_of_heap h.bm 3⟩, ⟨Lib.cell_of_heap h.bn 0, Lib.cell_of_heap h.bn 1, Lib.cell_of_heap h.bn 2⟩, fun _ => Lib.frozen_of_heap h.bm _, fun _ => Lib.frozen_of_heap h.br _, ⟨Lib.cell_of_heap h.br 0, Lib.cell_of_heap h.br 1, Lib.cell_of_heap h.br 2, Lib.cell_of_heap h.br 3⟩, (Array.getElem?_eq_some_iff.1 h.br).1⟩
theorem box_man {w : World} {b o : Nat} {u : Value} {p : Int} {p1 p2 : Option Addr} {n1 n2 c1 c2 : Nat} {c : Bool} {T : TypeId} (hb : w.heap[b]? = some (.cells #[.int .u32 p, .slice p1 n1 c1, .slice p2 n2 c2, .bool c] T (0, 0))) (hc : w.cell? ⟨b, o, none⟩ = some u) : (o = 0 ∧ u = .int .u32 p) ∨ (∃ q n k, u = .slice q n k) ∨ u = .bool c := by
  have h1 := Lib.cell_of_heap hb o
  rw [hc] at h1
  match o, h1 with
  | 0, h1 => exact .inl ⟨rfl, by simpa using h1⟩
  | 1, h1 => exact .inr (.inl ⟨_, _, _, by simpa using h1⟩)
  | 2, h1 => exact .inr (.inl ⟨_, _, _, by simpa using h1⟩)
  | 3, h1 => exact .inr (.inr (by simpa using h1))
  | n + 4, h1 => simp at h1
theorem ext_man {w : World} {b q o : Nat} {x : Int × Int} {p : Int} {p1 p2 : Option Addr} {n1 n2 c1 c2 : Nat} {c : Bool} {T : TypeId} (hb : w.heap[b]? = some (.cells #[.int .u32 p, .slice p1 n1 c1, .slice p2 n2 c2, .bool c] T (0, 0))) (h : ExtR w q o x) : q ≠ b := by
  rintro rfl
  rcases box_man hb h.2.2.1 with ⟨h1, -⟩ | ⟨_, _, _, h1⟩ | h1
  · omega
  · cases h1
  · cases h1
theorem port_man {w : World} {b q o : Nat} {x : Int} {p : Int} {p1 p2 : Option Addr} {n1 n2 c1 c2 : Nat} {c : Bool} {T : TypeId} (hb : w.heap[b]? = some (.cells #[.int .u32 p, .slice p1 n1 c1, .slice p2 n2 c2, .bool c] T (0, 0))) (h : PortR w q o x) : q ≠ b := by
  rintro rfl
  rcases box_man hb h.2.1 with ⟨-, h1⟩ | ⟨_, _, _, h1⟩ | h1
  · cases h1
  · cases h1
  · cases h1
theorem ExtR.kb {S : Nat → Prop} {w w' : World} {b o : Nat} {a : Int × Int} (h : ExtR w b o a) (hk : KB S w w') (hs : ¬ S b) : ExtR w' b o a :=
  ⟨Nat.lt_of_lt_of_le h.1 hk.size, hk.cell h.1 hs h.2.1, hk.cell h.1 hs h.2.2.1, h.2.2.2⟩
theorem PortR.kb {S : Nat → Prop} {w w' : World} {b o : Nat} {a : Int} (h : PortR w b o a) (hk : KB S w w') (hs : ¬ S b) : PortR w' b o a :=
  ⟨Nat.lt_of_lt_of_le h.1 hk.size, hk.cell h.1 hs h.2.1, h.2.2⟩
/-- a manifest's rows where boxes of manifests are written -/
theorem man_kb {w w' : World} {b c : Nat} {p p' : Int} {p1 p2 p3 p4 : Option Addr} {n1 n2 n3 n4 c1 c2 c3 c4 : Nat} {k k' : Bool} {T T' : TypeId} {m : GMan} {ve vp : Value} (h : ManAt w m ve vp) (hb : w.heap[b]? = some (.cells #[.int .u32 p, .slice p1 n1 c1, .slice p2 n2 c2, .bool k] T (0, 0))) (hc : w.heap[c]? = some (.cells #[.int .u32 p', .slice p3 n3 c3, .slice p4 n4 c4, .bool k'] T' (0, 0))) (hk : KB (fun q => q = b ∨ q = c) w w') : ManAt w' m ve vp :=
  ⟨row_kb h.1 fun _ _ _ hx => hx.kb hk (fun e => e.elim (ext_man hb hx) (ext_man hc hx)), row_kb h.2.1 fun _ _ _ hx => hx.kb hk (fun e => e.elim (port_man hb hx) (port_man hc hx)), h.2.2⟩
set_option maxRecDepth 100000 in
set_option maxHeartbeats 4000000 in
theorem radd_any (m : GMan) (ve vp : Value) (x : GNote) (w : World) (h : ManAt w m ve vp) (hx : noteOk x = true) (hn : NoteNum x) (h1 : m.exts.length ≤ 1000000) (h2 : m.ports.length ≤ 1000000) :
    Calls Tryz.prog 168 #[.agg #[.int .u32 m.pages, ve, vp, .bool m.cons], .agg #[.int .u8 x.kind, .int .u32 x.n, .int .u32 x.m]] w (ManPostR (manAdd m x) w) := by
  obtain ⟨⟨k0, k1⟩, ⟨n0, n1⟩, m0, m1⟩ := hn
  have HM := Lib.hid h
  have HKS := Lib.hid (noteOk_kinds hx)
  have HE : Hid (manAdd m x = if x.kind = 1 then { m with pages := max m.pages x.n } else if x.kind = 2 then { m with exts := extI m.exts (x.n, x.m) } else if x.kind = 3 then { m with ports := portI m.ports (x.n % 65536) } else { m with cons := true }) := rfl
  obtain ⟨⟨p1, c1, b1, o1, rfl, hc1, hm1, hp1, hr1⟩, ⟨p2, c2, b2, o2, rfl, hc2, hm2, hp2, hr2⟩, hpg0, hpg1⟩ := h
  obtain ⟨xk, xn, xm⟩ := x
  obtain ⟨mp, me, mq, mc⟩ := m
  simp only [] at *
  have HST := Lib.hid (AddSt.new w mp (.slice p1 me.length c1) (.slice p2 mq.length c2) mc xk xn xm)
  clear hc1 hm1 hp1 hr1 hc2 hm2 hp2 hr2 hx
  generalize manAdd ⟨mp, me, mq, mc⟩ ⟨xk, xn, xm⟩ = mr at *
  rcases HKS.out with ⟨rfl, a1, rfl⟩ | ⟨rfl, a1, a2, a3⟩ | ⟨rfl, a1, a2, rfl⟩ | ⟨rfl, rfl, rfl⟩
  · have HR : Hid (mr = ⟨max mp xn, me, mq, mc⟩) := by rw [Hid, HE.out]; exact if_pos rfl
    clear HE HKS
    go_enter Tryz.func168, Tryz.ntmps168
    go_wp2_with fail
    refine bodyPost_ret (v := .agg #[.int .u32 (max mp xn), .slice p1 me.length c1, .slice p2 mq.length c2, .bool mc]) (by simp [results, Tryz.results168, go_sem]) rfl ?_
    rw [HR.out]
    have hb : Below w.heap.size w _ := HST.out.bl
    refine ⟨_, _, rfl, ⟨HM.out.1.keep extR_keeps ?_, HM.out.2.1.keep portR_keeps ?_, by simp only []; omega, by simp only []; omega⟩, ?_⟩
    all_goals exact (((Below.refl _ _).alloc (Nat.le_refl _) _).alloc (by simp) _).alloc (by simp; omega) _
  · have HR : Hid (mr = ⟨mp, extI me (xn, xm), mq, mc⟩) := by rw [Hid, HE.out, if_neg (by decide)]; exact if_pos rfl
    have HXT : Hid (∀ W, Below w.heap.size w W → Calls Tryz.prog 234 #[.slice p1 me.length c1, .agg #[.int .u32 xn, .int .u32 xm]] W fun e w' => ∃ v', e = .returned v' ∧ RowAt 2 ExtR w' v' (extI me (xn, xm)) ∧ Below W.heap.size W w') := fun W hW => rextent_any _ me xn xm W (HM.out.keep hW).1 ⟨⟨n0, n1⟩, m0, m1⟩ h1
    clear HE HKS
    generalize extI me (xn, xm) = le at *
    go_enter Tryz.func168, Tryz.ntmps168
    go_wp2_with fail
    refine (HXT.out _ HST.out.bl).mono ?_
    rintro e w4 ⟨v', rfl, hrow, hB4⟩
    have HS4 := Lib.hid (HST.out.keep hB4)
    have HRW := Lib.hid hrow
    obtain ⟨p3, c3, _, _, rfl, -⟩ := hrow
    obtain ⟨⟨q0, q1, q2, q3⟩, ⟨r0, r1, r2⟩, qf, rf, ⟨s0, s1, s2, s3⟩, hz⟩ := HS4.out.cells
    have HBE := HS4.out.be
    clear hB4 HXT HST
    go_wp2_with fail
    have HKB : Hid (KB (fun q => q = w.heap.size ∨ q = w.heap.size + 2) w4 (((((w4.setCell ⟨w.heap.size, 1, none⟩ (.slice p3 le.length c3)).setCell ⟨w.heap.size + 1 + 1, 0, none⟩ (.int .u32 mp)).setCell ⟨w.heap.size + 1 + 1, 1, none⟩ (.slice p3 le.length c3)).setCell ⟨w.heap.size + 1 + 1, 2, none⟩ (.slice p2 mq.length c2)).setCell ⟨w.heap.size + 1 + 1, 3, none⟩ (.bool mc))) := ((((((KB.refl _ _).setCell (.inl (.inl rfl)) _).setCell (.inl (.inr rfl)) _).setCell (.inl (.inr rfl)) _).setCell (.inl (.inr rfl)) _).setCell (.inl (.inr rfl)) _)
    refine bodyPost_ret (v := .agg #[.int .u32 mp, .slice p3 le.length c3, .slice p2 mq.length c2, .bool mc]) (by simp [results, Tryz.results168, go_sem, s0, s1, s2, s3]) rfl ?_
    rw [HR.out]
    refine ⟨_, _, rfl, man_kb ⟨HRW.out, (HM.out.keep HS4.out.bl).2.1, by simp only []; omega, by simp only []; omega⟩ HS4.out.bm HS4.out.br HKB.out, HKB.out.below HS4.out.bl.size (fun k hk e => by omega) |> fun hq => ?_⟩
    exact HS4.out.bl.trans hq
  · have HR : Hid (mr = ⟨mp, me, portI mq xn, mc⟩) := by rw [Hid, HE.out, if_neg (by decide), if_neg (by decide), Int.emod_eq_of_lt n0 (by omega)]; exact if_pos rfl
    have HXT : Hid (∀ W, Below w.heap.size w W → Calls Tryz.prog 235 #[.slice p2 mq.length c2, .int .u16 xn] W fun e w' => ∃ v', e = .returned v' ∧ RowAt 1 PortR w' v' (portI mq xn) ∧ Below W.heap.size W w') := fun W hW => rport_any _ mq xn W (HM.out.keep hW).2.1 ⟨n0, a2⟩ h2
    clear HE HKS
    generalize portI mq xn = le at *
    go_enter Tryz.func168, Tryz.ntmps168
    go_wp2_with fail
    refine (HXT.out _ HST.out.bl).mono ?_
    rintro e w4 ⟨v', rfl, hrow, hB4⟩
    have HS4 := Lib.hid (HST.out.keep hB4)
    have HRW := Lib.hid hrow
    obtain ⟨p3, c3, _, _, rfl, -⟩ := hrow
    obtain ⟨⟨q0, q1, q2, q3⟩, ⟨r0, r1, r2⟩, qf, rf, ⟨s0, s1, s2, s3⟩, hz⟩ := HS4.out.cells
    clear hB4 HXT HST
    go_wp2_with fail
    have HKB : Hid (KB (fun q => q = w.heap.size ∨ q = w.heap.size + 2) w4 (((((w4.setCell ⟨w.heap.size, 2, none⟩ (.slice p3 le.length c3)).setCell ⟨w.heap.size + 1 + 1, 0, none⟩ (.int .u32 mp)).setCell ⟨w.heap.size + 1 + 1, 1, none⟩ (.slice p1 me.length c1)).setCell ⟨w.heap.size + 1 + 1, 2, none⟩ (.slice p3 le.length c3)).setCell ⟨w.heap.size + 1 + 1, 3, none⟩ (.bool mc))) := ((((((KB.refl _ _).setCell (.inl (.inl rfl)) _).setCell (.inl (.inr rfl)) _).setCell (.inl (.inr rfl)) _).setCell (.inl (.inr rfl)) _).setCell (.inl (.inr rfl)) _)
    refine bodyPost_ret (v := .agg #[.int .u32 mp, .slice p1 me.length c1, .slice p3 le.length c3, .bool mc]) (by simp [results, Tryz.results168, go_sem, s0, s1, s2, s3]) rfl ?_
    rw [HR.out]
    refine ⟨_, _, rfl, man_kb ⟨(HM.out.keep HS4.out.bl).1, HRW.out, by simp only []; omega, by simp only []; omega⟩ HS4.out.bm HS4.out.br HKB.out, HKB.out.below HS4.out.bl.size (fun k hk e => by omega) |> fun hq => ?_⟩
    exact HS4.out.bl.trans hq
  · have HR : Hid (mr = ⟨mp, me, mq, true⟩) := by rw [Hid, HE.out]; rw [if_neg (by decide), if_neg (by decide), if_neg (by decide)]
    clear HE HKS
    go_enter Tryz.func168, Tryz.ntmps168
    go_wp2_with fail
    refine bodyPost_ret (v := .agg #[.int .u32 (mp), .slice p1 me.length c1, .slice p2 mq.length c2, .bool true]) (by simp [results, Tryz.results168, go_sem]) rfl ?_
    rw [HR.out]
    have hb : Below w.heap.size w _ := HST.out.bl
    refine ⟨_, _, rfl, ⟨HM.out.1.keep extR_keeps ?_, HM.out.2.1.keep portR_keeps ?_, by simp only []; omega, by simp only []; omega⟩, ?_⟩
    all_goals exact (((Below.refl _ _).alloc (Nat.le_refl _) _).alloc (by simp) _).alloc (by simp; omega) _
end Go.Proofs.YtdjgkmpjhpnkeaaGreatDoor
namespace Go.Proofs.YtdjgkmpjhpnkeaaGreatDoor
open Go.RowKit
theorem put4_at {w : World} {b : Nat} {a0 a1 a2 a3 u0 u1 u2 u3 : Value} {T : TypeId} (h : w.heap[b]? = some (.cells #[a0, a1, a2, a3] T (0, 0))) :
    ((((w.setCell ⟨b, 0, none⟩ u0).setCell ⟨b, 1, none⟩ u1).setCell ⟨b, 2, none⟩ u2).setCell ⟨b, 3, none⟩ u3).heap[b]? = some (.cells #[u0, u1, u2, u3] T (0, 0)) := by
  have e0 := heap_setCell_same w b 0 _ _ u0 h
  have e1 := heap_setCell_same _ b 1 _ _ u1 e0
  have e2 := heap_setCell_same _ b 2 _ _ u2 e1
  have e3 := heap_setCell_same _ b 3 _ _ u3 e2
  simpa using e3
theorem put4_kb (w : World) (b : Nat) {u0 u1 u2 u3 : Value} : KB (fun q => q = b ∨ q = b) w ((((w.setCell ⟨b, 0, none⟩ u0).setCell ⟨b, 1, none⟩ u1).setCell ⟨b, 2, none⟩ u2).setCell ⟨b, 3, none⟩ u3) :=
  KB.setCell (KB.setCell (KB.setCell (KB.setCell (KB.refl (fun q => q = b ∨ q = b) w) (.inl (.inl rfl)) _) (.inl (.inl rfl)) _) (.inl (.inl rfl)) _) (.inl (.inl rfl)) _
theorem put4_old {w0 w : World} {b B : Nat} {u0 u1 u2 u3 : Value} (h : Below B w0 w) (hb : B ≤ b) : Below B w0 ((((w.setCell ⟨b, 0, none⟩ u0).setCell ⟨b, 1, none⟩ u1).setCell ⟨b, 2, none⟩ u2).setCell ⟨b, 3, none⟩ u3) :=
  (((h.setCell (by exact hb) u0).setCell (by exact hb) u1).setCell (by exact hb) u2).setCell (by exact hb) u3
theorem put4_far {w : World} {b q : Nat} {u0 u1 u2 u3 : Value} (h : q ≠ b) : ((((w.setCell ⟨b, 0, none⟩ u0).setCell ⟨b, 1, none⟩ u1).setCell ⟨b, 2, none⟩ u2).setCell ⟨b, 3, none⟩ u3).heap[q]? = w.heap[q]? := by
  rw [Below.heap_setCell _ _ _ _ h, Below.heap_setCell _ _ _ _ h, Below.heap_setCell _ _ _ _ h, Below.heap_setCell _ _ _ _ h]
theorem fours {w : World} {b : Nat} {u0 u1 u2 u3 : Value} {T : TypeId} (h : w.heap[b]? = some (.cells #[u0, u1, u2, u3] T (0, 0))) :
    w.cell? ⟨b, 0, none⟩ = some u0 ∧ w.cell? ⟨b, 1, none⟩ = some u1 ∧ w.cell? ⟨b, 2, none⟩ = some u2 ∧ w.cell? ⟨b, 3, none⟩ = some u3 ∧ ∀ j, w.frozen? ⟨b, j, none⟩ = false :=
  ⟨Lib.cell_of_heap h 0, Lib.cell_of_heap h 1, Lib.cell_of_heap h 2, Lib.cell_of_heap h 3, fun _ => Lib.frozen_of_heap h _⟩
theorem manAll_snoc {l : List GNote} {k : Nat} {x : GNote} (h : k < l.length) (hx : l[k] = x) : (l.take (k + 1)).foldl manAdd man0 = manAdd ((l.take k).foldl manAdd man0) x := by
  rw [List.take_succ_eq_append_getElem h, hx, List.foldl_append]; rfl
def ManPost11 (w : World) (r : GMan × Int) (e : Ending) (w' : World) : Prop :=
  ∃ ve vp, e = .returned (.tuple #[.agg #[.int .u32 r.1.pages, ve, vp, .bool r.1.cons], .int .i64 r.2]) ∧ ManAt w' r.1 ve vp ∧ Below w.heap.size w w'
theorem man0_at (w : World) : ManAt w man0 (.slice none 0 0) (.slice none 0 0) := ⟨rowAt_nil, rowAt_nil, by simp [man0], by simp [man0]⟩
theorem manOf_no {l : List GNote} {k : Nat} {x : GNote} (h : k < l.length) (hx : l[k] = x) (hn : noteOk x = false) : manOf l = (man0, 2) := by
  have : ¬ l.all noteOk = true := fun ha => by
    have := List.all_eq_true.1 ha x (hx ▸ List.getElem_mem h)
    rw [hn] at this; cases this
  unfold manOf; rw [if_neg this]
set_option maxRecDepth 100000 in
set_option maxHeartbeats 4000000 in
theorem rOf11_any (v : Value) (l : List GNote) (w : World) (h : RowAt 3 NoteR w v l) (hl : l.length ≤ 100000) :
    Calls Tryz.prog 67 #[v] w (ManPost11 w (demandR l)) := by
  have HROW := Lib.hid h
  have HNUM := Lib.hid (row_num h)
  rw [← manOf_eq (fun x hx => (row_num h x hx).2.1.1)]
  obtain ⟨p, cap, b, o, rfl, hcap, hmax, hp, -⟩ := h
  have HP := Lib.hid hp; clear hp
  generalize hW : ((w.alloc (.cells #[.int .u32 0, .slice none 0 0, .slice none 0 0, .bool false] 31)).alloc (.cells #[.int .u32 0, .slice none 0 0, .slice none 0 0, .bool false] 31)) = w1
  have HB1 : Hid (Below w.heap.size w w1) := by subst hW; exact (alloc_old w _).alloc (by simp) _
  have HR1 : Hid (w1.heap[w.heap.size]? = some (.cells #[.int .u32 0, .slice none 0 0, .slice none 0 0, .bool false] 31 (0, 0))) := by
    subst hW; exact (Below.heap_alloc _ _ _ (by simp)).trans (new_block w _)
  have HM1 : Hid (w1.heap[w.heap.size + 1]? = some (.cells #[.int .u32 0, .slice none 0 0, .slice none 0 0, .bool false] 31 (0, 0))) := by
    subst hW; rw [Hid]
    have := new_block (w.alloc (.cells #[.int .u32 0, .slice none 0 0, .slice none 0 0, .bool false] 31)) (.cells #[.int .u32 0, .slice none 0 0, .slice none 0 0, .bool false] 31)
    simpa using this
  have hz1 : w1.heap.size = w.heap.size + 2 := by subst hW; simp
  go_enter Tryz.func67, Tryz.ntmps67
  go_wp2
  try rw [hW]
  clear hW
  go_loopw [5] (fun i wr => ∃ k : Nat, i = .int .i64 k ∧ k ≤ l.length ∧ (l.take k).all noteOk = true ∧ Below w1.heap.size w1 wr) (fun i _ => l.length - (intOf i).toNat)
  case atStart => exact ⟨0, by go_num, Nat.zero_le _, rfl, Below.refl _ _⟩
  case round =>
    obtain ⟨k, rfl, hk, hall, hbel⟩ := hrel
    have HA := Lib.hid hall; clear hall
    have HBW : Hid (Below w.heap.size w wr) := HB1.out.trans (hbel.mono HB1.out.size)
    have HRr := Lib.hid ((hbel.block _ (by omega)).trans HR1.out)
    have HMr := Lib.hid ((hbel.block _ (by omega)).trans HM1.out)
    have HB := Lib.hid hbel; clear hbel
    by_cases hlt : k < l.length
    · obtain rfl := HP.out (by omega)
      obtain ⟨p', cap', b', o', he, -, -, hp', hc'⟩ := HROW.out.keep noteR_keeps HBW.out
      cases he
      cases hp' (by omega)
      obtain ⟨g0, g1, g2, g3, hn1, hn2, hn3⟩ := hc' k hlt
      have HN := Lib.hid (refNote_any l[k] wr hn1 hn2 hn3)
      generalize hxk : l[k] = x at g1 g2 g3 HN
      have HX := Lib.hid hxk; clear hxk hp' hc' hn1 hn2 hn3
      obtain ⟨x1, x2, x3⟩ := x
      simp only [] at g1 g2 g3 HN
      have hok : Hid (noteOk ⟨x1, x2, x3⟩ = noteOk ⟨x1, x2, x3⟩) := rfl
      generalize hb : noteOk ⟨x1, x2, x3⟩ = nb at HN hok
      have HOK := Lib.hid hb; clear hb hok
      cases nb with
      | true =>
        go_wp2_with fail
        refine HN.out.mono ?_
        rintro e w3 ⟨rfl, hB3⟩
        go_wp2
        go_roundw
        case rel => exact ⟨k + 1, by go_num, by omega, take_all_snoc hlt HX.out HA.out HOK.out, HB.out.trans (hB3.mono HB.out.size)⟩
        case measure => simp [intOf]; omega
      | false =>
        go_wp2_with fail
        refine HN.out.mono ?_
        rintro e w3 ⟨rfl, hB3⟩
        have hr3 := (hB3.block _ (by exact (Array.getElem?_eq_some_iff.1 HRr.out).1)).trans HRr.out
        obtain ⟨r0, r1, r2, r3, rz⟩ := fours hr3
        have HPUT := Lib.hid (fours (put4_at (u0 := .int .u32 0) (u1 := .slice none 0 0) (u2 := .slice none 0 0) (u3 := .bool false) hr3))
        have HB3 : Hid (Below w.heap.size w w3) := HBW.out.trans (hB3.mono HBW.out.size)
        clear hr3 hB3
        go_wp2_with fail
        obtain ⟨x0, x1, x2, x3, -⟩ := HPUT.out
        refine bodyPost_ret (v := .tuple #[.agg #[.int .u32 0, .slice none 0 0, .slice none 0 0, .bool false], .int .i64 2]) (by simp [results, Tryz.results67, go_sem, x0, x1, x2, x3]) rfl ?_
        rw [manOf_no hlt HX.out HOK.out]
        exact ⟨_, _, rfl, man0_at _, put4_old HB3.out (Nat.le_refl _)⟩
    · have hke : l.take k = l := List.take_of_length_le (by omega)
      have hal := HA.out
      rw [hke] at hal
      have HAL := Lib.hid hal
      have HEQ : Hid (manOf l = if 16 < (l.foldl manAdd man0).ports.length then (man0, 4) else (l.foldl manAdd man0, 0)) := by
        rw [Hid, manOf, if_pos hal]; rfl
      clear hal hke HB HR1 HM1 HA
      obtain ⟨wz, hwz⟩ : ∃ wz : World, wz = wr := ⟨_, rfl⟩
      go_wp2
      go_loopw [6] (fun i wy => ∃ (k : Nat) (ve vp : Value), i = .int .i64 k ∧ k ≤ l.length ∧ ManAt wy ((l.take k).foldl manAdd man0) ve vp ∧ wy.heap[w.heap.size + 1]? = some (.cells #[.int .u32 ((l.take k).foldl manAdd man0).pages, ve, vp, .bool ((l.take k).foldl manAdd man0).cons] 31 (0, 0)) ∧ wy.heap[w.heap.size]? = some (.cells #[.int .u32 0, .slice none 0 0, .slice none 0 0, .bool false] 31 (0, 0)) ∧ Below w.heap.size w wy) (fun i _ => l.length - (intOf i).toNat)
      case atStart => exact ⟨0, _, _, by go_num, Nat.zero_le _, man0_at _, HMr.out, HRr.out, HBW.out⟩
      case round =>
        obtain ⟨j, ve, vp, rfl, hj, hma, hbm, hbr, hBj⟩ := hrel
        have HLEN := Lib.hid (manAll_len (l.take j) man0)
        have HSN := Lib.hid (fun (h : j < l.length) => manAll_snoc h rfl)
        have HLL : Hid (j = l.length → (l.take j).foldl manAdd man0 = l.foldl manAdd man0) := fun e => by rw [e, List.take_length]
        generalize (l.take j).foldl manAdd man0 = m at hma hbm HLEN HSN HLL
        have HMA := Lib.hid hma
        obtain ⟨⟨p1, c1, b1, o1, rfl, -⟩, ⟨p2, c2, b2, o2, rfl, -⟩, hpg0, hpg1⟩ := hma
        have HBM := Lib.hid hbm
        have HBR := Lib.hid hbr
        have HBJ := Lib.hid hBj
        obtain ⟨mp, me, mq, mc⟩ := m
        simp only [] at hbm hpg0 hpg1 HBM HMA HLEN HSN HLL
        obtain ⟨q0, q1, q2, q3, qz⟩ := fours hbm
        clear hbm hbr hBj
        have hmz : w.heap.size + 1 < wr.heap.size := (Array.getElem?_eq_some_iff.1 HBM.out).1
        by_cases hlj : j < l.length
        · obtain rfl := HP.out (by omega)
          obtain ⟨p', cap', b', o', he, -, -, hp', hc'⟩ := HROW.out.keep noteR_keeps HBJ.out
          cases he
          cases hp' (by omega)
          obtain ⟨g0, g1, g2, g3, -⟩ := hc' j hlj
          have hx : noteOk l[j] = true := List.all_eq_true.1 HAL.out _ (List.getElem_mem hlj)
          have HADD := Lib.hid (radd_any ⟨mp, me, mq, mc⟩ _ _ l[j] wr.drew (HMA.out.keep (Below.refl _ _).drew) hx (HNUM.out _ (List.getElem_mem hlj)) (by have := HLEN.out.1; simp [man0] at this ⊢; omega) (by have := HLEN.out.2; simp [man0] at this ⊢; omega))
          have HSN2 := Lib.hid (HSN.out hlj)
          generalize l[j] = x at g1 g2 g3 HADD HSN2
          obtain ⟨x1, x2, x3⟩ := x
          simp only [] at g1 g2 g3 HADD
          clear hp' hc' hx
          generalize manAdd ⟨mp, me, mq, mc⟩ ⟨x1, x2, x3⟩ = m' at HADD HSN2
          unfold ManPostR at HADD
          go_wp2
          go_still_tail 5, (by kernel_rfl)
          change wpList _ _ _ _ _ wr.drew
          go_wp2_with (go_at_call 168; refine HADD.out.mono ?_; rintro e w4 ⟨ve', vp', rfl, hma, hB4⟩; have HMA4 := Lib.hid hma; obtain ⟨⟨p3, c3, b3, o3, rfl, -⟩, ⟨p4, c4, b4, o4, rfl, -⟩, -⟩ := hma; have HBM4 := Lib.hid ((hB4.block _ hmz).trans HBM.out); have HBR4 := Lib.hid ((hB4.block _ (by show _ < wr.heap.size; omega)).trans HBR.out); have HBJ4 := Lib.hid (HBJ.out.drew.trans (hB4.mono HBJ.out.size)); obtain ⟨s0, s1, s2, s3, sz⟩ := fours HBM4.out; clear hB4)
          refine ⟨⟨j + 1, .slice p3 m'.exts.length c3, .slice p4 m'.ports.length c4, by go_num, by omega, ?_, ?_, ?_, ?_⟩, by simp [intOf]; omega⟩
          · rw [HSN2.out]; exact man_kb HMA4.out HBM4.out HBM4.out (put4_kb w4 _)
          · rw [HSN2.out]; exact put4_at HBM4.out
          · exact (put4_far (by omega)).trans HBR4.out
          · exact put4_old HBJ4.out (by omega)
        · have HLA := Lib.hid (HLL.out (by omega))
          rw [← HLA.out] at HEQ
          simp only [] at HEQ
          obtain ⟨r0, r1, r2, r3, rz⟩ := fours HBR.out
          by_cases h16 : 16 < mq.length
          · have d1 : decide ((16 : Int) < (mq.length : Int)) = true := by simp; omega
            have d2 : decide (16 < mq.length) = true := by simp; omega
            have HPUT := Lib.hid (fours (put4_at (u0 := .int .u32 0) (u1 := .slice none 0 0) (u2 := .slice none 0 0) (u3 := .bool false) HBR.out))
            have HE : Hid (manOf l = (man0, 4)) := by rw [Hid, HEQ.out, if_pos h16]
            clear h16
            go_wp2_with fail
            obtain ⟨x0, x1, x2, x3, -⟩ := HPUT.out
            refine bodyPost_ret (v := .tuple #[.agg #[.int .u32 0, .slice none 0 0, .slice none 0 0, .bool false], .int .i64 4]) (by simp [results, Tryz.results67, go_sem, x0, x1, x2, x3]) rfl ?_
            rw [HE.out]
            exact ⟨_, _, rfl, man0_at _, put4_old HBJ.out (Nat.le_refl _)⟩
          · have d1 : decide ((16 : Int) < (mq.length : Int)) = false := by simp; omega
            have d2 : decide (16 < mq.length) = false := by simp; omega
            have HPUT := Lib.hid (fours (put4_at (u0 := .int .u32 mp) (u1 := .slice p1 me.length c1) (u2 := .slice p2 mq.length c2) (u3 := .bool mc) HBR.out))
            have HE : Hid (manOf l = (⟨mp, me, mq, mc⟩, 0)) := by rw [Hid, HEQ.out, if_neg h16]
            clear h16
            go_wp2_with fail
            obtain ⟨x0, x1, x2, x3, -⟩ := HPUT.out
            refine bodyPost_ret (v := .tuple #[.agg #[.int .u32 mp, .slice p1 me.length c1, .slice p2 mq.length c2, .bool mc], .int .i64 0]) (by simp [results, Tryz.results67, go_sem, x0, x1, x2, x3]) rfl ?_
            rw [HE.out]
            exact ⟨_, _, rfl, man_kb HMA.out HBR.out HBR.out (put4_kb wr _), put4_old HBJ.out (Nat.le_refl _)⟩
end Go.Proofs.YtdjgkmpjhpnkeaaGreatDoor
namespace Go.Proofs.YtdjgkmpjhpnkeaaGreatDoor
open Go.RowKit Go.Maps Go.WideMaps
/-- the row of addresses (block ob) and the row of spans (made later) -/
structure RInv (w0 : World) (ob n : Nat) (v8 : Value) (out : List GAddr) (spans : List GSpan) (wr : World) : Prop where
  row : wr.ownsRow ob 133 3 (.slice (some ⟨ob, 0, none⟩) n n) n (out.flatMap addrCells)
  olen : out.length = n
  ook : ∀ x ∈ out, AddrOk x
  srow : wr.ownsRow w0.heap.size 136 3 v8 spans.length (spans.flatMap spanCells)
  sok : ∀ x ∈ spans, SpanOk x
  kb : KB (fun g => g = ob) w0 wr
theorem RInv.keep {w0 : World} {ob n : Nat} {v8 : Value} {out : List GAddr} {spans : List GSpan} {wr w' : World} (h : RInv w0 ob n v8 out spans wr) (hb : Below wr.heap.size wr w') : RInv w0 ob n v8 out spans w' :=
  ⟨own_congr h.row fun g hg => hb.block g (h.row.lt g hg).2, h.olen, h.ook, own_congr h.srow fun g hg => hb.block g (h.srow.lt g hg).2, h.sok, h.kb.trans (KB.of_below hb)⟩
theorem RInv.set {w0 : World} {ob n : Nat} {v8 : Value} {out : List GAddr} {spans : List GSpan} {wr : World} (h : RInv w0 ob n v8 out spans wr) (ho : ob < w0.heap.size) {i : Nat} (hi : i < n) (x : GAddr) (hx : AddrOk x) :
    RInv w0 ob n v8 (out.set i x) spans (((wr.setCell ⟨ob, i * 3, none⟩ (.int .i64 x.obj)).setCell ⟨ob, i * 3 + 1, none⟩ (.int .i64 x.sym)).setCell ⟨ob, i * 3 + 2, none⟩ (.int .u32 x.at_)) := by
  have hset : ∀ g, g ≠ ob → (((wr.setCell ⟨ob, i * 3, none⟩ (.int .i64 x.obj)).setCell ⟨ob, i * 3 + 1, none⟩ (.int .i64 x.sym)).setCell ⟨ob, i * 3 + 2, none⟩ (.int .u32 x.at_)).heap[g]? = wr.heap[g]? := fun g hg => by
    rw [Below.heap_setCell _ _ _ _ (by simpa using hg), Below.heap_setCell _ _ _ _ (by simpa using hg), Below.heap_setCell _ _ _ _ (by simpa using hg)]
  refine ⟨?_, by simpa using h.olen, ?_, own_congr h.srow fun g hg => hset g fun e => by have := (h.srow.lt g hg).1; omega, h.sok, ((h.kb.setCell (.inl rfl) _).setCell (.inl rfl) _).setCell (.inl rfl) _⟩
  · rw [← flat_set3 addrCells_len (x := x) rfl out i (by rw [h.olen]; exact hi)]
    exact (((h.row.stored _ _).1.stored _ _).1.stored _ _).1
  · intro y hy
    rcases List.mem_or_eq_of_mem_set hy with hy | rfl
    · exact h.ook y hy
    · exact hx
/-- the last span is written anew -/
theorem RInv.last {w0 : World} {ob n g m cap : Nat} {out : List GAddr} {ss : List GSpan} {y : GSpan} {wr : World} (h : RInv w0 ob n (.slice (some ⟨g, 0, none⟩) (m + 1) cap) out (ss ++ [y]) wr) (ho : ob < w0.heap.size) (hm : ss.length = m) (x : GSpan) (hx : SpanOk x) :
    RInv w0 ob n (.slice (some ⟨g, 0, none⟩) (m + 1) cap) out (ss ++ [x]) (((wr.setCell ⟨g, m * 3, none⟩ (.int .u8 x.kind)).setCell ⟨g, m * 3 + 1, none⟩ (.int .u32 x.at_)).setCell ⟨g, m * 3 + 2, none⟩ (.int .u32 x.size)) := by
  have hg0 := (h.srow.lt g rfl).1
  have hset : ∀ b, b ≠ g → (((wr.setCell ⟨g, m * 3, none⟩ (.int .u8 x.kind)).setCell ⟨g, m * 3 + 1, none⟩ (.int .u32 x.at_)).setCell ⟨g, m * 3 + 2, none⟩ (.int .u32 x.size)).heap[b]? = wr.heap[b]? := fun b hb => by
    rw [Below.heap_setCell _ _ _ _ (by simpa using hb), Below.heap_setCell _ _ _ _ (by simpa using hb), Below.heap_setCell _ _ _ _ (by simpa using hb)]
  refine ⟨own_congr h.row fun b hb => hset b fun e => by cases hb; simp only [] at e; omega, h.olen, h.ook, ?_, ?_, ((h.kb.setCell (.inr hg0) _).setCell (.inr hg0) _).setCell (.inr hg0) _⟩
  · have e1 : ss ++ [x] = (ss ++ [y]).set m x := by subst hm; simp
    have hl : (ss ++ [x]).length = m + 1 := by simp [hm]
    have hs := h.srow
    rw [show (ss ++ [y]).length = m + 1 by simp [hm]] at hs
    rw [hl, e1, ← flat_set3 spanCells_len (x := x) rfl (ss ++ [y]) m (by subst hm; simp)]
    exact (((hs.stored _ _).1.stored _ _).1.stored _ _).1
  · intro z hz
    rcases List.mem_append.1 hz with hz | hz
    · exact h.sok z (List.mem_append_left _ hz)
    · obtain rfl : z = x := by simpa using hz
      exact hx
/-- where the reference stands within a kind -/
def InSp (kd pg : Int) (spans0 : List GSpan) (nn : Nat) (a e : Int) (sp : List GSpan) : Prop :=
  (nn = 0 ∧ sp = spans0 ∧ upTo a 256 = pg ∧ e = pg) ∨ (0 < nn ∧ sp = spans0 ++ [⟨kd, pg, a - pg⟩] ∧ e = a ∧ pg < a)
theorem upTo_idem (e : Int) : upTo (upTo e 256) 256 = upTo e 256 := by unfold upTo; omega
/-- the kinds, as a slice whose element j is kd -/
def KindsPost (j : Nat) (kd : Int) (w : World) (e : Ending) (w' : World) : Prop := ∃ g, e = .returned (.slice (some ⟨g, 0, none⟩) 3 3) ∧ w'.cell? ⟨g, j, none⟩ = some (.int .u8 kd) ∧ w.heap.size ≤ g ∧ g < w'.heap.size ∧ Below w.heap.size w w'
theorem kinds_at (j : Nat) (kd : Int) (w : World) (hj : j < 3) (h : ([1, 3, 2] : List Int).drop j = kd :: ([1, 3, 2] : List Int).drop (j + 1)) : Calls Tryz.prog 164 #[] w (KindsPost j kd w) :=
  (kinds_any w).mono fun e w' ⟨he, hw⟩ => by
    subst hw
    refine ⟨_, he, ?_, Nat.le_refl _, by simp, alloc_old w _⟩
    have h3 : j = 0 ∨ j = 1 ∨ j = 2 := by omega
    rcases h3 with rfl | rfl | rfl <;> (simp at h; subst h; simp [go_sem])
theorem RInv.shape {w0 : World} {ob n : Nat} {v8 : Value} {out : List GAddr} {ss : List GSpan} {y : GSpan} {wr : World} (h : RInv w0 ob n v8 out (ss ++ [y]) wr) : ∃ g cap, v8 = .slice (some ⟨g, 0, none⟩) (ss.length + 1) cap ∧ w0.heap.size ≤ g ∧ g < wr.heap.size ∧ ss.length + 1 ≤ cap := by
  have hl : (ss ++ [y]).length = ss.length + 1 := by simp
  have hs := h.srow
  rw [hl] at hs
  rcases hs.2 with ⟨-, h0⟩ | ⟨g, cap, cur, rfl, hb, -, hnc, -⟩
  · omega
  · exact ⟨g, cap, rfl, hb, (h.srow.lt g rfl).2, hnc⟩
/-- the last span's cells -/
theorem RInv.lastCells {w0 : World} {ob n g m cap : Nat} {out : List GAddr} {ss : List GSpan} {y : GSpan} {wr : World} (h : RInv w0 ob n (.slice (some ⟨g, 0, none⟩) (m + 1) cap) out (ss ++ [y]) wr) (hm : ss.length = m) :
    wr.cell? ⟨g, m * 3, none⟩ = some (.int .u8 y.kind) ∧ wr.cell? ⟨g, m * 3 + 1, none⟩ = some (.int .u32 y.at_) ∧ wr.cell? ⟨g, m * 3 + 2, none⟩ = some (.int .u32 y.size) ∧ wr.frozen? ⟨g, m * 3, none⟩ = false ∧ wr.frozen? ⟨g, m * 3 + 1, none⟩ = false ∧ wr.frozen? ⟨g, m * 3 + 2, none⟩ = false := by
  have hs := h.srow
  have hl : (ss ++ [y]).length = m + 1 := by simp [hm]
  rw [hl] at hs
  have hget : ∀ j, j < 3 → wr.cell? ⟨g, m * 3 + j, none⟩ = (spanCells y)[j]? := fun j hj => by
    rw [hs.cellAt _ (by omega), flat_get spanCells_len _ m j (by omega) hj]
    simp [← hm]
  exact ⟨hget 0 (by omega), hget 1 (by omega), hget 2 (by omega), hs.frozenAt _, hs.frozenAt _, hs.frozenAt _⟩
theorem RInv.outCells {w0 : World} {ob n : Nat} {v8 : Value} {out : List GAddr} {spans : List GSpan} {wr : World} (h : RInv w0 ob n v8 out spans wr) {k : Nat} (hk : k < n) :
    ∃ c0 c1 c2, wr.cell? ⟨ob, k * 3, none⟩ = some c0 ∧ wr.cell? ⟨ob, k * 3 + 1, none⟩ = some c1 ∧ wr.cell? ⟨ob, k * 3 + 2, none⟩ = some c2 ∧ wr.frozen? ⟨ob, k * 3, none⟩ = false ∧ wr.frozen? ⟨ob, k * 3 + 1, none⟩ = false ∧ wr.frozen? ⟨ob, k * 3 + 2, none⟩ = false := by
  have hl : (out.flatMap addrCells).length = n * 3 := by rw [flat_len addrCells_len, h.olen]
  exact ⟨_, _, _, (h.row.cellAt _ (by omega)).trans (List.getElem?_eq_getElem (by omega)), (h.row.cellAt _ (by omega)).trans (List.getElem?_eq_getElem (by omega)), (h.row.cellAt _ (by omega)).trans (List.getElem?_eq_getElem (by omega)), h.row.frozenAt _, h.row.frozenAt _, h.row.frozenAt _⟩
theorem cell_set3 {w : World} {ob o1 o2 o3 b o : Nat} {x y z u : Value} (hb : b ≠ ob) (h : w.cell? ⟨b, o, none⟩ = some u) : (((w.setCell ⟨ob, o1, none⟩ x).setCell ⟨ob, o2, none⟩ y).setCell ⟨ob, o3, none⟩ z).cell? ⟨b, o, none⟩ = some u := by
  rw [World.cell?_of_block (w := w) (by rw [Below.heap_setCell _ _ _ _ (by simpa using hb), Below.heap_setCell _ _ _ _ (by simpa using hb), Below.heap_setCell _ _ _ _ (by simpa using hb)])]
  exact h
/-- a span is appended -/
theorem RInv.grow {w0 : World} {ob n : Nat} {v8 v' : Value} {out : List GAddr} {ss : List GSpan} {y : GSpan} {wr w1 w' : World} (h : RInv w0 ob n v8 out ss wr) (ho : ob < w0.heap.size) (hb1 : Below wr.heap.size wr w1) (hown : w'.ownsRow w0.heap.size 136 3 v' (ss.length + 1) (ss.flatMap spanCells ++ spanCells y)) (hg : w1.grownBy w' v8.ownBlock) (hy : SpanOk y) :
    RInv w0 ob n v' out (ss ++ [y]) w' := by
  have hb : ∀ g, g < w0.heap.size → w'.heap[g]? = wr.heap[g]? := fun g hg' => by
    have hz := h.kb.size
    have hz1 := hb1.size
    rw [hg.block g (by omega) (fun e => by have := (h.srow.lt g e.symm).1; omega), hb1.block g (by omega)]
  refine ⟨own_congr h.row fun g hg' => hb g (by cases hg'; exact ho), h.olen, h.ook, ?_, fun x hx => ?_, (h.kb.trans (KB.of_below hb1)).grown hg fun g hg' => .inr (h.srow.lt g hg').1⟩
  · have e1 : (ss ++ [y]).length = ss.length + 1 := by simp
    rw [e1]; simpa using hown
  · rcases List.mem_append.1 hx with hx | hx
    · exact h.sok x hx
    · obtain rfl : x = y := by simpa using hx
      exact hy
end Go.Proofs.YtdjgkmpjhpnkeaaGreatDoor
