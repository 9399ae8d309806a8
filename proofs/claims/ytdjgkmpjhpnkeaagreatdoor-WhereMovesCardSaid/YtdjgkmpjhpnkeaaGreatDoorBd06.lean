/- The walk of lay.sym. The walk of link's sym. resolve.begin, whatever the objects, and the walk of resolve.Check. The walk of lay.may. The walk of lay.up. The walks of lay's layer: begin and lay. Rows of addresses and spans that a call makes; what lay.Of keeps. -/
import Derived.Test.YtdjgkmpjhpnkeaaGreatDoorBd05
import Derived.Test.YtdjgkmpjhpnkeaaGreatDoorBd02
import Derived.Test.YtdjgkmpjhpnkeaaGreatDoorBd04
import Derived.Test.YtdjgkmpjhpnkeaaGreatDoorRows
import Derived.Lib.Hide
import Derived.Laws.BitsAllLaws
import Derived.RegionTactic
import Derived.ChangeAlike
import Derived.BigRegion
import Derived.Deep.AppendLies
namespace Go.Proofs.YtdjgkmpjhpnkeaaGreatDoor
open Go.RowKit Go.Maps Go.WideMaps
def symV (s : GSym) (vr vn : Value) : Value := .agg #[.string s.name, .int .u8 s.bind, .int .u8 s.kind, .int .u32 s.size, .string s.bytes, vr, vn]
def SymPost (w : World) (o : Option GSym) (e : Ending) (w' : World) : Prop :=
  (match o with
    | some s => ∃ vr vn, e = .returned (.tuple #[symV s vr vn, .bool true]) ∧ SymIn w' s vr vn
    | none => e = .returned (.tuple #[.agg #[.string ⟨#[]⟩, .int .u8 0, .int .u8 0, .int .u32 0, .string ⟨#[]⟩, .slice none 0 0, .slice none 0 0], .bool false])) ∧ Below w.heap.size w w'
set_option maxRecDepth 100000 in
set_option maxHeartbeats 1000000 in
theorem laySym_some (v : Value) (l : List GObj) (a b : Nat) (w : World) (h : ObjsAt w v l) (ha : a < l.length) (hb : b < l[a].syms.length) :
    Calls Tryz.prog 83 #[v, .agg #[.int .i64 a, .int .i64 b]] w (SymPost w (some l[a].syms[b])) := by
  obtain ⟨p, cap, bb, o, rfl, hcap, hmax, hp, hc⟩ := h
  obtain rfl := hp (by omega)
  obtain ⟨vs, g0, g1, g2, ⟨pS, capS, bS, oS, rfl, hcapS, hmaxS, hpS, hcS⟩, -⟩ := hc a ha
  obtain rfl := hpS (by omega)
  obtain ⟨vr, vn, s0, s1, s2, s3, s4, s5, s6, s7, hin⟩ := hcS b hb
  obtain ⟨p1, q1, p2, q2, rfl, rfl⟩ := hin.shape
  have hnb : b < l[a].syms.length := hb
  generalize hy : l[a].syms[b] = y at s1 s2 s3 s4 s5 s6 s7 hin ⊢
  clear hc hp hcS hpS g1 hy
  generalize l[a].syms.length = nS at g2 hnb hcapS hmaxS hb
  obtain ⟨yn, yb, yk, ys, yy, yr, yt⟩ := y
  simp only [] at s1 s2 s3 s4 s5 s6 s7 hin ⊢
  have HIN := Lib.hid hin; clear hin
  have d1 : decide ((a : Int) < 0) = false := by simp
  have d2 : decide ((l.length : Int) ≤ (a : Int)) = false := by simp; omega
  have d2' : decide (l.length ≤ a) = false := by simp; omega
  have d3 : decide ((b : Int) < 0) = false := by simp
  have d4 : decide ((nS : Int) ≤ (b : Int)) = false := by simp; omega
  have d4' : decide (nS ≤ b) = false := by simp; omega
  go_enter Tryz.func83, Tryz.ntmps83
  go_wp2
  go_quiet (fail)
  rename_i nq
  generalize hw1 : (((w.alloc (.cells #[.int .i64 a, .int .i64 b] 63)).alloc (.cells #[.string ⟨#[]⟩, .int .u8 0, .int .u8 0, .int .u32 0, .string ⟨#[]⟩, .slice none 0 0, .slice none 0 0] 72)).drewN nq) = w1
  have HB1 : Hid (Below w.heap.size w w1) := by subst hw1; exact below_drewN ((alloc_old w _).alloc (by simp) _) _
  have z1 : w.heap.size + 1 < w1.heap.size := by subst hw1; simp
  have r0 : w1.cell? ⟨w.heap.size, 0, none⟩ = some (.int .i64 a) := by subst hw1; simp [go_sem]
  have r1 : w1.cell? ⟨w.heap.size, 1, none⟩ = some (.int .i64 b) := by subst hw1; simp [go_sem]
  have t0 : w1.cell? ⟨w.heap.size + 1, 0, none⟩ = some (.string ⟨#[]⟩) := by subst hw1; simp [go_sem]
  have t1 : w1.cell? ⟨w.heap.size + 1, 1, none⟩ = some (.int .u8 0) := by subst hw1; simp [go_sem]
  have t2 : w1.cell? ⟨w.heap.size + 1, 2, none⟩ = some (.int .u8 0) := by subst hw1; simp [go_sem]
  have t3 : w1.cell? ⟨w.heap.size + 1, 3, none⟩ = some (.int .u32 0) := by subst hw1; simp [go_sem]
  have t4 : w1.cell? ⟨w.heap.size + 1, 4, none⟩ = some (.string ⟨#[]⟩) := by subst hw1; simp [go_sem]
  have t5 : w1.cell? ⟨w.heap.size + 1, 5, none⟩ = some (.slice none 0 0) := by subst hw1; simp [go_sem]
  have t6 : w1.cell? ⟨w.heap.size + 1, 6, none⟩ = some (.slice none 0 0) := by subst hw1; simp [go_sem]
  have u : ∀ j, w1.frozen? ⟨w.heap.size + 1, j, none⟩ = false := by intro j; subst hw1; simp [go_sem]
  have u0 := u 0; have u1 := u 1; have u2 := u 2; have u3 := u 3; have u4 := u 4; have u5 := u 5; have u6 := u 6
  clear u hw1
  replace g2 := cell_keep HB1.out g0 g2
  replace s1 := cell_keep HB1.out s0 s1
  replace s2 := cell_keep HB1.out s0 s2
  replace s3 := cell_keep HB1.out s0 s3
  replace s4 := cell_keep HB1.out s0 s4
  replace s5 := cell_keep HB1.out s0 s5
  replace s6 := cell_keep HB1.out s0 s6
  replace s7 := cell_keep HB1.out s0 s7
  go_wp2
  go_still_tail 10, (by kernel_rfl)
  change wpList _ _ _ _ _ w1.drew
  go_wp2
  refine bodyPost_ret (v := .tuple #[symV ⟨yn, yb, yk, ys, yy, yr, yt⟩ (.slice p1 yr.length q1) (.slice p2 yt.length q2), .bool true]) (by simp [results, Tryz.results83, go_sem, symV, *]) rfl ?_
  have hfin : Below w.heap.size w (((((((w1.setCell ⟨w.heap.size + 1, 0, none⟩ (.string yn)).setCell ⟨w.heap.size + 1, 1, none⟩ (.int .u8 yb)).setCell ⟨w.heap.size + 1, 2, none⟩ (.int .u8 yk)).setCell ⟨w.heap.size + 1, 3, none⟩ (.int .u32 ys)).setCell ⟨w.heap.size + 1, 4, none⟩ (.string yy)).setCell ⟨w.heap.size + 1, 5, none⟩ (.slice p1 yr.length q1)).setCell ⟨w.heap.size + 1, 6, none⟩ (.slice p2 yt.length q2)) :=
    ((((((HB1.out.setCell (by simp) _).setCell (by simp) _).setCell (by simp) _).setCell (by simp) _).setCell (by simp) _).setCell (by simp) _).setCell (by simp) _
  exact ⟨⟨_, _, rfl, SymIn.keep hfin.drew HIN.out⟩, hfin.drew⟩
set_option maxRecDepth 100000 in
set_option maxHeartbeats 1000000 in
theorem laySym_none (v : Value) (l : List GObj) (p : GP) (w : World) (h : ObjsAt w v l) (hn : symAt l p = none) :
    Calls Tryz.prog 83 #[v, .agg #[.int .i64 p.1, .int .i64 p.2]] w (SymPost w none) := by
  obtain ⟨pp, cap, bb, o, rfl, hcap, hmax, hp, hc⟩ := h
  rcases symAt_none hn with h1 | h1 | h1 | ⟨a, b, ha, rfl, hb⟩
  · have d1 : decide (p.1 < 0) = true := by simpa using h1
    clear hn hc hp
    obtain ⟨x, y⟩ := p
    simp only [] at *
    go_enter Tryz.func83, Tryz.ntmps83
    go_wp2
    go_quiet (fail)
    go_wp2
    refine bodyPost_ret (v := .tuple #[.agg #[.string ⟨#[]⟩, .int .u8 0, .int .u8 0, .int .u32 0, .string ⟨#[]⟩, .slice none 0 0, .slice none 0 0], .bool false]) (by simp [results, Tryz.results83, go_sem]) rfl ?_
    exact ⟨rfl, (((((((below_drewN ((alloc_old w _).alloc (by simp) _) _).setCell (by simp) _).setCell (by simp) _).setCell (by simp) _).setCell (by simp) _).setCell (by simp) _).setCell (by simp) _).setCell (by simp) _⟩
  · have d1 : decide (p.1 < 0) = false := by simp; omega
    have d2 : decide ((l.length : Int) ≤ p.1) = true := by simpa using h1
    clear hn hc hp
    obtain ⟨x, y⟩ := p
    simp only [] at *
    go_enter Tryz.func83, Tryz.ntmps83
    go_wp2
    go_quiet (fail)
    go_wp2
    refine bodyPost_ret (v := .tuple #[.agg #[.string ⟨#[]⟩, .int .u8 0, .int .u8 0, .int .u32 0, .string ⟨#[]⟩, .slice none 0 0, .slice none 0 0], .bool false]) (by simp [results, Tryz.results83, go_sem]) rfl ?_
    exact ⟨rfl, (((((((below_drewN ((alloc_old w _).alloc (by simp) _) _).setCell (by simp) _).setCell (by simp) _).setCell (by simp) _).setCell (by simp) _).setCell (by simp) _).setCell (by simp) _).setCell (by simp) _⟩
  · by_cases h2 : p.1 < 0
    · have d1 : decide (p.1 < 0) = true := by simpa using h2
      clear hn hc hp
      obtain ⟨x, y⟩ := p
      simp only [] at *
      go_enter Tryz.func83, Tryz.ntmps83
      go_wp2
      go_quiet (fail)
      go_wp2
      refine bodyPost_ret (v := .tuple #[.agg #[.string ⟨#[]⟩, .int .u8 0, .int .u8 0, .int .u32 0, .string ⟨#[]⟩, .slice none 0 0, .slice none 0 0], .bool false]) (by simp [results, Tryz.results83, go_sem]) rfl ?_
      exact ⟨rfl, (((((((below_drewN ((alloc_old w _).alloc (by simp) _) _).setCell (by simp) _).setCell (by simp) _).setCell (by simp) _).setCell (by simp) _).setCell (by simp) _).setCell (by simp) _).setCell (by simp) _⟩
    by_cases h3 : (l.length : Int) ≤ p.1
    · have d1 : decide (p.1 < 0) = false := by simp; omega
      have d2 : decide ((l.length : Int) ≤ p.1) = true := by simpa using h3
      clear hn hc hp
      obtain ⟨x, y⟩ := p
      simp only [] at *
      go_enter Tryz.func83, Tryz.ntmps83
      go_wp2
      go_quiet (fail)
      go_wp2
      refine bodyPost_ret (v := .tuple #[.agg #[.string ⟨#[]⟩, .int .u8 0, .int .u8 0, .int .u32 0, .string ⟨#[]⟩, .slice none 0 0, .slice none 0 0], .bool false]) (by simp [results, Tryz.results83, go_sem]) rfl ?_
      exact ⟨rfl, (((((((below_drewN ((alloc_old w _).alloc (by simp) _) _).setCell (by simp) _).setCell (by simp) _).setCell (by simp) _).setCell (by simp) _).setCell (by simp) _).setCell (by simp) _).setCell (by simp) _⟩
    have d1 : decide (p.1 < 0) = false := by simp; omega
    have d2 : decide ((l.length : Int) ≤ p.1) = false := by simp; omega
    have d3 : decide (p.2 < 0) = true := by simpa using h1
    clear hn hc hp
    obtain ⟨x, y⟩ := p
    simp only [] at *
    go_enter Tryz.func83, Tryz.ntmps83
    go_wp2
    go_quiet (fail)
    go_wp2
    refine bodyPost_ret (v := .tuple #[.agg #[.string ⟨#[]⟩, .int .u8 0, .int .u8 0, .int .u32 0, .string ⟨#[]⟩, .slice none 0 0, .slice none 0 0], .bool false]) (by simp [results, Tryz.results83, go_sem]) rfl ?_
    exact ⟨rfl, (((((((below_drewN ((alloc_old w _).alloc (by simp) _) _).setCell (by simp) _).setCell (by simp) _).setCell (by simp) _).setCell (by simp) _).setCell (by simp) _).setCell (by simp) _).setCell (by simp) _⟩
  · obtain rfl := hp (by omega)
    obtain ⟨vs, g0, g1, g2, ⟨pS, capS, bS, oS, rfl, hcapS, hmaxS, -⟩, -⟩ := hc a ha
    clear hc hp g1 hn
    generalize l[a].syms.length = nS at g2 hb hcapS hmaxS
    have d1 : decide ((a : Int) < 0) = false := by simp
    have d2 : decide ((l.length : Int) ≤ (a : Int)) = false := by simp; omega
    have d2' : decide (l.length ≤ a) = false := by simp; omega
    have d3 : decide ((b : Int) < 0) = false := by simp
    have d4 : decide ((nS : Int) ≤ (b : Int)) = true := by simp; omega
    have d4' : decide (nS ≤ b) = true := by simp; omega
    simp only [] at *
    go_enter Tryz.func83, Tryz.ntmps83
    go_wp2
    go_quiet (fail)
    go_wp2
    refine bodyPost_ret (v := .tuple #[.agg #[.string ⟨#[]⟩, .int .u8 0, .int .u8 0, .int .u32 0, .string ⟨#[]⟩, .slice none 0 0, .slice none 0 0], .bool false]) (by simp [results, Tryz.results83, go_sem]) rfl ?_
    exact ⟨rfl, (((((((below_drewN ((alloc_old w _).alloc (by simp) _) _).setCell (by simp) _).setCell (by simp) _).setCell (by simp) _).setCell (by simp) _).setCell (by simp) _).setCell (by simp) _).setCell (by simp) _⟩
theorem laySym_any (v : Value) (l : List GObj) (p : GP) (w : World) (h : ObjsAt w v l) :
    Calls Tryz.prog 83 #[v, .agg #[.int .i64 p.1, .int .i64 p.2]] w (SymPost w (symAt l p)) := by
  cases hs : symAt l p with
  | none => exact laySym_none v l p w h hs
  | some s =>
    obtain ⟨a, b, ha, hb, rfl, rfl⟩ := symAt_some hs
    exact laySym_some v l a b w h ha hb
end Go.Proofs.YtdjgkmpjhpnkeaaGreatDoor
namespace Go.Proofs.YtdjgkmpjhpnkeaaGreatDoor
open Go.RowKit Go.Maps Go.WideMaps
def SymLPost (w : World) (s : GSym) (e : Ending) (w' : World) : Prop := (∃ vr vn, e = .returned (symV s vr vn) ∧ SymIn w' s vr vn) ∧ Below w.heap.size w w'
set_option maxRecDepth 100000 in
set_option maxHeartbeats 1000000 in
theorem linkSym_at (xb : Nat) (v : Value) (l : List GObj) (a b : Nat) (w : World) (h : ObjsAt w v l) (hx : xb < w.heap.size) (hx7 : w.cell? ⟨xb, 7, none⟩ = some v) (ha : a < l.length) (hb : b < l[a].syms.length) :
    Calls Tryz.prog 58 #[.pointer (some ⟨xb, 0, none⟩), .agg #[.int .i64 a, .int .i64 b]] w (SymLPost w l[a].syms[b]) := by
  obtain ⟨p, cap, bb, o, rfl, hcap, hmax, hp, hc⟩ := h
  obtain rfl := hp (by omega)
  obtain ⟨vs, g0, g1, g2, ⟨pS, capS, bS, oS, rfl, hcapS, hmaxS, hpS, hcS⟩, -⟩ := hc a ha
  obtain rfl := hpS (by omega)
  obtain ⟨vr, vn, s0, s1, s2, s3, s4, s5, s6, s7, hin⟩ := hcS b hb
  obtain ⟨p1, q1, p2, q2, rfl, rfl⟩ := hin.shape
  have hnb : b < l[a].syms.length := hb
  generalize hy : l[a].syms[b] = y at s1 s2 s3 s4 s5 s6 s7 hin ⊢
  clear hc hp hcS hpS g1 hy
  generalize l[a].syms.length = nS at g2 hnb hcapS hmaxS hb
  obtain ⟨yn, yb, yk, ys, yy, yr, yt⟩ := y
  simp only [] at s1 s2 s3 s4 s5 s6 s7 hin ⊢
  have HIN := Lib.hid hin; clear hin
  go_enter Tryz.func58, Tryz.ntmps58
  go_wp2
  generalize hw1 : ((w.alloc (.cells #[.int .i64 a, .int .i64 b] 63)).alloc (.cells #[.string ⟨#[]⟩, .int .u8 0, .int .u8 0, .int .u32 0, .string ⟨#[]⟩, .slice none 0 0, .slice none 0 0] 72)) = w1
  have HB1 : Hid (Below w.heap.size w w1) := by subst hw1; exact (alloc_old w _).alloc (by simp) _
  have z1 : w.heap.size + 1 < w1.heap.size := by subst hw1; simp
  have r0 : w1.cell? ⟨w.heap.size, 0, none⟩ = some (.int .i64 a) := by subst hw1; simp [go_sem]
  have r1 : w1.cell? ⟨w.heap.size, 1, none⟩ = some (.int .i64 b) := by subst hw1; simp [go_sem]
  have t0 : w1.cell? ⟨w.heap.size + 1, 0, none⟩ = some (.string ⟨#[]⟩) := by subst hw1; simp [go_sem]
  have t1 : w1.cell? ⟨w.heap.size + 1, 1, none⟩ = some (.int .u8 0) := by subst hw1; simp [go_sem]
  have t2 : w1.cell? ⟨w.heap.size + 1, 2, none⟩ = some (.int .u8 0) := by subst hw1; simp [go_sem]
  have t3 : w1.cell? ⟨w.heap.size + 1, 3, none⟩ = some (.int .u32 0) := by subst hw1; simp [go_sem]
  have t4 : w1.cell? ⟨w.heap.size + 1, 4, none⟩ = some (.string ⟨#[]⟩) := by subst hw1; simp [go_sem]
  have t5 : w1.cell? ⟨w.heap.size + 1, 5, none⟩ = some (.slice none 0 0) := by subst hw1; simp [go_sem]
  have t6 : w1.cell? ⟨w.heap.size + 1, 6, none⟩ = some (.slice none 0 0) := by subst hw1; simp [go_sem]
  have u : ∀ j, w1.frozen? ⟨w.heap.size + 1, j, none⟩ = false := by intro j; subst hw1; simp [go_sem]
  have u0 := u 0; have u1 := u 1; have u2 := u 2; have u3 := u 3; have u4 := u 4; have u5 := u 5; have u6 := u 6
  clear u hw1
  replace hx7 := cell_keep HB1.out hx hx7
  replace g2 := cell_keep HB1.out g0 g2
  replace s1 := cell_keep HB1.out s0 s1
  replace s2 := cell_keep HB1.out s0 s2
  replace s3 := cell_keep HB1.out s0 s3
  replace s4 := cell_keep HB1.out s0 s4
  replace s5 := cell_keep HB1.out s0 s5
  replace s6 := cell_keep HB1.out s0 s6
  replace s7 := cell_keep HB1.out s0 s7
  go_still_tail 13, (by kernel_rfl)
  change wpList _ _ _ _ _ w1.drew
  go_wp2
  refine bodyPost_ret (v := symV ⟨yn, yb, yk, ys, yy, yr, yt⟩ (.slice p1 yr.length q1) (.slice p2 yt.length q2)) (by simp [results, Tryz.results58, go_sem, symV, *]) rfl ?_
  have hfin : Below w.heap.size w (((((((w1.setCell ⟨w.heap.size + 1, 0, none⟩ (.string yn)).setCell ⟨w.heap.size + 1, 1, none⟩ (.int .u8 yb)).setCell ⟨w.heap.size + 1, 2, none⟩ (.int .u8 yk)).setCell ⟨w.heap.size + 1, 3, none⟩ (.int .u32 ys)).setCell ⟨w.heap.size + 1, 4, none⟩ (.string yy)).setCell ⟨w.heap.size + 1, 5, none⟩ (.slice p1 yr.length q1)).setCell ⟨w.heap.size + 1, 6, none⟩ (.slice p2 yt.length q2)) :=
    ((((((HB1.out.setCell (by simp) _).setCell (by simp) _).setCell (by simp) _).setCell (by simp) _).setCell (by simp) _).setCell (by simp) _).setCell (by simp) _
  exact ⟨⟨_, _, rfl, SymIn.keep hfin.drew HIN.out⟩, hfin.drew⟩
theorem linkSym_any (xb : Nat) (v : Value) (l : List GObj) (p : GP) (s : GSym) (w : World) (h : ObjsAt w v l) (hx : xb < w.heap.size) (hx7 : w.cell? ⟨xb, 7, none⟩ = some v) (hs : symAt l p = some s) :
    Calls Tryz.prog 58 #[.pointer (some ⟨xb, 0, none⟩), .agg #[.int .i64 p.1, .int .i64 p.2]] w (SymLPost w s) := by
  obtain ⟨a, b, ha, hb, rfl, rfl⟩ := symAt_some hs
  exact linkSym_at xb v l a b w h hx hx7 ha hb
end Go.Proofs.YtdjgkmpjhpnkeaaGreatDoor
namespace Go.Proofs.YtdjgkmpjhpnkeaaGreatDoor
open Go.RowKit Go.Maps Go.WideMaps
/-- begin, whatever the objects: by what it answers -/
def BeginPost (v : Value) (l : List GObj) (w : World) (e : Ending) (w' : World) : Prop :=
  ((∃ c : Int, (beginR l).2 = c ∧ c ≠ 0 ∧ e = .returned (.tuple #[.pointer none, .string (beginR l).1, .int .i64 c])) ∨ ((beginR l).2 = 0 ∧ (beginR l).1 = emptyB ∧ ∃ rb, e = .returned (.tuple #[.pointer (some ⟨rb, 0, none⟩), .string emptyB, .int .i64 0]) ∧ Resolver w' rb v l)) ∧ Below w.heap.size w w'
theorem begin_any (v : Value) (l : List GObj) (w : World) (h : ObjsAt w v l) : Calls Tryz.prog 143 #[v] w (BeginPost v l w) := by
  by_cases hm : mayAll l = true
  · refine (begin_ok v l w h hm).mono fun e w' ⟨h1, h2⟩ => ⟨?_, h2⟩
    rcases h1 with ⟨n, hd, rfl⟩ | ⟨hd, rb, rfl, hr⟩
    · exact .inl ⟨120, by simp [beginR, hm, hd], by decide, by simp [beginR, hm, hd]⟩
    · exact .inr ⟨by simp [beginR, hm, hd], by simp [beginR, hm, hd], rb, rfl, hr⟩
  · have hm' : mayAll l = false := by simpa using hm
    refine (begin_bad v l w h hm').mono fun e w' ⟨h1, h2⟩ => ⟨?_, h2⟩
    subst h1
    exact .inl ⟨2, by simp [beginR, hm'], by decide, by simp [beginR, hm']⟩
set_option maxHeartbeats 1000000 in
theorem resCheck_any (v : Value) (l : List GObj) (w : World) (h : ObjsAt w v l) :
    Calls Tryz.prog 215 #[v] w fun e w' => e = .returned (.tuple #[.string (beginR l).1, .int .i64 (beginR l).2]) ∧ Below w.heap.size w w' := by
  have HBG := Lib.hid (begin_any v l w h); clear h
  go_enter Tryz.func215, Tryz.ntmps215
  go_wp2_with fail
  refine HBG.out.mono ?_
  rintro e w1 ⟨hcase, hB⟩
  rcases hcase with ⟨c, hb2, hc0, rfl⟩ | ⟨hb2, hb1, rb, rfl, hres⟩
  · have HB2 := Lib.hid hb2; clear hb2 hc0
    generalize hbn : (beginR l).1 = bn
    have HBN := Lib.hid hbn; clear hbn
    go_wp2_with fail
    go_ret2
    exact ⟨by rw [HB2.out, HBN.out]; rfl, hB⟩
  · have HB2 := Lib.hid hb2; clear hb2
    have HB1 := Lib.hid hb1; clear hb1 hres
    go_wp2_with fail
    go_ret2
    exact ⟨by rw [HB2.out, HB1.out]; rfl, hB⟩
end Go.Proofs.YtdjgkmpjhpnkeaaGreatDoor
namespace Go.Proofs.YtdjgkmpjhpnkeaaGreatDoor
open Go.RowKit Go.Maps Go.WideMaps
def prevP (ps : List GP) (k : Nat) : Option GP := if k = 0 then none else ps[k - 1]?
theorem mayGo_yes {l : List GObj} {ps : List GP} {k : Nat} {p : GP} {b : Bool} (hk : k < ps.length) (hp : ps[k] = p) (h : mayGo l (prevP ps k) (ps.drop k) = b) (h1 : (symAt l p).isSome = true) (h2 : ∀ q, prevP ps k = some q → ordP q p = true) : mayGo l (prevP ps (k + 1)) (ps.drop (k + 1)) = b := by
  rw [List.drop_eq_getElem_cons hk, hp, mayGo, h1] at h
  have h3 : ordO (prevP ps k) p = true := by
    cases hq : prevP ps k with
    | none => rfl
    | some q => exact h2 q hq
  rw [h3] at h
  simpa [prevP, List.getElem?_eq_getElem hk, hp] using h
theorem mayGo_no {l : List GObj} {ps : List GP} {k : Nat} {p : GP} {b : Bool} (hk : k < ps.length) (hp : ps[k] = p) (h : mayGo l (prevP ps k) (ps.drop k) = b) (h1 : (symAt l p).isSome = false ∨ ∃ q, prevP ps k = some q ∧ ordP q p = false) : false = b := by
  rw [List.drop_eq_getElem_cons hk, hp, mayGo] at h
  rcases h1 with h1 | ⟨q, h1, h2⟩
  · simpa [h1] using h
  · simpa [h1, h2, ordO] using h
set_option maxRecDepth 100000 in
set_option maxHeartbeats 4000000 in
theorem layMay_any (v v2 : Value) (l : List GObj) (ps : List GP) (w : World) (h : ObjsAt w v l) (h2 : RowAt 2 PlcR w v2 ps) :
    Calls Tryz.prog 145 #[v, v2] w fun e w' => e = .returned (.bool (layMay l ps)) ∧ Below w.heap.size w w' := by
  have HO := Lib.hid h
  have HCK := Lib.hid (resCheck_any v l w h)
  obtain ⟨p, cap, b, o, rfl, hcap, hmax, -, -⟩ := h
  obtain ⟨p2, cap2, b2, o2, rfl, hcap2, hmax2, hp2, hc2⟩ := h2
  have HP := Lib.hid hp2; clear hp2
  have HC := Lib.hid hc2; clear hc2
  by_cases hm : mayAll l = true
  case neg =>
    have hm' : mayAll l = false := by simpa using hm
    have hb : beginR l = (emptyB, 2) := by simp [beginR, hm']
    rw [hb] at HCK
    have HF : Hid (layMay l ps = false) := by simp [Hid, layMay, hm']
    clear hm hm' hb
    go_enter Tryz.func145, Tryz.ntmps145
    go_wp2_with (go_at_call 215; refine HCK.out.mono ?_; rintro e w1 ⟨rfl, hB1⟩)
    go_ret
    exact ⟨ret_bool HF.out.symm, hB1⟩
  have hbn : ((beginR l).2 == 2) = false := by
    unfold beginR
    rw [if_pos hm]
    split <;> simp
  have HLM : Hid (layMay l ps = mayGo l none ps) := by simp [Hid, layMay, hm]
  generalize beginR l = br at HCK hbn
  obtain ⟨bn, bc⟩ := br
  simp only [] at HCK hbn
  clear hm
  go_enter Tryz.func145, Tryz.ntmps145
  go_wp2_with (go_at_call 215; refine HCK.out.mono ?_; rintro e w1 ⟨rfl, hB1⟩)
  have HB1 := Lib.hid hB1; clear hB1 HCK
  go_loopw [20] (fun v20 wr => ∃ k : Nat, k ≤ ps.length ∧ v20 = .int .i64 k ∧ mayGo l (prevP ps k) (ps.drop k) = layMay l ps ∧ Below w.heap.size w wr) (fun v20 _ => ps.length - (intOf v20).toNat)
  case atStart => exact ⟨0, Nat.zero_le _, rfl, HLM.out.symm, HB1.out⟩
  case round =>
    obtain ⟨k, hk, rfl, hgo, hbel⟩ := hrel
    have HGO := Lib.hid hgo; clear hgo
    have HB := Lib.hid hbel; clear hbel
    by_cases hlt : k < ps.length
    · obtain rfl := HP.out (by omega)
      obtain ⟨g0, g1, g2⟩ := plcR_keeps _ _ _ _ _ HB.out (HC.out k hlt)
      generalize hx : ps[k] = x at g1 g2
      have HX := Lib.hid hx; clear hx
      have HPR : Hid (∀ (hk1 : 0 < k), ∃ q : GP, prevP ps k = some q ∧ wr.cell? ⟨b2, o2 + (k - 1) * 2, none⟩ = some (.int .i64 q.1) ∧ wr.cell? ⟨b2, o2 + (k - 1) * 2 + 1, none⟩ = some (.int .i64 q.2)) := fun hk1 => by
        obtain ⟨-, e1, e2⟩ := plcR_keeps _ _ _ _ _ HB.out (HC.out (k - 1) (by omega))
        exact ⟨_, by simp [prevP, show ¬ k = 0 by omega, List.getElem?_eq_getElem (show k - 1 < ps.length by omega)], e1, e2⟩
      have HCON := Lib.hid (laySym_any _ l x (wr.alloc (.cells #[.int .i64 x.1, .int .i64 x.2] 63)) (ObjsAt.keep (HB.out.alloc HB.out.size _) HO.out))
      obtain ⟨x1, x2⟩ := x
      simp only [] at g1 g2 HCON
      go_wp2_with fail
      refine HCON.out.mono ?_
      clear HCON
      rintro e w2 ⟨hsp, hB2⟩
      have HB12 : Hid (Below wr.heap.size wr w2) := (alloc_old wr _).trans (hB2.mono (by simp))
      have HB2 : Hid (Below w.heap.size w w2) := (HB.out.alloc HB.out.size _).trans (hB2.mono (by have := HB.out.size; simp; omega))
      have k0 : w2.cell? ⟨wr.heap.size, 0, none⟩ = some (.int .i64 x1) := by rw [hB2.cell (by simp)]; simp [go_sem]
      have k1 : w2.cell? ⟨wr.heap.size, 1, none⟩ = some (.int .i64 x2) := by rw [hB2.cell (by simp)]; simp [go_sem]
      have z2 : wr.heap.size < w2.heap.size := by have := hB2.size; simp at this; omega
      cases hs : symAt l (x1, x2) with
      | none =>
        rw [hs] at hsp
        simp only [] at hsp
        subst hsp
        have HF := Lib.hid (mayGo_no hlt HX.out HGO.out (.inl (by rw [hs]; rfl)))
        clear hB2 hs
        go_wp2
        go_ret
        exact ⟨ret_bool HF.out, HB2.out.alloc HB2.out.size _⟩
      | some s =>
        rw [hs] at hsp
        obtain ⟨vr, vn, rfl, hin⟩ := hsp
        obtain ⟨p1, q1, p3, q3, rfl, rfl⟩ := hin.shape
        have HS1 : Hid ((symAt l (x1, x2)).isSome = true) := by rw [hs]; rfl
        clear hB2 hs hin
        obtain ⟨yn, yb, yk, ys, yy, yr, yt⟩ := s
        simp only [symV]
        go_wp2
        generalize hw3 : w2.alloc (.cells #[.string yn, .int .u8 yb, .int .u8 yk, .int .u32 ys, .string yy, .slice p1 yr.length q1, .slice p3 yt.length q3] 72) = w3
        have HB3 : Hid (Below w2.heap.size w2 w3) := by subst hw3; exact alloc_old _ _
        clear hw3
        replace k0 := cell_keep HB3.out z2 k0
        replace k1 := cell_keep HB3.out z2 k1
        have HBW : Hid (Below w.heap.size w w3) := HB2.out.trans (HB3.out.mono HB2.out.size)
        by_cases hk0 : k = 0
        · subst hk0
          have HST := Lib.hid (mayGo_yes hlt HX.out HGO.out HS1.out (fun q hq => (by simp [prevP] at hq)))
          go_quiet (fail)
          go_wp2
          go_roundw
          case rel => exact ⟨1, by omega, by go_num, HST.out, below_drewN HBW.out _⟩
          case measure => simp [intOf]; omega
        · obtain ⟨q, hq, e1, e2⟩ := HPR.out (by omega)
          have HQ := Lib.hid hq; clear hq
          have HB13 : Hid (Below wr.heap.size wr w3) := HB12.out.trans (HB3.out.mono HB12.out.size)
          replace e1 := cell_keep HB13.out g0 e1
          replace e2 := cell_keep HB13.out g0 e2
          clear HPR HB12 HB13 HB3
          obtain ⟨qa, qb⟩ := q
          simp only [] at e1 e2
          have dk : decide ((0 : Int) < (k : Int)) = true := by simp; omega
          have dk' : decide (0 < k) = true := by simp; omega
          have j1 : IntKind.i64.wrap ((k : Int) - 1) = (k : Int) - 1 := IntWalk.i64_in _ (by omega)
          have j2 : (0 : Int) ≤ (k : Int) - 1 := by omega
          have j3 : ((k : Int) - 1).toNat = k - 1 := by omega
          have j4 : (k : Int) - 1 < (ps.length : Int) := by omega
          by_cases c1 : x1 < qa
          · have d1 : decide (x1 < qa) = true := by simpa using c1
            have HF := Lib.hid (mayGo_no hlt HX.out HGO.out (.inr ⟨_, HQ.out, by simp [ordP, c1]⟩))
            go_quiet (fail)
            clear j1 j2 j3
            go_wp2
            go_ret
            exact ⟨ret_bool HF.out, below_drewN HBW.out _⟩
          · have d1 : decide (x1 < qa) = false := by simpa using c1
            by_cases c2 : x1 = qa
            · subst c2
              by_cases c3 : x2 ≤ qb
              · have d3 : decide (x2 ≤ qb) = true := by simpa using c3
                have HF := Lib.hid (mayGo_no hlt HX.out HGO.out (.inr ⟨_, HQ.out, by simp [ordP, c3]⟩))
                go_quiet (fail)
                clear j1 j2 j3
                go_wp2
                go_ret
                exact ⟨ret_bool HF.out, below_drewN HBW.out _⟩
              · have d3 : decide (x2 ≤ qb) = false := by simpa using c3
                have HST := Lib.hid (mayGo_yes hlt HX.out HGO.out HS1.out (fun q hq => (by rw [HQ.out] at hq; cases hq; simp [ordP]; omega)))
                go_quiet (fail)
                clear j1 j2 j3
                go_wp2
                go_roundw
                case rel => exact ⟨k + 1, by omega, by go_num, HST.out, below_drewN HBW.out _⟩
                case measure => simp [intOf]; omega
            · have d2 : (x1 == qa) = false := by simpa using c2
              have HST := Lib.hid (mayGo_yes hlt HX.out HGO.out HS1.out (fun q hq => (by rw [HQ.out] at hq; cases hq; simp [ordP, c2]; omega)))
              go_quiet (fail)
              clear j1 j2 j3
              go_wp2
              go_roundw
              case rel => exact ⟨k + 1, by omega, by go_num, HST.out, below_drewN HBW.out _⟩
              case measure => simp [intOf]; omega
    · have HF := HGO.out
      rw [List.drop_of_length_le (by omega), mayGo] at HF
      have HF2 := Lib.hid HF; clear HF
      go_wp2
      go_ret
      exact ⟨ret_bool HF2.out, HB.out⟩
end Go.Proofs.YtdjgkmpjhpnkeaaGreatDoor
namespace Go.Proofs.YtdjgkmpjhpnkeaaGreatDoor
open Go.RowKit Go.Maps Go.WideMaps
theorem andNot255 (n : Int) (h0 : 0 ≤ n) (h1 : n ≤ 200000) : bits .andNot .u32 (n + 256 - 1) 255 = upTo n 256 := by
  rw [u32_andNot _ _ (by omega) (by omega) (by omega) (by omega), show (4294967295 - (255 : Int).toNat) = 4294967040 from rfl, mask256 _ (by omega)]
  unfold upTo; omega
theorem andNot7 (n : Int) (h0 : 0 ≤ n) (h1 : n ≤ 200000) : bits .andNot .u32 (n + 8 - 1) 7 = upTo n 8 := by
  rw [u32_andNot _ _ (by omega) (by omega) (by omega) (by omega), show (4294967295 - (7 : Int).toNat) = 4294967288 from rfl, mask8 _ (by omega)]
  unfold upTo; omega
set_option maxHeartbeats 400000 in
theorem up_256 (n : Int) (w : World) (h0 : 0 ≤ n) (h1 : n ≤ 200000) : Calls Tryz.prog 226 #[.int .u32 n, .int .u32 256] w fun e w' => e = .returned (.int .u32 (upTo n 256)) ∧ w = w' := by
  go_enter Tryz.func226, Tryz.ntmps226
  go_wp2
  go_ret
  exact ⟨ret_int (andNot255 n h0 h1), rfl⟩
set_option maxHeartbeats 400000 in
theorem up_8 (n : Int) (w : World) (h0 : 0 ≤ n) (h1 : n ≤ 200000) : Calls Tryz.prog 226 #[.int .u32 n, .int .u32 8] w fun e w' => e = .returned (.int .u32 (upTo n 8)) ∧ w = w' := by
  go_enter Tryz.func226, Tryz.ntmps226
  go_wp2
  go_ret
  exact ⟨ret_int (andNot7 n h0 h1), rfl⟩
end Go.Proofs.YtdjgkmpjhpnkeaaGreatDoor
namespace Go.Proofs.YtdjgkmpjhpnkeaaGreatDoor
open Go.RowKit Go.Maps Go.WideMaps
/-- a layer in a block of its own -/
structure LayerAt (w : World) (b : Nat) (k a s e : Int) : Prop where
  lt : b < w.heap.size
  c0 : w.cell? ⟨b, 0, none⟩ = some (.int .u8 k)
  c1 : w.cell? ⟨b, 1, none⟩ = some (.int .u32 a)
  c2 : w.cell? ⟨b, 2, none⟩ = some (.int .u32 s)
  c3 : w.cell? ⟨b, 3, none⟩ = some (.int .u32 e)
  f0 : w.frozen? ⟨b, 0, none⟩ = false
  f1 : w.frozen? ⟨b, 1, none⟩ = false
  f2 : w.frozen? ⟨b, 2, none⟩ = false
  f3 : w.frozen? ⟨b, 3, none⟩ = false
theorem LayerAt.kept {w w' : World} {b : Nat} {k a s e : Int} (h : LayerAt w b k a s e) (hb : w'.heap[b]? = w.heap[b]?) (hs : w.heap.size ≤ w'.heap.size) : LayerAt w' b k a s e := by
  obtain ⟨h0, h1, h2, h3, h4, h5, h6, h7, h8⟩ := h
  refine ⟨Nat.lt_of_lt_of_le h0 hs, ?_, ?_, ?_, ?_, ?_, ?_, ?_, ?_⟩
  all_goals first | (rw [World.cell?_of_block (w := w) hb]; assumption) | (rw [World.frozen?_of_block (w := w) hb]; assumption)
theorem grown_setCell (w : World) (b o : Nat) (v : Value) : w.grownBy (w.setCell ⟨b, o, none⟩ v) (some b) :=
  ⟨rfl, rfl, rfl, by simp, fun k _ hk => Below.heap_setCell _ _ _ _ (fun e => hk (by rw [e]))⟩
theorem grown_trans {w w1 w2 : World} {r : Option Nat} (h : w.grownBy w1 r) (h' : w1.grownBy w2 r) : w.grownBy w2 r :=
  ⟨h'.os.trans h.os, h'.tape.trans h.tape, h'.output.trans h.output, Nat.le_trans h.size h'.size, fun k hk hne => (h'.block k (Nat.lt_of_lt_of_le hk h.size) hne).trans (h.block k hk hne)⟩
theorem grown_drew {w w1 : World} {r : Option Nat} (h : w.grownBy w1 r) : w.grownBy w1.drew r := ⟨h.os, h.tape, h.output, h.size, h.block⟩
set_option maxHeartbeats 1000000 in
theorem begin14_any (b : Nat) (kd k a s e : Int) (w : World) (h : LayerAt w b k a s e) (h0 : 0 ≤ e) (h1 : e ≤ 200000) :
    Calls Tryz.prog 146 #[.pointer (some ⟨b, 0, none⟩), .int .u8 kd] w fun en w' => en = .returned (.tuple #[]) ∧ LayerAt w' b kd (upTo e 256) 0 (upTo e 256) ∧ w.grownBy w' (some b) := by
  obtain ⟨hb, c0, c1, c2, c3, f0, f1, f2, f3⟩ := h
  go_enter Tryz.func146, Tryz.ntmps146
  go_wp2_with (go_at_call 226; refine (up_256 _ _ h0 h1).mono ?_; rintro en w' ⟨rfl, rfl⟩)
  go_end0
  refine ⟨rfl, ?_, ?_⟩
  · refine ⟨by simpa using hb, ?_, ?_, ?_, ?_, ?_, ?_, ?_, ?_⟩ <;> simp [go_sem, *]
  · exact grown_trans (grown_trans (grown_trans (grown_setCell _ _ _ _) (grown_setCell _ _ _ _)) (grown_setCell _ _ _ _)) (grown_setCell _ _ _ _)
set_option maxHeartbeats 1000000 in
theorem lay14_any (b : Nat) (k a s e z : Int) (w : World) (h : LayerAt w b k a s e) (h0 : 0 ≤ e) (h1 : e ≤ 200000) (ha : 0 ≤ a) (hae : a ≤ e) (hz : 0 ≤ z) (hz1 : z ≤ 100000) :
    Calls Tryz.prog 147 #[.pointer (some ⟨b, 0, none⟩), .int .u32 z] w fun en w' => en = .returned (.int .u32 (upTo e 8)) ∧ LayerAt w' b k a (upTo e 8 + z - a) (upTo e 8 + z) ∧ w.grownBy w' (some b) := by
  obtain ⟨hb, c0, c1, c2, c3, f0, f1, f2, f3⟩ := h
  have hu : e ≤ upTo e 8 ∧ upTo e 8 ≤ e + 7 := by unfold upTo; omega
  go_enter Tryz.func147, Tryz.ntmps147
  go_wp2_with (go_at_call 226; refine (up_8 _ _ h0 h1).mono ?_; rintro en w' ⟨rfl, rfl⟩)
  generalize hu0 : upTo e 8 = u at *
  have HU := Lib.hid hu0; clear hu0
  generalize hw1 : w.setCell ⟨b, 3, none⟩ (.int .u32 (u + z)) = w1
  have g0 : w1.cell? ⟨b, 0, none⟩ = some (.int .u8 k) := by subst hw1; simp [go_sem, *]
  have g1 : w1.cell? ⟨b, 1, none⟩ = some (.int .u32 a) := by subst hw1; simp [go_sem, *]
  have g2 : w1.cell? ⟨b, 2, none⟩ = some (.int .u32 s) := by subst hw1; simp [go_sem, *]
  have g3 : w1.cell? ⟨b, 3, none⟩ = some (.int .u32 (u + z)) := by subst hw1; simp [go_sem, *]
  have e0 : w1.frozen? ⟨b, 0, none⟩ = false := by subst hw1; simp [go_sem, *]
  have e1 : w1.frozen? ⟨b, 1, none⟩ = false := by subst hw1; simp [go_sem, *]
  have e2 : w1.frozen? ⟨b, 2, none⟩ = false := by subst hw1; simp [go_sem, *]
  have e3 : w1.frozen? ⟨b, 3, none⟩ = false := by subst hw1; simp [go_sem, *]
  have hb1 : b < w1.heap.size := by subst hw1; simpa using hb
  have HG : Hid (w.grownBy w1 (some b)) := by subst hw1; exact grown_setCell _ _ _ _
  clear hw1 c0 c1 c2 c3 f0 f1 f2 f3
  go_region
  all_goals
    go_wp2
    go_ret
    obtain rfl := HU.out
    refine ⟨rfl, ?_, ?_⟩
    · refine ⟨by simpa using hb1, ?_, ?_, ?_, ?_, ?_, ?_, ?_, ?_⟩ <;> simp [go_sem, *]
    · exact grown_drew (grown_trans HG.out (grown_setCell _ _ _ _))
end Go.Proofs.YtdjgkmpjhpnkeaaGreatDoor
namespace Go.Proofs.YtdjgkmpjhpnkeaaGreatDoor
open Go.RowKit
def addrCells (a : GAddr) : List Value := [.int .i64 a.obj, .int .i64 a.sym, .int .u32 a.at_]
def spanCells (a : GSpan) : List Value := [.int .u8 a.kind, .int .u32 a.at_, .int .u32 a.size]
theorem addrCells_len (a : GAddr) : (addrCells a).length = 3 := rfl
theorem spanCells_len (a : GSpan) : (spanCells a).length = 3 := rfl
def AddrOk (a : GAddr) : Prop := 0 ≤ a.at_ ∧ a.at_ ≤ 4294967295
def SpanOk (a : GSpan) : Prop := (0 ≤ a.kind ∧ a.kind ≤ 255) ∧ (0 ≤ a.at_ ∧ a.at_ ≤ 4294967295) ∧ (0 ≤ a.size ∧ a.size ≤ 4294967295)
theorem addr_row {w : World} {v : Value} {base : Nat} {e : TypeId} {l : List GAddr} (h : w.ownsRow base e 3 v l.length (l.flatMap addrCells)) (hl : l.length ≤ 140737488355328) (hok : ∀ a ∈ l, AddrOk a) : RowAt 3 AddrR w v l :=
  owned_row addrCells_len h hl fun g o' i hi hg hcell => ⟨hg, hcell 0 _ (by omega) rfl, hcell 1 _ (by omega) rfl, hcell 2 _ (by omega) rfl, hok _ (List.getElem_mem hi)⟩
theorem span_row {w : World} {v : Value} {base : Nat} {e : TypeId} {l : List GSpan} (h : w.ownsRow base e 3 v l.length (l.flatMap spanCells)) (hl : l.length ≤ 140737488355328) (hok : ∀ a ∈ l, SpanOk a) : RowAt 3 SpanR w v l :=
  owned_row spanCells_len h hl fun g o' i hi hg hcell => ⟨hg, hcell 0 _ (by omega) rfl, hcell 1 _ (by omega) rfl, hcell 2 _ (by omega) rfl, hok _ (List.getElem_mem hi)⟩
theorem made_addrs (n : Nat) : (madeCells #[.int .i64 0, .int .i64 0, .int .u32 0] (n * 3)).toList = (List.replicate n addr0).flatMap addrCells := by
  show (madeCells (Value.agg #[.int .i64 0, .int .i64 0, .int .u32 0]).cells (n * 3)).toList = _
  rw [zero_cells3 _ (.int .i64 0) (.int .i64 0) (.int .u32 0) rfl]
  induction n with
  | zero => rfl
  | succ n ih => rw [List.replicate_succ, List.replicate_succ, List.flatMap_cons, List.flatMap_cons, ih]; rfl
/-- a symbol that may be laid has a size -/
theorem may_size {l : List GObj} {p : GP} {s : GSym} (hm : mayAll l = true) (h : symAt l p = some s) : 1 ≤ s.size ∧ s.size ≤ 8192 := by
  obtain ⟨a, b, ha, hb, -, rfl⟩ := symAt_some h
  simp only [mayAll, Bool.and_eq_true, List.all_eq_true] at hm
  have h1 := hm.2 _ (List.getElem_mem ha)
  simp only [mayP, Bool.and_eq_true] at h1
  have h2 := symsGo_each _ _ h1.1.1 _ (List.getElem_mem hb)
  simp only [symOkP, sizedOk, sizedB, Bool.and_eq_true, decide_eq_true_eq] at h2
  exact ⟨h2.1.1.1.2.1.1.1, h2.1.1.1.2.1.1.2⟩
theorem mayGo_some {l : List GObj} : ∀ {ps : List GP} {pr : Option GP}, mayGo l pr ps = true → ∀ p ∈ ps, ∃ s, symAt l p = some s
  | [], _, _, p, hp => by cases hp
  | q :: r, pr, h, p, hp => by
    simp only [mayGo, Bool.and_eq_true] at h
    rcases List.mem_cons.1 hp with rfl | hp
    · exact Option.isSome_iff_exists.1 h.1.1
    · exact mayGo_some h.2 p hp
/-- what lay.Of keeps in its loops -/
structure OInv (w0 : World) (ob xb n : Nat) (v8 : Value) (out : List GAddr) (spans : List GSpan) (k a s e : Int) (wr : World) : Prop where
  row : wr.ownsRow ob 133 3 (.slice (some ⟨ob, 0, none⟩) n n) n (out.flatMap addrCells)
  olen : out.length = n
  ook : ∀ x ∈ out, AddrOk x
  srow : wr.ownsRow w0.heap.size 136 3 v8 spans.length (spans.flatMap spanCells)
  slen : spans.length ≤ 3
  sok : ∀ x ∈ spans, SpanOk x
  lay : LayerAt wr xb k a s e
  kb : KB (fun g => g = ob ∨ g = xb) w0 wr
theorem OInv.keep {w0 : World} {ob xb n : Nat} {v8 : Value} {out : List GAddr} {spans : List GSpan} {k a s e : Int} {wr w' : World} (h : OInv w0 ob xb n v8 out spans k a s e wr) (hb : Below wr.heap.size wr w') : OInv w0 ob xb n v8 out spans k a s e w' :=
  ⟨own_congr h.row fun g hg => hb.block g (h.row.lt g hg).2, h.olen, h.ook, own_congr h.srow fun g hg => hb.block g (h.srow.lt g hg).2, h.slen, h.sok, h.lay.kept (hb.block _ h.lay.lt) hb.size, h.kb.trans (KB.of_below hb)⟩
/-- behind a call of the layer's -/
theorem OInv.layer {w0 : World} {ob xb n : Nat} {v8 : Value} {out : List GAddr} {spans : List GSpan} {k a s e k' a' s' e' : Int} {wr w' : World} (h : OInv w0 ob xb n v8 out spans k a s e wr) (hx : xb < w0.heap.size) (hne : ob ≠ xb) (hg : wr.grownBy w' (some xb)) (hl : LayerAt w' xb k' a' s' e') : OInv w0 ob xb n v8 out spans k' a' s' e' w' :=
  ⟨own_congr h.row fun g hg' => hg.block g (h.row.lt g hg').2 (fun e => by cases e; cases hg'; exact hne rfl), h.olen, h.ook, own_congr h.srow fun g hg' => hg.block g (h.srow.lt g hg').2 (fun e => by cases e; have := (h.srow.lt xb hg').1; omega), h.slen, h.sok, hl, h.kb.grown hg (fun g hg' => by cases hg'; exact .inl (.inr rfl))⟩
/-- behind a store into the row of addresses -/
theorem OInv.set {w0 : World} {ob xb n : Nat} {v8 : Value} {out : List GAddr} {spans : List GSpan} {k a s e : Int} {wr : World} (h : OInv w0 ob xb n v8 out spans k a s e wr) (ho : ob < w0.heap.size) (hne : ob ≠ xb) {i : Nat} (hi : i < n) (x : GAddr) (hx : AddrOk x) :
    OInv w0 ob xb n v8 (out.set i x) spans k a s e (((wr.setCell ⟨ob, i * 3, none⟩ (.int .i64 x.obj)).setCell ⟨ob, i * 3 + 1, none⟩ (.int .i64 x.sym)).setCell ⟨ob, i * 3 + 2, none⟩ (.int .u32 x.at_)) := by
  have hset : ∀ g, g ≠ ob → (((wr.setCell ⟨ob, i * 3, none⟩ (.int .i64 x.obj)).setCell ⟨ob, i * 3 + 1, none⟩ (.int .i64 x.sym)).setCell ⟨ob, i * 3 + 2, none⟩ (.int .u32 x.at_)).heap[g]? = wr.heap[g]? := fun g hg => by
    rw [Below.heap_setCell _ _ _ _ (by simpa using hg), Below.heap_setCell _ _ _ _ (by simpa using hg), Below.heap_setCell _ _ _ _ (by simpa using hg)]
  refine ⟨?_, by simpa using h.olen, ?_, own_congr h.srow fun g hg => hset g fun e => by have := (h.srow.lt g hg).1; omega, h.slen, h.sok, h.lay.kept (hset _ fun e => hne e.symm) (by simp), ((h.kb.setCell (.inl (.inl rfl)) _).setCell (.inl (.inl rfl)) _).setCell (.inl (.inl rfl)) _⟩
  · rw [← flat_set3 addrCells_len (x := x) rfl out i (by rw [h.olen]; exact hi)]
    exact (((h.row.stored _ _).1.stored _ _).1.stored _ _).1
  · intro y hy
    rcases List.mem_or_eq_of_mem_set hy with hy | rfl
    · exact h.ook y hy
    · exact hx
end Go.Proofs.YtdjgkmpjhpnkeaaGreatDoor
