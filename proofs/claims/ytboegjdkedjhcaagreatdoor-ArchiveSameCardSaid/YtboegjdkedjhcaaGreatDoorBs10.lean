/- The walk of lay.sym. -/
import Derived.Test.YtboegjdkedjhcaaGreatDoorBs06
import Derived.Test.YtboegjdkedjhcaaGreatDoorBs04
import Derived.Test.YtboegjdkedjhcaaGreatDoorBs01
namespace Go.Proofs.YtboegjdkedjhcaaGreatDoor
set_option maxRecDepth 100000
open Go.RowKit Go.Maps Go.WideMaps
def symV (s : GSym) (vr vn : Value) : Value := .agg #[.string s.name, .int .u8 s.bind, .int .u8 s.kind, .int .u32 s.size, .string s.bytes, vr, vn]
def SymPost (w : World) (o : Option GSym) (e : Ending) (w' : World) : Prop :=
 (match o with
   | some s => ∃ vr vn, e = .returned (.tuple #[symV s vr vn, .bool true]) ∧ SymIn w' s vr vn
   | none => e = .returned (.tuple #[.agg #[.string ⟨#[]⟩, .int .u8 0, .int .u8 0, .int .u32 0, .string ⟨#[]⟩, .slice none 0 0, .slice none 0 0], .bool false])) ∧ Below w.heap.size w w'
set_option maxHeartbeats 1000000 in
theorem laySym_some (v : Value) (l : List GObj) (a b : Nat) (w : World) (h : ObjsAt w v l) (ha : a < l.length) (hb : b < l[a].syms.length) :
 Calls Tryz.prog 152 #[v, .agg #[.int .i64 a, .int .i64 b]] w (SymPost w (some l[a].syms[b])) := by
 obtain ⟨p, cap, bb, o, rfl, hcap, hmax, hp, hc⟩ := h; obtain rfl := hp (by omega)
 obtain ⟨vs, g0, g1, g2, ⟨pS, capS, bS, oS, rfl, hcapS, hmaxS, hpS, hcS⟩, -⟩ := hc a ha; obtain rfl := hpS (by omega)
 obtain ⟨vr, vn, s0, s1, s2, s3, s4, s5, s6, s7, hin⟩ := hcS b hb; obtain ⟨p1, q1, p2, q2, rfl, rfl⟩ := hin.shape; have hnb : b < l[a].syms.length := hb; generalize hy : l[a].syms[b] = y at s1 s2 s3 s4 s5 s6 s7 hin ⊢; clear hc hp hcS hpS g1 hy; generalize l[a].syms.length = nS at g2 hnb hcapS hmaxS hb; obtain ⟨yn, yb, yk, ys, yy, yr, yt⟩ := y; simp only [] at s1 s2 s3 s4 s5 s6 s7 hin ⊢; have HIN := Lib.hid hin; clear hin; have d1 : decide ((a : Int) < 0) = false := by simp
 have d2 : decide ((l.length : Int) ≤ (a : Int)) = false := by simp; omega
 have d2' : decide (l.length ≤ a) = false := by simp; omega
 have d3 : decide ((b : Int) < 0) = false := by simp
 have d4 : decide ((nS : Int) ≤ (b : Int)) = false := by simp; omega
 have d4' : decide (nS ≤ b) = false := by simp; omega
 go_enter Tryz.func152, Tryz.ntmps152; go_wp2
 go_quiet (fail)
 rename_i nq; generalize hw1 : (((w.alloc (.cells #[.int .i64 a, .int .i64 b] 185)).alloc (.cells #[.string ⟨#[]⟩, .int .u8 0, .int .u8 0, .int .u32 0, .string ⟨#[]⟩, .slice none 0 0, .slice none 0 0] 55)).drewN nq) = w1; have HB1 : Hid (Below w.heap.size w w1) := by subst hw1; exact below_drewN ((alloc_old w _).alloc (by simp) _) _
 have z1 : w.heap.size + 1 < w1.heap.size := by subst hw1; simp
 have r0 : w1.cell? ⟨w.heap.size, 0, none⟩ = some (.int .i64 a) := by subst hw1; simp [go_sem]
 have r1 : w1.cell? ⟨w.heap.size, 1, none⟩ = some (.int .i64 b) := by subst hw1; simp [go_sem]
 have t0 : w1.cell? ⟨w.heap.size + 1, 0, none⟩ = some (.string ⟨#[]⟩) := by subst hw1; simp [go_sem]
 have t1 : w1.cell? ⟨w.heap.size + 1, 1, none⟩ = some (.int .u8 0) := by subst hw1; simp [go_sem]
 have t2 : w1.cell? ⟨w.heap.size + 1, 2, none⟩ = some (.int .u8 0) := by subst hw1; simp [go_sem]
 have t3 : w1.cell? ⟨w.heap.size + 1, 3, none⟩ = some (.int .u32 0) := by subst hw1; simp [go_sem]
 have t4 : w1.cell? ⟨w.heap.size + 1, 4, none⟩ = some (.string ⟨#[]⟩) := by subst hw1; simp [go_sem]
 have t5 : w1.cell? ⟨w.heap.size + 1, 5, none⟩ = some (.slice none 0 0) := by subst hw1; simp [go_sem]
 have t6 : w1.cell? ⟨w.heap.size + 1, 6, none⟩ = some (.slice none 0 0) := by subst hw1; simp [go_sem]
 have u : ∀ j, w1.frozen? ⟨w.heap.size + 1, j, none⟩ = false := by intro j; subst hw1; simp [go_sem]
 have u0 := u 0; have u1 := u 1; have u2 := u 2; have u3 := u 3; have u4 := u 4; have u5 := u 5; have u6 := u 6; clear u hw1; replace g2 := cell_keep HB1.out g0 g2; replace s1 := cell_keep HB1.out s0 s1; replace s2 := cell_keep HB1.out s0 s2; replace s3 := cell_keep HB1.out s0 s3; replace s4 := cell_keep HB1.out s0 s4; replace s5 := cell_keep HB1.out s0 s5; replace s6 := cell_keep HB1.out s0 s6; replace s7 := cell_keep HB1.out s0 s7; go_wp2
 go_still_tail 10, (by kernel_rfl)
 change wpList _ _ _ _ _ w1.drew; go_wp2; refine bodyPost_ret (v := .tuple #[symV ⟨yn, yb, yk, ys, yy, yr, yt⟩ (.slice p1 yr.length q1) (.slice p2 yt.length q2), .bool true]) (by simp [results, Tryz.results152, go_sem, symV, *]) rfl ?_
 have hfin : Below w.heap.size w (((((((w1.setCell ⟨w.heap.size + 1, 0, none⟩ (.string yn)).setCell ⟨w.heap.size + 1, 1, none⟩ (.int .u8 yb)).setCell ⟨w.heap.size + 1, 2, none⟩ (.int .u8 yk)).setCell ⟨w.heap.size + 1, 3, none⟩ (.int .u32 ys)).setCell ⟨w.heap.size + 1, 4, none⟩ (.string yy)).setCell ⟨w.heap.size + 1, 5, none⟩ (.slice p1 yr.length q1)).setCell ⟨w.heap.size + 1, 6, none⟩ (.slice p2 yt.length q2)) :=
  ((((((HB1.out.setCell (by simp) _).setCell (by simp) _).setCell (by simp) _).setCell (by simp) _).setCell (by simp) _).setCell (by simp) _).setCell (by simp) _
 exact ⟨⟨_, _, rfl, SymIn.keep hfin.drew HIN.out⟩, hfin.drew⟩
set_option maxHeartbeats 1000000 in
theorem laySym_none (v : Value) (l : List GObj) (p : GP) (w : World) (h : ObjsAt w v l) (hn : symAt l p = none) :
 Calls Tryz.prog 152 #[v, .agg #[.int .i64 p.1, .int .i64 p.2]] w (SymPost w none) := by
 obtain ⟨pp, cap, bb, o, rfl, hcap, hmax, hp, hc⟩ := h; rcases symAt_none hn with h1 | h1 | h1 | ⟨a, b, ha, rfl, hb⟩
 ·have d1 : decide (p.1 < 0) = true := by simpa using h1
  clear hn hc hp; obtain ⟨x, y⟩ := p; simp only [] at *; go_enter Tryz.func152, Tryz.ntmps152; go_wp2
  go_quiet (fail)
  go_wp2; refine bodyPost_ret (v := .tuple #[.agg #[.string ⟨#[]⟩, .int .u8 0, .int .u8 0, .int .u32 0, .string ⟨#[]⟩, .slice none 0 0, .slice none 0 0], .bool false]) (by simp [results, Tryz.results152, go_sem]) rfl ?_
  exact ⟨rfl, (((((((below_drewN ((alloc_old w _).alloc (by simp) _) _).setCell (by simp) _).setCell (by simp) _).setCell (by simp) _).setCell (by simp) _).setCell (by simp) _).setCell (by simp) _).setCell (by simp) _⟩
 ·have d1 : decide (p.1 < 0) = false := by simp; omega
  have d2 : decide ((l.length : Int) ≤ p.1) = true := by simpa using h1
  clear hn hc hp; obtain ⟨x, y⟩ := p; simp only [] at *; go_enter Tryz.func152, Tryz.ntmps152; go_wp2
  go_quiet (fail)
  go_wp2; refine bodyPost_ret (v := .tuple #[.agg #[.string ⟨#[]⟩, .int .u8 0, .int .u8 0, .int .u32 0, .string ⟨#[]⟩, .slice none 0 0, .slice none 0 0], .bool false]) (by simp [results, Tryz.results152, go_sem]) rfl ?_
  exact ⟨rfl, (((((((below_drewN ((alloc_old w _).alloc (by simp) _) _).setCell (by simp) _).setCell (by simp) _).setCell (by simp) _).setCell (by simp) _).setCell (by simp) _).setCell (by simp) _).setCell (by simp) _⟩
 ·by_cases h2 : p.1 < 0
  ·have d1 : decide (p.1 < 0) = true := by simpa using h2
   clear hn hc hp; obtain ⟨x, y⟩ := p; simp only [] at *; go_enter Tryz.func152, Tryz.ntmps152; go_wp2
   go_quiet (fail)
   go_wp2; refine bodyPost_ret (v := .tuple #[.agg #[.string ⟨#[]⟩, .int .u8 0, .int .u8 0, .int .u32 0, .string ⟨#[]⟩, .slice none 0 0, .slice none 0 0], .bool false]) (by simp [results, Tryz.results152, go_sem]) rfl ?_
   exact ⟨rfl, (((((((below_drewN ((alloc_old w _).alloc (by simp) _) _).setCell (by simp) _).setCell (by simp) _).setCell (by simp) _).setCell (by simp) _).setCell (by simp) _).setCell (by simp) _).setCell (by simp) _⟩
  by_cases h3 : (l.length : Int) ≤ p.1
  ·have d1 : decide (p.1 < 0) = false := by simp; omega
   have d2 : decide ((l.length : Int) ≤ p.1) = true := by simpa using h3
   clear hn hc hp; obtain ⟨x, y⟩ := p; simp only [] at *; go_enter Tryz.func152, Tryz.ntmps152; go_wp2
   go_quiet (fail)
   go_wp2; refine bodyPost_ret (v := .tuple #[.agg #[.string ⟨#[]⟩, .int .u8 0, .int .u8 0, .int .u32 0, .string ⟨#[]⟩, .slice none 0 0, .slice none 0 0], .bool false]) (by simp [results, Tryz.results152, go_sem]) rfl ?_
   exact ⟨rfl, (((((((below_drewN ((alloc_old w _).alloc (by simp) _) _).setCell (by simp) _).setCell (by simp) _).setCell (by simp) _).setCell (by simp) _).setCell (by simp) _).setCell (by simp) _).setCell (by simp) _⟩
  have d1 : decide (p.1 < 0) = false := by simp; omega
  have d2 : decide ((l.length : Int) ≤ p.1) = false := by simp; omega
  have d3 : decide (p.2 < 0) = true := by simpa using h1
  clear hn hc hp; obtain ⟨x, y⟩ := p; simp only [] at *; go_enter Tryz.func152, Tryz.ntmps152; go_wp2
  go_quiet (fail)
  go_wp2; refine bodyPost_ret (v := .tuple #[.agg #[.string ⟨#[]⟩, .int .u8 0, .int .u8 0, .int .u32 0, .string ⟨#[]⟩, .slice none 0 0, .slice none 0 0], .bool false]) (by simp [results, Tryz.results152, go_sem]) rfl ?_
  exact ⟨rfl, (((((((below_drewN ((alloc_old w _).alloc (by simp) _) _).setCell (by simp) _).setCell (by simp) _).setCell (by simp) _).setCell (by simp) _).setCell (by simp) _).setCell (by simp) _).setCell (by simp) _⟩
 ·obtain rfl := hp (by omega)
  obtain ⟨vs, g0, g1, g2, ⟨pS, capS, bS, oS, rfl, hcapS, hmaxS, -⟩, -⟩ := hc a ha; clear hc hp g1 hn; generalize l[a].syms.length = nS at g2 hb hcapS hmaxS; have d1 : decide ((a : Int) < 0) = false := by simp
  have d2 : decide ((l.length : Int) ≤ (a : Int)) = false := by simp; omega
  have d2' : decide (l.length ≤ a) = false := by simp; omega
  have d3 : decide ((b : Int) < 0) = false := by simp
  have d4 : decide ((nS : Int) ≤ (b : Int)) = true := by simp; omega
  have d4' : decide (nS ≤ b) = true := by simp; omega
  simp only [] at *; go_enter Tryz.func152, Tryz.ntmps152; go_wp2
  go_quiet (fail)
  go_wp2; refine bodyPost_ret (v := .tuple #[.agg #[.string ⟨#[]⟩, .int .u8 0, .int .u8 0, .int .u32 0, .string ⟨#[]⟩, .slice none 0 0, .slice none 0 0], .bool false]) (by simp [results, Tryz.results152, go_sem]) rfl ?_
  exact ⟨rfl, (((((((below_drewN ((alloc_old w _).alloc (by simp) _) _).setCell (by simp) _).setCell (by simp) _).setCell (by simp) _).setCell (by simp) _).setCell (by simp) _).setCell (by simp) _).setCell (by simp) _⟩
theorem laySym_any (v : Value) (l : List GObj) (p : GP) (w : World) (h : ObjsAt w v l) :
 Calls Tryz.prog 152 #[v, .agg #[.int .i64 p.1, .int .i64 p.2]] w (SymPost w (symAt l p)) := by
 cases hs : symAt l p with
 | none => exact laySym_none v l p w h hs
 | some s =>
   obtain ⟨a, b, ha, hb, rfl, rfl⟩ := symAt_some hs; exact laySym_some v l a b w h ha hb
end Go.Proofs.YtboegjdkedjhcaaGreatDoor
