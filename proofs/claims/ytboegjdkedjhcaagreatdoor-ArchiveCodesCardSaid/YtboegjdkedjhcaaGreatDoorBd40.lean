/- An image as a world holds it. -/
import Derived.Test.YtboegjdkedjhcaaGreatDoorBd39
import Derived.Test.YtboegjdkedjhcaaGreatDoorBd37
namespace Go.Proofs.YtboegjdkedjhcaaGreatDoor
open Go.RowKit Go.Maps
def ExtR (w : World) (b o : Nat) (x : Int × Int) : Prop := b < w.heap.size ∧ w.cell? ⟨b, o, none⟩ = some (.int .u32 x.1) ∧ w.cell? ⟨b, o + 1, none⟩ = some (.int .u32 x.2) ∧ (0 ≤ x.1 ∧ x.1 ≤ 4294967295) ∧ (0 ≤ x.2 ∧ x.2 ≤ 4294967295)
def PortR (w : World) (b o : Nat) (x : Int) : Prop := b < w.heap.size ∧ w.cell? ⟨b, o, none⟩ = some (.int .u16 x) ∧ 0 ≤ x ∧ x ≤ 65535
def SegR (w : World) (b o : Nat) (x : GSeg) : Prop :=
  b < w.heap.size ∧ w.cell? ⟨b, o, none⟩ = some (.int .u32 x.addr) ∧ w.cell? ⟨b, o + 1, none⟩ = some (.int .u8 x.perm) ∧ w.cell? ⟨b, o + 2, none⟩ = some (.string x.bytes) ∧ (0 ≤ x.addr ∧ x.addr ≤ 4294967295) ∧ (0 ≤ x.perm ∧ x.perm ≤ 255) ∧ x.bytes.size ≤ 140737488355328
def ManAt (w : World) (m : GMan) (ve vp : Value) : Prop := RowAt 2 ExtR w ve m.exts ∧ RowAt 1 PortR w vp m.ports ∧ 0 ≤ m.pages ∧ m.pages ≤ 4294967295
def LinkAt (w : World) (x : GLink) (ve vp vs va : Value) : Prop := ManAt w x.man ve vp ∧ RowAt 3 SegR w vs x.segs ∧ RowAt 3 AddrR w va x.addrs ∧ 0 ≤ x.entry ∧ x.entry ≤ 4294967295
def linkV (x : GLink) (ve vp vs va : Value) : Value := .agg #[.int .u32 x.man.pages, ve, vp, .bool x.man.cons, .int .u32 x.entry, vs, va]
def LPost (w : World) (r : GLink × ByteArray × Int) (e : Ending) (w' : World) : Prop :=
  ∃ ve vp vs va, e = .returned (.tuple #[linkV r.1 ve vp vs va, .string r.2.1, .int .i64 r.2.2]) ∧ LinkAt w' r.1 ve vp vs va ∧ Below w.heap.size w w'
theorem link0_at (w : World) : LinkAt w link0 (.slice none 0 0) (.slice none 0 0) (.slice none 0 0) (.slice none 0 0) :=
  ⟨⟨rowAt_nil, rowAt_nil, by simp [link0, man0], by simp [link0, man0]⟩, rowAt_nil, rowAt_nil, by simp [link0], by simp [link0]⟩
/-- what a manifest of notes may have -/
theorem extsFrom_ok : ∀ (k : Nat) (l : List Int), (∀ x ∈ l, 0 ≤ x ∧ x ≤ 1024) → ∀ y ∈ extsFrom k l, (k : Int) ≤ y.1 ∧ y.1 < k + l.length ∧ 1 ≤ y.2 ∧ y.2 ≤ 1024
  | k, [], _, y, hy => by cases hy
  | k, n :: r, h, y, hy => by
    have h0 := h n (by simp)
    rw [extsFrom] at hy
    have ih := extsFrom_ok (k + 1) r (fun x hx => h x (by simp [hx]))
    split at hy
    · rcases List.mem_cons.1 hy with rfl | hy
      · simp; omega
      · have := ih y hy; simp at this ⊢; omega
    · have := ih y hy; simp at this ⊢; omega
theorem extsFrom_len : ∀ (k : Nat) (l : List Int), (extsFrom k l).length ≤ l.length
  | k, [] => by simp [extsFrom]
  | k, n :: r => by
    have := extsFrom_len (k + 1) r
    rw [extsFrom]
    split <;> simp <;> omega
structure ManOk (m : GMan) : Prop where
  pg : 0 ≤ m.pages ∧ m.pages ≤ 1024
  ex : ∀ y ∈ m.exts, 0 ≤ y.1 ∧ y.1 < 16 ∧ 1 ≤ y.2 ∧ y.2 ≤ 1024
  el : m.exts.length ≤ 16
  po : ∀ x ∈ m.ports, 1 ≤ x ∧ x ≤ 65535
  pl : m.ports.length ≤ 16
theorem man0_ok : ManOk man0 := ⟨by simp [man0], fun y hy => by simp [man0] at hy, by simp [man0], fun y hy => by simp [man0] at hy, by simp [man0]⟩
theorem once_mem (l : List Int) : ∀ x ∈ onceI l, x ∈ l := by
  intro x hx
  unfold onceI Lib.compact Lib.compactUpTo at hx
  obtain ⟨j, hj, rfl⟩ := List.mem_map.1 hx
  have hj' : j < l.length := List.mem_range.1 (List.mem_filter.1 hj).1
  have e : l.toArray[j]! = l[j] := by simp [hj']
  rw [e]
  exact List.getElem_mem hj'
theorem gatEnd_ok {g : Gat} (h : GatOk g) : ManOk (gatEnd g).1 := by
  unfold gatEnd
  split
  · exact man0_ok
  · rename_i hn
    refine ⟨⟨h.p0, h.p1⟩, fun y hy => ?_, ?_, fun x hx => ?_, by simpa [gatMan] using hn⟩
    · have := extsFrom_ok 0 g.blocks h.b y hy
      rw [h.n] at this
      simp at this; omega
    · have := extsFrom_len 0 g.blocks
      rw [h.n] at this; exact this
    · have h1 := once_mem _ x hx
      rw [sortI, List.mem_mergeSort] at h1
      exact h.q x h1
theorem demandR_ok {l : List GNote} (h0 : ∀ x ∈ l, 0 ≤ x.n) : ManOk (demandR l).1 := by
  unfold demandR
  split
  · rename_i h
    exact gatEnd_ok (gatL_ok h h0).1
  · exact man0_ok
theorem man_at {base : Nat} {w : World} {m : GMan} {ve vp : Value} (hm : ManOk m) (h1 : w.ownsRow base 143 2 ve m.exts.length (extCells m.exts)) (h2 : URow .u16 144 base w vp m.ports) : ManAt w m ve vp := by
  refine ⟨?_, ?_, hm.pg.1, by have := hm.pg; omega⟩
  · exact owned_row (k := 2) (f := fun x : Int × Int => [Value.int .u32 x.1, Value.int .u32 x.2]) (fun _ => rfl) h1 (by have := hm.el; omega) fun g o' i hi hg hcell =>
      ⟨hg, by simpa using hcell 0 (.int .u32 m.exts[i].1) (by omega) rfl, hcell 1 (.int .u32 m.exts[i].2) (by omega) rfl, by have := hm.ex _ (List.getElem_mem hi); omega, by have := hm.ex _ (List.getElem_mem hi); omega⟩
  · have h' : w.ownsRow base 144 1 vp m.ports.length (m.ports.flatMap fun x => [.int .u16 x]) := by rw [← cellsU_flat]; exact h2
    exact owned_row (k := 1) (f := fun x => [Value.int .u16 x]) (fun _ => rfl) h' (by have := hm.pl; omega) fun g o' i hi hg hcell => ⟨hg, by simpa using hcell 0 (.int .u16 m.ports[i]) (by omega) rfl, by have := hm.po _ (List.getElem_mem hi); omega, by have := hm.po _ (List.getElem_mem hi); omega⟩
theorem permK_bd (k : Int) : 0 ≤ permK k ∧ permK k ≤ 7 := by unfold permK; repeat' split
                                                             all_goals omega
theorem seg_row {base : Nat} {w : World} {vs : Value} {b : BL} {spans : List GSpan} (h : w.ownsRow base 146 3 vs spans.length ((spans.map (segOf b)).flatMap segCells)) (hs : SpUp 131072 spans) (hl : spans.length ≤ 3) : RowAt 3 SegR w vs (spans.map (segOf b)) := by
  have h' : w.ownsRow base 146 3 vs (spans.map (segOf b)).length ((spans.map (segOf b)).flatMap segCells) := by rw [List.length_map]; exact h
  refine owned_row (k := 3) (f := segCells) (fun _ => rfl) h' (by simp; omega) fun g o' i hi hg hcell => ?_
  have hi' : i < spans.length := by simpa using hi
  have he := hs.each _ (List.getElem_mem hi')
  have e : (spans.map (segOf b))[i] = segOf b spans[i] := by simp
  refine ⟨hg, by simpa using hcell 0 _ (by omega) rfl, hcell 1 _ (by omega) rfl, hcell 2 _ (by omega) rfl, ?_, ?_, ?_⟩
  · rw [e]; show 0 ≤ spans[i].at_ ∧ spans[i].at_ ≤ 4294967295; omega
  · rw [e]; have := permK_bd spans[i].kind; show 0 ≤ permK spans[i].kind ∧ permK spans[i].kind ≤ 255; omega
  · rw [e]; show (bsOf ((b.drop spans[i].at_.toNat).take spans[i].size.toNat)).size ≤ _
    rw [bsOf_size, List.length_take]; omega
end Go.Proofs.YtboegjdkedjhcaaGreatDoor
