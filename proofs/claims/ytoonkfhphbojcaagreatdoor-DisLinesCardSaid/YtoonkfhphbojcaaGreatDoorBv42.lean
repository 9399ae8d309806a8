/- What joins a law's contract to its card, for every law. The walk of dis.ReadLines. The closed facts of law33's alive. Rows of lines among a law's arguments. -/
import Derived.Test.YtoonkfhphbojcaaGreatDoorRows
import Derived.Test.YtoonkfhphbojcaaGreatDoorBv32
import Derived.Deep.DeepHandedRow
import Derived.Lay
import Derived.LaidMore
import Derived.Stop.Joined
import Derived.Carry
import Derived.Lib.SmallJoins
import Derived.Test.YtoonkfhphbojcaaGreatDoorBv40
import Derived.Test.YtoonkfhphbojcaaGreatDoorBv22
namespace Go.Proofs.YtoonkfhphbojcaaGreatDoor
open Go.ChangeShapes Go.WideShapes Go.ChangeAt Go.RowKit
open Go.ChangeMaps (open_string)
theorem own : ownKnob Tryz.prog.godebug = none := by kernel_rfl
theorem laidOut : laidOutB Tryz.prog = true := by kernel_rfl
/-- a law's post: it answers true and keeps all that there was -/
theorem law_post {H : Type} {enc : TypeId × Value → H} {f : Func} {s : ChangeSpec} {W W' : World} {args : Array Value} {ds : List (DataW H)} {before : List MemPlace}
    (hres : f.resultTypes.toList = [4]) (hvars : s.vars = []) (hr : (f.params.toList.all fun t => Tryz.prog.readableRec t && decide (t < Tryz.prog.types.size)) = true)
    (hW : DataW.Whole enc Tryz.prog f.params.toList s.vars false W args.toList ds [] before) (hs : s.fn H (ds ++ []) = { results := [.lit (.bool true)], args := ds }) (hb : Below W.heap.size W W') :
    s.post enc Tryz.prog f false true false false W args (.bool true) W' := by
  have hlt : ∀ x ∈ before, x.block < W.heap.size := fun x hx => hW.lt x hx
  have hW0 := hW
  obtain ⟨p, q, hA, hV, rfl, -, -⟩ := hW0
  refine ⟨ds, [], p ++ q, [], p, q, hW, ?_, ?_, ?_, hb.frame _, fun h => by cases h⟩
  · rw [hs, hres]
    have : f.resultTypes.size = 1 := by rw [← Array.length_toList, hres]; rfl
    rw [this]
    exact ⟨[], [], shut_bool Tryz.underlying4 true, rfl, rfl⟩
  · rw [hs]
    exact trodAll_below laidOut hb hr hA (fun x hx => hlt x (List.mem_append.2 (.inl hx)))
  · rw [hs, hvars]
    rw [hvars] at hV
    exact hV
end Go.Proofs.YtoonkfhphbojcaaGreatDoor
namespace Go.Proofs.YtoonkfhphbojcaaGreatDoor
open Go.RowKit Go.Maps
def RLPost (r : Option (List GLine)) (w : World) (e : Ending) (w' : World) : Prop := Below w.heap.size w w' ∧ match r with
  | some l => ∃ v B, e = .returned (.tuple #[v, .int .i64 0]) ∧ w.heap.size ≤ B ∧ w'.ownsRow B 59 8 v l.length (l.flatMap lineC) ∧ ∀ y ∈ l, LineB y
  | none => e = .returned (.tuple #[.slice none 0 0, .int .i64 7])
set_option maxHeartbeats 4000000 in
set_option maxRecDepth 100000 in
theorem readLines33 (s : BL) (w : World) (hL : Lib33 w) (hs : s.length ≤ 100000) :
    Calls Tryz.prog 17 #[.string (bsOf s)] w (RLPost (readLinesL s) w) := by
  have HB2 : Below w.heap.size w ((w.alloc (.cells #[.string (bsOf s)] 9)).alloc (.cells #[.slice none 0 0] 33)) := (alloc_old w _).alloc (by simp) _
  have hX2 : ((w.alloc (.cells #[.string (bsOf s)] 9)).alloc (.cells #[.slice none 0 0] 33)).heap[w.heap.size + 1]? = some (.cells #[.slice none 0 0] 33 (0, 0)) := by
    have := new_block (w.alloc (.cells #[.string (bsOf s)] 9)) (.cells #[.slice none 0 0] 33)
    simpa using this
  have hS2 : ((w.alloc (.cells #[.string (bsOf s)] 9)).alloc (.cells #[.slice none 0 0] 33)).heap[w.heap.size]? = some (.cells #[.string (bsOf s)] 9 (0, 0)) := (Below.heap_alloc _ _ _ (by simp)).trans (new_block w _)
  have hmf : ∀ (fn : Fn) (first cap : Array Value) (w : World), (Instr.makeFunc fn first cap).run Tryz.prog w = .ok (.func fn first cap) w := fun _ _ _ _ => rfl
  have HL := Lib.hid hL
  clear hL
  go_enter Tryz.func17, Tryz.ntmps17
  go_upto_region 1 with fail
  change Code.wp _ _ _ _ ((w.alloc (.cells #[.string (bsOf s)] 9)).alloc (.cells #[.slice none 0 0] 33))
  generalize ((w.alloc (.cells #[.string (bsOf s)] 9)).alloc (.cells #[.slice none 0 0] 33)) = w2 at *
  obtain ⟨lb, hlb⟩ : ∃ lb, lb = w.heap.size + 1 := ⟨_, rfl⟩
  rw [← hlb] at hX2 ⊢
  have hx2 := (Array.getElem?_eq_some_iff.1 hX2).1
  have hbb := new_block w2 (.cells #[.bool false] 4)
  have HB3 : Below w.heap.size w (w2.alloc (.cells #[.bool false] 4)) := HB2.alloc HB2.size _
  have hX3 : (w2.alloc (.cells #[.bool false] 4)).heap[lb]? = some (.cells #[.slice none 0 0] 33 (0, 0)) := (Below.heap_alloc _ _ _ hx2).trans hX2
  have hS3 : (w2.alloc (.cells #[.bool false] 4)).heap[w.heap.size]? = some (.cells #[.string (bsOf s)] 9 (0, 0)) := (Below.heap_alloc _ _ _ (Array.getElem?_eq_some_iff.1 hS2).1).trans hS2
  have HD := doLines33 s w.heap.size lb w (w2.alloc (.cells #[.bool false] 4)) HL.out HB3 (by omega) hs (Lib.cell_of_heap hS3 0) hX3
  have HC := Lib.hid (caught33 56 #[.pointer (some ⟨w.heap.size, 0, none⟩), .pointer (some ⟨lb, 0, none⟩)]
    (fun w' => ∃ l, readLinesL s = some l ∧ LinesAt (w2.alloc (.cells #[.bool false] 4)).heap.size lb l w' ∧ KB (fun k => k = lb) (w2.alloc (.cells #[.bool false] 4)) w')
    (fun w' => readLinesL s = none ∧ (∃ v, w'.heap[lb]? = some (.cells #[v] 33 (0, 0))) ∧ KB (fun k => k = lb) (w2.alloc (.cells #[.bool false] 4)) w') w2
    (fun args W => run_call_go Tryz.func56 (by kernel_rfl) (by kernel_rfl) args)
    (HD.mono fun e w' h => by
      unfold DoLPost at h
      cases hr : readLinesL s with
      | some l => rw [hr] at h; exact .inl ⟨h.2.1, l, rfl, h.2.2, h.1⟩
      | none => rw [hr] at h; exact .inr ⟨h.2.1, rfl, h.2.2, h.1⟩)
    (fun w' ⟨x, _, _, hk⟩ => (hk.block w2.heap.size (by simp) (by omega)).trans hbb)
    (fun w' ⟨_, _, hk⟩ => (hk.block w2.heap.size (by simp) (by omega)).trans hbb))
  unfold CaughtPost at HC
  have HXB := Lib.hid hlb
  clear HD hX3 hS3 hbb hS2 hX2 hlb
  go_wp2_with fail
  refine HC.out.mono ?_
  rintro e w5 (⟨rfl, w4, ⟨l, hr, ⟨v, hX4, hrow, hlB⟩, hk4⟩, rfl⟩ | ⟨rfl, w4, ⟨hr, ⟨v, hX4⟩, hk4⟩, rfl⟩)
  · obtain ⟨pv, cv, rfl⟩ := own_shape hrow
    have hx5 : (w4.setCell ⟨w2.heap.size, 0, none⟩ (.bool false)).heap[lb]? = some (.cells #[.slice pv l.length cv] 33 (0, 0)) := (Below.heap_setCell _ _ _ _ (by simp; omega)).trans hX4
    have HB5 : Hid (Below w.heap.size w (w4.setCell ⟨w2.heap.size, 0, none⟩ (.bool false))) := Lib.hid ((HB3.trans (hk4.below HB3.size (fun k hk e => by have := HXB.out; omega))).setCell (p := ⟨w2.heap.size, 0, none⟩) HB2.size _)
    have hbx4 := (hk4.block w2.heap.size (by simp) (by omega)).trans (new_block w2 (.cells #[.bool false] 4))
    have HRW := Lib.hid (own_congr (w' := w4.setCell ⟨w2.heap.size, 0, none⟩ (.bool false)) hrow fun q hq => Below.heap_setCell _ _ _ _ (fun e => own_ne_box hrow hbx4 (by decide) (by rw [hq, e])))
    have HR := Lib.hid hr
    have HLB := Lib.hid hlB
    clear hX4 hk4 hr HC HB3 hx2 hrow hlB hbx4
    generalize (w4.setCell ⟨w2.heap.size, 0, none⟩ (.bool false)) = w6 at *
    have z0 : w6.cell? ⟨lb, 0, none⟩ = some (.slice pv l.length cv) := Lib.cell_of_heap hx5 0
    have f0 := Lib.frozen_of_heap hx5 0
    have s0 := setCell_self z0
    go_wp2
    refine bodyPost_ret (v := .tuple #[.slice pv l.length cv, .int .i64 0]) (by simp [results, Tryz.results17, go_sem, z0]) rfl ?_
    rw [HR.out]
    exact ⟨HB5.out, _, _, rfl, by simp; have := HB2.size; omega, HRW.out, HLB.out⟩
  · have hx5 : (w4.setCell ⟨w2.heap.size, 0, none⟩ (.bool true)).heap[lb]? = some (.cells #[v] 33 (0, 0)) := (Below.heap_setCell _ _ _ _ (by simp; omega)).trans hX4
    have HB5 : Hid (Below w.heap.size w (w4.setCell ⟨w2.heap.size, 0, none⟩ (.bool true))) := Lib.hid ((HB3.trans (hk4.below HB3.size (fun k hk e => by have := HXB.out; omega))).setCell (p := ⟨w2.heap.size, 0, none⟩) HB2.size _)
    have HR := Lib.hid hr
    clear hX4 hk4 hr HC HB3 hx2
    generalize (w4.setCell ⟨w2.heap.size, 0, none⟩ (.bool true)) = w6 at *
    have z0 : w6.cell? ⟨lb, 0, none⟩ = some v := Lib.cell_of_heap hx5 0
    have f0 := Lib.frozen_of_heap hx5 0
    have hx7 := set33 hx5 0 (.slice none 0 0)
    have HB7 := Lib.hid (HB5.out.setCell (p := ⟨lb, 0, none⟩) (by show w.heap.size ≤ lb; have := HXB.out; omega) (.slice none 0 0))
    go_wp2
    generalize (w6.setCell ⟨lb, 0, none⟩ (.slice none 0 0)) = w7 at *
    have z0 : w7.cell? ⟨lb, 0, none⟩ = some (.slice none 0 0) := Lib.cell_of_heap hx7 0
    refine bodyPost_ret (v := .tuple #[.slice none 0 0, .int .i64 7]) (by simp [results, Tryz.results17, go_sem, z0]) rfl ?_
    rw [HR.out]
    exact ⟨HB7.out, rfl⟩
end Go.Proofs.YtoonkfhphbojcaaGreatDoor
namespace Go.Proofs.YtoonkfhphbojcaaGreatDoor
open Go.RowKit Go.Maps
def txSw : BL := [115, 119, 32, 114, 49, 32, 114, 50, 32, 52]
def txLi : BL := [108, 105, 32, 114, 49, 32, 48, 53]
def txAgain : BL := [97, 103, 97, 105, 110]
def txLine : BL := [97, 103, 97, 105, 110, 58, 32, 106, 109, 112, 32, 62, 97, 103, 97, 105, 110, 10]
def lnJmp : GLine := ⟨txAgain, ⟨40, 0, 0, 0, 0⟩, txAgain, []⟩
def lnLa : GLine := ⟨[], ⟨32, 1, 0, 0, 4⟩, [], [100]⟩
theorem al_told : toldL ⟨1, 1, 2, 3, 0⟩ (decD 0) = [97, 100, 100, 32, 114, 49, 32, 114, 50, 32, 114, 51] := by decide +kernel
theorem al_ok : insOk ⟨1, 1, 2, 3, 0⟩ = true := by decide +kernel
theorem al_sw : readInsnL txSw = some ⟨36, 0, 1, 2, 4⟩ := by decide +kernel
theorem al_li : readInsnL txLi = none := by decide +kernel
theorem al_lines : [lnJmp, lnLa].all lineOk = true := by kernel_rfl
theorem al_text : textL [lnJmp, lnLa] = txLine ++ [108, 105, 32, 114, 49, 32, 64, 100, 43, 52, 10] := by decide +kernel
theorem al_read : readLinesL txLine = some [lnJmp] := by kernel_rfl
theorem al_code : codeOf 256 [42, 240, 0, 0, 0, 0, 0, 0, 1] = [50, 53, 54, 32, 106, 114, 32, 114, 49, 53, 10, 50, 54, 52, 32, 120, 48, 49, 10] := by kernel_rfl
end Go.Proofs.YtoonkfhphbojcaaGreatDoor
namespace Go.Proofs.YtoonkfhphbojcaaGreatDoor
open Go.ChangeShapes Go.WideShapes Go.ChangeAt Go.RowKit
section
variable {H : Type} {enc : TypeId × Value → H} {w : World} {base : Nat} {spare : Nat → Bool} {held : Bool}
theorem bs_own (s : ByteArray) : bsOf s.data.toList = s := by simp [bsOf]
set_option maxRecDepth 100000 in
theorem open_line (b o : Nat) (cs : List Value) (n : Nat) (d : DataW H × List MemPlace) (hb : b < w.heap.size) (hl : cs.length = 8) (hc : ∀ j, j < 8 → w.cell? ⟨b, o + j, none⟩ = cs[j]?)
    (h : DataW.trod enc Tryz.prog w base spare held n 59 cs = some d) (hs : Small Tryz.prog 59 d.1) : ∃ y, LineRw w b o y := by
  obtain ⟨xs, m, _, hd, _, hxl, hff⟩ := DataW.trod_struct Tryz.underlying59 h
  subst hd
  unfold Small at hs
  simp only [DataW.weights, Tryz.underlying59] at hs
  have h0 := hff 0 _ rfl
  have h1 := hff 1 _ rfl
  have h2 := hff 2 _ rfl
  have h3 := hff 3 _ rfl
  have hxl' : xs.length = 4 := hxl
  match xs, hxl' with
  | [x0, x1, x2, x3], _ =>
  match hcs : cs, hl with
  | [a0, a1, a2, a3, a4, a5, a6, a7], _ =>
  obtain ⟨n0, c0, q0, w0⟩ := DataW.trod_string Tryz.underlying9 h0
  obtain ⟨x, hx, hB⟩ := open_insC (cs := [a1, a2, a3, a4, a5]) h1 rfl (small_each hs 1 24 x1.1 rfl rfl)
  obtain ⟨n2, c2, q2, w2⟩ := DataW.trod_string Tryz.underlying9 h2
  obtain ⟨n3, c3, q3, w3⟩ := DataW.trod_string Tryz.underlying9 h3
  have s0 := small_each hs 0 9 x0.1 rfl rfl
  have s2 := small_each hs 2 9 x2.1 rfl rfl
  have s3 := small_each hs 3 9 x3.1 rfl rfl
  rw [q0] at s0
  rw [q2] at s2
  rw [q3] at s3
  cases hx; cases c0; cases c2; cases c3
  have b0 := small_bytes s0
  have b2 := small_bytes s2
  have b3 := small_bytes s3
  refine ⟨⟨n0.data.toList, x, n2.data.toList, n3.data.toList⟩, hb, ?_, hc 1 (by omega), hc 2 (by omega), hc 3 (by omega), hc 4 (by omega), hc 5 (by omega), ?_, ?_, hB, by simpa using b0, by simpa using b2, by simpa using b3⟩
  · rw [bs_own]; exact hc 0 (by omega)
  · rw [bs_own]; exact hc 6 (by omega)
  · rw [bs_own]; exact hc 7 (by omega)
theorem open_lines {v : Value} {d : DataW H} {p : List MemPlace} (h : DataW.Trod enc Tryz.prog w base spare held 33 v d p) (hsl : ∃ a n c, v = .slice a n c) (hs : Small Tryz.prog 33 d) : ∃ l, RowAt 8 LineRw w v l := by
  obtain ⟨fuel, hf⟩ := h
  obtain ⟨a, n, c, rfl⟩ := hsl
  obtain ⟨v', l, hv, hr⟩ := open_row (x := (d, p)) Tryz.underlying33 (by kernel_rfl) (by omega) (of_decide_eq_true (by kernel_rfl)) open_line hf hs
  have : v' = .slice a n c := by simpa [Value.cells] using hv.symm
  subst this
  exact ⟨l, hr⟩
end
end Go.Proofs.YtoonkfhphbojcaaGreatDoor
