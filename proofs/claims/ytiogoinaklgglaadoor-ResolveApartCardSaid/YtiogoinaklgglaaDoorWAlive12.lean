/- The walks of aediculelaw12.sym and alive. -/
import Derived.Test.YtiogoinaklgglaaDoorWResFind
import Derived.Deep.AppendLies
namespace Go.Proofs.YtiogoinaklgglaaDoor
open Go.RowKit Go.Maps Go.WideMaps
section
variable {α : Type} {k : Nat} {R : World → Nat → Nat → α → Prop} {w : World} {b o cap : Nat}
theorem rowAt_nil : RowAt k R w (.slice none 0 0) [] := ⟨none, 0, 0, 0, rfl, Nat.le_refl _, by simp, fun h => by simp at h, fun i h => by simp at h⟩
theorem rowAt_one {a : α} (h0 : R w b o a) (hcap : 1 ≤ cap) : RowAt k R w (.slice (some ⟨b, o, none⟩) 1 cap) [a] :=
  ⟨_, cap, b, o, rfl, hcap, by simp, fun _ => rfl, fun i h => by
    have : i = 0 := by simp at h; omega
    subst this; simpa using h0⟩
theorem rowAt_two {a c : α} (h0 : R w b o a) (h1 : R w b (o + k) c) (hcap : 2 ≤ cap) : RowAt k R w (.slice (some ⟨b, o, none⟩) 2 cap) [a, c] :=
  ⟨_, cap, b, o, rfl, hcap, by simp, fun _ => rfl, fun i h => by
    have : i = 0 ∨ i = 1 := by simp at h; omega
    rcases this with rfl | rfl
    · simpa using h0
    · simpa using h1⟩
theorem rowAt_three {a c d : α} (h0 : R w b o a) (h1 : R w b (o + k) c) (h2 : R w b (o + 2 * k) d) (hcap : 3 ≤ cap) : RowAt k R w (.slice (some ⟨b, o, none⟩) 3 cap) [a, c, d] :=
  ⟨_, cap, b, o, rfl, hcap, by simp, fun _ => rfl, fun i h => by
    have : i = 0 ∨ i = 1 ∨ i = 2 := by simp at h; omega
    rcases this with rfl | rfl | rfl
    · simpa using h0
    · simpa using h1
    · simpa using h2⟩
end
def sym12 (n : UInt8) (bind : Int) : GSym := ⟨⟨#[n]⟩, bind, 2, 4, emptyB, [], []⟩
theorem symR_12 {w : World} {b o : Nat} {n : UInt8} {bind : Int} (hb : b < w.heap.size) (hbd : 0 ≤ bind ∧ bind ≤ 255) (h0 : w.cell? ⟨b, o, none⟩ = some (.string ⟨#[n]⟩)) (h1 : w.cell? ⟨b, o + 1, none⟩ = some (.int .u8 bind)) (h2 : w.cell? ⟨b, o + 2, none⟩ = some (.int .u8 2)) (h3 : w.cell? ⟨b, o + 3, none⟩ = some (.int .u32 4))
    (h4 : w.cell? ⟨b, o + 4, none⟩ = some (.string ⟨#[]⟩)) (h5 : w.cell? ⟨b, o + 5, none⟩ = some (.slice none 0 0)) (h6 : w.cell? ⟨b, o + 6, none⟩ = some (.slice none 0 0)) : SymR w b o (sym12 n bind) :=
  ⟨_, _, hb, h0, h1, h2, h3, h4, h5, h6, rowAt_nil, rowAt_nil, hbd, by simp [sym12], by simp [sym12], by simp [sym12, ByteArray.size], by simp [sym12, emptyB, ByteArray.size]⟩
set_option maxHeartbeats 400000 in
theorem sym12_any (n : UInt8) (bind : Int) (w : World) :
    Calls Tryd.prog 19 #[.string ⟨#[n]⟩, .int .u8 bind] w fun e w' => e = .returned (.agg #[.string ⟨#[n]⟩, .int .u8 bind, .int .u8 2, .int .u32 4, .string ⟨#[]⟩, .slice none 0 0, .slice none 0 0]) ∧ Below w.heap.size w w' := by
  go_enter Tryd.func19, Tryd.ntmps19
  go_wp2
  refine bodyPost_ret (v := .agg #[.string ⟨#[n]⟩, .int .u8 bind, .int .u8 2, .int .u32 4, .string ⟨#[]⟩, .slice none 0 0, .slice none 0 0]) (by simp [results, Tryd.results19, go_sem]) rfl ⟨rfl, ?_⟩
  exact alloc_old w _
def objs12 : List GObj := [⟨⟨#[97]⟩, [sym12 102 2, sym12 103 0]⟩, ⟨⟨#[98]⟩, [sym12 102 1, sym12 103 1]⟩]
theorem findV_val {l : List GObj} {v : Value} {i : Int} {nm : ByteArray} {w : World} (h : ObjsAt w v l) (hn : nm.size ≤ 9223372036854775807) (a b : Nat) (c : Int) (hr : findAll l i nm.data.toList = ((a, b), c)) :
    Calls Tryd.prog 8 #[v, .int .i64 i, .string nm] w fun e w' => e = .returned (.tuple #[.agg #[.int .i64 a, .int .i64 b], .int .i64 c]) ∧ Below w.heap.size w w' := by
  have := resFind_any v l i nm w h hn
  rw [hr] at this
  exact this
def S12 (b2 b4 : Nat) (w : World) : Prop := RowAt 7 SymR w (.slice (some ⟨b2, 0, none⟩) 2 2) [sym12 102 2, sym12 103 0] ∧ RowAt 7 SymR w (.slice (some ⟨b4, 0, none⟩) 2 2) [sym12 102 1, sym12 103 1]
theorem S12.keep {b2 b4 : Nat} {w w' : World} (hb : Below w.heap.size w w') (h : S12 b2 b4 w) : S12 b2 b4 w' := ⟨h.1.keep symR_keeps hb, h.2.keep symR_keeps hb⟩
theorem objs12_at (w2 w4 : World) (hb : Below (w2.heap.size + 1) (w2.alloc (.cells #[.string ⟨#[102]⟩, .int .u8 2, .int .u8 2, .int .u32 4, .string ⟨#[]⟩, .slice none 0 0, .slice none 0 0, .string ⟨#[103]⟩, .int .u8 0, .int .u8 2, .int .u32 4, .string ⟨#[]⟩, .slice none 0 0, .slice none 0 0] 37)) w4) :
    ObjsAt ((w4.alloc (.cells #[.string ⟨#[102]⟩, .int .u8 1, .int .u8 2, .int .u32 4, .string ⟨#[]⟩, .slice none 0 0, .slice none 0 0, .string ⟨#[103]⟩, .int .u8 1, .int .u8 2, .int .u32 4, .string ⟨#[]⟩, .slice none 0 0, .slice none 0 0] 37)).alloc (.cells #[.string ⟨#[97]⟩, .slice (some ⟨w2.heap.size, 0, none⟩) 2 2, .string ⟨#[98]⟩, .slice (some ⟨w4.heap.size, 0, none⟩) 2 2] 32)) (.slice (some ⟨w4.heap.size + 1, 0, none⟩) 2 2) objs12 ∧ S12 w2.heap.size w4.heap.size ((w4.alloc (.cells #[.string ⟨#[102]⟩, .int .u8 1, .int .u8 2, .int .u32 4, .string ⟨#[]⟩, .slice none 0 0, .slice none 0 0, .string ⟨#[103]⟩, .int .u8 1, .int .u8 2, .int .u32 4, .string ⟨#[]⟩, .slice none 0 0, .slice none 0 0] 37)).alloc (.cells #[.string ⟨#[97]⟩, .slice (some ⟨w2.heap.size, 0, none⟩) 2 2, .string ⟨#[98]⟩, .slice (some ⟨w4.heap.size, 0, none⟩) 2 2] 32)) := by
  have hz : w2.heap.size < w4.heap.size := by have := hb.size; simp at this; omega
  obtain ⟨hc, -⟩ := bcell hb
  have hc := fun o => hc w2.heap.size o (by omega)
  have s1 : RowAt 7 SymR ((w4.alloc (.cells #[.string ⟨#[102]⟩, .int .u8 1, .int .u8 2, .int .u32 4, .string ⟨#[]⟩, .slice none 0 0, .slice none 0 0, .string ⟨#[103]⟩, .int .u8 1, .int .u8 2, .int .u32 4, .string ⟨#[]⟩, .slice none 0 0, .slice none 0 0] 37)).alloc (.cells #[.string ⟨#[97]⟩, .slice (some ⟨w2.heap.size, 0, none⟩) 2 2, .string ⟨#[98]⟩, .slice (some ⟨w4.heap.size, 0, none⟩) 2 2] 32)) (.slice (some ⟨w2.heap.size, 0, none⟩) 2 2) [sym12 102 2, sym12 103 0] := rowAt_two (symR_12 (by simp; omega) (by decide) (by simp [go_sem, hc, hz]) (by simp [go_sem, hc, hz]) (by simp [go_sem, hc, hz]) (by simp [go_sem, hc, hz]) (by simp [go_sem, hc, hz]) (by simp [go_sem, hc, hz]) (by simp [go_sem, hc, hz])) (symR_12 (by simp; omega) (by decide) (by simp [go_sem, hc, hz]) (by simp [go_sem, hc, hz]) (by simp [go_sem, hc, hz]) (by simp [go_sem, hc, hz]) (by simp [go_sem, hc, hz]) (by simp [go_sem, hc, hz]) (by simp [go_sem, hc, hz])) (by omega)
  have s2 : RowAt 7 SymR ((w4.alloc (.cells #[.string ⟨#[102]⟩, .int .u8 1, .int .u8 2, .int .u32 4, .string ⟨#[]⟩, .slice none 0 0, .slice none 0 0, .string ⟨#[103]⟩, .int .u8 1, .int .u8 2, .int .u32 4, .string ⟨#[]⟩, .slice none 0 0, .slice none 0 0] 37)).alloc (.cells #[.string ⟨#[97]⟩, .slice (some ⟨w2.heap.size, 0, none⟩) 2 2, .string ⟨#[98]⟩, .slice (some ⟨w4.heap.size, 0, none⟩) 2 2] 32)) (.slice (some ⟨w4.heap.size, 0, none⟩) 2 2) [sym12 102 1, sym12 103 1] := rowAt_two (symR_12 (by simp; omega) (by decide) (by simp [go_sem]) (by simp [go_sem]) (by simp [go_sem]) (by simp [go_sem]) (by simp [go_sem]) (by simp [go_sem]) (by simp [go_sem])) (symR_12 (by simp; omega) (by decide) (by simp [go_sem]) (by simp [go_sem]) (by simp [go_sem]) (by simp [go_sem]) (by simp [go_sem]) (by simp [go_sem]) (by simp [go_sem])) (by omega)
  exact ⟨rowAt_two ⟨_, by simp, by simp [go_sem], by simp [go_sem], s1, by decide⟩ ⟨_, by simp, by simp [go_sem], by simp [go_sem], s2, by decide⟩ (by omega), s1, s2⟩
/-- a place in a block of its own -/
def PlaceAt (w : World) (g : Nat) (a b : Int) : Prop := g < w.heap.size ∧ w.cell? ⟨g, 0, none⟩ = some (.int .i64 a) ∧ w.cell? ⟨g, 1, none⟩ = some (.int .i64 b)
theorem placeAt_keep {w w' : World} {g : Nat} {a b : Int} (hb : Below w.heap.size w w') (h : PlaceAt w g a b) : PlaceAt w' g a b := ⟨size_keep hb h.1, cell_keep hb h.1 h.2.1, cell_keep hb h.1 h.2.2⟩
theorem ownsRow_below {w w' : World} {base : Nat} {e : TypeId} {size : Nat} {v : Value} {n : Nat} {xs : List Value} (hb : Below w.heap.size w w') (h : w.ownsRow base e size v n xs) : w'.ownsRow base e size v n xs :=
  h.kept (row := none) ⟨hb.os, hb.tape, hb.output, hb.size, fun k hk _ => hb.block k hk⟩ (by cases h' : v.ownBlock <;> simp)
theorem info_object : (Tryd.prog.info? 32).map (fun i => (i.zero, i.size, i.bytes)) = some (some (.agg #[.string ⟨#[]⟩, .slice none 0 0]), 2, 40) := by kernel_rfl
def objs12c : List GObj := objs12 ++ [⟨⟨#[99]⟩, [sym12 102 1]⟩]
set_option maxRecDepth 100000 in
set_option maxHeartbeats 2000000 in
theorem alive12_any (w : World) : Calls Tryd.prog 7 #[] w fun e w' => e = .returned (.bool true) ∧ Below w.heap.size w w' := by
  go_enter Tryd.func7, Tryd.ntmps7
  go_wp2_with fail
  refine (sym12_any _ _ _).mono ?_; rintro e w1 ⟨rfl, hB1⟩
  go_wp2_with fail
  refine (sym12_any _ _ _).mono ?_; rintro e w2 ⟨rfl, hB2⟩
  go_wp2_with fail
  refine (sym12_any _ _ _).mono ?_; rintro e w3 ⟨rfl, hB3⟩
  go_wp2_with fail
  refine (sym12_any _ _ _).mono ?_; rintro e w4 ⟨rfl, hB4⟩
  go_wp2_with fail
  have hb24 : Below (w2.heap.size + 1) (w2.alloc (.cells #[.string ⟨#[102]⟩, .int .u8 2, .int .u8 2, .int .u32 4, .string ⟨#[]⟩, .slice none 0 0, .slice none 0 0, .string ⟨#[103]⟩, .int .u8 0, .int .u8 2, .int .u32 4, .string ⟨#[]⟩, .slice none 0 0, .slice none 0 0] 37)) w4 := (hB3.mono (by simp)).trans (hB4.mono (by have := hB3.size; simp at this; omega))
  obtain ⟨hO, hS⟩ := objs12_at w2 w4 hb24
  have hw4 : Below w.heap.size w w4 := (hB1.trans (hB2.mono hB1.size)).trans (((alloc_old w2 _).mono (Nat.le_trans hB1.size hB2.size)).trans (hb24.mono (by have := hB1.size; have := hB2.size; omega)))
  have hw5 : Below w.heap.size w ((w4.alloc (.cells #[.string ⟨#[102]⟩, .int .u8 1, .int .u8 2, .int .u32 4, .string ⟨#[]⟩, .slice none 0 0, .slice none 0 0, .string ⟨#[103]⟩, .int .u8 1, .int .u8 2, .int .u32 4, .string ⟨#[]⟩, .slice none 0 0, .slice none 0 0] 37)).alloc (.cells #[.string ⟨#[97]⟩, .slice (some ⟨w2.heap.size, 0, none⟩) 2 2, .string ⟨#[98]⟩, .slice (some ⟨w4.heap.size, 0, none⟩) 2 2] 32)) := (hw4.alloc hw4.size _).alloc (by have := hw4.size; simp; omega) _
  have hOW : ((w4.alloc (.cells #[.string ⟨#[102]⟩, .int .u8 1, .int .u8 2, .int .u32 4, .string ⟨#[]⟩, .slice none 0 0, .slice none 0 0, .string ⟨#[103]⟩, .int .u8 1, .int .u8 2, .int .u32 4, .string ⟨#[]⟩, .slice none 0 0, .slice none 0 0] 37)).alloc (.cells #[.string ⟨#[97]⟩, .slice (some ⟨w2.heap.size, 0, none⟩) 2 2, .string ⟨#[98]⟩, .slice (some ⟨w4.heap.size, 0, none⟩) 2 2] 32)).ownsRow w.heap.size 32 2 (.slice (some ⟨w4.heap.size + 1, 0, none⟩) 2 2) 2 [.string ⟨#[97]⟩, .slice (some ⟨w2.heap.size, 0, none⟩) 2 2, .string ⟨#[98]⟩, .slice (some ⟨w4.heap.size, 0, none⟩) 2 2] :=
    ⟨by simp, .inr ⟨w4.heap.size + 1, 2, _, rfl, by have := hw4.size; omega, by simpa using heap_alloc_new (w4.alloc (.cells #[.string ⟨#[102]⟩, .int .u8 1, .int .u8 2, .int .u32 4, .string ⟨#[]⟩, .slice none 0 0, .slice none 0 0, .string ⟨#[103]⟩, .int .u8 1, .int .u8 2, .int .u32 4, .string ⟨#[]⟩, .slice none 0 0, .slice none 0 0] 37)) (.cells #[.string ⟨#[97]⟩, .slice (some ⟨w2.heap.size, 0, none⟩) 2 2, .string ⟨#[98]⟩, .slice (some ⟨w4.heap.size, 0, none⟩) 2 2] 32), by omega, by decide, rfl, rfl⟩⟩
  have F0 : findAll objs12 0 (⟨#[102]⟩ : ByteArray).data.toList = ((1, 0), 0) := by decide +kernel
  refine (findV_val hO (by decide) _ _ _ F0).mono ?_; rintro e w5 ⟨rfl, hB⟩
  clear F0
  have hOw5 := ObjsAt.keep hB hO; clear hO
  replace hS := S12.keep hB hS
  have hOWw5 : w5.ownsRow w.heap.size 32 2 (.slice (some ⟨w4.heap.size + 1, 0, none⟩) 2 2) 2 [.string ⟨#[97]⟩, .slice (some ⟨w2.heap.size, 0, none⟩) 2 2, .string ⟨#[98]⟩, .slice (some ⟨w4.heap.size, 0, none⟩) 2 2] := ownsRow_below hB hOW; clear hOW
  have hWw5 : Below w.heap.size w w5 := hw5.trans (hB.mono hw5.size); clear hw5
  clear hB
  have pw5 : PlaceAt (w5.alloc (.cells #[.int .i64 1, .int .i64 0] 26)) w5.heap.size 1 0 := ⟨by simp, by simp [go_sem], by simp [go_sem]⟩
  have hO := ObjsAt.keep (alloc_old w5 (.cells #[.int .i64 1, .int .i64 0] 26)) hOw5; clear hOw5
  replace hS := S12.keep (alloc_old w5 (.cells #[.int .i64 1, .int .i64 0] 26)) hS
  have hOW := hOWw5.alloc (.cells #[.int .i64 1, .int .i64 0] 26); clear hOWw5
  have hw5 := hWw5.alloc hWw5.size (.cells #[.int .i64 1, .int .i64 0] 26); clear hWw5
  go_wp2_with fail
  have F1 : findAll objs12 0 (⟨#[103]⟩ : ByteArray).data.toList = ((0, 1), 0) := by decide +kernel
  refine (findV_val hO (by decide) _ _ _ F1).mono ?_; rintro e w6 ⟨rfl, hB⟩
  clear F1
  have hOw6 := ObjsAt.keep hB hO; clear hO
  replace hS := S12.keep hB hS
  have hOWw6 : w6.ownsRow w.heap.size 32 2 (.slice (some ⟨w4.heap.size + 1, 0, none⟩) 2 2) 2 [.string ⟨#[97]⟩, .slice (some ⟨w2.heap.size, 0, none⟩) 2 2, .string ⟨#[98]⟩, .slice (some ⟨w4.heap.size, 0, none⟩) 2 2] := ownsRow_below hB hOW; clear hOW
  have hWw6 : Below w.heap.size w w6 := hw5.trans (hB.mono hw5.size); clear hw5
  replace pw5 := placeAt_keep hB pw5
  clear hB
  have pw6 : PlaceAt (w6.alloc (.cells #[.int .i64 0, .int .i64 1] 26)) w6.heap.size 0 1 := ⟨by simp, by simp [go_sem], by simp [go_sem]⟩
  replace pw5 := placeAt_keep (alloc_old w6 (.cells #[.int .i64 0, .int .i64 1] 26)) pw5
  have hO := ObjsAt.keep (alloc_old w6 (.cells #[.int .i64 0, .int .i64 1] 26)) hOw6; clear hOw6
  replace hS := S12.keep (alloc_old w6 (.cells #[.int .i64 0, .int .i64 1] 26)) hS
  have hOW := hOWw6.alloc (.cells #[.int .i64 0, .int .i64 1] 26); clear hOWw6
  have hw5 := hWw6.alloc hWw6.size (.cells #[.int .i64 0, .int .i64 1] 26); clear hWw6
  go_wp2_with fail
  have F2 : findAll objs12 1 (⟨#[103]⟩ : ByteArray).data.toList = ((1, 1), 0) := by decide +kernel
  refine (findV_val hO (by decide) _ _ _ F2).mono ?_; rintro e w7 ⟨rfl, hB⟩
  clear F2
  have hOw7 := ObjsAt.keep hB hO; clear hO
  replace hS := S12.keep hB hS
  have hOWw7 : w7.ownsRow w.heap.size 32 2 (.slice (some ⟨w4.heap.size + 1, 0, none⟩) 2 2) 2 [.string ⟨#[97]⟩, .slice (some ⟨w2.heap.size, 0, none⟩) 2 2, .string ⟨#[98]⟩, .slice (some ⟨w4.heap.size, 0, none⟩) 2 2] := ownsRow_below hB hOW; clear hOW
  have hWw7 : Below w.heap.size w w7 := hw5.trans (hB.mono hw5.size); clear hw5
  replace pw5 := placeAt_keep hB pw5
  replace pw6 := placeAt_keep hB pw6
  clear hB
  have pw7 : PlaceAt (w7.alloc (.cells #[.int .i64 1, .int .i64 1] 26)) w7.heap.size 1 1 := ⟨by simp, by simp [go_sem], by simp [go_sem]⟩
  replace pw5 := placeAt_keep (alloc_old w7 (.cells #[.int .i64 1, .int .i64 1] 26)) pw5
  replace pw6 := placeAt_keep (alloc_old w7 (.cells #[.int .i64 1, .int .i64 1] 26)) pw6
  have hO := ObjsAt.keep (alloc_old w7 (.cells #[.int .i64 1, .int .i64 1] 26)) hOw7; clear hOw7
  replace hS := S12.keep (alloc_old w7 (.cells #[.int .i64 1, .int .i64 1] 26)) hS
  have hOW := hOWw7.alloc (.cells #[.int .i64 1, .int .i64 1] 26); clear hOWw7
  have hw5 := hWw7.alloc hWw7.size (.cells #[.int .i64 1, .int .i64 1] 26); clear hWw7
  go_wp2_with fail
  have F3 : findAll objs12 (-1) (⟨#[120]⟩ : ByteArray).data.toList = ((0, 0), 121) := by decide +kernel
  refine (findV_val hO (by decide) _ _ _ F3).mono ?_; rintro e w8 ⟨rfl, hB⟩
  clear F3
  have hOw8 := ObjsAt.keep hB hO; clear hO
  replace hS := S12.keep hB hS
  have hOWw8 : w8.ownsRow w.heap.size 32 2 (.slice (some ⟨w4.heap.size + 1, 0, none⟩) 2 2) 2 [.string ⟨#[97]⟩, .slice (some ⟨w2.heap.size, 0, none⟩) 2 2, .string ⟨#[98]⟩, .slice (some ⟨w4.heap.size, 0, none⟩) 2 2] := ownsRow_below hB hOW; clear hOW
  have hWw8 : Below w.heap.size w w8 := hw5.trans (hB.mono hw5.size); clear hw5
  replace pw5 := placeAt_keep hB pw5
  replace pw6 := placeAt_keep hB pw6
  replace pw7 := placeAt_keep hB pw7
  clear hB
  have pw8 : PlaceAt (w8.alloc (.cells #[.int .i64 0, .int .i64 0] 26)) w8.heap.size 0 0 := ⟨by simp, by simp [go_sem], by simp [go_sem]⟩
  replace pw5 := placeAt_keep (alloc_old w8 (.cells #[.int .i64 0, .int .i64 0] 26)) pw5
  replace pw6 := placeAt_keep (alloc_old w8 (.cells #[.int .i64 0, .int .i64 0] 26)) pw6
  replace pw7 := placeAt_keep (alloc_old w8 (.cells #[.int .i64 0, .int .i64 0] 26)) pw7
  have hO := ObjsAt.keep (alloc_old w8 (.cells #[.int .i64 0, .int .i64 0] 26)) hOw8; clear hOw8
  replace hS := S12.keep (alloc_old w8 (.cells #[.int .i64 0, .int .i64 0] 26)) hS
  have hOW := hOWw8.alloc (.cells #[.int .i64 0, .int .i64 0] 26); clear hOWw8
  have hw5 := hWw8.alloc hWw8.size (.cells #[.int .i64 0, .int .i64 0] 26); clear hWw8
  go_wp2_with fail
  refine (sym12_any _ _ _).mono ?_; rintro e w9 ⟨rfl, hB⟩
  replace hS := S12.keep (((alloc_old w9 (.cells #[.string ⟨#[102]⟩, .int .u8 1, .int .u8 2, .int .u32 4, .string ⟨#[]⟩, .slice none 0 0, .slice none 0 0] 37)).alloc (by simp) (.cells #[.string ⟨#[99]⟩, .slice (some ⟨w9.heap.size, 0, none⟩) 1 1] 32))) (S12.keep hB hS)
  have hOW9 := ((ownsRow_below hB hOW).alloc (.cells #[.string ⟨#[102]⟩, .int .u8 1, .int .u8 2, .int .u32 4, .string ⟨#[]⟩, .slice none 0 0, .slice none 0 0] 37)).alloc (.cells #[.string ⟨#[99]⟩, .slice (some ⟨w9.heap.size, 0, none⟩) 1 1] 32); clear hOW
  have hW9 : Below w.heap.size w w9 := hw5.trans (hB.mono hw5.size); clear hw5
  replace pw5 := placeAt_keep ((alloc_old w9 (.cells #[.string ⟨#[102]⟩, .int .u8 1, .int .u8 2, .int .u32 4, .string ⟨#[]⟩, .slice none 0 0, .slice none 0 0] 37)).alloc (by simp) (.cells #[.string ⟨#[99]⟩, .slice (some ⟨w9.heap.size, 0, none⟩) 1 1] 32)) (placeAt_keep hB pw5)
  replace pw6 := placeAt_keep ((alloc_old w9 (.cells #[.string ⟨#[102]⟩, .int .u8 1, .int .u8 2, .int .u32 4, .string ⟨#[]⟩, .slice none 0 0, .slice none 0 0] 37)).alloc (by simp) (.cells #[.string ⟨#[99]⟩, .slice (some ⟨w9.heap.size, 0, none⟩) 1 1] 32)) (placeAt_keep hB pw6)
  replace pw7 := placeAt_keep ((alloc_old w9 (.cells #[.string ⟨#[102]⟩, .int .u8 1, .int .u8 2, .int .u32 4, .string ⟨#[]⟩, .slice none 0 0, .slice none 0 0] 37)).alloc (by simp) (.cells #[.string ⟨#[99]⟩, .slice (some ⟨w9.heap.size, 0, none⟩) 1 1] 32)) (placeAt_keep hB pw7)
  clear pw8 hB hO
  obtain ⟨i0, hi, hz0, hz1, hz2⟩ := info_parts info_object
  have hS3 : RowAt 7 SymR ((w9.alloc (.cells #[.string ⟨#[102]⟩, .int .u8 1, .int .u8 2, .int .u32 4, .string ⟨#[]⟩, .slice none 0 0, .slice none 0 0] 37)).alloc (.cells #[.string ⟨#[99]⟩, .slice (some ⟨w9.heap.size, 0, none⟩) 1 1] 32)) (.slice (some ⟨w9.heap.size, 0, none⟩) 1 1) [sym12 102 1] := rowAt_one (symR_12 (by simp; omega) (by decide) (by simp [go_sem]) (by simp [go_sem]) (by simp [go_sem]) (by simp [go_sem]) (by simp [go_sem]) (by simp [go_sem]) (by simp [go_sem])) (by omega)
  go_wp2_with (at_builtin; refine wpList_append_grows _ rfl _ _ 22 rfl 32 i0 (.agg #[.string ⟨#[]⟩, .slice none 0 0]) 2 40 Tryd.underlying22 hi hz0 hz1 hz2 rfl (by decide) (some ⟨w4.heap.size + 1, 0, none⟩) 2 2 [.string ⟨#[97]⟩, .slice (some ⟨w2.heap.size, 0, none⟩) 2 2, .string ⟨#[98]⟩, .slice (some ⟨w4.heap.size, 0, none⟩) 2 2] rfl ?c0 rfl ?c1 ⟨w9.heap.size + 1, 0, none⟩ 1 1 [.string ⟨#[99]⟩, .slice (some ⟨w9.heap.size, 0, none⟩) 1 1] rfl rfl ?c2 ?c3 ?c4 ?c5 ?c6 ?_)
  case c0 => exact fun h => by cases h
  case c1 =>
    intro b hb j u hu
    cases hb
    exact hOW9.cells rfl j u hu
  case c2 =>
    intro j u hu
    match j, hu with
    | 0, hu => simp at hu; subst hu; simp [go_sem, Addr.add]
    | 1, hu => simp at hu; subst hu; simp [go_sem, Addr.add]
    | n + 2, hu => simp at hu
  case c3 =>
    intro u hu
    simp at hu
    rcases hu with rfl | rfl <;> rfl
  case c4 => omega
  case c5 => decide
  case c6 => decide
  intro v10 w10 hown hgrow
  have hB : Below ((w9.alloc (.cells #[.string ⟨#[102]⟩, .int .u8 1, .int .u8 2, .int .u32 4, .string ⟨#[]⟩, .slice none 0 0, .slice none 0 0] 37)).alloc (.cells #[.string ⟨#[99]⟩, .slice (some ⟨w9.heap.size, 0, none⟩) 1 1] 32)).heap.size ((w9.alloc (.cells #[.string ⟨#[102]⟩, .int .u8 1, .int .u8 2, .int .u32 4, .string ⟨#[]⟩, .slice none 0 0, .slice none 0 0] 37)).alloc (.cells #[.string ⟨#[99]⟩, .slice (some ⟨w9.heap.size, 0, none⟩) 1 1] 32)) w10 := ⟨hgrow.os, hgrow.tape, hgrow.output, hgrow.size, fun k hk => hgrow.block k hk (by simp)⟩
  obtain ⟨g, cap, rfl, hgB, hglt⟩ := hown.form (by omega)
  have hcap : 3 ≤ cap := by
    rcases hown.2 with ⟨h, -⟩ | ⟨g', cap', cur, h, -, -, h2, -⟩
    · cases h
    · cases h; exact h2
  have hcl := fun j u => hown.cells (g := g) rfl j u
  simp only [Addr.add, Nat.zero_add] at hcl
  have hS' := S12.keep hB hS
  have hS3' := RowAt.keep symR_keeps hB hS3
  have hO : ObjsAt w10 (.slice (some ⟨g, 0, none⟩) 3 cap) objs12c :=
    rowAt_three ⟨_, hglt, hcl 0 _ rfl, hcl 1 _ rfl, hS'.1, by decide⟩ ⟨_, hglt, hcl 2 _ rfl, hcl 3 _ rfl, hS'.2, by decide⟩ ⟨_, hglt, hcl 4 _ rfl, hcl 5 _ rfl, hS3', by decide⟩ hcap
  replace pw5 := placeAt_keep hB pw5
  replace pw6 := placeAt_keep hB pw6
  replace pw7 := placeAt_keep hB pw7
  have hW10 : Below w.heap.size w w10 := hW9.trans ((((alloc_old w9 (.cells #[.string ⟨#[102]⟩, .int .u8 1, .int .u8 2, .int .u32 4, .string ⟨#[]⟩, .slice none 0 0, .slice none 0 0] 37)).alloc (by simp) (.cells #[.string ⟨#[99]⟩, .slice (some ⟨w9.heap.size, 0, none⟩) 1 1] 32)).mono hW9.size).trans (hB.mono (by have := hW9.size; simp; omega)))
  clear hcl hown hgrow hS hS' hS3 hS3' hOW9 hi hz0 hz1 hz2
  go_wp2_with fail
  refine (resCheck_any _ objs12c _ hO).mono ?_
  rw [show beginR objs12c = (⟨#[102]⟩, 120) from by decide +kernel]
  rintro e w11 ⟨rfl, hB11⟩
  obtain ⟨x5, y5, z5⟩ := placeAt_keep hB11 pw5
  obtain ⟨x6, y6, z6⟩ := placeAt_keep hB11 pw6
  obtain ⟨x7, y7, z7⟩ := placeAt_keep hB11 pw7
  have hfin := Lib.hid (hW10.trans (hB11.mono hW10.size))
  clear hB11 hW10 hO pw5 pw6 pw7 hB hW9 hB1 hB2 hB3 hB4 hb24 hw4
  go_wp2_with fail
  go_ret
  exact ⟨rfl, hfin.out⟩
end Go.Proofs.YtiogoinaklgglaaDoor
