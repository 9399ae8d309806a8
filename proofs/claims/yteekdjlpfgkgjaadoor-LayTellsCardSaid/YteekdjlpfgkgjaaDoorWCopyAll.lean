/- The walk of aediculeref08.CopyAll. -/
import Derived.Test.YteekdjlpfgkgjaaDoorCopySep
namespace Go.Proofs.YteekdjlpfgkgjaaDoor
open Go.RowKit Go.Maps Go.WideMaps
def CopyAllPost (w : World) (l : List GObj) (e : Ending) (w' : World) : Prop := ∃ (v : Value) (us : List CT), e = .returned v ∧ us.map (·.o) = l ∧ AllSep w.heap.size w' v us ∧ Below w.heap.size w w'
theorem two_cells {w : World} {g : Nat} {a b : Value} (h0 : w.cell? ⟨g, 0, none⟩ = some a) (h1 : w.cell? ⟨g, 1, none⟩ = some b) : ∀ j u, [a, b][j]? = some u → w.cell? ((⟨g, 0, none⟩ : Addr).add j) = some u := by
  intro j u hu
  rw [add_at, Nat.zero_add]
  match j, hu with
  | 0, hu => cases hu; exact h0
  | 1, hu => cases hu; exact h1
theorem two_single {s : ByteArray} {p : Option Addr} {n c : Nat} : ∀ u ∈ [Value.string s, .slice p n c], u.oneCell' = true := by
  intro u hu
  simp only [List.mem_cons, List.not_mem_nil, or_false] at hu
  rcases hu with rfl | rfl <;> rfl
set_option maxRecDepth 100000 in
set_option maxHeartbeats 2000000 in
theorem copyAll_any (v : Value) (l : List GObj) (w : World) (h : ObjsAt w v l) (hbd : ObjsBd l) :
    Calls Tryd.prog 7 #[v] w (CopyAllPost w l) := by
  obtain ⟨p, cap, b, o, rfl, hcap, hmax, hp, hc⟩ := h
  obtain ⟨hb1, hb2⟩ := hbd
  have HP := Lib.hid hp; clear hp
  have HC := Lib.hid hc; clear hc
  have HBD := Lib.hid hb2; clear hb2
  obtain ⟨iS, s0, s1, s2, s3⟩ := info_parts info_obj
  have HS := Lib.hid (And.intro s0 (And.intro s1 (And.intro s2 s3)))
  clear s0 s1 s2 s3
  go_enter Tryd.func7, Tryd.ntmps7
  go_wp2
  go_loopw [3, 4] (fun v3 v4 wr => ∃ (i : Nat) (us : List CT), i ≤ l.length ∧ v4 = .int .i64 i ∧ us.length = i ∧ us.map (·.o) = l.take i ∧ AllSep w.heap.size wr v3 us ∧ Below w.heap.size w wr) (fun _ v4 _ => l.length - (intOf v4).toNat)
  case atStart => exact ⟨0, [], Nat.zero_le _, rfl, rfl, rfl, ⟨World.ownsRow_nil _ _ _ _, fun u hu => (by cases hu), List.Pairwise.nil⟩, Below.refl _ _⟩
  case round =>
    obtain ⟨i, us, hi, rfl, hul, hum, hsep, hbel⟩ := hrel
    have HUL := Lib.hid hul; clear hul
    have HUM := Lib.hid hum; clear hum
    have HSEP := Lib.hid hsep; clear hsep
    have HB := Lib.hid hbel; clear hbel
    by_cases hlt : i < l.length
    · obtain rfl := HP.out (by omega)
      obtain ⟨vs, g0, g1, g2, hin⟩ := objR_keeps _ _ _ _ _ HB.out (HC.out i hlt)
      have hob := HBD.out _ (List.getElem_mem hlt)
      generalize hx : l[i] = x at g1 g2 hin hob
      have HX := Lib.hid hx; clear hx
      have HCON := Lib.hid (copy_any x vs wr hin hob)
      obtain ⟨⟨pS, capS, bS, oS, rfl, -⟩, -⟩ := hin
      obtain ⟨xn, xs⟩ := x
      simp only [] at g1 g2 HCON
      go_wp2_with fail
      refine HCON.out.mono ?_
      intro e w1 hpost
      obtain ⟨vs1, rfl, hos, ⟨ps, cs, rfl⟩, hbw⟩ := hpost.sep
      clear hpost
      simp only [] at hos ⊢
      have HOS := Lib.hid hos; clear hos
      have HBW := Lib.hid hbw; clear hbw
      have hsz := HBW.out.size
      have hsz0 := HB.out.size
      go_wp2_with (at_builtin; refine wpList_append_own_at _ rfl _ _ 22 rfl w.heap.size 43 iS _ 2 40 Tryd.underlying22 HS.out.1 HS.out.2.1 HS.out.2.2.1 HS.out.2.2.2 rfl (by decide) _ us.length (us.flatMap objCells) rfl ?c0 _ 1 1 [.string xn, .slice ps xs.length cs] rfl rfl ?c1 two_single ?c3 ?c4 ?c5 ?_)
      case c0 => exact ownsRow_below (HBW.out.alloc hsz _) HSEP.out.1
      case c1 => exact two_cells (by simp [go_sem]) (by simp [go_sem])
      case c3 => have := HUL.out; unfold maxLen; omega
      case c4 => have := HUL.out; omega
      case c5 => simp; omega
      intro v' w' hown3 hgrow3 _ hblk
      have HSEP2 := Lib.hid (AllSep.snoc HSEP.out HBW.out HOS.out hsz0 hown3 hgrow3 (by simpa using hblk))
      have HB4 : Hid (Below w.heap.size w w') := ((HB.out.trans (HBW.out.mono hsz0)).alloc (by omega) _).grown hgrow3 (by simp; omega) (fun q e => (World.ownsRow.lt HSEP.out.1 q e).1)
      clear hown3 hgrow3 hblk
      go_wp2
      go_roundw
      case rel => exact ⟨i + 1, _, by omega, by go_num, by simp [HUL.out], by rw [List.map_append, HUM.out, List.take_succ_eq_append_getElem hlt, HX.out]; rfl, HSEP2.out, HB4.out⟩
      case measure => simp [intOf]; omega
    · have hie : i = l.length := by omega
      have hum := HUM.out
      rw [hie, List.take_length] at hum
      have HUM2 := Lib.hid hum; clear hum hie
      go_wp2
      go_ret
      exact ⟨_, us, rfl, HUM2.out, HSEP.out, HB.out⟩
end Go.Proofs.YteekdjlpfgkgjaaDoor
