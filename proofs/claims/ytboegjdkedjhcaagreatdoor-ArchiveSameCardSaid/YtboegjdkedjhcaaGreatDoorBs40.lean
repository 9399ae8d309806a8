/- The walk of archive.Pull, where what is given may be. -/
import Derived.Test.YtboegjdkedjhcaaGreatDoorBs39
import Derived.Scope
namespace Go.Proofs.YtboegjdkedjhcaaGreatDoor
open Go.RowKit Go.Maps Go.WideMaps
theorem erow_at {w : World} {B : Nat} {p : Option Addr} {c : Nat} {ws : List (List UInt8)} (h : ERow encStr 9 B w (.slice p ws.length c) ws) {j : Nat} (hj : j < ws.length) : ∃ g, p = some ⟨g, 0, none⟩ ∧ g < w.heap.size ∧ w.cell? ⟨g, j, none⟩ = some (.string ⟨ws[j].toArray⟩) := by
 rcases h.2 with ⟨-, h0⟩ | ⟨g, cap, cur, h3, hb, h4, -⟩
 ·omega
 ·cases h3; have h2 := World.ownsRow.cells h (g := g) rfl j (.string ⟨ws[j].toArray⟩) (by simp [cellsE, hj])
  rw [add_at, Nat.zero_add] at h2; exact ⟨g, rfl, (Array.getElem?_eq_some_iff.1 h4).1, h2⟩
def intCells (M : List Nat) : List Value := M.map fun (k : Nat) => Value.int .i64 (k : Int)
theorem irow_at {w : World} {B : Nat} {p : Option Addr} {c : Nat} {M : List Nat} (h : w.ownsRow B 3 1 (.slice p M.length c) M.length (intCells M)) {j : Nat} (hj : j < M.length) : ∃ g, p = some ⟨g, 0, none⟩ ∧ g < w.heap.size ∧ w.cell? ⟨g, j, none⟩ = some (.int .i64 (M[j] : Nat)) := by
 rcases h.2 with ⟨-, h0⟩ | ⟨g, cap, cur, h3, hb, h4, -⟩
 ·omega
 ·cases h3; have h2 := World.ownsRow.cells h (g := g) rfl j (.int .i64 (M[j] : Nat)) (by simp [intCells, hj])
  rw [add_at, Nat.zero_add] at h2; exact ⟨g, rfl, (Array.getElem?_eq_some_iff.1 h4).1, h2⟩
theorem info_int : (Tryz.prog.info? 3).map (fun i => (i.zero, i.size, i.bytes)) = some (some (.int .i64 0), 1, 8) := by kernel_rfl
theorem int_one {a : Int} : ∀ u ∈ [Value.int .i64 a], u.oneCell' = true := by
 intro u hu; simp at hu; subst hu; rfl
theorem objIn_relnames {w : World} {o : GObj} {v : Value} (h : ObjIn w o v) : ∀ s ∈ o.syms, ∀ r ∈ s.rels, r.name.size ≤ 140737488355328 := by
 obtain ⟨⟨_, _, _, _, -, -, -, -, hc⟩, -⟩ := h; intro s hs r hr; obtain ⟨i, hi, rfl⟩ := List.mem_iff_getElem.1 hs; obtain ⟨_, _, -, -, -, -, -, -, -, -, hin⟩ := hc i hi; obtain ⟨⟨_, _, _, _, -, -, -, -, hr2⟩, -⟩ := hin; obtain ⟨j, hj, rfl⟩ := List.mem_iff_getElem.1 hr; exact (hr2 j hj).2.2.2.2.2.2.2.2
theorem obs_at {B : Nat} {w0 w : World} {p : Option Addr} {c : Nat} {us : List (GObj × Value)} (h : OwnObsB B w0 w (.slice p us.length c) us) {k : Nat} (hk : k < us.length) :
 ∃ g, p = some ⟨g, 0, none⟩ ∧ g < w.heap.size ∧ w.cell? ⟨g, k * 2, none⟩ = some (.string us[k].1.name) ∧ w.cell? ⟨g, k * 2 + 1, none⟩ = some us[k].2 := by
 have hr := h.row; rcases hr.2 with ⟨-, h0⟩ | ⟨g, cap, cur, h3, hb, h4, -⟩
 ·omega
 ·cases h3; have e0 := flat_get obCells_len us k 0 hk (by omega)
  have e1 := flat_get obCells_len us k 1 hk (by omega)
  have h2 := World.ownsRow.cells hr (g := g) rfl (k * 2 + 0) _ e0; have h3 := World.ownsRow.cells hr (g := g) rfl (k * 2 + 1) _ e1; rw [add_at, Nat.zero_add] at h2 h3; exact ⟨g, rfl, (Array.getElem?_eq_some_iff.1 h4).1, h2, h3⟩
theorem int_news {w : World} {g : Nat} {a : Value} (h0 : w.cell? ⟨g, 0, none⟩ = some a) : ∀ j u, [a][j]? = some u → w.cell? ((⟨g, 0, none⟩ : Addr).add j) = some u := str_news h0
theorem intCells_snoc (M : List Nat) (k : Nat) : intCells (M ++ [k]) = intCells M ++ [.int .i64 (k : Int)] := by simp [intCells]
theorem bw_lookK {w : World} {ib ni k : Nat} {I : Nat → Bool} (h : MapKFn intE w ib ni (inF I)) (hk : k ≤ 9223372036854775807) {b : Bool} (hb : I k = b) :
 ∀ x : BW w, (Instr.lookup 117 (.map (some ib)) (.int .i64 (k : Int)) false).run Tryz.prog x.u = .ok (.bool b) x.u := fun x => by
 have := in_look (h.below x.b h.lt) hk; rw [hb] at this; exact this
theorem want_len (F : List UInt8 → Bool) (n : List UInt8) (l : List GObj) : (onceT (sortT (wantsRaw F n l))).length ≤ 1 + relsN l := by
 have h1 := compactUpToT_le (sortT (wantsRaw F n l)).toArray; have h2 : onceT (sortT (wantsRaw F n l)) = Lib.compactUpTo (sortT (wantsRaw F n l)).toArray (sortT (wantsRaw F n l)).toArray.size := by simp [onceT, Lib.compact]
 have h3 := wantsO_len F l; have h4 : (wantsE F n).length ≤ 1 := by unfold wantsE; split <;> simp
 have h5 : (onceT (sortT (wantsRaw F n l))).length ≤ (wantsRaw F n l).length := by
  rw [h2, ← sortT_length (wantsRaw F n l)]; exact Nat.le_trans h1 (by simp)
 have h6 : (wantsRaw F n l).length = (wantsE F n).length + (wantsO F l).length := by rw [wantsRaw, List.length_append]
 omega
theorem addN_snoc {us : List (GObj × Value)} {M : List Nat} {i m : Nat} (h : i < M.length) (hm : M[i] = m) (hu : m < us.length) : (M.take (i + 1)).filterMap (us[·]?) = (M.take i).filterMap (us[·]?) ++ [us[m]] := by
 rw [List.take_succ_eq_append_getElem h, hm, List.filterMap_append]; simp [hu]
theorem addN_len {us : List (GObj × Value)} : ∀ {M : List Nat}, (∀ m ∈ M, m < us.length) → (M.filterMap (us[·]?)).length = M.length
 | [], _ => rfl
 | m :: r, h => by
   have ih := addN_len (us := us) (M := r) fun x hx => h x (List.mem_cons_of_mem _ hx)
   have hm := h m (List.mem_cons_self ..); simp [List.getElem?_eq_getElem hm, ih]
theorem addN_mem {us : List (GObj × Value)} {M : List Nat} {ms : List GObj} (hus : us.map (·.1) = ms) (o : GObj) : o ∈ (M.filterMap (us[·]?)).map (·.1) ↔ ∃ (k : Nat) (h : k < ms.length), k ∈ M ∧ ms[k] = o := by
 subst hus; simp only [List.mem_map, List.mem_filterMap]; constructor
 ·rintro ⟨t, ⟨k, hk, ht⟩, rfl⟩; obtain ⟨h1, rfl⟩ := List.getElem?_eq_some_iff.1 ht; exact ⟨k, by simpa using h1, hk, by simp⟩
 ·rintro ⟨k, h, hk, rfl⟩; exact ⟨us[k]'(by simpa using h), ⟨k, hk, List.getElem?_eq_getElem _⟩, by simp⟩
structure PInv (wB : World) (pb sb mb bb ib : Nat) (va : Value) (us : List (GObj × Value)) (nb : Nat) (G : List UInt8 → Option GEnt) (nm : List UInt8) (lb ms : List GObj) (vs : Value) (ts : List (GObj × Value)) (I : Nat → Bool) (w : World) : Prop where
 st : PullSt wB pb sb mb bb ib va vs us ts nb G (cnI ms.length I) I w
 set : InSet lb ms (ts.map (·.1)) I
 need : ∀ k, I k = true → NeedOf nm lb ms I k
 len : ts.length = lb.length + cnI ms.length I
theorem PInv.small {wB : World} {pb sb mb bb ib : Nat} {va : Value} {us : List (GObj × Value)} {nb : Nat} {G : List UInt8 → Option GEnt} {nm : List UInt8} {lb ms : List GObj} {vs : Value} {ts : List (GObj × Value)} {I : Nat → Bool} {w : World}
 (h : PInv wB pb sb mb bb ib va us nb G nm lb ms vs ts I w) (h1 : ∀ o ∈ lb, SmallO o) (h2 : ∀ o ∈ ms, SmallO o) : ∀ t ∈ ts, SmallO t.1 := fun t ht => by
 rcases (h.set t.1).1 (List.mem_map_of_mem ht) with h3 | ⟨k, hk, -, h4⟩
 ·exact h1 _ h3
 ·rw [← h4]; exact h2 _ (List.getElem_mem hk)
set_option maxRecDepth 100000 in
set_option maxHeartbeats 8000000 in
theorem pull_ok (nm : ByteArray) (vb : Value) (lb : List GObj) (v : Value) (l : List GArc) (w : World) (hb : ObjsAt w vb lb) (h : ArcsAt w v l) (ok1 : lb.length ≤ 16) (ok2 : l.length ≤ 8) (ok3 : lb.all mayP = true) (ok4 : l.all arcOk = true)
 (hml : (memsOf l).length ≤ 1000) (hs : ∀ o ∈ lb, SmallO o) (hs2 : ∀ o ∈ memsOf l, SmallO o) (hn : nm.size ≤ 140737488355328) :
 Calls Tryz.prog 17 #[.string nm, vb, v] w (PullPost w nm.data.toList lb (memsOf l)) := by
 have HBG : Hid (∀ W, Below w.heap.size w W → Calls Tryz.prog 58 #[vb, v] W (BegPost W lb (memsOf l))) := fun W hW => begin35_any vb lb v l W (hb.keep hW) (h.keep hW) (by omega) hml hs hs2
 have HCO : Hid (∀ W, Below w.heap.size w W → Calls Tryz.prog 54 #[vb, .func (.func 55) #[] #[]] W fun e w' => e = .returned (.bool false) ∧ Below W.heap.size W w') := fun W hW => by
  have := containsO_any vb lb W (hb.keep hW); rw [any_not, ok3] at this; exact this
 have HCA : Hid (∀ W, Below w.heap.size w W → Calls Tryz.prog 56 #[v, .func (.func 57) #[] #[]] W fun e w' => e = .returned (.bool false) ∧ Below W.heap.size W w') := fun W hW => by
  have := containsA_any v l W (h.keep hW); rw [any_not, ok4] at this; exact this
 have HOB := Lib.hid hb; have HS := Lib.hid hs; have HS2 := Lib.hid hs2; have HML := Lib.hid hml; have HN := Lib.hid hn; obtain ⟨p, cap, b, o, rfl, hcap, hmax, -⟩ := hb; obtain ⟨p2, cap2, b2, o2, rfl, hcap2, hmax2, -⟩ := h; clear hs hs2 hml ok3 ok4; generalize memsOf l = ms at *; have d1 : decide ((16 : Int) < (lb.length : Int)) = false := by simp; omega
 have d1' : decide (16 < lb.length) = false := by simp; omega
 have d2 : decide ((8 : Int) < (l.length : Int)) = false := by simp; omega
 have d2' : decide (8 < l.length) = false := by simp; omega
 go_enter Tryz.func17, Tryz.ntmps17; go_wp2_with fail; refine wp_scope_straight ?_; go_wp2_with (first | (go_at_call 54; refine (HCO.out w (Below.refl _ _)).mono ?_; rintro e w1 ⟨rfl, hB1⟩; have HB1 := Lib.hid hB1; clear hB1) | (go_at_call 56; refine (HCA.out w1 HB1.out).mono ?_; rintro e wB ⟨rfl, hB2⟩; have HBX := Lib.hid hB2; clear hB2))
 have HB2 : Hid (Below w.heap.size w wB) := HB1.out.trans (HBX.out.mono HB1.out.size); clear HBX HCA HB1 HCO d1 d1' d2 d2'; have HBGB := Lib.hid (HBG.out wB HB2.out); clear HBG; go_wp2_with fail; refine HBGB.out.mono ?_; rintro e w3 ⟨pb, sb, mb, bb, ib, va, vs0, us, ts0, nb, G, rfl, hps, hts0, hus, hbest⟩; have HBEST := Lib.hid hbest; have HUS := Lib.hid hus
 have HINV : Hid (PInv wB pb sb mb bb ib va us nb G nm.data.toList lb ms vs0 ts0 (fun _ => false) w3) := by
  have hc0 : cnI ms.length (fun _ => false) = 0 := by simp [cnI]
  refine ⟨by rw [hc0]; exact hps, fun o => ?_, fun k hk => (by cases hk), ?_⟩
  ·rw [hts0]; simp
  ·rw [hc0, ← hts0]; simp
 obtain ⟨pa, ca, rfl⟩ := own_shape hps.all.row; clear HBGB hps hts0 hus hbest; go_wp2_with fail; refine wp_label ?_; go_wp2_with fail
 go_loopw [] (fun wr => ∃ (vs : Value) (ts : List (GObj × Value)) (I : Nat → Bool), PInv wB pb sb mb bb ib (.slice pa us.length ca) us nb G nm.data.toList lb ms vs ts I wr) (fun wr => leftW ib ms.length wr)
 case atStart => exact ⟨vs0, ts0, _, HINV.out⟩
 case round =>
  clear HINV; obtain ⟨vs, ts, I, hinv⟩ := hrel; have HINV := Lib.hid hinv; have HSM := Lib.hid (hinv.small HS.out HS2.out); have HLT : Hid (ts.length ≤ 5000) := by have h1 := hinv.len; have h2 := cnI_le ms.length I; have h3 := HML.out; rw [Hid]; omega
  have HLEFT := Lib.hid (leftW_eq hinv.st.inm (n := ms.length) (by have := HML.out; omega))
  have c0 : wr.cell? ⟨pb, 0, none⟩ = some (.pointer (some ⟨sb, 0, none⟩)) := Lib.cell_of_heap hinv.st.box 0; have HWA := Lib.hid (hinv.st.scope.wants HSM.out HLT.out nm HN.out)
  have HWN : Hid (∀ n ∈ onceT (sortT (wantsRaw (defB (ts.map (·.1))) nm.data.toList (ts.map (·.1)))), n.length ≤ 140737488355328) := fun n hn => by
   have h1 := mem_sortT.1 (mem_onceT.1 hn); rw [wantsRaw, List.mem_append, mem_wantsO] at h1; rcases h1 with h1 | ⟨o, ho, s, hs, r, hr, -, rfl⟩
   ·unfold wantsE at h1; split at h1
    ·cases h1
    ·obtain rfl : n = nm.data.toList := by simpa using h1
     have := HN.out; simpa using this
   ·obtain ⟨t, ht, rfl⟩ := List.mem_map.1 ho; have := objIn_relnames (hinv.st.scope.row.mem t ht) s hs r hr; simpa using this
  have HWL := want_len (defB (ts.map (·.1))) nm.data.toList (ts.map (·.1)); have hrn := relsN_le (l := ts.map (·.1)) (fun x hx => by obtain ⟨t, ht, rfl⟩ := List.mem_map.1 hx; exact HSM.out t ht)
  rw [List.length_map] at hrn; have hpl : pb < wr.heap.size := hinv.st.lt; have HWANT : Hid (∀ n, n ∈ onceT (sortT (wantsRaw (defB (ts.map (·.1))) nm.data.toList (ts.map (·.1)))) → n ∈ onceT (sortT (wantsRaw (defB (ts.map (·.1))) nm.data.toList (ts.map (·.1))))) := fun n h => h
  obtain ⟨want, hwant⟩ : ∃ want, onceT (sortT (wantsRaw (defB (ts.map (·.1))) nm.data.toList (ts.map (·.1)))) = want := ⟨_, rfl⟩; rw [hwant] at HWA HWN HWL; have hwl : want.length ≤ 1000000000 := by have := HLT.out; omega
  clear HWL hrn; have HWT := Lib.hid hwant; clear hinv hwant HWANT; go_wp2_with fail; clear c0; refine HWA.out.mono ?_; rintro e w4 ⟨vw, rfl, hrw, hB4⟩; have HRW := Lib.hid hrw; have HST4 := Lib.hid (HINV.out.st.keep hB4); have hz4 : wr.heap.size ≤ w4.heap.size := hB4.size; obtain ⟨pw, cw, rfl⟩ := own_shape hrw; clear hrw hB4 HWA; obtain ⟨iI, s0, s1, s2, s3⟩ := info_parts info_int; have HI := Lib.hid (And.intro s0 (And.intro s1 (And.intro s2 s3))); clear s0 s1 s2 s3; go_wp2_with fail; obtain ⟨wz, rfl⟩ : ∃ wz : World, wz = wr := ⟨_, rfl⟩
  go_loopw [9, 45] (fun v9 v45 wr => ∃ (j : Nat) (M : List Nat) (I' : Nat → Bool), j ≤ want.length ∧ v45 = .int .i64 j ∧ wr.ownsRow w4.heap.size 3 1 v9 M.length (intCells M) ∧ PullSt wB pb sb mb bb ib (.slice pa us.length ca) vs us ts nb G (cnI ms.length I') I' wr ∧ ERow encStr 9 wz.heap.size wr (.slice pw want.length cw) want ∧
   (∀ k, I' k = (I k || decide (k ∈ M))) ∧ (∀ k ∈ M, k < ms.length ∧ NeedOf nm.data.toList lb ms I k) ∧ cnI ms.length I' = cnI ms.length I + M.length ∧ (∀ i (h : i < want.length), i < j → G want[i] = none ∨ ∃ x, G want[i] = some x ∧ I' x.mem = true) ∧ w4.heap.size ≤ wr.heap.size) (fun _ v45 _ => want.length - (intOf v45).toNat)
  case atStart => exact ⟨0, [], I, Nat.zero_le _, rfl, World.ownsRow_nil _ _ _ _, HST4.out, HRW.out, fun k => by simp, fun k hk => (by cases hk), rfl, fun i _ hi => (by omega), Nat.le_refl _⟩
  case round =>
   obtain ⟨j, M, I', hj, rfl, hrow, hst, hew, hI, hM, hcn, hpre, hzw⟩ := hrel; have HST := Lib.hid hst; have HROW := Lib.hid hrow; have HEW := Lib.hid hew; have HI' := Lib.hid hI; have HM' := Lib.hid hM; have HCN := Lib.hid hcn; have HPRE := Lib.hid hpre; obtain ⟨pm, cm, rfl⟩ := own_shape hrow; have hMl : M.length ≤ 1000 := by have h1 := cnI_le ms.length I'; have h2 := HML.out; omega
   clear hI hM hcn hpre hrow
   by_cases hlj : j < want.length
   ·obtain ⟨gw, rfl, hgw, e0⟩ := erow_at hew hlj; have hnb := HWN.out _ (List.getElem_mem hlj); have hmem : want[j] ∈ onceT (sortT (wantsRaw (defB (ts.map (·.1))) nm.data.toList (ts.map (·.1)))) := by rw [HWT.out]; exact List.getElem_mem hlj
    have hnx : ∀ I2 : Nat → Bool, (∀ k, I' k = true → I2 k = true) → (G want[j] = none ∨ ∃ x, G want[j] = some x ∧ I2 x.mem = true) → ∀ i (h : i < want.length), i < j + 1 → G want[i] = none ∨ ∃ x, G want[i] = some x ∧ I2 x.mem = true := fun I2 h1 h2 i hi hij => by
     by_cases e : i = j
     ·subst e; exact h2
     ·rcases HPRE.out i hi (by omega) with h3 | ⟨x, h3, h4⟩
      ·exact .inl h3
      ·exact .inr ⟨x, h3, h1 _ h4⟩
    have HNX := Lib.hid hnx; generalize want[j] = nj at e0 hnb hmem HNX; have HMEM := Lib.hid hmem
    have hns : (ByteArray.mk nj.toArray).size ≤ 9223372036854775807 := by
     have : (ByteArray.mk nj.toArray).size = nj.length := by simp [ByteArray.size]
     omega
    have hV := bestF_get G (ByteArray.mk nj.toArray).data.toList; have hIs := bestF_some G (ByteArray.mk nj.toArray).data.toList; rw [show (ByteArray.mk nj.toArray).data.toList = nj by simp] at hV hIs
    have hGx : ∀ x, G nj = some x → (G nj).getD ent0 = x := fun x hx => by rw [hx]; rfl
    have hGs : (G nj).isSome = false → G nj = none := fun h => by simpa using h
    have hGt : (G nj).isSome = true → G nj = some ((G nj).getD ent0) := fun h => by
     obtain ⟨x, hx⟩ := Option.isSome_iff_exists.1 h; rw [hx]; rfl
    generalize hold : (G nj).getD ent0 = old at hV hGx hGt; generalize his : (G nj).isSome = is at hIs hGs hGt; have HGS := Lib.hid hGs; have HGT := Lib.hid hGt; obtain ⟨on, om, ob⟩ := old; unfold entV at hV; simp only [] at hV; have HV : Hid ((bestF G (ByteArray.mk nj.toArray).data.toList).getD (entV ent0) = .agg #[.string on, .int .i64 om, .int .u8 ob]) := by rw [Hid, show (ByteArray.mk nj.toArray).data.toList = nj by simp]; exact hV
    have HIS : Hid ((bestF G (ByteArray.mk nj.toArray).data.toList).isSome = is) := by rw [Hid, show (ByteArray.mk nj.toArray).data.toList = nj by simp]; exact hIs
    have c2 : wr.cell? ⟨pb, 2, none⟩ = some (.map (some bb)) := Lib.cell_of_heap hst.box 2; have c3 : wr.cell? ⟨pb, 3, none⟩ = some (.map (some ib)) := Lib.cell_of_heap hst.box 3; have hpl2 : pb < wr.heap.size := hst.lt; clear hV hIs hold his hGx hGs hGt hmem hnx hst hew; have k3 := cell_keep (alloc_old wr (.cells #[.string on, .int .i64 om, .int .u8 ob] 47)) hpl2 c3; have e1 : (wr.alloc (.cells #[.string on, .int .i64 om, .int .u8 ob] 47)).cell? ⟨wr.heap.size, 1, none⟩ = some (.int .i64 om) := by simp [go_sem]
    have hzA : wr.heap.size < (wr.alloc (.cells #[.string on, .int .i64 om, .int .u8 ob] 47)).heap.size := by simp
    have HSTA := Lib.hid (HST.out.keep (alloc_old wr (.cells #[.string on, .int .i64 om, .int .u8 ob] 47))); have HROA := Lib.hid (ownsRow_below (alloc_old wr (.cells #[.string on, .int .i64 om, .int .u8 ob] 47)) HROW.out); have HEWA := Lib.hid (erow_below HEW.out (alloc_old wr (.cells #[.string on, .int .i64 om, .int .u8 ob] 47))); go_wp2_with (at_lookup; refine wpList_look_ok _ rfl _ _ 116 rfl 9 47 keyedS Tryz.underlying116 Tryz.underlying9 (zeroEnt _) rfl HST.out.best _ rfl hns HV.out HIS.out ?_); clear c2 c3 e0; generalize (wr.alloc (.cells #[.string on, .int .i64 om, .int .u8 ob] 47)) = wA at *; have hpA : pb < wA.heap.size := by omega
    have b1 := bw_cell hpA k3; have b2 := bw_cell hzA e1; cases is with
    | false =>
      have HG0 := Lib.hid (HGS.out rfl); refine wp_region_below rfl (by kernel_rfl) ?_
      repeat (first | go_big_quiet_skip | quiet_step (fail))
      refine wpQuiet_nil ?_; rintro w5 hx5; have hB5 : Below wA.heap.size wA w5 := bw_of hx5; have HROW5 := Lib.hid (ownsRow_below hB5 HROA.out); have HST5 := Lib.hid (HSTA.out.keep hB5); have HEW5 := Lib.hid (erow_below HEWA.out hB5); have hz5 : w4.heap.size ≤ w5.heap.size := by have := hB5.size; omega
      clear hx5 hB5 b1 b2; go_wp2; go_roundw
      case rel => exact ⟨j + 1, M, I', by omega, by go_num, HROW5.out, HST5.out, HEW5.out, HI'.out, HM'.out, HCN.out, HNX.out I' (fun k h => h) (.inl HG0.out), hz5⟩
      case measure => simp [intOf]; omega
    | true =>
      have HG1 := Lib.hid (HGT.out rfl); have hbst := HBEST.out.1 _ _ HG1.out
      have homl : om ≤ 9223372036854775807 := by
       obtain ⟨q, hq, s, -, -, e⟩ := mem_entsFrom.1 hbst.1; have := HML.out; have e2 : om = 0 + q := congrArg GEnt.mem e; omega
      clear hbst; cases hin : I' om with
      | true =>
        have b3 := bw_lookK HSTA.out.inm homl hin; have HIN := Lib.hid hin; clear hin; refine wp_region_below rfl (by kernel_rfl) ?_
        repeat (first | go_big_quiet_skip | quiet_step (fail))
        refine wpQuiet_nil ?_; rintro w5 hx5; have hB5 : Below wA.heap.size wA w5 := bw_of hx5; have HROW5 := Lib.hid (ownsRow_below hB5 HROA.out); have HST5 := Lib.hid (HSTA.out.keep hB5); have HEW5 := Lib.hid (erow_below HEWA.out hB5); have hz5 : w4.heap.size ≤ w5.heap.size := by have := hB5.size; omega
        clear hx5 hB5 b1 b2 b3; go_wp2; go_roundw
        case rel => exact ⟨j + 1, M, I', by omega, by go_num, HROW5.out, HST5.out, HEW5.out, HI'.out, HM'.out, HCN.out, HNX.out I' (fun k h => h) (.inr ⟨_, HG1.out, HIN.out⟩), hz5⟩
        case measure => simp [intOf]; omega
      | false =>
        have b3 := bw_lookK HSTA.out.inm homl hin; have HIN := Lib.hid hin; clear hin
        have hIo : I om = false := by
         have h1 := HI'.out om; rw [HIN.out] at h1; cases hio : I om with
         | false => rfl
         | true => rw [hio] at h1; simp at h1
        obtain ⟨homs, hneed⟩ := pull_need HINV.out.set HINV.out.need HBEST.out HMEM.out HG1.out hIo; have HNEED := Lib.hid hneed; have hcu := cnI_upd ms.length homs HIN.out; have HCU := Lib.hid hcu; have HIO := Lib.hid hIo; clear hneed hcu hIo; refine wp_region_below rfl (by kernel_rfl) ?_
        repeat (first | go_big_quiet_skip | quiet_step (fail))
        refine wpQuiet_nil ?_; rintro w5 hx5; have hB5 : Below wA.heap.size wA w5 := bw_of hx5; have HROW5 := Lib.hid (ownsRow_below hB5 HROA.out); have HST5 := Lib.hid (HSTA.out.keep hB5); have HEW5 := Lib.hid (erow_below HEWA.out hB5); have hz5 : w4.heap.size ≤ w5.heap.size := by have := hB5.size; omega
        have k3' := cell_keep hB5 hpA k3; have e1' := cell_keep hB5 hzA e1; have hp5 : pb < w5.heap.size := size_keep hB5 hpA; have hz5' : wr.heap.size < w5.heap.size := size_keep hB5 hzA; clear hx5 hB5 b1 b2 b3 k3 e1; go_wp2
        go_still_tail 6, (by kernel_rfl)
        refine wpList_putK _ rfl _ _ _ 117 rfl 4 intKeyed Tryz.underlying117 rfl HST5.out.inm.drew (by unfold maxLen; have := cnI_le ms.length I'; have := HML.out; omega) om (.bool true) rfl rfl homl ?_
        intro w6 hM6 hg6; have hk6 : KB (fun q => q = ib) w5 w6 := (KB.refl _ w5).drew.grown hg6 (fun q e => by cases e; exact .inl rfl)
        have HST6 := Lib.hid (HST5.out.setIn hk6 (by rw [← inF_upd]; exact hM6))
        have HROW6 : Hid (w6.ownsRow w4.heap.size 3 1 (.slice pm M.length cm) M.length (intCells M)) := own_congr HROW5.out fun g hg => hk6.block g (World.ownsRow.lt HROW5.out g hg).2 (fun e => own_ne_mapK HROW5.out HST5.out.inm (e ▸ hg))
        have HEW6 : Hid (ERow encStr 9 wz.heap.size w6 (.slice (some ⟨gw, 0, none⟩) want.length cw) want) := own_congr HEW5.out fun g hg => hk6.block g (World.ownsRow.lt HEW5.out g hg).2 (fun e => own_ne_mapK HEW5.out HST5.out.inm (e ▸ hg))
        have e2 : w6.cell? ⟨wr.heap.size, 1, none⟩ = some (.int .i64 om) := hk6.cell hz5' (fun e => (by have h7 : wr.heap.size = ib := e; have h8 := HST.out.inm.lt; omega)) e1'
        have hz6 : w4.heap.size ≤ w6.heap.size := Nat.le_trans hz5 hk6.size; clear hM6 hg6 hk6 k3' e1' HST5 HROW5 HEW5; go_wp2_with (at_builtin; refine wpList_append_own _ rfl _ _ 113 rfl w4.heap.size 3 iI _ 1 8 Tryz.underlying113 HI.out.1 HI.out.2.1 HI.out.2.2.1 HI.out.2.2.2 rfl (by decide) (.slice pm M.length cm) M.length (intCells M) rfl (HROW6.out.alloc _) _ 1 1 [.int .i64 om] rfl rfl (int_news (by simp [go_sem])) int_one (by unfold maxLen; omega) (by omega) (by simp; omega) ?_)
        intro v7 w7 hown hgrow _; have hk7 : KB (fun q => (Value.slice pm M.length cm).ownBlock = some q) w6 w7 := ((KB.of_below (alloc_old w6 (.cells #[.int .i64 om] 3)))).grown hgrow (fun q e => .inl e)
        have HST7 := Lib.hid (HST6.out.byRow HROW6.out (Nat.le_trans HINV.out.st.scope.blw.size hz4) hk7); have HEW7 : Hid (ERow encStr 9 wz.heap.size w7 (.slice (some ⟨gw, 0, none⟩) want.length cw) want) := own_congr HEW6.out fun g hg => hk7.block g (World.ownsRow.lt HEW6.out g hg).2 (fun e => own_ne HROW6.out HEW6.out (by decide) e hg)
        have HROW7 : Hid (w7.ownsRow w4.heap.size 3 1 v7 (M ++ [om]).length (intCells (M ++ [om]))) := by rw [Hid, intCells_snoc, List.length_append]; exact hown
        have hz7 : w4.heap.size ≤ w7.heap.size := Nat.le_trans hz6 hk7.size; obtain ⟨p7, c7, rfl⟩ := own_shape hown; clear hown hgrow hk7; go_wp2; go_roundw
        case rel =>
         refine ⟨j + 1, M ++ [om], updI I' om, by omega, by go_num, HROW7.out, ?_, HEW7.out, fun k => ?_, fun k hk => ?_, ?_, HNX.out (updI I' om) (fun k h => by simp [updI, h]) (.inr ⟨_, HG1.out, by simp [updI]⟩), hz7⟩
         ·rw [HCU.out]; exact HST7.out
         ·rw [updI, HI'.out k, Bool.or_assoc]
          congr 1
          rw [Bool.eq_iff_iff]; simp
         ·rcases List.mem_append.1 hk with hk | hk
          ·exact HM'.out k hk
          ·obtain rfl : k = om := by simpa using hk
           exact ⟨homs, HNEED.out⟩
         ·rw [HCU.out, HCN.out, List.length_append]; simp only [List.length_cons, List.length_nil]; omega
        case measure => simp [intOf]; omega
   ·obtain rfl : j = want.length := by omega
    have HPR2 : Hid (∀ n ∈ want, G n = none ∨ ∃ x, G n = some x ∧ I' x.mem = true) := fun n hn => by
     obtain ⟨i, hi, rfl⟩ := List.mem_iff_getElem.1 hn; exact HPRE.out i hi hi
    clear hst hew hlj HEW HWN
    by_cases hM0 : M.length = 0
    ·obtain rfl : M = [] := List.eq_nil_of_length_eq_zero hM0; obtain rfl : I' = I := by funext k; rw [HI'.out k]; simp
     have HOK : Hid (PullOk nm.data.toList lb ms I') := ⟨pull_stop HINV.out.set HBEST.out (fun n hn => HPR2.out n (by rw [HWT.out] at hn; exact hn)), HINV.out.need⟩
     have HCLN := Lib.hid (clone_any wB _ lb wr (HOB.out.keep HB2.out) HST.out.scope.blw (by omega))
     clear hM0 HPR2 HM' HCN HPRE HROW; go_wp2_with fail; refine HCLN.out.mono ?_; rintro e w7 ⟨vo, os, rfl, hos, hol, hB7⟩; have HOS := Lib.hid hos; have HOL := Lib.hid hol; have HB7 := Lib.hid hB7; have hpl7 : pb < w7.heap.size := Nat.lt_of_lt_of_le HST.out.lt hB7.size; have HST7 := Lib.hid (HST.out.keep hB7); have c1 : w7.cell? ⟨pb, 1, none⟩ = some (.slice pa us.length ca) := Lib.cell_of_heap HST7.out.box 1; clear hos hol hB7 HCLN; go_wp2_with fail; clear c1; obtain ⟨wy, rfl⟩ : ∃ wy : World, wy = wr := ⟨_, rfl⟩; have HUL : Hid (us.length = ms.length) := by rw [Hid, ← HUS.out, List.length_map]
     have hul : us.length ≤ 1000 := by have := HML.out; have := HUL.out; omega
     have hyB : wB.heap.size ≤ wy.heap.size := HST.out.scope.blw.size; have hpy : pb < wy.heap.size := HST.out.lt; clear hpl7 HST7
     go_loopw [16, 110] (fun v16 v110 wq => ∃ (k : Nat) (os : List (GObj × Value)), k ≤ us.length ∧ v110 = .int .i64 k ∧ OwnObsB wy.heap.size wB wq v16 os ∧ os.map (·.1) = lb ++ selGo I' 0 (ms.take k) ∧ Below wy.heap.size wy wq) (fun _ v110 _ => us.length - (intOf v110).toNat)
     case atStart => exact ⟨0, os, Nat.zero_le _, rfl, HOS.out, by rw [HOL.out]; simp [selGo], HB7.out⟩
     case round =>
      clear HOS HOL HB7; obtain ⟨k, os2, hk, rfl, hos, hol, hbw⟩ := hrel; have HOS := Lib.hid hos; have HOL := Lib.hid hol; have HBW := Lib.hid hbw; have HSTK := Lib.hid (HST.out.keep hbw); obtain ⟨po, co, rfl⟩ := own_shape hos.row
      have hol2 : os2.length ≤ 2000 := by
       have h1 := congrArg List.length hol; have h2 := selGo_len I' (ms.take k) 0; rw [List.length_map, List.length_append] at h1; rw [List.length_take] at h2; have := HML.out; omega
      clear hos hol
      by_cases hlk : k < us.length
      ·obtain ⟨ga, hpa, hga, a0, a1⟩ := obs_at HSTK.out.all hlk; have hmk : k < ms.length := by have := HUL.out; omega
       have hme : ms[k] = us[k].1 := by simp [← HUS.out]
       have hsg := selGo_snoc (I := I') hmk hme; have hin := HSTK.out.all.mem _ (List.getElem_mem hlk); generalize us[k] = t at a0 a1 hsg hin; obtain ⟨⟨yn, ys⟩, vq⟩ := t; simp only [] at hin a0 a1; obtain ⟨pq, cq, rfl⟩ := hin.form; simp only [] at hsg a1; have HSG := Lib.hid hsg; have HIN := Lib.hid hin; have hwy : wy.heap.size ≤ wr.heap.size := hbw.size; have hpr : pb < wr.heap.size := by omega
       have c3 := cell_keep (alloc_old wr (.cells #[.string yn, .slice pq ys.length cq] 50)) hpr (Lib.cell_of_heap HSTK.out.box 3 : wr.cell? ⟨pb, 3, none⟩ = some (.map (some ib))); have e0 : (wr.alloc (.cells #[.string yn, .slice pq ys.length cq] 50)).cell? ⟨wr.heap.size, 0, none⟩ = some (.string yn) := by simp [go_sem]
       have e1 : (wr.alloc (.cells #[.string yn, .slice pq ys.length cq] 50)).cell? ⟨wr.heap.size, 1, none⟩ = some (.slice pq ys.length cq) := by simp [go_sem]
       have HSTA := Lib.hid (HSTK.out.keep (alloc_old wr (.cells #[.string yn, .slice pq ys.length cq] 50))); have HOSA := Lib.hid (HOS.out.keep (alloc_old wr (.cells #[.string yn, .slice pq ys.length cq] 50))); have HBWA : Hid (Below wy.heap.size wy (wr.alloc (.cells #[.string yn, .slice pq ys.length cq] 50))) := HBW.out.alloc hwy _; have hkk : k ≤ 9223372036854775807 := by omega
       have hV := inF_get I' k; clear hsg hin hme hbw; subst hpa; generalize hik : I' k = ik at hV; have HIK := Lib.hid hik; have HV := Lib.hid hV; clear hik hV; cases ik with
       | false =>
         go_wp2_with (at_lookup; refine wpList_lookK _ rfl _ _ 117 rfl 4 intKeyed Tryz.underlying117 (zeroB _) rfl HSTA.out.inm k rfl hkk HV.out ?_); go_roundw
         case rel => exact ⟨k + 1, os2, by omega, by go_num, HOSA.out, by rw [HOL.out, HSG.out, HIK.out]; simp, HBWA.out⟩
         case measure => simp [intOf]; omega
       | true =>
         obtain ⟨iO, s0, s1, s2, s3⟩ := info_parts info_obj; have HIO := Lib.hid (And.intro s0 (And.intro s1 (And.intro s2 s3))); clear s0 s1 s2 s3; go_wp2_with (first | (at_lookup; refine wpList_lookK _ rfl _ _ 117 rfl 4 intKeyed Tryz.underlying117 (zeroB _) rfl HSTA.out.inm k rfl hkk HV.out ?_) | (at_builtin; refine wpList_append_own _ rfl _ _ 22 rfl wy.heap.size 50 iO _ 2 40 Tryz.underlying22 HIO.out.1 HIO.out.2.1 HIO.out.2.2.1 HIO.out.2.2.2 rfl (by decide) (.slice po os2.length co) os2.length (os2.flatMap obCells) rfl (HOSA.out.row.alloc _) _ 1 1 [.string yn, .slice pq ys.length cq] rfl rfl (ob_news (by simp [go_sem]) (by simp [go_sem])) ob_one (by unfold maxLen; omega) (by omega) (by simp; omega) ?_))
         intro v8 w8 hown hgrow _; have HO8 : Hid (OwnObsB wy.heap.size wB w8 v8 (os2 ++ [(⟨yn, ys⟩, .slice pq ys.length cq)])) := HOSA.out.more (us := [(⟨yn, ys⟩, .slice pq ys.length cq)]) (fun t ht => by obtain rfl : t = (⟨yn, ys⟩, .slice pq ys.length cq) := (by simpa using ht); exact HIN.out) (by simpa [obCells] using hown)
         have HB8 := Lib.hid ((HBWA.out.alloc HBWA.out.size (.cells #[.string yn, .slice pq ys.length cq] 50)).grown hgrow (by have := HBWA.out.size; simp at *; omega) (fun q hq => (HOSA.out.row.lt q hq).1))
         obtain ⟨p8, c8, rfl⟩ := own_shape hown; clear hown hgrow; go_wp2; go_roundw
         case rel => exact ⟨k + 1, os2 ++ [(⟨yn, ys⟩, .slice pq ys.length cq)], by omega, by go_num, HO8.out, by rw [List.map_append, HOL.out, HSG.out, HIK.out]; simp, HB8.out⟩
         case measure => simp [intOf]; omega
      ·obtain rfl : k = us.length := by omega
       rw [List.take_of_length_le (by rw [HUL.out]; exact Nat.le_refl _)] at HOL
       have HLEN : Hid (os2.length = (lb ++ selGo I' 0 ms).length) := by rw [Hid, ← HOL.out, List.length_map]
       have HOB9 := Lib.hid (HOS.out.objs (HST.out.scope.blw.trans (hbw.mono hyB)) (by omega))
       have HBF : Hid (Below w.heap.size w wr) := HB2.out.trans ((HST.out.scope.blw.trans (hbw.mono hyB)).mono HB2.out.size)
       by_cases h16 : 16 < os2.length
       ·have d1 : decide ((16 : Int) < (os2.length : Int)) = true := by simp; omega
        have d1' : decide (16 < os2.length) = true := by simp; omega
        go_wp2; go_ret2; exact ⟨I', HOK.out, .inl ⟨by rw [← HLEN.out]; exact h16, rfl⟩, HBF.out⟩
       ·have d1 : decide ((16 : Int) < (os2.length : Int)) = false := by simp; omega
        have d1' : decide (16 < os2.length) = false := by simp; omega
        go_wp2; go_ret2; exact ⟨I', HOK.out, .inr ⟨by rw [← HLEN.out]; omega, _, rfl, by rw [← HOL.out]; exact HOB9.out⟩, HBF.out⟩
    ·have hMb : ((M.length : Int) == 0) = false := by simpa using hM0
     have hMd : decide ((M.length : Int) = 0) = false := by simpa using hM0
     go_wp2_with fail; obtain ⟨wy, rfl⟩ : ∃ wy : World, wy = wr := ⟨_, rfl⟩; have HUL : Hid (us.length = ms.length) := by rw [Hid, ← HUS.out, List.length_map]
     clear hMb hMd hMl HPR2 HPRE; have hMl : M.length ≤ 1000 := by have h1 := cnI_le ms.length I'; have h2 := HML.out; have h3 := HCN.out; omega
     have HMU : Hid (∀ m ∈ M, m < us.length) := fun m hm => by rw [HUL.out]; exact (HM'.out m hm).1
     have HSU : Hid (∀ t ∈ us, SmallO t.1) := fun t ht => HS2.out _ (by rw [← HUS.out]; exact List.mem_map_of_mem ht)
     go_loopw [86] (fun v86 wq => ∃ (i : Nat) (vs' : Value), i ≤ M.length ∧ v86 = .int .i64 i ∧ PullSt wB pb sb mb bb ib (.slice pa us.length ca) vs' us (ts ++ (M.take i).filterMap (us[·]?)) nb G (cnI ms.length I') I' wq ∧ wq.ownsRow w4.heap.size 3 1 (.slice pm M.length cm) M.length (intCells M)) (fun v86 _ => M.length - (intOf v86).toNat)
     case atStart => exact ⟨0, vs, Nat.zero_le _, rfl, by simpa using HST.out, HROW.out⟩
     case round =>
      clear HST HROW; obtain ⟨i, vs', hi, rfl, hst, hrow⟩ := hrel; have HSTI := Lib.hid hst; have HROW := Lib.hid hrow
      by_cases hli : i < M.length
      ·obtain ⟨gm, hpm, hgm, e0⟩ := irow_at hrow hli; obtain ⟨m, hm⟩ : ∃ m, M[i] = m := ⟨_, rfl⟩; have hmu : m < us.length := by rw [← hm]; exact HMU.out _ (List.getElem_mem hli)
       have hsn := addN_snoc (us := us) hli hm hmu; rw [hm] at e0; obtain ⟨ga, hpa, hga, a0, a1⟩ := obs_at hst.all hmu; have hin := hst.all.mem _ (List.getElem_mem hmu); have hso := HSU.out _ (List.getElem_mem hmu); generalize us[m] = t at a0 a1 hsn hin hso; obtain ⟨⟨yn, ys⟩, vq⟩ := t; simp only [] at hin a0 a1; obtain ⟨pq, cq, rfl⟩ := hin.form; simp only [] at hsn hso a1; have HSN := Lib.hid hsn; have c0 : wr.cell? ⟨pb, 0, none⟩ = some (.pointer (some ⟨sb, 0, none⟩)) := Lib.cell_of_heap hst.box 0; have c1 : wr.cell? ⟨pb, 1, none⟩ = some (.slice pa us.length ca) := Lib.cell_of_heap hst.box 1; have hpl2 : pb < wr.heap.size := hst.lt
       have hsmall : ∀ t ∈ ts ++ (M.take i).filterMap (us[·]?), SmallO t.1 := fun t ht => by
        rcases List.mem_append.1 ht with h1 | h1
        ·exact HSM.out t h1
        ·obtain ⟨q, -, h2⟩ := List.mem_filterMap.1 h1; obtain ⟨h3, rfl⟩ := List.getElem?_eq_some_iff.1 h2; exact HSU.out _ (List.getElem_mem h3)
       have hlen : (ts ++ (M.take i).filterMap (us[·]?)).length ≤ 5000 := by
        have h1 := List.length_filterMap_le (us[·]?) (M.take i); have h2 := HINV.out.len; have h3 := cnI_le ms.length I; have h4 := HML.out; rw [List.length_take] at h1; rw [List.length_append]; omega
       have HSD := Lib.hid (HSTI.out.keep (Below.refl _ _).drew); have HPUT := Lib.hid (HSD.out.scope.put hin hsmall hso hlen); have HROD := Lib.hid (ownsRow_below (Below.refl _ _).drew HROW.out); clear hsn hin hso hsmall hlen hst hrow hm; subst hpm hpa; go_wp2
       go_still_tail 11, (by kernel_rfl)
       change wpList _ _ _ _ _ wr.drew; go_wp2_with fail; refine HPUT.out.mono ?_; rintro e w8 ⟨rfl, v8, hs8, hk8, hv8⟩; have HST8 := Lib.hid (HSD.out.scoped hk8 hs8 hv8)
       have HRO8 : Hid (w8.ownsRow w4.heap.size 3 1 (.slice (some ⟨gm, 0, none⟩) M.length cm) M.length (intCells M)) := own_congr HROD.out fun g hg => hk8.block g (World.ownsRow.lt HROD.out g hg).2 (by
        rintro (e | e | e)
        ·exact own_ne_box HROD.out HSD.out.scope.box (by decide) (e ▸ hg)
        ·exact own_ne_map HROD.out HSD.out.scope.map (e ▸ hg)
        ·exact own_ne HROD.out HSD.out.scope.row.row (by decide) hg e)
       clear hs8 hk8 hv8 HPUT; go_wp2; go_roundw
       case rel => exact ⟨i + 1, v8, by omega, by go_num, by rw [HSN.out, ← List.append_assoc]; exact HST8.out, HRO8.out⟩
       case measure => simp [intOf]; omega
      ·obtain rfl : i = M.length := by omega
       rw [List.take_length] at HSTI; go_wp2; go_roundw
       case rel =>
        refine ⟨vs', ts ++ M.filterMap (us[·]?), I', HSTI.out, ?_, fun k hk => ?_, ?_⟩
        ·rw [List.map_append]; exact inSet_more HINV.out.set HI'.out (fun o => addN_mem HUS.out o)
        ·rw [HI'.out k, Bool.or_eq_true, decide_eq_true_eq] at hk; have hmo : ∀ j, I j = true → I' j = true := fun j hj => by rw [HI'.out j, hj]; rfl
         rcases hk with hk | hk
         ·exact (HINV.out.need k hk).mono hmo
         ·exact (HM'.out k hk).2.mono hmo
        ·rw [List.length_append, addN_len HMU.out, HINV.out.len, HCN.out]; omega
       case measure =>
        have h1 := leftW_eq HSTI.out.inm (n := ms.length) (by have := HML.out; omega)
        have h2 := cnI_le ms.length I'; rw [h1, HLEFT.out]; have := HCN.out; omega
end Go.Proofs.YtboegjdkedjhcaaGreatDoor
