/- What m[n].Syms = append(m[n].Syms, s) makes of a copy of objects. -/
import Derived.Test.YtiogoinaklgglaaDoorWCopyAll
import Derived.Test.YtiogoinaklgglaaDoorPlainApart
import Derived.Deep.RegionLawGrows
namespace Go.Proofs.YtiogoinaklgglaaDoor
open Go.RowKit Go.Maps Go.WideMaps
/-- append onto a row of one's own, as one step of a region that draws -/
theorem step_append_own_at {P : Program} {ops : Array Oper} {o : Oper} {a : Act} {w : World} {K : Act → World → Prop} {Q : Exit → Act → World → Prop} {E : Prop}
    (hg : o.guard = none) (s x : Operand) (t : TypeId) (hop : o.op = Op.call { callee := Callee.builtin Builtin.append, args := #[s, x], argTypes := #[t, t] })
    (base : Nat) (e : TypeId) (i : TypeInfo) (z : Value) (size bytes : Nat) (h1 : P.underlying t = some (.slice e)) (h2 : P.info? e = some i) (h3 : i.zero = some z) (h4 : i.size = size) (h5 : i.bytes = bytes) (h6 : z.cells.size = size) (h7 : 0 < size)
    (v : Value) (n : Nat) (xs : List Value) (hs : a.eval s = v) (hown : w.ownsRow base e size v n xs)
    (ad : Addr) (m c : Nat) (news : List Value) (hx : a.eval x = .slice (some ad) m c) (hn : news.length = m * size) (hc : ∀ j u, news[j]? = some u → w.cell? (ad.add j) = some u) (h1c : ∀ u ∈ news, u.oneCell' = true)
    (b1 : n + m ≤ maxLen) (b2 : (n + m) * bytes ≤ 140737488355328) (hbase : base ≤ w.heap.size)
    (hK : ∀ v' w', w'.ownsRow base e size v' (n + m) (xs ++ news) → w.grownBy w' v.ownBlock → (v'.ownBlock = v.ownBlock ∨ v'.ownBlock = some w.heap.size) → K (a.put o.dst v') w') :
    if Region.wanted o (yielded ops a.tmps) = true then Oper.wp P o a w K Q else E := by
  have hw : Region.wanted o (yielded ops a.tmps) = true := by simp [Region.wanted, hg]
  rw [if_pos hw]
  obtain ⟨v', w', hrun, r1, r2, r3, r4⟩ := run_append_own_at (P := P) w base t o.type e i z size bytes h1 h2 h3 h4 h5 h6 h7 v n xs hown ad m c news hn hc h1c b1 b2 hbase
  unfold Oper.wp
  simp [execOp, hop, resolve, invoke, builtin, hs, hx, hrun, Result.andThen]
  exact hK v' w' r1 r2 r4
theorem AllSep.keep {B : Nat} {w w' : World} {v : Value} {us : List CT} (hb : Below w.heap.size w w') (h : AllSep B w v us) : AllSep B w' v us := by
  obtain ⟨h1, h2, h3⟩ := h
  refine ⟨ownsRow_below hb h1, fun u hu => ?_, h3⟩
  obtain ⟨q1, q2, q3, q4, q5⟩ := h2 u hu
  exact ⟨q1.congr fun g _ hg => hb.block g (by omega), q2, q3, Nat.le_trans q4 hb.size, q5⟩
theorem apart_objs {B : Nat} {w0 w1 wA w' : World} {v0 v' vr vn : Value} {us : List CT} {l : List GObj} {n g cap : Nat} {s0 : GSym} {ts : List SymT}
    (h0 : ObjsAt w0 v0 l) (hl : us.map (·.o) = l) (hn : n < us.length) (hsep : AllSep B wA (.slice (some ⟨g, 0, none⟩) us.length cap) us)
    (hts : ts.map (·.1) = us[n].o.syms) (hty : ∀ t ∈ ts, SymOwn us[n].lo wA us[n].vs t ∧ InR us[n].lo us[n].hi t.2.1 ∧ InR us[n].lo us[n].hi t.2.2) (hvr : InR us[n].lo us[n].hi us[n].vs)
    (hown : w'.ownsRow us[n].lo 37 7 v' (ts.length + 1) (ts.flatMap symCells ++ symCells (s0, vr, vn)))
    (hg : wA.grownBy w' us[n].vs.ownBlock) (hv : v'.ownBlock = us[n].vs.ownBlock ∨ v'.ownBlock = some wA.heap.size)
    (hs : SymIn w1 s0 vr vn) (hb1 : Below w1.heap.size w1 (w'.setCell ⟨g, n * 2 + 1, none⟩ v')) (hlen : ts.length + 1 ≤ 140737488355328) :
    ObjsAt (w'.setCell ⟨g, n * 2 + 1, none⟩ v') (.slice (some ⟨g, 0, none⟩) us.length cap) (addSym l n s0) := by
  have hll : us.length = l.length := by rw [← hl, List.length_map]
  have hnl : n < l.length := by omega
  have he : ∀ i (hi : i < us.length) (hi' : i < l.length), us[i].o = l[i] := fun i hi hi' => by
    have : (us.map (·.o))[i]? = l[i]? := by rw [hl]
    rw [List.getElem?_map, List.getElem?_eq_getElem hi, List.getElem?_eq_getElem hi'] at this
    exact Option.some.inj this
  obtain ⟨s1, s2, s3⟩ := hsep
  have hq := s2 us[n] (List.getElem_mem hn)
  obtain ⟨-, -, q3, q4, q5⟩ := hq
  have hg5 := q5 g rfl
  have hgl := (s1.lt g rfl).2
  have hgne : ∀ k, us[n].vs.ownBlock = some k → k ≠ g := fun k hk e => by have := hvr k hk; omega
  have hgne' : (Value.slice (some ⟨g, 0, none⟩) us.length cap).ownBlock ≠ us[n].vs.ownBlock := fun e => hgne g e.symm rfl
  have hvg : ∀ k, v'.ownBlock = some k → k ≠ g := fun k hk e => by
    rcases hv with hv | hv
    · exact hgne k (hv ▸ hk) e
    · rw [hv] at hk; cases hk; omega
  have hrow := ((s1.kept hg (.inr hgne')).stored (n * 2 + 1) v').1
  have hset : ∀ k, k ≠ g → (w'.setCell ⟨g, n * 2 + 1, none⟩ v').heap[k]? = w'.heap[k]? := fun k hk => Below.heap_setCell _ _ _ _ (by simpa using hk)
  have hcap : us.length ≤ cap := by
    rcases s1.2 with ⟨h, -⟩ | ⟨_, _, _, h, -, -, h2, -⟩
    · cases h
    · cases h; exact h2
  obtain ⟨-, -, b0, o0, -, -, hm0, -, hc0⟩ := h0
  have hgsz : g < (w'.setCell ⟨g, n * 2 + 1, none⟩ v').heap.size := by have := hg.size; simp; omega
  refine ⟨some ⟨g, 0, none⟩, cap, g, 0, by rw [addSym_length, hll], by rw [addSym_length]; omega, by rw [addSym_length]; exact hm0, fun _ => rfl, fun i hi0 => ?_⟩
  have hi : i < l.length := by rw [addSym_length] at hi0; exact hi0
  have hiu : i < us.length := by omega
  have hcell : ∀ j, j < us.length * 2 → (w'.setCell ⟨g, n * 2 + 1, none⟩ v').cell? ⟨g, j, none⟩ = ((us.flatMap objCells).set (n * 2 + 1) v')[j]? := fun j hj => hrow.cellAt j hj
  have hfl := flat_len objCells_len us
  have c0 : (w'.setCell ⟨g, n * 2 + 1, none⟩ v').cell? ⟨g, i * 2, none⟩ = some (.string us[i].o.name) := by
    rw [hcell _ (by omega), List.getElem?_set_ne (by omega)]
    exact flat_get objCells_len us i 0 hiu (by omega)
  simp only [addSym_at hnl]
  by_cases hin : i = n
  · subst hin
    have c1 : (w'.setCell ⟨g, i * 2 + 1, none⟩ v').cell? ⟨g, i * 2 + 1, none⟩ = some v' := by
      rw [hcell _ (by omega), List.getElem?_set_self (by omega)]
    obtain ⟨v1, -, -, -, ⟨_, _, _, _, -, -, hmx, -, hc1⟩, hnm⟩ := hc0 i hi
    rw [List.getElem_set_self]
    refine ⟨v', hgsz, by rw [Nat.zero_add, c0, he i hiu hi], by rw [Nat.zero_add]; exact c1, ?_, hnm⟩
    have hts' : (ts ++ [(s0, vr, vn)]).map (·.1) = l[i].syms ++ [s0] := by rw [List.map_append, hts, he i hiu hi]; rfl
    show RowAt 7 SymR _ v' (l[i].syms ++ [s0])
    rw [← hts']
    refine sym_back (base := us[i].lo) (e := 37) ?_ (by simpa using hlen) fun t ht => ?_
    · rw [List.length_append, List.flatMap_append]
      refine owns_congr (w := w') (by simpa using hown) fun k hk => hset k (hvg k hk)
    · rcases List.mem_append.1 ht with ht | ht
      · obtain ⟨j, hj, rfl⟩ := List.mem_iff_getElem.1 ht
        have hj' : j < l[i].syms.length := by rw [← he i hiu hi, ← hts, List.length_map]; exact hj
        obtain ⟨ur, un, -, -, -, -, -, -, -, -, hin'⟩ := hc1 j hj'
        have hee : ts[j].1 = l[i].syms[j] := by
          have : (ts.map (·.1))[j]? = l[i].syms[j]? := by rw [hts, he i hiu hi]
          rw [List.getElem?_map, List.getElem?_eq_getElem hj, List.getElem?_eq_getElem hj'] at this
          exact Option.some.inj this
        obtain ⟨so, i1, i2⟩ := hty _ ht
        obtain ⟨t1, t2, -, -⟩ := so.grown hg hv
        rw [← hee] at hin'
        exact ⟨rel_back hin'.1 (owns_congr t1 fun k hk => hset k fun e => by have := i1 k hk; omega), note_back hin'.2.1 (owns_congr t2 fun k hk => hset k fun e => by have := i2 k hk; omega), hin'.2.2⟩
      · obtain rfl : t = _ := by simpa using ht
        exact SymIn.keep hb1 hs
  · have c1 : (w'.setCell ⟨g, n * 2 + 1, none⟩ v').cell? ⟨g, i * 2 + 1, none⟩ = some us[i].vs := by
      rw [hcell _ (by omega), List.getElem?_set_ne (by omega)]
      exact flat_get objCells_len us i 1 hiu (by omega)
    obtain ⟨v1, -, -, -, hob⟩ := hc0 i hi
    rw [List.getElem_set_ne (fun e => hin e.symm)]
    obtain ⟨r1, -, r3, r4, r5⟩ := s2 us[i] (List.getElem_mem hiu)
    have hdis : us[i].hi ≤ us[n].lo ∨ us[n].hi ≤ us[i].lo := by
      rcases Nat.lt_or_gt_of_ne hin with h | h
      · exact .inl (List.pairwise_iff_getElem.1 s3 i n hiu hn h)
      · exact .inr (List.pairwise_iff_getElem.1 s3 n i hn hiu h)
    rw [← he i hiu hi] at hob ⊢
    refine ⟨us[i].vs, hgsz, by rw [Nat.zero_add]; exact c0, by rw [Nat.zero_add]; exact c1, ObjSep.objIn hob (r1.congr fun k hk1 hk2 => ?_)⟩
    rw [hset k (fun e => by have := r5 g rfl; omega), hg.block k (by omega) (fun e => by have := hvr k e.symm; omega)]
end Go.Proofs.YtiogoinaklgglaaDoor
