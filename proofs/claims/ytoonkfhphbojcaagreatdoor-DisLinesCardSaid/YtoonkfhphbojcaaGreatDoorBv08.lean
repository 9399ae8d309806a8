/- The manifest of notes (layer 11), in plain words: gathered, sorted, each port once. No program in sight. A manifest, and segments, as a world holds them. Which images may be, what is amiss in one, which calls stand in it, and its flow (layers 4, 11, 16, 36), in plain words. No program in sight. The walks of insn: its table, what may be, and what bytes are an instruction. -/
import Derived.Test.YtoonkfhphbojcaaGreatDoorBv04
import Derived.Lib.SlicesCompact
import Derived.Test.YtoonkfhphbojcaaGreatDoorBv05
import Derived.Test.YtoonkfhphbojcaaGreatDoorProg
import Derived.Test.YtoonkfhphbojcaaGreatDoorBv02
import Derived.Deep.MidRow
import Derived.Laws.Rows
import Derived.LoopTactic
import Derived.Outline
import Derived.Lib.Hide
namespace Go.Proofs.YtoonkfhphbojcaaGreatDoor
structure GMan where
  pages : Int
  exts : List (Int × Int)
  ports : List Int
  cons : Bool
def man0 : GMan := ⟨0, [], [], false⟩
/-- what a gatherer has -/
structure Gat where
  pages : Int
  ports : List Int
  cons : Bool
  blocks : List Int
def gat0 : Gat := ⟨0, [], false, List.replicate 16 0⟩
def gatNote (g : Gat) (x : GNote) : Gat :=
  if x.kind = 1 then { g with pages := max g.pages x.n }
  else if x.kind = 2 then { g with blocks := g.blocks.set x.n.toNat (max (g.blocks[x.n.toNat]?.getD 0) x.m) }
  else if x.kind = 3 then { g with ports := g.ports ++ [x.n] }
  else { g with cons := true }
def gatAll (l : List GNote) : Gat := l.foldl gatNote gat0
def sortI (l : List Int) : List Int := l.mergeSort fun x y => decide (x ≤ y)
def onceI (l : List Int) : List Int := Lib.compact l
/-- the extents of a gatherer, from place k on -/
def extsFrom : Nat → List Int → List (Int × Int)
  | _, [] => []
  | k, n :: r => if 0 < n then ((k : Int), n) :: extsFrom (k + 1) r else extsFrom (k + 1) r
def gatMan (g : Gat) : GMan := ⟨g.pages, extsFrom 0 g.blocks, onceI (sortI g.ports), g.cons⟩
def gatEnd (g : Gat) : GMan × Int := if 16 < (gatMan g).ports.length then (man0, 4) else (gatMan g, 0)
def demandR (l : List GNote) : GMan × Int := if l.all noteOk = true then gatEnd (gatAll l) else (man0, 2)
theorem noteOk_kinds {x : GNote} (h : noteOk x = true) : (x.kind = 1 ∧ x.n ≤ 1024 ∧ x.m = 0) ∨ (x.kind = 2 ∧ x.n < 16 ∧ 1 ≤ x.m ∧ x.m ≤ 1024) ∨ (x.kind = 3 ∧ 1 ≤ x.n ∧ x.n ≤ 65535 ∧ x.m = 0) ∨ (x.kind = 4 ∧ x.n = 0 ∧ x.m = 0) := by
  unfold noteOk at h
  split at h
  · left; simp at h; omega
  · split at h
    · right; left; simp at h; omega
    · split at h
      · right; right; left; simp at h; omega
      · split at h
        · right; right; right; simp at h; omega
        · cases h
/-- what a gatherer may have -/
structure GatOk (g : Gat) : Prop where
  p0 : 0 ≤ g.pages
  p1 : g.pages ≤ 1024
  n : g.blocks.length = 16
  b : ∀ x ∈ g.blocks, 0 ≤ x ∧ x ≤ 1024
  q : ∀ x ∈ g.ports, 1 ≤ x ∧ x ≤ 65535
theorem gat0_ok : GatOk gat0 := ⟨by simp [gat0], by simp [gat0], by simp [gat0], fun x hx => by simp [gat0] at hx; omega, fun x hx => by simp [gat0] at hx⟩
theorem gatNote_ok {g : Gat} {x : GNote} (h : GatOk g) (hx : noteOk x = true) (h0 : 0 ≤ x.n) : GatOk (gatNote g x) := by
  rcases noteOk_kinds hx with ⟨e, h1, h2⟩ | ⟨e, h1, h2, h3⟩ | ⟨e, h1, h2, h3⟩ | ⟨e, h1, h2⟩
  · unfold gatNote
    rw [if_pos e]
    have := h.p0; have := h.p1
    exact ⟨by simp only []; omega, by simp only []; omega, h.n, h.b, h.q⟩
  · unfold gatNote
    rw [if_neg (by omega), if_pos e]
    refine ⟨h.p0, h.p1, by simp [h.n], ?_, h.q⟩
    intro y hy
    rcases List.mem_or_eq_of_mem_set hy with hy | rfl
    · exact h.b y hy
    · have : (g.blocks[x.n.toNat]?.getD 0) ≤ 1024 := by
        cases hg : g.blocks[x.n.toNat]? with
        | none => simp
        | some v => exact (h.b v (List.mem_of_getElem? hg)).2
      omega
  · unfold gatNote
    rw [if_neg (by omega), if_neg (by omega), if_pos e]
    refine ⟨h.p0, h.p1, h.n, h.b, ?_⟩
    intro y hy
    rcases List.mem_append.1 hy with hy | hy
    · exact h.q y hy
    · simp at hy; omega
  · unfold gatNote
    rw [if_neg (by omega), if_neg (by omega), if_neg (by omega)]
    exact ⟨h.p0, h.p1, h.n, h.b, h.q⟩
theorem gatNote_len (g : Gat) (x : GNote) : (gatNote g x).ports.length ≤ g.ports.length + 1 := by
  unfold gatNote
  split
  · simp
  · split
    · simp
    · split <;> simp
end Go.Proofs.YtoonkfhphbojcaaGreatDoor
namespace Go.Proofs.YtoonkfhphbojcaaGreatDoor
open Go.RowKit Go.Maps
structure GSeg where
  addr : Int
  perm : Int
  bytes : ByteArray
/-- an image: its manifest, where it begins, its segments -/
structure GImg where
  man : GMan
  entry : Int
  segs : List GSeg
def ExtR (w : World) (b o : Nat) (x : Int × Int) : Prop := b < w.heap.size ∧ w.cell? ⟨b, o, none⟩ = some (.int .u32 x.1) ∧ w.cell? ⟨b, o + 1, none⟩ = some (.int .u32 x.2) ∧ (0 ≤ x.1 ∧ x.1 ≤ 4294967295) ∧ (0 ≤ x.2 ∧ x.2 ≤ 4294967295)
def PortR (w : World) (b o : Nat) (x : Int) : Prop := b < w.heap.size ∧ w.cell? ⟨b, o, none⟩ = some (.int .u16 x) ∧ 0 ≤ x ∧ x ≤ 65535
def SegR (w : World) (b o : Nat) (x : GSeg) : Prop :=
  b < w.heap.size ∧ w.cell? ⟨b, o, none⟩ = some (.int .u32 x.addr) ∧ w.cell? ⟨b, o + 1, none⟩ = some (.int .u8 x.perm) ∧ w.cell? ⟨b, o + 2, none⟩ = some (.string x.bytes) ∧ (0 ≤ x.addr ∧ x.addr ≤ 4294967295) ∧ (0 ≤ x.perm ∧ x.perm ≤ 255) ∧ x.bytes.size ≤ 140737488355328
theorem extR_keeps : Keeps ExtR := fun _ _ _ _ _ hb ⟨h0, h1, h2, r⟩ => ⟨size_keep hb h0, cell_keep hb h0 h1, cell_keep hb h0 h2, r⟩
theorem portR_keeps : Keeps PortR := fun _ _ _ _ _ hb ⟨h0, h1, r⟩ => ⟨size_keep hb h0, cell_keep hb h0 h1, r⟩
theorem segR_keeps : Keeps SegR := fun _ _ _ _ _ hb ⟨h0, h1, h2, h3, r⟩ => ⟨size_keep hb h0, cell_keep hb h0 h1, cell_keep hb h0 h2, cell_keep hb h0 h3, r⟩
def ManAt (w : World) (m : GMan) (ve vp : Value) : Prop := RowAt 2 ExtR w ve m.exts ∧ RowAt 1 PortR w vp m.ports ∧ 0 ≤ m.pages ∧ m.pages ≤ 4294967295
theorem ManAt.keep {w w' : World} {m : GMan} {ve vp : Value} (hb : Below w.heap.size w w') (h : ManAt w m ve vp) : ManAt w' m ve vp := ⟨h.1.keep extR_keeps hb, h.2.1.keep portR_keeps hb, h.2.2⟩
end Go.Proofs.YtoonkfhphbojcaaGreatDoor
namespace Go.Proofs.YtoonkfhphbojcaaGreatDoor
/-- an instruction -/
structure GIns where
  op : Int
  d : Int
  a : Int
  b : Int
  imm : Int
deriving DecidableEq
def ins0 : GIns := ⟨0, 0, 0, 0, 0⟩
def opTwo : List Int := [17, 19, 22, 23, 24, 25, 26, 29, 30, 33, 34]
def opMem : List Int := [35, 36, 43, 44, 45, 46]
/-- what an op uses: bits 1 (D), 2 (A), 4 (B), 8 (the number); 0: there is no such op -/
def useOf (op : Int) : Int :=
  if opTwo.contains op = true then 11 else if op = 32 ∨ op = 41 then 9 else if opMem.contains op = true then 14 else if op = 40 ∨ op = 50 then 8 else if op = 42 then 2 else if 1 ≤ op ∧ op ≤ 14 then 7 else 0
def bitOf (u bit : Int) : Bool := decide (u / bit % 2 = 1)
def regOk (n : Int) (uses : Bool) : Bool := decide (n = 0) || (uses && decide (n < 16))
def insOk (x : GIns) : Bool :=
  decide (useOf x.op ≠ 0) && regOk x.d (bitOf (useOf x.op) 1) && regOk x.a (bitOf (useOf x.op) 2) && regOk x.b (bitOf (useOf x.op) 4) && (bitOf (useOf x.op) 8 || decide (x.imm = 0))
/-- the instruction of bytes, whether it may be or not -/
def rawI : List UInt8 → GIns
  | [o, r, b, _, i0, i1, i2, i3] => ⟨o.toNat, r.toNat % 16, r.toNat / 16, b.toNat, i0.toNat + 256 * i1.toNat + 65536 * i2.toNat + 16777216 * i3.toNat⟩
  | _ => ins0
def decI (s : List UInt8) : Option GIns := if s.length = 8 ∧ (s.getD 3 0).toNat = 0 ∧ insOk (rawI s) = true then some (rawI s) else none
/-- a line: its address, and what stands there -/
structure GLn where
  addr : Int
  ins : GIns
  is : Bool
def lnOf (addr : Int) (s : List UInt8) : GLn := match decI s with | some x => ⟨addr, x, true⟩ | none => ⟨addr, ins0, false⟩
def lnAt (s : GSeg) (k : Nat) : GLn := lnOf (s.addr + 8 * k) ((s.bytes.data.toList.drop (8 * k)).take 8)
def linesSeg (s : GSeg) : List GLn := (List.range (s.bytes.size / 8)).map (lnAt s)
def codeSegs (x : GImg) : List GSeg := x.segs.filter fun s => decide (s.perm = 5)
/-- which manifests may be -/
def extOk (x : Int × Int) : Bool := decide (x.1 < 16) && decide (1 ≤ x.2) && decide (x.2 ≤ 1024)
def riseE : List (Int × Int) → Bool
  | a :: b :: r => decide (a.1 < b.1) && riseE (b :: r)
  | _ => true
def riseP : List Int → Bool
  | a :: b :: r => decide (a < b) && riseP (b :: r)
  | _ => true
def manOkB (m : GMan) : Bool := m.exts.all extOk && riseE m.exts && riseP m.ports && !m.ports.contains 0 && decide (m.ports.length ≤ 16) && decide (m.pages ≤ 1024)
/-- which images may be -/
def permOk (p : Int) : Bool := decide (p = 1) || decide (p = 3) || decide (p = 5)
def endOf (s : GSeg) : Int := s.addr + s.bytes.size
def roundP (e : Int) : Int := (e + 255) / 256 * 256
def segOkP (free : Int) (s : GSeg) : Bool := permOk s.perm && decide (s.addr % 256 = 0) && decide (free ≤ s.addr) && decide (1 ≤ s.bytes.size) && decide (endOf s ≤ 131072)
def begP (en : Int) (s : GSeg) : Bool := decide (s.perm = 5) && decide (s.addr ≤ en) && decide (en + 8 ≤ endOf s)
def segsOkGo : Int → List GSeg → Bool
  | _, [] => true
  | free, s :: r => segOkP free s && segsOkGo (roundP (endOf s)) r
def imgOkB (x : GImg) : Bool := manOkB x.man && decide (1 ≤ x.segs.length) && decide (x.segs.length ≤ 8) && decide (x.entry % 8 = 0) && segsOkGo 256 x.segs && x.segs.any (begP x.entry)
def linesX (x : GImg) : List GLn := if imgOkB x = true then (codeSegs x).flatMap linesSeg else []
def jumpsB (x : GIns) : Bool := [40, 41, 43, 44, 45, 46].contains x.op
def goesB (x : GIns) : Bool := !(decide (x.op = 40) || decide (x.op = 42) || (decide (x.op = 50) && decide (x.imm = 1)))
def hasA (L : List GLn) (a : Int) : Bool := L.any fun y => decide (y.addr = a)
def deniedB (m : GMan) (n : Int) : Bool :=
  if n = 9 then !m.cons else if n = 5 ∨ n = 6 then decide (m.exts.length = 0) else if n = 7 ∨ n = 8 then decide (m.ports.length = 0) else if n = 3 then decide (m.pages = 0) else false
/-- an address as uint32 has it -/
def w32 (a : Int) : Int := a % 4294967296
/-- what is amiss at a line -/
def findsL (m : GMan) (L : List GLn) (y : GLn) : List (Int × Int) :=
  if y.is = true then
    (if (jumpsB y.ins && !hasA L y.ins.imm) = true then [(y.addr, 2)] else []) ++ (if (goesB y.ins && !hasA L (w32 (y.addr + 8))) = true then [(y.addr, 3)] else []) ++
    (if y.ins.op = 50 ∧ (y.ins.imm < 1 ∨ 10 < y.ins.imm) then [(y.addr, 4)] else []) ++ (if y.ins.op = 50 ∧ deniedB m y.ins.imm = true then [(y.addr, 5)] else [])
  else [(y.addr, 1)]
def restL (s : GSeg) : List (Int × Int) := if s.bytes.size % 8 = 0 then [] else [(s.addr + (s.bytes.size / 8 * 8 : Nat), 1)]
def imageL (x : GImg) : List (Int × Int) := if imgOkB x = true then (codeSegs x).flatMap fun s => (linesSeg s).flatMap (findsL x.man (linesX x)) ++ restL s else []
def sysL (L : List GLn) : List Int := (L.filter fun y => y.is && decide (y.ins.op = 50)).map fun y => y.ins.imm
def callsL (x : GImg) : List Int := onceI (sortI (sysL (linesX x)))
/-- what comes behind a line -/
def behindL (y : GLn) : List Int := (if (y.is && goesB y.ins) = true then [w32 (y.addr + 8)] else []) ++ (if (y.is && jumpsB y.ins) = true then [y.ins.imm] else [])
/-- a line's address from which another one's may come -/
def flowsTo (L : List GLn) (a b : Int) : Prop := hasA L b = true ∧ ∃ y ∈ L, y.addr = a ∧ b ∈ behindL y
inductive FlowR (L : List GLn) (e : Int) : Int → Prop
  | refl : FlowR L e e
  | step {a b : Int} : FlowR L e a → flowsTo L a b → FlowR L e b
def cleanB (l : List (Int × Int)) (ks : List Int) : Bool := !(l.any fun f => decide (ks.length = 0) || ks.contains f.2)
end Go.Proofs.YtoonkfhphbojcaaGreatDoor
namespace Go.Proofs.YtoonkfhphbojcaaGreatDoor
open Go.RowKit
theorem info_num : (Tryz.prog.info? 22).map (fun i => (i.zero, i.size, i.bytes)) = some (some (.int .u32 0), 1, 4) := by kernel_rfl
def tabL : List Value := (List.range 256).map fun i : Nat => .int .u8 (useOf i)
/-- the table behind k rounds of its loop -/
def tabK (k : Nat) : List Value := (List.range 256).map fun i : Nat => .int .u8 (if 1 ≤ i ∧ i ≤ 14 then (if i ≤ k then 7 else 0) else useOf i)
theorem tabK_len (k : Nat) : (tabK k).length = 256 := by simp [tabK]
theorem tabL_len : tabL.length = 256 := by simp [tabL]
theorem tabK_succ (k : Nat) (h : k < 14) : (tabK k).set (k + 1) (.int .u8 7) = tabK (k + 1) := by
  apply List.ext_getElem
  · simp [tabK]
  · intro i h1 h2
    rw [List.getElem_set]
    simp only [tabK, List.getElem_map, List.getElem_range]
    by_cases h3 : k + 1 = i
    · subst h3; rw [if_pos rfl, if_pos (by omega), if_pos (by omega)]
    · rw [if_neg h3]
      by_cases h4 : 1 ≤ i ∧ i ≤ 14
      · rw [if_pos h4, if_pos h4]
        by_cases h5 : i ≤ k
        · rw [if_pos h5, if_pos (by omega)]
        · rw [if_neg h5, if_neg (by omega)]
      · rw [if_neg h4, if_neg h4]
theorem tabK_end : tabK 14 = tabL := by
  unfold tabK tabL
  apply List.map_congr_left
  intro i hi
  by_cases h : 1 ≤ i ∧ i ≤ 14
  · rw [if_pos h, if_pos h.2]
    obtain ⟨h1, h2⟩ := h
    have : i = 1 ∨ i = 2 ∨ i = 3 ∨ i = 4 ∨ i = 5 ∨ i = 6 ∨ i = 7 ∨ i = 8 ∨ i = 9 ∨ i = 10 ∨ i = 11 ∨ i = 12 ∨ i = 13 ∨ i = 14 := by omega
    rcases this with rfl | rfl | rfl | rfl | rfl | rfl | rfl | rfl | rfl | rfl | rfl | rfl | rfl | rfl <;> rfl
  · rw [if_neg h]
theorem tab_one {k : Nat} : ∀ v ∈ tabK k, v.oneCell' = true := by
  intro v hv
  obtain ⟨i, _, rfl⟩ := List.mem_map.1 hv
  rfl
theorem rangeAt_set {w : World} {b : Nat} {cs : List Value} (h : w.rangeAt b 0 cs) (k : Nat) (u : Value) (hk : k < cs.length) : (w.setCell ⟨b, k, none⟩ u).rangeAt b 0 (cs.set k u) := by
  intro j v hv
  rw [List.getElem?_set] at hv
  rw [Nat.zero_add]
  by_cases hj : k = j
  · subst hj
    rw [if_pos rfl, if_pos hk] at hv
    have hc := h k cs[k] (List.getElem?_eq_getElem hk)
    rw [Nat.zero_add] at hc
    rw [World.cell?_setCell_same _ _ _ hc]; exact hv
  · rw [if_neg hj] at hv
    have hc := h j v hv
    rw [Nat.zero_add] at hc
    rw [World.cell?_setCell_other _ _ _ _ (by intro e; injection e with _ e2; exact hj e2)]; exact hc
theorem there_set {w : World} {b o n : Nat} (h : w.there b o n) (a : Addr) (u : Value) : (w.setCell a u).there b o n := fun j hj => by
  obtain ⟨h1, h2⟩ := h j hj
  obtain ⟨v, hv⟩ := Option.isSome_iff_exists.1 h1
  refine ⟨?_, by rw [World.frozen?_setCell]; exact h2⟩
  by_cases e : a = ⟨b, o + j, none⟩
  · subst e; rw [World.cell?_setCell_same _ _ _ hv]; rfl
  · rw [World.cell?_setCell_other _ _ _ _ e, hv]; rfl
theorem there_new (w : World) (A : Array Value) (t : TypeId) (n : Nat) (hA : A.size = n) : (w.alloc (.cells A t)).there w.heap.size 0 n := fun j hj => by
  subst hA
  constructor
  · simp [hj]
  · simp
theorem below_setCells {B : Nat} {w : World} : ∀ {vs : List Value} {w' : World} {o b : Nat}, Below B w w' → B ≤ b → ∀ vs' : List Value, vs' = vs → Below B w (w'.setCells b o vs')
  | [], _, _, _, h, _, _, rfl => h
  | v :: r, w', o, b, h, hb, _, rfl => by
    rw [World.setCells]
    exact below_setCells (vs := r) (h.setCell hb v) hb r rfl
theorem info142 : (Tryz.prog.info? 122).map (·.size) = some 256 := by kernel_rfl
set_option maxHeartbeats 1000000 in
set_option maxRecDepth 100000 in
theorem table_any (w : World) : Calls Tryz.prog 79 #[] w fun e w' => e = .returned (.agg tabL.toArray) ∧ Below w.heap.size w w' := by
  have HT0 := Lib.hid (World.there_alloc (there_new w Tryz.zeroCells122 122 256 Tryz.zeroCells122_size) (.cells Tryz.zeroCells122 122))
  have HT1 := Lib.hid (there_new (w.alloc (.cells Tryz.zeroCells122 122)) Tryz.zeroCells122 122 256 Tryz.zeroCells122_size)
  have HB := Lib.hid (((Below.refl w.heap.size w).alloc (Nat.le_refl _) (.cells Tryz.zeroCells122 122)).alloc (by simp) (.cells Tryz.zeroCells122 122))
  go_enter Tryz.func79, Tryz.ntmps79
  go_wp2_with (refine wpList_store_mid rfl 122 (.tmp 1) (.tmp 3) rfl (w.heap.size + 1) 0 _ rfl rfl ?t ?i ?one ?_)
  case t => have := HT1.out; simp at this ⊢; exact this
  case i => simpa using info142
  case one => exact all_oneCell_toArray (cs := tabK 0) tab_one
  generalize hA : Array.setIfInBounds _ 46 (Value.int .u8 14) = A
  clear hA
  generalize hA : List.set _ 46 (Value.int .u8 14) = L
  have HA : Hid (L = tabK 0) := Lib.hid (by rw [← hA]; kernel_rfl)
  clear hA
  obtain rfl := HA.out
  simp only [World.size_alloc] at HT1
  have HR2 : Hid ((((w.alloc (.cells Tryz.zeroCells122 122)).alloc (.cells Tryz.zeroCells122 122)).setCells (w.heap.size + 1) 0 (tabK 0)).rangeAt (w.heap.size + 1) 0 (tabK 0)) := World.rangeAt_setCells_same _ _ _ _ (by rw [tabK_len]; exact HT1.out)
  have HT2 := Lib.hid (World.there_setCells HT1.out (w.heap.size + 1) 0 (tabK 0))
  have HT3 := Lib.hid (World.there_setCells HT0.out (w.heap.size + 1) 0 (tabK 0))
  have HB2 : Hid (Below w.heap.size w (((w.alloc (.cells Tryz.zeroCells122 122)).alloc (.cells Tryz.zeroCells122 122)).setCells (w.heap.size + 1) 0 (tabK 0))) := below_setCells HB.out (by omega) _ rfl
  clear HT0 HT1 HB
  go_loopw [2] (fun v2 wr => ∃ k : Nat, k ≤ 14 ∧ v2 = .int .i64 (k + 1) ∧ wr.rangeAt (w.heap.size + 1) 0 (tabK k) ∧ wr.there (w.heap.size + 1) 0 256 ∧ wr.there w.heap.size 0 256 ∧ Below w.heap.size w wr) (fun v2 _ => 16 - (intOf v2).toNat)
  case atStart => exact ⟨0, by omega, rfl, HR2.out, HT2.out, HT3.out, HB2.out⟩
  case round =>
    obtain ⟨k, hk, rfl, hr, ht, ht0, hb⟩ := hrel
    have HR := Lib.hid hr; clear hr
    have HT := Lib.hid ht; clear ht
    have HT0 := Lib.hid ht0; clear ht0
    have HB := Lib.hid hb; clear hb
    clear HR2 HT2 HT3 HB2
    by_cases hlt : k < 14
    · have hlk : k + 1 < (tabK k).length := by rw [tabK_len]; omega
      have hc := HR.out (k + 1) _ (List.getElem?_eq_getElem hlk)
      have hf := (HT.out (k + 1) (by omega)).2
      rw [Nat.zero_add] at hc hf
      generalize (tabK k)[k + 1]'hlk = cv at hc
      clear hlk
      go_wp2
      go_roundw
      case rel => exact ⟨k + 1, by omega, by go_num, by rw [← tabK_succ k hlt]; exact rangeAt_set HR.out _ _ (by rw [tabK_len]; omega), there_set HT.out _ _, there_set HT0.out _ _, HB.out.setCell (by simp) _⟩
      case measure => simp [intOf]; omega
    · obtain rfl : k = 14 := by omega
      have HE := Lib.hid tabK_end
      go_wp2_with (first | (refine wpList_load_mid rfl 122 (.tmp 1) rfl (w.heap.size + 1) 0 rfl (tabK 14) _ HR.out Tryz.underlying122 rfl (by rw [tabK_len]; exact info142) ?_) | (refine wpList_store_mid rfl 122 (.tmp 0) (.tmp 10) rfl w.heap.size 0 (tabK 14).toArray rfl rfl (by simpa [tabK_len] using HT0.out) (by simpa [tabK_len] using info142) (all_oneCell_toArray tab_one) ?_))
      have hl := run_loadVar_mid (P := Tryz.prog) (wr.setCells w.heap.size 0 (tabK 14)) w.heap.size 0 122 (tabK 14) _ (World.rangeAt_setCells_same _ _ _ _ (by rw [tabK_len]; exact HT0.out)) Tryz.underlying122 rfl (by rw [tabK_len]; exact info142)
      exact bodyPost_ret (v := .agg (tabK 14).toArray) (by simp [results, Tryz.results79, asAddr, hl]) rfl ⟨by rw [HE.out], below_setCells HB.out (Nat.le_refl _) _ rfl⟩
def InsB (x : GIns) : Prop := (0 ≤ x.op ∧ x.op ≤ 255) ∧ (0 ≤ x.d ∧ x.d ≤ 255) ∧ (0 ≤ x.a ∧ x.a ≤ 255) ∧ (0 ≤ x.b ∧ x.b ≤ 255) ∧ (0 ≤ x.imm ∧ x.imm ≤ 4294967295)
def insV (x : GIns) : Value := .agg #[.int .u8 x.op, .int .u8 x.d, .int .u8 x.a, .int .u8 x.b, .int .u32 x.imm]
theorem use_mem (op : Int) : useOf op ∈ ([0, 2, 7, 8, 9, 11, 14] : List Int) := by
  unfold useOf
  repeat' split
  all_goals simp
theorem bit_and {u bit : Int} (hu : u ∈ ([0, 2, 7, 8, 9, 11, 14] : List Int)) (hb : bit ∈ ([1, 2, 4, 8] : List Int)) : ∃ c, bits .and .u8 u bit = c ∧ ((c = 0 ∧ bitOf u bit = false) ∨ ((c == 0) = false ∧ ¬ c = 0 ∧ bitOf u bit = true)) := by
  have h : (([0, 2, 7, 8, 9, 11, 14] : List Int).all fun u => ([1, 2, 4, 8] : List Int).all fun bit => decide ((bits .and .u8 u bit = 0 ∧ bitOf u bit = false) ∨ ((bits .and .u8 u bit == 0) = false ∧ ¬ bits .and .u8 u bit = 0 ∧ bitOf u bit = true))) = true := by decide +kernel
  have h1 := List.all_eq_true.1 (List.all_eq_true.1 h u hu) bit hb
  exact ⟨_, rfl, by simpa using h1⟩
set_option maxHeartbeats 400000 in
theorem fits_any (n bit u : Int) (ub : Nat) (w : World) (hu : u ∈ ([0, 2, 7, 8, 9, 11, 14] : List Int)) (hb : bit ∈ ([1, 2, 4, 8] : List Int)) (hc : w.cell? ⟨ub, 0, none⟩ = some (.int .u8 u)) :
    Calls Tryz.prog 80 #[.int .u8 n, .int .u8 bit, .pointer (some ⟨ub, 0, none⟩)] w fun e w' => e = .returned (.bool (regOk n (bitOf u bit))) ∧ w = w' := by
  obtain ⟨c, hbc, hcs⟩ := bit_and hu hb
  clear hu hb
  by_cases h0 : n = 0
  · subst h0
    go_enter Tryz.func80, Tryz.ntmps80
    go_wp2
    go_ret
    exact ⟨by simp [regOk], rfl⟩
  · have h0' : (n == 0) = false := by simpa using h0
    rcases hcs with ⟨rfl, h1⟩ | ⟨h1, h2, h3⟩
    · have H1 := Lib.hid h1; clear h1
      go_enter Tryz.func80, Tryz.ntmps80
      go_wp2
      go_ret
      exact ⟨by simp [regOk, H1.out, h0], rfl⟩
    · have H3 := Lib.hid h3; clear h3
      have h1' : (c != 0) = true := by simp [h2]
      go_enter Tryz.func80, Tryz.ntmps80
      go_wp2
      go_ret
      exact ⟨by simp [regOk, H3.out, h0], rfl⟩
end Go.Proofs.YtoonkfhphbojcaaGreatDoor
