/-
  DERIVED: THE SHELF's CONTRACTS AT THIS DUMP, IN PLAIN WORDS (tools/lay-plain.mjs out of 'TryzTrimShelf.lean', which tools/lay-shelf.mjs wrote): THE SAME DECLARATIONS UNDER THE SAME NAMES: 'import', 'namespace', 'open', 'def', 'theorem' AND NOTHING ELSE: no command of the shelf's: FOR A HAND-IN. Each laying: the table of numbers ('.._ren') and one theorem, a field a fact of the dump's own or the kernel's comparison; each contract: ONE APPLICATION.
-/
import Derived.WalkKit
import Derived.Ground.NamesProg
import Derived.Shelf.Strings.SlTrimAscii
import Derived.Test.YtdjgkmpjhpnkeaaGreatDoorProg
namespace Go.Proofs.YtdjgkmpjhpnkeaaGreatDoor
open Go.Shelf
def Tryz.lays160_ren : Go.Shelf.Ren := ⟨fun | 160 => 292 | 232 => 324 | 231 => 323 | 227 => 325 | 234 => 327 | 233 => 326 | 236 => 329 | 235 => 328 | 228 => 339 | 271 => 342 | 151 => 341 | 197 => 340 | 120 => 347 | 152 => 346 | 260 => 345 | 137 => 348 | 119 => 349 | 224 => 350 | 225 => 351 | 217 => 352 | 266 => 353 | n => n, fun | 9 => 9 | 4 => 4 | 3 => 3 | 5 => 5 | 117 => 410 | 116 => 409 | 0 => 0 | 124 => 413 | 21 => 21 | 105 => 421 | 46 => 272 | 119 => 427 | 139 => 430 | 138 => 429 | n => n, fun | 3 => 0 | 4 => 1 | n => n⟩
theorem Tryz.lays160 : Go.Proofs.Lays.n160 Tryz.prog Tryz.lays160_ren := {
  mixed := by kernel_rfl
  f119 := Tryz.func349.trans (congrArg some (by kernel_rfl))
  f120 := Tryz.func347.trans (congrArg some (by kernel_rfl))
  f137 := Tryz.func348.trans (congrArg some (by kernel_rfl))
  f151 := Tryz.func341.trans (congrArg some (by kernel_rfl))
  f152 := Tryz.func346.trans (congrArg some (by kernel_rfl))
  f160 := Tryz.func292.trans (congrArg some (by kernel_rfl))
  f197 := Tryz.func340.trans (congrArg some (by kernel_rfl))
  f217 := Tryz.func352.trans (congrArg some (by kernel_rfl))
  f224 := Tryz.func350.trans (congrArg some (by kernel_rfl))
  f225 := Tryz.func351.trans (congrArg some (by kernel_rfl))
  f227 := Tryz.func325.trans (congrArg some (by kernel_rfl))
  f228 := Tryz.func339.trans (congrArg some (by kernel_rfl))
  f231 := Tryz.func323.trans (congrArg some (by kernel_rfl))
  f232 := Tryz.func324.trans (congrArg some (by kernel_rfl))
  f233 := Tryz.func326.trans (congrArg some (by kernel_rfl))
  f234 := Tryz.func327.trans (congrArg some (by kernel_rfl))
  f235 := Tryz.func328.trans (congrArg some (by kernel_rfl))
  f236 := Tryz.func329.trans (congrArg some (by kernel_rfl))
  f260 := Tryz.func345.trans (congrArg some (by kernel_rfl))
  f266 := Tryz.func353.trans (congrArg some (by kernel_rfl))
  f271 := Tryz.func342.trans (congrArg some (by kernel_rfl))
  t0 := Tryz.underlying0
  a0 := Tryz.isAgg0
  z0 := Tryz.sizeOf0
  v0 := Tryz.zeroValue0
  t3 := Tryz.underlying3
  a3 := Tryz.isAgg3
  z3 := Tryz.sizeOf3
  v3 := Tryz.zeroValue3
  t4 := Tryz.underlying4
  a4 := Tryz.isAgg4
  z4 := Tryz.sizeOf4
  v4 := Tryz.zeroValue4
  t5 := Tryz.underlying5
  a5 := Tryz.isAgg5
  z5 := Tryz.sizeOf5
  v5 := Tryz.zeroValue5
  t9 := Tryz.underlying9
  a9 := Tryz.isAgg9
  z9 := Tryz.sizeOf9
  v9 := Tryz.zeroValue9
  t21 := Tryz.underlying21
  a21 := Tryz.isAgg21
  z21 := Tryz.sizeOf21
  v21 := Tryz.zeroValue21
  t46 := Tryz.underlying272
  a46 := Tryz.isAgg272
  z46 := Tryz.sizeOf272
  v46 := Tryz.zeroValue272
  t105 := Tryz.underlying421
  a105 := Tryz.isAgg421
  z105 := Tryz.sizeOf421
  v105 := Tryz.zeroValue421
  t116 := Tryz.underlying409
  a116 := Tryz.isAgg409
  z116 := Tryz.sizeOf409
  t117 := Tryz.underlying410
  a117 := Tryz.isAgg410
  z117 := Tryz.sizeOf410
  v117 := Tryz.zeroValue410
  t119 := Tryz.underlying427
  a119 := Tryz.isAgg427
  z119 := Tryz.sizeOf427
  t124 := Tryz.underlying413
  a124 := Tryz.isAgg413
  z124 := Tryz.sizeOf413
  v124 := Tryz.zeroValue413
  t138 := Tryz.underlying429
  a138 := Tryz.isAgg429
  z138 := Tryz.sizeOf429
  v138 := Tryz.zeroValue429
  t139 := Tryz.underlying430
  a139 := Tryz.isAgg430
  z139 := Tryz.sizeOf430
  v139 := Tryz.zeroValue430
  g3 := by kernel_rfl
  g4 := by kernel_rfl }
end Go.Proofs.YtdjgkmpjhpnkeaaGreatDoor
