/- The kit's library contract Lays.n146 laid at this translation's numbers (written by the kit's lay-plain.mjs, turned by a program of ours). No condition. -/
import Derived.Shelf.SlGeneric
import Derived.Shelf.Strings.Split
import Derived.Ground.NamesProg
import Derived.Test.YtiohpmcedfbcgacGreatDoorProg
namespace Go.Proofs.YtiohpmcedfbcgacGreatDoor
open Go.Shelf
def laysSplitI_ren : Go.Shelf.Ren := ⟨fun | 146 => 219 | 221 => 295 | 268 => 326 | 138 => 327 | 143 => 328 | 195 => 345 | 197 => 346 | 218 => 347 | 219 => 348 | 260 => 354 | 217 => 355 | 225 => 356 | 224 => 357 | 267 => 358 | 266 => 360 | 314 => 361 | n => n, fun | 9 => 9 | 31 => 40 | 3 => 3 | 4 => 4 | 0 => 0 | 105 => 454 | 21 => 21 | 5 => 5 | 46 => 56 | 119 => 465 | 139 => 468 | 138 => 467 | 146 => 409 | 51 => 408 | n => n, fun | 1 => 2 | 3 => 5 | 4 => 6 | n => n⟩
theorem laysSplitI : Go.Proofs.Lays.n146 Tryz.prog laysSplitI_ren := {
  mixed := by kernel_rfl
  f138 := Tryz.func327.trans (congrArg some (by kernel_rfl))
  f143 := Tryz.func328.trans (congrArg some (by kernel_rfl))
  f146 := Tryz.func219.trans (congrArg some (by kernel_rfl))
  f195 := Tryz.func345.trans (congrArg some (by kernel_rfl))
  f197 := Tryz.func346.trans (congrArg some (by kernel_rfl))
  f217 := Tryz.func355.trans (congrArg some (by kernel_rfl))
  f218 := Tryz.func347.trans (congrArg some (by kernel_rfl))
  f219 := Tryz.func348.trans (congrArg some (by kernel_rfl))
  f221 := Tryz.func295.trans (congrArg some (by kernel_rfl))
  f224 := Tryz.func357.trans (congrArg some (by kernel_rfl))
  f225 := Tryz.func356.trans (congrArg some (by kernel_rfl))
  f260 := Tryz.func354.trans (congrArg some (by kernel_rfl))
  f266 := Tryz.func360.trans (congrArg some (by kernel_rfl))
  f267 := Tryz.func358.trans (congrArg some (by kernel_rfl))
  f268 := Tryz.func326.trans (congrArg some (by kernel_rfl))
  f314 := Tryz.func361.trans (congrArg some (by kernel_rfl))
  t0 := Tryz.underlying0
  a0 := Tryz.isAgg0
  z0 := Tryz.sizeOf0
  v0 := Tryz.zeroValue0
  t3 := Tryz.underlying3
  a3 := Tryz.isAgg3
  z3 := Tryz.sizeOf3
  v3 := Tryz.zeroValue3
  t4 := Tryz.underlying4
  a4 := Tryz.isAgg4
  z4 := Tryz.sizeOf4
  v4 := Tryz.zeroValue4
  t5 := Tryz.underlying5
  a5 := Tryz.isAgg5
  z5 := Tryz.sizeOf5
  v5 := Tryz.zeroValue5
  t9 := Tryz.underlying9
  a9 := Tryz.isAgg9
  z9 := Tryz.sizeOf9
  v9 := Tryz.zeroValue9
  t21 := Tryz.underlying21
  a21 := Tryz.isAgg21
  z21 := Tryz.sizeOf21
  v21 := Tryz.zeroValue21
  t31 := Tryz.underlying40
  a31 := Tryz.isAgg40
  z31 := Tryz.sizeOf40
  v31 := Tryz.zeroValue40
  t46 := Tryz.underlying56
  a46 := Tryz.isAgg56
  z46 := Tryz.sizeOf56
  v46 := Tryz.zeroValue56
  t51 := Tryz.underlying408
  a51 := Tryz.isAgg408
  z51 := Tryz.sizeOf408
  v51 := Tryz.zeroValue408
  t105 := Tryz.underlying454
  a105 := Tryz.isAgg454
  z105 := Tryz.sizeOf454
  v105 := Tryz.zeroValue454
  t119 := Tryz.underlying465
  a119 := Tryz.isAgg465
  z119 := Tryz.sizeOf465
  t138 := Tryz.underlying467
  a138 := Tryz.isAgg467
  z138 := Tryz.sizeOf467
  v138 := Tryz.zeroValue467
  t139 := Tryz.underlying468
  a139 := Tryz.isAgg468
  z139 := Tryz.sizeOf468
  v139 := Tryz.zeroValue468
  t146 := Tryz.underlying409
  a146 := Tryz.isAgg409
  z146 := Tryz.sizeOf409
  v146 := Tryz.zeroValue409
  g1 := by kernel_rfl
  g3 := by kernel_rfl
  g4 := by kernel_rfl }
end Go.Proofs.YtiohpmcedfbcgacGreatDoor
