/- The kit's library contract SlLaysZ.n6 laid at this translation's numbers (written by the kit's lay-plain.mjs, turned by a program of ours). No condition. -/
import Derived.Shelf.SlGeneric
import Derived.Shelf.SlIter.Nil
import Derived.Ground.GgzProg
import Derived.Test.YtiohpmcedfbcgacGreatDoorProg
namespace Go.Proofs.YtiohpmcedfbcgacGreatDoor
open Go.Shelf
def laysSortedS_ren : Go.Shelf.Ren := ⟨fun | 6 => 126 | 8 => 227 | 9 => 228 | 11 => 299 | 13 => 286 | 12 => 300 | 23 => 324 | 24 => 311 | 14 => 329 | 15 => 330 | 16 => 331 | 17 => 332 | 18 => 333 | 19 => 334 | 20 => 335 | 21 => 336 | 22 => 337 | 25 => 349 | 26 => 341 | 27 => 342 | 28 => 350 | 29 => 351 | 30 => 352 | 31 => 359 | n => n, fun | 26 => 9 | 28 => 214 | 24 => 40 | 0 => 0 | 3 => 3 | 37 => 56 | 48 => 408 | 50 => 387 | 4 => 4 | 40 => 433 | 39 => 432 | 45 => 194 | 5 => 5 | 9 => 9 | 51 => 448 | 55 => 447 | 57 => 461 | 58 => 462 | 33 => 125 | n => n, fun | n => n⟩
theorem laysSortedS : Go.Proofs.SlLaysZ.n6 Tryz.prog laysSortedS_ren := {
  mixed := by kernel_rfl
  f6 := ⟨Tryz.f126.name, by decide, Tryz.func126.trans (congrArg some (by kernel_rfl))⟩
  f8 := ⟨Tryz.f227.name, by decide, Tryz.func227.trans (congrArg some (by kernel_rfl))⟩
  f11 := ⟨Tryz.f299.name, by decide, Tryz.func299.trans (congrArg some (by kernel_rfl))⟩
  t0 := Tryz.underlying0
  a0 := Tryz.isAgg0
  z0 := Tryz.sizeOf0
  v0 := Tryz.zeroValue0
  t24 := Tryz.underlying40
  a24 := Tryz.isAgg40
  z24 := Tryz.sizeOf40
  v24 := Tryz.zeroValue40
  t26 := Tryz.underlying9
  a26 := Tryz.isAgg9
  z26 := Tryz.sizeOf9
  v26 := Tryz.zeroValue9
  t28 := Tryz.underlying214
  a28 := Tryz.isAgg214
  z28 := Tryz.sizeOf214
  v28 := Tryz.zeroValue214
  i26 := by kernel_rfl }
end Go.Proofs.YtiohpmcedfbcgacGreatDoor
