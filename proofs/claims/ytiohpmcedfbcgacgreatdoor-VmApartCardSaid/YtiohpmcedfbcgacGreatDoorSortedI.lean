/- The kit's library contract SlLaysZI.n6 laid at this translation's numbers (written by the kit's lay-plain.mjs, turned by a program of ours). No condition. -/
import Derived.Shelf.SlGeneric
import Derived.Shelf.SlIterI.Nil
import Derived.Ground.GgzProg
import Derived.Test.YtiohpmcedfbcgacGreatDoorProg
namespace Go.Proofs.YtiohpmcedfbcgacGreatDoor
open Go.Shelf
def laysSortedI_ren : Go.Shelf.Ren := ⟨fun | 6 => 91 | 8 => 201 | 9 => 202 | 11 => 284 | 13 => 286 | 12 => 285 | 23 => 324 | 24 => 311 | 14 => 315 | 15 => 316 | 16 => 317 | 17 => 318 | 18 => 319 | 19 => 320 | 20 => 321 | 21 => 322 | 22 => 323 | 25 => 340 | 26 => 341 | 27 => 342 | 28 => 343 | 29 => 344 | 30 => 302 | 31 => 353 | n => n, fun | 26 => 3 | 28 => 163 | 24 => 65 | 0 => 0 | 3 => 3 | 37 => 56 | 48 => 408 | 50 => 387 | 4 => 4 | 40 => 433 | 39 => 432 | 45 => 194 | 5 => 5 | 9 => 9 | 51 => 448 | 55 => 447 | 57 => 461 | 58 => 462 | 33 => 265 | n => n, fun | n => n⟩
theorem laysSortedI : Go.Proofs.SlLaysZI.n6 Tryz.prog laysSortedI_ren := {
  mixed := by kernel_rfl
  f6 := ⟨Tryz.f91.name, by decide, Tryz.func91.trans (congrArg some (by kernel_rfl))⟩
  f8 := ⟨Tryz.f201.name, by decide, Tryz.func201.trans (congrArg some (by kernel_rfl))⟩
  f11 := ⟨Tryz.f284.name, by decide, Tryz.func284.trans (congrArg some (by kernel_rfl))⟩
  t0 := Tryz.underlying0
  a0 := Tryz.isAgg0
  z0 := Tryz.sizeOf0
  v0 := Tryz.zeroValue0
  t24 := Tryz.underlying65
  a24 := Tryz.isAgg65
  z24 := Tryz.sizeOf65
  v24 := Tryz.zeroValue65
  t26 := Tryz.underlying3
  a26 := Tryz.isAgg3
  z26 := Tryz.sizeOf3
  v26 := Tryz.zeroValue3
  t28 := Tryz.underlying163
  a28 := Tryz.isAgg163
  z28 := Tryz.sizeOf163
  v28 := Tryz.zeroValue163
  i26 := by kernel_rfl }
end Go.Proofs.YtiohpmcedfbcgacGreatDoor
