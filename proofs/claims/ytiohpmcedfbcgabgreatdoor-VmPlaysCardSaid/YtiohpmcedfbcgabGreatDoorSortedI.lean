/- The kit's library contract SlLaysZI.n6 laid at this translation's numbers (written by the kit's lay-plain.mjs, turned by a program of ours). No condition. -/
import Derived.Shelf.SlGeneric
import Derived.Shelf.SlIterI.Nil
import Derived.Ground.GgzProg
import Derived.Test.YtiohpmcedfbcgabGreatDoorProg
namespace Go.Proofs.YtiohpmcedfbcgabGreatDoor
open Go.Shelf
def laysSortedI_ren : Go.Shelf.Ren := ⟨fun | 6 => 72 | 8 => 139 | 9 => 140 | 11 => 210 | 13 => 212 | 12 => 211 | 23 => 271 | 24 => 272 | 14 => 262 | 15 => 263 | 16 => 264 | 17 => 265 | 18 => 266 | 19 => 267 | 20 => 268 | 21 => 269 | 22 => 270 | 25 => 334 | 26 => 335 | 27 => 336 | 28 => 337 | 29 => 338 | 30 => 339 | 31 => 376 | n => n, fun | 26 => 3 | 28 => 158 | 24 => 155 | 0 => 0 | 3 => 3 | 37 => 46 | 48 => 110 | 50 => 107 | 4 => 4 | 40 => 402 | 39 => 401 | 45 => 202 | 5 => 5 | 9 => 9 | 51 => 457 | 55 => 357 | 57 => 498 | 58 => 499 | 33 => 90 | n => n, fun | n => n⟩
theorem laysSortedI : Go.Proofs.SlLaysZI.n6 Tryz.prog laysSortedI_ren := {
  mixed := by kernel_rfl
  f6 := ⟨Tryz.f72.name, by decide, Tryz.func72.trans (congrArg some (by kernel_rfl))⟩
  f8 := ⟨Tryz.f139.name, by decide, Tryz.func139.trans (congrArg some (by kernel_rfl))⟩
  f11 := ⟨Tryz.f210.name, by decide, Tryz.func210.trans (congrArg some (by kernel_rfl))⟩
  t0 := Tryz.underlying0
  a0 := Tryz.isAgg0
  z0 := Tryz.sizeOf0
  v0 := Tryz.zeroValue0
  t24 := Tryz.underlying155
  a24 := Tryz.isAgg155
  z24 := Tryz.sizeOf155
  v24 := Tryz.zeroValue155
  t26 := Tryz.underlying3
  a26 := Tryz.isAgg3
  z26 := Tryz.sizeOf3
  v26 := Tryz.zeroValue3
  t28 := Tryz.underlying158
  a28 := Tryz.isAgg158
  z28 := Tryz.sizeOf158
  v28 := Tryz.zeroValue158
  i26 := by kernel_rfl }
end Go.Proofs.YtiohpmcedfbcgabGreatDoor
