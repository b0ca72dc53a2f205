/- The kit's library contract SlLaysZI.n6 laid at this translation's numbers (written by the kit's lay-plain.mjs, turned by a program of ours). No condition. -/
import Derived.Shelf.SlGeneric
import Derived.Shelf.SlIterI.Nil
import Derived.Ground.GgzProg
import Derived.Test.YtamleilijmgoeaaGreatDoorProg
namespace Go.Proofs.YtamleilijmgoeaaGreatDoor
open Go.Shelf
def laysSortedI_ren : Go.Shelf.Ren := ⟨fun | 6 => 150 | 8 => 226 | 9 => 227 | 11 => 265 | 13 => 267 | 12 => 266 | 23 => 298 | 24 => 299 | 14 => 289 | 15 => 290 | 16 => 291 | 17 => 292 | 18 => 293 | 19 => 294 | 20 => 295 | 21 => 296 | 22 => 297 | 25 => 310 | 26 => 311 | 27 => 312 | 28 => 313 | 29 => 314 | 30 => 241 | 31 => 329 | n => n, fun | 26 => 3 | 28 => 265 | 24 => 23 | 0 => 0 | 3 => 3 | 37 => 134 | 48 => 403 | 50 => 397 | 4 => 4 | 40 => 410 | 39 => 409 | 45 => 140 | 5 => 5 | 9 => 9 | 51 => 424 | 55 => 388 | 57 => 436 | 58 => 437 | 33 => 171 | n => n, fun | n => n⟩
theorem laysSortedI : Go.Proofs.SlLaysZI.n6 Tryz.prog laysSortedI_ren := {
  mixed := by kernel_rfl
  f6 := ⟨Tryz.f150.name, by decide, Tryz.func150.trans (congrArg some (by kernel_rfl))⟩
  f8 := ⟨Tryz.f226.name, by decide, Tryz.func226.trans (congrArg some (by kernel_rfl))⟩
  f11 := ⟨Tryz.f265.name, by decide, Tryz.func265.trans (congrArg some (by kernel_rfl))⟩
  t0 := Tryz.underlying0
  a0 := Tryz.isAgg0
  z0 := Tryz.sizeOf0
  v0 := Tryz.zeroValue0
  t24 := Tryz.underlying23
  a24 := Tryz.isAgg23
  z24 := Tryz.sizeOf23
  v24 := Tryz.zeroValue23
  t26 := Tryz.underlying3
  a26 := Tryz.isAgg3
  z26 := Tryz.sizeOf3
  v26 := Tryz.zeroValue3
  t28 := Tryz.underlying265
  a28 := Tryz.isAgg265
  z28 := Tryz.sizeOf265
  v28 := Tryz.zeroValue265
  i26 := by kernel_rfl }
end Go.Proofs.YtamleilijmgoeaaGreatDoor
