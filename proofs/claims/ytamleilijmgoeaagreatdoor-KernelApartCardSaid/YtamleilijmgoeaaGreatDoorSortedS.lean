/- The kit's library contract SlLaysZ.n6 laid at this translation's numbers (written by the kit's lay-plain.mjs, turned by a program of ours). No condition. -/
import Derived.Shelf.SlGeneric
import Derived.Shelf.SlIter.Nil
import Derived.Ground.GgzProg
import Derived.Test.YtamleilijmgoeaaGreatDoorProg
namespace Go.Proofs.YtamleilijmgoeaaGreatDoor
open Go.Shelf
def laysSortedS_ren : Go.Shelf.Ren := ⟨fun | 6 => 279 | 8 => 303 | 9 => 278 | 11 => 326 | 13 => 267 | 12 => 302 | 23 => 298 | 24 => 299 | 14 => 317 | 15 => 318 | 16 => 319 | 17 => 320 | 18 => 321 | 19 => 322 | 20 => 323 | 21 => 324 | 22 => 325 | 25 => 333 | 26 => 311 | 27 => 312 | 28 => 334 | 29 => 335 | 30 => 336 | 31 => 341 | n => n, fun | 26 => 9 | 28 => 394 | 24 => 22 | 0 => 0 | 3 => 3 | 37 => 134 | 48 => 403 | 50 => 397 | 4 => 4 | 40 => 410 | 39 => 409 | 45 => 140 | 5 => 5 | 9 => 9 | 51 => 424 | 55 => 388 | 57 => 436 | 58 => 437 | 33 => 72 | n => n, fun | n => n⟩
theorem laysSortedS : Go.Proofs.SlLaysZ.n6 Tryz.prog laysSortedS_ren := {
  mixed := by kernel_rfl
  f6 := ⟨Tryz.f279.name, by decide, Tryz.func279.trans (congrArg some (by kernel_rfl))⟩
  f8 := ⟨Tryz.f303.name, by decide, Tryz.func303.trans (congrArg some (by kernel_rfl))⟩
  f11 := ⟨Tryz.f326.name, by decide, Tryz.func326.trans (congrArg some (by kernel_rfl))⟩
  t0 := Tryz.underlying0
  a0 := Tryz.isAgg0
  z0 := Tryz.sizeOf0
  v0 := Tryz.zeroValue0
  t24 := Tryz.underlying22
  a24 := Tryz.isAgg22
  z24 := Tryz.sizeOf22
  v24 := Tryz.zeroValue22
  t26 := Tryz.underlying9
  a26 := Tryz.isAgg9
  z26 := Tryz.sizeOf9
  v26 := Tryz.zeroValue9
  t28 := Tryz.underlying394
  a28 := Tryz.isAgg394
  z28 := Tryz.sizeOf394
  v28 := Tryz.zeroValue394
  i26 := by kernel_rfl }
end Go.Proofs.YtamleilijmgoeaaGreatDoor
