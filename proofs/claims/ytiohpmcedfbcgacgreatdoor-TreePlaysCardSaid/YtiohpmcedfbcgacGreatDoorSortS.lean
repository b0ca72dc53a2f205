/- The kit's library contract SlLaysM.n6 laid at this translation's numbers (written by the kit's lay-plain.mjs, turned by a program of ours). No condition. -/
import Derived.Shelf.SlGeneric
import Derived.Shelf.SortM.Plain
import Derived.Shelf.SortM.SortNone
import Derived.Ground.SlgmProg
import Derived.Test.YtiohpmcedfbcgacGreatDoorProg
namespace Go.Proofs.YtiohpmcedfbcgacGreatDoor
open Go.Shelf
def laysSortS_ren : Go.Shelf.Ren := ⟨fun | 6 => 228 | 8 => 286 | 9 => 300 | 19 => 324 | 20 => 311 | 21 => 329 | 22 => 330 | 23 => 331 | 24 => 332 | 25 => 333 | 26 => 334 | 27 => 335 | 28 => 336 | 29 => 337 | 36 => 349 | 31 => 341 | 32 => 342 | 37 => 350 | 38 => 351 | 39 => 352 | 41 => 359 | n => n, fun | 27 => 40 | 29 => 9 | 3 => 3 | 32 => 56 | 26 => 40 | 0 => 0 | 44 => 408 | 46 => 387 | 4 => 4 | 36 => 433 | 35 => 432 | 41 => 194 | 5 => 5 | 9 => 9 | 53 => 448 | 57 => 447 | 63 => 461 | 64 => 462 | n => n, fun | n => n⟩
theorem laysSortS : Go.Proofs.SlLaysM.n6 Tryz.prog laysSortS_ren := {
  mixed := by kernel_rfl
  f6 := ⟨Tryz.f228.name, by decide, Tryz.func228.trans (congrArg some (by kernel_rfl))⟩
  f8 := Tryz.func286.trans (congrArg some (by kernel_rfl))
  f9 := ⟨Tryz.f300.name, by decide, Tryz.func300.trans (congrArg some (by kernel_rfl))⟩
  f19 := Tryz.func324.trans (congrArg some (by kernel_rfl))
  f20 := Tryz.func311.trans (congrArg some (by kernel_rfl))
  f21 := ⟨Tryz.f329.name, by decide, Tryz.func329.trans (congrArg some (by kernel_rfl))⟩
  f22 := ⟨Tryz.f330.name, by decide, Tryz.func330.trans (congrArg some (by kernel_rfl))⟩
  f23 := ⟨Tryz.f331.name, by decide, Tryz.func331.trans (congrArg some (by kernel_rfl))⟩
  f24 := ⟨Tryz.f332.name, by decide, Tryz.func332.trans (congrArg some (by kernel_rfl))⟩
  f25 := ⟨Tryz.f333.name, by decide, Tryz.func333.trans (congrArg some (by kernel_rfl))⟩
  f26 := ⟨Tryz.f334.name, by decide, Tryz.func334.trans (congrArg some (by kernel_rfl))⟩
  f27 := ⟨Tryz.f335.name, by decide, Tryz.func335.trans (congrArg some (by kernel_rfl))⟩
  f28 := ⟨Tryz.f336.name, by decide, Tryz.func336.trans (congrArg some (by kernel_rfl))⟩
  f29 := ⟨Tryz.f337.name, by decide, Tryz.func337.trans (congrArg some (by kernel_rfl))⟩
  f31 := Tryz.func341.trans (congrArg some (by kernel_rfl))
  f32 := Tryz.func342.trans (congrArg some (by kernel_rfl))
  f36 := ⟨Tryz.f349.name, by decide, Tryz.func349.trans (congrArg some (by kernel_rfl))⟩
  f37 := ⟨Tryz.f350.name, by decide, Tryz.func350.trans (congrArg some (by kernel_rfl))⟩
  f38 := ⟨Tryz.f351.name, by decide, Tryz.func351.trans (congrArg some (by kernel_rfl))⟩
  f39 := ⟨Tryz.f352.name, by decide, Tryz.func352.trans (congrArg some (by kernel_rfl))⟩
  f41 := ⟨Tryz.f359.name, by decide, Tryz.func359.trans (congrArg some (by kernel_rfl))⟩
  t0 := Tryz.underlying0
  a0 := Tryz.isAgg0
  z0 := Tryz.sizeOf0
  v0 := Tryz.zeroValue0
  t3 := Tryz.underlying3
  a3 := Tryz.isAgg3
  z3 := Tryz.sizeOf3
  v3 := Tryz.zeroValue3
  t4 := Tryz.underlying4
  a4 := Tryz.isAgg4
  z4 := Tryz.sizeOf4
  v4 := Tryz.zeroValue4
  t5 := Tryz.underlying5
  a5 := Tryz.isAgg5
  z5 := Tryz.sizeOf5
  v5 := Tryz.zeroValue5
  t9 := Tryz.underlying9
  a9 := Tryz.isAgg9
  z9 := Tryz.sizeOf9
  v9 := Tryz.zeroValue9
  t26 := Tryz.underlying40
  a26 := Tryz.isAgg40
  z26 := Tryz.sizeOf40
  v26 := Tryz.zeroValue40
  t27 := Tryz.underlying40
  a27 := Tryz.isAgg40
  z27 := Tryz.sizeOf40
  v27 := Tryz.zeroValue40
  t29 := Tryz.underlying9
  a29 := Tryz.isAgg9
  z29 := Tryz.sizeOf9
  v29 := Tryz.zeroValue9
  t32 := Tryz.underlying56
  a32 := Tryz.isAgg56
  z32 := Tryz.sizeOf56
  v32 := Tryz.zeroValue56
  t35 := Tryz.underlying432
  a35 := Tryz.isAgg432
  z35 := Tryz.sizeOf432
  v35 := Tryz.zeroValue432
  t36 := Tryz.underlying433
  a36 := Tryz.isAgg433
  z36 := Tryz.sizeOf433
  v36 := Tryz.zeroValue433
  t41 := Tryz.underlying194
  a41 := Tryz.isAgg194
  z41 := Tryz.sizeOf194
  v41 := Tryz.zeroValue194
  t44 := Tryz.underlying408
  a44 := Tryz.isAgg408
  z44 := Tryz.sizeOf408
  v44 := Tryz.zeroValue408
  t46 := Tryz.underlying387
  a46 := Tryz.isAgg387
  z46 := Tryz.sizeOf387
  v46 := Tryz.zeroValue387
  t53 := Tryz.underlying448
  a53 := Tryz.isAgg448
  z53 := Tryz.sizeOf448
  v53 := Tryz.zeroValue448
  t57 := Tryz.underlying447
  a57 := Tryz.isAgg447
  z57 := Tryz.sizeOf447
  v57 := Tryz.zeroValue447
  t63 := Tryz.underlying461
  a63 := Tryz.isAgg461
  z63 := Tryz.sizeOf461
  v63 := Tryz.zeroValue461
  t64 := Tryz.underlying462
  a64 := Tryz.isAgg462
  z64 := Tryz.sizeOf462
  v64 := Tryz.zeroValue462 }
end Go.Proofs.YtiohpmcedfbcgacGreatDoor
