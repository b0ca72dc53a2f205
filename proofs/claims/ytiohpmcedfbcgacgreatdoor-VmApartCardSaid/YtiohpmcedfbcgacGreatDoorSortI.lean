/- The kit's library contract SlLaysM.n5 laid at this translation's numbers (written by the kit's lay-plain.mjs, turned by a program of ours). No condition. -/
import Derived.Shelf.SlGeneric
import Derived.Shelf.SortM.Plain
import Derived.Shelf.SortM.SortNone
import Derived.Ground.SlgmProg
import Derived.Test.YtiohpmcedfbcgacGreatDoorProg
namespace Go.Proofs.YtiohpmcedfbcgacGreatDoor
open Go.Shelf
def laysSortI_ren : Go.Shelf.Ren := ⟨fun | 5 => 202 | 8 => 286 | 7 => 285 | 19 => 324 | 20 => 311 | 10 => 315 | 11 => 316 | 12 => 317 | 13 => 318 | 14 => 319 | 15 => 320 | 16 => 321 | 17 => 322 | 18 => 323 | 30 => 340 | 31 => 341 | 32 => 342 | 33 => 343 | 34 => 344 | 35 => 302 | 40 => 353 | n => n, fun | 23 => 65 | 25 => 3 | 3 => 3 | 32 => 56 | 22 => 65 | 0 => 0 | 44 => 408 | 46 => 387 | 4 => 4 | 36 => 433 | 35 => 432 | 41 => 194 | 5 => 5 | 9 => 9 | 53 => 448 | 57 => 447 | 63 => 461 | 64 => 462 | n => n, fun | n => n⟩
theorem laysSortI : Go.Proofs.SlLaysM.n5 Tryz.prog laysSortI_ren := {
  mixed := by kernel_rfl
  f5 := ⟨Tryz.f202.name, by decide, Tryz.func202.trans (congrArg some (by kernel_rfl))⟩
  f7 := ⟨Tryz.f285.name, by decide, Tryz.func285.trans (congrArg some (by kernel_rfl))⟩
  f8 := Tryz.func286.trans (congrArg some (by kernel_rfl))
  f10 := ⟨Tryz.f315.name, by decide, Tryz.func315.trans (congrArg some (by kernel_rfl))⟩
  f11 := ⟨Tryz.f316.name, by decide, Tryz.func316.trans (congrArg some (by kernel_rfl))⟩
  f12 := ⟨Tryz.f317.name, by decide, Tryz.func317.trans (congrArg some (by kernel_rfl))⟩
  f13 := ⟨Tryz.f318.name, by decide, Tryz.func318.trans (congrArg some (by kernel_rfl))⟩
  f14 := ⟨Tryz.f319.name, by decide, Tryz.func319.trans (congrArg some (by kernel_rfl))⟩
  f15 := ⟨Tryz.f320.name, by decide, Tryz.func320.trans (congrArg some (by kernel_rfl))⟩
  f16 := ⟨Tryz.f321.name, by decide, Tryz.func321.trans (congrArg some (by kernel_rfl))⟩
  f17 := ⟨Tryz.f322.name, by decide, Tryz.func322.trans (congrArg some (by kernel_rfl))⟩
  f18 := ⟨Tryz.f323.name, by decide, Tryz.func323.trans (congrArg some (by kernel_rfl))⟩
  f19 := Tryz.func324.trans (congrArg some (by kernel_rfl))
  f20 := Tryz.func311.trans (congrArg some (by kernel_rfl))
  f30 := ⟨Tryz.f340.name, by decide, Tryz.func340.trans (congrArg some (by kernel_rfl))⟩
  f31 := Tryz.func341.trans (congrArg some (by kernel_rfl))
  f32 := Tryz.func342.trans (congrArg some (by kernel_rfl))
  f33 := ⟨Tryz.f343.name, by decide, Tryz.func343.trans (congrArg some (by kernel_rfl))⟩
  f34 := ⟨Tryz.f344.name, by decide, Tryz.func344.trans (congrArg some (by kernel_rfl))⟩
  f35 := ⟨Tryz.f302.name, by decide, Tryz.func302.trans (congrArg some (by kernel_rfl))⟩
  f40 := ⟨Tryz.f353.name, by decide, Tryz.func353.trans (congrArg some (by kernel_rfl))⟩
  t0 := Tryz.underlying0
  a0 := Tryz.isAgg0
  z0 := Tryz.sizeOf0
  v0 := Tryz.zeroValue0
  t3 := Tryz.underlying3
  a3 := Tryz.isAgg3
  z3 := Tryz.sizeOf3
  v3 := Tryz.zeroValue3
  t4 := Tryz.underlying4
  a4 := Tryz.isAgg4
  z4 := Tryz.sizeOf4
  v4 := Tryz.zeroValue4
  t5 := Tryz.underlying5
  a5 := Tryz.isAgg5
  z5 := Tryz.sizeOf5
  v5 := Tryz.zeroValue5
  t9 := Tryz.underlying9
  a9 := Tryz.isAgg9
  z9 := Tryz.sizeOf9
  v9 := Tryz.zeroValue9
  t22 := Tryz.underlying65
  a22 := Tryz.isAgg65
  z22 := Tryz.sizeOf65
  v22 := Tryz.zeroValue65
  t23 := Tryz.underlying65
  a23 := Tryz.isAgg65
  z23 := Tryz.sizeOf65
  v23 := Tryz.zeroValue65
  t25 := Tryz.underlying3
  a25 := Tryz.isAgg3
  z25 := Tryz.sizeOf3
  v25 := Tryz.zeroValue3
  t32 := Tryz.underlying56
  a32 := Tryz.isAgg56
  z32 := Tryz.sizeOf56
  v32 := Tryz.zeroValue56
  t35 := Tryz.underlying432
  a35 := Tryz.isAgg432
  z35 := Tryz.sizeOf432
  v35 := Tryz.zeroValue432
  t36 := Tryz.underlying433
  a36 := Tryz.isAgg433
  z36 := Tryz.sizeOf433
  v36 := Tryz.zeroValue433
  t41 := Tryz.underlying194
  a41 := Tryz.isAgg194
  z41 := Tryz.sizeOf194
  v41 := Tryz.zeroValue194
  t44 := Tryz.underlying408
  a44 := Tryz.isAgg408
  z44 := Tryz.sizeOf408
  v44 := Tryz.zeroValue408
  t46 := Tryz.underlying387
  a46 := Tryz.isAgg387
  z46 := Tryz.sizeOf387
  v46 := Tryz.zeroValue387
  t53 := Tryz.underlying448
  a53 := Tryz.isAgg448
  z53 := Tryz.sizeOf448
  v53 := Tryz.zeroValue448
  t57 := Tryz.underlying447
  a57 := Tryz.isAgg447
  z57 := Tryz.sizeOf447
  v57 := Tryz.zeroValue447
  t63 := Tryz.underlying461
  a63 := Tryz.isAgg461
  z63 := Tryz.sizeOf461
  v63 := Tryz.zeroValue461
  t64 := Tryz.underlying462
  a64 := Tryz.isAgg462
  z64 := Tryz.sizeOf462
  v64 := Tryz.zeroValue462 }
end Go.Proofs.YtiohpmcedfbcgacGreatDoor
