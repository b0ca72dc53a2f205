/- The kit's library contract SlLaysM.n6 laid at this translation's numbers (written by the kit's lay-plain.mjs, turned by a program of ours). No condition. -/
import Derived.Shelf.SlGeneric
import Derived.Shelf.SortM.Plain
import Derived.Shelf.SortM.SortNone
import Derived.Ground.SlgmProg
import Derived.Test.YtamleilijmgoeaaGreatDoorProg
namespace Go.Proofs.YtamleilijmgoeaaGreatDoor
open Go.Shelf
def laysSortS_ren : Go.Shelf.Ren := ⟨fun | 6 => 278 | 8 => 267 | 9 => 302 | 19 => 298 | 20 => 299 | 21 => 317 | 22 => 318 | 23 => 319 | 24 => 320 | 25 => 321 | 26 => 322 | 27 => 323 | 28 => 324 | 29 => 325 | 36 => 333 | 31 => 311 | 32 => 312 | 37 => 334 | 38 => 335 | 39 => 336 | 41 => 341 | n => n, fun | 27 => 22 | 29 => 9 | 3 => 3 | 32 => 134 | 26 => 22 | 0 => 0 | 44 => 403 | 46 => 397 | 4 => 4 | 36 => 410 | 35 => 409 | 41 => 140 | 5 => 5 | 9 => 9 | 53 => 424 | 57 => 388 | 63 => 436 | 64 => 437 | n => n, fun | n => n⟩
theorem laysSortS : Go.Proofs.SlLaysM.n6 Tryz.prog laysSortS_ren := {
  mixed := by kernel_rfl
  f6 := ⟨Tryz.f278.name, by decide, Tryz.func278.trans (congrArg some (by kernel_rfl))⟩
  f8 := Tryz.func267.trans (congrArg some (by kernel_rfl))
  f9 := ⟨Tryz.f302.name, by decide, Tryz.func302.trans (congrArg some (by kernel_rfl))⟩
  f19 := Tryz.func298.trans (congrArg some (by kernel_rfl))
  f20 := Tryz.func299.trans (congrArg some (by kernel_rfl))
  f21 := ⟨Tryz.f317.name, by decide, Tryz.func317.trans (congrArg some (by kernel_rfl))⟩
  f22 := ⟨Tryz.f318.name, by decide, Tryz.func318.trans (congrArg some (by kernel_rfl))⟩
  f23 := ⟨Tryz.f319.name, by decide, Tryz.func319.trans (congrArg some (by kernel_rfl))⟩
  f24 := ⟨Tryz.f320.name, by decide, Tryz.func320.trans (congrArg some (by kernel_rfl))⟩
  f25 := ⟨Tryz.f321.name, by decide, Tryz.func321.trans (congrArg some (by kernel_rfl))⟩
  f26 := ⟨Tryz.f322.name, by decide, Tryz.func322.trans (congrArg some (by kernel_rfl))⟩
  f27 := ⟨Tryz.f323.name, by decide, Tryz.func323.trans (congrArg some (by kernel_rfl))⟩
  f28 := ⟨Tryz.f324.name, by decide, Tryz.func324.trans (congrArg some (by kernel_rfl))⟩
  f29 := ⟨Tryz.f325.name, by decide, Tryz.func325.trans (congrArg some (by kernel_rfl))⟩
  f31 := Tryz.func311.trans (congrArg some (by kernel_rfl))
  f32 := Tryz.func312.trans (congrArg some (by kernel_rfl))
  f36 := ⟨Tryz.f333.name, by decide, Tryz.func333.trans (congrArg some (by kernel_rfl))⟩
  f37 := ⟨Tryz.f334.name, by decide, Tryz.func334.trans (congrArg some (by kernel_rfl))⟩
  f38 := ⟨Tryz.f335.name, by decide, Tryz.func335.trans (congrArg some (by kernel_rfl))⟩
  f39 := ⟨Tryz.f336.name, by decide, Tryz.func336.trans (congrArg some (by kernel_rfl))⟩
  f41 := ⟨Tryz.f341.name, by decide, Tryz.func341.trans (congrArg some (by kernel_rfl))⟩
  t0 := Tryz.underlying0
  a0 := Tryz.isAgg0
  z0 := Tryz.sizeOf0
  v0 := Tryz.zeroValue0
  t3 := Tryz.underlying3
  a3 := Tryz.isAgg3
  z3 := Tryz.sizeOf3
  v3 := Tryz.zeroValue3
  t4 := Tryz.underlying4
  a4 := Tryz.isAgg4
  z4 := Tryz.sizeOf4
  v4 := Tryz.zeroValue4
  t5 := Tryz.underlying5
  a5 := Tryz.isAgg5
  z5 := Tryz.sizeOf5
  v5 := Tryz.zeroValue5
  t9 := Tryz.underlying9
  a9 := Tryz.isAgg9
  z9 := Tryz.sizeOf9
  v9 := Tryz.zeroValue9
  t26 := Tryz.underlying22
  a26 := Tryz.isAgg22
  z26 := Tryz.sizeOf22
  v26 := Tryz.zeroValue22
  t27 := Tryz.underlying22
  a27 := Tryz.isAgg22
  z27 := Tryz.sizeOf22
  v27 := Tryz.zeroValue22
  t29 := Tryz.underlying9
  a29 := Tryz.isAgg9
  z29 := Tryz.sizeOf9
  v29 := Tryz.zeroValue9
  t32 := Tryz.underlying134
  a32 := Tryz.isAgg134
  z32 := Tryz.sizeOf134
  v32 := Tryz.zeroValue134
  t35 := Tryz.underlying409
  a35 := Tryz.isAgg409
  z35 := Tryz.sizeOf409
  v35 := Tryz.zeroValue409
  t36 := Tryz.underlying410
  a36 := Tryz.isAgg410
  z36 := Tryz.sizeOf410
  v36 := Tryz.zeroValue410
  t41 := Tryz.underlying140
  a41 := Tryz.isAgg140
  z41 := Tryz.sizeOf140
  v41 := Tryz.zeroValue140
  t44 := Tryz.underlying403
  a44 := Tryz.isAgg403
  z44 := Tryz.sizeOf403
  v44 := Tryz.zeroValue403
  t46 := Tryz.underlying397
  a46 := Tryz.isAgg397
  z46 := Tryz.sizeOf397
  v46 := Tryz.zeroValue397
  t53 := Tryz.underlying424
  a53 := Tryz.isAgg424
  z53 := Tryz.sizeOf424
  v53 := Tryz.zeroValue424
  t57 := Tryz.underlying388
  a57 := Tryz.isAgg388
  z57 := Tryz.sizeOf388
  v57 := Tryz.zeroValue388
  t63 := Tryz.underlying436
  a63 := Tryz.isAgg436
  z63 := Tryz.sizeOf436
  v63 := Tryz.zeroValue436
  t64 := Tryz.underlying437
  a64 := Tryz.isAgg437
  z64 := Tryz.sizeOf437
  v64 := Tryz.zeroValue437 }
end Go.Proofs.YtamleilijmgoeaaGreatDoor
