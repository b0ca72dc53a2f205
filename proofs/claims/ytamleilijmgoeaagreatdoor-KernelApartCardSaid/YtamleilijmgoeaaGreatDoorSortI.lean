/- The kit's library contract SlLaysM.n5 laid at this translation's numbers (written by the kit's lay-plain.mjs, turned by a program of ours). No condition. -/
import Derived.Shelf.SlGeneric
import Derived.Shelf.SortM.Plain
import Derived.Shelf.SortM.SortNone
import Derived.Ground.SlgmProg
import Derived.Test.YtamleilijmgoeaaGreatDoorProg
namespace Go.Proofs.YtamleilijmgoeaaGreatDoor
open Go.Shelf
def laysSortI_ren : Go.Shelf.Ren := ⟨fun | 5 => 227 | 8 => 267 | 7 => 266 | 19 => 298 | 20 => 299 | 10 => 289 | 11 => 290 | 12 => 291 | 13 => 292 | 14 => 293 | 15 => 294 | 16 => 295 | 17 => 296 | 18 => 297 | 30 => 310 | 31 => 311 | 32 => 312 | 33 => 313 | 34 => 314 | 35 => 241 | 40 => 329 | n => n, fun | 23 => 23 | 25 => 3 | 3 => 3 | 32 => 134 | 22 => 23 | 0 => 0 | 44 => 403 | 46 => 397 | 4 => 4 | 36 => 410 | 35 => 409 | 41 => 140 | 5 => 5 | 9 => 9 | 53 => 424 | 57 => 388 | 63 => 436 | 64 => 437 | n => n, fun | n => n⟩
theorem laysSortI : Go.Proofs.SlLaysM.n5 Tryz.prog laysSortI_ren := {
  mixed := by kernel_rfl
  f5 := ⟨Tryz.f227.name, by decide, Tryz.func227.trans (congrArg some (by kernel_rfl))⟩
  f7 := ⟨Tryz.f266.name, by decide, Tryz.func266.trans (congrArg some (by kernel_rfl))⟩
  f8 := Tryz.func267.trans (congrArg some (by kernel_rfl))
  f10 := ⟨Tryz.f289.name, by decide, Tryz.func289.trans (congrArg some (by kernel_rfl))⟩
  f11 := ⟨Tryz.f290.name, by decide, Tryz.func290.trans (congrArg some (by kernel_rfl))⟩
  f12 := ⟨Tryz.f291.name, by decide, Tryz.func291.trans (congrArg some (by kernel_rfl))⟩
  f13 := ⟨Tryz.f292.name, by decide, Tryz.func292.trans (congrArg some (by kernel_rfl))⟩
  f14 := ⟨Tryz.f293.name, by decide, Tryz.func293.trans (congrArg some (by kernel_rfl))⟩
  f15 := ⟨Tryz.f294.name, by decide, Tryz.func294.trans (congrArg some (by kernel_rfl))⟩
  f16 := ⟨Tryz.f295.name, by decide, Tryz.func295.trans (congrArg some (by kernel_rfl))⟩
  f17 := ⟨Tryz.f296.name, by decide, Tryz.func296.trans (congrArg some (by kernel_rfl))⟩
  f18 := ⟨Tryz.f297.name, by decide, Tryz.func297.trans (congrArg some (by kernel_rfl))⟩
  f19 := Tryz.func298.trans (congrArg some (by kernel_rfl))
  f20 := Tryz.func299.trans (congrArg some (by kernel_rfl))
  f30 := ⟨Tryz.f310.name, by decide, Tryz.func310.trans (congrArg some (by kernel_rfl))⟩
  f31 := Tryz.func311.trans (congrArg some (by kernel_rfl))
  f32 := Tryz.func312.trans (congrArg some (by kernel_rfl))
  f33 := ⟨Tryz.f313.name, by decide, Tryz.func313.trans (congrArg some (by kernel_rfl))⟩
  f34 := ⟨Tryz.f314.name, by decide, Tryz.func314.trans (congrArg some (by kernel_rfl))⟩
  f35 := ⟨Tryz.f241.name, by decide, Tryz.func241.trans (congrArg some (by kernel_rfl))⟩
  f40 := ⟨Tryz.f329.name, by decide, Tryz.func329.trans (congrArg some (by kernel_rfl))⟩
  t0 := Tryz.underlying0
  a0 := Tryz.isAgg0
  z0 := Tryz.sizeOf0
  v0 := Tryz.zeroValue0
  t3 := Tryz.underlying3
  a3 := Tryz.isAgg3
  z3 := Tryz.sizeOf3
  v3 := Tryz.zeroValue3
  t4 := Tryz.underlying4
  a4 := Tryz.isAgg4
  z4 := Tryz.sizeOf4
  v4 := Tryz.zeroValue4
  t5 := Tryz.underlying5
  a5 := Tryz.isAgg5
  z5 := Tryz.sizeOf5
  v5 := Tryz.zeroValue5
  t9 := Tryz.underlying9
  a9 := Tryz.isAgg9
  z9 := Tryz.sizeOf9
  v9 := Tryz.zeroValue9
  t22 := Tryz.underlying23
  a22 := Tryz.isAgg23
  z22 := Tryz.sizeOf23
  v22 := Tryz.zeroValue23
  t23 := Tryz.underlying23
  a23 := Tryz.isAgg23
  z23 := Tryz.sizeOf23
  v23 := Tryz.zeroValue23
  t25 := Tryz.underlying3
  a25 := Tryz.isAgg3
  z25 := Tryz.sizeOf3
  v25 := Tryz.zeroValue3
  t32 := Tryz.underlying134
  a32 := Tryz.isAgg134
  z32 := Tryz.sizeOf134
  v32 := Tryz.zeroValue134
  t35 := Tryz.underlying409
  a35 := Tryz.isAgg409
  z35 := Tryz.sizeOf409
  v35 := Tryz.zeroValue409
  t36 := Tryz.underlying410
  a36 := Tryz.isAgg410
  z36 := Tryz.sizeOf410
  v36 := Tryz.zeroValue410
  t41 := Tryz.underlying140
  a41 := Tryz.isAgg140
  z41 := Tryz.sizeOf140
  v41 := Tryz.zeroValue140
  t44 := Tryz.underlying403
  a44 := Tryz.isAgg403
  z44 := Tryz.sizeOf403
  v44 := Tryz.zeroValue403
  t46 := Tryz.underlying397
  a46 := Tryz.isAgg397
  z46 := Tryz.sizeOf397
  v46 := Tryz.zeroValue397
  t53 := Tryz.underlying424
  a53 := Tryz.isAgg424
  z53 := Tryz.sizeOf424
  v53 := Tryz.zeroValue424
  t57 := Tryz.underlying388
  a57 := Tryz.isAgg388
  z57 := Tryz.sizeOf388
  v57 := Tryz.zeroValue388
  t63 := Tryz.underlying436
  a63 := Tryz.isAgg436
  z63 := Tryz.sizeOf436
  v63 := Tryz.zeroValue436
  t64 := Tryz.underlying437
  a64 := Tryz.isAgg437
  z64 := Tryz.sizeOf437
  v64 := Tryz.zeroValue437 }
end Go.Proofs.YtamleilijmgoeaaGreatDoor
