/- BY PROGRAM (wip/tool/shake.py): own texts, one behind the other, without what is not needed. -/
import Derived.Control
import Derived.Calls
import Derived.KernelRfl
import Derived.Laws.Sem
import Derived.Laws.Cells
import Derived.Laws.World
import GoSem.Dispatch
import Derived.Laws.StructEq
import Derived.IntWalk
import Derived.WideKeyRuns
import Derived.Laws.BytesArg
import Derived.Orders
import Derived.ChangeArms
import Derived.OpenShut
import Derived.ChangeShapes
import Derived.ProofKit
import Derived.Test.YtlkfclgkinaibaaGreatProg
import Derived.Shelf.SlIterI.Nil
import Derived.Shelf.SortM.Plain
import Derived.Shelf.SortM.SortNone
import Derived.Test.YtlkfclgkinaibaaGreatChecked
import Derived.Test.YtlkfclgkinaibaaGreatZLST8

namespace Go.Proofs.YtlkfclgkinaibaaGreat
def layK_ren : Go.Shelf.Ren := ⟨fun | 7 => 238 | 10 => 312 | n => n, fun | 23 => 67 | 26 => 3 | 3 => 71 | 28 => 90 | 0 => 0 | 27 => 89 | 33 => 116 | 4 => 4 | n => n, fun | n => n⟩
theorem layK : Go.Proofs.SlLaysZI.n7 Tryz.prog layK_ren := {
  mixed := by kernel_rfl
  f7 := ⟨Tryz.f238.name, by decide, Tryz.func238.trans (congrArg some (by kernel_rfl))⟩
  f10 := ⟨Tryz.f312.name, by decide, Tryz.func312.trans (congrArg some (by kernel_rfl))⟩
  t0 := Tryz.underlying0
  a0 := Tryz.isAgg0
  z0 := Tryz.sizeOf0
  v0 := Tryz.zeroValue0
  t4 := Tryz.underlying4
  a4 := Tryz.isAgg4
  z4 := Tryz.sizeOf4
  v4 := Tryz.zeroValue4
  t23 := Tryz.underlying67
  a23 := Tryz.isAgg67
  z23 := Tryz.sizeOf67
  v23 := Tryz.zeroValue67
  t26 := Tryz.underlying3
  a26 := Tryz.isAgg3
  z26 := Tryz.sizeOf3
  v26 := Tryz.zeroValue3
  t27 := Tryz.underlying89
  a27 := Tryz.isAgg89
  z27 := Tryz.sizeOf89
  v27 := Tryz.zeroValue89
  t28 := Tryz.underlying90
  a28 := Tryz.isAgg90
  z28 := Tryz.sizeOf90
  v28 := Tryz.zeroValue90
  t33 := Tryz.underlying116
  a33 := Tryz.isAgg116
  z33 := Tryz.sizeOf116
  v33 := Tryz.zeroValue116 }
def layL_ren : Go.Shelf.Ren := ⟨fun | 7 => 52 | 10 => 120 | n => n, fun | 23 => 83 | 26 => 3 | 3 => 3 | 28 => 90 | 0 => 0 | 27 => 89 | 33 => 116 | 4 => 4 | n => n, fun | n => n⟩
theorem layL : Go.Proofs.SlLaysZI.n7 Tryz.prog layL_ren := {
  mixed := by kernel_rfl
  f7 := ⟨Tryz.f52.name, by decide, Tryz.func52.trans (congrArg some (by kernel_rfl))⟩
  f10 := ⟨Tryz.f120.name, by decide, Tryz.func120.trans (congrArg some (by kernel_rfl))⟩
  t0 := Tryz.underlying0
  a0 := Tryz.isAgg0
  z0 := Tryz.sizeOf0
  v0 := Tryz.zeroValue0
  t4 := Tryz.underlying4
  a4 := Tryz.isAgg4
  z4 := Tryz.sizeOf4
  v4 := Tryz.zeroValue4
  t23 := Tryz.underlying83
  a23 := Tryz.isAgg83
  z23 := Tryz.sizeOf83
  v23 := Tryz.zeroValue83
  t26 := Tryz.underlying3
  a26 := Tryz.isAgg3
  z26 := Tryz.sizeOf3
  v26 := Tryz.zeroValue3
  t27 := Tryz.underlying89
  a27 := Tryz.isAgg89
  z27 := Tryz.sizeOf89
  v27 := Tryz.zeroValue89
  t28 := Tryz.underlying90
  a28 := Tryz.isAgg90
  z28 := Tryz.sizeOf90
  v28 := Tryz.zeroValue90
  t33 := Tryz.underlying116
  a33 := Tryz.isAgg116
  z33 := Tryz.sizeOf116
  v33 := Tryz.zeroValue116 }
def layS_ren : Go.Shelf.Ren := ⟨fun | 6 => 51 | 8 => 118 | 9 => 119 | 11 => 221 | 13 => 223 | 12 => 222 | 23 => 306 | 24 => 307 | 14 => 297 | 15 => 298 | 16 => 299 | 17 => 300 | 18 => 301 | 19 => 302 | 20 => 303 | 21 => 304 | 22 => 305 | 25 => 349 | 26 => 350 | 27 => 351 | 28 => 352 | 29 => 353 | 30 => 354 | 31 => 361 | n => n, fun | 26 => 3 | 28 => 90 | 24 => 34 | 0 => 0 | 3 => 3 | 37 => 22 | 48 => 348 | 50 => 300 | 4 => 4 | 40 => 342 | 39 => 341 | 45 => 87 | 5 => 5 | 9 => 9 | 51 => 376 | 55 => 276 | 57 => 386 | 58 => 362 | 33 => 116 | n => n, fun | n => n⟩
theorem layS : Go.Proofs.SlLaysZI.n6 Tryz.prog layS_ren := {
  mixed := by kernel_rfl
  f6 := ⟨Tryz.f51.name, by decide, Tryz.func51.trans (congrArg some (by kernel_rfl))⟩
  f8 := ⟨Tryz.f118.name, by decide, Tryz.func118.trans (congrArg some (by kernel_rfl))⟩
  f11 := ⟨Tryz.f221.name, by decide, Tryz.func221.trans (congrArg some (by kernel_rfl))⟩
  t0 := Tryz.underlying0
  a0 := Tryz.isAgg0
  z0 := Tryz.sizeOf0
  v0 := Tryz.zeroValue0
  t24 := Tryz.underlying34
  a24 := Tryz.isAgg34
  z24 := Tryz.sizeOf34
  v24 := Tryz.zeroValue34
  t26 := Tryz.underlying3
  a26 := Tryz.isAgg3
  z26 := Tryz.sizeOf3
  v26 := Tryz.zeroValue3
  t28 := Tryz.underlying90
  a28 := Tryz.isAgg90
  z28 := Tryz.sizeOf90
  v28 := Tryz.zeroValue90
  i26 := by kernel_rfl }
def layO_ren : Go.Shelf.Ren := ⟨fun | 5 => 119 | 8 => 223 | 7 => 222 | 19 => 306 | 20 => 307 | 10 => 297 | 11 => 298 | 12 => 299 | 13 => 300 | 14 => 301 | 15 => 302 | 16 => 303 | 17 => 304 | 18 => 305 | 30 => 349 | 31 => 350 | 32 => 351 | 33 => 352 | 34 => 353 | 35 => 354 | 40 => 361 | n => n, fun | 23 => 34 | 25 => 3 | 3 => 3 | 32 => 22 | 22 => 34 | 0 => 0 | 44 => 348 | 46 => 300 | 4 => 4 | 36 => 342 | 35 => 341 | 41 => 87 | 5 => 5 | 9 => 9 | 53 => 376 | 57 => 276 | 63 => 386 | 64 => 362 | n => n, fun | n => n⟩
theorem layO : Go.Proofs.SlLaysM.n5 Tryz.prog layO_ren := {
  mixed := by kernel_rfl
  f5 := ⟨Tryz.f119.name, by decide, Tryz.func119.trans (congrArg some (by kernel_rfl))⟩
  f7 := ⟨Tryz.f222.name, by decide, Tryz.func222.trans (congrArg some (by kernel_rfl))⟩
  f8 := Tryz.func223.trans (congrArg some (by kernel_rfl))
  f10 := ⟨Tryz.f297.name, by decide, Tryz.func297.trans (congrArg some (by kernel_rfl))⟩
  f11 := ⟨Tryz.f298.name, by decide, Tryz.func298.trans (congrArg some (by kernel_rfl))⟩
  f12 := ⟨Tryz.f299.name, by decide, Tryz.func299.trans (congrArg some (by kernel_rfl))⟩
  f13 := ⟨Tryz.f300.name, by decide, Tryz.func300.trans (congrArg some (by kernel_rfl))⟩
  f14 := ⟨Tryz.f301.name, by decide, Tryz.func301.trans (congrArg some (by kernel_rfl))⟩
  f15 := ⟨Tryz.f302.name, by decide, Tryz.func302.trans (congrArg some (by kernel_rfl))⟩
  f16 := ⟨Tryz.f303.name, by decide, Tryz.func303.trans (congrArg some (by kernel_rfl))⟩
  f17 := ⟨Tryz.f304.name, by decide, Tryz.func304.trans (congrArg some (by kernel_rfl))⟩
  f18 := ⟨Tryz.f305.name, by decide, Tryz.func305.trans (congrArg some (by kernel_rfl))⟩
  f19 := Tryz.func306.trans (congrArg some (by kernel_rfl))
  f20 := Tryz.func307.trans (congrArg some (by kernel_rfl))
  f30 := ⟨Tryz.f349.name, by decide, Tryz.func349.trans (congrArg some (by kernel_rfl))⟩
  f31 := Tryz.func350.trans (congrArg some (by kernel_rfl))
  f32 := Tryz.func351.trans (congrArg some (by kernel_rfl))
  f33 := ⟨Tryz.f352.name, by decide, Tryz.func352.trans (congrArg some (by kernel_rfl))⟩
  f34 := ⟨Tryz.f353.name, by decide, Tryz.func353.trans (congrArg some (by kernel_rfl))⟩
  f35 := ⟨Tryz.f354.name, by decide, Tryz.func354.trans (congrArg some (by kernel_rfl))⟩
  f40 := ⟨Tryz.f361.name, by decide, Tryz.func361.trans (congrArg some (by kernel_rfl))⟩
  t0 := Tryz.underlying0
  a0 := Tryz.isAgg0
  z0 := Tryz.sizeOf0
  v0 := Tryz.zeroValue0
  t3 := Tryz.underlying3
  a3 := Tryz.isAgg3
  z3 := Tryz.sizeOf3
  v3 := Tryz.zeroValue3
  t4 := Tryz.underlying4
  a4 := Tryz.isAgg4
  z4 := Tryz.sizeOf4
  v4 := Tryz.zeroValue4
  t5 := Tryz.underlying5
  a5 := Tryz.isAgg5
  z5 := Tryz.sizeOf5
  v5 := Tryz.zeroValue5
  t9 := Tryz.underlying9
  a9 := Tryz.isAgg9
  z9 := Tryz.sizeOf9
  v9 := Tryz.zeroValue9
  t22 := Tryz.underlying34
  a22 := Tryz.isAgg34
  z22 := Tryz.sizeOf34
  v22 := Tryz.zeroValue34
  t23 := Tryz.underlying34
  a23 := Tryz.isAgg34
  z23 := Tryz.sizeOf34
  v23 := Tryz.zeroValue34
  t25 := Tryz.underlying3
  a25 := Tryz.isAgg3
  z25 := Tryz.sizeOf3
  v25 := Tryz.zeroValue3
  t32 := Tryz.underlying22
  a32 := Tryz.isAgg22
  z32 := Tryz.sizeOf22
  v32 := Tryz.zeroValue22
  t35 := Tryz.underlying341
  a35 := Tryz.isAgg341
  z35 := Tryz.sizeOf341
  v35 := Tryz.zeroValue341
  t36 := Tryz.underlying342
  a36 := Tryz.isAgg342
  z36 := Tryz.sizeOf342
  v36 := Tryz.zeroValue342
  t41 := Tryz.underlying87
  a41 := Tryz.isAgg87
  z41 := Tryz.sizeOf87
  v41 := Tryz.zeroValue87
  t44 := Tryz.underlying348
  a44 := Tryz.isAgg348
  z44 := Tryz.sizeOf348
  v44 := Tryz.zeroValue348
  t46 := Tryz.underlying300
  a46 := Tryz.isAgg300
  z46 := Tryz.sizeOf300
  v46 := Tryz.zeroValue300
  t53 := Tryz.underlying376
  a53 := Tryz.isAgg376
  z53 := Tryz.sizeOf376
  v53 := Tryz.zeroValue376
  t57 := Tryz.underlying276
  a57 := Tryz.isAgg276
  z57 := Tryz.sizeOf276
  v57 := Tryz.zeroValue276
  t63 := Tryz.underlying386
  a63 := Tryz.isAgg386
  z63 := Tryz.sizeOf386
  v63 := Tryz.zeroValue386
  t64 := Tryz.underlying362
  a64 := Tryz.isAgg362
  z64 := Tryz.sizeOf362
  v64 := Tryz.zeroValue362 }
end Go.Proofs.YtlkfclgkinaibaaGreat
