/- BY PROGRAM (wip/tool/shake.py): own texts, one behind the other, without what is not needed. -/
import Derived.Control
import Derived.Calls
import Derived.KernelRfl
import Derived.Laws.Sem
import Derived.Laws.Cells
import Derived.Laws.World
import GoSem.Dispatch
import Derived.Laws.StructEq
import Derived.IntWalk
import Derived.WideKeyRuns
import Derived.Laws.BytesArg
import Derived.Orders
import Derived.ChangeArms
import Derived.OpenShut
import Derived.ChangeShapes
import Derived.ProofKit
import Derived.Test.YtlkfclgkinaibaaGreatProg
import Derived.Test.YtlkfclgkinaibaaGreatZKDT4

namespace Go.Proofs.YtlkfclgkinaibaaGreat
abbrev n_kern_Kernel_stow : Nat := 111
def c_kern_Kernel_stow_L0 : ACode :=
 .block 1 (.seq (.region [I 10 (.mv) [T 0],
   I 11 (.nilCheck) [T 10],
   I 12 (.fieldAddr 3) [T 11],
   I 13 (.load1) [T 12],
   I 14 (.callv) [F 211, T 13],
   I 9 (.mv) [T 14],
   I 15 (.extract 0) [T 9],
   I 16 (.extract 1) [T 9],
   I 7 (.mv) [T 15],
   I 8 (.mv) [T 16]])
 (.seq (.seq (.region [I 17 (.mv) [T 8],
   I 18 (.un .not) [T 17]])
 (.cond (T 18)
 (.seq (.region [I 19 (.mv) [T 6],
    I 4 (.mv) [N (-1)],
    I 5 (.mv) [T 19]])
  (.ret))
 (.skip)))
 (.seq (.seq (.draw [[⟨0, I 20 (.mv) [T 0], [], false⟩,
   ⟨1, I 21 (.nilCheck) [T 20], [], false⟩,
   ⟨2, I 22 (.fieldAddr 2) [T 21], [], false⟩,
   ⟨3, I 23 (.load1) [T 22], [], false⟩,
   ⟨4, I 24 (.mv) [T 7], [], false⟩,
   ⟨5, I 25 (.mv) [T 0], [], false⟩,
   ⟨6, I 26 (.nilCheck) [T 25], [], false⟩,
   ⟨7, I 27 (.fieldAddr 0) [T 26], [], false⟩,
   ⟨8, I 28 (.load1) [T 27], [], false⟩,
   ⟨9, I 29 (.mv) [T 1], [], false⟩,
   ⟨10, I 30 (.callv) [F 108, T 28, T 29], [(3, I 23 (.load1) [T 22])], false⟩,
   ⟨11, I 31 (.callv) [F 212, T 23, T 24, T 30], [], false⟩,
   ⟨12, I 6 (.mv) [T 31], [], false⟩]])
 (.seq (.region [I 32 (.mv) [T 6],
   I 33 (.bin .eql) [T 32, N 0]])
 (.cond (T 33)
 (.seq (.region [I 34 (.mv) [T 7],
    I 4 (.mv) [T 34],
    I 5 (.mv) [N 0]])
  (.ret))
 (.skip))))
 (.region [I 35 (.mv) [T 0],
   I 36 (.nilCheck) [T 35],
   I 37 (.fieldAddr 3) [T 36],
   I 38 (.load1) [T 37],
   I 39 (.mv) [T 7],
   I 40 (.callv) [F 213, T 38, T 39]]))))
def c_kern_Kernel_stow : AFn := ⟨41, [.tmp 4, .tmp 5],
 .seq (.region [I 4 (.mv) [N 0],
   I 5 (.mv) [N 0]])
 (.seq (.region [I 6 (.mv) [N 5]])
 (.block 0 (.loop c_kern_Kernel_stow_L0)))⟩
theorem t111 : trFn Tryz.prog Tryz.f111 = some c_kern_Kernel_stow := by kernel_rfl
abbrev n_anon_Pool_Put : Nat := 113
def c_anon_Pool_Put : AFn := ⟨19, [.tmp 8],
 .seq (.region [I 6 (.box 3 1) [T 2],
   I 7 (.box 3 1) [T 3],
   I 8 (.mv) [N 0]])
 (.seq (.region [I 12 (.mv) [T 0],
   I 13 (.mv) [T 1],
   I 14 (.mkfunc 216 0) [T 6, T 7],
   I 15 (.callv) [F 215, T 12, T 13, T 14],
   I 11 (.mv) [T 15],
   I 16 (.extract 0) [T 11],
   I 17 (.extract 1) [T 11],
   I 9 (.alloc 103 3 (.vals [(.int .i64 0), (.int .i64 0), (.int .i64 0)])) [],
   J (.store 3) [T 9, T 16],
   I 10 (.mv) [T 17]])
 (.seq (.region [I 18 (.mv) [T 10],
   I 8 (.mv) [T 18]])
 (.ret)))⟩
theorem t113 : trFn Tryz.prog Tryz.f113 = some c_anon_Pool_Put := by kernel_rfl
abbrev n_kern_Kernel_alone : Nat := 116
def c_kern_Kernel_alone_A1 : ACode :=
 .seq (.region [I 8 (.mv) [T 30]])
 (.region [I 9 (.alloc 204 2 (.vals [(.int .i64 0), (.int .i64 0)])) [],
   J (.store 2) [T 9, T 31]])
def c_kern_Kernel_alone_B1 : ACode :=
 .block 3 (.seq (.region [I 32 (.fieldAddr 1) [T 9],
   I 33 (.load1) [T 32],
   I 34 (.load1) [T 3],
   I 35 (.bin .eql) [T 33, T 34]])
 (.cond (T 35)
 (.region [I 36 (.load1) [T 7],
    I 37 (.mv) [T 8],
    I 38 (.bslice 3 1 1 (.vals [(.int .i64 0)]) [0]) [T 37],
    I 39 (.append 3 1 8 (.vals [(.int .i64 0)])) [T 36, T 38],
    J (.store 1) [T 7, T 39]])
 (.skip)))
def c_kern_Kernel_alone_L2 : ACode :=
 .seq (.region [I 43 (.bin .lss) [T 42, T 41]])
 (.seq (.cond (T 43)
 (.skip)
 (.exit 4))
 (.seq (.block 5 (.seq (.region [I 44 (.indexs 1) [T 40, T 42],
   I 45 (.load1) [T 44],
   I 11 (.mv) [T 45]])
 (.region [I 46 (.mv) [T 0],
   I 47 (.mv) [T 6],
   I 48 (.mv) [T 11],
   I 49 (.callv) [F 200, T 46, T 47, T 48]])))
 (.region [I 50 (.bin .add) [T 42, N 1],
   I 42 (.mv) [T 50]])))
def c_kern_Kernel_alone_L0 : ACode :=
 .seq (.region [I 16 (.bin .lss) [T 15, T 14]])
 (.seq (.cond (T 16)
 (.skip)
 (.exit 0))
 (.seq (.block 1 (.seq (.region [I 17 (.indexs 1) [T 13, T 15],
   I 18 (.load1) [T 17],
   I 5 (.mv) [T 18]])
 (.seq (.region [I 19 (.mv) [T 0],
   I 20 (.nilCheck) [T 19],
   I 21 (.fieldAddr 9) [T 20],
   I 22 (.load1) [T 21],
   I 23 (.mv) [T 5],
   I 24 (.lookup (.scal .int) .nilptr false) [T 22, T 23],
   I 6 (.mv) [T 24]])
 (.seq (.region [I 7 (.alloc 34 1 (.vals [.nilsl])) []])
 (.seq (.seq (.region [I 25 (.mv) [T 6],
   I 26 (.nilCheck) [T 25],
   I 27 (.fieldAddr 2) [T 26],
   I 28 (.load1) [T 27],
   I 29 (.callv) [F 141, T 28]])
 (.block 2 (.rfun (T 29) [30, 31] c_kern_Kernel_alone_A1 c_kern_Kernel_alone_B1)))
 (.seq (.region [I 40 (.load1) [T 7],
   I 41 (.lens) [T 40],
   I 42 (.mv) [N 0]])
 (.block 4 (.loop c_kern_Kernel_alone_L2))))))))
 (.region [I 51 (.bin .add) [T 15, N 1],
   I 15 (.mv) [T 51]])))
def c_kern_Kernel_alone : AFn := ⟨52, [],
 .seq (.region [I 3 (.box 3 1) [T 1]])
 (.seq (.region [I 12 (.mv) [T 0],
   I 13 (.callv) [F 140, T 12],
   I 14 (.lens) [T 13],
   I 15 (.mv) [N 0]])
 (.block 0 (.loop c_kern_Kernel_alone_L0)))⟩
theorem t116 : trFn Tryz.prog Tryz.f116 = some c_kern_Kernel_alone := by kernel_rfl
abbrev n_frames_Pool_Give : Nat := 117
def c_frames_Pool_Give : AFn := ⟨8, [.tmp 4],
 .seq (.region [I 4 (.mv) [N 0]])
 (.seq (.region [I 5 (.mv) [T 0],
   I 6 (.mv) [T 1],
   I 7 (.callv) [F 217, T 5, T 6, F 220],
   I 4 (.mv) [T 7]])
 (.ret))⟩
theorem t117 : trFn Tryz.prog Tryz.f117 = some c_frames_Pool_Give := by kernel_rfl
abbrev n_slices_Collect_int : Nat := 118
def c_slices_Collect_int : AFn := ⟨5, [.tmp 2],
 .seq (.region [I 2 (.mv) [.lit .nilsl]])
 (.seq (.region [I 3 (.mv) [T 0],
   I 4 (.callv) [F 221, .lit .nilsl, T 3],
   I 2 (.mv) [T 4]])
 (.ret))⟩
theorem t118 : trFn Tryz.prog Tryz.f118 = some c_slices_Collect_int := by kernel_rfl
abbrev n_slices_Sort_int_int : Nat := 119
def c_slices_Sort_int_int : AFn := ⟨11, [],
 .seq (.region [I 3 (.mv) [T 0],
   I 4 (.lens) [T 3],
   I 2 (.mv) [T 4]])
 (.region [I 5 (.mv) [T 0],
   I 6 (.mv) [T 2],
   I 7 (.mv) [T 2],
   I 8 (.conv .u64) [T 7],
   I 9 (.callv) [F 223, T 8],
   I 10 (.callv) [F 222, T 5, N 0, T 6, T 9]])⟩
theorem t119 : trFn Tryz.prog Tryz.f119 = some c_slices_Sort_int_int := by kernel_rfl
abbrev n_frames_Pool_Count : Nat := 121
def c_frames_Pool_Count_L0 : ACode :=
 .seq (.region [I 17 (.bin .lss) [T 16, T 15]])
 (.seq (.cond (T 17)
 (.skip)
 (.exit 0))
 (.seq (.block 1 (.seq (.region [I 18 (.indexs 5) [T 14, T 16],
   I 19 (.loadn 5) [T 18],
   I 7 (.alloc 80 5 (.vals [(.int .i64 0), (.int .i64 0), (.int .i64 0), (.int .i64 0), (.int .i64 0)])) [],
   J (.store 5) [T 7, T 19]])
 (.seq (.region [I 20 (.fieldAddr 0) [T 7],
   I 21 (.load1) [T 20],
   I 22 (.mv) [T 1],
   I 23 (.bin .eql) [T 21, T 22]])
 (.cond (T 23)
 (.region [I 24 (.mv) [T 5],
    I 25 (.bin .add) [T 24, N 1],
    I 5 (.mv) [T 25]])
 (.skip)))))
 (.region [I 26 (.bin .add) [T 16, N 1],
   I 16 (.mv) [T 26]])))
def c_frames_Pool_Count : AFn := ⟨28, [.tmp 4],
 .seq (.region [I 4 (.mv) [N 0]])
 (.seq (.seq (.region [I 8 (.mv) [T 0],
   I 9 (.callv) [F 103, T 8],
   I 10 (.un .not) [T 9]])
 (.cond (T 10)
 (.seq (.region [I 4 (.mv) [N 0]])
  (.ret))
 (.skip)))
 (.seq (.region [I 5 (.mv) [N 0]])
 (.seq (.seq (.region [I 11 (.mv) [T 0],
   I 12 (.nilCheck) [T 11],
   I 13 (.fieldAddr 0) [T 12],
   I 14 (.load1) [T 13],
   I 15 (.lens) [T 14],
   I 16 (.mv) [N 0]])
 (.block 0 (.loop c_frames_Pool_Count_L0)))
 (.seq (.region [I 27 (.mv) [T 5],
   I 4 (.mv) [T 27]])
 (.ret)))))⟩
theorem t121 : trFn Tryz.prog Tryz.f121 = some c_frames_Pool_Count := by kernel_rfl
abbrev n_vmap_Map_made : Nat := 122
def c_vmap_Map_made : AFn := ⟨11, [.tmp 2],
 .seq (.region [I 2 (.mv) [.lit (.bool false)]])
 (.seq (.region [I 3 (.mv) [T 0],
   I 4 (.eqv true .ptr) [T 3, .lit .nilptr],
   I 5 (.mv) [T 4],
   IG 6 (.mv) [T 0] 5 true,
   IG 7 (.nilCheck) [T 6] 5 true,
   IG 8 (.fieldAddr 1) [T 7] 5 true,
   IG 9 (.load1) [T 8] 5 true,
   I 10 (.pick) [T 5, T 9, .lit (.bool false)],
   I 2 (.mv) [T 10]])
 (.ret))⟩
theorem t122 : trFn Tryz.prog Tryz.f122 = some c_vmap_Map_made := by kernel_rfl
abbrev n_entry_Find : Nat := 123
def c_entry_Find : AFn := ⟨28, [.tmp 4, .tmp 5],
 .seq (.region [I 4 (.mv) [N 0],
   I 5 (.mv) [.lit (.bool false)]])
 (.seq (.region [I 9 (.mv) [T 0],
   I 10 (.mv) [T 1],
   I 11 (.callv) [F 224, T 9, T 10, F 225],
   I 8 (.mv) [T 11],
   I 12 (.extract 0) [T 8],
   I 13 (.extract 1) [T 8],
   I 6 (.mv) [T 12],
   I 7 (.mv) [T 13]])
 (.seq (.draw [[⟨0, I 14 (.mv) [T 6], [], false⟩,
   ⟨1, I 15 (.mv) [T 6], [], false⟩,
   ⟨2, I 16 (.mv) [T 0], [], false⟩,
   ⟨3, I 17 (.lens) [T 16], [], false⟩,
   ⟨4, I 18 (.bin .lss) [T 15, T 17], [], false⟩,
   ⟨5, I 19 (.mv) [T 18], [], false⟩,
   ⟨6, IG 20 (.mv) [T 0] 19 true, [], false⟩,
   ⟨7, IG 21 (.mv) [T 6] 19 true, [], false⟩,
   ⟨8, IG 22 (.indexs 10) [T 20, T 21] 19 true, [], false⟩,
   ⟨9, IG 23 (.fieldAddr 0) [T 22] 19 true, [], false⟩,
   ⟨10, IG 24 (.load1) [T 23] 19 true, [], false⟩,
   ⟨11, IG 25 (.mv) [T 1] 19 true, [], false⟩,
   ⟨12, IG 26 (.bin .leq) [T 24, T 25] 19 true, [], false⟩,
   ⟨13, I 27 (.pick) [T 19, T 26, .lit (.bool false)], [], false⟩,
   ⟨14, I 4 (.mv) [T 14], [], false⟩,
   ⟨15, I 5 (.mv) [T 27], [], false⟩]])
 (.ret)))⟩
theorem t123 : trFn Tryz.prog Tryz.f123 = some c_entry_Find := by kernel_rfl
abbrev n_anon_Pool_made : Nat := 124
def c_anon_Pool_made : AFn := ⟨11, [.tmp 2],
 .seq (.region [I 2 (.mv) [.lit (.bool false)]])
 (.seq (.region [I 3 (.mv) [T 0],
   I 4 (.eqv true .ptr) [T 3, .lit .nilptr],
   I 5 (.mv) [T 4],
   IG 6 (.mv) [T 0] 5 true,
   IG 7 (.nilCheck) [T 6] 5 true,
   IG 8 (.fieldAddr 1) [T 7] 5 true,
   IG 9 (.load1) [T 8] 5 true,
   I 10 (.pick) [T 5, T 9, .lit (.bool false)],
   I 2 (.mv) [T 10]])
 (.ret))⟩
theorem t124 : trFn Tryz.prog Tryz.f124 = some c_anon_Pool_made := by kernel_rfl
abbrev n_kern_proc_at : Nat := 125
def c_kern_proc_at : AFn := ⟨20, [.tmp 4],
 .seq (.region [I 3 (.box 3 1) [T 1],
   I 4 (.mv) [.lit .nilptr]])
 (.seq (.region [I 6 (.mv) [T 0],
   I 7 (.nilCheck) [T 6],
   I 8 (.fieldAddr 3) [T 7],
   I 9 (.load1) [T 8],
   I 10 (.mkfunc 226 0) [T 3],
   I 11 (.callv) [F 194, T 9, T 10],
   I 5 (.mv) [T 11]])
 (.seq (.seq (.region [I 12 (.mv) [T 5],
   I 13 (.bin .lss) [T 12, N 0]])
 (.cond (T 13)
 (.seq (.region [I 4 (.mv) [.lit .nilptr]])
  (.ret))
 (.skip)))
 (.seq (.region [I 14 (.mv) [T 0],
   I 15 (.nilCheck) [T 14],
   I 16 (.fieldAddr 3) [T 15],
   I 17 (.load1) [T 16],
   I 18 (.mv) [T 5],
   I 19 (.indexs 6) [T 17, T 18],
   I 4 (.mv) [T 19]])
 (.ret))))⟩
theorem t125 : trFn Tryz.prog Tryz.f125 = some c_kern_proc_at := by kernel_rfl
abbrev n_amap_Pool_Get : Nat := 126
def c_amap_Pool_Get : AFn := ⟨25, [.tmp 6],
 .seq (.region [I 6 (.mv) [N 0]])
 (.seq (.seq (.region [I 7 (.mv) [T 2],
   I 8 (.bin .lss) [T 7, N 0],
   I 9 (.mv) [T 8],
   IG 10 (.mv) [T 2] 9 false,
   IG 11 (.mv) [T 0] 9 false,
   IG 12 (.mv) [T 1] 9 false,
   IG 13 (.callv) [F 227, T 11, T 12] 9 false,
   IG 14 (.bin .geq) [T 10, T 13] 9 false,
   I 15 (.pick) [T 9, .lit (.bool true), T 14]])
 (.cond (T 15)
 (.seq (.region [I 6 (.mv) [N 0]])
  (.ret))
 (.skip)))
 (.seq (.region [I 16 (.mv) [T 0],
   I 17 (.mv) [T 1],
   I 18 (.callv) [F 228, T 16, T 17],
   I 19 (.nilCheck) [T 18],
   I 20 (.fieldAddr 1) [T 19],
   I 21 (.load1) [T 20],
   I 22 (.mv) [T 2],
   I 23 (.indexs 1) [T 21, T 22],
   I 24 (.load1) [T 23],
   I 6 (.mv) [T 24]])
 (.ret)))⟩
theorem t126 : trFn Tryz.prog Tryz.f126 = some c_amap_Pool_Get := by kernel_rfl
abbrev n_file_Store_Size : Nat := 128
def c_file_Store_Size : AFn := ⟨30, [.tmp 4, .tmp 5],
 .seq (.region [I 4 (.mv) [N 0],
   I 5 (.mv) [.lit (.bool false)]])
 (.seq (.seq (.region [I 6 (.mv) [T 0],
   I 7 (.callv) [F 68, T 6],
   I 8 (.un .not) [T 7],
   I 9 (.mv) [T 8],
   IG 10 (.mv) [T 1] 9 false,
   IG 11 (.bin .lss) [T 10, N 1] 9 false,
   I 12 (.pick) [T 9, .lit (.bool true), T 11],
   I 13 (.mv) [T 12],
   IG 14 (.mv) [T 1] 13 false,
   IG 15 (.mv) [T 0] 13 false,
   IG 16 (.nilCheck) [T 15] 13 false,
   IG 17 (.fieldAddr 1) [T 16] 13 false,
   IG 18 (.load1) [T 17] 13 false,
   IG 19 (.lens) [T 18] 13 false,
   IG 20 (.bin .gtr) [T 14, T 19] 13 false,
   I 21 (.pick) [T 13, .lit (.bool true), T 20]])
 (.cond (T 21)
 (.seq (.region [I 4 (.mv) [N 0],
    I 5 (.mv) [.lit (.bool false)]])
  (.ret))
 (.skip)))
 (.seq (.region [I 22 (.mv) [T 0],
   I 23 (.nilCheck) [T 22],
   I 24 (.fieldAddr 1) [T 23],
   I 25 (.load1) [T 24],
   I 26 (.mv) [T 1],
   I 27 (.bin .sub) [T 26, N 1],
   I 28 (.indexs 1) [T 25, T 27],
   I 29 (.load1) [T 28],
   I 4 (.mv) [T 29],
   I 5 (.mv) [.lit (.bool true)]])
 (.ret)))⟩
theorem t128 : trFn Tryz.prog Tryz.f128 = some c_file_Store_Size := by kernel_rfl
abbrev n_slices_Concat_int_int : Nat := 130
def c_slices_Concat_int_int_L0 : ACode :=
 .seq (.region [I 12 (.bin .lss) [T 11, T 10]])
 (.seq (.cond (T 12)
 (.skip)
 (.exit 0))
 (.seq (.block 1 (.seq (.region [I 13 (.indexs 1) [T 9, T 11],
   I 14 (.load1) [T 13],
   I 5 (.mv) [T 14]])
 (.seq (.region [I 15 (.mv) [T 3],
   I 16 (.mv) [T 5],
   I 17 (.lens) [T 16],
   I 18 (.bin .add) [T 15, T 17],
   I 3 (.mv) [T 18]])
 (.seq (.region [I 19 (.mv) [T 3],
   I 20 (.bin .lss) [T 19, N 0]])
 (.cond (T 20)
 (.region [I 21 (.bad) [.lit (.str ⟨#[108, 101, 110, 32, 111, 117, 116, 32, 111, 102, 32, 114, 97, 110, 103, 101]⟩)],
    J (.bad) [T 21]])
 (.skip))))))
 (.region [I 22 (.bin .add) [T 11, N 1],
   I 11 (.mv) [T 22]])))
def c_slices_Concat_int_int_L1 : ACode :=
 .seq (.region [I 28 (.bin .lss) [T 27, T 26]])
 (.seq (.cond (T 28)
 (.skip)
 (.exit 2))
 (.seq (.block 3 (.seq (.region [I 29 (.indexs 1) [T 25, T 27],
   I 30 (.load1) [T 29],
   I 8 (.mv) [T 30]])
 (.region [I 31 (.mv) [T 6],
   I 32 (.mv) [T 8],
   I 33 (.append 3 1 8 (.vals [(.int .i64 0)])) [T 31, T 32],
   I 6 (.mv) [T 33]])))
 (.region [I 34 (.bin .add) [T 27, N 1],
   I 27 (.mv) [T 34]])))
def c_slices_Concat_int_int : AFn := ⟨36, [.tmp 2],
 .seq (.region [I 2 (.mv) [.lit .nilsl]])
 (.seq (.region [I 3 (.mv) [N 0]])
 (.seq (.seq (.region [I 9 (.mv) [T 0],
   I 10 (.lens) [T 9],
   I 11 (.mv) [N 0]])
 (.block 0 (.loop c_slices_Concat_int_int_L0)))
 (.seq (.region [I 23 (.mv) [T 3],
   I 24 (.callv) [F 230, .lit .nilsl, T 23],
   I 6 (.mv) [T 24]])
 (.seq (.seq (.region [I 25 (.mv) [T 0],
   I 26 (.lens) [T 25],
   I 27 (.mv) [N 0]])
 (.block 2 (.loop c_slices_Concat_int_int_L1)))
 (.seq (.region [I 35 (.mv) [T 6],
   I 2 (.mv) [T 35]])
 (.ret))))))⟩
theorem t130 : trFn Tryz.prog Tryz.f130 = some c_slices_Concat_int_int := by kernel_rfl
abbrev n_daemon_Daemon_Active : Nat := 131
def c_daemon_Daemon_Active : AFn := ⟨5, [.tmp 2],
 .seq (.region [I 2 (.mv) [.lit .nilsl]])
 (.seq (.region [I 3 (.mv) [T 0],
   I 4 (.callv) [F 231, T 3, N 0],
   I 2 (.mv) [T 4]])
 (.ret))⟩
theorem t131 : trFn Tryz.prog Tryz.f131 = some c_daemon_Daemon_Active := by kernel_rfl
abbrev n_daemon_Daemon_Inactive : Nat := 132
def c_daemon_Daemon_Inactive : AFn := ⟨5, [.tmp 2],
 .seq (.region [I 2 (.mv) [.lit .nilsl]])
 (.seq (.region [I 3 (.mv) [T 0],
   I 4 (.callv) [F 231, T 3, N 1],
   I 2 (.mv) [T 4]])
 (.ret))⟩
theorem t132 : trFn Tryz.prog Tryz.f132 = some c_daemon_Daemon_Inactive := by kernel_rfl
abbrev n_slices_Contains_int_int : Nat := 133
def c_slices_Contains_int_int : AFn := ⟨9, [.tmp 4],
 .seq (.region [I 4 (.mv) [.lit (.bool false)]])
 (.seq (.region [I 5 (.mv) [T 0],
   I 6 (.mv) [T 1],
   I 7 (.callv) [F 232, T 5, T 6],
   I 8 (.bin .geq) [T 7, N 0],
   I 4 (.mv) [T 8]])
 (.ret))⟩
theorem t133 : trFn Tryz.prog Tryz.f133 = some c_slices_Contains_int_int := by kernel_rfl
abbrev n_ring_Rows_int_Remove : Nat := 134
def c_ring_Rows_int_Remove : AFn := ⟨35, [.tmp 4],
 .seq (.region [I 3 (.box 3 1) [T 1],
   I 4 (.mv) [.lit (.bool false)]])
 (.seq (.region [I 8 (.mv) [T 0],
   I 9 (.load1) [T 3],
   I 10 (.callv) [F 135, T 8, T 9],
   I 7 (.mv) [T 10],
   I 11 (.extract 0) [T 7],
   I 12 (.extract 1) [T 7],
   I 5 (.mv) [T 11],
   I 6 (.mv) [T 12]])
 (.seq (.seq (.region [I 13 (.mv) [T 6],
   I 14 (.un .not) [T 13]])
 (.cond (T 14)
 (.seq (.region [I 4 (.mv) [.lit (.bool false)]])
  (.ret))
 (.skip)))
 (.seq (.draw [[⟨0, I 15 (.mv) [T 0], [], false⟩,
   ⟨1, I 16 (.nilCheck) [T 15], [], false⟩,
   ⟨2, I 17 (.fieldAddr 1) [T 16], [], false⟩,
   ⟨3, I 18 (.load1) [T 17], [], false⟩,
   ⟨4, I 19 (.load1) [T 3], [], false⟩,
   ⟨5, J (.delete (.scal .int)) [T 18, T 19], [], false⟩]])
 (.seq (.draw [[⟨0, I 20 (.mv) [T 0], [], false⟩,
   ⟨1, I 21 (.nilCheck) [T 20], [], false⟩,
   ⟨2, I 22 (.fieldAddr 0) [T 21], [], false⟩,
   ⟨3, I 23 (.load1) [T 22], [], false⟩,
   ⟨4, I 24 (.mv) [T 5], [], false⟩,
   ⟨5, I 25 (.mv) [T 0], [], false⟩,
   ⟨6, I 26 (.nilCheck) [T 25], [], false⟩,
   ⟨7, I 27 (.fieldAddr 0) [T 26], [], false⟩,
   ⟨8, I 28 (.load1) [T 27], [], false⟩,
   ⟨9, I 29 (.mv) [T 5], [], false⟩,
   ⟨10, I 30 (.indexs 1) [T 28, T 29], [], false⟩,
   ⟨11, I 31 (.load1) [T 30], [], false⟩,
   ⟨12, I 32 (.mkfunc 234 0) [T 3], [], false⟩,
   ⟨13, I 33 (.callv) [F 233, T 31, T 32], [(3, I 23 (.load1) [T 22])], false⟩,
   ⟨14, I 34 (.indexs 1) [T 23, T 24], [], false⟩,
   ⟨15, J (.store 1) [T 34, T 33], [], false⟩]])
 (.seq (.region [I 4 (.mv) [.lit (.bool true)]])
 (.ret))))))⟩
theorem t134 : trFn Tryz.prog Tryz.f134 = some c_ring_Rows_int_Remove := by kernel_rfl
abbrev n_ring_Rows_int_Where : Nat := 135
def c_ring_Rows_int_Where : AFn := ⟨22, [.tmp 4, .tmp 5],
 .seq (.region [I 4 (.mv) [N 0],
   I 5 (.mv) [.lit (.bool false)]])
 (.seq (.seq (.region [I 8 (.mv) [T 0],
   I 9 (.callv) [F 235, T 8],
   I 10 (.bin .eql) [T 9, N 0]])
 (.cond (T 10)
 (.seq (.region [I 4 (.mv) [N 0],
    I 5 (.mv) [.lit (.bool false)]])
  (.ret))
 (.skip)))
 (.seq (.region [I 12 (.mv) [T 0],
   I 13 (.nilCheck) [T 12],
   I 14 (.fieldAddr 1) [T 13],
   I 15 (.load1) [T 14],
   I 16 (.mv) [T 1],
   I 17 (.lookup (.scal .int) (.int .i64 0) true) [T 15, T 16],
   I 11 (.mv) [T 17],
   I 18 (.extract 0) [T 11],
   I 19 (.extract 1) [T 11],
   I 6 (.mv) [T 18],
   I 7 (.mv) [T 19]])
 (.seq (.region [I 20 (.mv) [T 6],
   I 21 (.mv) [T 7],
   I 4 (.mv) [T 20],
   I 5 (.mv) [T 21]])
 (.ret))))⟩
theorem t135 : trFn Tryz.prog Tryz.f135 = some c_ring_Rows_int_Where := by kernel_rfl
abbrev n_ring_Rows_int_Push : Nat := 136
def c_ring_Rows_int_Push : AFn := ⟨28, [.tmp 6],
 .seq (.region [I 6 (.mv) [.lit (.bool false)]])
 (.seq (.seq (.region [I 7 (.mv) [T 0],
   I 8 (.mv) [T 1],
   I 9 (.mv) [T 2],
   I 10 (.callv) [F 236, T 7, T 8, T 9],
   I 11 (.un .not) [T 10]])
 (.cond (T 11)
 (.seq (.region [I 6 (.mv) [.lit (.bool false)]])
  (.ret))
 (.skip)))
 (.seq (.draw [[⟨0, I 12 (.mv) [T 0], [], false⟩,
   ⟨1, I 13 (.nilCheck) [T 12], [], false⟩,
   ⟨2, I 14 (.fieldAddr 0) [T 13], [], false⟩,
   ⟨3, I 15 (.load1) [T 14], [], false⟩,
   ⟨4, I 16 (.mv) [T 1], [], false⟩,
   ⟨5, I 17 (.mv) [T 0], [], false⟩,
   ⟨6, I 18 (.nilCheck) [T 17], [], false⟩,
   ⟨7, I 19 (.fieldAddr 0) [T 18], [], false⟩,
   ⟨8, I 20 (.load1) [T 19], [], false⟩,
   ⟨9, I 21 (.mv) [T 1], [], false⟩,
   ⟨10, I 22 (.indexs 1) [T 20, T 21], [], false⟩,
   ⟨11, I 23 (.load1) [T 22], [], false⟩,
   ⟨12, I 24 (.mv) [T 2], [], false⟩,
   ⟨13, I 25 (.bslice 3 1 1 (.vals [(.int .i64 0)]) [0]) [T 24], [(3, I 15 (.load1) [T 14]), (8, I 20 (.load1) [T 19]), (11, I 23 (.load1) [T 22])], false⟩,
   ⟨14, I 26 (.append 3 1 8 (.vals [(.int .i64 0)])) [T 23, T 25], [(3, I 15 (.load1) [T 14])], false⟩,
   ⟨15, I 27 (.indexs 1) [T 15, T 16], [], false⟩,
   ⟨16, J (.store 1) [T 27, T 26], [], false⟩]])
 (.seq (.region [I 6 (.mv) [.lit (.bool true)]])
 (.ret))))⟩
theorem t136 : trFn Tryz.prog Tryz.f136 = some c_ring_Rows_int_Push := by kernel_rfl
abbrev n_ring_Rows_int_First : Nat := 137
def c_ring_Rows_int_First_A0 : ACode :=
 .region [I 6 (.mv) [T 11]]
def c_ring_Rows_int_First_B0 : ACode :=
 .block 1 (.seq (.region [I 12 (.mv) [T 6],
   J (.store 1) [T 4, T 12],
   J (.store 1) [T 5, .lit (.bool true)]])
 (.ret))
def c_ring_Rows_int_First : AFn := ⟨14, [.cell 4 (.load1), .cell 5 (.load1)],
 .seq (.region [I 4 (.alloc 3 1 (.vals [(.int .i64 0)])) [],
   I 5 (.alloc 4 1 (.vals [(.bool false)])) []])
 (.seq (.seq (.region [I 8 (.mv) [T 0],
   I 9 (.mv) [T 1],
   I 10 (.callv) [F 237, T 8, T 9]])
 (.block 0 (.rfun (T 10) [11] c_ring_Rows_int_First_A0 c_ring_Rows_int_First_B0)))
 (.seq (.region [I 7 (.mv) [N 0]])
 (.seq (.region [I 13 (.mv) [T 7],
   J (.store 1) [T 4, T 13],
   J (.store 1) [T 5, .lit (.bool false)]])
 (.ret))))⟩
theorem t137 : trFn Tryz.prog Tryz.f137 = some c_ring_Rows_int_First := by kernel_rfl
abbrev n_daemon_Daemon_old : Nat := 138
def c_daemon_Daemon_old : AFn := ⟨33, [.tmp 4],
 .seq (.region [I 4 (.mv) [.lit (.bool false)]])
 (.seq (.seq (.region [I 5 (.mv) [T 0],
   I 6 (.nilCheck) [T 5],
   I 7 (.fieldAddr 0) [T 6],
   I 8 (.load1) [T 7],
   I 9 (.mv) [T 1],
   I 10 (.callv) [F 65, T 8, T 9],
   I 11 (.un .not) [T 10],
   I 12 (.mv) [T 11],
   IG 13 (.mv) [T 0] 12 true,
   IG 14 (.nilCheck) [T 13] 12 true,
   IG 15 (.fieldAddr 0) [T 14] 12 true,
   IG 16 (.load1) [T 15] 12 true,
   IG 17 (.mv) [T 1] 12 true,
   IG 18 (.callv) [F 46, T 16, T 17] 12 true,
   IG 19 (.bin .eql) [T 18, N 0] 12 true,
   I 20 (.pick) [T 12, T 19, .lit (.bool false)]])
 (.cond (T 20)
 (.seq (.region [I 21 (.mv) [T 0],
    I 22 (.nilCheck) [T 21],
    I 23 (.fieldAddr 1) [T 22],
    I 24 (.load1) [T 23],
    I 25 (.mv) [T 1],
    I 26 (.callv) [F 134, T 24, T 25]])
  (.seq (.region [I 4 (.mv) [.lit (.bool true)]])
  (.ret)))
 (.skip)))
 (.seq (.region [I 27 (.mv) [T 0],
   I 28 (.nilCheck) [T 27],
   I 29 (.fieldAddr 1) [T 28],
   I 30 (.load1) [T 29],
   I 31 (.mv) [T 1],
   I 32 (.callv) [F 136, T 30, N 0, T 31]])
 (.seq (.region [I 4 (.mv) [.lit (.bool false)]])
 (.ret))))⟩
theorem t138 : trFn Tryz.prog Tryz.f138 = some c_daemon_Daemon_old := by kernel_rfl
abbrev n_daemon_Daemon_young : Nat := 139
def c_daemon_Daemon_young : AFn := ⟨17, [.tmp 4],
 .seq (.region [I 4 (.mv) [.lit (.bool false)]])
 (.seq (.region [I 5 (.mv) [T 0],
   I 6 (.nilCheck) [T 5],
   I 7 (.fieldAddr 0) [T 6],
   I 8 (.load1) [T 7],
   I 9 (.mv) [T 1],
   I 10 (.callv) [F 65, T 8, T 9]])
 (.seq (.region [I 11 (.mv) [T 0],
   I 12 (.nilCheck) [T 11],
   I 13 (.fieldAddr 1) [T 12],
   I 14 (.load1) [T 13],
   I 15 (.mv) [T 1],
   I 16 (.callv) [F 136, T 14, N 1, T 15]])
 (.seq (.region [I 4 (.mv) [.lit (.bool false)]])
 (.ret))))⟩
theorem t139 : trFn Tryz.prog Tryz.f139 = some c_daemon_Daemon_young := by kernel_rfl
abbrev n_kern_Kernel_Procs : Nat := 140
def c_kern_Kernel_Procs : AFn := ⟨12, [.tmp 2],
 .seq (.region [I 2 (.mv) [.lit .nilsl]])
 (.seq (.seq (.region [I 3 (.mv) [T 0],
   I 4 (.callv) [F 35, T 3],
   I 5 (.un .not) [T 4]])
 (.cond (T 5)
 (.seq (.region [I 2 (.mv) [.lit .nilsl]])
  (.ret))
 (.skip)))
 (.seq (.region [I 6 (.mv) [T 0],
   I 7 (.nilCheck) [T 6],
   I 8 (.fieldAddr 9) [T 7],
   I 9 (.load1) [T 8],
   I 10 (.callv) [F 238, T 9],
   I 11 (.callv) [F 51, T 10],
   I 2 (.mv) [T 11]])
 (.ret)))⟩
theorem t140 : trFn Tryz.prog Tryz.f140 = some c_kern_Kernel_Procs := by kernel_rfl
abbrev n_pmap_Map_All : Nat := 141
def c_pmap_Map_All : AFn := ⟨4, [.tmp 2],
 .seq (.region [I 1 (.box 97 1) [T 0],
   I 2 (.mv) [.lit .nilfunc]])
 (.seq (.region [I 3 (.mkfunc 239 0) [T 1],
   I 2 (.mv) [T 3]])
 (.ret))⟩
theorem t141 : trFn Tryz.prog Tryz.f141 = some c_pmap_Map_All := by kernel_rfl
abbrev n_pmap_Map_Clear : Nat := 142
def c_pmap_Map_Clear : AFn := ⟨13, [.tmp 6],
 .seq (.region [I 5 (.box 3 1) [T 2],
   I 6 (.mv) [N 0]])
 (.seq (.region [I 7 (.alloc 3 1 (.vals [(.int .i64 0)])) [],
   J (.store 1) [T 7, N 0]])
 (.seq (.region [I 8 (.mv) [T 0],
   I 9 (.mv) [T 1],
   I 10 (.mkfunc 242 0) [T 5, T 7],
   I 11 (.callv) [F 241, T 8, T 9, T 10]])
 (.seq (.region [I 12 (.load1) [T 7],
   I 6 (.mv) [T 12]])
 (.ret))))⟩
theorem t142 : trFn Tryz.prog Tryz.f142 = some c_pmap_Map_Clear := by kernel_rfl
abbrev n_tlb_Table_Flush : Nat := 143
def c_tlb_Table_Flush : AFn := ⟨9, [.tmp 4],
 .seq (.region [I 3 (.box 207 2) [T 1],
   I 4 (.mv) [.lit (.bool false)]])
 (.seq (.region [I 5 (.mv) [T 0],
   I 6 (.mkfunc 243 0) [T 3],
   I 7 (.callv) [F 181, T 5, T 6],
   I 8 (.bin .gtr) [T 7, N 0],
   I 4 (.mv) [T 8]])
 (.ret))⟩
theorem t143 : trFn Tryz.prog Tryz.f143 = some c_tlb_Table_Flush := by kernel_rfl
abbrev n_slices_IndexFunc_int_int : Nat := 144
def c_slices_IndexFunc_int_int_L0 : ACode :=
 .seq (.region [I 9 (.bin .lss) [T 8, T 7]])
 (.seq (.cond (T 9)
 (.skip)
 (.exit 0))
 (.seq (.block 1 (.seq (.region [I 10 (.mv) [T 8],
   I 5 (.mv) [T 10]])
 (.seq (.region [I 11 (.mv) [T 1],
   I 12 (.mv) [T 0],
   I 13 (.mv) [T 5],
   I 14 (.indexs 1) [T 12, T 13],
   I 15 (.load1) [T 14],
   I 16 (.callv) [T 11, T 15]])
 (.cond (T 16)
 (.seq (.region [I 17 (.mv) [T 5],
    I 4 (.mv) [T 17]])
  (.ret))
 (.skip)))))
 (.region [I 18 (.bin .add) [T 8, N 1],
   I 8 (.mv) [T 18]])))
def c_slices_IndexFunc_int_int : AFn := ⟨19, [.tmp 4],
 .seq (.region [I 4 (.mv) [N 0]])
 (.seq (.seq (.region [I 6 (.mv) [T 0],
   I 7 (.lens) [T 6],
   I 8 (.mv) [N 0]])
 (.block 0 (.loop c_slices_IndexFunc_int_int_L0)))
 (.seq (.region [I 4 (.mv) [N (-1)]])
 (.ret)))⟩
theorem t144 : trFn Tryz.prog Tryz.f144 = some c_slices_IndexFunc_int_int := by kernel_rfl
abbrev n_frames_Pool_Take : Nat := 145
def c_frames_Pool_Take : AFn := ⟨49, [.tmp 8, .tmp 9],
 .seq (.region [I 8 (.mv) [N 0],
   I 9 (.mv) [N 0]])
 (.seq (.seq (.region [I 12 (.mv) [T 0],
   I 13 (.callv) [F 103, T 12],
   I 14 (.un .not) [T 13]])
 (.cond (T 14)
 (.seq (.region [I 8 (.mv) [N 0],
    I 9 (.mv) [N 1]])
  (.ret))
 (.skip)))
 (.seq (.seq (.region [I 15 (.mv) [T 1],
   I 16 (.bin .lss) [T 15, N 1],
   I 17 (.mv) [T 16],
   IG 18 (.mv) [T 1] 17 false,
   IG 19 (.bin .gtr) [T 18, N 4] 17 false,
   I 20 (.pick) [T 17, .lit (.bool true), T 19]])
 (.cond (T 20)
 (.seq (.region [I 8 (.mv) [N 0],
    I 9 (.mv) [N 2]])
  (.ret))
 (.skip)))
 (.seq (.region [I 21 (.mv) [T 0],
   I 22 (.nilCheck) [T 21],
   I 23 (.fieldAddr 1) [T 22],
   I 24 (.load1) [T 23],
   I 10 (.mv) [T 24]])
 (.seq (.seq (.region [I 25 (.mv) [T 1],
   I 26 (.bin .eql) [T 25, N 1]])
 (.cond (T 26)
 (.region [I 10 (.mv) [N 0]])
 (.skip)))
 (.seq (.seq (.region [I 27 (.mv) [T 0],
   I 28 (.callv) [F 53, T 27],
   I 29 (.mv) [T 10],
   I 30 (.bin .leq) [T 28, T 29]])
 (.cond (T 30)
 (.seq (.region [I 8 (.mv) [N 0],
    I 9 (.mv) [N 5]])
  (.ret))
 (.skip)))
 (.seq (.region [I 31 (.mv) [T 0],
   I 32 (.nilCheck) [T 31],
   I 33 (.fieldAddr 0) [T 32],
   I 34 (.load1) [T 33],
   I 35 (.callv) [F 244, T 34, F 245],
   I 11 (.mv) [T 35]])
 (.seq (.seq (.region [I 36 (.mv) [T 11],
   I 37 (.bin .lss) [T 36, N 0]])
 (.cond (T 37)
 (.seq (.region [I 8 (.mv) [N 0],
    I 9 (.mv) [N 5]])
  (.ret))
 (.skip)))
 (.seq (.region [I 38 (.mv) [T 0],
   I 39 (.nilCheck) [T 38],
   I 40 (.fieldAddr 0) [T 39],
   I 41 (.load1) [T 40],
   I 42 (.mv) [T 11],
   I 43 (.mv) [T 1],
   I 44 (.mv) [T 2],
   I 45 (.mv) [T 3],
   I 46 (.build (.agg [(.int .i64 0), (.int .i64 0), (.int .i64 0), (.int .i64 0), (.int .i64 0)]) [(0, 1), (1, 1), (2, 1)]) [T 43, T 44, T 45],
   I 47 (.indexs 5) [T 41, T 42],
   J (.store 5) [T 47, T 46]])
 (.seq (.region [I 48 (.mv) [T 11],
   I 8 (.mv) [T 48],
   I 9 (.mv) [N 0]])
 (.ret))))))))))⟩
theorem t145 : trFn Tryz.prog Tryz.f145 = some c_frames_Pool_Take := by kernel_rfl
abbrev n_phys_Memory_Zero : Nat := 146
def c_phys_Memory_Zero : AFn := ⟨8, [.tmp 4],
 .seq (.region [I 4 (.mv) [.lit (.bool false)]])
 (.seq (.region [I 5 (.mv) [T 0],
   I 6 (.mv) [T 1],
   I 7 (.callv) [F 158, T 5, T 6, .lit .nilsl],
   I 4 (.mv) [T 7]])
 (.ret))⟩
theorem t146 : trFn Tryz.prog Tryz.f146 = some c_phys_Memory_Zero := by kernel_rfl
abbrev n_object_Pool_Ids : Nat := 151
def c_object_Pool_Ids : AFn := ⟨12, [.tmp 2],
 .seq (.region [I 2 (.mv) [.lit .nilsl]])
 (.seq (.seq (.region [I 3 (.mv) [T 0],
   I 4 (.callv) [F 214, T 3],
   I 5 (.un .not) [T 4]])
 (.cond (T 5)
 (.seq (.region [I 2 (.mv) [.lit .nilsl]])
  (.ret))
 (.skip)))
 (.seq (.region [I 6 (.mv) [T 0],
   I 7 (.nilCheck) [T 6],
   I 8 (.fieldAddr 2) [T 7],
   I 9 (.load1) [T 8],
   I 10 (.callv) [F 248, T 9],
   I 11 (.callv) [F 51, T 10],
   I 2 (.mv) [T 11]])
 (.ret)))⟩
theorem t151 : trFn Tryz.prog Tryz.f151 = some c_object_Pool_Ids := by kernel_rfl
abbrev n_kern_Kernel_take : Nat := 156
def c_kern_Kernel_take : AFn := ⟨20, [.tmp 8, .tmp 9],
 .seq (.region [I 8 (.mv) [N 0],
   I 9 (.mv) [N 0]])
 (.seq (.region [I 10 (.mv) [T 0],
   I 11 (.nilCheck) [T 10],
   I 12 (.fieldAddr 1) [T 11],
   I 13 (.load1) [T 12],
   I 14 (.mv) [T 1],
   I 15 (.mv) [T 2],
   I 16 (.mv) [T 3],
   I 17 (.callv) [F 145, T 13, T 14, T 15, T 16],
   I 18 (.extract 0) [T 17],
   I 19 (.extract 1) [T 17],
   I 8 (.mv) [T 18],
   I 9 (.mv) [T 19]])
 (.ret))⟩
theorem t156 : trFn Tryz.prog Tryz.f156 = some c_kern_Kernel_take := by kernel_rfl
abbrev n_phys_Memory_Fill : Nat := 158
def c_phys_Memory_Fill : AFn := ⟨20, [.tmp 6],
 .seq (.region [I 6 (.mv) [.lit (.bool false)]])
 (.seq (.region [I 9 (.mv) [T 0],
   I 10 (.mv) [T 1],
   I 11 (.callv) [F 159, T 9, T 10],
   I 7 (.mv) [T 11]])
 (.seq (.seq (.region [I 12 (.mv) [T 7],
   I 13 (.eqv false .ptr) [T 12, .lit .nilptr]])
 (.cond (T 13)
 (.seq (.region [I 6 (.mv) [.lit (.bool false)]])
  (.ret))
 (.skip)))
 (.seq (.region [I 8 (.alloc 302 4096 (.bytes 4096 0)) []])
 (.seq (.region [I 14 (.slicea 4096 1 false false false) [T 8],
   I 15 (.mv) [T 2],
   I 16 (.copy 1) [T 14, T 15]])
 (.seq (.region [I 17 (.mv) [T 7],
   I 18 (.loadn 4096) [T 8],
   I 19 (.nilCheck) [T 17],
   J (.store 4096) [T 19, T 18]])
 (.seq (.region [I 6 (.mv) [.lit (.bool true)]])
 (.ret)))))))⟩
theorem t158 : trFn Tryz.prog Tryz.f158 = some c_phys_Memory_Fill := by kernel_rfl
abbrev n_phys_Memory_at : Nat := 159
def c_phys_Memory_at : AFn := ⟨19, [.tmp 4],
 .seq (.region [I 4 (.mv) [.lit .nilptr]])
 (.seq (.seq (.region [I 5 (.mv) [T 1],
   I 6 (.bin .lss) [T 5, N 0],
   I 7 (.mv) [T 6],
   IG 8 (.mv) [T 1] 7 false,
   IG 9 (.mv) [T 0] 7 false,
   IG 10 (.callv) [F 44, T 9] 7 false,
   IG 11 (.bin .geq) [T 8, T 10] 7 false,
   I 12 (.pick) [T 7, .lit (.bool true), T 11]])
 (.cond (T 12)
 (.seq (.region [I 4 (.mv) [.lit .nilptr]])
  (.ret))
 (.skip)))
 (.seq (.region [I 13 (.mv) [T 0],
   I 14 (.nilCheck) [T 13],
   I 15 (.fieldAddr 0) [T 14],
   I 16 (.load1) [T 15],
   I 17 (.mv) [T 1],
   I 18 (.indexs 4096) [T 16, T 17],
   I 4 (.mv) [T 18]])
 (.ret)))⟩
theorem t159 : trFn Tryz.prog Tryz.f159 = some c_phys_Memory_at := by kernel_rfl
abbrev n_entry_Good : Nat := 161
def c_entry_Good : AFn := ⟨84, [.tmp 2],
 .seq (.region [I 1 (.box 94 10) [T 0],
   I 2 (.mv) [.lit (.bool false)]])
 (.seq (.block 0 (.seq (.region [I 4 (.fieldAddr 0) [T 1],
   I 5 (.load1) [T 4],
   I 6 (.bin .lss) [T 5, N 0],
   I 7 (.mv) [T 6],
   IG 8 (.fieldAddr 1) [T 1] 7 false,
   IG 9 (.load1) [T 8] 7 false,
   IG 10 (.fieldAddr 0) [T 1] 7 false,
   IG 11 (.load1) [T 10] 7 false,
   IG 12 (.bin .leq) [T 9, T 11] 7 false,
   I 13 (.pick) [T 7, .lit (.bool true), T 12],
   I 14 (.mv) [T 13],
   IG 15 (.fieldAddr 1) [T 1] 14 false,
   IG 16 (.load1) [T 15] 14 false,
   IG 17 (.bin .gtr) [T 16, N 67108864] 14 false,
   I 18 (.pick) [T 14, .lit (.bool true), T 17],
   I 3 (.mv) [T 18]])
 (.cond (T 3)
 (.seq (.region [I 2 (.mv) [.lit (.bool false)]])
  (.ret))
 (.seq (.region [I 20 (.fieldAddr 2) [T 1],
    I 21 (.load1) [T 20],
    I 22 (.bin .lss) [T 21, N 0],
    I 23 (.mv) [T 22],
    IG 24 (.fieldAddr 3) [T 1] 23 false,
    IG 25 (.load1) [T 24] 23 false,
    IG 26 (.bin .lss) [T 25, N 0] 23 false,
    I 27 (.pick) [T 23, .lit (.bool true), T 26],
    I 28 (.mv) [T 27],
    IG 29 (.fieldAddr 2) [T 1] 28 false,
    IG 30 (.load1) [T 29] 28 false,
    IG 31 (.bin .eql) [T 30, N 0] 28 false,
    IG 32 (.mv) [T 31] 28 false,
    IG 33 (.fieldAddr 3) [T 1] 32 true,
    IG 34 (.load1) [T 33] 32 true,
    IG 35 (.bin .gtr) [T 34, N 0] 32 true,
    IG 36 (.pick) [T 32, T 35, .lit (.bool false)] 28 false,
    I 37 (.pick) [T 28, .lit (.bool true), T 36],
    I 19 (.mv) [T 37]])
  (.cond (T 19)
  (.seq (.region [I 2 (.mv) [.lit (.bool false)]])
   (.ret))
  (.seq (.region [I 39 (.fieldAddr 2) [T 1],
     I 40 (.load1) [T 39],
     I 41 (.bin .gtr) [T 40, N 0],
     I 42 (.mv) [T 41],
     IG 43 (.fieldAddr 3) [T 1] 42 true,
     IG 44 (.load1) [T 43] 42 true,
     IG 45 (.fieldAddr 1) [T 1] 42 true,
     IG 46 (.load1) [T 45] 42 true,
     IG 47 (.fieldAddr 0) [T 1] 42 true,
     IG 48 (.load1) [T 47] 42 true,
     IG 49 (.bin .sub) [T 46, T 48] 42 true,
     IG 50 (.bin .sub) [N 4096, T 49] 42 true,
     IG 51 (.bin .gtr) [T 44, T 50] 42 true,
     I 52 (.pick) [T 42, T 51, .lit (.bool false)],
     I 38 (.mv) [T 52]])
   (.cond (T 38)
   (.seq (.region [I 2 (.mv) [.lit (.bool false)]])
    (.ret))
   (.seq (.region [I 54 (.fieldAddr 6) [T 1],
      I 55 (.load1) [T 54],
      I 56 (.bin .andNot) [T 55, N 7],
      I 57 (.bin .neq) [T 56, N 0],
      I 58 (.mv) [T 57],
      IG 59 (.fieldAddr 5) [T 1] 58 false,
      IG 60 (.load1) [T 59] 58 false,
      IG 61 (.fieldAddr 6) [T 1] 58 false,
      IG 62 (.load1) [T 61] 58 false,
      IG 63 (.bin .andNot) [T 60, T 62] 58 false,
      IG 64 (.bin .neq) [T 63, N 0] 58 false,
      I 65 (.pick) [T 58, .lit (.bool true), T 64],
      I 53 (.mv) [T 65]])
    (.cond (T 53)
    (.seq (.region [I 2 (.mv) [.lit (.bool false)]])
     (.ret))
    (.skip))))))))))
 (.seq (.region [I 66 (.fieldAddr 7) [T 1],
   I 67 (.load1) [T 66],
   I 68 (.bin .geq) [T 67, N 0],
   I 69 (.mv) [T 68],
   IG 70 (.fieldAddr 7) [T 1] 69 true,
   IG 71 (.load1) [T 70] 69 true,
   IG 72 (.bin .leq) [T 71, N 2] 69 true,
   I 73 (.pick) [T 69, T 72, .lit (.bool false)],
   I 74 (.mv) [T 73],
   IG 75 (.fieldAddr 8) [T 1] 74 true,
   IG 76 (.load1) [T 75] 74 true,
   IG 77 (.bin .geq) [T 76, N 0] 74 true,
   I 78 (.pick) [T 74, T 77, .lit (.bool false)],
   I 79 (.mv) [T 78],
   IG 80 (.fieldAddr 8) [T 1] 79 true,
   IG 81 (.load1) [T 80] 79 true,
   IG 82 (.bin .leq) [T 81, N 4] 79 true,
   I 83 (.pick) [T 79, T 82, .lit (.bool false)],
   I 2 (.mv) [T 83]])
 (.ret)))⟩
theorem t161 : trFn Tryz.prog Tryz.f161 = some c_entry_Good := by kernel_rfl
abbrev n_vmap_within : Nat := 162
def c_vmap_within : AFn := ⟨21, [.tmp 4],
 .seq (.region [I 4 (.mv) [.lit (.bool false)]])
 (.seq (.region [I 5 (.mv) [T 0],
   I 6 (.bin .geq) [T 5, N 0],
   I 7 (.mv) [T 6],
   IG 8 (.mv) [T 1] 7 true,
   IG 9 (.bin .geq) [T 8, N 1] 7 true,
   I 10 (.pick) [T 7, T 9, .lit (.bool false)],
   I 11 (.mv) [T 10],
   IG 12 (.mv) [T 1] 11 true,
   IG 13 (.bin .leq) [T 12, N 4096] 11 true,
   I 14 (.pick) [T 11, T 13, .lit (.bool false)],
   I 15 (.mv) [T 14],
   IG 16 (.mv) [T 0] 15 true,
   IG 17 (.mv) [T 1] 15 true,
   IG 18 (.bin .sub) [N 67108864, T 17] 15 true,
   IG 19 (.bin .leq) [T 16, T 18] 15 true,
   I 20 (.pick) [T 15, T 19, .lit (.bool false)],
   I 4 (.mv) [T 20]])
 (.ret))⟩
theorem t162 : trFn Tryz.prog Tryz.f162 = some c_vmap_within := by kernel_rfl
abbrev n_entry_Cut : Nat := 163
def c_entry_Cut : AFn := ⟨19, [.tmp 6, .tmp 7],
 .seq (.region [I 4 (.box 3 1) [T 1],
   I 5 (.box 3 1) [T 2],
   I 6 (.mv) [.lit .nilsl],
   I 7 (.mv) [.lit .nilsl]])
 (.seq (.draw [[⟨0, I 9 (.mv) [T 0], [], false⟩,
   ⟨1, I 10 (.load1) [T 4], [], false⟩,
   ⟨3, I 12 (.load1) [T 5], [], false⟩,
   ⟨2, I 11 (.callv) [F 251, T 9, T 10], [(3, I 12 (.load1) [T 5])], false⟩,
   ⟨4, I 13 (.callv) [F 251, T 11, T 12], [], false⟩,
   ⟨5, I 0 (.mv) [T 13], [], true⟩]])
 (.seq (.region [I 8 (.alloc 158 1 (.vals [.nilsl])) []])
 (.seq (.region [I 14 (.mv) [T 0],
   I 15 (.mkfunc 253 0) [T 4, T 5, T 8],
   I 16 (.callv) [F 252, T 14, T 15],
   I 0 (.mv) [T 16]])
 (.seq (.draw [[⟨0, I 17 (.mv) [T 0], [], false⟩,
   ⟨1, I 18 (.load1) [T 8], [], false⟩,
   ⟨2, I 6 (.mv) [T 17], [], false⟩,
   ⟨3, I 7 (.mv) [T 18], [], false⟩]])
 (.ret)))))⟩
theorem t163 : trFn Tryz.prog Tryz.f163 = some c_entry_Cut := by kernel_rfl
abbrev n_entry_Space : Nat := 164
def c_entry_Space : AFn := ⟨37, [.tmp 6, .tmp 7],
 .seq (.region [I 6 (.mv) [N 0],
   I 7 (.mv) [.lit (.bool false)]])
 (.seq (.seq (.region [I 12 (.mv) [T 2],
   I 13 (.bin .lss) [T 12, N 1],
   I 14 (.mv) [T 13],
   IG 15 (.mv) [T 2] 14 false,
   IG 16 (.bin .gtr) [T 15, N 67108864] 14 false,
   I 17 (.pick) [T 14, .lit (.bool true), T 16]])
 (.cond (T 17)
 (.seq (.region [I 6 (.mv) [N 0],
    I 7 (.mv) [.lit (.bool false)]])
  (.ret))
 (.skip)))
 (.seq (.seq (.region [I 19 (.mv) [T 0],
   I 20 (.mv) [T 1],
   I 21 (.max) [T 20, N 0],
   I 22 (.mv) [T 2],
   I 23 (.callv) [F 254, T 19, T 21, T 22],
   I 18 (.mv) [T 23],
   I 24 (.extract 0) [T 18],
   I 25 (.extract 1) [T 18],
   I 8 (.mv) [T 24],
   I 9 (.mv) [T 25]])
 (.seq (.region [I 26 (.mv) [T 9]])
 (.cond (T 26)
 (.seq (.region [I 27 (.mv) [T 8],
    I 6 (.mv) [T 27],
    I 7 (.mv) [.lit (.bool true)]])
  (.ret))
 (.skip))))
 (.seq (.region [I 29 (.mv) [T 0],
   I 30 (.mv) [T 2],
   I 31 (.callv) [F 254, T 29, N 0, T 30],
   I 28 (.mv) [T 31],
   I 32 (.extract 0) [T 28],
   I 33 (.extract 1) [T 28],
   I 10 (.mv) [T 32],
   I 11 (.mv) [T 33]])
 (.seq (.seq (.region [I 34 (.mv) [T 11],
   I 35 (.un .not) [T 34]])
 (.cond (T 35)
 (.seq (.region [I 6 (.mv) [N 0],
    I 7 (.mv) [.lit (.bool false)]])
  (.ret))
 (.skip)))
 (.seq (.region [I 36 (.mv) [T 10],
   I 6 (.mv) [T 36],
   I 7 (.mv) [.lit (.bool true)]])
 (.ret))))))⟩
theorem t164 : trFn Tryz.prog Tryz.f164 = some c_entry_Space := by kernel_rfl
abbrev n_entry_Insert : Nat := 165
def c_entry_Insert : AFn := ⟨44, [.tmp 4, .tmp 5],
 .seq (.region [I 3 (.box 94 10) [T 1],
   I 4 (.mv) [.lit .nilsl],
   I 5 (.mv) [.lit (.bool false)]])
 (.seq (.region [I 8 (.mv) [T 0],
   I 9 (.callv) [F 172, T 8],
   I 0 (.mv) [T 9]])
 (.seq (.seq (.region [I 10 (.loadn 10) [T 3],
   I 11 (.callv) [F 161, T 10],
   I 12 (.un .not) [T 11]])
 (.cond (T 12)
 (.seq (.region [I 13 (.mv) [T 0],
    I 4 (.mv) [T 13],
    I 5 (.mv) [.lit (.bool false)]])
  (.ret))
 (.skip)))
 (.seq (.region [I 15 (.mv) [T 0],
   I 16 (.fieldAddr 0) [T 3],
   I 17 (.load1) [T 16],
   I 18 (.callv) [F 123, T 15, T 17],
   I 14 (.mv) [T 18],
   I 19 (.extract 0) [T 14],
   I 20 (.extract 1) [T 14],
   I 6 (.mv) [T 19],
   I 7 (.mv) [T 20]])
 (.seq (.seq (.draw [[⟨0, I 21 (.mv) [T 7], [], false⟩,
   ⟨1, I 22 (.mv) [T 21], [], false⟩,
   ⟨2, IG 23 (.mv) [T 6] 22 false, [], false⟩,
   ⟨3, IG 24 (.mv) [T 0] 22 false, [], false⟩,
   ⟨4, IG 25 (.lens) [T 24] 22 false, [], false⟩,
   ⟨5, IG 26 (.bin .lss) [T 23, T 25] 22 false, [], false⟩,
   ⟨6, IG 27 (.mv) [T 26] 22 false, [], false⟩,
   ⟨7, IG 28 (.mv) [T 0] 27 true, [], false⟩,
   ⟨8, IG 29 (.mv) [T 6] 27 true, [], false⟩,
   ⟨9, IG 30 (.indexs 10) [T 28, T 29] 27 true, [], false⟩,
   ⟨10, IG 31 (.fieldAddr 0) [T 30] 27 true, [], false⟩,
   ⟨11, IG 32 (.load1) [T 31] 27 true, [], false⟩,
   ⟨12, IG 33 (.fieldAddr 1) [T 3] 27 true, [], false⟩,
   ⟨13, IG 34 (.load1) [T 33] 27 true, [], false⟩,
   ⟨14, IG 35 (.bin .lss) [T 32, T 34] 27 true, [], false⟩,
   ⟨15, IG 36 (.pick) [T 27, T 35, .lit (.bool false)] 22 false, [], false⟩,
   ⟨16, I 37 (.pick) [T 22, .lit (.bool true), T 36], [], false⟩]])
 (.cond (T 37)
 (.seq (.region [I 38 (.mv) [T 0],
    I 4 (.mv) [T 38],
    I 5 (.mv) [.lit (.bool false)]])
  (.ret))
 (.skip)))
 (.seq (.region [I 39 (.mv) [T 0],
   I 40 (.mv) [T 6],
   I 41 (.loadn 10) [T 3],
   I 42 (.bslice 94 10 1 (.vals [(.int .i64 0), (.int .i64 0), (.int .i64 0), (.int .i64 0), (.bool false), (.int .i64 0), (.int .i64 0), (.int .i64 0), (.int .i64 0), (.bool false)]) [0]) [T 41],
   I 43 (.callv) [F 255, T 39, T 40, T 42],
   I 4 (.mv) [T 43],
   I 5 (.mv) [.lit (.bool true)]])
 (.ret))))))⟩
theorem t165 : trFn Tryz.prog Tryz.f165 = some c_entry_Insert := by kernel_rfl
abbrev n_entry_Merge : Nat := 166
def c_entry_Merge_L0 : ACode :=
 .seq (.region [I 10 (.bin .lss) [T 9, T 8]])
 (.seq (.cond (T 10)
 (.skip)
 (.exit 0))
 (.seq (.block 1 (.seq (.region [I 11 (.indexs 10) [T 7, T 9],
   I 12 (.loadn 10) [T 11],
   I 5 (.alloc 94 10 (.vals [(.int .i64 0), (.int .i64 0), (.int .i64 0), (.int .i64 0), (.bool false), (.int .i64 0), (.int .i64 0), (.int .i64 0), (.int .i64 0), (.bool false)])) [],
   J (.store 10) [T 5, T 12]])
 (.seq (.region [I 13 (.mv) [T 3],
   I 14 (.lens) [T 13],
   I 15 (.bin .sub) [T 14, N 1],
   I 6 (.mv) [T 15]])
 (.seq (.draw [[⟨0, I 16 (.mv) [T 6], [], false⟩,
   ⟨1, I 17 (.bin .geq) [T 16, N 0], [], false⟩,
   ⟨2, I 18 (.mv) [T 17], [], false⟩,
   ⟨3, IG 19 (.mv) [T 3] 18 true, [], false⟩,
   ⟨4, IG 20 (.mv) [T 6] 18 true, [], false⟩,
   ⟨5, IG 21 (.indexs 10) [T 19, T 20] 18 true, [], false⟩,
   ⟨6, IG 22 (.loadn 10) [T 21] 18 true, [], false⟩,
   ⟨7, IG 23 (.loadn 10) [T 5] 18 true, [], false⟩,
   ⟨9, IG 25 (.loadn 10) [T 5] 18 true, [], false⟩,
   ⟨8, IG 24 (.callv) [F 256, T 22, T 23] 18 true, [(9, IG 25 (.loadn 10) [T 5] 18 true)], false⟩,
   ⟨10, IG 26 (.eqv false (.flat [.int, .int, .int, .int, .bool, .int, .int, .int, .int, .bool])) [T 24, T 25] 18 true, [], false⟩,
   ⟨11, I 27 (.pick) [T 18, T 26, .lit (.bool false)], [], false⟩]])
 (.cond (T 27)
 (.region [I 28 (.mv) [T 3],
    I 29 (.mv) [T 6],
    I 30 (.fieldAddr 1) [T 5],
    I 31 (.load1) [T 30],
    I 32 (.indexs 10) [T 28, T 29],
    I 33 (.fieldAddr 1) [T 32],
    J (.store 1) [T 33, T 31]])
 (.region [I 34 (.mv) [T 3],
    I 35 (.loadn 10) [T 5],
    I 36 (.bslice 94 10 1 (.vals [(.int .i64 0), (.int .i64 0), (.int .i64 0), (.int .i64 0), (.bool false), (.int .i64 0), (.int .i64 0), (.int .i64 0), (.int .i64 0), (.bool false)]) [0]) [T 35],
    I 37 (.append 94 10 80 (.vals [(.int .i64 0), (.int .i64 0), (.int .i64 0), (.int .i64 0), (.bool false), (.int .i64 0), (.int .i64 0), (.int .i64 0), (.int .i64 0), (.bool false)])) [T 34, T 36],
    I 3 (.mv) [T 37]]))))))
 (.region [I 38 (.bin .add) [T 9, N 1],
   I 9 (.mv) [T 38]])))
def c_entry_Merge : AFn := ⟨40, [.tmp 2],
 .seq (.region [I 2 (.mv) [.lit .nilsl]])
 (.seq (.region [I 3 (.mv) [.lit .nilsl]])
 (.seq (.seq (.region [I 7 (.mv) [T 0],
   I 8 (.lens) [T 7],
   I 9 (.mv) [N 0]])
 (.block 0 (.loop c_entry_Merge_L0)))
 (.seq (.region [I 39 (.mv) [T 3],
   I 2 (.mv) [T 39]])
 (.ret))))⟩
theorem t166 : trFn Tryz.prog Tryz.f166 = some c_entry_Merge := by kernel_rfl
abbrev n_kern_Kernel_reach : Nat := 170
def c_kern_Kernel_reach : AFn := ⟨93, [.tmp 8, .tmp 9],
 .seq (.region [I 8 (.mv) [N 0],
   I 9 (.mv) [.lit (.bool false)]])
 (.seq (.region [I 18 (.mv) [T 1],
   I 19 (.nilCheck) [T 18],
   I 20 (.fieldAddr 0) [T 19],
   I 21 (.load1) [T 20],
   I 22 (.mv) [T 2],
   I 23 (.build (.agg [(.int .i64 0), (.int .i64 0)]) [(0, 1), (1, 1)]) [T 21, T 22],
   I 10 (.alloc 207 2 (.vals [(.int .i64 0), (.int .i64 0)])) [],
   J (.store 2) [T 10, T 23]])
 (.seq (.seq (.draw [[⟨0, I 25 (.mv) [T 0], [], false⟩,
   ⟨1, I 26 (.nilCheck) [T 25], [], false⟩,
   ⟨2, I 27 (.fieldAddr 8) [T 26], [], false⟩,
   ⟨3, I 28 (.load1) [T 27], [], false⟩,
   ⟨4, I 29 (.loadn 2) [T 10], [], false⟩,
   ⟨5, I 30 (.callv) [F 257, T 28, T 29], [], false⟩,
   ⟨6, I 24 (.mv) [T 30], [], false⟩,
   ⟨7, I 31 (.extract 0) [T 24], [], false⟩,
   ⟨8, I 32 (.extract 1) [T 24], [], false⟩,
   ⟨9, I 11 (.alloc 204 2 (.vals [(.int .i64 0), (.int .i64 0)])) [], [(3, I 28 (.load1) [T 27]), (4, I 29 (.loadn 2) [T 10])], false⟩,
   ⟨10, J (.store 2) [T 11, T 31], [], false⟩,
   ⟨11, I 12 (.mv) [T 32], [], false⟩]])
 (.seq (.region [I 33 (.mv) [T 12],
   I 34 (.mv) [T 33],
   IG 35 (.loadn 2) [T 11] 34 true,
   IG 36 (.mv) [T 3] 34 true,
   IG 37 (.callv) [F 258, T 35, T 36, .lit (.bool true)] 34 true,
   I 38 (.pick) [T 34, T 37, .lit (.bool false)],
   I 39 (.mv) [T 38],
   IG 40 (.mv) [T 3] 39 true,
   IG 41 (.bin .neq) [T 40, N 2] 39 true,
   IG 42 (.mv) [T 41] 39 true,
   IG 43 (.fieldAddr 0) [T 11] 42 false,
   IG 44 (.load1) [T 43] 42 false,
   IG 45 (.bin .and) [T 44, N 128] 42 false,
   IG 46 (.bin .gtr) [T 45, N 0] 42 false,
   IG 47 (.pick) [T 42, .lit (.bool true), T 46] 39 true,
   I 48 (.pick) [T 39, T 47, .lit (.bool false)]])
 (.cond (T 48)
 (.seq (.region [I 49 (.fieldAddr 1) [T 11],
    I 50 (.load1) [T 49],
    I 8 (.mv) [T 50],
    I 9 (.mv) [.lit (.bool true)]])
  (.ret))
 (.skip))))
 (.seq (.draw [[⟨0, I 52 (.mv) [T 0], [], false⟩,
   ⟨1, I 53 (.nilCheck) [T 52], [], false⟩,
   ⟨2, I 54 (.fieldAddr 0) [T 53], [], false⟩,
   ⟨3, I 55 (.load1) [T 54], [], false⟩,
   ⟨4, I 56 (.mv) [T 1], [], false⟩,
   ⟨5, I 57 (.nilCheck) [T 56], [], false⟩,
   ⟨6, I 58 (.fieldAddr 2) [T 57], [], false⟩,
   ⟨7, I 59 (.load1) [T 58], [], false⟩,
   ⟨9, I 61 (.mv) [T 2], [], false⟩,
   ⟨10, I 62 (.bin .shl) [T 61, .lit (.int .u64 12)], [], false⟩,
   ⟨11, I 63 (.mv) [T 3], [], false⟩,
   ⟨8, I 60 (.callv) [F 260, T 59], [(3, I 55 (.load1) [T 54])], false⟩,
   ⟨12, I 64 (.callv) [F 259, T 55, T 60, T 62, T 63, .lit (.bool true)], [], false⟩,
   ⟨13, I 51 (.mv) [T 64], [], false⟩,
   ⟨14, I 65 (.extract 0) [T 51], [], false⟩,
   ⟨15, I 66 (.extract 1) [T 51], [], false⟩,
   ⟨16, I 67 (.extract 2) [T 51], [], false⟩,
   ⟨17, I 13 (.mv) [T 65], [], false⟩,
   ⟨18, I 14 (.mv) [T 66], [], false⟩,
   ⟨19, I 15 (.mv) [T 67], [], false⟩]])
 (.seq (.seq (.region [I 68 (.mv) [T 13],
   I 69 (.bin .neq) [T 68, N 0]])
 (.cond (T 69)
 (.seq (.region [I 8 (.mv) [N (-1)],
    I 9 (.mv) [.lit (.bool false)]])
  (.ret))
 (.skip)))
 (.seq (.seq (.draw [[⟨0, I 71 (.mv) [T 0], [], false⟩,
   ⟨1, I 72 (.nilCheck) [T 71], [], false⟩,
   ⟨2, I 73 (.fieldAddr 0) [T 72], [], false⟩,
   ⟨3, I 74 (.load1) [T 73], [], false⟩,
   ⟨4, I 75 (.mv) [T 1], [], false⟩,
   ⟨5, I 76 (.nilCheck) [T 75], [], false⟩,
   ⟨6, I 77 (.fieldAddr 2) [T 76], [], false⟩,
   ⟨7, I 78 (.load1) [T 77], [], false⟩,
   ⟨9, I 80 (.mv) [T 2], [], false⟩,
   ⟨8, I 79 (.callv) [F 260, T 78], [(3, I 74 (.load1) [T 73])], false⟩,
   ⟨10, I 81 (.callv) [F 261, T 74, T 79, T 80], [], false⟩,
   ⟨11, I 70 (.mv) [T 81], [], false⟩,
   ⟨12, I 82 (.extract 0) [T 70], [], false⟩,
   ⟨13, I 83 (.extract 1) [T 70], [], false⟩,
   ⟨14, I 16 (.alloc 204 2 (.vals [(.int .i64 0), (.int .i64 0)])) [], [(3, I 74 (.load1) [T 73]), (7, I 78 (.load1) [T 77])], false⟩,
   ⟨15, J (.store 2) [T 16, T 82], [], false⟩,
   ⟨16, I 17 (.mv) [T 83], [], false⟩]])
 (.seq (.region [I 84 (.mv) [T 17]])
 (.cond (T 84)
 (.draw [[⟨0, I 85 (.mv) [T 0], [], false⟩,
    ⟨1, I 86 (.nilCheck) [T 85], [], false⟩,
    ⟨2, I 87 (.fieldAddr 8) [T 86], [], false⟩,
    ⟨3, I 88 (.load1) [T 87], [], false⟩,
    ⟨4, I 89 (.loadn 2) [T 10], [], false⟩,
    ⟨5, I 90 (.loadn 2) [T 16], [], false⟩,
    ⟨6, I 91 (.callv) [F 262, T 88, T 89, T 90], [], false⟩]])
 (.skip))))
 (.seq (.region [I 92 (.mv) [T 14],
   I 8 (.mv) [T 92],
   I 9 (.mv) [.lit (.bool true)]])
 (.ret)))))))⟩
theorem t170 : trFn Tryz.prog Tryz.f170 = some c_kern_Kernel_reach := by kernel_rfl
abbrev n_kern_Kernel_fault : Nat := 171
def c_kern_Kernel_fault : AFn := ⟨98, [.tmp 8],
 .seq (.region [I 8 (.mv) [N 0]])
 (.seq (.region [I 15 (.mv) [T 1],
   I 16 (.nilCheck) [T 15],
   I 17 (.fieldAddr 1) [T 16],
   I 18 (.load1) [T 17],
   I 19 (.mv) [T 2],
   I 20 (.callv) [F 55, T 18, T 19],
   I 14 (.mv) [T 20],
   I 21 (.extract 0) [T 14],
   I 22 (.extract 1) [T 14],
   I 9 (.alloc 94 10 (.vals [(.int .i64 0), (.int .i64 0), (.int .i64 0), (.int .i64 0), (.bool false), (.int .i64 0), (.int .i64 0), (.int .i64 0), (.int .i64 0), (.bool false)])) [],
   J (.store 10) [T 9, T 21],
   I 10 (.mv) [T 22]])
 (.seq (.region [I 11 (.mv) [N 0]])
 (.seq (.region [I 12 (.mv) [N 0]])
 (.seq (.block 0 (.seq (.region [I 33 (.fieldAddr 4) [T 9],
   I 34 (.load1) [T 33],
   I 35 (.mv) [T 34],
   IG 36 (.mv) [T 3] 35 true,
   I 37 (.pick) [T 35, T 36, .lit (.bool false)],
   I 32 (.mv) [T 37]])
 (.cond (T 32)
 (.region [I 39 (.mv) [T 0],
    I 40 (.fieldAddr 2) [T 9],
    I 41 (.load1) [T 40],
    I 42 (.fieldAddr 3) [T 9],
    I 43 (.load1) [T 42],
    I 44 (.mv) [T 2],
    I 45 (.bin .add) [T 43, T 44],
    I 46 (.fieldAddr 0) [T 9],
    I 47 (.load1) [T 46],
    I 48 (.bin .sub) [T 45, T 47],
    I 49 (.callv) [F 78, T 39, T 41, T 48],
    I 38 (.mv) [T 49],
    I 50 (.extract 0) [T 38],
    I 51 (.extract 1) [T 38],
    I 11 (.mv) [T 50],
    I 12 (.mv) [T 51]])
 (.seq (.region [I 53 (.fieldAddr 4) [T 9],
    I 54 (.load1) [T 53],
    I 52 (.mv) [T 54]])
  (.cond (T 52)
  (.region [I 56 (.mv) [T 0],
     I 57 (.fieldAddr 2) [T 9],
     I 58 (.load1) [T 57],
     I 59 (.fieldAddr 3) [T 9],
     I 60 (.load1) [T 59],
     I 61 (.mv) [T 2],
     I 62 (.bin .add) [T 60, T 61],
     I 63 (.fieldAddr 0) [T 9],
     I 64 (.load1) [T 63],
     I 65 (.bin .sub) [T 62, T 64],
     I 66 (.callv) [F 76, T 56, T 58, T 65],
     I 55 (.mv) [T 66],
     I 67 (.extract 0) [T 55],
     I 68 (.extract 1) [T 55],
     I 69 (.extract 2) [T 55],
     I 11 (.mv) [T 68],
     I 12 (.mv) [T 69]])
  (.region [I 24 (.mv) [T 0],
     I 25 (.mv) [T 1],
     I 26 (.loadn 10) [T 9],
     I 27 (.mv) [T 2],
     I 28 (.mv) [T 3],
     I 29 (.callv) [F 263, T 24, T 25, T 26, T 27, T 28],
     I 23 (.mv) [T 29],
     I 30 (.extract 0) [T 23],
     I 31 (.extract 1) [T 23],
     I 11 (.mv) [T 30],
     I 12 (.mv) [T 31]]))))))
 (.seq (.seq (.region [I 70 (.mv) [T 12],
   I 71 (.bin .neq) [T 70, N 0]])
 (.cond (T 71)
 (.seq (.region [I 72 (.mv) [T 12],
    I 8 (.mv) [T 72]])
  (.ret))
 (.skip)))
 (.seq (.region [I 73 (.fieldAddr 5) [T 9],
   I 74 (.load1) [T 73],
   I 13 (.mv) [T 74]])
 (.seq (.seq (.region [I 75 (.mv) [T 3],
   I 76 (.un .not) [T 75]])
 (.cond (T 76)
 (.region [I 77 (.mv) [T 13],
    I 78 (.bin .andNot) [T 77, N 2],
    I 13 (.mv) [T 78]])
 (.skip)))
 (.seq (.draw [[⟨0, I 79 (.mv) [T 0], [], false⟩,
   ⟨1, I 80 (.nilCheck) [T 79], [], false⟩,
   ⟨2, I 81 (.fieldAddr 8) [T 80], [], false⟩,
   ⟨3, I 82 (.load1) [T 81], [], false⟩,
   ⟨4, I 83 (.mv) [T 1], [], false⟩,
   ⟨5, I 84 (.nilCheck) [T 83], [], false⟩,
   ⟨6, I 85 (.fieldAddr 0) [T 84], [], false⟩,
   ⟨7, I 86 (.load1) [T 85], [], false⟩,
   ⟨8, I 87 (.mv) [T 2], [], false⟩,
   ⟨9, I 88 (.build (.agg [(.int .i64 0), (.int .i64 0)]) [(0, 1), (1, 1)]) [T 86, T 87], [], false⟩,
   ⟨10, I 89 (.callv) [F 143, T 82, T 88], [], false⟩]])
 (.seq (.region [I 90 (.mv) [T 1],
   I 91 (.nilCheck) [T 90],
   I 92 (.fieldAddr 2) [T 91],
   I 93 (.load1) [T 92],
   I 94 (.mv) [T 2],
   I 95 (.mv) [T 11],
   I 96 (.mv) [T 13],
   I 97 (.callv) [F 264, T 93, T 94, T 95, T 96],
   I 8 (.mv) [T 97]])
 (.ret))))))))))⟩
theorem t171 : trFn Tryz.prog Tryz.f171 = some c_kern_Kernel_fault := by kernel_rfl
abbrev n_slices_Clone_api_Entry_api_Entry : Nat := 172
def c_slices_Clone_api_Entry_api_Entry : AFn := ⟨8, [.tmp 2],
 .seq (.region [I 2 (.mv) [.lit .nilsl]])
 (.seq (.seq (.region [I 3 (.mv) [T 0],
   I 4 (.eqv false .slice) [T 3, .lit .nilsl]])
 (.cond (T 4)
 (.seq (.region [I 2 (.mv) [.lit .nilsl]])
  (.ret))
 (.skip)))
 (.seq (.region [I 5 (.bslice 94 10 0 (.vals [(.int .i64 0), (.int .i64 0), (.int .i64 0), (.int .i64 0), (.bool false), (.int .i64 0), (.int .i64 0), (.int .i64 0), (.int .i64 0), (.bool false)]) []) [],
   I 6 (.mv) [T 0],
   I 7 (.append 94 10 80 (.vals [(.int .i64 0), (.int .i64 0), (.int .i64 0), (.int .i64 0), (.bool false), (.int .i64 0), (.int .i64 0), (.int .i64 0), (.int .i64 0), (.bool false)])) [T 5, T 6],
   I 2 (.mv) [T 7]])
 (.ret)))⟩
theorem t172 : trFn Tryz.prog Tryz.f172 = some c_slices_Clone_api_Entry_api_Entry := by kernel_rfl
abbrev n_kern_Kernel_own : Nat := 174
def c_kern_Kernel_own_L0 : ACode :=
 .seq (.seq (.region [I 37 (.mv) [T 10],
   I 38 (.mv) [T 8],
   I 39 (.nilCheck) [T 38],
   I 40 (.loadn 6) [T 39],
   I 41 (.callv) [F 176, T 40],
   I 42 (.bin .lss) [T 37, T 41]])
 (.cond (T 42)
 (.skip)
 (.exit 0)))
 (.seq (.block 1 (.draw [[⟨0, I 45 (.mv) [T 9], [], false⟩,
   ⟨1, I 46 (.mv) [T 45], [], false⟩,
   ⟨2, IG 47 (.mv) [T 0] 46 true, [], false⟩,
   ⟨3, IG 48 (.nilCheck) [T 47] 46 true, [], false⟩,
   ⟨4, IG 49 (.fieldAddr 6) [T 48] 46 true, [], false⟩,
   ⟨5, IG 50 (.load1) [T 49] 46 true, [], false⟩,
   ⟨6, IG 51 (.mv) [T 8] 46 true, [], false⟩,
   ⟨7, IG 52 (.nilCheck) [T 51] 46 true, [], false⟩,
   ⟨8, IG 53 (.fieldAddr 2) [T 52] 46 true, [], false⟩,
   ⟨9, IG 54 (.load1) [T 53] 46 true, [], false⟩,
   ⟨10, IG 55 (.mv) [T 10] 46 true, [], false⟩,
   ⟨11, IG 56 (.callv) [F 267, T 50, T 54, T 55] 46 true, [], false⟩,
   ⟨12, IG 57 (.bin .eql) [T 56, N 1] 46 true, [], false⟩,
   ⟨13, I 58 (.pick) [T 46, T 57, .lit (.bool false)], [], false⟩,
   ⟨14, I 9 (.mv) [T 58], [], true⟩]]))
 (.region [I 43 (.mv) [T 10],
   I 44 (.bin .add) [T 43, N 1],
   I 10 (.mv) [T 44]]))
def c_kern_Kernel_own_L1 : ACode :=
 .seq (.region [I 88 (.bin .lss) [T 87, T 86]])
 (.seq (.cond (T 88)
 (.skip)
 (.exit 2))
 (.seq (.block 3 (.seq (.region [I 89 (.indexs 1) [T 85, T 87],
   I 90 (.load1) [T 89],
   I 15 (.mv) [T 90]])
 (.region [I 91 (.mv) [T 0],
   I 92 (.nilCheck) [T 91],
   I 93 (.fieldAddr 5) [T 92],
   I 94 (.load1) [T 93],
   I 95 (.mv) [T 15],
   I 96 (.callv) [F 269, T 94, T 95, N 1]])))
 (.region [I 97 (.bin .add) [T 87, N 1],
   I 87 (.mv) [T 97]])))
def c_kern_Kernel_own : AFn := ⟨114, [.tmp 6, .tmp 7],
 .seq (.region [I 6 (.mv) [.lit .nilptr],
   I 7 (.mv) [N 0]])
 (.seq (.region [I 16 (.mv) [T 1],
   I 17 (.mv) [T 2],
   I 18 (.callv) [F 125, T 16, T 17],
   I 8 (.mv) [T 18]])
 (.seq (.seq (.region [I 19 (.mv) [T 8],
   I 20 (.eqv false .ptr) [T 19, .lit .nilptr]])
 (.cond (T 20)
 (.seq (.region [I 21 (.mv) [T 0],
    I 22 (.mv) [T 1],
    I 23 (.mv) [T 2],
    I 24 (.callv) [F 266, T 21, T 22, T 23],
    I 25 (.extract 0) [T 24],
    I 26 (.extract 1) [T 24],
    I 6 (.mv) [T 25],
    I 7 (.mv) [T 26]])
  (.ret))
 (.skip)))
 (.seq (.seq (.region [I 27 (.mv) [T 8],
   I 28 (.nilCheck) [T 27],
   I 29 (.fieldAddr 4) [T 28],
   I 30 (.load1) [T 29],
   I 31 (.un .not) [T 30]])
 (.cond (T 31)
 (.seq (.region [I 32 (.mv) [T 8],
    I 6 (.mv) [T 32],
    I 7 (.mv) [N 0]])
  (.ret))
 (.skip)))
 (.seq (.region [I 9 (.mv) [.lit (.bool true)]])
 (.seq (.seq (.region [I 33 (.mv) [T 8],
   I 34 (.nilCheck) [T 33],
   I 35 (.fieldAddr 3) [T 34],
   I 36 (.load1) [T 35],
   I 10 (.mv) [T 36]])
 (.block 0 (.loop c_kern_Kernel_own_L0)))
 (.seq (.seq (.region [I 59 (.mv) [T 9],
   I 60 (.un .not) [T 59]])
 (.cond (T 60)
 (.seq (.draw [[⟨0, I 62 (.mv) [T 0], [], false⟩,
    ⟨1, I 63 (.nilCheck) [T 62], [], false⟩,
    ⟨2, I 64 (.fieldAddr 6) [T 63], [], false⟩,
    ⟨3, I 65 (.load1) [T 64], [], false⟩,
    ⟨4, I 66 (.mv) [T 8], [], false⟩,
    ⟨5, I 67 (.nilCheck) [T 66], [], false⟩,
    ⟨6, I 68 (.fieldAddr 2) [T 67], [], false⟩,
    ⟨7, I 69 (.load1) [T 68], [], false⟩,
    ⟨8, I 70 (.mv) [T 8], [], false⟩,
    ⟨9, I 71 (.nilCheck) [T 70], [], false⟩,
    ⟨10, I 72 (.fieldAddr 3) [T 71], [], false⟩,
    ⟨11, I 73 (.load1) [T 72], [], false⟩,
    ⟨12, I 74 (.mv) [T 8], [], false⟩,
    ⟨13, I 75 (.nilCheck) [T 74], [], false⟩,
    ⟨14, I 76 (.loadn 6) [T 75], [], false⟩,
    ⟨15, I 77 (.callv) [F 176, T 76], [(3, I 65 (.load1) [T 64]), (7, I 69 (.load1) [T 68]), (11, I 73 (.load1) [T 72])], false⟩,
    ⟨16, I 78 (.callv) [F 268, T 65, T 69, T 73, T 77], [], false⟩,
    ⟨17, I 61 (.mv) [T 78], [], false⟩,
    ⟨18, I 79 (.extract 0) [T 61], [], false⟩,
    ⟨19, I 80 (.extract 1) [T 61], [], false⟩,
    ⟨20, I 81 (.extract 2) [T 61], [], false⟩,
    ⟨21, I 11 (.mv) [T 79], [], false⟩,
    ⟨22, I 12 (.mv) [T 80], [], false⟩,
    ⟨23, I 13 (.mv) [T 81], [], false⟩]])
  (.seq (.seq (.region [I 82 (.mv) [T 13],
    I 83 (.bin .neq) [T 82, N 0]])
  (.cond (T 83)
  (.seq (.region [I 84 (.mv) [T 13],
     I 6 (.mv) [.lit .nilptr],
     I 7 (.mv) [T 84]])
   (.ret))
  (.skip)))
  (.seq (.seq (.region [I 85 (.mv) [T 12],
    I 86 (.lens) [T 85],
    I 87 (.mv) [N 0]])
  (.block 2 (.loop c_kern_Kernel_own_L1)))
  (.seq (.region [I 98 (.mv) [T 0],
    I 99 (.mv) [T 8],
    I 100 (.nilCheck) [T 99],
    I 101 (.loadn 6) [T 100],
    I 102 (.callv) [F 95, T 98, T 101]])
  (.region [I 103 (.mv) [T 8],
    I 104 (.mv) [T 8],
    I 105 (.mv) [T 11],
    I 106 (.nilCheck) [T 103],
    I 107 (.fieldAddr 2) [T 106],
    J (.store 1) [T 107, T 105],
    I 108 (.nilCheck) [T 104],
    I 109 (.fieldAddr 3) [T 108],
    J (.store 1) [T 109, N 0]])))))
 (.skip)))
 (.seq (.region [I 110 (.mv) [T 8],
   I 111 (.nilCheck) [T 110],
   I 112 (.fieldAddr 4) [T 111],
   J (.store 1) [T 112, .lit (.bool false)]])
 (.seq (.region [I 113 (.mv) [T 8],
   I 6 (.mv) [T 113],
   I 7 (.mv) [N 0]])
 (.ret)))))))))⟩
theorem t174 : trFn Tryz.prog Tryz.f174 = some c_kern_Kernel_own := by kernel_rfl
abbrev n_pmap_Map_made : Nat := 178
def c_pmap_Map_made : AFn := ⟨12, [.tmp 2],
 .seq (.region [I 2 (.mv) [.lit (.bool false)]])
 (.seq (.region [I 3 (.mv) [T 0],
   I 4 (.eqv true .ptr) [T 3, .lit .nilptr],
   I 5 (.mv) [T 4],
   IG 6 (.mv) [T 0] 5 true,
   IG 7 (.nilCheck) [T 6] 5 true,
   IG 8 (.fieldAddr 4) [T 7] 5 true,
   IG 9 (.load1) [T 8] 5 true,
   IG 10 (.bin .gtr) [T 9, N 0] 5 true,
   I 11 (.pick) [T 5, T 10, .lit (.bool false)],
   I 2 (.mv) [T 11]])
 (.ret))⟩
theorem t178 : trFn Tryz.prog Tryz.f178 = some c_pmap_Map_made := by kernel_rfl
abbrev n_pmap_Map_below : Nat := 179
def c_pmap_Map_below : AFn := ⟨38, [.tmp 6, .tmp 7],
 .seq (.region [I 6 (.mv) [N 0],
   I 7 (.mv) [.lit (.bool false)]])
 (.seq (.region [I 12 (.mv) [T 0],
   I 13 (.nilCheck) [T 12],
   I 14 (.fieldAddr 0) [T 13],
   I 15 (.load1) [T 14],
   I 16 (.mv) [T 1],
   I 17 (.mv) [T 2],
   I 18 (.callv) [F 273, T 15, T 16, T 17],
   I 11 (.mv) [T 18],
   I 19 (.extract 0) [T 11],
   I 20 (.extract 1) [T 11],
   I 8 (.mv) [T 19],
   I 9 (.mv) [T 20]])
 (.seq (.region [I 21 (.mv) [T 8],
   I 22 (.callv) [F 274, T 21],
   I 10 (.alloc 204 2 (.vals [(.int .i64 0), (.int .i64 0)])) [],
   J (.store 2) [T 10, T 22]])
 (.seq (.draw [[⟨0, I 23 (.fieldAddr 1) [T 10], [], false⟩,
   ⟨1, I 24 (.load1) [T 23], [], false⟩,
   ⟨2, I 25 (.loadn 2) [T 10], [], false⟩,
   ⟨3, I 26 (.callv) [F 275, T 25], [(1, I 24 (.load1) [T 23])], false⟩,
   ⟨4, I 27 (.bin .eql) [T 26, N 1], [], false⟩,
   ⟨5, I 28 (.mv) [T 27], [], false⟩,
   ⟨6, IG 29 (.fieldAddr 1) [T 10] 28 true, [], false⟩,
   ⟨7, IG 30 (.load1) [T 29] 28 true, [], false⟩,
   ⟨8, IG 31 (.mv) [T 0] 28 true, [], false⟩,
   ⟨9, IG 32 (.nilCheck) [T 31] 28 true, [], false⟩,
   ⟨10, IG 33 (.fieldAddr 0) [T 32] 28 true, [], false⟩,
   ⟨11, IG 34 (.load1) [T 33] 28 true, [], false⟩,
   ⟨12, IG 35 (.callv) [F 44, T 34] 28 true, [(1, I 24 (.load1) [T 23]), (7, IG 30 (.load1) [T 29] 28 true)], false⟩,
   ⟨13, IG 36 (.bin .lss) [T 30, T 35] 28 true, [], false⟩,
   ⟨14, I 37 (.pick) [T 28, T 36, .lit (.bool false)], [], false⟩,
   ⟨15, I 6 (.mv) [T 24], [], false⟩,
   ⟨16, I 7 (.mv) [T 37], [], false⟩]])
 (.ret))))⟩
theorem t179 : trFn Tryz.prog Tryz.f179 = some c_pmap_Map_below := by kernel_rfl
abbrev n_pmap_Map_give : Nat := 180
def c_pmap_Map_give : AFn := ⟨35, [],
 .seq (.region [I 9 (.mv) [T 0],
   I 10 (.mv) [T 1],
   I 11 (.mv) [T 2],
   I 12 (.callv) [F 179, T 9, T 10, T 11],
   I 8 (.mv) [T 12],
   I 13 (.extract 0) [T 8],
   I 14 (.extract 1) [T 8],
   I 6 (.mv) [T 13],
   I 7 (.mv) [T 14]])
 (.seq (.region [I 15 (.mv) [T 0],
   I 16 (.nilCheck) [T 15],
   I 17 (.fieldAddr 1) [T 16],
   I 18 (.load1) [T 17],
   I 19 (.mv) [T 6],
   I 20 (.callv) [F 117, T 18, T 19]])
 (.seq (.region [I 21 (.mv) [T 0],
   I 22 (.nilCheck) [T 21],
   I 23 (.fieldAddr 0) [T 22],
   I 24 (.load1) [T 23],
   I 25 (.mv) [T 1],
   I 26 (.mv) [T 2],
   I 27 (.callv) [F 276, T 24, T 25, T 26, .lit (.int .u64 0)]])
 (.region [I 28 (.mv) [T 0],
   I 29 (.nilCheck) [T 28],
   I 30 (.fieldAddr 4) [T 29],
   I 31 (.load1) [T 30],
   I 32 (.bin .sub) [T 31, N 1],
   I 33 (.nilCheck) [T 28],
   I 34 (.fieldAddr 4) [T 33],
   J (.store 1) [T 34, T 32]])))⟩
theorem t180 : trFn Tryz.prog Tryz.f180 = some c_pmap_Map_give := by kernel_rfl
abbrev n_tlb_Table_drop : Nat := 181
def c_tlb_Table_drop_L0 : ACode :=
 .seq (.region [I 22 (.bin .lss) [T 21, T 20]])
 (.seq (.cond (T 22)
 (.skip)
 (.exit 0))
 (.seq (.block 1 (.seq (.region [I 23 (.indexs 2) [T 19, T 21],
   I 24 (.loadn 2) [T 23],
   I 8 (.alloc 207 2 (.vals [(.int .i64 0), (.int .i64 0)])) [],
   J (.store 2) [T 8, T 24]])
 (.seq (.region [I 25 (.mv) [T 1],
   I 26 (.loadn 2) [T 8],
   I 27 (.callv) [T 25, T 26]])
 (.cond (T 27)
 (.draw [[⟨0, I 28 (.mv) [T 0], [], false⟩,
    ⟨1, I 29 (.nilCheck) [T 28], [], false⟩,
    ⟨2, I 30 (.fieldAddr 2) [T 29], [], false⟩,
    ⟨3, I 31 (.load1) [T 30], [], false⟩,
    ⟨4, I 32 (.loadn 2) [T 8], [], false⟩,
    ⟨5, J (.delete (.flat [.int, .int])) [T 31, T 32], [], false⟩]])
 (.region [I 33 (.mv) [T 6],
    I 34 (.loadn 2) [T 8],
    I 35 (.bslice 207 2 1 (.vals [(.int .i64 0), (.int .i64 0)]) [0]) [T 34],
    I 36 (.append 207 2 16 (.vals [(.int .i64 0), (.int .i64 0)])) [T 33, T 35],
    I 6 (.mv) [T 36]])))))
 (.region [I 37 (.bin .add) [T 21, N 1],
   I 21 (.mv) [T 37]])))
def c_tlb_Table_drop : AFn := ⟨46, [.tmp 4],
 .seq (.region [I 4 (.mv) [N 0]])
 (.seq (.seq (.region [I 9 (.mv) [T 0],
   I 10 (.eqv false .ptr) [T 9, .lit .nilptr]])
 (.cond (T 10)
 (.seq (.region [I 4 (.mv) [N 0]])
  (.ret))
 (.skip)))
 (.seq (.region [I 11 (.mv) [T 0],
   I 12 (.nilCheck) [T 11],
   I 13 (.fieldAddr 1) [T 12],
   I 14 (.load1) [T 13],
   I 15 (.lens) [T 14],
   I 5 (.mv) [T 15]])
 (.seq (.region [I 6 (.mv) [.lit .nilsl]])
 (.seq (.seq (.region [I 16 (.mv) [T 0],
   I 17 (.nilCheck) [T 16],
   I 18 (.fieldAddr 1) [T 17],
   I 19 (.load1) [T 18],
   I 20 (.lens) [T 19],
   I 21 (.mv) [N 0]])
 (.block 0 (.loop c_tlb_Table_drop_L0)))
 (.seq (.region [I 38 (.mv) [T 0],
   I 39 (.mv) [T 6],
   I 40 (.nilCheck) [T 38],
   I 41 (.fieldAddr 1) [T 40],
   J (.store 1) [T 41, T 39]])
 (.seq (.region [I 42 (.mv) [T 5],
   I 43 (.mv) [T 6],
   I 44 (.lens) [T 43],
   I 45 (.bin .sub) [T 42, T 44],
   I 4 (.mv) [T 45]])
 (.ret)))))))⟩
theorem t181 : trFn Tryz.prog Tryz.f181 = some c_tlb_Table_drop := by kernel_rfl
abbrev n_amap_Pool_made : Nat := 184
def c_amap_Pool_made : AFn := ⟨11, [.tmp 2],
 .seq (.region [I 2 (.mv) [.lit (.bool false)]])
 (.seq (.region [I 3 (.mv) [T 0],
   I 4 (.eqv true .ptr) [T 3, .lit .nilptr],
   I 5 (.mv) [T 4],
   IG 6 (.mv) [T 0] 5 true,
   IG 7 (.nilCheck) [T 6] 5 true,
   IG 8 (.fieldAddr 1) [T 7] 5 true,
   IG 9 (.load1) [T 8] 5 true,
   I 10 (.pick) [T 5, T 9, .lit (.bool false)],
   I 2 (.mv) [T 10]])
 (.ret))⟩
theorem t184 : trFn Tryz.prog Tryz.f184 = some c_amap_Pool_made := by kernel_rfl
abbrev n_spread_New : Nat := 185
def c_spread_New : AFn := ⟨16, [.tmp 2],
 .seq (.region [I 2 (.mv) [.lit .nilptr]])
 (.seq (.seq (.region [I 4 (.mv) [T 0],
   I 5 (.bin .lss) [T 4, N 0],
   I 6 (.mv) [T 5],
   IG 7 (.mv) [T 0] 6 false,
   IG 8 (.bin .gtr) [T 7, N 4096] 6 false,
   I 9 (.pick) [T 6, .lit (.bool true), T 8]])
 (.cond (T 9)
 (.seq (.region [I 2 (.mv) [.lit .nilptr]])
  (.ret))
 (.skip)))
 (.seq (.region [I 10 (.build (.agg [.nilsl, (.int .i64 0), (.bool false)]) [(2, 1)]) [.lit (.bool true)],
   I 11 (.box 330 3) [T 10],
   I 3 (.mv) [T 11]])
 (.seq (.region [I 12 (.mv) [T 3],
   I 13 (.mv) [T 0],
   I 14 (.callv) [F 277, T 12, T 13]])
 (.seq (.region [I 15 (.mv) [T 3],
   I 2 (.mv) [T 15]])
 (.ret)))))⟩
theorem t185 : trFn Tryz.prog Tryz.f185 = some c_spread_New := by kernel_rfl
abbrev n_spread_Counts_Add : Nat := 186
def c_spread_Counts_Add_L1 : ACode :=
 .seq (.seq (.region [I 53 (.load1) [T 7],
   I 54 (.bin .neq) [T 53, N 0],
   I 55 (.mv) [T 54],
   IG 56 (.load1) [T 7] 55 true,
   IG 57 (.fieldAddr 2) [T 11] 55 true,
   IG 58 (.load1) [T 57] 55 true,
   IG 59 (.un .neg) [T 58] 55 true,
   IG 60 (.bin .eql) [T 56, T 59] 55 true,
   I 61 (.pick) [T 55, T 60, .lit (.bool false)],
   I 62 (.mv) [T 61],
   IG 63 (.mv) [T 12] 62 true,
   IG 64 (.fieldAddr 1) [T 11] 62 true,
   IG 65 (.load1) [T 64] 62 true,
   IG 66 (.bin .lss) [T 63, T 65] 62 true,
   I 67 (.pick) [T 62, T 66, .lit (.bool false)]])
 (.cond (T 67)
 (.skip)
 (.exit 2)))
 (.seq (.block 3 (.region [I 70 (.load1) [T 10],
   I 71 (.mv) [T 12],
   I 72 (.bslice 3 1 1 (.vals [(.int .i64 0)]) [0]) [T 71],
   I 73 (.append 3 1 8 (.vals [(.int .i64 0)])) [T 70, T 72],
   J (.store 1) [T 10, T 73]]))
 (.region [I 68 (.mv) [T 12],
   I 69 (.bin .add) [T 68, N 1],
   I 12 (.mv) [T 69]]))
def c_spread_Counts_Add_A0 : ACode :=
 .region [I 11 (.alloc 323 3 (.vals [(.int .i64 0), (.int .i64 0), (.int .i64 0)])) [],
   J (.store 3) [T 11, T 38]]
def c_spread_Counts_Add_B0 : ACode :=
 .block 1 (.seq (.seq (.region [I 39 (.load1) [T 7],
   I 40 (.fieldAddr 2) [T 11],
   I 41 (.load1) [T 40],
   I 42 (.un .neg) [T 41],
   I 43 (.bin .lss) [T 39, T 42],
   I 44 (.mv) [T 43],
   IG 45 (.load1) [T 7] 44 false,
   IG 46 (.fieldAddr 2) [T 11] 44 false,
   IG 47 (.load1) [T 46] 44 false,
   IG 48 (.bin .sub) [N 1000000, T 47] 44 false,
   IG 49 (.bin .gtr) [T 45, T 48] 44 false,
   I 50 (.pick) [T 44, .lit (.bool true), T 49]])
 (.cond (T 50)
 (.seq (.region [J (.store 1) [T 8, .lit .nilsl],
    J (.store 1) [T 9, N 2]])
  (.ret))
 (.skip)))
 (.seq (.region [I 51 (.fieldAddr 0) [T 11],
   I 52 (.load1) [T 51],
   I 12 (.mv) [T 52]])
 (.block 2 (.loop c_spread_Counts_Add_L1))))
def c_spread_Counts_Add_L2 : ACode :=
 .seq (.region [I 87 (.bin .lss) [T 86, T 85]])
 (.seq (.cond (T 87)
 (.skip)
 (.exit 4))
 (.seq (.block 5 (.seq (.region [I 88 (.mv) [T 86],
   I 89 (.indexs 3) [T 84, T 86],
   I 90 (.loadn 3) [T 89],
   I 15 (.alloc 323 3 (.vals [(.int .i64 0), (.int .i64 0), (.int .i64 0)])) [],
   I 14 (.mv) [T 88],
   J (.store 3) [T 15, T 90]])
 (.seq (.region [I 91 (.fieldAddr 0) [T 15],
   I 92 (.load1) [T 91],
   I 93 (.mv) [T 1],
   I 94 (.bin .geq) [T 92, T 93],
   I 95 (.mv) [T 94],
   IG 96 (.fieldAddr 1) [T 15] 95 true,
   IG 97 (.load1) [T 96] 95 true,
   IG 98 (.mv) [T 2] 95 true,
   IG 99 (.bin .leq) [T 97, T 98] 95 true,
   I 100 (.pick) [T 95, T 99, .lit (.bool false)]])
 (.cond (T 100)
 (.draw [[⟨0, I 101 (.mv) [T 13], [], false⟩,
    ⟨1, I 102 (.mv) [T 14], [], false⟩,
    ⟨2, I 103 (.indexs 3) [T 101, T 102], [], false⟩,
    ⟨3, I 104 (.fieldAddr 2) [T 103], [], false⟩,
    ⟨4, I 105 (.load1) [T 104], [], false⟩,
    ⟨5, I 106 (.load1) [T 7], [], false⟩,
    ⟨6, I 107 (.bin .add) [T 105, T 106], [], false⟩,
    ⟨7, I 108 (.indexs 3) [T 101, T 102], [], false⟩,
    ⟨8, I 109 (.fieldAddr 2) [T 108], [], false⟩,
    ⟨9, J (.store 1) [T 109, T 107], [], false⟩]])
 (.skip)))))
 (.region [I 110 (.bin .add) [T 86, N 1],
   I 86 (.mv) [T 110]])))
def c_spread_Counts_Add : AFn := ⟨117, [.cell 8 (.load1), .cell 9 (.load1)],
 .seq (.region [I 7 (.box 3 1) [T 3],
   I 8 (.alloc 34 1 (.vals [.nilsl])) [],
   I 9 (.alloc 24 1 (.vals [(.int .i64 0)])) []])
 (.seq (.seq (.region [I 16 (.mv) [T 0],
   I 17 (.callv) [F 278, T 16],
   I 18 (.un .not) [T 17]])
 (.cond (T 18)
 (.seq (.region [J (.store 1) [T 8, .lit .nilsl],
    J (.store 1) [T 9, N 1]])
  (.ret))
 (.skip)))
 (.seq (.seq (.region [I 19 (.mv) [T 1],
   I 20 (.bin .lss) [T 19, N 0],
   I 21 (.mv) [T 20],
   IG 22 (.mv) [T 2] 21 false,
   IG 23 (.mv) [T 0] 21 false,
   IG 24 (.nilCheck) [T 23] 21 false,
   IG 25 (.fieldAddr 1) [T 24] 21 false,
   IG 26 (.load1) [T 25] 21 false,
   IG 27 (.bin .gtr) [T 22, T 26] 21 false,
   I 28 (.pick) [T 21, .lit (.bool true), T 27],
   I 29 (.mv) [T 28],
   IG 30 (.mv) [T 1] 29 false,
   IG 31 (.mv) [T 2] 29 false,
   IG 32 (.bin .gtr) [T 30, T 31] 29 false,
   I 33 (.pick) [T 29, .lit (.bool true), T 32]])
 (.cond (T 33)
 (.seq (.region [J (.store 1) [T 8, .lit .nilsl],
    J (.store 1) [T 9, N 2]])
  (.ret))
 (.skip)))
 (.seq (.region [I 10 (.alloc 34 1 (.vals [.nilsl])) []])
 (.seq (.seq (.region [I 34 (.mv) [T 0],
   I 35 (.mv) [T 1],
   I 36 (.mv) [T 2],
   I 37 (.callv) [F 279, T 34, T 35, T 36]])
 (.block 0 (.rfun (T 37) [38] c_spread_Counts_Add_A0 c_spread_Counts_Add_B0)))
 (.seq (.region [I 74 (.mv) [T 0],
   I 75 (.nilCheck) [T 74],
   I 76 (.fieldAddr 0) [T 75],
   I 77 (.load1) [T 76],
   I 78 (.mv) [T 1],
   I 79 (.callv) [F 280, T 77, T 78],
   I 80 (.mv) [T 2],
   I 81 (.callv) [F 280, T 79, T 80],
   I 13 (.mv) [T 81]])
 (.seq (.region [I 82 (.mv) [T 13],
   I 83 (.callv) [F 281, T 82],
   I 13 (.mv) [T 83]])
 (.seq (.seq (.region [I 84 (.mv) [T 13],
   I 85 (.lens) [T 84],
   I 86 (.mv) [N 0]])
 (.block 4 (.loop c_spread_Counts_Add_L2)))
 (.seq (.region [I 111 (.mv) [T 0],
   I 112 (.mv) [T 13],
   I 113 (.callv) [F 282, T 112],
   I 114 (.nilCheck) [T 111],
   I 115 (.fieldAddr 0) [T 114],
   J (.store 1) [T 115, T 113]])
 (.seq (.region [I 116 (.load1) [T 10],
   J (.store 1) [T 8, T 116],
   J (.store 1) [T 9, N 0]])
 (.ret))))))))))⟩
theorem t186 : trFn Tryz.prog Tryz.f186 = some c_spread_Counts_Add := by kernel_rfl
abbrev n_slices_Index_amap_one_amap_one : Nat := 187
def c_slices_Index_amap_one_amap_one_L0 : ACode :=
 .seq (.region [I 9 (.bin .lss) [T 8, T 7]])
 (.seq (.cond (T 9)
 (.skip)
 (.exit 0))
 (.seq (.block 1 (.seq (.region [I 10 (.mv) [T 8],
   I 5 (.mv) [T 10]])
 (.seq (.region [I 11 (.mv) [T 1],
   I 12 (.mv) [T 0],
   I 13 (.mv) [T 5],
   I 14 (.indexs 1) [T 12, T 13],
   I 15 (.load1) [T 14],
   I 16 (.eqv false .ptr) [T 11, T 15]])
 (.cond (T 16)
 (.seq (.region [I 17 (.mv) [T 5],
    I 4 (.mv) [T 17]])
  (.ret))
 (.skip)))))
 (.region [I 18 (.bin .add) [T 8, N 1],
   I 8 (.mv) [T 18]])))
def c_slices_Index_amap_one_amap_one : AFn := ⟨19, [.tmp 4],
 .seq (.region [I 4 (.mv) [N 0]])
 (.seq (.seq (.region [I 6 (.mv) [T 0],
   I 7 (.lens) [T 6],
   I 8 (.mv) [N 0]])
 (.block 0 (.loop c_slices_Index_amap_one_amap_one_L0)))
 (.seq (.region [I 4 (.mv) [N (-1)]])
 (.ret)))⟩
theorem t187 : trFn Tryz.prog Tryz.f187 = some c_slices_Index_amap_one_amap_one := by kernel_rfl
abbrev n_amap_Pool_Set : Nat := 189
def c_amap_Pool_Set : AFn := ⟨48, [.tmp 8, .tmp 9],
 .seq (.region [I 8 (.mv) [N 0],
   I 9 (.mv) [N 0]])
 (.seq (.region [I 14 (.mv) [T 0],
   I 15 (.mv) [T 1],
   I 16 (.callv) [F 270, T 14, T 15],
   I 13 (.mv) [T 16],
   I 17 (.extract 0) [T 13],
   I 18 (.extract 1) [T 13],
   I 10 (.mv) [T 17],
   I 11 (.mv) [T 18]])
 (.seq (.block 0 (.seq (.region [I 20 (.mv) [T 11],
   I 21 (.bin .neq) [T 20, N 0],
   I 19 (.mv) [T 21]])
 (.cond (T 19)
 (.seq (.region [I 22 (.mv) [T 11],
    I 8 (.mv) [N 0],
    I 9 (.mv) [T 22]])
  (.ret))
 (.seq (.region [I 24 (.mv) [T 0],
    I 25 (.mv) [T 1],
    I 26 (.mv) [T 2],
    I 27 (.callv) [F 267, T 24, T 25, T 26],
    I 28 (.bin .eql) [T 27, N 0],
    I 29 (.mv) [T 28],
    IG 30 (.mv) [T 3] 29 false,
    IG 31 (.bin .lss) [T 30, N 0] 29 false,
    I 32 (.pick) [T 29, .lit (.bool true), T 31],
    I 23 (.mv) [T 32]])
  (.cond (T 23)
  (.seq (.region [I 8 (.mv) [N 0],
     I 9 (.mv) [N 2]])
   (.ret))
  (.skip))))))
 (.seq (.region [I 33 (.mv) [T 10],
   I 34 (.nilCheck) [T 33],
   I 35 (.fieldAddr 1) [T 34],
   I 36 (.load1) [T 35],
   I 37 (.mv) [T 2],
   I 38 (.indexs 1) [T 36, T 37],
   I 39 (.load1) [T 38],
   I 12 (.mv) [T 39]])
 (.seq (.region [I 40 (.mv) [T 10],
   I 41 (.nilCheck) [T 40],
   I 42 (.fieldAddr 1) [T 41],
   I 43 (.load1) [T 42],
   I 44 (.mv) [T 2],
   I 45 (.mv) [T 3],
   I 46 (.indexs 1) [T 43, T 44],
   J (.store 1) [T 46, T 45]])
 (.seq (.region [I 47 (.mv) [T 12],
   I 8 (.mv) [T 47],
   I 9 (.mv) [N 0]])
 (.ret))))))⟩
theorem t189 : trFn Tryz.prog Tryz.f189 = some c_amap_Pool_Set := by kernel_rfl
abbrev n_anon_Pool_Make : Nat := 190
def c_anon_Pool_Make : AFn := ⟨51, [.tmp 4, .tmp 5],
 .seq (.region [I 4 (.mv) [N 0],
   I 5 (.mv) [N 0]])
 (.seq (.block 0 (.seq (.region [I 8 (.mv) [T 0],
   I 9 (.callv) [F 124, T 8],
   I 10 (.un .not) [T 9],
   I 7 (.mv) [T 10]])
 (.cond (T 7)
 (.seq (.region [I 4 (.mv) [N 0],
    I 5 (.mv) [N 1]])
  (.ret))
 (.seq (.draw [[⟨0, I 12 (.mv) [T 0], [], false⟩,
    ⟨1, I 13 (.nilCheck) [T 12], [], false⟩,
    ⟨2, I 14 (.fieldAddr 2) [T 13], [], false⟩,
    ⟨3, I 15 (.load1) [T 14], [], false⟩,
    ⟨4, I 16 (.lenm) [T 15], [], false⟩,
    ⟨5, I 17 (.mv) [T 0], [], false⟩,
    ⟨6, I 18 (.nilCheck) [T 17], [], false⟩,
    ⟨7, I 19 (.fieldAddr 0) [T 18], [], false⟩,
    ⟨8, I 20 (.load1) [T 19], [], false⟩,
    ⟨9, I 21 (.bin .geq) [T 16, T 20], [], false⟩,
    ⟨10, I 11 (.mv) [T 21], [], false⟩]])
  (.cond (T 11)
  (.seq (.region [I 4 (.mv) [N 0],
     I 5 (.mv) [N 5]])
   (.ret))
  (.skip))))))
 (.seq (.region [I 6 (.mv) [N 0]])
 (.seq (.seq (.region [I 22 (.mv) [T 0],
   I 23 (.nilCheck) [T 22],
   I 24 (.fieldAddr 3) [T 23],
   I 25 (.load1) [T 24],
   I 26 (.lens) [T 25],
   I 27 (.bin .gtr) [T 26, N 0]])
 (.cond (T 27)
 (.region [I 28 (.mv) [T 0],
    I 29 (.nilCheck) [T 28],
    I 30 (.fieldAddr 3) [T 29],
    I 31 (.callv) [F 283, T 30],
    I 6 (.mv) [T 31]])
 (.seq (.region [I 32 (.mv) [T 0],
    I 33 (.nilCheck) [T 32],
    I 34 (.fieldAddr 4) [T 33],
    I 35 (.load1) [T 34],
    I 36 (.bin .add) [T 35, N 1],
    I 37 (.nilCheck) [T 32],
    I 38 (.fieldAddr 4) [T 37],
    J (.store 1) [T 38, T 36]])
  (.region [I 39 (.mv) [T 0],
    I 40 (.nilCheck) [T 39],
    I 41 (.fieldAddr 4) [T 40],
    I 42 (.load1) [T 41],
    I 6 (.mv) [T 42]]))))
 (.seq (.region [I 43 (.mv) [T 0],
   I 44 (.nilCheck) [T 43],
   I 45 (.fieldAddr 2) [T 44],
   I 46 (.load1) [T 45],
   I 47 (.mv) [T 6],
   I 48 (.mv) [T 1],
   I 49 (.build (.agg [(.int .i64 0), (.int .i64 0), (.int .i64 0)]) [(0, 1), (1, 1), (2, 1)]) [N 1, T 48, N (-1)],
   J (.mapput (.scal .int)) [T 46, T 47, T 49]])
 (.seq (.region [I 50 (.mv) [T 6],
   I 4 (.mv) [T 50],
   I 5 (.mv) [N 0]])
 (.ret))))))⟩
theorem t190 : trFn Tryz.prog Tryz.f190 = some c_anon_Pool_Make := by kernel_rfl
abbrev n_frames_Pool_Own : Nat := 191
def c_frames_Pool_Own : AFn := ⟨15, [.tmp 10],
 .seq (.region [I 7 (.box 3 1) [T 2],
   I 8 (.box 3 1) [T 3],
   I 9 (.box 3 1) [T 4],
   I 10 (.mv) [N 0]])
 (.seq (.region [I 11 (.mv) [T 0],
   I 12 (.mv) [T 1],
   I 13 (.mkfunc 284 0) [T 7, T 8, T 9],
   I 14 (.callv) [F 217, T 11, T 12, T 13],
   I 10 (.mv) [T 14]])
 (.ret))⟩
theorem t191 : trFn Tryz.prog Tryz.f191 = some c_frames_Pool_Own := by kernel_rfl
abbrev n_slices_IndexFunc_kern_area_kern_area : Nat := 194
def c_slices_IndexFunc_kern_area_kern_area_L0 : ACode :=
 .seq (.region [I 9 (.bin .lss) [T 8, T 7]])
 (.seq (.cond (T 9)
 (.skip)
 (.exit 0))
 (.seq (.block 1 (.seq (.region [I 10 (.mv) [T 8],
   I 5 (.mv) [T 10]])
 (.seq (.region [I 11 (.mv) [T 1],
   I 12 (.mv) [T 0],
   I 13 (.mv) [T 5],
   I 14 (.indexs 6) [T 12, T 13],
   I 15 (.loadn 6) [T 14],
   I 16 (.callv) [T 11, T 15]])
 (.cond (T 16)
 (.seq (.region [I 17 (.mv) [T 5],
    I 4 (.mv) [T 17]])
  (.ret))
 (.skip)))))
 (.region [I 18 (.bin .add) [T 8, N 1],
   I 8 (.mv) [T 18]])))
def c_slices_IndexFunc_kern_area_kern_area : AFn := ⟨19, [.tmp 4],
 .seq (.region [I 4 (.mv) [N 0]])
 (.seq (.seq (.region [I 6 (.mv) [T 0],
   I 7 (.lens) [T 6],
   I 8 (.mv) [N 0]])
 (.block 0 (.loop c_slices_IndexFunc_kern_area_kern_area_L0)))
 (.seq (.region [I 4 (.mv) [N (-1)]])
 (.ret)))⟩
theorem t194 : trFn Tryz.prog Tryz.f194 = some c_slices_IndexFunc_kern_area_kern_area := by kernel_rfl
abbrev n_slices_Insert_kern_area_kern_area : Nat := 196
def c_slices_Insert_kern_area_kern_area : AFn := ⟨95, [.tmp 6],
 .seq (.region [I 6 (.mv) [.lit .nilsl]])
 (.seq (.region [I 10 (.mv) [T 0],
   I 11 (.mv) [T 1],
   I 12 (.slice 6 true false false) [T 10, T 11]])
 (.seq (.region [I 13 (.mv) [T 2],
   I 14 (.lens) [T 13],
   I 7 (.mv) [T 14]])
 (.seq (.seq (.region [I 15 (.mv) [T 7],
   I 16 (.bin .eql) [T 15, N 0]])
 (.cond (T 16)
 (.seq (.region [I 17 (.mv) [T 0],
    I 6 (.mv) [T 17]])
  (.ret))
 (.skip)))
 (.seq (.region [I 18 (.mv) [T 0],
   I 19 (.lens) [T 18],
   I 8 (.mv) [T 19]])
 (.seq (.seq (.region [I 20 (.mv) [T 1],
   I 21 (.mv) [T 8],
   I 22 (.bin .eql) [T 20, T 21]])
 (.cond (T 22)
 (.seq (.region [I 23 (.mv) [T 0],
    I 24 (.mv) [T 2],
    I 25 (.append 168 6 40 (.vals [(.int .i64 0), (.int .i64 0), (.int .i64 0), (.int .i64 0), (.bool false), (.bool false)])) [T 23, T 24],
    I 6 (.mv) [T 25]])
  (.ret))
 (.skip)))
 (.seq (.seq (.region [I 26 (.mv) [T 8],
   I 27 (.mv) [T 7],
   I 28 (.bin .add) [T 26, T 27],
   I 29 (.mv) [T 0],
   I 30 (.cap) [T 29],
   I 31 (.bin .gtr) [T 28, T 30]])
 (.cond (T 31)
 (.seq (.region [I 32 (.mv) [T 0],
    I 33 (.mv) [T 1],
    I 34 (.slice 6 false true false) [T 32, T 33],
    I 35 (.mv) [T 8],
    I 36 (.mv) [T 7],
    I 37 (.bin .add) [T 35, T 36],
    I 38 (.mv) [T 1],
    I 39 (.bin .sub) [T 37, T 38],
    I 40 (.appendz 168 6 40 (.vals [(.int .i64 0), (.int .i64 0), (.int .i64 0), (.int .i64 0), (.bool false), (.bool false)])) [T 34, T 39],
    I 9 (.mv) [T 40]])
  (.seq (.region [I 41 (.mv) [T 9],
    I 42 (.mv) [T 1],
    I 43 (.slice 6 true false false) [T 41, T 42],
    I 44 (.mv) [T 2],
    I 45 (.copy 6) [T 43, T 44]])
  (.seq (.draw [[⟨0, I 46 (.mv) [T 9], [], false⟩,
    ⟨1, I 47 (.mv) [T 1], [], false⟩,
    ⟨2, I 48 (.mv) [T 7], [], false⟩,
    ⟨3, I 49 (.bin .add) [T 47, T 48], [], false⟩,
    ⟨4, I 50 (.slice 6 true false false) [T 46, T 49], [], false⟩,
    ⟨5, I 51 (.mv) [T 0], [], false⟩,
    ⟨6, I 52 (.mv) [T 1], [], false⟩,
    ⟨7, I 53 (.slice 6 true false false) [T 51, T 52], [], false⟩,
    ⟨8, I 54 (.copy 6) [T 50, T 53], [], false⟩]])
  (.seq (.region [I 55 (.mv) [T 9],
    I 6 (.mv) [T 55]])
  (.ret)))))
 (.skip)))
 (.seq (.region [I 56 (.mv) [T 0],
   I 57 (.mv) [T 8],
   I 58 (.mv) [T 7],
   I 59 (.bin .add) [T 57, T 58],
   I 60 (.slice 6 false true false) [T 56, T 59],
   I 0 (.mv) [T 60]])
 (.seq (.seq (.region [I 61 (.mv) [T 2],
   I 62 (.mv) [T 0],
   I 63 (.mv) [T 1],
   I 64 (.mv) [T 7],
   I 65 (.bin .add) [T 63, T 64],
   I 66 (.slice 6 true false false) [T 62, T 65],
   I 67 (.callv) [F 286, T 61, T 66],
   I 68 (.un .not) [T 67]])
 (.cond (T 68)
 (.seq (.draw [[⟨0, I 69 (.mv) [T 0], [], false⟩,
    ⟨1, I 70 (.mv) [T 1], [], false⟩,
    ⟨2, I 71 (.mv) [T 7], [], false⟩,
    ⟨3, I 72 (.bin .add) [T 70, T 71], [], false⟩,
    ⟨4, I 73 (.slice 6 true false false) [T 69, T 72], [], false⟩,
    ⟨5, I 74 (.mv) [T 0], [], false⟩,
    ⟨6, I 75 (.mv) [T 1], [], false⟩,
    ⟨7, I 76 (.slice 6 true false false) [T 74, T 75], [], false⟩,
    ⟨8, I 77 (.copy 6) [T 73, T 76], [], false⟩]])
  (.seq (.region [I 78 (.mv) [T 0],
    I 79 (.mv) [T 1],
    I 80 (.slice 6 true false false) [T 78, T 79],
    I 81 (.mv) [T 2],
    I 82 (.copy 6) [T 80, T 81]])
  (.seq (.region [I 83 (.mv) [T 0],
    I 6 (.mv) [T 83]])
  (.ret))))
 (.skip)))
 (.seq (.region [I 84 (.mv) [T 0],
   I 85 (.mv) [T 8],
   I 86 (.slice 6 true false false) [T 84, T 85],
   I 87 (.mv) [T 2],
   I 88 (.copy 6) [T 86, T 87]])
 (.seq (.region [I 89 (.mv) [T 0],
   I 90 (.mv) [T 1],
   I 91 (.slice 6 true false false) [T 89, T 90],
   I 92 (.mv) [T 7],
   I 93 (.callv) [F 287, T 91, T 92]])
 (.seq (.region [I 94 (.mv) [T 0],
   I 6 (.mv) [T 94]])
 (.ret))))))))))))⟩
theorem t196 : trFn Tryz.prog Tryz.f196 = some c_slices_Insert_kern_area_kern_area := by kernel_rfl
abbrev n_kern_Kernel_out : Nat := 200
def c_kern_Kernel_out : AFn := ⟨23, [],
 .seq (.region [I 6 (.mv) [T 1],
   I 7 (.nilCheck) [T 6],
   I 8 (.fieldAddr 2) [T 7],
   I 9 (.load1) [T 8],
   I 10 (.mv) [T 2],
   I 11 (.callv) [F 290, T 9, T 10]])
 (.draw [[⟨0, I 12 (.mv) [T 0], [], false⟩,
   ⟨1, I 13 (.nilCheck) [T 12], [], false⟩,
   ⟨2, I 14 (.fieldAddr 8) [T 13], [], false⟩,
   ⟨3, I 15 (.load1) [T 14], [], false⟩,
   ⟨4, I 16 (.mv) [T 1], [], false⟩,
   ⟨5, I 17 (.nilCheck) [T 16], [], false⟩,
   ⟨6, I 18 (.fieldAddr 0) [T 17], [], false⟩,
   ⟨7, I 19 (.load1) [T 18], [], false⟩,
   ⟨8, I 20 (.mv) [T 2], [], false⟩,
   ⟨9, I 21 (.build (.agg [(.int .i64 0), (.int .i64 0)]) [(0, 1), (1, 1)]) [T 19, T 20], [], false⟩,
   ⟨10, I 22 (.callv) [F 143, T 15, T 21], [], false⟩]])⟩
theorem t200 : trFn Tryz.prog Tryz.f200 = some c_kern_Kernel_out := by kernel_rfl
abbrev n_kern_Kernel_put : Nat := 205
def c_kern_Kernel_put : AFn := ⟨52, [],
 .seq (.draw [[⟨0, I 11 (.mv) [T 1], [], false⟩,
   ⟨1, I 12 (.nilCheck) [T 11], [], false⟩,
   ⟨2, I 13 (.fieldAddr 3) [T 12], [], false⟩,
   ⟨3, I 14 (.load1) [T 13], [], false⟩,
   ⟨4, I 15 (.mv) [T 2], [], false⟩,
   ⟨5, I 16 (.bin .add) [T 14, T 15], [], false⟩,
   ⟨6, I 17 (.mv) [T 1], [], false⟩,
   ⟨7, I 18 (.nilCheck) [T 17], [], false⟩,
   ⟨8, I 19 (.fieldAddr 0) [T 18], [], false⟩,
   ⟨9, I 20 (.load1) [T 19], [], false⟩,
   ⟨10, I 21 (.bin .sub) [T 16, T 20], [], false⟩,
   ⟨11, I 8 (.mv) [T 21], [], false⟩]])
 (.seq (.draw [[⟨0, I 23 (.mv) [T 0], [], false⟩,
   ⟨1, I 24 (.nilCheck) [T 23], [], false⟩,
   ⟨2, I 25 (.fieldAddr 6) [T 24], [], false⟩,
   ⟨3, I 26 (.load1) [T 25], [], false⟩,
   ⟨4, I 27 (.mv) [T 1], [], false⟩,
   ⟨5, I 28 (.nilCheck) [T 27], [], false⟩,
   ⟨6, I 29 (.fieldAddr 2) [T 28], [], false⟩,
   ⟨7, I 30 (.load1) [T 29], [], false⟩,
   ⟨8, I 31 (.mv) [T 8], [], false⟩,
   ⟨9, I 32 (.mv) [T 3], [], false⟩,
   ⟨10, I 33 (.callv) [F 189, T 26, T 30, T 31, T 32], [], false⟩,
   ⟨11, I 22 (.mv) [T 33], [], false⟩,
   ⟨12, I 34 (.extract 0) [T 22], [], false⟩,
   ⟨13, I 35 (.extract 1) [T 22], [], false⟩,
   ⟨14, I 9 (.mv) [T 34], [], false⟩,
   ⟨15, I 10 (.mv) [T 35], [], false⟩]])
 (.seq (.seq (.region [I 36 (.mv) [T 1],
   I 37 (.nilCheck) [T 36],
   I 38 (.fieldAddr 5) [T 37],
   I 39 (.load1) [T 38]])
 (.cond (T 39)
 (.region [I 40 (.mv) [T 0],
    I 41 (.mv) [T 1],
    I 42 (.nilCheck) [T 41],
    I 43 (.fieldAddr 2) [T 42],
    I 44 (.load1) [T 43],
    I 45 (.mv) [T 8],
    I 46 (.callv) [F 292, T 40, T 44, T 45]])
 (.skip)))
 (.seq (.region [I 47 (.mv) [T 9],
   I 48 (.bin .gtr) [T 47, N 0]])
 (.cond (T 48)
 (.region [I 49 (.mv) [T 0],
    I 50 (.mv) [T 9],
    I 51 (.callv) [F 193, T 49, T 50]])
 (.skip)))))⟩
theorem t205 : trFn Tryz.prog Tryz.f205 = some c_kern_Kernel_put := by kernel_rfl
abbrev n_slots_Slots_Take : Nat := 211
def c_slots_Slots_Take : AFn := ⟨8, [.tmp 2, .tmp 3],
 .seq (.region [I 2 (.mv) [N 0],
   I 3 (.mv) [.lit (.bool false)]])
 (.seq (.region [I 4 (.mv) [T 0],
   I 5 (.callv) [F 293, T 4, N 1],
   I 6 (.extract 0) [T 5],
   I 7 (.extract 1) [T 5],
   I 2 (.mv) [T 6],
   I 3 (.mv) [T 7]])
 (.ret))⟩
theorem t211 : trFn Tryz.prog Tryz.f211 = some c_slots_Slots_Take := by kernel_rfl
abbrev n_swap_Device_Write : Nat := 212
def c_swap_Device_Write : AFn := ⟨29, [.tmp 6],
 .seq (.region [I 6 (.mv) [N 0]])
 (.seq (.seq (.region [I 8 (.mv) [T 0],
   I 9 (.mv) [T 1],
   I 10 (.mv) [T 2],
   I 11 (.lens) [T 10],
   I 12 (.bin .eql) [T 11, N 4096],
   I 13 (.callv) [F 229, T 8, T 9, T 12],
   I 7 (.mv) [T 13]])
 (.seq (.region [I 14 (.mv) [T 7],
   I 15 (.bin .neq) [T 14, N 0]])
 (.cond (T 15)
 (.seq (.region [I 16 (.mv) [T 7],
    I 6 (.mv) [T 16]])
  (.ret))
 (.skip))))
 (.seq (.seq (.region [I 17 (.mv) [T 0],
   I 18 (.nilCheck) [T 17],
   I 19 (.fieldAddr 3) [T 18],
   I 20 (.callv) [F 294, T 19]])
 (.cond (T 20)
 (.seq (.region [I 6 (.mv) [N 6]])
  (.ret))
 (.skip)))
 (.seq (.draw [[⟨0, I 21 (.mv) [T 0], [], false⟩,
   ⟨1, I 22 (.nilCheck) [T 21], [], false⟩,
   ⟨2, I 23 (.fieldAddr 2) [T 22], [], false⟩,
   ⟨3, I 24 (.load1) [T 23], [], false⟩,
   ⟨4, I 25 (.mv) [T 1], [], false⟩,
   ⟨5, I 26 (.mv) [T 2], [], false⟩,
   ⟨6, I 27 (.sl2arr 4096) [T 26], [], false⟩,
   ⟨7, I 28 (.loadn 4096) [T 27], [], false⟩,
   ⟨8, J (.mapput (.scal .int)) [T 24, T 25, T 28], [], false⟩]])
 (.seq (.region [I 6 (.mv) [N 0]])
 (.ret)))))⟩
theorem t212 : trFn Tryz.prog Tryz.f212 = some c_swap_Device_Write := by kernel_rfl
abbrev n_object_Pool_made : Nat := 214
def c_object_Pool_made : AFn := ⟨11, [.tmp 2],
 .seq (.region [I 2 (.mv) [.lit (.bool false)]])
 (.seq (.region [I 3 (.mv) [T 0],
   I 4 (.eqv true .ptr) [T 3, .lit .nilptr],
   I 5 (.mv) [T 4],
   IG 6 (.mv) [T 0] 5 true,
   IG 7 (.nilCheck) [T 6] 5 true,
   IG 8 (.fieldAddr 1) [T 7] 5 true,
   IG 9 (.load1) [T 8] 5 true,
   I 10 (.pick) [T 5, T 9, .lit (.bool false)],
   I 2 (.mv) [T 10]])
 (.ret))⟩
theorem t214 : trFn Tryz.prog Tryz.f214 = some c_object_Pool_made := by kernel_rfl
abbrev n_anon_Pool_change : Nat := 215
def c_anon_Pool_change : AFn := ⟨53, [.cell 6 (.loadn 3), .tmp 7],
 .seq (.region [I 6 (.alloc 103 3 (.vals [(.int .i64 0), (.int .i64 0), (.int .i64 0)])) [],
   I 7 (.mv) [N 0]])
 (.seq (.seq (.region [I 11 (.mv) [T 0],
   I 12 (.callv) [F 124, T 11],
   I 13 (.un .not) [T 12]])
 (.cond (T 13)
 (.seq (.region [I 14 (.build (.agg [(.int .i64 0), (.int .i64 0), (.int .i64 0)]) []) [],
    J (.store 3) [T 6, T 14],
    I 7 (.mv) [N 1]])
  (.ret))
 (.skip)))
 (.seq (.region [I 16 (.mv) [T 0],
   I 17 (.nilCheck) [T 16],
   I 18 (.fieldAddr 2) [T 17],
   I 19 (.load1) [T 18],
   I 20 (.mv) [T 1],
   I 21 (.lookup (.scal .int) (.agg [(.int .i64 0), (.int .i64 0), (.int .i64 0)]) true) [T 19, T 20],
   I 15 (.mv) [T 21],
   I 22 (.extract 0) [T 15],
   I 23 (.extract 1) [T 15],
   I 8 (.alloc 103 3 (.vals [(.int .i64 0), (.int .i64 0), (.int .i64 0)])) [],
   J (.store 3) [T 8, T 22],
   I 9 (.mv) [T 23]])
 (.seq (.seq (.region [I 24 (.mv) [T 9],
   I 25 (.un .not) [T 24]])
 (.cond (T 25)
 (.seq (.region [I 26 (.build (.agg [(.int .i64 0), (.int .i64 0), (.int .i64 0)]) []) [],
    J (.store 3) [T 6, T 26],
    I 7 (.mv) [N 7]])
  (.ret))
 (.skip)))
 (.seq (.seq (.region [I 27 (.mv) [T 2],
   I 28 (.callv) [T 27, T 8],
   I 10 (.mv) [T 28]])
 (.seq (.region [I 29 (.mv) [T 10],
   I 30 (.bin .neq) [T 29, N 0]])
 (.cond (T 30)
 (.seq (.region [I 31 (.build (.agg [(.int .i64 0), (.int .i64 0), (.int .i64 0)]) []) [],
    I 32 (.mv) [T 10],
    J (.store 3) [T 6, T 31],
    I 7 (.mv) [T 32]])
  (.ret))
 (.skip))))
 (.seq (.draw [[⟨0, I 33 (.mv) [T 0], [], false⟩,
   ⟨1, I 34 (.nilCheck) [T 33], [], false⟩,
   ⟨2, I 35 (.fieldAddr 2) [T 34], [], false⟩,
   ⟨3, I 36 (.load1) [T 35], [], false⟩,
   ⟨4, I 37 (.mv) [T 1], [], false⟩,
   ⟨5, I 38 (.loadn 3) [T 8], [], false⟩,
   ⟨6, J (.mapput (.scal .int)) [T 36, T 37, T 38], [], false⟩]])
 (.seq (.seq (.region [I 39 (.fieldAddr 0) [T 8],
   I 40 (.load1) [T 39],
   I 41 (.bin .eql) [T 40, N 0]])
 (.cond (T 41)
 (.seq (.region [I 42 (.mv) [T 0],
    I 43 (.nilCheck) [T 42],
    I 44 (.fieldAddr 2) [T 43],
    I 45 (.load1) [T 44],
    I 46 (.mv) [T 1],
    J (.delete (.scal .int)) [T 45, T 46]])
  (.region [I 47 (.mv) [T 0],
    I 48 (.nilCheck) [T 47],
    I 49 (.fieldAddr 3) [T 48],
    I 50 (.mv) [T 1],
    I 51 (.callv) [F 296, T 49, T 50]]))
 (.skip)))
 (.seq (.region [I 52 (.loadn 3) [T 8],
   J (.store 3) [T 6, T 52],
   I 7 (.mv) [N 0]])
 (.ret))))))))⟩
theorem t215 : trFn Tryz.prog Tryz.f215 = some c_anon_Pool_change := by kernel_rfl
abbrev n_anon_Pool_Put_1 : Nat := 216
def c_anon_Pool_Put_1 : AFn := ⟨13, [.tmp 4],
 .seq (.region [I 4 (.mv) [N 0]])
 (.seq (.draw [[⟨0, I 5 (.mv) [T 0], [], false⟩,
   ⟨1, I 6 (.mv) [T 0], [], false⟩,
   ⟨2, I 7 (.load1) [T 1], [], false⟩,
   ⟨3, I 8 (.load1) [T 2], [], false⟩,
   ⟨4, I 9 (.nilCheck) [T 5], [], false⟩,
   ⟨5, I 10 (.fieldAddr 1) [T 9], [], false⟩,
   ⟨6, J (.store 1) [T 10, T 7], [(3, I 8 (.load1) [T 2])], false⟩,
   ⟨7, I 11 (.nilCheck) [T 6], [], false⟩,
   ⟨8, I 12 (.fieldAddr 2) [T 11], [], false⟩,
   ⟨9, J (.store 1) [T 12, T 8], [], false⟩]])
 (.seq (.region [I 4 (.mv) [N 0]])
 (.ret)))⟩
theorem t216 : trFn Tryz.prog Tryz.f216 = some c_anon_Pool_Put_1 := by kernel_rfl
abbrev n_frames_Pool_with : Nat := 217
def c_frames_Pool_with : AFn := ⟨41, [.tmp 6],
 .seq (.region [I 6 (.mv) [N 0]])
 (.seq (.block 0 (.seq (.region [I 8 (.mv) [T 0],
   I 9 (.callv) [F 103, T 8],
   I 10 (.un .not) [T 9],
   I 7 (.mv) [T 10]])
 (.cond (T 7)
 (.seq (.region [I 6 (.mv) [N 1]])
  (.ret))
 (.seq (.region [I 12 (.mv) [T 1],
    I 13 (.bin .lss) [T 12, N 0],
    I 14 (.mv) [T 13],
    IG 15 (.mv) [T 1] 14 false,
    IG 16 (.mv) [T 0] 14 false,
    IG 17 (.nilCheck) [T 16] 14 false,
    IG 18 (.fieldAddr 0) [T 17] 14 false,
    IG 19 (.load1) [T 18] 14 false,
    IG 20 (.lens) [T 19] 14 false,
    IG 21 (.bin .geq) [T 15, T 20] 14 false,
    I 22 (.pick) [T 14, .lit (.bool true), T 21],
    I 11 (.mv) [T 22]])
  (.cond (T 11)
  (.seq (.region [I 6 (.mv) [N 7]])
   (.ret))
  (.seq (.region [I 24 (.mv) [T 0],
     I 25 (.nilCheck) [T 24],
     I 26 (.fieldAddr 0) [T 25],
     I 27 (.load1) [T 26],
     I 28 (.mv) [T 1],
     I 29 (.indexs 5) [T 27, T 28],
     I 30 (.fieldAddr 0) [T 29],
     I 31 (.load1) [T 30],
     I 32 (.bin .eql) [T 31, N 0],
     I 23 (.mv) [T 32]])
   (.cond (T 23)
   (.seq (.region [I 6 (.mv) [N 2]])
    (.ret))
   (.skip))))))))
 (.seq (.region [I 33 (.mv) [T 2],
   I 34 (.mv) [T 0],
   I 35 (.nilCheck) [T 34],
   I 36 (.fieldAddr 0) [T 35],
   I 37 (.load1) [T 36],
   I 38 (.mv) [T 1],
   I 39 (.indexs 5) [T 37, T 38],
   I 40 (.callv) [T 33, T 39],
   I 6 (.mv) [T 40]])
 (.ret)))⟩
theorem t217 : trFn Tryz.prog Tryz.f217 = some c_frames_Pool_with := by kernel_rfl
abbrev n_frames_Pool_Give_1 : Nat := 220
def c_frames_Pool_Give_1 : AFn := ⟨18, [.tmp 2],
 .seq (.region [I 2 (.mv) [N 0]])
 (.seq (.seq (.region [I 3 (.mv) [T 0],
   I 4 (.nilCheck) [T 3],
   I 5 (.fieldAddr 3) [T 4],
   I 6 (.load1) [T 5],
   I 7 (.bin .neq) [T 6, N 0],
   I 8 (.mv) [T 7],
   IG 9 (.mv) [T 0] 8 false,
   IG 10 (.nilCheck) [T 9] 8 false,
   IG 11 (.fieldAddr 4) [T 10] 8 false,
   IG 12 (.load1) [T 11] 8 false,
   IG 13 (.bin .neq) [T 12, N 0] 8 false,
   I 14 (.pick) [T 8, .lit (.bool true), T 13]])
 (.cond (T 14)
 (.seq (.region [I 2 (.mv) [N 8]])
  (.ret))
 (.skip)))
 (.seq (.region [I 15 (.mv) [T 0],
   I 16 (.build (.agg [(.int .i64 0), (.int .i64 0), (.int .i64 0), (.int .i64 0), (.int .i64 0)]) []) [],
   I 17 (.nilCheck) [T 15],
   J (.store 5) [T 17, T 16]])
 (.seq (.region [I 2 (.mv) [N 0]])
 (.ret))))⟩
theorem t220 : trFn Tryz.prog Tryz.f220 = some c_frames_Pool_Give_1 := by kernel_rfl
abbrev n_slices_AppendSeq_int_int : Nat := 221
def c_slices_AppendSeq_int_int_A0 : ACode :=
 .region [I 5 (.mv) [T 7]]
def c_slices_AppendSeq_int_int_B0 : ACode :=
 .block 1 (.region [I 8 (.load1) [T 2],
   I 9 (.mv) [T 5],
   I 10 (.bslice 3 1 1 (.vals [(.int .i64 0)]) [0]) [T 9],
   I 11 (.append 3 1 8 (.vals [(.int .i64 0)])) [T 8, T 10],
   J (.store 1) [T 2, T 11]])
def c_slices_AppendSeq_int_int : AFn := ⟨13, [.tmp 4],
 .seq (.region [I 2 (.box 34 1) [T 0],
   I 4 (.mv) [.lit .nilsl]])
 (.seq (.seq (.region [I 6 (.mv) [T 1]])
 (.block 0 (.rfun (T 6) [7] c_slices_AppendSeq_int_int_A0 c_slices_AppendSeq_int_int_B0)))
 (.seq (.region [I 12 (.load1) [T 2],
   I 4 (.mv) [T 12]])
 (.ret)))⟩
theorem t221 : trFn Tryz.prog Tryz.f221 = some c_slices_AppendSeq_int_int := by kernel_rfl
abbrev n_slices_pdqsortOrdered_int : Nat := 222
def c_slices_pdqsortOrdered_int_L0 : ACode :=
 .block 1 (.seq (.region [I 19 (.mv) [T 2],
   I 20 (.mv) [T 1],
   I 21 (.bin .sub) [T 19, T 20],
   I 10 (.mv) [T 21]])
 (.seq (.seq (.region [I 22 (.mv) [T 10],
   I 23 (.bin .leq) [T 22, N 12]])
 (.cond (T 23)
 (.seq (.region [I 24 (.mv) [T 0],
    I 25 (.mv) [T 1],
    I 26 (.mv) [T 2],
    I 27 (.callv) [F 297, T 24, T 25, T 26]])
  (.ret))
 (.skip)))
 (.seq (.seq (.region [I 28 (.mv) [T 3],
   I 29 (.bin .eql) [T 28, N 0]])
 (.cond (T 29)
 (.seq (.region [I 30 (.mv) [T 0],
    I 31 (.mv) [T 1],
    I 32 (.mv) [T 2],
    I 33 (.callv) [F 298, T 30, T 31, T 32]])
  (.ret))
 (.skip)))
 (.seq (.seq (.region [I 34 (.mv) [T 8],
   I 35 (.un .not) [T 34]])
 (.cond (T 35)
 (.seq (.region [I 36 (.mv) [T 0],
    I 37 (.mv) [T 1],
    I 38 (.mv) [T 2],
    I 39 (.callv) [F 299, T 36, T 37, T 38]])
  (.region [I 40 (.mv) [T 3],
    I 41 (.bin .sub) [T 40, N 1],
    I 3 (.mv) [T 41]]))
 (.skip)))
 (.seq (.region [I 43 (.mv) [T 0],
   I 44 (.mv) [T 1],
   I 45 (.mv) [T 2],
   I 46 (.callv) [F 300, T 43, T 44, T 45],
   I 42 (.mv) [T 46],
   I 47 (.extract 0) [T 42],
   I 48 (.extract 1) [T 42],
   I 11 (.mv) [T 47],
   I 12 (.mv) [T 48]])
 (.seq (.seq (.region [I 49 (.mv) [T 12],
   I 50 (.bin .eql) [T 49, N 2]])
 (.cond (T 50)
 (.seq (.region [I 51 (.mv) [T 0],
    I 52 (.mv) [T 1],
    I 53 (.mv) [T 2],
    I 54 (.callv) [F 301, T 51, T 52, T 53]])
  (.seq (.region [I 55 (.mv) [T 2],
    I 56 (.bin .sub) [T 55, N 1],
    I 57 (.mv) [T 11],
    I 58 (.mv) [T 1],
    I 59 (.bin .sub) [T 57, T 58],
    I 60 (.bin .sub) [T 56, T 59],
    I 11 (.mv) [T 60]])
  (.region [I 12 (.mv) [N 1]])))
 (.skip)))
 (.seq (.seq (.region [I 61 (.mv) [T 8],
   I 62 (.mv) [T 61],
   IG 63 (.mv) [T 9] 62 true,
   I 64 (.pick) [T 62, T 63, .lit (.bool false)],
   I 65 (.mv) [T 64],
   IG 66 (.mv) [T 12] 65 true,
   IG 67 (.bin .eql) [T 66, N 1] 65 true,
   I 68 (.pick) [T 65, T 67, .lit (.bool false)]])
 (.cond (T 68)
 (.seq (.region [I 69 (.mv) [T 0],
    I 70 (.mv) [T 1],
    I 71 (.mv) [T 2],
    I 72 (.callv) [F 302, T 69, T 70, T 71]])
  (.cond (T 72)
  (.ret)
  (.skip)))
 (.skip)))
 (.seq (.seq (.draw [[⟨0, I 73 (.mv) [T 1], [], false⟩,
   ⟨1, I 74 (.bin .gtr) [T 73, N 0], [], false⟩,
   ⟨2, I 75 (.mv) [T 74], [], false⟩,
   ⟨3, IG 76 (.mv) [T 0] 75 true, [], false⟩,
   ⟨4, IG 77 (.mv) [T 1] 75 true, [], false⟩,
   ⟨5, IG 78 (.bin .sub) [T 77, N 1] 75 true, [], false⟩,
   ⟨6, IG 79 (.indexs 1) [T 76, T 78] 75 true, [], false⟩,
   ⟨7, IG 80 (.load1) [T 79] 75 true, [], false⟩,
   ⟨8, IG 81 (.mv) [T 0] 75 true, [], false⟩,
   ⟨9, IG 82 (.mv) [T 11] 75 true, [], false⟩,
   ⟨10, IG 83 (.indexs 1) [T 81, T 82] 75 true, [], false⟩,
   ⟨11, IG 84 (.load1) [T 83] 75 true, [], false⟩,
   ⟨12, IG 85 (.callv) [F 303, T 80, T 84] 75 true, [], false⟩,
   ⟨13, IG 86 (.un .not) [T 85] 75 true, [], false⟩,
   ⟨14, I 87 (.pick) [T 75, T 86, .lit (.bool false)], [], false⟩]])
 (.cond (T 87)
 (.seq (.region [I 88 (.mv) [T 0],
    I 89 (.mv) [T 1],
    I 90 (.mv) [T 2],
    I 91 (.mv) [T 11],
    I 92 (.callv) [F 304, T 88, T 89, T 90, T 91],
    I 13 (.mv) [T 92]])
  (.seq (.region [I 93 (.mv) [T 13],
    I 1 (.mv) [T 93]])
  (.exit 1)))
 (.skip)))
 (.seq (.region [I 95 (.mv) [T 0],
   I 96 (.mv) [T 1],
   I 97 (.mv) [T 2],
   I 98 (.mv) [T 11],
   I 99 (.callv) [F 305, T 95, T 96, T 97, T 98],
   I 94 (.mv) [T 99],
   I 100 (.extract 0) [T 94],
   I 101 (.extract 1) [T 94],
   I 14 (.mv) [T 100],
   I 15 (.mv) [T 101]])
 (.seq (.region [I 102 (.mv) [T 15],
   I 9 (.mv) [T 102]])
 (.seq (.region [I 103 (.mv) [T 14],
   I 104 (.mv) [T 1],
   I 105 (.bin .sub) [T 103, T 104],
   I 106 (.mv) [T 2],
   I 107 (.mv) [T 14],
   I 108 (.bin .sub) [T 106, T 107],
   I 16 (.mv) [T 105],
   I 17 (.mv) [T 108]])
 (.seq (.region [I 109 (.mv) [T 10],
   I 110 (.bin .quo) [T 109, N 8],
   I 18 (.mv) [T 110]])
 (.seq (.region [I 111 (.mv) [T 16],
   I 112 (.mv) [T 17],
   I 113 (.bin .lss) [T 111, T 112]])
 (.cond (T 113)
 (.seq (.region [I 114 (.mv) [T 16],
    I 115 (.mv) [T 18],
    I 116 (.bin .geq) [T 114, T 115],
    I 8 (.mv) [T 116]])
  (.seq (.region [I 117 (.mv) [T 0],
    I 118 (.mv) [T 1],
    I 119 (.mv) [T 14],
    I 120 (.mv) [T 3],
    I 121 (.callv) [F 222, T 117, T 118, T 119, T 120]])
  (.region [I 122 (.mv) [T 14],
    I 123 (.bin .add) [T 122, N 1],
    I 1 (.mv) [T 123]])))
 (.seq (.region [I 124 (.mv) [T 17],
    I 125 (.mv) [T 18],
    I 126 (.bin .geq) [T 124, T 125],
    I 8 (.mv) [T 126]])
  (.seq (.region [I 127 (.mv) [T 0],
    I 128 (.mv) [T 14],
    I 129 (.bin .add) [T 128, N 1],
    I 130 (.mv) [T 2],
    I 131 (.mv) [T 3],
    I 132 (.callv) [F 222, T 127, T 129, T 130, T 131]])
  (.region [I 133 (.mv) [T 14],
    I 2 (.mv) [T 133]])))))))))))))))))
def c_slices_pdqsortOrdered_int : AFn := ⟨134, [],
 .seq (.region [I 8 (.mv) [.lit (.bool true)]])
 (.seq (.region [I 9 (.mv) [.lit (.bool true)]])
 (.block 0 (.loop c_slices_pdqsortOrdered_int_L0)))⟩
theorem t222 : trFn Tryz.prog Tryz.f222 = some c_slices_pdqsortOrdered_int := by kernel_rfl
abbrev n_math_bits_Len : Nat := 223
def c_math_bits_Len : AFn := ⟨8, [.tmp 2],
 .seq (.region [I 2 (.mv) [N 0]])
 (.seq (.cond (.lit (.bool false))
 (.seq (.region [I 3 (.mv) [T 0],
    I 4 (.conv .u32) [T 3],
    I 5 (.callv) [F 306, T 4],
    I 2 (.mv) [T 5]])
  (.ret))
 (.skip))
 (.seq (.region [I 6 (.mv) [T 0],
   I 7 (.callv) [F 307, T 6],
   I 2 (.mv) [T 7]])
 (.ret)))⟩
theorem t223 : trFn Tryz.prog Tryz.f223 = some c_math_bits_Len := by kernel_rfl
abbrev n_slices_BinarySearchFunc_api_Entry_api_Entry_int : Nat := 224
def c_slices_BinarySearchFunc_api_Entry_api_Entry_int_L0 : ACode :=
 .seq (.seq (.region [I 15 (.mv) [T 9],
   I 16 (.mv) [T 10],
   I 17 (.bin .lss) [T 15, T 16]])
 (.cond (T 17)
 (.skip)
 (.exit 0)))
 (.block 1 (.seq (.region [I 18 (.mv) [T 9],
   I 19 (.mv) [T 10],
   I 20 (.bin .add) [T 18, T 19],
   I 21 (.conv .u64) [T 20],
   I 22 (.bin .shr) [T 21, .lit (.int .u64 1)],
   I 23 (.conv .i64) [T 22],
   I 11 (.mv) [T 23]])
 (.seq (.region [I 24 (.mv) [T 2],
   I 25 (.mv) [T 0],
   I 26 (.mv) [T 11],
   I 27 (.indexs 10) [T 25, T 26],
   I 28 (.loadn 10) [T 27],
   I 29 (.mv) [T 1],
   I 30 (.callv) [T 24, T 28, T 29],
   I 31 (.bin .lss) [T 30, N 0]])
 (.cond (T 31)
 (.region [I 32 (.mv) [T 11],
    I 33 (.bin .add) [T 32, N 1],
    I 9 (.mv) [T 33]])
 (.region [I 34 (.mv) [T 11],
    I 10 (.mv) [T 34]])))))
def c_slices_BinarySearchFunc_api_Entry_api_Entry_int : AFn := ⟨49, [.tmp 6, .tmp 7],
 .seq (.region [I 6 (.mv) [N 0],
   I 7 (.mv) [.lit (.bool false)]])
 (.seq (.region [I 12 (.mv) [T 0],
   I 13 (.lens) [T 12],
   I 8 (.mv) [T 13]])
 (.seq (.region [I 14 (.mv) [T 8],
   I 9 (.mv) [N 0],
   I 10 (.mv) [T 14]])
 (.seq (.block 0 (.loop c_slices_BinarySearchFunc_api_Entry_api_Entry_int_L0))
 (.seq (.region [I 35 (.mv) [T 9],
   I 36 (.mv) [T 9],
   I 37 (.mv) [T 8],
   I 38 (.bin .lss) [T 36, T 37],
   I 39 (.mv) [T 38],
   IG 40 (.mv) [T 2] 39 true,
   IG 41 (.mv) [T 0] 39 true,
   IG 42 (.mv) [T 9] 39 true,
   IG 43 (.indexs 10) [T 41, T 42] 39 true,
   IG 44 (.loadn 10) [T 43] 39 true,
   IG 45 (.mv) [T 1] 39 true,
   IG 46 (.callv) [T 40, T 44, T 45] 39 true,
   IG 47 (.bin .eql) [T 46, N 0] 39 true,
   I 48 (.pick) [T 39, T 47, .lit (.bool false)],
   I 6 (.mv) [T 35],
   I 7 (.mv) [T 48]])
 (.ret)))))⟩
theorem t224 : trFn Tryz.prog Tryz.f224 = some c_slices_BinarySearchFunc_api_Entry_api_Entry_int := by kernel_rfl
abbrev n_entry_Find_1 : Nat := 225
def c_entry_Find_1 : AFn := ⟨9, [.tmp 4],
 .seq (.region [I 2 (.box 94 10) [T 0],
   I 4 (.mv) [N 0]])
 (.seq (.seq (.region [I 5 (.fieldAddr 1) [T 2],
   I 6 (.load1) [T 5],
   I 7 (.mv) [T 1],
   I 8 (.bin .leq) [T 6, T 7]])
 (.cond (T 8)
 (.seq (.region [I 4 (.mv) [N (-1)]])
  (.ret))
 (.skip)))
 (.seq (.region [I 4 (.mv) [N 1]])
 (.ret)))⟩
theorem t225 : trFn Tryz.prog Tryz.f225 = some c_entry_Find_1 := by kernel_rfl
abbrev n_kern_proc_at_1 : Nat := 226
def c_kern_proc_at_1 : AFn := ⟨14, [.tmp 3],
 .seq (.region [I 2 (.box 168 6) [T 0],
   I 3 (.mv) [.lit (.bool false)]])
 (.seq (.region [I 4 (.fieldAddr 0) [T 2],
   I 5 (.load1) [T 4],
   I 6 (.load1) [T 1],
   I 7 (.bin .leq) [T 5, T 6],
   I 8 (.mv) [T 7],
   IG 9 (.load1) [T 1] 8 true,
   IG 10 (.fieldAddr 1) [T 2] 8 true,
   IG 11 (.load1) [T 10] 8 true,
   IG 12 (.bin .lss) [T 9, T 11] 8 true,
   I 13 (.pick) [T 8, T 12, .lit (.bool false)],
   I 3 (.mv) [T 13]])
 (.ret))⟩
theorem t226 : trFn Tryz.prog Tryz.f226 = some c_kern_proc_at_1 := by kernel_rfl
abbrev n_amap_Pool_Slots : Nat := 227
def c_amap_Pool_Slots : AFn := ⟨16, [.tmp 4],
 .seq (.region [I 4 (.mv) [N 0]])
 (.seq (.seq (.region [I 6 (.mv) [T 0],
   I 7 (.mv) [T 1],
   I 8 (.callv) [F 228, T 6, T 7],
   I 5 (.mv) [T 8]])
 (.seq (.region [I 9 (.mv) [T 5],
   I 10 (.eqv true .ptr) [T 9, .lit .nilptr]])
 (.cond (T 10)
 (.seq (.region [I 11 (.mv) [T 5],
    I 12 (.nilCheck) [T 11],
    I 13 (.fieldAddr 1) [T 12],
    I 14 (.load1) [T 13],
    I 15 (.lens) [T 14],
    I 4 (.mv) [T 15]])
  (.ret))
 (.skip))))
 (.seq (.region [I 4 (.mv) [N 0]])
 (.ret)))⟩
theorem t227 : trFn Tryz.prog Tryz.f227 = some c_amap_Pool_Slots := by kernel_rfl
abbrev n_amap_Pool_of : Nat := 228
def c_amap_Pool_of : AFn := ⟨29, [.tmp 4],
 .seq (.region [I 4 (.mv) [.lit .nilptr]])
 (.seq (.seq (.region [I 5 (.mv) [T 0],
   I 6 (.callv) [F 184, T 5],
   I 7 (.un .not) [T 6],
   I 8 (.mv) [T 7],
   IG 9 (.mv) [T 1] 8 false,
   IG 10 (.bin .lss) [T 9, N 1] 8 false,
   I 11 (.pick) [T 8, .lit (.bool true), T 10],
   I 12 (.mv) [T 11],
   IG 13 (.mv) [T 1] 12 false,
   IG 14 (.mv) [T 0] 12 false,
   IG 15 (.nilCheck) [T 14] 12 false,
   IG 16 (.fieldAddr 2) [T 15] 12 false,
   IG 17 (.load1) [T 16] 12 false,
   IG 18 (.lens) [T 17] 12 false,
   IG 19 (.bin .gtr) [T 13, T 18] 12 false,
   I 20 (.pick) [T 12, .lit (.bool true), T 19]])
 (.cond (T 20)
 (.seq (.region [I 4 (.mv) [.lit .nilptr]])
  (.ret))
 (.skip)))
 (.seq (.region [I 21 (.mv) [T 0],
   I 22 (.nilCheck) [T 21],
   I 23 (.fieldAddr 2) [T 22],
   I 24 (.load1) [T 23],
   I 25 (.mv) [T 1],
   I 26 (.bin .sub) [T 25, N 1],
   I 27 (.indexs 1) [T 24, T 26],
   I 28 (.load1) [T 27],
   I 4 (.mv) [T 28]])
 (.ret)))⟩
theorem t228 : trFn Tryz.prog Tryz.f228 = some c_amap_Pool_of := by kernel_rfl
abbrev n_swap_Device_may : Nat := 229
def c_swap_Device_may : AFn := ⟨26, [.tmp 6],
 .seq (.region [I 6 (.mv) [N 0]])
 (.seq (.block 0 (.seq (.region [I 8 (.mv) [T 0],
   I 9 (.callv) [F 308, T 8],
   I 10 (.un .not) [T 9],
   I 7 (.mv) [T 10]])
 (.cond (T 7)
 (.seq (.region [I 6 (.mv) [N 1]])
  (.ret))
 (.seq (.region [I 12 (.mv) [T 1],
    I 13 (.bin .lss) [T 12, N 0],
    I 14 (.mv) [T 13],
    IG 15 (.mv) [T 1] 14 false,
    IG 16 (.mv) [T 0] 14 false,
    IG 17 (.nilCheck) [T 16] 14 false,
    IG 18 (.fieldAddr 0) [T 17] 14 false,
    IG 19 (.load1) [T 18] 14 false,
    IG 20 (.bin .geq) [T 15, T 19] 14 false,
    I 21 (.pick) [T 14, .lit (.bool true), T 20],
    I 22 (.mv) [T 21],
    IG 23 (.mv) [T 2] 22 false,
    IG 24 (.un .not) [T 23] 22 false,
    I 25 (.pick) [T 22, .lit (.bool true), T 24],
    I 11 (.mv) [T 25]])
  (.cond (T 11)
  (.seq (.region [I 6 (.mv) [N 2]])
   (.ret))
  (.skip))))))
 (.seq (.region [I 6 (.mv) [N 0]])
 (.ret)))⟩
theorem t229 : trFn Tryz.prog Tryz.f229 = some c_swap_Device_may := by kernel_rfl
abbrev n_slices_Grow_int_int : Nat := 230
def c_slices_Grow_int_int : AFn := ⟨27, [.tmp 4],
 .seq (.region [I 4 (.mv) [.lit .nilsl]])
 (.seq (.seq (.region [I 5 (.mv) [T 1],
   I 6 (.bin .lss) [T 5, N 0]])
 (.cond (T 6)
 (.region [I 7 (.bad) [.lit (.str ⟨#[99, 97, 110, 110, 111, 116, 32, 98, 101, 32, 110, 101, 103, 97, 116, 105, 118, 101]⟩)],
    J (.bad) [T 7]])
 (.skip)))
 (.seq (.seq (.region [I 8 (.mv) [T 1],
   I 9 (.mv) [T 0],
   I 10 (.cap) [T 9],
   I 11 (.mv) [T 0],
   I 12 (.lens) [T 11],
   I 13 (.bin .sub) [T 10, T 12],
   I 14 (.bin .sub) [T 8, T 13],
   I 1 (.mv) [T 14]])
 (.seq (.region [I 15 (.mv) [T 1],
   I 16 (.bin .gtr) [T 15, N 0]])
 (.cond (T 16)
 (.region [I 17 (.mv) [T 0],
    I 18 (.mv) [T 0],
    I 19 (.cap) [T 18],
    I 20 (.slice 1 false true false) [T 17, T 19],
    I 21 (.mv) [T 1],
    I 22 (.appendz 3 1 8 (.vals [(.int .i64 0)])) [T 20, T 21],
    I 23 (.mv) [T 0],
    I 24 (.lens) [T 23],
    I 25 (.slice 1 false true false) [T 22, T 24],
    I 0 (.mv) [T 25]])
 (.skip))))
 (.seq (.region [I 26 (.mv) [T 0],
   I 4 (.mv) [T 26]])
 (.ret))))⟩
theorem t230 : trFn Tryz.prog Tryz.f230 = some c_slices_Grow_int_int := by kernel_rfl
abbrev n_daemon_Daemon_line : Nat := 231
def c_daemon_Daemon_line : AFn := ⟨15, [.tmp 4],
 .seq (.region [I 4 (.mv) [.lit .nilsl]])
 (.seq (.seq (.region [I 5 (.mv) [T 0],
   I 6 (.callv) [F 62, T 5],
   I 7 (.un .not) [T 6]])
 (.cond (T 7)
 (.seq (.region [I 4 (.mv) [.lit .nilsl]])
  (.ret))
 (.skip)))
 (.seq (.region [I 8 (.mv) [T 0],
   I 9 (.nilCheck) [T 8],
   I 10 (.fieldAddr 1) [T 9],
   I 11 (.load1) [T 10],
   I 12 (.mv) [T 1],
   I 13 (.callv) [F 237, T 11, T 12],
   I 14 (.callv) [F 118, T 13],
   I 4 (.mv) [T 14]])
 (.ret)))⟩
theorem t231 : trFn Tryz.prog Tryz.f231 = some c_daemon_Daemon_line := by kernel_rfl
abbrev n_slices_Index_int_int : Nat := 232
def c_slices_Index_int_int_L0 : ACode :=
 .seq (.region [I 9 (.bin .lss) [T 8, T 7]])
 (.seq (.cond (T 9)
 (.skip)
 (.exit 0))
 (.seq (.block 1 (.seq (.region [I 10 (.mv) [T 8],
   I 5 (.mv) [T 10]])
 (.seq (.region [I 11 (.mv) [T 1],
   I 12 (.mv) [T 0],
   I 13 (.mv) [T 5],
   I 14 (.indexs 1) [T 12, T 13],
   I 15 (.load1) [T 14],
   I 16 (.bin .eql) [T 11, T 15]])
 (.cond (T 16)
 (.seq (.region [I 17 (.mv) [T 5],
    I 4 (.mv) [T 17]])
  (.ret))
 (.skip)))))
 (.region [I 18 (.bin .add) [T 8, N 1],
   I 8 (.mv) [T 18]])))
def c_slices_Index_int_int : AFn := ⟨19, [.tmp 4],
 .seq (.region [I 4 (.mv) [N 0]])
 (.seq (.seq (.region [I 6 (.mv) [T 0],
   I 7 (.lens) [T 6],
   I 8 (.mv) [N 0]])
 (.block 0 (.loop c_slices_Index_int_int_L0)))
 (.seq (.region [I 4 (.mv) [N (-1)]])
 (.ret)))⟩
theorem t232 : trFn Tryz.prog Tryz.f232 = some c_slices_Index_int_int := by kernel_rfl
abbrev n_slices_DeleteFunc_int_int : Nat := 233
def c_slices_DeleteFunc_int_int_L0 : ACode :=
 .seq (.seq (.region [I 16 (.mv) [T 6],
   I 17 (.mv) [T 0],
   I 18 (.lens) [T 17],
   I 19 (.bin .lss) [T 16, T 18]])
 (.cond (T 19)
 (.skip)
 (.exit 0)))
 (.seq (.block 1 (.seq (.region [I 22 (.mv) [T 0],
   I 23 (.mv) [T 6],
   I 24 (.indexs 1) [T 22, T 23],
   I 25 (.load1) [T 24],
   I 7 (.mv) [T 25]])
 (.seq (.region [I 26 (.mv) [T 1],
   I 27 (.mv) [T 7],
   I 28 (.callv) [T 26, T 27],
   I 29 (.un .not) [T 28]])
 (.cond (T 29)
 (.seq (.region [I 30 (.mv) [T 0],
    I 31 (.mv) [T 5],
    I 32 (.mv) [T 7],
    I 33 (.indexs 1) [T 30, T 31],
    J (.store 1) [T 33, T 32]])
  (.region [I 34 (.mv) [T 5],
    I 35 (.bin .add) [T 34, N 1],
    I 5 (.mv) [T 35]]))
 (.skip)))))
 (.region [I 20 (.mv) [T 6],
   I 21 (.bin .add) [T 20, N 1],
   I 6 (.mv) [T 21]]))
def c_slices_DeleteFunc_int_int : AFn := ⟨42, [.tmp 4],
 .seq (.region [I 4 (.mv) [.lit .nilsl]])
 (.seq (.region [I 8 (.mv) [T 0],
   I 9 (.mv) [T 1],
   I 10 (.callv) [F 144, T 8, T 9],
   I 5 (.mv) [T 10]])
 (.seq (.seq (.region [I 11 (.mv) [T 5],
   I 12 (.bin .eql) [T 11, N (-1)]])
 (.cond (T 12)
 (.seq (.region [I 13 (.mv) [T 0],
    I 4 (.mv) [T 13]])
  (.ret))
 (.skip)))
 (.seq (.seq (.region [I 14 (.mv) [T 5],
   I 15 (.bin .add) [T 14, N 1],
   I 6 (.mv) [T 15]])
 (.block 0 (.loop c_slices_DeleteFunc_int_int_L0)))
 (.seq (.region [I 36 (.mv) [T 0],
   I 37 (.mv) [T 5],
   I 38 (.slice 1 true false false) [T 36, T 37],
   J (.clear 1 (.vals [(.int .i64 0)])) [T 38]])
 (.seq (.region [I 39 (.mv) [T 0],
   I 40 (.mv) [T 5],
   I 41 (.slice 1 false true false) [T 39, T 40],
   I 4 (.mv) [T 41]])
 (.ret))))))⟩
theorem t233 : trFn Tryz.prog Tryz.f233 = some c_slices_DeleteFunc_int_int := by kernel_rfl
abbrev n_ring_Rows_int_Remove_1 : Nat := 234
def c_ring_Rows_int_Remove_1 : AFn := ⟨7, [.tmp 3],
 .seq (.region [I 3 (.mv) [.lit (.bool false)]])
 (.seq (.region [I 4 (.mv) [T 0],
   I 5 (.load1) [T 1],
   I 6 (.bin .eql) [T 4, T 5],
   I 3 (.mv) [T 6]])
 (.ret))⟩
theorem t234 : trFn Tryz.prog Tryz.f234 = some c_ring_Rows_int_Remove_1 := by kernel_rfl
abbrev n_ring_Rows_int_Rows : Nat := 235
def c_ring_Rows_int_Rows : AFn := ⟨10, [.tmp 2],
 .seq (.region [I 2 (.mv) [N 0]])
 (.seq (.seq (.region [I 3 (.mv) [T 0],
   I 4 (.eqv false .ptr) [T 3, .lit .nilptr]])
 (.cond (T 4)
 (.seq (.region [I 2 (.mv) [N 0]])
  (.ret))
 (.skip)))
 (.seq (.region [I 5 (.mv) [T 0],
   I 6 (.nilCheck) [T 5],
   I 7 (.fieldAddr 0) [T 6],
   I 8 (.load1) [T 7],
   I 9 (.lens) [T 8],
   I 2 (.mv) [T 9]])
 (.ret)))⟩
theorem t235 : trFn Tryz.prog Tryz.f235 = some c_ring_Rows_int_Rows := by kernel_rfl
abbrev n_ring_Rows_int_enter : Nat := 236
def c_ring_Rows_int_enter : AFn := ⟨41, [.tmp 6],
 .seq (.region [I 6 (.mv) [.lit (.bool false)]])
 (.seq (.seq (.region [I 9 (.mv) [T 0],
   I 10 (.mv) [T 1],
   I 11 (.callv) [F 309, T 9, T 10],
   I 12 (.un .not) [T 11]])
 (.cond (T 12)
 (.seq (.region [I 6 (.mv) [.lit (.bool false)]])
  (.ret))
 (.skip)))
 (.seq (.seq (.region [I 14 (.mv) [T 0],
   I 15 (.nilCheck) [T 14],
   I 16 (.fieldAddr 1) [T 15],
   I 17 (.load1) [T 16],
   I 18 (.mv) [T 2],
   I 19 (.lookup (.scal .int) (.int .i64 0) true) [T 17, T 18],
   I 13 (.mv) [T 19],
   I 20 (.extract 0) [T 13],
   I 21 (.extract 1) [T 13],
   I 7 (.mv) [T 20],
   I 8 (.mv) [T 21]])
 (.seq (.region [I 22 (.mv) [T 8],
   I 23 (.un .not) [T 22],
   I 24 (.mv) [T 23],
   IG 25 (.mv) [T 0] 24 true,
   IG 26 (.nilCheck) [T 25] 24 true,
   IG 27 (.fieldAddr 1) [T 26] 24 true,
   IG 28 (.load1) [T 27] 24 true,
   IG 29 (.lenm) [T 28] 24 true,
   IG 30 (.bin .geq) [T 29, N 4096] 24 true,
   I 31 (.pick) [T 24, T 30, .lit (.bool false)]])
 (.cond (T 31)
 (.seq (.region [I 6 (.mv) [.lit (.bool false)]])
  (.ret))
 (.skip))))
 (.seq (.region [I 32 (.mv) [T 0],
   I 33 (.mv) [T 2],
   I 34 (.callv) [F 134, T 32, T 33]])
 (.seq (.region [I 35 (.mv) [T 0],
   I 36 (.nilCheck) [T 35],
   I 37 (.fieldAddr 1) [T 36],
   I 38 (.load1) [T 37],
   I 39 (.mv) [T 2],
   I 40 (.mv) [T 1],
   J (.mapput (.scal .int)) [T 38, T 39, T 40]])
 (.seq (.region [I 6 (.mv) [.lit (.bool true)]])
 (.ret))))))⟩
theorem t236 : trFn Tryz.prog Tryz.f236 = some c_ring_Rows_int_enter := by kernel_rfl
abbrev n_ring_Rows_int_All : Nat := 237
def c_ring_Rows_int_All : AFn := ⟨6, [.tmp 4],
 .seq (.region [I 2 (.box 110 1) [T 0],
   I 3 (.box 3 1) [T 1],
   I 4 (.mv) [.lit .nilfunc]])
 (.seq (.region [I 5 (.mkfunc 310 0) [T 2, T 3],
   I 4 (.mv) [T 5]])
 (.ret))⟩
theorem t237 : trFn Tryz.prog Tryz.f237 = some c_ring_Rows_int_All := by kernel_rfl
abbrev n_maps_Keys_map_int_kern_proc_int_kern_proc : Nat := 238
def c_maps_Keys_map_int_kern_proc_int_kern_proc : AFn := ⟨4, [.tmp 2],
 .seq (.region [I 1 (.box 67 1) [T 0],
   I 2 (.mv) [.lit .nilfunc]])
 (.seq (.region [I 3 (.mkfunc 312 0) [T 1],
   I 2 (.mv) [T 3]])
 (.ret))⟩
theorem t238 : trFn Tryz.prog Tryz.f238 = some c_maps_Keys_map_int_kern_proc_int_kern_proc := by kernel_rfl
abbrev n_pmap_Map_All_1 : Nat := 239
def c_pmap_Map_All_1_A0 : ACode :=
 .seq (.region [I 3 (.mv) [T 17]])
 (.region [I 4 (.alloc 204 2 (.vals [(.int .i64 0), (.int .i64 0)])) [],
   J (.store 2) [T 4, T 18]])
def c_pmap_Map_All_1_B0 : ACode :=
 .block 1 (.seq (.region [I 19 (.load1) [T 2],
   I 20 (.mv) [T 3],
   I 21 (.loadn 2) [T 4],
   I 22 (.callv) [T 19, T 20, T 21],
   I 23 (.un .not) [T 22]])
 (.cond (T 23)
 (.ret)
 (.skip)))
def c_pmap_Map_All_1 : AFn := ⟨24, [],
 .seq (.region [I 2 (.box 292 1) [T 0]])
 (.seq (.seq (.region [I 5 (.load1) [T 1],
   I 6 (.callv) [F 178, T 5],
   I 7 (.un .not) [T 6]])
 (.cond (T 7)
 (.ret)
 (.skip)))
 (.seq (.draw [[⟨0, I 8 (.load1) [T 1], [], false⟩,
   ⟨1, I 9 (.nilCheck) [T 8], [], false⟩,
   ⟨2, I 10 (.fieldAddr 0) [T 9], [], false⟩,
   ⟨3, I 11 (.load1) [T 10], [], false⟩,
   ⟨4, I 12 (.load1) [T 1], [], false⟩,
   ⟨5, I 13 (.nilCheck) [T 12], [], false⟩,
   ⟨6, I 14 (.fieldAddr 3) [T 13], [], false⟩,
   ⟨7, I 15 (.load1) [T 14], [], false⟩,
   ⟨8, I 16 (.callv) [F 240, T 11, T 15], [], false⟩]])
 (.block 0 (.rfun (T 16) [17, 18] c_pmap_Map_All_1_A0 c_pmap_Map_All_1_B0))))⟩
theorem t239 : trFn Tryz.prog Tryz.f239 = some c_pmap_Map_All_1 := by kernel_rfl
abbrev n_walk_Leaves : Nat := 240
def c_walk_Leaves : AFn := ⟨6, [.tmp 4],
 .seq (.region [I 2 (.box 49 1) [T 0],
   I 3 (.box 3 1) [T 1],
   I 4 (.mv) [.lit .nilfunc]])
 (.seq (.region [I 5 (.mkfunc 313 0) [T 2, T 3],
   I 4 (.mv) [T 5]])
 (.ret))⟩
theorem t240 : trFn Tryz.prog Tryz.f240 = some c_walk_Leaves := by kernel_rfl
abbrev n_pmap_Map_change : Nat := 241
def c_pmap_Map_change : AFn := ⟨52, [.tmp 6],
 .seq (.region [I 6 (.mv) [.lit (.bool false)]])
 (.seq (.region [I 14 (.mv) [T 0],
   I 15 (.mv) [T 1],
   I 16 (.callv) [F 317, T 14, T 15],
   I 13 (.mv) [T 16],
   I 17 (.extract 0) [T 13],
   I 18 (.extract 1) [T 13],
   I 7 (.alloc 204 2 (.vals [(.int .i64 0), (.int .i64 0)])) [],
   J (.store 2) [T 7, T 17],
   I 8 (.mv) [T 18]])
 (.seq (.seq (.region [I 19 (.mv) [T 8],
   I 20 (.un .not) [T 19]])
 (.cond (T 20)
 (.seq (.region [I 6 (.mv) [.lit (.bool false)]])
  (.ret))
 (.skip)))
 (.seq (.draw [[⟨0, I 22 (.mv) [T 0], [], false⟩,
   ⟨1, I 23 (.nilCheck) [T 22], [], false⟩,
   ⟨2, I 24 (.fieldAddr 0) [T 23], [], false⟩,
   ⟨3, I 25 (.load1) [T 24], [], false⟩,
   ⟨4, I 26 (.mv) [T 0], [], false⟩,
   ⟨5, I 27 (.nilCheck) [T 26], [], false⟩,
   ⟨6, I 28 (.fieldAddr 3) [T 27], [], false⟩,
   ⟨7, I 29 (.load1) [T 28], [], false⟩,
   ⟨8, I 30 (.mv) [T 1], [], false⟩,
   ⟨9, I 31 (.callv) [F 318, T 25, T 29, T 30], [], false⟩,
   ⟨10, I 21 (.mv) [T 31], [], false⟩,
   ⟨11, I 32 (.extract 0) [T 21], [], false⟩,
   ⟨12, I 33 (.extract 1) [T 21], [], false⟩,
   ⟨13, I 34 (.extract 2) [T 21], [], false⟩,
   ⟨14, I 9 (.mv) [T 32], [], false⟩,
   ⟨15, I 10 (.mv) [T 33], [], false⟩,
   ⟨16, I 11 (.mv) [T 34], [], false⟩]])
 (.seq (.region [I 35 (.mv) [T 2],
   I 36 (.loadn 2) [T 7],
   I 37 (.callv) [T 35, T 36],
   I 38 (.callv) [F 319, T 37],
   I 12 (.mv) [T 38]])
 (.seq (.region [I 39 (.mv) [T 0],
   I 40 (.nilCheck) [T 39],
   I 41 (.fieldAddr 0) [T 40],
   I 42 (.load1) [T 41],
   I 43 (.mv) [T 9],
   I 44 (.mv) [T 10],
   I 45 (.mv) [T 12],
   I 46 (.callv) [F 276, T 42, T 43, T 44, T 45]])
 (.seq (.seq (.region [I 47 (.mv) [T 12],
   I 48 (.bin .eql) [T 47, .lit (.int .u64 0)]])
 (.cond (T 48)
 (.region [I 49 (.mv) [T 0],
    I 50 (.mv) [T 1],
    I 51 (.callv) [F 320, T 49, T 50]])
 (.skip)))
 (.seq (.region [I 6 (.mv) [.lit (.bool true)]])
 (.ret))))))))⟩
theorem t241 : trFn Tryz.prog Tryz.f241 = some c_pmap_Map_change := by kernel_rfl
abbrev n_pmap_Map_Clear_1 : Nat := 242
def c_pmap_Map_Clear_1 : AFn := ⟨16, [.cell 4 (.loadn 2)],
 .seq (.region [I 3 (.box 204 2) [T 0],
   I 4 (.alloc 204 2 (.vals [(.int .i64 0), (.int .i64 0)])) []])
 (.seq (.region [I 5 (.fieldAddr 0) [T 3],
   I 6 (.load1) [T 5],
   I 7 (.load1) [T 1],
   I 8 (.bin .and) [T 6, T 7],
   I 9 (.bin .and) [T 8, N 192],
   J (.store 1) [T 2, T 9]])
 (.seq (.region [I 10 (.fieldAddr 0) [T 3],
   I 11 (.load1) [T 10],
   I 12 (.load1) [T 2],
   I 13 (.bin .andNot) [T 11, T 12],
   I 14 (.fieldAddr 0) [T 3],
   J (.store 1) [T 14, T 13]])
 (.seq (.region [I 15 (.loadn 2) [T 3],
   J (.store 2) [T 4, T 15]])
 (.ret))))⟩
theorem t242 : trFn Tryz.prog Tryz.f242 = some c_pmap_Map_Clear_1 := by kernel_rfl
abbrev n_slices_IndexFunc_frames_Frame_frames_Frame : Nat := 244
def c_slices_IndexFunc_frames_Frame_frames_Frame_L0 : ACode :=
 .seq (.region [I 9 (.bin .lss) [T 8, T 7]])
 (.seq (.cond (T 9)
 (.skip)
 (.exit 0))
 (.seq (.block 1 (.seq (.region [I 10 (.mv) [T 8],
   I 5 (.mv) [T 10]])
 (.seq (.region [I 11 (.mv) [T 1],
   I 12 (.mv) [T 0],
   I 13 (.mv) [T 5],
   I 14 (.indexs 5) [T 12, T 13],
   I 15 (.loadn 5) [T 14],
   I 16 (.callv) [T 11, T 15]])
 (.cond (T 16)
 (.seq (.region [I 17 (.mv) [T 5],
    I 4 (.mv) [T 17]])
  (.ret))
 (.skip)))))
 (.region [I 18 (.bin .add) [T 8, N 1],
   I 8 (.mv) [T 18]])))
def c_slices_IndexFunc_frames_Frame_frames_Frame : AFn := ⟨19, [.tmp 4],
 .seq (.region [I 4 (.mv) [N 0]])
 (.seq (.seq (.region [I 6 (.mv) [T 0],
   I 7 (.lens) [T 6],
   I 8 (.mv) [N 0]])
 (.block 0 (.loop c_slices_IndexFunc_frames_Frame_frames_Frame_L0)))
 (.seq (.region [I 4 (.mv) [N (-1)]])
 (.ret)))⟩
theorem t244 : trFn Tryz.prog Tryz.f244 = some c_slices_IndexFunc_frames_Frame_frames_Frame := by kernel_rfl
abbrev n_frames_Pool_Take_1 : Nat := 245
def c_frames_Pool_Take_1 : AFn := ⟨6, [.tmp 2],
 .seq (.region [I 1 (.box 80 5) [T 0],
   I 2 (.mv) [.lit (.bool false)]])
 (.seq (.region [I 3 (.loadn 5) [T 1],
   I 4 (.build (.agg [(.int .i64 0), (.int .i64 0), (.int .i64 0), (.int .i64 0), (.int .i64 0)]) []) [],
   I 5 (.eqv false (.flat [.int, .int, .int, .int, .int])) [T 3, T 4],
   I 2 (.mv) [T 5]])
 (.ret))⟩
theorem t245 : trFn Tryz.prog Tryz.f245 = some c_frames_Pool_Take_1 := by kernel_rfl
abbrev n_maps_Keys_map_int_object_one_int_object_one : Nat := 248
def c_maps_Keys_map_int_object_one_int_object_one : AFn := ⟨4, [.tmp 2],
 .seq (.region [I 1 (.box 142 1) [T 0],
   I 2 (.mv) [.lit .nilfunc]])
 (.seq (.region [I 3 (.mkfunc 322 0) [T 1],
   I 2 (.mv) [T 3]])
 (.ret))⟩
theorem t248 : trFn Tryz.prog Tryz.f248 = some c_maps_Keys_map_int_object_one_int_object_one := by kernel_rfl
abbrev n_entry_Clip : Nat := 251
def c_entry_Clip : AFn := ⟨56, [.tmp 4],
 .seq (.region [I 4 (.mv) [.lit .nilsl]])
 (.seq (.region [I 8 (.mv) [T 0],
   I 9 (.callv) [F 172, T 8],
   I 0 (.mv) [T 9]])
 (.seq (.region [I 11 (.mv) [T 0],
   I 12 (.mv) [T 1],
   I 13 (.callv) [F 123, T 11, T 12],
   I 10 (.mv) [T 13],
   I 14 (.extract 0) [T 10],
   I 15 (.extract 1) [T 10],
   I 5 (.mv) [T 14],
   I 6 (.mv) [T 15]])
 (.seq (.seq (.region [I 16 (.mv) [T 6],
   I 17 (.un .not) [T 16],
   I 18 (.mv) [T 17],
   IG 19 (.mv) [T 0] 18 false,
   IG 20 (.mv) [T 5] 18 false,
   IG 21 (.indexs 10) [T 19, T 20] 18 false,
   IG 22 (.fieldAddr 0) [T 21] 18 false,
   IG 23 (.load1) [T 22] 18 false,
   IG 24 (.mv) [T 1] 18 false,
   IG 25 (.bin .eql) [T 23, T 24] 18 false,
   I 26 (.pick) [T 18, .lit (.bool true), T 25]])
 (.cond (T 26)
 (.seq (.region [I 27 (.mv) [T 0],
    I 4 (.mv) [T 27]])
  (.ret))
 (.skip)))
 (.seq (.region [I 28 (.mv) [T 0],
   I 29 (.mv) [T 5],
   I 30 (.indexs 10) [T 28, T 29],
   I 31 (.loadn 10) [T 30],
   I 7 (.alloc 94 10 (.vals [(.int .i64 0), (.int .i64 0), (.int .i64 0), (.int .i64 0), (.bool false), (.int .i64 0), (.int .i64 0), (.int .i64 0), (.int .i64 0), (.bool false)])) [],
   J (.store 10) [T 7, T 31]])
 (.seq (.seq (.region [I 32 (.fieldAddr 2) [T 7],
   I 33 (.load1) [T 32],
   I 34 (.bin .gtr) [T 33, N 0]])
 (.cond (T 34)
 (.region [I 35 (.fieldAddr 3) [T 7],
    I 36 (.load1) [T 35],
    I 37 (.mv) [T 1],
    I 38 (.fieldAddr 0) [T 7],
    I 39 (.load1) [T 38],
    I 40 (.bin .sub) [T 37, T 39],
    I 41 (.bin .add) [T 36, T 40],
    I 42 (.fieldAddr 3) [T 7],
    J (.store 1) [T 42, T 41]])
 (.skip)))
 (.seq (.region [I 43 (.mv) [T 0],
   I 44 (.mv) [T 5],
   I 45 (.mv) [T 1],
   I 46 (.mv) [T 1],
   I 47 (.indexs 10) [T 43, T 44],
   I 48 (.fieldAddr 1) [T 47],
   J (.store 1) [T 48, T 45],
   I 49 (.fieldAddr 0) [T 7],
   J (.store 1) [T 49, T 46]])
 (.seq (.region [I 50 (.mv) [T 0],
   I 51 (.mv) [T 5],
   I 52 (.bin .add) [T 51, N 1],
   I 53 (.loadn 10) [T 7],
   I 54 (.bslice 94 10 1 (.vals [(.int .i64 0), (.int .i64 0), (.int .i64 0), (.int .i64 0), (.bool false), (.int .i64 0), (.int .i64 0), (.int .i64 0), (.int .i64 0), (.bool false)]) [0]) [T 53],
   I 55 (.callv) [F 255, T 50, T 52, T 54],
   I 4 (.mv) [T 55]])
 (.ret))))))))⟩
theorem t251 : trFn Tryz.prog Tryz.f251 = some c_entry_Clip := by kernel_rfl
abbrev n_slices_DeleteFunc_api_Entry_api_Entry : Nat := 252
def c_slices_DeleteFunc_api_Entry_api_Entry_L0 : ACode :=
 .seq (.seq (.region [I 16 (.mv) [T 6],
   I 17 (.mv) [T 0],
   I 18 (.lens) [T 17],
   I 19 (.bin .lss) [T 16, T 18]])
 (.cond (T 19)
 (.skip)
 (.exit 0)))
 (.seq (.block 1 (.seq (.region [I 22 (.mv) [T 0],
   I 23 (.mv) [T 6],
   I 24 (.indexs 10) [T 22, T 23],
   I 25 (.loadn 10) [T 24],
   I 7 (.alloc 94 10 (.vals [(.int .i64 0), (.int .i64 0), (.int .i64 0), (.int .i64 0), (.bool false), (.int .i64 0), (.int .i64 0), (.int .i64 0), (.int .i64 0), (.bool false)])) [],
   J (.store 10) [T 7, T 25]])
 (.seq (.region [I 26 (.mv) [T 1],
   I 27 (.loadn 10) [T 7],
   I 28 (.callv) [T 26, T 27],
   I 29 (.un .not) [T 28]])
 (.cond (T 29)
 (.seq (.region [I 30 (.mv) [T 0],
    I 31 (.mv) [T 5],
    I 32 (.loadn 10) [T 7],
    I 33 (.indexs 10) [T 30, T 31],
    J (.store 10) [T 33, T 32]])
  (.region [I 34 (.mv) [T 5],
    I 35 (.bin .add) [T 34, N 1],
    I 5 (.mv) [T 35]]))
 (.skip)))))
 (.region [I 20 (.mv) [T 6],
   I 21 (.bin .add) [T 20, N 1],
   I 6 (.mv) [T 21]]))
def c_slices_DeleteFunc_api_Entry_api_Entry : AFn := ⟨42, [.tmp 4],
 .seq (.region [I 4 (.mv) [.lit .nilsl]])
 (.seq (.region [I 8 (.mv) [T 0],
   I 9 (.mv) [T 1],
   I 10 (.callv) [F 325, T 8, T 9],
   I 5 (.mv) [T 10]])
 (.seq (.seq (.region [I 11 (.mv) [T 5],
   I 12 (.bin .eql) [T 11, N (-1)]])
 (.cond (T 12)
 (.seq (.region [I 13 (.mv) [T 0],
    I 4 (.mv) [T 13]])
  (.ret))
 (.skip)))
 (.seq (.seq (.region [I 14 (.mv) [T 5],
   I 15 (.bin .add) [T 14, N 1],
   I 6 (.mv) [T 15]])
 (.block 0 (.loop c_slices_DeleteFunc_api_Entry_api_Entry_L0)))
 (.seq (.region [I 36 (.mv) [T 0],
   I 37 (.mv) [T 5],
   I 38 (.slice 10 true false false) [T 36, T 37],
   J (.clear 10 (.vals [(.int .i64 0), (.int .i64 0), (.int .i64 0), (.int .i64 0), (.bool false), (.int .i64 0), (.int .i64 0), (.int .i64 0), (.int .i64 0), (.bool false)])) [T 38]])
 (.seq (.region [I 39 (.mv) [T 0],
   I 40 (.mv) [T 5],
   I 41 (.slice 10 false true false) [T 39, T 40],
   I 4 (.mv) [T 41]])
 (.ret))))))⟩
theorem t252 : trFn Tryz.prog Tryz.f252 = some c_slices_DeleteFunc_api_Entry_api_Entry := by kernel_rfl
abbrev n_entry_room : Nat := 254
def c_entry_room_L0 : ACode :=
 .seq (.region [I 23 (.bin .lss) [T 22, T 21]])
 (.seq (.cond (T 23)
 (.skip)
 (.exit 0))
 (.seq (.block 1 (.seq (.region [I 24 (.indexs 10) [T 20, T 22],
   I 25 (.loadn 10) [T 24],
   I 11 (.alloc 94 10 (.vals [(.int .i64 0), (.int .i64 0), (.int .i64 0), (.int .i64 0), (.bool false), (.int .i64 0), (.int .i64 0), (.int .i64 0), (.int .i64 0), (.bool false)])) [],
   J (.store 10) [T 11, T 25]])
 (.seq (.seq (.region [I 26 (.mv) [T 1],
   I 27 (.fieldAddr 0) [T 11],
   I 28 (.load1) [T 27],
   I 29 (.mv) [T 2],
   I 30 (.bin .sub) [T 28, T 29],
   I 31 (.bin .leq) [T 26, T 30]])
 (.cond (T 31)
 (.exit 0)
 (.skip)))
 (.region [I 32 (.fieldAddr 1) [T 11],
   I 33 (.load1) [T 32],
   I 1 (.mv) [T 33]]))))
 (.region [I 34 (.bin .add) [T 22, N 1],
   I 22 (.mv) [T 34]])))
def c_entry_room : AFn := ⟨40, [.tmp 6, .tmp 7],
 .seq (.region [I 6 (.mv) [N 0],
   I 7 (.mv) [.lit (.bool false)]])
 (.seq (.region [I 13 (.mv) [T 0],
   I 14 (.mv) [T 1],
   I 15 (.callv) [F 123, T 13, T 14],
   I 12 (.mv) [T 15],
   I 16 (.extract 0) [T 12],
   I 17 (.extract 1) [T 12],
   I 8 (.mv) [T 16],
   I 9 (.mv) [T 17]])
 (.seq (.seq (.region [I 18 (.mv) [T 0],
   I 19 (.mv) [T 8],
   I 20 (.slice 10 true false false) [T 18, T 19],
   I 21 (.lens) [T 20],
   I 22 (.mv) [N 0]])
 (.block 0 (.loop c_entry_room_L0)))
 (.seq (.region [I 35 (.mv) [T 1],
   I 36 (.mv) [T 1],
   I 37 (.mv) [T 2],
   I 38 (.bin .sub) [N 67108864, T 37],
   I 39 (.bin .leq) [T 36, T 38],
   I 6 (.mv) [T 35],
   I 7 (.mv) [T 39]])
 (.ret))))⟩
theorem t254 : trFn Tryz.prog Tryz.f254 = some c_entry_room := by kernel_rfl
abbrev n_slices_Insert_api_Entry_api_Entry : Nat := 255
def c_slices_Insert_api_Entry_api_Entry : AFn := ⟨95, [.tmp 6],
 .seq (.region [I 6 (.mv) [.lit .nilsl]])
 (.seq (.region [I 10 (.mv) [T 0],
   I 11 (.mv) [T 1],
   I 12 (.slice 10 true false false) [T 10, T 11]])
 (.seq (.region [I 13 (.mv) [T 2],
   I 14 (.lens) [T 13],
   I 7 (.mv) [T 14]])
 (.seq (.seq (.region [I 15 (.mv) [T 7],
   I 16 (.bin .eql) [T 15, N 0]])
 (.cond (T 16)
 (.seq (.region [I 17 (.mv) [T 0],
    I 6 (.mv) [T 17]])
  (.ret))
 (.skip)))
 (.seq (.region [I 18 (.mv) [T 0],
   I 19 (.lens) [T 18],
   I 8 (.mv) [T 19]])
 (.seq (.seq (.region [I 20 (.mv) [T 1],
   I 21 (.mv) [T 8],
   I 22 (.bin .eql) [T 20, T 21]])
 (.cond (T 22)
 (.seq (.region [I 23 (.mv) [T 0],
    I 24 (.mv) [T 2],
    I 25 (.append 94 10 80 (.vals [(.int .i64 0), (.int .i64 0), (.int .i64 0), (.int .i64 0), (.bool false), (.int .i64 0), (.int .i64 0), (.int .i64 0), (.int .i64 0), (.bool false)])) [T 23, T 24],
    I 6 (.mv) [T 25]])
  (.ret))
 (.skip)))
 (.seq (.seq (.region [I 26 (.mv) [T 8],
   I 27 (.mv) [T 7],
   I 28 (.bin .add) [T 26, T 27],
   I 29 (.mv) [T 0],
   I 30 (.cap) [T 29],
   I 31 (.bin .gtr) [T 28, T 30]])
 (.cond (T 31)
 (.seq (.region [I 32 (.mv) [T 0],
    I 33 (.mv) [T 1],
    I 34 (.slice 10 false true false) [T 32, T 33],
    I 35 (.mv) [T 8],
    I 36 (.mv) [T 7],
    I 37 (.bin .add) [T 35, T 36],
    I 38 (.mv) [T 1],
    I 39 (.bin .sub) [T 37, T 38],
    I 40 (.appendz 94 10 80 (.vals [(.int .i64 0), (.int .i64 0), (.int .i64 0), (.int .i64 0), (.bool false), (.int .i64 0), (.int .i64 0), (.int .i64 0), (.int .i64 0), (.bool false)])) [T 34, T 39],
    I 9 (.mv) [T 40]])
  (.seq (.region [I 41 (.mv) [T 9],
    I 42 (.mv) [T 1],
    I 43 (.slice 10 true false false) [T 41, T 42],
    I 44 (.mv) [T 2],
    I 45 (.copy 10) [T 43, T 44]])
  (.seq (.draw [[⟨0, I 46 (.mv) [T 9], [], false⟩,
    ⟨1, I 47 (.mv) [T 1], [], false⟩,
    ⟨2, I 48 (.mv) [T 7], [], false⟩,
    ⟨3, I 49 (.bin .add) [T 47, T 48], [], false⟩,
    ⟨4, I 50 (.slice 10 true false false) [T 46, T 49], [], false⟩,
    ⟨5, I 51 (.mv) [T 0], [], false⟩,
    ⟨6, I 52 (.mv) [T 1], [], false⟩,
    ⟨7, I 53 (.slice 10 true false false) [T 51, T 52], [], false⟩,
    ⟨8, I 54 (.copy 10) [T 50, T 53], [], false⟩]])
  (.seq (.region [I 55 (.mv) [T 9],
    I 6 (.mv) [T 55]])
  (.ret)))))
 (.skip)))
 (.seq (.region [I 56 (.mv) [T 0],
   I 57 (.mv) [T 8],
   I 58 (.mv) [T 7],
   I 59 (.bin .add) [T 57, T 58],
   I 60 (.slice 10 false true false) [T 56, T 59],
   I 0 (.mv) [T 60]])
 (.seq (.seq (.region [I 61 (.mv) [T 2],
   I 62 (.mv) [T 0],
   I 63 (.mv) [T 1],
   I 64 (.mv) [T 7],
   I 65 (.bin .add) [T 63, T 64],
   I 66 (.slice 10 true false false) [T 62, T 65],
   I 67 (.callv) [F 326, T 61, T 66],
   I 68 (.un .not) [T 67]])
 (.cond (T 68)
 (.seq (.draw [[⟨0, I 69 (.mv) [T 0], [], false⟩,
    ⟨1, I 70 (.mv) [T 1], [], false⟩,
    ⟨2, I 71 (.mv) [T 7], [], false⟩,
    ⟨3, I 72 (.bin .add) [T 70, T 71], [], false⟩,
    ⟨4, I 73 (.slice 10 true false false) [T 69, T 72], [], false⟩,
    ⟨5, I 74 (.mv) [T 0], [], false⟩,
    ⟨6, I 75 (.mv) [T 1], [], false⟩,
    ⟨7, I 76 (.slice 10 true false false) [T 74, T 75], [], false⟩,
    ⟨8, I 77 (.copy 10) [T 73, T 76], [], false⟩]])
  (.seq (.region [I 78 (.mv) [T 0],
    I 79 (.mv) [T 1],
    I 80 (.slice 10 true false false) [T 78, T 79],
    I 81 (.mv) [T 2],
    I 82 (.copy 10) [T 80, T 81]])
  (.seq (.region [I 83 (.mv) [T 0],
    I 6 (.mv) [T 83]])
  (.ret))))
 (.skip)))
 (.seq (.region [I 84 (.mv) [T 0],
   I 85 (.mv) [T 8],
   I 86 (.slice 10 true false false) [T 84, T 85],
   I 87 (.mv) [T 2],
   I 88 (.copy 10) [T 86, T 87]])
 (.seq (.region [I 89 (.mv) [T 0],
   I 90 (.mv) [T 1],
   I 91 (.slice 10 true false false) [T 89, T 90],
   I 92 (.mv) [T 7],
   I 93 (.callv) [F 327, T 91, T 92]])
 (.seq (.region [I 94 (.mv) [T 0],
   I 6 (.mv) [T 94]])
 (.ret))))))))))))⟩
theorem t255 : trFn Tryz.prog Tryz.f255 = some c_slices_Insert_api_Entry_api_Entry := by kernel_rfl
abbrev n_tlb_Table_Find : Nat := 257
def c_tlb_Table_Find : AFn := ⟨22, [.cell 4 (.loadn 2), .tmp 5],
 .seq (.region [I 3 (.box 207 2) [T 1],
   I 4 (.alloc 204 2 (.vals [(.int .i64 0), (.int .i64 0)])) [],
   I 5 (.mv) [.lit (.bool false)]])
 (.seq (.seq (.region [I 8 (.mv) [T 0],
   I 9 (.eqv false .ptr) [T 8, .lit .nilptr]])
 (.cond (T 9)
 (.seq (.region [I 10 (.build (.agg [(.int .i64 0), (.int .i64 0)]) []) [],
    J (.store 2) [T 4, T 10],
    I 5 (.mv) [.lit (.bool false)]])
  (.ret))
 (.skip)))
 (.seq (.draw [[⟨0, I 12 (.mv) [T 0], [], false⟩,
   ⟨1, I 13 (.nilCheck) [T 12], [], false⟩,
   ⟨2, I 14 (.fieldAddr 2) [T 13], [], false⟩,
   ⟨3, I 15 (.load1) [T 14], [], false⟩,
   ⟨4, I 16 (.loadn 2) [T 3], [], false⟩,
   ⟨5, I 17 (.lookup (.flat [.int, .int]) (.agg [(.int .i64 0), (.int .i64 0)]) true) [T 15, T 16], [], false⟩,
   ⟨6, I 11 (.mv) [T 17], [], false⟩,
   ⟨7, I 18 (.extract 0) [T 11], [], false⟩,
   ⟨8, I 19 (.extract 1) [T 11], [], false⟩,
   ⟨9, I 6 (.alloc 204 2 (.vals [(.int .i64 0), (.int .i64 0)])) [], [(3, I 15 (.load1) [T 14]), (4, I 16 (.loadn 2) [T 3]), (5, I 17 (.lookup (.flat [.int, .int]) (.agg [(.int .i64 0), (.int .i64 0)]) true) [T 15, T 16])], false⟩,
   ⟨10, J (.store 2) [T 6, T 18], [], false⟩,
   ⟨11, I 7 (.mv) [T 19], [], false⟩]])
 (.seq (.region [I 20 (.loadn 2) [T 6],
   I 21 (.mv) [T 7],
   J (.store 2) [T 4, T 20],
   I 5 (.mv) [T 21]])
 (.ret))))⟩
theorem t257 : trFn Tryz.prog Tryz.f257 = some c_tlb_Table_Find := by kernel_rfl
abbrev n_pte_May : Nat := 258
def c_pte_May : AFn := ⟨37, [.tmp 6],
 .seq (.region [I 3 (.box 204 2) [T 0],
   I 6 (.mv) [.lit (.bool false)]])
 (.seq (.region [I 7 (.mv) [N 0]])
 (.seq (.seq (.region [I 8 (.mv) [T 1]])
 (.block 0 (.seq (.region [I 10 (.bin .eql) [T 8, N 1],
   I 9 (.mv) [T 10]])
 (.cond (T 9)
 (.region [I 7 (.mv) [N 2]])
 (.seq (.region [I 12 (.bin .eql) [T 8, N 2],
    I 11 (.mv) [T 12]])
  (.cond (T 11)
  (.region [I 7 (.mv) [N 4]])
  (.seq (.region [I 14 (.bin .eql) [T 8, N 4],
     I 13 (.mv) [T 14]])
   (.cond (T 13)
   (.region [I 7 (.mv) [N 8]])
   (.skip)))))))))
 (.seq (.region [I 15 (.loadn 2) [T 3],
   I 16 (.callv) [F 275, T 15],
   I 17 (.bin .eql) [T 16, N 2],
   I 18 (.mv) [T 17],
   IG 19 (.mv) [T 7] 18 true,
   IG 20 (.bin .gtr) [T 19, N 0] 18 true,
   I 21 (.pick) [T 18, T 20, .lit (.bool false)],
   I 22 (.mv) [T 21],
   IG 23 (.fieldAddr 0) [T 3] 22 true,
   IG 24 (.load1) [T 23] 22 true,
   IG 25 (.mv) [T 7] 22 true,
   IG 26 (.bin .and) [T 24, T 25] 22 true,
   IG 27 (.bin .gtr) [T 26, N 0] 22 true,
   I 28 (.pick) [T 22, T 27, .lit (.bool false)],
   I 29 (.mv) [T 28],
   IG 30 (.fieldAddr 0) [T 3] 29 true,
   IG 31 (.load1) [T 30] 29 true,
   IG 32 (.bin .and) [T 31, N 16] 29 true,
   IG 33 (.bin .gtr) [T 32, N 0] 29 true,
   IG 34 (.mv) [T 2] 29 true,
   IG 35 (.eqv false (.scal .bool)) [T 33, T 34] 29 true,
   I 36 (.pick) [T 29, T 35, .lit (.bool false)],
   I 6 (.mv) [T 36]])
 (.ret))))⟩
theorem t258 : trFn Tryz.prog Tryz.f258 = some c_pte_May := by kernel_rfl
abbrev n_walk_Walk : Nat := 259
def c_walk_Walk : AFn := ⟨90, [.tmp 10, .tmp 11, .tmp 12],
 .seq (.region [I 10 (.mv) [N 0],
   I 11 (.mv) [N 0],
   I 12 (.mv) [N 0]])
 (.seq (.seq (.region [I 22 (.mv) [T 2],
   I 23 (.callv) [F 328, T 22],
   I 24 (.un .not) [T 23],
   I 25 (.mv) [T 24],
   IG 26 (.mv) [T 1] 25 false,
   IG 27 (.bin .lss) [T 26, N 0] 25 false,
   I 28 (.pick) [T 25, .lit (.bool true), T 27],
   I 29 (.mv) [T 28],
   IG 30 (.mv) [T 1] 29 false,
   IG 31 (.mv) [T 0] 29 false,
   IG 32 (.callv) [F 44, T 31] 29 false,
   IG 33 (.bin .geq) [T 30, T 32] 29 false,
   I 34 (.pick) [T 29, .lit (.bool true), T 33]])
 (.cond (T 34)
 (.seq (.region [I 10 (.mv) [N 2],
    I 11 (.mv) [N 0],
    I 12 (.mv) [N 0]])
  (.ret))
 (.skip)))
 (.seq (.region [I 36 (.mv) [T 2],
   I 37 (.callv) [F 329, T 36],
   I 35 (.mv) [T 37],
   I 38 (.extract 0) [T 35],
   I 39 (.extract 1) [T 35],
   I 13 (.mv) [T 38],
   I 14 (.mv) [T 39]])
 (.seq (.region [I 41 (.mv) [T 0],
   I 42 (.mv) [T 1],
   I 43 (.mv) [T 13],
   I 44 (.callv) [F 318, T 41, T 42, T 43],
   I 40 (.mv) [T 44],
   I 45 (.extract 0) [T 40],
   I 46 (.extract 1) [T 40],
   I 47 (.extract 2) [T 40],
   I 15 (.mv) [T 45],
   I 16 (.mv) [T 46],
   I 17 (.mv) [T 47]])
 (.seq (.seq (.region [I 48 (.mv) [T 17],
   I 49 (.un .not) [T 48]])
 (.cond (T 49)
 (.seq (.region [I 10 (.mv) [N 1],
    I 11 (.mv) [N 0],
    I 12 (.mv) [N 0]])
  (.ret))
 (.skip)))
 (.seq (.region [I 50 (.mv) [T 0],
   I 51 (.mv) [T 15],
   I 52 (.mv) [T 16],
   I 53 (.callv) [F 315, T 50, T 51, T 52],
   I 18 (.alloc 204 2 (.vals [(.int .i64 0), (.int .i64 0)])) [],
   J (.store 2) [T 18, T 53]])
 (.seq (.seq (.draw [[⟨0, I 54 (.loadn 2) [T 18], [], false⟩,
   ⟨1, I 55 (.callv) [F 275, T 54], [], false⟩,
   ⟨2, I 56 (.bin .neq) [T 55, N 2], [], false⟩,
   ⟨3, I 57 (.mv) [T 56], [], false⟩,
   ⟨4, IG 58 (.fieldAddr 1) [T 18] 57 false, [], false⟩,
   ⟨5, IG 59 (.load1) [T 58] 57 false, [], false⟩,
   ⟨6, IG 60 (.mv) [T 0] 57 false, [], false⟩,
   ⟨7, IG 61 (.callv) [F 44, T 60] 57 false, [(5, IG 59 (.load1) [T 58] 57 false)], false⟩,
   ⟨8, IG 62 (.bin .geq) [T 59, T 61] 57 false, [], false⟩,
   ⟨9, I 63 (.pick) [T 57, .lit (.bool true), T 62], [], false⟩]])
 (.cond (T 63)
 (.seq (.region [I 10 (.mv) [N 1],
    I 11 (.mv) [N 0],
    I 12 (.mv) [N 0]])
  (.ret))
 (.skip)))
 (.seq (.seq (.region [I 64 (.loadn 2) [T 18],
   I 65 (.mv) [T 3],
   I 66 (.mv) [T 4],
   I 67 (.callv) [F 258, T 64, T 65, T 66],
   I 68 (.un .not) [T 67]])
 (.cond (T 68)
 (.seq (.region [I 10 (.mv) [N 3],
    I 11 (.mv) [N 0],
    I 12 (.mv) [N 0]])
  (.ret))
 (.skip)))
 (.seq (.region [I 19 (.mv) [.lit (.int .u64 64)]])
 (.seq (.seq (.region [I 69 (.mv) [T 3],
   I 70 (.bin .eql) [T 69, N 2]])
 (.cond (T 70)
 (.region [I 71 (.mv) [T 19],
    I 72 (.bin .or) [T 71, .lit (.int .u64 128)],
    I 19 (.mv) [T 72]])
 (.skip)))
 (.seq (.region [I 74 (.mv) [T 0],
   I 75 (.mv) [T 15],
   I 76 (.mv) [T 16],
   I 77 (.callv) [F 273, T 74, T 75, T 76],
   I 73 (.mv) [T 77],
   I 78 (.extract 0) [T 73],
   I 79 (.extract 1) [T 73],
   I 20 (.mv) [T 78],
   I 21 (.mv) [T 79]])
 (.seq (.region [I 80 (.mv) [T 0],
   I 81 (.mv) [T 15],
   I 82 (.mv) [T 16],
   I 83 (.mv) [T 20],
   I 84 (.mv) [T 19],
   I 85 (.bin .or) [T 83, T 84],
   I 86 (.callv) [F 276, T 80, T 81, T 82, T 85]])
 (.seq (.draw [[⟨0, I 87 (.fieldAddr 1) [T 18], [], false⟩,
   ⟨1, I 88 (.load1) [T 87], [], false⟩,
   ⟨2, I 89 (.mv) [T 14], [], false⟩,
   ⟨3, I 10 (.mv) [N 0], [], false⟩,
   ⟨4, I 11 (.mv) [T 88], [], false⟩,
   ⟨5, I 12 (.mv) [T 89], [], false⟩]])
 (.ret)))))))))))))⟩
theorem t259 : trFn Tryz.prog Tryz.f259 = some c_walk_Walk := by kernel_rfl
abbrev n_pmap_Map_Root : Nat := 260
def c_pmap_Map_Root : AFn := ⟨10, [.tmp 2],
 .seq (.region [I 2 (.mv) [N 0]])
 (.seq (.seq (.region [I 3 (.mv) [T 0],
   I 4 (.callv) [F 178, T 3],
   I 5 (.un .not) [T 4]])
 (.cond (T 5)
 (.seq (.region [I 2 (.mv) [N (-1)]])
  (.ret))
 (.skip)))
 (.seq (.region [I 6 (.mv) [T 0],
   I 7 (.nilCheck) [T 6],
   I 8 (.fieldAddr 3) [T 7],
   I 9 (.load1) [T 8],
   I 2 (.mv) [T 9]])
 (.ret)))⟩
theorem t260 : trFn Tryz.prog Tryz.f260 = some c_pmap_Map_Root := by kernel_rfl
abbrev n_walk_Look : Nat := 261
def c_walk_Look : AFn := ⟨26, [.cell 6 (.loadn 2), .tmp 7],
 .seq (.region [I 6 (.alloc 204 2 (.vals [(.int .i64 0), (.int .i64 0)])) [],
   I 7 (.mv) [.lit (.bool false)]])
 (.seq (.region [I 12 (.mv) [T 0],
   I 13 (.mv) [T 1],
   I 14 (.mv) [T 2],
   I 15 (.callv) [F 318, T 12, T 13, T 14],
   I 11 (.mv) [T 15],
   I 16 (.extract 0) [T 11],
   I 17 (.extract 1) [T 11],
   I 18 (.extract 2) [T 11],
   I 8 (.mv) [T 16],
   I 9 (.mv) [T 17],
   I 10 (.mv) [T 18]])
 (.seq (.seq (.region [I 19 (.mv) [T 10],
   I 20 (.un .not) [T 19]])
 (.cond (T 20)
 (.seq (.region [I 21 (.build (.agg [(.int .i64 0), (.int .i64 0)]) []) [],
    J (.store 2) [T 6, T 21],
    I 7 (.mv) [.lit (.bool false)]])
  (.ret))
 (.skip)))
 (.seq (.region [I 22 (.mv) [T 0],
   I 23 (.mv) [T 8],
   I 24 (.mv) [T 9],
   I 25 (.callv) [F 315, T 22, T 23, T 24],
   J (.store 2) [T 6, T 25],
   I 7 (.mv) [.lit (.bool true)]])
 (.ret))))⟩
theorem t261 : trFn Tryz.prog Tryz.f261 = some c_walk_Look := by kernel_rfl
abbrev n_tlb_Table_Put : Nat := 262
def c_tlb_Table_Put : AFn := ⟨57, [],
 .seq (.region [I 3 (.box 65 1) [T 0],
   I 4 (.box 207 2) [T 1],
   I 5 (.box 204 2) [T 2]])
 (.seq (.seq (.region [I 8 (.load1) [T 3],
   I 9 (.eqv false .ptr) [T 8, .lit .nilptr],
   I 10 (.mv) [T 9],
   IG 11 (.load1) [T 3] 10 false,
   IG 12 (.nilCheck) [T 11] 10 false,
   IG 13 (.fieldAddr 2) [T 12] 10 false,
   IG 14 (.load1) [T 13] 10 false,
   IG 15 (.eqv false .map) [T 14, .lit .nilmap] 10 false,
   I 16 (.pick) [T 10, .lit (.bool true), T 15]])
 (.cond (T 16)
 (.ret)
 (.skip)))
 (.seq (.seq (.draw [[⟨0, I 18 (.load1) [T 3], [], false⟩,
   ⟨1, I 19 (.nilCheck) [T 18], [], false⟩,
   ⟨2, I 20 (.fieldAddr 2) [T 19], [], false⟩,
   ⟨3, I 21 (.load1) [T 20], [], false⟩,
   ⟨4, I 22 (.loadn 2) [T 4], [], false⟩,
   ⟨5, I 23 (.lookup (.flat [.int, .int]) (.agg [(.int .i64 0), (.int .i64 0)]) true) [T 21, T 22], [], false⟩,
   ⟨6, I 17 (.mv) [T 23], [], false⟩,
   ⟨7, I 24 (.extract 0) [T 17], [], false⟩,
   ⟨8, I 25 (.extract 1) [T 17], [], false⟩,
   ⟨9, I 6 (.alloc 204 2 (.vals [(.int .i64 0), (.int .i64 0)])) [], [(0, I 18 (.load1) [T 3]), (3, I 21 (.load1) [T 20]), (4, I 22 (.loadn 2) [T 4]), (5, I 23 (.lookup (.flat [.int, .int]) (.agg [(.int .i64 0), (.int .i64 0)]) true) [T 21, T 22])], false⟩,
   ⟨10, J (.store 2) [T 6, T 24], [], false⟩,
   ⟨11, I 7 (.mv) [T 25], [], false⟩]])
 (.seq (.region [I 26 (.mv) [T 7],
   I 27 (.un .not) [T 26]])
 (.cond (T 27)
 (.draw [[⟨0, I 28 (.load1) [T 3], [], false⟩,
    ⟨1, I 29 (.load1) [T 3], [], false⟩,
    ⟨2, I 30 (.nilCheck) [T 29], [], false⟩,
    ⟨3, I 31 (.fieldAddr 1) [T 30], [], false⟩,
    ⟨4, I 32 (.load1) [T 31], [], false⟩,
    ⟨5, I 33 (.loadn 2) [T 4], [], false⟩,
    ⟨6, I 34 (.bslice 207 2 1 (.vals [(.int .i64 0), (.int .i64 0)]) [0]) [T 33], [(0, I 28 (.load1) [T 3]), (1, I 29 (.load1) [T 3]), (4, I 32 (.load1) [T 31])], false⟩,
    ⟨7, I 35 (.append 207 2 16 (.vals [(.int .i64 0), (.int .i64 0)])) [T 32, T 34], [(0, I 28 (.load1) [T 3])], false⟩,
    ⟨8, I 36 (.nilCheck) [T 28], [], false⟩,
    ⟨9, I 37 (.fieldAddr 1) [T 36], [], false⟩,
    ⟨10, J (.store 1) [T 37, T 35], [], false⟩]])
 (.skip))))
 (.seq (.draw [[⟨0, I 38 (.load1) [T 3], [], false⟩,
   ⟨1, I 39 (.nilCheck) [T 38], [], false⟩,
   ⟨2, I 40 (.fieldAddr 2) [T 39], [], false⟩,
   ⟨3, I 41 (.load1) [T 40], [], false⟩,
   ⟨4, I 42 (.loadn 2) [T 4], [], false⟩,
   ⟨5, I 43 (.loadn 2) [T 5], [], false⟩,
   ⟨6, J (.mapput (.flat [.int, .int])) [T 41, T 42, T 43], [], false⟩]])
 (.seq (.draw [[⟨0, I 44 (.load1) [T 3], [], false⟩,
   ⟨1, I 45 (.nilCheck) [T 44], [], false⟩,
   ⟨2, I 46 (.fieldAddr 1) [T 45], [], false⟩,
   ⟨3, I 47 (.load1) [T 46], [], false⟩,
   ⟨4, I 48 (.lens) [T 47], [], false⟩,
   ⟨5, I 49 (.load1) [T 3], [], false⟩,
   ⟨6, I 50 (.nilCheck) [T 49], [], false⟩,
   ⟨7, I 51 (.fieldAddr 0) [T 50], [], false⟩,
   ⟨8, I 52 (.load1) [T 51], [], false⟩,
   ⟨9, I 53 (.bin .gtr) [T 48, T 52], [], false⟩]])
 (.cond (T 53)
 (.region [I 54 (.load1) [T 3],
    I 55 (.mkfunc 330 0) [T 3],
    I 56 (.callv) [F 181, T 54, T 55]])
 (.skip))))))⟩
theorem t262 : trFn Tryz.prog Tryz.f262 = some c_tlb_Table_Put := by kernel_rfl
abbrev n_kern_Kernel_private : Nat := 263
def c_kern_Kernel_private : AFn := ⟨91, [.tmp 10, .tmp 11],
 .seq (.region [I 7 (.box 94 10) [T 2],
   I 10 (.mv) [N 0],
   I 11 (.mv) [N 0]])
 (.seq (.region [I 17 (.mv) [T 0],
   I 18 (.mv) [T 1],
   I 19 (.mv) [T 3],
   I 20 (.callv) [F 57, T 17, T 18, T 19],
   I 12 (.mv) [T 20]])
 (.seq (.block 0 (.seq (.region [I 22 (.mv) [T 12],
   I 23 (.bin .gtr) [T 22, N 0],
   I 24 (.mv) [T 23],
   IG 25 (.mv) [T 4] 24 true,
   I 26 (.pick) [T 24, T 25, .lit (.bool false)],
   I 21 (.mv) [T 26]])
 (.cond (T 21)
 (.seq (.region [I 27 (.mv) [T 0],
    I 28 (.mv) [T 1],
    I 29 (.mv) [T 3],
    I 30 (.callv) [F 331, T 27, T 28, T 29],
    I 31 (.extract 0) [T 30],
    I 32 (.extract 1) [T 30],
    I 10 (.mv) [T 31],
    I 11 (.mv) [T 32]])
  (.ret))
 (.seq (.region [I 34 (.mv) [T 12],
    I 35 (.bin .gtr) [T 34, N 0],
    I 33 (.mv) [T 35]])
  (.cond (T 33)
  (.seq (.region [I 36 (.mv) [T 0],
     I 37 (.mv) [T 12],
     I 38 (.callv) [F 332, T 36, T 37],
     I 39 (.extract 0) [T 38],
     I 40 (.extract 1) [T 38],
     I 10 (.mv) [T 39],
     I 11 (.mv) [T 40]])
   (.ret))
  (.seq (.region [I 42 (.fieldAddr 2) [T 7],
     I 43 (.load1) [T 42],
     I 44 (.bin .eql) [T 43, N 0],
     I 41 (.mv) [T 44]])
   (.cond (T 41)
   (.seq (.region [I 45 (.mv) [T 0],
      I 46 (.mv) [T 1],
      I 47 (.mv) [T 3],
      I 48 (.callv) [F 333, T 45, T 46, T 47, N (-1)],
      I 49 (.extract 0) [T 48],
      I 50 (.extract 1) [T 48],
      I 10 (.mv) [T 49],
      I 11 (.mv) [T 50]])
    (.ret))
   (.skip))))))))
 (.seq (.region [I 52 (.mv) [T 0],
   I 53 (.fieldAddr 2) [T 7],
   I 54 (.load1) [T 53],
   I 55 (.fieldAddr 3) [T 7],
   I 56 (.load1) [T 55],
   I 57 (.mv) [T 3],
   I 58 (.bin .add) [T 56, T 57],
   I 59 (.fieldAddr 0) [T 7],
   I 60 (.load1) [T 59],
   I 61 (.bin .sub) [T 58, T 60],
   I 62 (.callv) [F 76, T 52, T 54, T 61],
   I 51 (.mv) [T 62],
   I 63 (.extract 0) [T 51],
   I 64 (.extract 1) [T 51],
   I 65 (.extract 2) [T 51],
   I 13 (.mv) [T 63],
   I 14 (.mv) [T 64],
   I 15 (.mv) [T 65]])
 (.seq (.seq (.region [I 66 (.mv) [T 15],
   I 67 (.bin .neq) [T 66, N 0],
   I 68 (.mv) [T 67],
   IG 69 (.mv) [T 4] 68 false,
   IG 70 (.un .not) [T 69] 68 false,
   I 71 (.pick) [T 68, .lit (.bool true), T 70]])
 (.cond (T 71)
 (.seq (.region [I 72 (.mv) [T 14],
    I 73 (.mv) [T 15],
    I 10 (.mv) [T 72],
    I 11 (.mv) [T 73]])
  (.ret))
 (.skip)))
 (.seq (.seq (.region [I 74 (.mv) [T 1],
   I 75 (.nilCheck) [T 74],
   I 76 (.fieldAddr 2) [T 75],
   I 77 (.load1) [T 76],
   I 78 (.mv) [T 3],
   I 79 (.mv) [T 14],
   I 80 (.callv) [F 264, T 77, T 78, T 79, N 1],
   I 16 (.mv) [T 80]])
 (.seq (.region [I 81 (.mv) [T 16],
   I 82 (.bin .neq) [T 81, N 0]])
 (.cond (T 82)
 (.seq (.region [I 83 (.mv) [T 16],
    I 10 (.mv) [N (-1)],
    I 11 (.mv) [T 83]])
  (.ret))
 (.skip))))
 (.seq (.region [I 84 (.mv) [T 0],
   I 85 (.mv) [T 1],
   I 86 (.mv) [T 3],
   I 87 (.mv) [T 14],
   I 88 (.callv) [F 333, T 84, T 85, T 86, T 87],
   I 89 (.extract 0) [T 88],
   I 90 (.extract 1) [T 88],
   I 10 (.mv) [T 89],
   I 11 (.mv) [T 90]])
 (.ret)))))))⟩
theorem t263 : trFn Tryz.prog Tryz.f263 = some c_kern_Kernel_private := by kernel_rfl
abbrev n_pmap_Map_Enter : Nat := 264
def c_pmap_Map_Enter_L1 : ACode :=
 .seq (.region [I 92 (.bin .lss) [T 91, T 90]])
 (.seq (.cond (T 92)
 (.skip)
 (.exit 3))
 (.seq (.block 4 (.seq (.region [I 93 (.indexs 1) [T 89, T 91],
   I 94 (.load1) [T 93],
   I 19 (.mv) [T 94]])
 (.region [I 95 (.mv) [T 19],
   I 96 (.callv) [T 95]])))
 (.region [I 97 (.bin .add) [T 91, N 1],
   I 91 (.mv) [T 97]])))
def c_pmap_Map_Enter_L0 : ACode :=
 .seq (.seq (.region [I 56 (.mv) [T 11],
   I 57 (.bin .gtr) [T 56, N 0]])
 (.cond (T 57)
 (.skip)
 (.exit 1)))
 (.seq (.block 2 (.seq (.region [I 60 (.mv) [T 9],
   I 61 (.mv) [T 1],
   I 62 (.mv) [T 11],
   I 63 (.callv) [F 334, T 61, T 62],
   I 12 (.alloc 3 1 (.vals [(.int .i64 0)])) [],
   I 13 (.alloc 3 1 (.vals [(.int .i64 0)])) [],
   J (.store 1) [T 12, T 60],
   J (.store 1) [T 13, T 63]])
 (.seq (.region [I 65 (.load1) [T 4],
   I 66 (.load1) [T 12],
   I 67 (.load1) [T 13],
   I 68 (.callv) [F 179, T 65, T 66, T 67],
   I 64 (.mv) [T 68],
   I 69 (.extract 0) [T 64],
   I 70 (.extract 1) [T 64],
   I 14 (.mv) [T 69],
   I 15 (.mv) [T 70]])
 (.seq (.seq (.region [I 71 (.mv) [T 15],
   I 72 (.un .not) [T 71]])
 (.cond (T 72)
 (.seq (.draw [[⟨0, I 74 (.load1) [T 4], [], false⟩,
    ⟨1, I 75 (.nilCheck) [T 74], [], false⟩,
    ⟨2, I 76 (.fieldAddr 1) [T 75], [], false⟩,
    ⟨3, I 77 (.load1) [T 76], [], false⟩,
    ⟨4, I 78 (.load1) [T 4], [], false⟩,
    ⟨5, I 79 (.nilCheck) [T 78], [], false⟩,
    ⟨6, I 80 (.fieldAddr 2) [T 79], [], false⟩,
    ⟨7, I 81 (.load1) [T 80], [], false⟩,
    ⟨8, I 82 (.mv) [T 11], [], false⟩,
    ⟨9, I 83 (.bin .sub) [N 3, T 82], [], false⟩,
    ⟨10, I 84 (.callv) [F 145, T 77, N 1, T 81, T 83], [], false⟩,
    ⟨11, I 73 (.mv) [T 84], [], false⟩,
    ⟨12, I 85 (.extract 0) [T 73], [], false⟩,
    ⟨13, I 86 (.extract 1) [T 73], [], false⟩,
    ⟨14, I 16 (.mv) [T 85], [], false⟩,
    ⟨15, I 17 (.mv) [T 86], [], false⟩]])
  (.seq (.seq (.region [I 87 (.mv) [T 17],
    I 88 (.bin .neq) [T 87, N 0]])
  (.cond (T 88)
  (.seq (.seq (.region [I 89 (.mv) [T 10],
     I 90 (.lens) [T 89],
     I 91 (.mv) [N 0]])
   (.block 3 (.loop c_pmap_Map_Enter_L1)))
   (.seq (.region [I 98 (.mv) [T 17],
     I 8 (.mv) [T 98]])
   (.ret)))
  (.skip)))
  (.seq (.region [I 99 (.mv) [T 16],
    I 14 (.mv) [T 99]])
  (.seq (.region [I 100 (.load1) [T 4],
    I 101 (.nilCheck) [T 100],
    I 102 (.fieldAddr 0) [T 101],
    I 103 (.load1) [T 102],
    I 104 (.mv) [T 16],
    I 105 (.callv) [F 146, T 103, T 104]])
  (.seq (.draw [[⟨0, I 106 (.load1) [T 4], [], false⟩,
    ⟨1, I 107 (.nilCheck) [T 106], [], false⟩,
    ⟨2, I 108 (.fieldAddr 0) [T 107], [], false⟩,
    ⟨3, I 109 (.load1) [T 108], [], false⟩,
    ⟨4, I 110 (.load1) [T 12], [], false⟩,
    ⟨5, I 111 (.load1) [T 13], [], false⟩,
    ⟨6, I 112 (.mv) [T 16], [], false⟩,
    ⟨7, I 113 (.build (.agg [(.int .i64 0), (.int .i64 0)]) [(0, 1), (1, 1)]) [N 1, T 112], [], false⟩,
    ⟨8, I 114 (.callv) [F 319, T 113], [(0, I 106 (.load1) [T 4]), (3, I 109 (.load1) [T 108]), (4, I 110 (.load1) [T 12]), (5, I 111 (.load1) [T 13])], false⟩,
    ⟨9, I 115 (.callv) [F 276, T 109, T 110, T 111, T 114], [], false⟩]])
  (.seq (.region [I 116 (.load1) [T 4],
    I 117 (.nilCheck) [T 116],
    I 118 (.fieldAddr 4) [T 117],
    I 119 (.load1) [T 118],
    I 120 (.bin .add) [T 119, N 1],
    I 121 (.nilCheck) [T 116],
    I 122 (.fieldAddr 4) [T 121],
    J (.store 1) [T 122, T 120]])
  (.region [I 123 (.mv) [T 10],
    I 124 (.mkfunc 335 0) [T 4, T 12, T 13],
    I 125 (.bslice 1 1 1 (.vals [.nilfunc]) [0]) [T 124],
    I 126 (.append 1 1 8 (.vals [.nilfunc])) [T 123, T 125],
    I 10 (.mv) [T 126]])))))))
 (.skip)))
 (.region [I 127 (.mv) [T 14],
   I 9 (.mv) [T 127]])))))
 (.region [I 58 (.mv) [T 11],
   I 59 (.bin .sub) [T 58, N 1],
   I 11 (.mv) [T 59]]))
def c_pmap_Map_Enter : AFn := ⟨141, [.tmp 8],
 .seq (.region [I 4 (.box 97 1) [T 0],
   I 8 (.mv) [N 0]])
 (.seq (.block 0 (.seq (.region [I 21 (.load1) [T 4],
   I 22 (.callv) [F 178, T 21],
   I 23 (.un .not) [T 22],
   I 20 (.mv) [T 23]])
 (.cond (T 20)
 (.seq (.region [I 8 (.mv) [N 1]])
  (.ret))
 (.seq (.region (I 25 (.mv) [T 1] ::
    I 26 (.bin .lss) [T 25, N 0] ::
    I 27 (.mv) [T 26] ::
    IG 28 (.mv) [T 1] 27 false ::
    IG 29 (.bin .geq) [T 28, N 67108864] 27 false ::
    I 30 (.pick) [T 27, .lit (.bool true), T 29] ::
    I 31 (.mv) [T 30] ::
    IG 32 (.mv) [T 3] 31 false ::
    IG 33 (.bin .lss) [T 32, N 1] 31 false ::
    I 34 (.pick) [T 31, .lit (.bool true), T 33] ::
    I 35 (.mv) [T 34] ::
    IG 36 (.mv) [T 3] 35 false ::
    IG 37 (.bin .gtr) [T 36, N 7] 35 false ::
    I 38 (.pick) [T 35, .lit (.bool true), T 37] ::
    I 39 (.mv) [T 38] ::
    IG 40 (.mv) [T 2] 39 false ::
    IG 41 (.bin .lss) [T 40, N 0] 39 false ::
    I 42 (.pick) [T 39, .lit (.bool true), T 41] ::
    I 43 (.mv) [T 42] ::
    IG 44 (.mv) [T 2] 43 false ::
    IG 45 (.load1) [T 4] 43 false ::
    IG 46 (.nilCheck) [T 45] 43 false ::
    IG 47 (.fieldAddr 0) [T 46] 43 false ::
    IG 48 (.load1) [T 47] 43 false ::
    IG 49 (.callv) [F 44, T 48] 43 false ::
    IG 50 (.bin .geq) [T 44, T 49] 43 false ::
    I 51 (.pick) [T 43, .lit (.bool true), T 50] ::
    I 24 (.mv) [T 51] ::
    []))
  (.cond (T 24)
  (.seq (.region [I 8 (.mv) [N 2]])
   (.ret))
  (.skip))))))
 (.seq (.region [I 52 (.load1) [T 4],
   I 53 (.nilCheck) [T 52],
   I 54 (.fieldAddr 3) [T 53],
   I 55 (.load1) [T 54],
   I 9 (.mv) [T 55]])
 (.seq (.region [I 10 (.mv) [.lit .nilsl]])
 (.seq (.seq (.region [I 11 (.mv) [N 2]])
 (.block 1 (.loop c_pmap_Map_Enter_L0)))
 (.seq (.draw [[⟨0, I 128 (.load1) [T 4], [], false⟩,
   ⟨1, I 129 (.nilCheck) [T 128], [], false⟩,
   ⟨2, I 130 (.fieldAddr 0) [T 129], [], false⟩,
   ⟨3, I 131 (.load1) [T 130], [], false⟩,
   ⟨4, I 132 (.mv) [T 9], [], false⟩,
   ⟨5, I 133 (.mv) [T 1], [], false⟩,
   ⟨7, I 135 (.mv) [T 3], [], false⟩,
   ⟨9, I 137 (.mv) [T 2], [], false⟩,
   ⟨6, I 134 (.callv) [F 334, T 133, N 0], [(0, I 128 (.load1) [T 4]), (3, I 131 (.load1) [T 130])], false⟩,
   ⟨8, I 136 (.callv) [F 336, T 135, .lit (.bool true)], [(0, I 128 (.load1) [T 4]), (3, I 131 (.load1) [T 130])], false⟩,
   ⟨10, I 138 (.build (.agg [(.int .i64 0), (.int .i64 0)]) [(0, 1), (1, 1)]) [T 136, T 137], [], false⟩,
   ⟨11, I 139 (.callv) [F 319, T 138], [(0, I 128 (.load1) [T 4]), (3, I 131 (.load1) [T 130])], false⟩,
   ⟨12, I 140 (.callv) [F 276, T 131, T 132, T 134, T 139], [], false⟩]])
 (.seq (.region [I 8 (.mv) [N 0]])
 (.ret)))))))⟩
theorem t264 : trFn Tryz.prog Tryz.f264 = some c_pmap_Map_Enter := by kernel_rfl
abbrev n_kern_Kernel_begin : Nat := 266
def c_kern_Kernel_begin_L0 : ACode :=
 .seq (.region [I 35 (.bin .lss) [T 34, T 33]])
 (.seq (.cond (T 35)
 (.skip)
 (.exit 0))
 (.seq (.block 1 (.seq (.region [I 36 (.indexs 6) [T 32, T 34],
   I 37 (.loadn 6) [T 36],
   I 12 (.alloc 168 6 (.vals [(.int .i64 0), (.int .i64 0), (.int .i64 0), (.int .i64 0), (.bool false), (.bool false)])) [],
   J (.store 6) [T 12, T 37]])
 (.seq (.region [I 38 (.fieldAddr 1) [T 12],
   I 39 (.load1) [T 38],
   I 40 (.mv) [T 2],
   I 41 (.bin .leq) [T 39, T 40]])
 (.cond (T 41)
 (.region [I 42 (.fieldAddr 0) [T 10],
    I 43 (.load1) [T 42],
    I 44 (.fieldAddr 1) [T 12],
    I 45 (.load1) [T 44],
    I 46 (.max) [T 43, T 45],
    I 47 (.fieldAddr 0) [T 10],
    J (.store 1) [T 47, T 46]])
 (.region [I 48 (.fieldAddr 1) [T 10],
    I 49 (.load1) [T 48],
    I 50 (.fieldAddr 0) [T 12],
    I 51 (.load1) [T 50],
    I 52 (.min) [T 49, T 51],
    I 53 (.fieldAddr 1) [T 10],
    J (.store 1) [T 53, T 52]])))))
 (.region [I 54 (.bin .add) [T 34, N 1],
   I 34 (.mv) [T 54]])))
def c_kern_Kernel_begin : AFn := ⟨79, [.tmp 6, .tmp 7],
 .seq (.region [I 6 (.mv) [.lit .nilptr],
   I 7 (.mv) [N 0]])
 (.seq (.region [I 16 (.mv) [T 1],
   I 17 (.nilCheck) [T 16],
   I 18 (.fieldAddr 1) [T 17],
   I 19 (.load1) [T 18],
   I 20 (.mv) [T 2],
   I 21 (.callv) [F 55, T 19, T 20],
   I 15 (.mv) [T 21],
   I 22 (.extract 0) [T 15],
   I 23 (.extract 1) [T 15],
   I 8 (.alloc 94 10 (.vals [(.int .i64 0), (.int .i64 0), (.int .i64 0), (.int .i64 0), (.bool false), (.int .i64 0), (.int .i64 0), (.int .i64 0), (.int .i64 0), (.bool false)])) [],
   J (.store 10) [T 8, T 22],
   I 9 (.mv) [T 23]])
 (.seq (.region [I 24 (.fieldAddr 0) [T 8],
   I 25 (.load1) [T 24],
   I 26 (.fieldAddr 1) [T 8],
   I 27 (.load1) [T 26],
   I 28 (.build (.agg [(.int .i64 0), (.int .i64 0), (.int .i64 0), (.int .i64 0), (.bool false), (.bool false)]) [(0, 1), (1, 1)]) [T 25, T 27],
   I 10 (.alloc 168 6 (.vals [(.int .i64 0), (.int .i64 0), (.int .i64 0), (.int .i64 0), (.bool false), (.bool false)])) [],
   J (.store 6) [T 10, T 28]])
 (.seq (.seq (.region [I 29 (.mv) [T 1],
   I 30 (.nilCheck) [T 29],
   I 31 (.fieldAddr 3) [T 30],
   I 32 (.load1) [T 31],
   I 33 (.lens) [T 32],
   I 34 (.mv) [N 0]])
 (.block 0 (.loop c_kern_Kernel_begin_L0)))
 (.seq (.draw [[⟨0, I 56 (.mv) [T 0], [], false⟩,
   ⟨1, I 57 (.nilCheck) [T 56], [], false⟩,
   ⟨2, I 58 (.fieldAddr 6) [T 57], [], false⟩,
   ⟨3, I 59 (.load1) [T 58], [], false⟩,
   ⟨4, I 60 (.fieldAddr 1) [T 10], [], false⟩,
   ⟨5, I 61 (.load1) [T 60], [], false⟩,
   ⟨6, I 62 (.fieldAddr 0) [T 10], [], false⟩,
   ⟨7, I 63 (.load1) [T 62], [], false⟩,
   ⟨8, I 64 (.bin .sub) [T 61, T 63], [], false⟩,
   ⟨9, I 65 (.callv) [F 93, T 59, T 64], [], false⟩,
   ⟨10, I 55 (.mv) [T 65], [], false⟩,
   ⟨11, I 66 (.extract 0) [T 55], [], false⟩,
   ⟨12, I 67 (.extract 1) [T 55], [], false⟩,
   ⟨13, I 13 (.mv) [T 66], [], false⟩,
   ⟨14, I 14 (.mv) [T 67], [], false⟩]])
 (.seq (.seq (.region [I 68 (.mv) [T 14],
   I 69 (.bin .neq) [T 68, N 0]])
 (.cond (T 69)
 (.seq (.region [I 70 (.mv) [T 14],
    I 6 (.mv) [.lit .nilptr],
    I 7 (.mv) [T 70]])
  (.ret))
 (.skip)))
 (.seq (.region [I 71 (.mv) [T 13],
   I 72 (.fieldAddr 2) [T 10],
   J (.store 1) [T 72, T 71]])
 (.seq (.region [I 73 (.mv) [T 1],
   I 74 (.loadn 6) [T 10],
   I 75 (.callv) [F 96, T 73, T 74]])
 (.seq (.region [I 76 (.mv) [T 1],
   I 77 (.mv) [T 2],
   I 78 (.callv) [F 125, T 76, T 77],
   I 6 (.mv) [T 78],
   I 7 (.mv) [N 0]])
 (.ret)))))))))⟩
theorem t266 : trFn Tryz.prog Tryz.f266 = some c_kern_Kernel_begin := by kernel_rfl
abbrev n_amap_Pool_Cover : Nat := 267
def c_amap_Pool_Cover : AFn := ⟨20, [.tmp 6],
 .seq (.region [I 6 (.mv) [N 0]])
 (.seq (.region [I 8 (.mv) [T 0],
   I 9 (.mv) [T 1],
   I 10 (.callv) [F 228, T 8, T 9],
   I 7 (.mv) [T 10]])
 (.seq (.seq (.region [I 11 (.mv) [T 7],
   I 12 (.eqv false .ptr) [T 11, .lit .nilptr]])
 (.cond (T 12)
 (.seq (.region [I 6 (.mv) [N 0]])
  (.ret))
 (.skip)))
 (.seq (.region [I 13 (.mv) [T 7],
   I 14 (.nilCheck) [T 13],
   I 15 (.fieldAddr 0) [T 14],
   I 16 (.load1) [T 15],
   I 17 (.mv) [T 2],
   I 18 (.callv) [F 337, T 16, T 17],
   I 19 (.max) [T 18, N 0],
   I 6 (.mv) [T 19]])
 (.ret))))⟩
theorem t267 : trFn Tryz.prog Tryz.f267 = some c_amap_Pool_Cover := by kernel_rfl
abbrev n_amap_Pool_known : Nat := 270
def c_amap_Pool_known : AFn := ⟨16, [.tmp 4, .tmp 5],
 .seq (.region [I 4 (.mv) [.lit .nilptr],
   I 5 (.mv) [N 0]])
 (.seq (.seq (.region [I 7 (.mv) [T 0],
   I 8 (.callv) [F 184, T 7],
   I 9 (.un .not) [T 8]])
 (.cond (T 9)
 (.seq (.region [I 4 (.mv) [.lit .nilptr],
    I 5 (.mv) [N 1]])
  (.ret))
 (.skip)))
 (.seq (.region [I 10 (.mv) [T 0],
   I 11 (.mv) [T 1],
   I 12 (.callv) [F 228, T 10, T 11],
   I 6 (.mv) [T 12]])
 (.seq (.seq (.region [I 13 (.mv) [T 6],
   I 14 (.eqv false .ptr) [T 13, .lit .nilptr]])
 (.cond (T 14)
 (.seq (.region [I 4 (.mv) [.lit .nilptr],
    I 5 (.mv) [N 7]])
  (.ret))
 (.skip)))
 (.seq (.region [I 15 (.mv) [T 6],
   I 4 (.mv) [T 15],
   I 5 (.mv) [N 0]])
 (.ret)))))⟩
theorem t270 : trFn Tryz.prog Tryz.f270 = some c_amap_Pool_known := by kernel_rfl
abbrev n_phys_Memory_Word : Nat := 273
def c_phys_Memory_Word_L0 : ACode :=
 .seq (.seq (.region [I 20 (.mv) [T 10],
   I 21 (.bin .geq) [T 20, N 0]])
 (.cond (T 21)
 (.skip)
 (.exit 0)))
 (.seq (.block 1 (.region [I 24 (.mv) [T 9],
   I 25 (.bin .shl) [T 24, .lit (.int .u64 8)],
   I 26 (.mv) [T 8],
   I 27 (.mv) [T 10],
   I 28 (.indexs 1) [T 26, T 27],
   I 29 (.load1) [T 28],
   I 30 (.conv .u64) [T 29],
   I 31 (.bin .or) [T 25, T 30],
   I 9 (.mv) [T 31]]))
 (.region [I 22 (.mv) [T 10],
   I 23 (.bin .sub) [T 22, N 1],
   I 10 (.mv) [T 23]]))
def c_phys_Memory_Word : AFn := ⟨33, [.tmp 6, .tmp 7],
 .seq (.region [I 6 (.mv) [.lit (.int .u64 0)],
   I 7 (.mv) [.lit (.bool false)]])
 (.seq (.region [I 11 (.mv) [T 0],
   I 12 (.mv) [T 1],
   I 13 (.mv) [T 2],
   I 14 (.callv) [F 340, T 11, T 12, T 13],
   I 8 (.mv) [T 14]])
 (.seq (.seq (.region [I 15 (.mv) [T 8],
   I 16 (.eqv false .slice) [T 15, .lit .nilsl]])
 (.cond (T 16)
 (.seq (.region [I 6 (.mv) [.lit (.int .u64 0)],
    I 7 (.mv) [.lit (.bool false)]])
  (.ret))
 (.skip)))
 (.seq (.region [I 9 (.mv) [.lit (.int .u64 0)]])
 (.seq (.seq (.region [I 17 (.mv) [T 8],
   I 18 (.lens) [T 17],
   I 19 (.bin .sub) [T 18, N 1],
   I 10 (.mv) [T 19]])
 (.block 0 (.loop c_phys_Memory_Word_L0)))
 (.seq (.region [I 32 (.mv) [T 9],
   I 6 (.mv) [T 32],
   I 7 (.mv) [.lit (.bool true)]])
 (.ret))))))⟩
theorem t273 : trFn Tryz.prog Tryz.f273 = some c_phys_Memory_Word := by kernel_rfl
abbrev n_pte_Decode : Nat := 274
def c_pte_Decode : AFn := ⟨11, [.cell 2 (.loadn 2)],
 .seq (.region [I 2 (.alloc 204 2 (.vals [(.int .i64 0), (.int .i64 0)])) []])
 (.seq (.region [I 3 (.mv) [T 0],
   I 4 (.callv) [F 341, T 3, N 8],
   I 5 (.conv .i64) [T 4],
   I 6 (.mv) [T 0],
   I 7 (.bin .shr) [T 6, .lit (.int .u64 10)],
   I 8 (.callv) [F 341, T 7, N 44],
   I 9 (.conv .i64) [T 8],
   I 10 (.build (.agg [(.int .i64 0), (.int .i64 0)]) [(0, 1), (1, 1)]) [T 5, T 9],
   J (.store 2) [T 2, T 10]])
 (.ret))⟩
theorem t274 : trFn Tryz.prog Tryz.f274 = some c_pte_Decode := by kernel_rfl
abbrev n_pte_Kind : Nat := 275
def c_pte_Kind : AFn := ⟨19, [.tmp 2],
 .seq (.region [I 1 (.box 204 2) [T 0],
   I 2 (.mv) [N 0]])
 (.seq (.block 0 (.seq (.region [I 4 (.fieldAddr 0) [T 1],
   I 5 (.load1) [T 4],
   I 6 (.bin .and) [T 5, N 1],
   I 7 (.bin .eql) [T 6, N 0],
   I 8 (.mv) [T 7],
   IG 9 (.fieldAddr 0) [T 1] 8 false,
   IG 10 (.load1) [T 9] 8 false,
   IG 11 (.bin .and) [T 10, N 6] 8 false,
   IG 12 (.bin .eql) [T 11, N 4] 8 false,
   I 13 (.pick) [T 8, .lit (.bool true), T 12],
   I 3 (.mv) [T 13]])
 (.cond (T 3)
 (.seq (.region [I 2 (.mv) [N 0]])
  (.ret))
 (.seq (.region [I 15 (.fieldAddr 0) [T 1],
    I 16 (.load1) [T 15],
    I 17 (.bin .and) [T 16, N 10],
    I 18 (.bin .eql) [T 17, N 0],
    I 14 (.mv) [T 18]])
  (.cond (T 14)
  (.seq (.region [I 2 (.mv) [N 1]])
   (.ret))
  (.skip))))))
 (.seq (.region [I 2 (.mv) [N 2]])
 (.ret)))⟩
theorem t275 : trFn Tryz.prog Tryz.f275 = some c_pte_Kind := by kernel_rfl
abbrev n_phys_Memory_SetWord : Nat := 276
def c_phys_Memory_SetWord_L0 : ACode :=
 .seq (.region [I 20 (.bin .lss) [T 19, T 18]])
 (.seq (.cond (T 20)
 (.skip)
 (.exit 0))
 (.seq (.block 1 (.seq (.region [I 21 (.mv) [T 19],
   I 10 (.mv) [T 21]])
 (.seq (.region [I 22 (.mv) [T 9],
   I 23 (.mv) [T 10],
   I 24 (.mv) [T 3],
   I 25 (.conv .u8) [T 24],
   I 26 (.indexs 1) [T 22, T 23],
   J (.store 1) [T 26, T 25]])
 (.region [I 27 (.mv) [T 3],
   I 28 (.bin .shr) [T 27, .lit (.int .u64 8)],
   I 3 (.mv) [T 28]]))))
 (.region [I 29 (.bin .add) [T 19, N 1],
   I 19 (.mv) [T 29]])))
def c_phys_Memory_SetWord : AFn := ⟨30, [.tmp 8],
 .seq (.region [I 8 (.mv) [.lit (.bool false)]])
 (.seq (.region [I 11 (.mv) [T 0],
   I 12 (.mv) [T 1],
   I 13 (.mv) [T 2],
   I 14 (.callv) [F 340, T 11, T 12, T 13],
   I 9 (.mv) [T 14]])
 (.seq (.seq (.region [I 15 (.mv) [T 9],
   I 16 (.eqv false .slice) [T 15, .lit .nilsl]])
 (.cond (T 16)
 (.seq (.region [I 8 (.mv) [.lit (.bool false)]])
  (.ret))
 (.skip)))
 (.seq (.seq (.region [I 17 (.mv) [T 9],
   I 18 (.lens) [T 17],
   I 19 (.mv) [N 0]])
 (.block 0 (.loop c_phys_Memory_SetWord_L0)))
 (.seq (.region [I 8 (.mv) [.lit (.bool true)]])
 (.ret)))))⟩
theorem t276 : trFn Tryz.prog Tryz.f276 = some c_phys_Memory_SetWord := by kernel_rfl
abbrev n_spread_Counts_Grow : Nat := 277
def c_spread_Counts_Grow : AFn := ⟨47, [.tmp 4],
 .seq (.region [I 4 (.mv) [N 0]])
 (.seq (.block 0 (.seq (.region [I 6 (.mv) [T 0],
   I 7 (.callv) [F 278, T 6],
   I 8 (.un .not) [T 7],
   I 5 (.mv) [T 8]])
 (.cond (T 5)
 (.seq (.region [I 4 (.mv) [N 1]])
  (.ret))
 (.seq (.region [I 10 (.mv) [T 1],
    I 11 (.mv) [T 0],
    I 12 (.nilCheck) [T 11],
    I 13 (.fieldAddr 1) [T 12],
    I 14 (.load1) [T 13],
    I 15 (.bin .lss) [T 10, T 14],
    I 16 (.mv) [T 15],
    IG 17 (.mv) [T 1] 16 false,
    IG 18 (.bin .gtr) [T 17, N 4096] 16 false,
    I 19 (.pick) [T 16, .lit (.bool true), T 18],
    I 9 (.mv) [T 19]])
  (.cond (T 9)
  (.seq (.region [I 4 (.mv) [N 2]])
   (.ret))
  (.skip))))))
 (.seq (.seq (.region [I 20 (.mv) [T 1],
   I 21 (.mv) [T 0],
   I 22 (.nilCheck) [T 21],
   I 23 (.fieldAddr 1) [T 22],
   I 24 (.load1) [T 23],
   I 25 (.bin .gtr) [T 20, T 24]])
 (.cond (T 25)
 (.draw [[⟨0, I 26 (.mv) [T 0], [], false⟩,
    ⟨1, I 27 (.mv) [T 0], [], false⟩,
    ⟨2, I 28 (.nilCheck) [T 27], [], false⟩,
    ⟨3, I 29 (.fieldAddr 0) [T 28], [], false⟩,
    ⟨4, I 30 (.load1) [T 29], [], false⟩,
    ⟨6, I 32 (.mv) [T 0], [], false⟩,
    ⟨7, I 33 (.nilCheck) [T 32], [], false⟩,
    ⟨8, I 34 (.fieldAddr 1) [T 33], [], false⟩,
    ⟨9, I 35 (.load1) [T 34], [], false⟩,
    ⟨10, I 36 (.mv) [T 1], [], false⟩,
    ⟨11, I 37 (.build (.agg [(.int .i64 0), (.int .i64 0), (.int .i64 0)]) [(0, 1), (1, 1)]) [T 35, T 36], [], false⟩,
    ⟨5, I 31 (.callv) [F 281, T 30], [(9, I 35 (.load1) [T 34])], false⟩,
    ⟨12, I 38 (.bslice 323 3 1 (.vals [(.int .i64 0), (.int .i64 0), (.int .i64 0)]) [0]) [T 37], [(4, I 30 (.load1) [T 29])], false⟩,
    ⟨13, I 39 (.append 323 3 24 (.vals [(.int .i64 0), (.int .i64 0), (.int .i64 0)])) [T 31, T 38], [], false⟩,
    ⟨14, I 40 (.callv) [F 282, T 39], [], false⟩,
    ⟨15, I 41 (.nilCheck) [T 26], [], false⟩,
    ⟨16, I 42 (.fieldAddr 0) [T 41], [], false⟩,
    ⟨17, J (.store 1) [T 42, T 40], [], false⟩],
[⟨0, I 26 (.mv) [T 0], [], false⟩,
    ⟨1, I 27 (.mv) [T 0], [], false⟩,
    ⟨2, I 28 (.nilCheck) [T 27], [], false⟩,
    ⟨3, I 29 (.fieldAddr 0) [T 28], [], false⟩,
    ⟨4, I 30 (.load1) [T 29], [], false⟩,
    ⟨6, I 32 (.mv) [T 0], [], false⟩,
    ⟨7, I 33 (.nilCheck) [T 32], [], false⟩,
    ⟨8, I 34 (.fieldAddr 1) [T 33], [], false⟩,
    ⟨9, I 35 (.load1) [T 34], [], false⟩,
    ⟨10, I 36 (.mv) [T 1], [], false⟩,
    ⟨11, I 37 (.build (.agg [(.int .i64 0), (.int .i64 0), (.int .i64 0)]) [(0, 1), (1, 1)]) [T 35, T 36], [], false⟩,
    ⟨12, I 38 (.bslice 323 3 1 (.vals [(.int .i64 0), (.int .i64 0), (.int .i64 0)]) [0]) [T 37], [(4, I 30 (.load1) [T 29])], false⟩,
    ⟨5, I 31 (.callv) [F 281, T 30], [(9, I 35 (.load1) [T 34])], false⟩,
    ⟨13, I 39 (.append 323 3 24 (.vals [(.int .i64 0), (.int .i64 0), (.int .i64 0)])) [T 31, T 38], [], false⟩,
    ⟨14, I 40 (.callv) [F 282, T 39], [], false⟩,
    ⟨15, I 41 (.nilCheck) [T 26], [], false⟩,
    ⟨16, I 42 (.fieldAddr 0) [T 41], [], false⟩,
    ⟨17, J (.store 1) [T 42, T 40], [], false⟩]])
 (.skip)))
 (.seq (.region [I 43 (.mv) [T 0],
   I 44 (.mv) [T 1],
   I 45 (.nilCheck) [T 43],
   I 46 (.fieldAddr 1) [T 45],
   J (.store 1) [T 46, T 44]])
 (.seq (.region [I 4 (.mv) [N 0]])
 (.ret)))))⟩
theorem t277 : trFn Tryz.prog Tryz.f277 = some c_spread_Counts_Grow := by kernel_rfl
abbrev n_spread_Counts_made : Nat := 278
def c_spread_Counts_made : AFn := ⟨11, [.tmp 2],
 .seq (.region [I 2 (.mv) [.lit (.bool false)]])
 (.seq (.region [I 3 (.mv) [T 0],
   I 4 (.eqv true .ptr) [T 3, .lit .nilptr],
   I 5 (.mv) [T 4],
   IG 6 (.mv) [T 0] 5 true,
   IG 7 (.nilCheck) [T 6] 5 true,
   IG 8 (.fieldAddr 2) [T 7] 5 true,
   IG 9 (.load1) [T 8] 5 true,
   I 10 (.pick) [T 5, T 9, .lit (.bool false)],
   I 2 (.mv) [T 10]])
 (.ret))⟩
theorem t278 : trFn Tryz.prog Tryz.f278 = some c_spread_Counts_made := by kernel_rfl
abbrev n_spread_Counts_parts : Nat := 279
def c_spread_Counts_parts : AFn := ⟨8, [.tmp 6],
 .seq (.region [I 3 (.box 247 1) [T 0],
   I 4 (.box 3 1) [T 1],
   I 5 (.box 3 1) [T 2],
   I 6 (.mv) [.lit .nilfunc]])
 (.seq (.region [I 7 (.mkfunc 342 0) [T 3, T 4, T 5],
   I 6 (.mv) [T 7]])
 (.ret))⟩
theorem t279 : trFn Tryz.prog Tryz.f279 = some c_spread_Counts_parts := by kernel_rfl
abbrev n_spread_split : Nat := 280
def c_spread_split : AFn := ⟨39, [.tmp 4],
 .seq (.region [I 3 (.box 3 1) [T 1],
   I 4 (.mv) [.lit .nilsl]])
 (.seq (.region [I 8 (.mv) [T 0],
   I 9 (.mkfunc 344 0) [T 3],
   I 10 (.callv) [F 343, T 8, T 9],
   I 5 (.mv) [T 10]])
 (.seq (.seq (.region [I 11 (.mv) [T 5],
   I 12 (.bin .lss) [T 11, N 0]])
 (.cond (T 12)
 (.seq (.region [I 13 (.mv) [T 0],
    I 4 (.mv) [T 13]])
  (.ret))
 (.skip)))
 (.seq (.draw [[⟨0, I 14 (.mv) [T 0], [], false⟩,
   ⟨1, I 15 (.mv) [T 5], [], false⟩,
   ⟨2, I 16 (.indexs 3) [T 14, T 15], [], false⟩,
   ⟨3, I 17 (.loadn 3) [T 16], [], false⟩,
   ⟨4, I 18 (.mv) [T 0], [], false⟩,
   ⟨5, I 19 (.mv) [T 5], [], false⟩,
   ⟨6, I 20 (.indexs 3) [T 18, T 19], [], false⟩,
   ⟨7, I 21 (.loadn 3) [T 20], [], false⟩,
   ⟨8, I 6 (.alloc 323 3 (.vals [(.int .i64 0), (.int .i64 0), (.int .i64 0)])) [], [(3, I 17 (.loadn 3) [T 16]), (7, I 21 (.loadn 3) [T 20])], false⟩,
   ⟨9, I 7 (.alloc 323 3 (.vals [(.int .i64 0), (.int .i64 0), (.int .i64 0)])) [], [(3, I 17 (.loadn 3) [T 16]), (7, I 21 (.loadn 3) [T 20])], false⟩,
   ⟨10, J (.store 3) [T 6, T 17], [(7, I 21 (.loadn 3) [T 20])], false⟩,
   ⟨11, J (.store 3) [T 7, T 21], [], false⟩],
[⟨0, I 14 (.mv) [T 0], [], false⟩,
   ⟨1, I 15 (.mv) [T 5], [], false⟩,
   ⟨2, I 16 (.indexs 3) [T 14, T 15], [], false⟩,
   ⟨3, I 17 (.loadn 3) [T 16], [], false⟩,
   ⟨4, I 18 (.mv) [T 0], [], false⟩,
   ⟨5, I 19 (.mv) [T 5], [], false⟩,
   ⟨6, I 20 (.indexs 3) [T 18, T 19], [], false⟩,
   ⟨7, I 21 (.loadn 3) [T 20], [], false⟩,
   ⟨9, I 7 (.alloc 323 3 (.vals [(.int .i64 0), (.int .i64 0), (.int .i64 0)])) [], [(3, I 17 (.loadn 3) [T 16]), (7, I 21 (.loadn 3) [T 20])], false⟩,
   ⟨8, I 6 (.alloc 323 3 (.vals [(.int .i64 0), (.int .i64 0), (.int .i64 0)])) [], [(3, I 17 (.loadn 3) [T 16]), (7, I 21 (.loadn 3) [T 20])], false⟩,
   ⟨10, J (.store 3) [T 6, T 17], [(7, I 21 (.loadn 3) [T 20])], false⟩,
   ⟨11, J (.store 3) [T 7, T 21], [], false⟩]])
 (.seq (.draw [[⟨0, I 22 (.load1) [T 3], [], false⟩,
   ⟨1, I 23 (.load1) [T 3], [], false⟩,
   ⟨2, I 24 (.fieldAddr 1) [T 6], [], false⟩,
   ⟨3, J (.store 1) [T 24, T 22], [(1, I 23 (.load1) [T 3])], false⟩,
   ⟨4, I 25 (.fieldAddr 0) [T 7], [], false⟩,
   ⟨5, J (.store 1) [T 25, T 23], [], false⟩]])
 (.seq (.draw [[⟨0, I 26 (.mv) [T 0], [], false⟩,
   ⟨1, I 27 (.mv) [T 5], [], false⟩,
   ⟨2, I 28 (.mv) [T 5], [], false⟩,
   ⟨3, I 29 (.slice 3 false true true) [T 26, T 27, T 28], [], false⟩,
   ⟨4, I 30 (.loadn 3) [T 6], [], false⟩,
   ⟨5, I 31 (.loadn 3) [T 7], [], false⟩,
   ⟨7, I 33 (.mv) [T 0], [], false⟩,
   ⟨8, I 34 (.mv) [T 5], [], false⟩,
   ⟨9, I 35 (.bin .add) [T 34, N 1], [], false⟩,
   ⟨10, I 36 (.slice 3 true false false) [T 33, T 35], [], false⟩,
   ⟨6, I 32 (.bslice 323 3 2 (.vals [(.int .i64 0), (.int .i64 0), (.int .i64 0)]) [0, 1]) [T 30, T 31], [], false⟩,
   ⟨11, I 37 (.bslice 320 1 3 (.vals [.nilsl]) [0, 1, 2]) [T 29, T 32, T 36], [], false⟩,
   ⟨12, I 38 (.callv) [F 345, T 37], [], false⟩,
   ⟨13, I 4 (.mv) [T 38], [], false⟩]])
 (.ret))))))⟩
theorem t280 : trFn Tryz.prog Tryz.f280 = some c_spread_split := by kernel_rfl
abbrev n_slices_Clone_api_Run_api_Run : Nat := 281
def c_slices_Clone_api_Run_api_Run : AFn := ⟨8, [.tmp 2],
 .seq (.region [I 2 (.mv) [.lit .nilsl]])
 (.seq (.seq (.region [I 3 (.mv) [T 0],
   I 4 (.eqv false .slice) [T 3, .lit .nilsl]])
 (.cond (T 4)
 (.seq (.region [I 2 (.mv) [.lit .nilsl]])
  (.ret))
 (.skip)))
 (.seq (.region [I 5 (.bslice 323 3 0 (.vals [(.int .i64 0), (.int .i64 0), (.int .i64 0)]) []) [],
   I 6 (.mv) [T 0],
   I 7 (.append 323 3 24 (.vals [(.int .i64 0), (.int .i64 0), (.int .i64 0)])) [T 5, T 6],
   I 2 (.mv) [T 7]])
 (.ret)))⟩
theorem t281 : trFn Tryz.prog Tryz.f281 = some c_slices_Clone_api_Run_api_Run := by kernel_rfl
abbrev n_spread_join : Nat := 282
def c_spread_join_L0 : ACode :=
 .seq (.region [I 10 (.bin .lss) [T 9, T 8]])
 (.seq (.cond (T 10)
 (.skip)
 (.exit 0))
 (.seq (.block 1 (.seq (.region [I 11 (.indexs 3) [T 7, T 9],
   I 12 (.loadn 3) [T 11],
   I 5 (.alloc 323 3 (.vals [(.int .i64 0), (.int .i64 0), (.int .i64 0)])) [],
   J (.store 3) [T 5, T 12]])
 (.seq (.region [I 13 (.mv) [T 3],
   I 14 (.lens) [T 13],
   I 15 (.bin .sub) [T 14, N 1],
   I 6 (.mv) [T 15]])
 (.seq (.draw [[⟨0, I 16 (.mv) [T 6], [], false⟩,
   ⟨1, I 17 (.bin .geq) [T 16, N 0], [], false⟩,
   ⟨2, I 18 (.mv) [T 17], [], false⟩,
   ⟨3, IG 19 (.mv) [T 3] 18 true, [], false⟩,
   ⟨4, IG 20 (.mv) [T 6] 18 true, [], false⟩,
   ⟨5, IG 21 (.indexs 3) [T 19, T 20] 18 true, [], false⟩,
   ⟨6, IG 22 (.fieldAddr 2) [T 21] 18 true, [], false⟩,
   ⟨7, IG 23 (.load1) [T 22] 18 true, [], false⟩,
   ⟨8, IG 24 (.fieldAddr 2) [T 5] 18 true, [], false⟩,
   ⟨9, IG 25 (.load1) [T 24] 18 true, [], false⟩,
   ⟨10, IG 26 (.bin .eql) [T 23, T 25] 18 true, [], false⟩,
   ⟨11, I 27 (.pick) [T 18, T 26, .lit (.bool false)], [], false⟩]])
 (.cond (T 27)
 (.region [I 28 (.mv) [T 3],
    I 29 (.mv) [T 6],
    I 30 (.fieldAddr 1) [T 5],
    I 31 (.load1) [T 30],
    I 32 (.indexs 3) [T 28, T 29],
    I 33 (.fieldAddr 1) [T 32],
    J (.store 1) [T 33, T 31]])
 (.region [I 34 (.mv) [T 3],
    I 35 (.loadn 3) [T 5],
    I 36 (.bslice 323 3 1 (.vals [(.int .i64 0), (.int .i64 0), (.int .i64 0)]) [0]) [T 35],
    I 37 (.append 323 3 24 (.vals [(.int .i64 0), (.int .i64 0), (.int .i64 0)])) [T 34, T 36],
    I 3 (.mv) [T 37]]))))))
 (.region [I 38 (.bin .add) [T 9, N 1],
   I 9 (.mv) [T 38]])))
def c_spread_join : AFn := ⟨40, [.tmp 2],
 .seq (.region [I 2 (.mv) [.lit .nilsl]])
 (.seq (.region [I 3 (.mv) [.lit .nilsl]])
 (.seq (.seq (.region [I 7 (.mv) [T 0],
   I 8 (.lens) [T 7],
   I 9 (.mv) [N 0]])
 (.block 0 (.loop c_spread_join_L0)))
 (.seq (.region [I 39 (.mv) [T 3],
   I 2 (.mv) [T 39]])
 (.ret))))⟩
theorem t282 : trFn Tryz.prog Tryz.f282 = some c_spread_join := by kernel_rfl
end Go.Proofs.YtlkfclgkinaibaaGreat

namespace Go.Proofs.YtlkfclgkinaibaaGreat
abbrev n_frames_Pool_Own_1 : Nat := 284
def c_frames_Pool_Own_1 : AFn := ⟨24, [.tmp 5],
 .seq (.region [I 5 (.mv) [N 0]])
 (.seq (.seq (.region [I 6 (.load1) [T 1],
   I 7 (.bin .lss) [T 6, N 1],
   I 8 (.mv) [T 7],
   IG 9 (.load1) [T 1] 8 false,
   IG 10 (.bin .gtr) [T 9, N 4] 8 false,
   I 11 (.pick) [T 8, .lit (.bool true), T 10]])
 (.cond (T 11)
 (.seq (.region [I 5 (.mv) [N 2]])
  (.ret))
 (.skip)))
 (.seq (.draw [[⟨0, I 12 (.mv) [T 0], [], false⟩,
   ⟨1, I 13 (.mv) [T 0], [], false⟩,
   ⟨2, I 14 (.mv) [T 0], [], false⟩,
   ⟨3, I 15 (.load1) [T 1], [], false⟩,
   ⟨4, I 16 (.load1) [T 2], [], false⟩,
   ⟨5, I 17 (.load1) [T 3], [], false⟩,
   ⟨6, I 18 (.nilCheck) [T 12], [], false⟩,
   ⟨7, I 19 (.fieldAddr 0) [T 18], [], false⟩,
   ⟨8, J (.store 1) [T 19, T 15], [(4, I 16 (.load1) [T 2]), (5, I 17 (.load1) [T 3])], false⟩,
   ⟨9, I 20 (.nilCheck) [T 13], [], false⟩,
   ⟨10, I 21 (.fieldAddr 1) [T 20], [], false⟩,
   ⟨11, J (.store 1) [T 21, T 16], [(5, I 17 (.load1) [T 3])], false⟩,
   ⟨12, I 22 (.nilCheck) [T 14], [], false⟩,
   ⟨13, I 23 (.fieldAddr 2) [T 22], [], false⟩,
   ⟨14, J (.store 1) [T 23, T 17], [], false⟩]])
 (.seq (.region [I 5 (.mv) [N 0]])
 (.ret))))⟩
theorem t284 : trFn Tryz.prog Tryz.f284 = some c_frames_Pool_Own_1 := by kernel_rfl
abbrev n_pmap_Map_Remove : Nat := 290
def c_pmap_Map_Remove : AFn := ⟨8, [.tmp 4],
 .seq (.region [I 4 (.mv) [.lit (.bool false)]])
 (.seq (.region [I 5 (.mv) [T 0],
   I 6 (.mv) [T 1],
   I 7 (.callv) [F 241, T 5, T 6, F 348],
   I 4 (.mv) [T 7]])
 (.ret))⟩
theorem t290 : trFn Tryz.prog Tryz.f290 = some c_pmap_Map_Remove := by kernel_rfl
abbrev n_slots_Slots_TakeRun : Nat := 293
def c_slots_Slots_TakeRun_L1 : ACode :=
 .seq (.seq (.region [I 37 (.mv) [T 7],
   I 38 (.mv) [T 6],
   I 39 (.bin .geq) [T 37, T 38]])
 (.cond (T 39)
 (.skip)
 (.exit 2)))
 (.seq (.block 3 (.seq (.region [I 42 (.mv) [T 0],
   I 43 (.nilCheck) [T 42],
   I 44 (.fieldAddr 1) [T 43],
   I 45 (.load1) [T 44],
   I 46 (.mv) [T 7],
   I 47 (.callv) [F 324, T 45, T 46]])
 (.cond (T 47)
 (.seq (.region [I 48 (.mv) [T 7],
    I 6 (.mv) [T 48]])
  (.exit 1))
 (.skip))))
 (.region [I 40 (.mv) [T 7],
   I 41 (.bin .sub) [T 40, N 1],
   I 7 (.mv) [T 41]]))
def c_slots_Slots_TakeRun_L2 : ACode :=
 .seq (.region [I 51 (.bin .lss) [T 50, T 49]])
 (.seq (.cond (T 51)
 (.skip)
 (.exit 4))
 (.seq (.block 5 (.seq (.region [I 52 (.mv) [T 50],
   I 8 (.mv) [T 52]])
 (.region [I 53 (.mv) [T 0],
   I 54 (.nilCheck) [T 53],
   I 55 (.fieldAddr 1) [T 54],
   I 56 (.load1) [T 55],
   I 57 (.mv) [T 6],
   I 58 (.mv) [T 8],
   I 59 (.bin .add) [T 57, T 58],
   I 60 (.callv) [F 295, T 56, T 59]])))
 (.region [I 61 (.bin .add) [T 50, N 1],
   I 50 (.mv) [T 61]])))
def c_slots_Slots_TakeRun_L0 : ACode :=
 .seq (.seq (.region [I 23 (.mv) [T 6],
   I 24 (.mv) [T 0],
   I 25 (.nilCheck) [T 24],
   I 26 (.fieldAddr 0) [T 25],
   I 27 (.load1) [T 26],
   I 28 (.mv) [T 1],
   I 29 (.bin .sub) [T 27, T 28],
   I 30 (.bin .leq) [T 23, T 29]])
 (.cond (T 30)
 (.skip)
 (.exit 0)))
 (.seq (.block 1 (.seq (.seq (.region [I 33 (.mv) [T 6],
   I 34 (.mv) [T 1],
   I 35 (.bin .add) [T 33, T 34],
   I 36 (.bin .sub) [T 35, N 1],
   I 7 (.mv) [T 36]])
 (.block 2 (.loop c_slots_Slots_TakeRun_L1)))
 (.seq (.seq (.region [I 49 (.mv) [T 1],
   I 50 (.mv) [N 0]])
 (.block 4 (.loop c_slots_Slots_TakeRun_L2)))
 (.seq (.region [I 62 (.mv) [T 6],
   I 4 (.mv) [T 62],
   I 5 (.mv) [.lit (.bool true)]])
 (.ret)))))
 (.region [I 31 (.mv) [T 6],
   I 32 (.bin .add) [T 31, N 1],
   I 6 (.mv) [T 32]]))
def c_slots_Slots_TakeRun : AFn := ⟨63, [.tmp 4, .tmp 5],
 .seq (.region [I 4 (.mv) [N 0],
   I 5 (.mv) [.lit (.bool false)]])
 (.seq (.seq (.region [I 9 (.mv) [T 0],
   I 10 (.eqv false .ptr) [T 9, .lit .nilptr],
   I 11 (.mv) [T 10],
   IG 12 (.mv) [T 1] 11 false,
   IG 13 (.bin .lss) [T 12, N 1] 11 false,
   I 14 (.pick) [T 11, .lit (.bool true), T 13],
   I 15 (.mv) [T 14],
   IG 16 (.mv) [T 1] 15 false,
   IG 17 (.mv) [T 0] 15 false,
   IG 18 (.nilCheck) [T 17] 15 false,
   IG 19 (.fieldAddr 0) [T 18] 15 false,
   IG 20 (.load1) [T 19] 15 false,
   IG 21 (.bin .gtr) [T 16, T 20] 15 false,
   I 22 (.pick) [T 15, .lit (.bool true), T 21]])
 (.cond (T 22)
 (.seq (.region [I 4 (.mv) [N 0],
    I 5 (.mv) [.lit (.bool false)]])
  (.ret))
 (.skip)))
 (.seq (.skip)
 (.seq (.seq (.region [I 6 (.mv) [N 0]])
 (.block 0 (.loop c_slots_Slots_TakeRun_L0)))
 (.seq (.region [I 4 (.mv) [N 0],
   I 5 (.mv) [.lit (.bool false)]])
 (.ret)))))⟩
theorem t293 : trFn Tryz.prog Tryz.f293 = some c_slots_Slots_TakeRun := by kernel_rfl
abbrev n_swap_plan_fails : Nat := 294
def c_swap_plan_fails : AFn := ⟨27, [.tmp 2],
 .seq (.region [I 2 (.mv) [.lit (.bool false)]])
 (.seq (.region [I 3 (.mv) [T 0],
   I 4 (.nilCheck) [T 3],
   I 5 (.fieldAddr 0) [T 4],
   I 6 (.load1) [T 5],
   I 7 (.bin .add) [T 6, N 1],
   I 8 (.nilCheck) [T 3],
   I 9 (.fieldAddr 0) [T 8],
   J (.store 1) [T 9, T 7]])
 (.seq (.seq (.region [I 10 (.mv) [T 0],
   I 11 (.nilCheck) [T 10],
   I 12 (.fieldAddr 1) [T 11],
   I 13 (.load1) [T 12],
   I 14 (.bin .eql) [T 13, N 0]])
 (.cond (T 14)
 (.seq (.region [I 2 (.mv) [.lit (.bool false)]])
  (.ret))
 (.skip)))
 (.seq (.region [I 15 (.mv) [T 0],
   I 16 (.nilCheck) [T 15],
   I 17 (.fieldAddr 1) [T 16],
   I 18 (.load1) [T 17],
   I 19 (.bin .sub) [T 18, N 1],
   I 20 (.nilCheck) [T 15],
   I 21 (.fieldAddr 1) [T 20],
   J (.store 1) [T 21, T 19]])
 (.seq (.region [I 22 (.mv) [T 0],
   I 23 (.nilCheck) [T 22],
   I 24 (.fieldAddr 1) [T 23],
   I 25 (.load1) [T 24],
   I 26 (.bin .eql) [T 25, N 0],
   I 2 (.mv) [T 26]])
 (.ret)))))⟩
theorem t294 : trFn Tryz.prog Tryz.f294 = some c_swap_plan_fails := by kernel_rfl
abbrev n_slots_put : Nat := 295
def c_slots_put : AFn := ⟨14, [],
 .draw [[⟨0, I 4 (.mv) [T 0], [], false⟩,
   ⟨1, I 5 (.mv) [T 1], [], false⟩,
   ⟨2, I 6 (.bin .quo) [T 5, N 64], [], false⟩,
   ⟨3, I 7 (.indexs 1) [T 4, T 6], [], false⟩,
   ⟨4, I 8 (.load1) [T 7], [], false⟩,
   ⟨5, I 9 (.mv) [T 1], [], false⟩,
   ⟨6, I 10 (.bin .rem) [T 9, N 64], [], false⟩,
   ⟨7, I 11 (.bin .shl) [.lit (.int .u64 1), T 10], [], false⟩,
   ⟨8, I 12 (.bin .or) [T 8, T 11], [], false⟩,
   ⟨9, I 13 (.indexs 1) [T 4, T 6], [], false⟩,
   ⟨10, J (.store 1) [T 13, T 12], [], false⟩]]⟩
theorem t295 : trFn Tryz.prog Tryz.f295 = some c_slots_put := by kernel_rfl
abbrev n_slices_insertionSortOrdered_int : Nat := 297
def c_slices_insertionSortOrdered_int_L1 : ACode :=
 .seq (.seq (.draw [[⟨0, I 16 (.mv) [T 7], [], false⟩,
   ⟨1, I 17 (.mv) [T 1], [], false⟩,
   ⟨2, I 18 (.bin .gtr) [T 16, T 17], [], false⟩,
   ⟨3, I 19 (.mv) [T 18], [], false⟩,
   ⟨4, IG 20 (.mv) [T 0] 19 true, [], false⟩,
   ⟨5, IG 21 (.mv) [T 7] 19 true, [], false⟩,
   ⟨6, IG 22 (.indexs 1) [T 20, T 21] 19 true, [], false⟩,
   ⟨7, IG 23 (.load1) [T 22] 19 true, [], false⟩,
   ⟨8, IG 24 (.mv) [T 0] 19 true, [], false⟩,
   ⟨9, IG 25 (.mv) [T 7] 19 true, [], false⟩,
   ⟨10, IG 26 (.bin .sub) [T 25, N 1] 19 true, [], false⟩,
   ⟨11, IG 27 (.indexs 1) [T 24, T 26] 19 true, [], false⟩,
   ⟨12, IG 28 (.load1) [T 27] 19 true, [], false⟩,
   ⟨13, IG 29 (.callv) [F 303, T 23, T 28] 19 true, [], false⟩,
   ⟨14, I 30 (.pick) [T 19, T 29, .lit (.bool false)], [], false⟩]])
 (.cond (T 30)
 (.skip)
 (.exit 2)))
 (.seq (.block 3 (.draw [[⟨0, I 33 (.mv) [T 0], [], false⟩,
   ⟨1, I 34 (.mv) [T 7], [], false⟩,
   ⟨2, I 35 (.mv) [T 0], [], false⟩,
   ⟨3, I 36 (.mv) [T 7], [], false⟩,
   ⟨4, I 37 (.bin .sub) [T 36, N 1], [], false⟩,
   ⟨5, I 38 (.mv) [T 0], [], false⟩,
   ⟨6, I 39 (.mv) [T 7], [], false⟩,
   ⟨7, I 40 (.bin .sub) [T 39, N 1], [], false⟩,
   ⟨8, I 41 (.indexs 1) [T 38, T 40], [], false⟩,
   ⟨9, I 42 (.load1) [T 41], [], false⟩,
   ⟨10, I 43 (.mv) [T 0], [], false⟩,
   ⟨11, I 44 (.mv) [T 7], [], false⟩,
   ⟨12, I 45 (.indexs 1) [T 43, T 44], [], false⟩,
   ⟨13, I 46 (.load1) [T 45], [], false⟩,
   ⟨14, I 47 (.indexs 1) [T 33, T 34], [], false⟩,
   ⟨15, J (.store 1) [T 47, T 42], [], false⟩,
   ⟨16, I 48 (.indexs 1) [T 35, T 37], [], false⟩,
   ⟨17, J (.store 1) [T 48, T 46], [], false⟩]]))
 (.region [I 31 (.mv) [T 7],
   I 32 (.bin .sub) [T 31, N 1],
   I 7 (.mv) [T 32]]))
def c_slices_insertionSortOrdered_int_L0 : ACode :=
 .seq (.seq (.region [I 10 (.mv) [T 6],
   I 11 (.mv) [T 2],
   I 12 (.bin .lss) [T 10, T 11]])
 (.cond (T 12)
 (.skip)
 (.exit 0)))
 (.seq (.block 1 (.seq (.region [I 15 (.mv) [T 6],
   I 7 (.mv) [T 15]])
 (.block 2 (.loop c_slices_insertionSortOrdered_int_L1))))
 (.region [I 13 (.mv) [T 6],
   I 14 (.bin .add) [T 13, N 1],
   I 6 (.mv) [T 14]]))
def c_slices_insertionSortOrdered_int : AFn := ⟨49, [],
 .seq (.region [I 8 (.mv) [T 1],
   I 9 (.bin .add) [T 8, N 1],
   I 6 (.mv) [T 9]])
 (.block 0 (.loop c_slices_insertionSortOrdered_int_L0))⟩
theorem t297 : trFn Tryz.prog Tryz.f297 = some c_slices_insertionSortOrdered_int := by kernel_rfl
abbrev n_math_bits_Len64 : Nat := 307
def c_math_bits_Len64 : AFn := ⟨25, [.tmp 2],
 .seq (.region [I 2 (.mv) [N 0]])
 (.seq (.seq (.region [I 3 (.mv) [T 0],
   I 4 (.bin .geq) [T 3, .lit (.int .u64 4294967296)]])
 (.cond (T 4)
 (.seq (.region [I 5 (.mv) [T 0],
    I 6 (.bin .shr) [T 5, .lit (.int .u64 32)],
    I 0 (.mv) [T 6]])
  (.region [I 2 (.mv) [N 32]]))
 (.skip)))
 (.seq (.seq (.region [I 7 (.mv) [T 0],
   I 8 (.bin .geq) [T 7, .lit (.int .u64 65536)]])
 (.cond (T 8)
 (.seq (.region [I 9 (.mv) [T 0],
    I 10 (.bin .shr) [T 9, .lit (.int .u64 16)],
    I 0 (.mv) [T 10]])
  (.region [I 11 (.mv) [T 2],
    I 12 (.bin .add) [T 11, N 16],
    I 2 (.mv) [T 12]]))
 (.skip)))
 (.seq (.seq (.region [I 13 (.mv) [T 0],
   I 14 (.bin .geq) [T 13, .lit (.int .u64 256)]])
 (.cond (T 14)
 (.seq (.region [I 15 (.mv) [T 0],
    I 16 (.bin .shr) [T 15, .lit (.int .u64 8)],
    I 0 (.mv) [T 16]])
  (.region [I 17 (.mv) [T 2],
    I 18 (.bin .add) [T 17, N 8],
    I 2 (.mv) [T 18]]))
 (.skip)))
 (.seq (.region [I 19 (.mv) [T 2],
   I 20 (.mv) [T 0],
   I 21 (.conv .u8) [T 20],
   I 22 (.indexstr) [.lit (.str ⟨#[0, 1, 2, 2, 3, 3, 3, 3, 4, 4, 4, 4, 4, 4, 4, 4, 5, 5, 5, 5, 5, 5, 5, 5, 5, 5, 5, 5, 5, 5, 5, 5, 6, 6, 6, 6, 6, 6, 6, 6, 6, 6, 6, 6, 6, 6, 6, 6, 6, 6, 6, 6, 6, 6, 6, 6, 6, 6, 6, 6, 6, 6, 6, 6, 7, 7, 7, 7, 7, 7, 7, 7, 7, 7, 7, 7, 7, 7, 7, 7, 7, 7, 7, 7, 7, 7, 7, 7, 7, 7, 7, 7, 7, 7, 7, 7, 7, 7, 7, 7, 7, 7, 7, 7, 7, 7, 7, 7, 7, 7, 7, 7, 7, 7, 7, 7, 7, 7, 7, 7, 7, 7, 7, 7, 7, 7, 7, 7, 8, 8, 8, 8, 8, 8, 8, 8, 8, 8, 8, 8, 8, 8, 8, 8, 8, 8, 8, 8, 8, 8, 8, 8, 8, 8, 8, 8, 8, 8, 8, 8, 8, 8, 8, 8, 8, 8, 8, 8, 8, 8, 8, 8, 8, 8, 8, 8, 8, 8, 8, 8, 8, 8, 8, 8, 8, 8, 8, 8, 8, 8, 8, 8, 8, 8, 8, 8, 8, 8, 8, 8, 8, 8, 8, 8, 8, 8, 8, 8, 8, 8, 8, 8, 8, 8, 8, 8, 8, 8, 8, 8, 8, 8, 8, 8, 8, 8, 8, 8, 8, 8, 8, 8, 8, 8, 8, 8, 8, 8, 8, 8, 8, 8, 8, 8, 8, 8, 8, 8, 8, 8, 8, 8, 8, 8, 8, 8]⟩), T 21],
   I 23 (.conv .i64) [T 22],
   I 24 (.bin .add) [T 19, T 23],
   I 2 (.mv) [T 24]])
 (.ret)))))⟩
theorem t307 : trFn Tryz.prog Tryz.f307 = some c_math_bits_Len64 := by kernel_rfl
abbrev n_swap_Device_made : Nat := 308
def c_swap_Device_made : AFn := ⟨11, [.tmp 2],
 .seq (.region [I 2 (.mv) [.lit (.bool false)]])
 (.seq (.region [I 3 (.mv) [T 0],
   I 4 (.eqv true .ptr) [T 3, .lit .nilptr],
   I 5 (.mv) [T 4],
   IG 6 (.mv) [T 0] 5 true,
   IG 7 (.nilCheck) [T 6] 5 true,
   IG 8 (.fieldAddr 1) [T 7] 5 true,
   IG 9 (.load1) [T 8] 5 true,
   I 10 (.pick) [T 5, T 9, .lit (.bool false)],
   I 2 (.mv) [T 10]])
 (.ret))⟩
theorem t308 : trFn Tryz.prog Tryz.f308 = some c_swap_Device_made := by kernel_rfl
abbrev n_ring_Rows_int_is : Nat := 309
def c_ring_Rows_int_is : AFn := ⟨13, [.tmp 4],
 .seq (.region [I 4 (.mv) [.lit (.bool false)]])
 (.seq (.region [I 5 (.mv) [T 1],
   I 6 (.bin .geq) [T 5, N 0],
   I 7 (.mv) [T 6],
   IG 8 (.mv) [T 1] 7 true,
   IG 9 (.mv) [T 0] 7 true,
   IG 10 (.callv) [F 235, T 9] 7 true,
   IG 11 (.bin .lss) [T 8, T 10] 7 true,
   I 12 (.pick) [T 7, T 11, .lit (.bool false)],
   I 4 (.mv) [T 12]])
 (.ret))⟩
theorem t309 : trFn Tryz.prog Tryz.f309 = some c_ring_Rows_int_is := by kernel_rfl
abbrev n_ring_Rows_int_All_1 : Nat := 310
def c_ring_Rows_int_All_1_L0 : ACode :=
 .seq (.region [I 20 (.bin .lss) [T 19, T 18]])
 (.seq (.cond (T 20)
 (.skip)
 (.exit 0))
 (.seq (.block 1 (.seq (.region [I 21 (.indexs 1) [T 17, T 19],
   I 22 (.load1) [T 21],
   I 5 (.mv) [T 22]])
 (.seq (.region [I 23 (.mv) [T 0],
   I 24 (.mv) [T 5],
   I 25 (.callv) [T 23, T 24],
   I 26 (.un .not) [T 25]])
 (.cond (T 26)
 (.ret)
 (.skip)))))
 (.region [I 27 (.bin .add) [T 19, N 1],
   I 19 (.mv) [T 27]])))
def c_ring_Rows_int_All_1 : AFn := ⟨28, [],
 .seq (.seq (.region [I 6 (.load1) [T 1],
   I 7 (.load1) [T 2],
   I 8 (.callv) [F 309, T 6, T 7],
   I 9 (.un .not) [T 8]])
 (.cond (T 9)
 (.ret)
 (.skip)))
 (.seq (.draw [[⟨0, I 10 (.load1) [T 1], [], false⟩,
   ⟨1, I 11 (.nilCheck) [T 10], [], false⟩,
   ⟨2, I 12 (.fieldAddr 0) [T 11], [], false⟩,
   ⟨3, I 13 (.load1) [T 12], [], false⟩,
   ⟨4, I 14 (.load1) [T 2], [], false⟩,
   ⟨5, I 15 (.indexs 1) [T 13, T 14], [], false⟩,
   ⟨6, I 16 (.load1) [T 15], [], false⟩,
   ⟨9, I 19 (.mv) [N 0], [], false⟩,
   ⟨7, I 17 (.callv) [F 311, T 16], [], false⟩,
   ⟨8, I 18 (.lens) [T 17], [], false⟩]])
 (.block 0 (.loop c_ring_Rows_int_All_1_L0)))⟩
theorem t310 : trFn Tryz.prog Tryz.f310 = some c_ring_Rows_int_All_1 := by kernel_rfl
abbrev n_slices_Clone_int_int : Nat := 311
def c_slices_Clone_int_int : AFn := ⟨8, [.tmp 2],
 .seq (.region [I 2 (.mv) [.lit .nilsl]])
 (.seq (.seq (.region [I 3 (.mv) [T 0],
   I 4 (.eqv false .slice) [T 3, .lit .nilsl]])
 (.cond (T 4)
 (.seq (.region [I 2 (.mv) [.lit .nilsl]])
  (.ret))
 (.skip)))
 (.seq (.region [I 5 (.bslice 3 1 0 (.vals [(.int .i64 0)]) []) [],
   I 6 (.mv) [T 0],
   I 7 (.append 3 1 8 (.vals [(.int .i64 0)])) [T 5, T 6],
   I 2 (.mv) [T 7]])
 (.ret)))⟩
theorem t311 : trFn Tryz.prog Tryz.f311 = some c_slices_Clone_int_int := by kernel_rfl
abbrev n_maps_Keys_map_int_kern_proc_int_kern_proc_1 : Nat := 312
def c_maps_Keys_map_int_kern_proc_int_kern_proc_1_L0 : ACode :=
 .seq (.region [I 6 (.next) [T 5],
   I 7 (.extract 0) [T 6]])
 (.seq (.cond (T 7)
 (.skip)
 (.exit 0))
 (.block 1 (.seq (.region [I 8 (.entry) [T 5],
   I 9 (.extract 0) [T 8],
   I 3 (.mv) [T 9]])
 (.seq (.region [I 10 (.mv) [T 0],
   I 11 (.mv) [T 3],
   I 12 (.callv) [T 10, T 11],
   I 13 (.un .not) [T 12]])
 (.cond (T 13)
 (.ret)
 (.skip))))))
def c_maps_Keys_map_int_kern_proc_int_kern_proc_1 : AFn := ⟨14, [],
 .seq (.region [I 4 (.load1) [T 1],
   I 5 (.range) [T 4]])
 (.block 0 (.loop c_maps_Keys_map_int_kern_proc_int_kern_proc_1_L0))⟩
theorem t312 : trFn Tryz.prog Tryz.f312 = some c_maps_Keys_map_int_kern_proc_int_kern_proc_1 := by kernel_rfl
abbrev n_walk_Leaves_1 : Nat := 313
def c_walk_Leaves_1 : AFn := ⟨17, [],
 .seq (.region [I 3 (.box 292 1) [T 0]])
 (.seq (.region [I 4 (.alloc 351 1 (.vals [.nilfunc])) []])
 (.seq (.region [I 5 (.mkfunc 314 0) [T 1, T 3, T 4],
   J (.store 1) [T 4, T 5]])
 (.seq (.draw [[⟨0, I 6 (.load1) [T 2], [], false⟩,
   ⟨1, I 7 (.bin .geq) [T 6, N 0], [], false⟩,
   ⟨2, I 8 (.mv) [T 7], [], false⟩,
   ⟨3, IG 9 (.load1) [T 2] 8 true, [], false⟩,
   ⟨4, IG 10 (.load1) [T 1] 8 true, [], false⟩,
   ⟨5, IG 11 (.callv) [F 44, T 10] 8 true, [(3, IG 9 (.load1) [T 2] 8 true)], false⟩,
   ⟨6, IG 12 (.bin .lss) [T 9, T 11] 8 true, [], false⟩,
   ⟨7, I 13 (.pick) [T 8, T 12, .lit (.bool false)], [], false⟩]])
 (.cond (T 13)
 (.region [I 14 (.load1) [T 4],
    I 15 (.load1) [T 2],
    I 16 (.callv) [T 14, T 15, N 2, N 0]])
 (.skip)))))⟩
theorem t313 : trFn Tryz.prog Tryz.f313 = some c_walk_Leaves_1 := by kernel_rfl
abbrev n_walk_Leaves_1_1 : Nat := 314
def c_walk_Leaves_1_1_L0 : ACode :=
 .seq (.region [I 16 (.bin .lss) [T 15, N 512]])
 (.seq (.cond (T 16)
 (.skip)
 (.exit 0))
 (.seq (.block 1 (.seq (.region [I 17 (.mv) [T 15],
   I 10 (.mv) [T 17]])
 (.seq (.region [I 18 (.mv) [T 2],
   I 19 (.bin .mul) [T 18, N 512],
   I 20 (.mv) [T 10],
   I 21 (.bin .add) [T 19, T 20],
   I 11 (.mv) [T 21]])
 (.seq (.seq (.region [I 22 (.mv) [T 1],
   I 23 (.bin .eql) [T 22, N 0]])
 (.cond (T 23)
 (.seq (.seq (.region [I 24 (.load1) [T 3],
    I 25 (.mv) [T 0],
    I 26 (.mv) [T 10],
    I 27 (.callv) [F 315, T 24, T 25, T 26],
    I 12 (.alloc 204 2 (.vals [(.int .i64 0), (.int .i64 0)])) [],
    J (.store 2) [T 12, T 27]])
  (.seq (.region [I 28 (.loadn 2) [T 12],
    I 29 (.callv) [F 275, T 28],
    I 30 (.bin .eql) [T 29, N 2],
    I 31 (.mv) [T 30],
    IG 32 (.load1) [T 4] 31 true,
    IG 33 (.mv) [T 11] 31 true,
    IG 34 (.loadn 2) [T 12] 31 true,
    IG 35 (.callv) [T 32, T 33, T 34] 31 true,
    IG 36 (.un .not) [T 35] 31 true,
    I 37 (.pick) [T 31, T 36, .lit (.bool false)]])
  (.cond (T 37)
  (.seq (.region [I 9 (.mv) [.lit (.bool false)]])
   (.ret))
  (.skip))))
  (.exit 1))
 (.skip)))
 (.seq (.region [I 39 (.load1) [T 3],
   I 40 (.mv) [T 0],
   I 41 (.mv) [T 10],
   I 42 (.callv) [F 316, T 39, T 40, T 41],
   I 38 (.mv) [T 42],
   I 43 (.extract 0) [T 38],
   I 44 (.extract 1) [T 38],
   I 13 (.mv) [T 43],
   I 14 (.mv) [T 44]])
 (.seq (.region [I 45 (.mv) [T 14],
   I 46 (.mv) [T 45],
   IG 47 (.load1) [T 5] 46 true,
   IG 48 (.mv) [T 13] 46 true,
   IG 49 (.mv) [T 1] 46 true,
   IG 50 (.bin .sub) [T 49, N 1] 46 true,
   IG 51 (.mv) [T 11] 46 true,
   IG 52 (.callv) [T 47, T 48, T 50, T 51] 46 true,
   IG 53 (.un .not) [T 52] 46 true,
   I 54 (.pick) [T 46, T 53, .lit (.bool false)]])
 (.cond (T 54)
 (.seq (.region [I 9 (.mv) [.lit (.bool false)]])
  (.ret))
 (.skip))))))))
 (.region [I 55 (.bin .add) [T 15, N 1],
   I 15 (.mv) [T 55]])))
def c_walk_Leaves_1_1 : AFn := ⟨56, [.tmp 9],
 .seq (.region [I 9 (.mv) [.lit (.bool false)]])
 (.seq (.seq (.region [I 15 (.mv) [N 0]])
 (.block 0 (.loop c_walk_Leaves_1_1_L0)))
 (.seq (.region [I 9 (.mv) [.lit (.bool true)]])
 (.ret)))⟩
theorem t314 : trFn Tryz.prog Tryz.f314 = some c_walk_Leaves_1_1 := by kernel_rfl
abbrev n_walk_read : Nat := 315
def c_walk_read : AFn := ⟨18, [.cell 6 (.loadn 2)],
 .seq (.region [I 6 (.alloc 204 2 (.vals [(.int .i64 0), (.int .i64 0)])) []])
 (.seq (.region [I 10 (.mv) [T 0],
   I 11 (.mv) [T 1],
   I 12 (.mv) [T 2],
   I 13 (.callv) [F 273, T 10, T 11, T 12],
   I 9 (.mv) [T 13],
   I 14 (.extract 0) [T 9],
   I 15 (.extract 1) [T 9],
   I 7 (.mv) [T 14],
   I 8 (.mv) [T 15]])
 (.seq (.region [I 16 (.mv) [T 7],
   I 17 (.callv) [F 274, T 16],
   J (.store 2) [T 6, T 17]])
 (.ret)))⟩
theorem t315 : trFn Tryz.prog Tryz.f315 = some c_walk_read := by kernel_rfl
abbrev n_walk_below : Nat := 316
def c_walk_below : AFn := ⟨25, [.tmp 6, .tmp 7],
 .seq (.region [I 6 (.mv) [N 0],
   I 7 (.mv) [.lit (.bool false)]])
 (.seq (.region [I 9 (.mv) [T 0],
   I 10 (.mv) [T 1],
   I 11 (.mv) [T 2],
   I 12 (.callv) [F 315, T 9, T 10, T 11],
   I 8 (.alloc 204 2 (.vals [(.int .i64 0), (.int .i64 0)])) [],
   J (.store 2) [T 8, T 12]])
 (.seq (.draw [[⟨0, I 13 (.fieldAddr 1) [T 8], [], false⟩,
   ⟨1, I 14 (.load1) [T 13], [], false⟩,
   ⟨2, I 15 (.loadn 2) [T 8], [], false⟩,
   ⟨3, I 16 (.callv) [F 275, T 15], [(1, I 14 (.load1) [T 13])], false⟩,
   ⟨4, I 17 (.bin .eql) [T 16, N 1], [], false⟩,
   ⟨5, I 18 (.mv) [T 17], [], false⟩,
   ⟨6, IG 19 (.fieldAddr 1) [T 8] 18 true, [], false⟩,
   ⟨7, IG 20 (.load1) [T 19] 18 true, [], false⟩,
   ⟨8, IG 21 (.mv) [T 0] 18 true, [], false⟩,
   ⟨9, IG 22 (.callv) [F 44, T 21] 18 true, [(1, I 14 (.load1) [T 13]), (7, IG 20 (.load1) [T 19] 18 true)], false⟩,
   ⟨10, IG 23 (.bin .lss) [T 20, T 22] 18 true, [], false⟩,
   ⟨11, I 24 (.pick) [T 18, T 23, .lit (.bool false)], [], false⟩,
   ⟨12, I 6 (.mv) [T 14], [], false⟩,
   ⟨13, I 7 (.mv) [T 24], [], false⟩]])
 (.ret)))⟩
theorem t316 : trFn Tryz.prog Tryz.f316 = some c_walk_below := by kernel_rfl
abbrev n_pmap_Map_Find : Nat := 317
def c_pmap_Map_Find : AFn := ⟨34, [.cell 4 (.loadn 2), .tmp 5],
 .seq (.region [I 4 (.alloc 204 2 (.vals [(.int .i64 0), (.int .i64 0)])) [],
   I 5 (.mv) [.lit (.bool false)]])
 (.seq (.seq (.region [I 8 (.mv) [T 0],
   I 9 (.callv) [F 178, T 8],
   I 10 (.un .not) [T 9]])
 (.cond (T 10)
 (.seq (.region [I 11 (.build (.agg [(.int .i64 0), (.int .i64 0)]) []) [],
    J (.store 2) [T 4, T 11],
    I 5 (.mv) [.lit (.bool false)]])
  (.ret))
 (.skip)))
 (.seq (.draw [[⟨0, I 13 (.mv) [T 0], [], false⟩,
   ⟨1, I 14 (.nilCheck) [T 13], [], false⟩,
   ⟨2, I 15 (.fieldAddr 0) [T 14], [], false⟩,
   ⟨3, I 16 (.load1) [T 15], [], false⟩,
   ⟨4, I 17 (.mv) [T 0], [], false⟩,
   ⟨5, I 18 (.nilCheck) [T 17], [], false⟩,
   ⟨6, I 19 (.fieldAddr 3) [T 18], [], false⟩,
   ⟨7, I 20 (.load1) [T 19], [], false⟩,
   ⟨8, I 21 (.mv) [T 1], [], false⟩,
   ⟨9, I 22 (.callv) [F 261, T 16, T 20, T 21], [], false⟩,
   ⟨10, I 12 (.mv) [T 22], [], false⟩,
   ⟨11, I 23 (.extract 0) [T 12], [], false⟩,
   ⟨12, I 24 (.extract 1) [T 12], [], false⟩,
   ⟨13, I 6 (.alloc 204 2 (.vals [(.int .i64 0), (.int .i64 0)])) [], [(3, I 16 (.load1) [T 15]), (7, I 20 (.load1) [T 19])], false⟩,
   ⟨14, J (.store 2) [T 6, T 23], [], false⟩,
   ⟨15, I 7 (.mv) [T 24], [], false⟩]])
 (.seq (.seq (.region [I 25 (.mv) [T 7],
   I 26 (.un .not) [T 25],
   I 27 (.mv) [T 26],
   IG 28 (.loadn 2) [T 6] 27 false,
   IG 29 (.callv) [F 275, T 28] 27 false,
   IG 30 (.bin .neq) [T 29, N 2] 27 false,
   I 31 (.pick) [T 27, .lit (.bool true), T 30]])
 (.cond (T 31)
 (.seq (.region [I 32 (.build (.agg [(.int .i64 0), (.int .i64 0)]) []) [],
    J (.store 2) [T 4, T 32],
    I 5 (.mv) [.lit (.bool false)]])
  (.ret))
 (.skip)))
 (.seq (.region [I 33 (.loadn 2) [T 6],
   J (.store 2) [T 4, T 33],
   I 5 (.mv) [.lit (.bool true)]])
 (.ret)))))⟩
theorem t317 : trFn Tryz.prog Tryz.f317 = some c_pmap_Map_Find := by kernel_rfl
abbrev n_walk_Place : Nat := 318
def c_walk_Place_L0 : ACode :=
 .seq (.block 1 (.seq (.seq (.region [I 32 (.mv) [T 10],
   I 33 (.bin .eql) [T 32, N 0]])
 (.cond (T 33)
 (.exit 0)
 (.skip)))
 (.seq (.region [I 35 (.mv) [T 0],
   I 36 (.mv) [T 9],
   I 37 (.mv) [T 2],
   I 38 (.mv) [T 10],
   I 39 (.callv) [F 334, T 37, T 38],
   I 40 (.callv) [F 316, T 35, T 36, T 39],
   I 34 (.mv) [T 40],
   I 41 (.extract 0) [T 34],
   I 42 (.extract 1) [T 34],
   I 11 (.mv) [T 41],
   I 12 (.mv) [T 42]])
 (.seq (.seq (.region [I 43 (.mv) [T 12],
   I 44 (.un .not) [T 43]])
 (.cond (T 44)
 (.seq (.region [I 6 (.mv) [N 0],
    I 7 (.mv) [N 0],
    I 8 (.mv) [.lit (.bool false)]])
  (.ret))
 (.skip)))
 (.region [I 45 (.mv) [T 11],
   I 9 (.mv) [T 45]])))))
 (.region [I 30 (.mv) [T 10],
   I 31 (.bin .sub) [T 30, N 1],
   I 10 (.mv) [T 31]])
def c_walk_Place : AFn := ⟨49, [.tmp 6, .tmp 7, .tmp 8],
 .seq (.region [I 6 (.mv) [N 0],
   I 7 (.mv) [N 0],
   I 8 (.mv) [.lit (.bool false)]])
 (.seq (.seq (.region [I 13 (.mv) [T 1],
   I 14 (.bin .lss) [T 13, N 0],
   I 15 (.mv) [T 14],
   IG 16 (.mv) [T 1] 15 false,
   IG 17 (.mv) [T 0] 15 false,
   IG 18 (.callv) [F 44, T 17] 15 false,
   IG 19 (.bin .geq) [T 16, T 18] 15 false,
   I 20 (.pick) [T 15, .lit (.bool true), T 19],
   I 21 (.mv) [T 20],
   IG 22 (.mv) [T 2] 21 false,
   IG 23 (.bin .lss) [T 22, N 0] 21 false,
   I 24 (.pick) [T 21, .lit (.bool true), T 23],
   I 25 (.mv) [T 24],
   IG 26 (.mv) [T 2] 25 false,
   IG 27 (.bin .geq) [T 26, N 134217728] 25 false,
   I 28 (.pick) [T 25, .lit (.bool true), T 27]])
 (.cond (T 28)
 (.seq (.region [I 6 (.mv) [N 0],
    I 7 (.mv) [N 0],
    I 8 (.mv) [.lit (.bool false)]])
  (.ret))
 (.skip)))
 (.seq (.region [I 29 (.mv) [T 1],
   I 9 (.mv) [T 29]])
 (.seq (.skip)
 (.seq (.seq (.region [I 10 (.mv) [N 2]])
 (.block 0 (.loop c_walk_Place_L0)))
 (.seq (.region [I 46 (.mv) [T 9],
   I 47 (.mv) [T 2],
   I 48 (.callv) [F 334, T 47, N 0],
   I 6 (.mv) [T 46],
   I 7 (.mv) [T 48],
   I 8 (.mv) [.lit (.bool true)]])
 (.ret))))))⟩
theorem t318 : trFn Tryz.prog Tryz.f318 = some c_walk_Place := by kernel_rfl
abbrev n_pte_Encode : Nat := 319
def c_pte_Encode : AFn := ⟨13, [.tmp 2],
 .seq (.region [I 1 (.box 204 2) [T 0],
   I 2 (.mv) [.lit (.int .u64 0)]])
 (.seq (.draw [[⟨0, I 3 (.fieldAddr 1) [T 1], [], false⟩,
   ⟨1, I 4 (.load1) [T 3], [], false⟩,
   ⟨2, I 5 (.conv .u64) [T 4], [], false⟩,
   ⟨5, I 8 (.fieldAddr 0) [T 1], [], false⟩,
   ⟨6, I 9 (.load1) [T 8], [], false⟩,
   ⟨7, I 10 (.conv .u64) [T 9], [], false⟩,
   ⟨3, I 6 (.callv) [F 341, T 5, N 44], [(6, I 9 (.load1) [T 8])], false⟩,
   ⟨4, I 7 (.bin .shl) [T 6, .lit (.int .u64 10)], [], false⟩,
   ⟨8, I 11 (.callv) [F 341, T 10, N 8], [], false⟩,
   ⟨9, I 12 (.bin .or) [T 7, T 11], [], false⟩,
   ⟨10, I 2 (.mv) [T 12], [], false⟩]])
 (.ret))⟩
theorem t319 : trFn Tryz.prog Tryz.f319 = some c_pte_Encode := by kernel_rfl
abbrev n_pmap_Map_tidy : Nat := 320
def c_pmap_Map_tidy : AFn := ⟨53, [],
 .seq (.region [I 10 (.mv) [T 1],
   I 11 (.callv) [F 334, T 10, N 2],
   I 12 (.mv) [T 1],
   I 13 (.callv) [F 334, T 12, N 1],
   I 4 (.mv) [T 11],
   I 5 (.mv) [T 13]])
 (.seq (.region [I 15 (.mv) [T 0],
   I 16 (.mv) [T 0],
   I 17 (.nilCheck) [T 16],
   I 18 (.fieldAddr 3) [T 17],
   I 19 (.load1) [T 18],
   I 20 (.mv) [T 4],
   I 21 (.callv) [F 179, T 15, T 19, T 20],
   I 14 (.mv) [T 21],
   I 22 (.extract 0) [T 14],
   I 23 (.extract 1) [T 14],
   I 6 (.mv) [T 22],
   I 7 (.mv) [T 23]])
 (.seq (.seq (.region [I 24 (.mv) [T 7],
   I 25 (.un .not) [T 24]])
 (.cond (T 25)
 (.ret)
 (.skip)))
 (.seq (.seq (.region [I 27 (.mv) [T 0],
   I 28 (.mv) [T 6],
   I 29 (.mv) [T 5],
   I 30 (.callv) [F 179, T 27, T 28, T 29],
   I 26 (.mv) [T 30],
   I 31 (.extract 0) [T 26],
   I 32 (.extract 1) [T 26],
   I 8 (.mv) [T 31],
   I 9 (.mv) [T 32]])
 (.seq (.region [I 33 (.mv) [T 9],
   I 34 (.mv) [T 33],
   IG 35 (.mv) [T 0] 34 true,
   IG 36 (.mv) [T 8] 34 true,
   IG 37 (.callv) [F 355, T 35, T 36] 34 true,
   I 38 (.pick) [T 34, T 37, .lit (.bool false)]])
 (.cond (T 38)
 (.region [I 39 (.mv) [T 0],
    I 40 (.mv) [T 6],
    I 41 (.mv) [T 5],
    I 42 (.callv) [F 180, T 39, T 40, T 41]])
 (.skip))))
 (.seq (.region [I 43 (.mv) [T 0],
   I 44 (.mv) [T 6],
   I 45 (.callv) [F 355, T 43, T 44]])
 (.cond (T 45)
 (.region [I 46 (.mv) [T 0],
    I 47 (.mv) [T 0],
    I 48 (.nilCheck) [T 47],
    I 49 (.fieldAddr 3) [T 48],
    I 50 (.load1) [T 49],
    I 51 (.mv) [T 4],
    I 52 (.callv) [F 180, T 46, T 50, T 51]])
 (.skip))))))⟩
theorem t320 : trFn Tryz.prog Tryz.f320 = some c_pmap_Map_tidy := by kernel_rfl
abbrev n_maps_Keys_map_int_object_one_int_object_one_1 : Nat := 322
def c_maps_Keys_map_int_object_one_int_object_one_1_L0 : ACode :=
 .seq (.region [I 6 (.next) [T 5],
   I 7 (.extract 0) [T 6]])
 (.seq (.cond (T 7)
 (.skip)
 (.exit 0))
 (.block 1 (.seq (.region [I 8 (.entry) [T 5],
   I 9 (.extract 0) [T 8],
   I 3 (.mv) [T 9]])
 (.seq (.region [I 10 (.mv) [T 0],
   I 11 (.mv) [T 3],
   I 12 (.callv) [T 10, T 11],
   I 13 (.un .not) [T 12]])
 (.cond (T 13)
 (.ret)
 (.skip))))))
def c_maps_Keys_map_int_object_one_int_object_one_1 : AFn := ⟨14, [],
 .seq (.region [I 4 (.load1) [T 1],
   I 5 (.range) [T 4]])
 (.block 0 (.loop c_maps_Keys_map_int_object_one_int_object_one_1_L0))⟩
theorem t322 : trFn Tryz.prog Tryz.f322 = some c_maps_Keys_map_int_object_one_int_object_one_1 := by kernel_rfl
abbrev n_slots_has : Nat := 324
def c_slots_has : AFn := ⟨15, [.tmp 4],
 .seq (.region [I 4 (.mv) [.lit (.bool false)]])
 (.seq (.region [I 5 (.mv) [T 0],
   I 6 (.mv) [T 1],
   I 7 (.bin .quo) [T 6, N 64],
   I 8 (.indexs 1) [T 5, T 7],
   I 9 (.load1) [T 8],
   I 10 (.mv) [T 1],
   I 11 (.bin .rem) [T 10, N 64],
   I 12 (.bin .shr) [T 9, T 11],
   I 13 (.bin .and) [T 12, .lit (.int .u64 1)],
   I 14 (.bin .gtr) [T 13, .lit (.int .u64 0)],
   I 4 (.mv) [T 14]])
 (.ret))⟩
theorem t324 : trFn Tryz.prog Tryz.f324 = some c_slots_has := by kernel_rfl
abbrev n_slices_IndexFunc_api_Entry_api_Entry : Nat := 325
def c_slices_IndexFunc_api_Entry_api_Entry_L0 : ACode :=
 .seq (.region [I 9 (.bin .lss) [T 8, T 7]])
 (.seq (.cond (T 9)
 (.skip)
 (.exit 0))
 (.seq (.block 1 (.seq (.region [I 10 (.mv) [T 8],
   I 5 (.mv) [T 10]])
 (.seq (.region [I 11 (.mv) [T 1],
   I 12 (.mv) [T 0],
   I 13 (.mv) [T 5],
   I 14 (.indexs 10) [T 12, T 13],
   I 15 (.loadn 10) [T 14],
   I 16 (.callv) [T 11, T 15]])
 (.cond (T 16)
 (.seq (.region [I 17 (.mv) [T 5],
    I 4 (.mv) [T 17]])
  (.ret))
 (.skip)))))
 (.region [I 18 (.bin .add) [T 8, N 1],
   I 8 (.mv) [T 18]])))
def c_slices_IndexFunc_api_Entry_api_Entry : AFn := ⟨19, [.tmp 4],
 .seq (.region [I 4 (.mv) [N 0]])
 (.seq (.seq (.region [I 6 (.mv) [T 0],
   I 7 (.lens) [T 6],
   I 8 (.mv) [N 0]])
 (.block 0 (.loop c_slices_IndexFunc_api_Entry_api_Entry_L0)))
 (.seq (.region [I 4 (.mv) [N (-1)]])
 (.ret)))⟩
theorem t325 : trFn Tryz.prog Tryz.f325 = some c_slices_IndexFunc_api_Entry_api_Entry := by kernel_rfl
abbrev n_pte_Canonical : Nat := 328
def c_pte_Canonical : AFn := ⟨12, [.tmp 2],
 .seq (.region [I 2 (.mv) [.lit (.bool false)]])
 (.seq (.region [I 4 (.mv) [T 0],
   I 5 (.bin .shr) [T 4, .lit (.int .u64 38)],
   I 3 (.mv) [T 5]])
 (.seq (.region [I 6 (.mv) [T 3],
   I 7 (.bin .eql) [T 6, N 0],
   I 8 (.mv) [T 7],
   IG 9 (.mv) [T 3] 8 false,
   IG 10 (.bin .eql) [T 9, N (-1)] 8 false,
   I 11 (.pick) [T 8, .lit (.bool true), T 10],
   I 2 (.mv) [T 11]])
 (.ret)))⟩
theorem t328 : trFn Tryz.prog Tryz.f328 = some c_pte_Canonical := by kernel_rfl
abbrev n_pte_Split : Nat := 329
def c_pte_Split : AFn := ⟨14, [.tmp 2, .tmp 3],
 .seq (.region [I 2 (.mv) [N 0],
   I 3 (.mv) [N 0]])
 (.seq (.region [I 5 (.mv) [T 0],
   I 6 (.conv .u64) [T 5],
   I 4 (.mv) [T 6]])
 (.seq (.region [I 7 (.mv) [T 4],
   I 8 (.bin .shr) [T 7, .lit (.int .u64 12)],
   I 9 (.callv) [F 341, T 8, N 27],
   I 10 (.conv .i64) [T 9],
   I 11 (.mv) [T 4],
   I 12 (.callv) [F 341, T 11, N 12],
   I 13 (.conv .i64) [T 12],
   I 2 (.mv) [T 10],
   I 3 (.mv) [T 13]])
 (.ret)))⟩
theorem t329 : trFn Tryz.prog Tryz.f329 = some c_pte_Split := by kernel_rfl
abbrev n_tlb_Table_Put_1 : Nat := 330
def c_tlb_Table_Put_1 : AFn := ⟨12, [.tmp 3],
 .seq (.region [I 2 (.box 207 2) [T 0],
   I 3 (.mv) [.lit (.bool false)]])
 (.seq (.draw [[⟨0, I 4 (.loadn 2) [T 2], [], false⟩,
   ⟨1, I 5 (.load1) [T 1], [], false⟩,
   ⟨2, I 6 (.nilCheck) [T 5], [], false⟩,
   ⟨3, I 7 (.fieldAddr 1) [T 6], [], false⟩,
   ⟨4, I 8 (.load1) [T 7], [], false⟩,
   ⟨5, I 9 (.indexs 2) [T 8, N 0], [], false⟩,
   ⟨6, I 10 (.loadn 2) [T 9], [], false⟩,
   ⟨7, I 11 (.eqv false (.flat [.int, .int])) [T 4, T 10], [], false⟩,
   ⟨8, I 3 (.mv) [T 11], [], false⟩]])
 (.ret))⟩
theorem t330 : trFn Tryz.prog Tryz.f330 = some c_tlb_Table_Put_1 := by kernel_rfl
abbrev n_kern_Kernel_fresh : Nat := 333
def c_kern_Kernel_fresh : AFn := ⟨78, [.tmp 8, .tmp 9],
 .seq (.region [I 8 (.mv) [N 0],
   I 9 (.mv) [N 0]])
 (.seq (.region [I 15 (.mv) [T 0],
   I 16 (.mv) [T 1],
   I 17 (.mv) [T 2],
   I 18 (.callv) [F 174, T 15, T 16, T 17],
   I 14 (.mv) [T 18],
   I 19 (.extract 0) [T 14],
   I 20 (.extract 1) [T 14],
   I 10 (.mv) [T 19],
   I 11 (.mv) [T 20]])
 (.seq (.seq (.region [I 21 (.mv) [T 11],
   I 22 (.bin .neq) [T 21, N 0]])
 (.cond (T 22)
 (.seq (.region [I 23 (.mv) [T 11],
    I 8 (.mv) [N (-1)],
    I 9 (.mv) [T 23]])
  (.ret))
 (.skip)))
 (.seq (.region [I 25 (.mv) [T 0],
   I 26 (.callv) [F 156, T 25, N 2, N 0, N 0],
   I 24 (.mv) [T 26],
   I 27 (.extract 0) [T 24],
   I 28 (.extract 1) [T 24],
   I 12 (.mv) [T 27],
   I 11 (.mv) [T 28]])
 (.seq (.seq (.region [I 29 (.mv) [T 11],
   I 30 (.bin .neq) [T 29, N 0]])
 (.cond (T 30)
 (.seq (.region [I 31 (.mv) [T 11],
    I 8 (.mv) [N (-1)],
    I 9 (.mv) [T 31]])
  (.ret))
 (.skip)))
 (.seq (.region [I 33 (.mv) [T 0],
   I 34 (.nilCheck) [T 33],
   I 35 (.fieldAddr 5) [T 34],
   I 36 (.load1) [T 35],
   I 37 (.mv) [T 12],
   I 38 (.callv) [F 190, T 36, T 37],
   I 32 (.mv) [T 38],
   I 39 (.extract 0) [T 32],
   I 40 (.extract 1) [T 32],
   I 13 (.mv) [T 39],
   I 11 (.mv) [T 40]])
 (.seq (.seq (.region [I 41 (.mv) [T 11],
   I 42 (.bin .neq) [T 41, N 0]])
 (.cond (T 42)
 (.seq (.region [I 43 (.mv) [T 0],
    I 44 (.nilCheck) [T 43],
    I 45 (.fieldAddr 1) [T 44],
    I 46 (.load1) [T 45],
    I 47 (.mv) [T 12],
    I 48 (.callv) [F 117, T 46, T 47]])
  (.seq (.region [I 49 (.mv) [T 11],
    I 8 (.mv) [N (-1)],
    I 9 (.mv) [T 49]])
  (.ret)))
 (.skip)))
 (.seq (.region [I 50 (.mv) [T 0],
   I 51 (.nilCheck) [T 50],
   I 52 (.fieldAddr 1) [T 51],
   I 53 (.load1) [T 52],
   I 54 (.mv) [T 12],
   I 55 (.mv) [T 13],
   I 56 (.callv) [F 191, T 53, T 54, N 2, T 55, N 0]])
 (.seq (.seq (.region [I 57 (.mv) [T 3],
   I 58 (.bin .geq) [T 57, N 0]])
 (.cond (T 58)
 (.region [I 59 (.mv) [T 0],
    I 60 (.nilCheck) [T 59],
    I 61 (.fieldAddr 0) [T 60],
    I 62 (.load1) [T 61],
    I 63 (.mv) [T 12],
    I 64 (.mv) [T 3],
    I 65 (.callv) [F 160, T 62, T 63, T 64]])
 (.region [I 66 (.mv) [T 0],
    I 67 (.nilCheck) [T 66],
    I 68 (.fieldAddr 0) [T 67],
    I 69 (.load1) [T 68],
    I 70 (.mv) [T 12],
    I 71 (.callv) [F 146, T 69, T 70]])))
 (.seq (.region [I 72 (.mv) [T 0],
   I 73 (.mv) [T 10],
   I 74 (.mv) [T 2],
   I 75 (.mv) [T 13],
   I 76 (.callv) [F 205, T 72, T 73, T 74, T 75]])
 (.seq (.region [I 77 (.mv) [T 12],
   I 8 (.mv) [T 77],
   I 9 (.mv) [N 0]])
 (.ret)))))))))))⟩
theorem t333 : trFn Tryz.prog Tryz.f333 = some c_kern_Kernel_fresh := by kernel_rfl
abbrev n_pte_Index : Nat := 334
def c_pte_Index : AFn := ⟨18, [.tmp 4],
 .seq (.region [I 4 (.mv) [N 0]])
 (.seq (.seq (.region [I 5 (.mv) [T 1],
   I 6 (.bin .lss) [T 5, N 0],
   I 7 (.mv) [T 6],
   IG 8 (.mv) [T 1] 7 false,
   IG 9 (.bin .geq) [T 8, N 3] 7 false,
   I 10 (.pick) [T 7, .lit (.bool true), T 9]])
 (.cond (T 10)
 (.seq (.region [I 4 (.mv) [N 0]])
  (.ret))
 (.skip)))
 (.seq (.region [I 11 (.mv) [T 0],
   I 12 (.conv .u64) [T 11],
   I 13 (.mv) [T 1],
   I 14 (.bin .mul) [N 9, T 13],
   I 15 (.bin .shr) [T 12, T 14],
   I 16 (.callv) [F 341, T 15, N 9],
   I 17 (.conv .i64) [T 16],
   I 4 (.mv) [T 17]])
 (.ret)))⟩
theorem t334 : trFn Tryz.prog Tryz.f334 = some c_pte_Index := by kernel_rfl
abbrev n_pte_Flags : Nat := 336
def c_pte_Flags : AFn := ⟨25, [.tmp 4],
 .seq (.region [I 4 (.mv) [N 0]])
 (.seq (.seq (.region [I 5 (.mv) [T 0],
   I 6 (.bin .and) [T 5, N 7],
   I 7 (.bin .eql) [T 6, N 0]])
 (.cond (T 7)
 (.seq (.region [I 4 (.mv) [N 0]])
  (.ret))
 (.skip)))
 (.seq (.region [I 8 (.build (.agg [(.bool false), (.int .i64 0)]) [(0, 1), (1, 1)]) [.lit (.bool true), N 1],
   I 9 (.mv) [T 0],
   I 10 (.bin .and) [T 9, N 3],
   I 11 (.bin .gtr) [T 10, N 0],
   I 12 (.build (.agg [(.bool false), (.int .i64 0)]) [(0, 1), (1, 1)]) [T 11, N 2],
   I 13 (.mv) [T 0],
   I 14 (.bin .and) [T 13, N 2],
   I 15 (.bin .gtr) [T 14, N 0],
   I 16 (.build (.agg [(.bool false), (.int .i64 0)]) [(0, 1), (1, 1)]) [T 15, N 4],
   I 17 (.mv) [T 0],
   I 18 (.bin .and) [T 17, N 4],
   I 19 (.bin .gtr) [T 18, N 0],
   I 20 (.build (.agg [(.bool false), (.int .i64 0)]) [(0, 1), (1, 1)]) [T 19, N 8],
   I 21 (.mv) [T 1],
   I 22 (.build (.agg [(.bool false), (.int .i64 0)]) [(0, 1), (1, 1)]) [T 21, N 16],
   I 23 (.bslice 383 2 5 (.vals [(.bool false), (.int .i64 0)]) [0, 1, 2, 3, 4]) [T 8, T 12, T 16, T 20, T 22],
   I 24 (.callv) [F 357, T 23],
   I 4 (.mv) [T 24]])
 (.ret)))⟩
theorem t336 : trFn Tryz.prog Tryz.f336 = some c_pte_Flags := by kernel_rfl
abbrev n_spread_Counts_At : Nat := 337
def c_spread_Counts_At_A0 : ACode :=
 .region [I 5 (.alloc 323 3 (.vals [(.int .i64 0), (.int .i64 0), (.int .i64 0)])) [],
   J (.store 3) [T 5, T 19]]
def c_spread_Counts_At_B0 : ACode :=
 .block 1 (.seq (.region [I 20 (.fieldAddr 2) [T 5],
   I 21 (.load1) [T 20],
   J (.store 1) [T 4, T 21]])
 (.ret))
def c_spread_Counts_At : AFn := ⟨22, [.cell 4 (.load1)],
 .seq (.region [I 4 (.alloc 3 1 (.vals [(.int .i64 0)])) []])
 (.seq (.seq (.region [I 6 (.mv) [T 1],
   I 7 (.bin .lss) [T 6, N 0],
   I 8 (.mv) [T 7],
   IG 9 (.mv) [T 1] 8 false,
   IG 10 (.mv) [T 0] 8 false,
   IG 11 (.callv) [F 346, T 10] 8 false,
   IG 12 (.bin .geq) [T 9, T 11] 8 false,
   I 13 (.pick) [T 8, .lit (.bool true), T 12]])
 (.cond (T 13)
 (.seq (.region [J (.store 1) [T 4, N (-1)]])
  (.ret))
 (.skip)))
 (.seq (.seq (.region [I 14 (.mv) [T 0],
   I 15 (.mv) [T 1],
   I 16 (.mv) [T 1],
   I 17 (.bin .add) [T 16, N 1],
   I 18 (.callv) [F 279, T 14, T 15, T 17]])
 (.block 0 (.rfun (T 18) [19] c_spread_Counts_At_A0 c_spread_Counts_At_B0)))
 (.seq (.region [J (.store 1) [T 4, N (-1)]])
 (.ret))))⟩
theorem t337 : trFn Tryz.prog Tryz.f337 = some c_spread_Counts_At := by kernel_rfl
abbrev n_phys_Memory_cell : Nat := 340
def c_phys_Memory_cell : AFn := ⟨29, [.tmp 6],
 .seq (.region [I 6 (.mv) [.lit .nilsl]])
 (.seq (.region [I 8 (.mv) [T 0],
   I 9 (.mv) [T 1],
   I 10 (.callv) [F 159, T 8, T 9],
   I 7 (.mv) [T 10]])
 (.seq (.seq (.region [I 11 (.mv) [T 7],
   I 12 (.eqv false .ptr) [T 11, .lit .nilptr],
   I 13 (.mv) [T 12],
   IG 14 (.mv) [T 2] 13 false,
   IG 15 (.bin .lss) [T 14, N 0] 13 false,
   I 16 (.pick) [T 13, .lit (.bool true), T 15],
   I 17 (.mv) [T 16],
   IG 18 (.mv) [T 2] 17 false,
   IG 19 (.bin .geq) [T 18, N 512] 17 false,
   I 20 (.pick) [T 17, .lit (.bool true), T 19]])
 (.cond (T 20)
 (.seq (.region [I 6 (.mv) [.lit .nilsl]])
  (.ret))
 (.skip)))
 (.seq (.region [I 21 (.mv) [T 7],
   I 22 (.nilCheck) [T 21],
   I 23 (.mv) [T 2],
   I 24 (.bin .mul) [N 8, T 23],
   I 25 (.mv) [T 2],
   I 26 (.bin .mul) [N 8, T 25],
   I 27 (.bin .add) [T 26, N 8],
   I 28 (.slicea 4096 1 true true false) [T 22, T 24, T 27],
   I 6 (.mv) [T 28]])
 (.ret))))⟩
theorem t340 : trFn Tryz.prog Tryz.f340 = some c_phys_Memory_cell := by kernel_rfl
abbrev n_pte_low : Nat := 341
def c_pte_low : AFn := ⟨10, [.tmp 4],
 .seq (.region [I 4 (.mv) [.lit (.int .u64 0)]])
 (.seq (.region [I 5 (.mv) [T 0],
   I 6 (.mv) [T 1],
   I 7 (.bin .shl) [.lit (.int .u64 1), T 6],
   I 8 (.bin .sub) [T 7, .lit (.int .u64 1)],
   I 9 (.bin .and) [T 5, T 8],
   I 4 (.mv) [T 9]])
 (.ret))⟩
theorem t341 : trFn Tryz.prog Tryz.f341 = some c_pte_low := by kernel_rfl
abbrev n_spread_Counts_parts_1 : Nat := 342
def c_spread_Counts_parts_1_L0 : ACode :=
 .seq (.region [I 16 (.bin .lss) [T 15, T 14]])
 (.seq (.cond (T 16)
 (.skip)
 (.exit 0))
 (.seq (.block 1 (.seq (.region [I 17 (.indexs 3) [T 13, T 15],
   I 18 (.loadn 3) [T 17],
   I 6 (.alloc 323 3 (.vals [(.int .i64 0), (.int .i64 0), (.int .i64 0)])) [],
   J (.store 3) [T 6, T 18]])
 (.seq (.draw [[⟨0, I 19 (.fieldAddr 0) [T 6], [], false⟩,
   ⟨1, I 20 (.load1) [T 19], [], false⟩,
   ⟨2, I 21 (.load1) [T 2], [], false⟩,
   ⟨3, I 22 (.max) [T 20, T 21], [], false⟩,
   ⟨4, I 23 (.fieldAddr 1) [T 6], [], false⟩,
   ⟨5, I 24 (.load1) [T 23], [], false⟩,
   ⟨6, I 25 (.load1) [T 3], [], false⟩,
   ⟨7, I 26 (.min) [T 24, T 25], [], false⟩,
   ⟨8, I 27 (.fieldAddr 0) [T 6], [], false⟩,
   ⟨9, J (.store 1) [T 27, T 22], [(6, I 25 (.load1) [T 3])], false⟩,
   ⟨10, I 28 (.fieldAddr 1) [T 6], [], false⟩,
   ⟨11, J (.store 1) [T 28, T 26], [], false⟩]])
 (.seq (.region [I 29 (.fieldAddr 0) [T 6],
   I 30 (.load1) [T 29],
   I 31 (.fieldAddr 1) [T 6],
   I 32 (.load1) [T 31],
   I 33 (.bin .lss) [T 30, T 32],
   I 34 (.mv) [T 33],
   IG 35 (.mv) [T 0] 34 true,
   IG 36 (.loadn 3) [T 6] 34 true,
   IG 37 (.callv) [T 35, T 36] 34 true,
   IG 38 (.un .not) [T 37] 34 true,
   I 39 (.pick) [T 34, T 38, .lit (.bool false)]])
 (.cond (T 39)
 (.ret)
 (.skip))))))
 (.region [I 40 (.bin .add) [T 15, N 1],
   I 15 (.mv) [T 40]])))
def c_spread_Counts_parts_1 : AFn := ⟨41, [],
 .seq (.seq (.region [I 7 (.load1) [T 1],
   I 8 (.callv) [F 278, T 7],
   I 9 (.un .not) [T 8]])
 (.cond (T 9)
 (.ret)
 (.skip)))
 (.seq (.region [I 10 (.load1) [T 1],
   I 11 (.nilCheck) [T 10],
   I 12 (.fieldAddr 0) [T 11],
   I 13 (.load1) [T 12],
   I 14 (.lens) [T 13],
   I 15 (.mv) [N 0]])
 (.block 0 (.loop c_spread_Counts_parts_1_L0)))⟩
theorem t342 : trFn Tryz.prog Tryz.f342 = some c_spread_Counts_parts_1 := by kernel_rfl
abbrev n_slices_IndexFunc_api_Run_api_Run : Nat := 343
def c_slices_IndexFunc_api_Run_api_Run_L0 : ACode :=
 .seq (.region [I 9 (.bin .lss) [T 8, T 7]])
 (.seq (.cond (T 9)
 (.skip)
 (.exit 0))
 (.seq (.block 1 (.seq (.region [I 10 (.mv) [T 8],
   I 5 (.mv) [T 10]])
 (.seq (.region [I 11 (.mv) [T 1],
   I 12 (.mv) [T 0],
   I 13 (.mv) [T 5],
   I 14 (.indexs 3) [T 12, T 13],
   I 15 (.loadn 3) [T 14],
   I 16 (.callv) [T 11, T 15]])
 (.cond (T 16)
 (.seq (.region [I 17 (.mv) [T 5],
    I 4 (.mv) [T 17]])
  (.ret))
 (.skip)))))
 (.region [I 18 (.bin .add) [T 8, N 1],
   I 8 (.mv) [T 18]])))
def c_slices_IndexFunc_api_Run_api_Run : AFn := ⟨19, [.tmp 4],
 .seq (.region [I 4 (.mv) [N 0]])
 (.seq (.seq (.region [I 6 (.mv) [T 0],
   I 7 (.lens) [T 6],
   I 8 (.mv) [N 0]])
 (.block 0 (.loop c_slices_IndexFunc_api_Run_api_Run_L0)))
 (.seq (.region [I 4 (.mv) [N (-1)]])
 (.ret)))⟩
theorem t343 : trFn Tryz.prog Tryz.f343 = some c_slices_IndexFunc_api_Run_api_Run := by kernel_rfl
abbrev n_spread_split_1 : Nat := 344
def c_spread_split_1 : AFn := ⟨14, [.tmp 3],
 .seq (.region [I 2 (.box 323 3) [T 0],
   I 3 (.mv) [.lit (.bool false)]])
 (.seq (.region [I 4 (.fieldAddr 0) [T 2],
   I 5 (.load1) [T 4],
   I 6 (.load1) [T 1],
   I 7 (.bin .lss) [T 5, T 6],
   I 8 (.mv) [T 7],
   IG 9 (.load1) [T 1] 8 true,
   IG 10 (.fieldAddr 1) [T 2] 8 true,
   IG 11 (.load1) [T 10] 8 true,
   IG 12 (.bin .lss) [T 9, T 11] 8 true,
   I 13 (.pick) [T 8, T 12, .lit (.bool false)],
   I 3 (.mv) [T 13]])
 (.ret))⟩
theorem t344 : trFn Tryz.prog Tryz.f344 = some c_spread_split_1 := by kernel_rfl
abbrev n_spread_Counts_Len : Nat := 346
def c_spread_Counts_Len : AFn := ⟨10, [.tmp 2],
 .seq (.region [I 2 (.mv) [N 0]])
 (.seq (.seq (.region [I 3 (.mv) [T 0],
   I 4 (.callv) [F 278, T 3],
   I 5 (.un .not) [T 4]])
 (.cond (T 5)
 (.seq (.region [I 2 (.mv) [N 0]])
  (.ret))
 (.skip)))
 (.seq (.region [I 6 (.mv) [T 0],
   I 7 (.nilCheck) [T 6],
   I 8 (.fieldAddr 1) [T 7],
   I 9 (.load1) [T 8],
   I 2 (.mv) [T 9]])
 (.ret)))⟩
theorem t346 : trFn Tryz.prog Tryz.f346 = some c_spread_Counts_Len := by kernel_rfl
abbrev n_pmap_Map_Remove_1 : Nat := 348
def c_pmap_Map_Remove_1 : AFn := ⟨4, [.cell 2 (.loadn 2)],
 .seq (.region [I 1 (.box 204 2) [T 0],
   I 2 (.alloc 204 2 (.vals [(.int .i64 0), (.int .i64 0)])) []])
 (.seq (.region [I 3 (.build (.agg [(.int .i64 0), (.int .i64 0)]) []) [],
   J (.store 2) [T 2, T 3]])
 (.ret))⟩
theorem t348 : trFn Tryz.prog Tryz.f348 = some c_pmap_Map_Remove_1 := by kernel_rfl
abbrev n_pmap_Map_bare : Nat := 355
def c_pmap_Map_bare_L0 : ACode :=
 .seq (.region [I 9 (.bin .lss) [T 8, N 512]])
 (.seq (.cond (T 9)
 (.skip)
 (.exit 0))
 (.seq (.block 1 (.seq (.region [I 10 (.mv) [T 8],
   I 5 (.mv) [T 10]])
 (.seq (.region [I 12 (.mv) [T 0],
   I 13 (.nilCheck) [T 12],
   I 14 (.fieldAddr 0) [T 13],
   I 15 (.load1) [T 14],
   I 16 (.mv) [T 1],
   I 17 (.mv) [T 5],
   I 18 (.callv) [F 273, T 15, T 16, T 17],
   I 11 (.mv) [T 18],
   I 19 (.extract 0) [T 11],
   I 20 (.extract 1) [T 11],
   I 6 (.mv) [T 19],
   I 7 (.mv) [T 20]])
 (.seq (.region [I 21 (.mv) [T 6],
   I 22 (.bin .neq) [T 21, .lit (.int .u64 0)]])
 (.cond (T 22)
 (.seq (.region [I 4 (.mv) [.lit (.bool false)]])
  (.ret))
 (.skip))))))
 (.region [I 23 (.bin .add) [T 8, N 1],
   I 8 (.mv) [T 23]])))
def c_pmap_Map_bare : AFn := ⟨24, [.tmp 4],
 .seq (.region [I 4 (.mv) [.lit (.bool false)]])
 (.seq (.seq (.region [I 8 (.mv) [N 0]])
 (.block 0 (.loop c_pmap_Map_bare_L0)))
 (.seq (.region [I 4 (.mv) [.lit (.bool true)]])
 (.ret)))⟩
theorem t355 : trFn Tryz.prog Tryz.f355 = some c_pmap_Map_bare := by kernel_rfl
abbrev n_pte_gather : Nat := 357
def c_pte_gather_L0 : ACode :=
 .seq (.region [I 9 (.bin .lss) [T 8, T 7]])
 (.seq (.cond (T 9)
 (.skip)
 (.exit 0))
 (.seq (.block 1 (.seq (.region [I 10 (.indexs 2) [T 6, T 8],
   I 11 (.loadn 2) [T 10],
   I 5 (.alloc 383 2 (.vals [(.bool false), (.int .i64 0)])) [],
   J (.store 2) [T 5, T 11]])
 (.seq (.region [I 12 (.fieldAddr 0) [T 5],
   I 13 (.load1) [T 12]])
 (.cond (T 13)
 (.region [I 14 (.mv) [T 3],
    I 15 (.fieldAddr 1) [T 5],
    I 16 (.load1) [T 15],
    I 17 (.bin .or) [T 14, T 16],
    I 3 (.mv) [T 17]])
 (.skip)))))
 (.region [I 18 (.bin .add) [T 8, N 1],
   I 8 (.mv) [T 18]])))
def c_pte_gather : AFn := ⟨20, [.tmp 2],
 .seq (.region [I 2 (.mv) [N 0]])
 (.seq (.region [I 3 (.mv) [N 0]])
 (.seq (.seq (.region [I 6 (.mv) [T 0],
   I 7 (.lens) [T 6],
   I 8 (.mv) [N 0]])
 (.block 0 (.loop c_pte_gather_L0)))
 (.seq (.region [I 19 (.mv) [T 3],
   I 2 (.mv) [T 19]])
 (.ret))))⟩
theorem t357 : trFn Tryz.prog Tryz.f357 = some c_pte_gather := by kernel_rfl
def tab : BT := (.node (.node (.node (.node (.node (.node (.node (.node .leaf 2 c_gosem_cut_init .leaf) 3 c_law18_KernCopies (.node .leaf 4 c_law19_LoanMany .leaf)) 5 c_law19_LoanShares (.node (.node .leaf 6 c_law20_DaemonSpares .leaf) 7 c_kern_New .leaf)) 8 c_kern_Kernel_Do (.node (.node (.node .leaf 9 c_kern_Kernel_Resident .leaf) 10 c_law18_lives (.node .leaf 15 c_law19_lives .leaf)) 20 c_daemon_New (.node (.node .leaf 21 c_daemon_Daemon_Tick .leaf) 22 c_law20_lives .leaf))) 23 c_kern_may (.node (.node (.node (.node .leaf 24 c_phys_New .leaf) 25 c_frames_New (.node .leaf 26 c_swap_New .leaf)) 27 c_slots_New (.node (.node .leaf 28 c_file_New .leaf) 29 c_anon_New .leaf)) 30 c_amap_New (.node (.node (.node .leaf 31 c_object_New .leaf) 32 c_tlb_New .leaf) 34 c_kern_Kernel_birth (.node (.node .leaf 35 c_kern_Kernel_made .leaf) 38 c_kern_Kernel_enter .leaf)))) 39 c_kern_Kernel_access (.node (.node (.node (.node (.node .leaf 44 c_phys_Memory_Frames .leaf) 45 c_frames_Pool_Get (.node .leaf 46 c_kern_Kernel_Evict .leaf)) 51 c_slices_Sorted_int (.node (.node .leaf 53 c_frames_Pool_Free .leaf) 55 c_vmap_Map_At .leaf)) 57 c_kern_Kernel_anonAt (.node (.node (.node .leaf 59 c_kern_Kernel_gone .leaf) 61 c_ring_New_int (.node .leaf 62 c_daemon_Daemon_made .leaf)) 63 c_daemon_Daemon_gather (.node (.node .leaf 64 c_daemon_Daemon_look .leaf) 65 c_kern_Kernel_Seen .leaf))) 67 c_slices_ContainsFunc_int_int (.node (.node (.node (.node .leaf 68 c_file_Store_made .leaf) 69 c_pmap_New (.node .leaf 70 c_vmap_New .leaf)) 77 c_phys_Memory_Byte (.node (.node .leaf 79 c_phys_Memory_SetByte .leaf) 80 c_vmap_Map_Map .leaf)) 82 c_kern_Kernel_reap (.node (.node (.node .leaf 83 c_kern_Kernel_allowed .leaf) 84 c_kern_Kernel_find .leaf) 86 c_vmap_Map_Entries (.node (.node .leaf 93 c_amap_Pool_Make .leaf) 96 c_kern_proc_insert .leaf))))) 103 c_frames_Pool_made (.node (.node (.node (.node (.node (.node .leaf 104 c_kern_Kernel_wired .leaf) 108 c_phys_Memory_Page (.node .leaf 109 c_kern_Kernel_leave .leaf)) 111 c_kern_Kernel_stow (.node (.node .leaf 113 c_anon_Pool_Put .leaf) 116 c_kern_Kernel_alone .leaf)) 117 c_frames_Pool_Give (.node (.node (.node .leaf 118 c_slices_Collect_int .leaf) 119 c_slices_Sort_int_int (.node .leaf 121 c_frames_Pool_Count .leaf)) 122 c_vmap_Map_made (.node (.node .leaf 123 c_entry_Find .leaf) 124 c_anon_Pool_made .leaf))) 125 c_kern_proc_at (.node (.node (.node (.node .leaf 126 c_amap_Pool_Get .leaf) 128 c_file_Store_Size (.node .leaf 130 c_slices_Concat_int_int .leaf)) 131 c_daemon_Daemon_Active (.node (.node .leaf 132 c_daemon_Daemon_Inactive .leaf) 133 c_slices_Contains_int_int .leaf)) 134 c_ring_Rows_int_Remove (.node (.node (.node .leaf 135 c_ring_Rows_int_Where .leaf) 136 c_ring_Rows_int_Push .leaf) 137 c_ring_Rows_int_First (.node (.node .leaf 138 c_daemon_Daemon_old .leaf) 139 c_daemon_Daemon_young .leaf)))) 140 c_kern_Kernel_Procs (.node (.node (.node (.node (.node .leaf 141 c_pmap_Map_All .leaf) 142 c_pmap_Map_Clear (.node .leaf 143 c_tlb_Table_Flush .leaf)) 144 c_slices_IndexFunc_int_int (.node (.node .leaf 145 c_frames_Pool_Take .leaf) 146 c_phys_Memory_Zero .leaf)) 151 c_object_Pool_Ids (.node (.node (.node .leaf 156 c_kern_Kernel_take .leaf) 158 c_phys_Memory_Fill .leaf) 159 c_phys_Memory_at (.node (.node .leaf 161 c_entry_Good .leaf) 162 c_vmap_within .leaf))) 163 c_entry_Cut (.node (.node (.node (.node .leaf 164 c_entry_Space .leaf) 165 c_entry_Insert (.node .leaf 166 c_entry_Merge .leaf)) 170 c_kern_Kernel_reach (.node (.node .leaf 171 c_kern_Kernel_fault .leaf) 172 c_slices_Clone_api_Entry_api_Entry .leaf)) 174 c_kern_Kernel_own (.node (.node (.node .leaf 178 c_pmap_Map_made .leaf) 179 c_pmap_Map_below .leaf) 180 c_pmap_Map_give (.node (.node .leaf 181 c_tlb_Table_drop .leaf) 184 c_amap_Pool_made .leaf)))))) 185 c_spread_New (.node (.node (.node (.node (.node (.node (.node .leaf 186 c_spread_Counts_Add .leaf) 187 c_slices_Index_amap_one_amap_one (.node .leaf 189 c_amap_Pool_Set .leaf)) 190 c_anon_Pool_Make (.node (.node .leaf 191 c_frames_Pool_Own .leaf) 194 c_slices_IndexFunc_kern_area_kern_area .leaf)) 196 c_slices_Insert_kern_area_kern_area (.node (.node (.node .leaf 200 c_kern_Kernel_out .leaf) 205 c_kern_Kernel_put (.node .leaf 211 c_slots_Slots_Take .leaf)) 212 c_swap_Device_Write (.node (.node .leaf 214 c_object_Pool_made .leaf) 215 c_anon_Pool_change .leaf))) 216 c_anon_Pool_Put_1 (.node (.node (.node (.node .leaf 217 c_frames_Pool_with .leaf) 220 c_frames_Pool_Give_1 (.node .leaf 221 c_slices_AppendSeq_int_int .leaf)) 222 c_slices_pdqsortOrdered_int (.node (.node .leaf 223 c_math_bits_Len .leaf) 224 c_slices_BinarySearchFunc_api_Entry_api_Entry_int .leaf)) 225 c_entry_Find_1 (.node (.node (.node .leaf 226 c_kern_proc_at_1 .leaf) 227 c_amap_Pool_Slots .leaf) 228 c_amap_Pool_of (.node (.node .leaf 229 c_swap_Device_may .leaf) 230 c_slices_Grow_int_int .leaf)))) 231 c_daemon_Daemon_line (.node (.node (.node (.node (.node .leaf 232 c_slices_Index_int_int .leaf) 233 c_slices_DeleteFunc_int_int (.node .leaf 234 c_ring_Rows_int_Remove_1 .leaf)) 235 c_ring_Rows_int_Rows (.node (.node .leaf 236 c_ring_Rows_int_enter .leaf) 237 c_ring_Rows_int_All .leaf)) 238 c_maps_Keys_map_int_kern_proc_int_kern_proc (.node (.node (.node .leaf 239 c_pmap_Map_All_1 .leaf) 240 c_walk_Leaves .leaf) 241 c_pmap_Map_change (.node (.node .leaf 242 c_pmap_Map_Clear_1 .leaf) 244 c_slices_IndexFunc_frames_Frame_frames_Frame .leaf))) 245 c_frames_Pool_Take_1 (.node (.node (.node (.node .leaf 248 c_maps_Keys_map_int_object_one_int_object_one .leaf) 251 c_entry_Clip (.node .leaf 252 c_slices_DeleteFunc_api_Entry_api_Entry .leaf)) 254 c_entry_room (.node (.node .leaf 255 c_slices_Insert_api_Entry_api_Entry .leaf) 257 c_tlb_Table_Find .leaf)) 258 c_pte_May (.node (.node (.node .leaf 259 c_walk_Walk .leaf) 260 c_pmap_Map_Root .leaf) 261 c_walk_Look (.node (.node .leaf 262 c_tlb_Table_Put .leaf) 263 c_kern_Kernel_private .leaf))))) 264 c_pmap_Map_Enter (.node (.node (.node (.node (.node (.node .leaf 266 c_kern_Kernel_begin .leaf) 267 c_amap_Pool_Cover (.node .leaf 270 c_amap_Pool_known .leaf)) 273 c_phys_Memory_Word (.node (.node .leaf 274 c_pte_Decode .leaf) 275 c_pte_Kind .leaf)) 276 c_phys_Memory_SetWord (.node (.node (.node .leaf 277 c_spread_Counts_Grow .leaf) 278 c_spread_Counts_made (.node .leaf 279 c_spread_Counts_parts .leaf)) 280 c_spread_split (.node (.node .leaf 281 c_slices_Clone_api_Run_api_Run .leaf) 282 c_spread_join .leaf))) 284 c_frames_Pool_Own_1 (.node (.node (.node (.node .leaf 290 c_pmap_Map_Remove .leaf) 293 c_slots_Slots_TakeRun (.node .leaf 294 c_swap_plan_fails .leaf)) 295 c_slots_put (.node (.node .leaf 297 c_slices_insertionSortOrdered_int .leaf) 307 c_math_bits_Len64 .leaf)) 308 c_swap_Device_made (.node (.node (.node .leaf 309 c_ring_Rows_int_is .leaf) 310 c_ring_Rows_int_All_1 .leaf) 311 c_slices_Clone_int_int (.node (.node .leaf 312 c_maps_Keys_map_int_kern_proc_int_kern_proc_1 .leaf) 313 c_walk_Leaves_1 .leaf)))) 314 c_walk_Leaves_1_1 (.node (.node (.node (.node (.node .leaf 315 c_walk_read .leaf) 316 c_walk_below (.node .leaf 317 c_pmap_Map_Find .leaf)) 318 c_walk_Place (.node (.node .leaf 319 c_pte_Encode .leaf) 320 c_pmap_Map_tidy .leaf)) 322 c_maps_Keys_map_int_object_one_int_object_one_1 (.node (.node (.node .leaf 324 c_slots_has .leaf) 325 c_slices_IndexFunc_api_Entry_api_Entry .leaf) 328 c_pte_Canonical (.node (.node .leaf 329 c_pte_Split .leaf) 330 c_tlb_Table_Put_1 .leaf))) 333 c_kern_Kernel_fresh (.node (.node (.node (.node .leaf 334 c_pte_Index .leaf) 336 c_pte_Flags (.node .leaf 337 c_spread_Counts_At .leaf)) 340 c_phys_Memory_cell (.node (.node .leaf 341 c_pte_low .leaf) 342 c_spread_Counts_parts_1 .leaf)) 343 c_slices_IndexFunc_api_Run_api_Run (.node (.node (.node .leaf 344 c_spread_split_1 .leaf) 346 c_spread_Counts_Len .leaf) 348 c_pmap_Map_Remove_1 (.node (.node .leaf 355 c_pmap_Map_bare .leaf) 357 c_pte_gather .leaf)))))))
theorem i2 : Is Tryz.prog 2 c_gosem_cut_init := ⟨Tryz.f2, Tryz.func2, t2, Tryz.call2⟩
theorem i3 : Is Tryz.prog 3 c_law18_KernCopies := ⟨Tryz.f3, Tryz.func3, t3, Tryz.call3⟩
theorem i4 : Is Tryz.prog 4 c_law19_LoanMany := ⟨Tryz.f4, Tryz.func4, t4, Tryz.call4⟩
theorem i5 : Is Tryz.prog 5 c_law19_LoanShares := ⟨Tryz.f5, Tryz.func5, t5, Tryz.call5⟩
theorem i6 : Is Tryz.prog 6 c_law20_DaemonSpares := ⟨Tryz.f6, Tryz.func6, t6, Tryz.call6⟩
theorem i7 : Is Tryz.prog 7 c_kern_New := ⟨Tryz.f7, Tryz.func7, t7, Tryz.call7⟩
theorem i8 : Is Tryz.prog 8 c_kern_Kernel_Do := ⟨Tryz.f8, Tryz.func8, t8, Tryz.call8⟩
theorem i9 : Is Tryz.prog 9 c_kern_Kernel_Resident := ⟨Tryz.f9, Tryz.func9, t9, Tryz.call9⟩
theorem i10 : Is Tryz.prog 10 c_law18_lives := ⟨Tryz.f10, Tryz.func10, t10, Tryz.call10⟩
theorem i15 : Is Tryz.prog 15 c_law19_lives := ⟨Tryz.f15, Tryz.func15, t15, Tryz.call15⟩
theorem i20 : Is Tryz.prog 20 c_daemon_New := ⟨Tryz.f20, Tryz.func20, t20, Tryz.call20⟩
theorem i21 : Is Tryz.prog 21 c_daemon_Daemon_Tick := ⟨Tryz.f21, Tryz.func21, t21, Tryz.call21⟩
theorem i22 : Is Tryz.prog 22 c_law20_lives := ⟨Tryz.f22, Tryz.func22, t22, Tryz.call22⟩
theorem i23 : Is Tryz.prog 23 c_kern_may := ⟨Tryz.f23, Tryz.func23, t23, Tryz.call23⟩
theorem i24 : Is Tryz.prog 24 c_phys_New := ⟨Tryz.f24, Tryz.func24, t24, Tryz.call24⟩
theorem i25 : Is Tryz.prog 25 c_frames_New := ⟨Tryz.f25, Tryz.func25, t25, Tryz.call25⟩
theorem i26 : Is Tryz.prog 26 c_swap_New := ⟨Tryz.f26, Tryz.func26, t26, Tryz.call26⟩
theorem i27 : Is Tryz.prog 27 c_slots_New := ⟨Tryz.f27, Tryz.func27, t27, Tryz.call27⟩
theorem i28 : Is Tryz.prog 28 c_file_New := ⟨Tryz.f28, Tryz.func28, t28, Tryz.call28⟩
theorem i29 : Is Tryz.prog 29 c_anon_New := ⟨Tryz.f29, Tryz.func29, t29, Tryz.call29⟩
theorem i30 : Is Tryz.prog 30 c_amap_New := ⟨Tryz.f30, Tryz.func30, t30, Tryz.call30⟩
theorem i31 : Is Tryz.prog 31 c_object_New := ⟨Tryz.f31, Tryz.func31, t31, Tryz.call31⟩
theorem i32 : Is Tryz.prog 32 c_tlb_New := ⟨Tryz.f32, Tryz.func32, t32, Tryz.call32⟩
theorem i34 : Is Tryz.prog 34 c_kern_Kernel_birth := ⟨Tryz.f34, Tryz.func34, t34, Tryz.call34⟩
theorem i35 : Is Tryz.prog 35 c_kern_Kernel_made := ⟨Tryz.f35, Tryz.func35, t35, Tryz.call35⟩
theorem i38 : Is Tryz.prog 38 c_kern_Kernel_enter := ⟨Tryz.f38, Tryz.func38, t38, Tryz.call38⟩
theorem i39 : Is Tryz.prog 39 c_kern_Kernel_access := ⟨Tryz.f39, Tryz.func39, t39, Tryz.call39⟩
theorem i44 : Is Tryz.prog 44 c_phys_Memory_Frames := ⟨Tryz.f44, Tryz.func44, t44, Tryz.call44⟩
theorem i45 : Is Tryz.prog 45 c_frames_Pool_Get := ⟨Tryz.f45, Tryz.func45, t45, Tryz.call45⟩
theorem i46 : Is Tryz.prog 46 c_kern_Kernel_Evict := ⟨Tryz.f46, Tryz.func46, t46, Tryz.call46⟩
theorem i51 : Is Tryz.prog 51 c_slices_Sorted_int := ⟨Tryz.f51, Tryz.func51, t51, Tryz.call51⟩
theorem i53 : Is Tryz.prog 53 c_frames_Pool_Free := ⟨Tryz.f53, Tryz.func53, t53, Tryz.call53⟩
theorem i55 : Is Tryz.prog 55 c_vmap_Map_At := ⟨Tryz.f55, Tryz.func55, t55, Tryz.call55⟩
theorem i57 : Is Tryz.prog 57 c_kern_Kernel_anonAt := ⟨Tryz.f57, Tryz.func57, t57, Tryz.call57⟩
theorem i59 : Is Tryz.prog 59 c_kern_Kernel_gone := ⟨Tryz.f59, Tryz.func59, t59, Tryz.call59⟩
theorem i61 : Is Tryz.prog 61 c_ring_New_int := ⟨Tryz.f61, Tryz.func61, t61, Tryz.call61⟩
theorem i62 : Is Tryz.prog 62 c_daemon_Daemon_made := ⟨Tryz.f62, Tryz.func62, t62, Tryz.call62⟩
theorem i63 : Is Tryz.prog 63 c_daemon_Daemon_gather := ⟨Tryz.f63, Tryz.func63, t63, Tryz.call63⟩
theorem i64 : Is Tryz.prog 64 c_daemon_Daemon_look := ⟨Tryz.f64, Tryz.func64, t64, Tryz.call64⟩
theorem i65 : Is Tryz.prog 65 c_kern_Kernel_Seen := ⟨Tryz.f65, Tryz.func65, t65, Tryz.call65⟩
theorem i67 : Is Tryz.prog 67 c_slices_ContainsFunc_int_int := ⟨Tryz.f67, Tryz.func67, t67, Tryz.call67⟩
theorem i68 : Is Tryz.prog 68 c_file_Store_made := ⟨Tryz.f68, Tryz.func68, t68, Tryz.call68⟩
theorem i69 : Is Tryz.prog 69 c_pmap_New := ⟨Tryz.f69, Tryz.func69, t69, Tryz.call69⟩
theorem i70 : Is Tryz.prog 70 c_vmap_New := ⟨Tryz.f70, Tryz.func70, t70, Tryz.call70⟩
theorem i77 : Is Tryz.prog 77 c_phys_Memory_Byte := ⟨Tryz.f77, Tryz.func77, t77, Tryz.call77⟩
theorem i79 : Is Tryz.prog 79 c_phys_Memory_SetByte := ⟨Tryz.f79, Tryz.func79, t79, Tryz.call79⟩
theorem i80 : Is Tryz.prog 80 c_vmap_Map_Map := ⟨Tryz.f80, Tryz.func80, t80, Tryz.call80⟩
theorem i82 : Is Tryz.prog 82 c_kern_Kernel_reap := ⟨Tryz.f82, Tryz.func82, t82, Tryz.call82⟩
theorem i83 : Is Tryz.prog 83 c_kern_Kernel_allowed := ⟨Tryz.f83, Tryz.func83, t83, Tryz.call83⟩
theorem i84 : Is Tryz.prog 84 c_kern_Kernel_find := ⟨Tryz.f84, Tryz.func84, t84, Tryz.call84⟩
theorem i86 : Is Tryz.prog 86 c_vmap_Map_Entries := ⟨Tryz.f86, Tryz.func86, t86, Tryz.call86⟩
theorem i93 : Is Tryz.prog 93 c_amap_Pool_Make := ⟨Tryz.f93, Tryz.func93, t93, Tryz.call93⟩
theorem i96 : Is Tryz.prog 96 c_kern_proc_insert := ⟨Tryz.f96, Tryz.func96, t96, Tryz.call96⟩
theorem i103 : Is Tryz.prog 103 c_frames_Pool_made := ⟨Tryz.f103, Tryz.func103, t103, Tryz.call103⟩
theorem i104 : Is Tryz.prog 104 c_kern_Kernel_wired := ⟨Tryz.f104, Tryz.func104, t104, Tryz.call104⟩
theorem i108 : Is Tryz.prog 108 c_phys_Memory_Page := ⟨Tryz.f108, Tryz.func108, t108, Tryz.call108⟩
theorem i109 : Is Tryz.prog 109 c_kern_Kernel_leave := ⟨Tryz.f109, Tryz.func109, t109, Tryz.call109⟩
theorem i111 : Is Tryz.prog 111 c_kern_Kernel_stow := ⟨Tryz.f111, Tryz.func111, t111, Tryz.call111⟩
theorem i113 : Is Tryz.prog 113 c_anon_Pool_Put := ⟨Tryz.f113, Tryz.func113, t113, Tryz.call113⟩
theorem i116 : Is Tryz.prog 116 c_kern_Kernel_alone := ⟨Tryz.f116, Tryz.func116, t116, Tryz.call116⟩
theorem i117 : Is Tryz.prog 117 c_frames_Pool_Give := ⟨Tryz.f117, Tryz.func117, t117, Tryz.call117⟩
theorem i118 : Is Tryz.prog 118 c_slices_Collect_int := ⟨Tryz.f118, Tryz.func118, t118, Tryz.call118⟩
theorem i119 : Is Tryz.prog 119 c_slices_Sort_int_int := ⟨Tryz.f119, Tryz.func119, t119, Tryz.call119⟩
theorem i121 : Is Tryz.prog 121 c_frames_Pool_Count := ⟨Tryz.f121, Tryz.func121, t121, Tryz.call121⟩
theorem i122 : Is Tryz.prog 122 c_vmap_Map_made := ⟨Tryz.f122, Tryz.func122, t122, Tryz.call122⟩
theorem i123 : Is Tryz.prog 123 c_entry_Find := ⟨Tryz.f123, Tryz.func123, t123, Tryz.call123⟩
theorem i124 : Is Tryz.prog 124 c_anon_Pool_made := ⟨Tryz.f124, Tryz.func124, t124, Tryz.call124⟩
theorem i125 : Is Tryz.prog 125 c_kern_proc_at := ⟨Tryz.f125, Tryz.func125, t125, Tryz.call125⟩
theorem i126 : Is Tryz.prog 126 c_amap_Pool_Get := ⟨Tryz.f126, Tryz.func126, t126, Tryz.call126⟩
theorem i128 : Is Tryz.prog 128 c_file_Store_Size := ⟨Tryz.f128, Tryz.func128, t128, Tryz.call128⟩
theorem i130 : Is Tryz.prog 130 c_slices_Concat_int_int := ⟨Tryz.f130, Tryz.func130, t130, Tryz.call130⟩
theorem i131 : Is Tryz.prog 131 c_daemon_Daemon_Active := ⟨Tryz.f131, Tryz.func131, t131, Tryz.call131⟩
theorem i132 : Is Tryz.prog 132 c_daemon_Daemon_Inactive := ⟨Tryz.f132, Tryz.func132, t132, Tryz.call132⟩
theorem i133 : Is Tryz.prog 133 c_slices_Contains_int_int := ⟨Tryz.f133, Tryz.func133, t133, Tryz.call133⟩
theorem i134 : Is Tryz.prog 134 c_ring_Rows_int_Remove := ⟨Tryz.f134, Tryz.func134, t134, Tryz.call134⟩
theorem i135 : Is Tryz.prog 135 c_ring_Rows_int_Where := ⟨Tryz.f135, Tryz.func135, t135, Tryz.call135⟩
theorem i136 : Is Tryz.prog 136 c_ring_Rows_int_Push := ⟨Tryz.f136, Tryz.func136, t136, Tryz.call136⟩
theorem i137 : Is Tryz.prog 137 c_ring_Rows_int_First := ⟨Tryz.f137, Tryz.func137, t137, Tryz.call137⟩
theorem i138 : Is Tryz.prog 138 c_daemon_Daemon_old := ⟨Tryz.f138, Tryz.func138, t138, Tryz.call138⟩
theorem i139 : Is Tryz.prog 139 c_daemon_Daemon_young := ⟨Tryz.f139, Tryz.func139, t139, Tryz.call139⟩
theorem i140 : Is Tryz.prog 140 c_kern_Kernel_Procs := ⟨Tryz.f140, Tryz.func140, t140, Tryz.call140⟩
theorem i141 : Is Tryz.prog 141 c_pmap_Map_All := ⟨Tryz.f141, Tryz.func141, t141, Tryz.call141⟩
theorem i142 : Is Tryz.prog 142 c_pmap_Map_Clear := ⟨Tryz.f142, Tryz.func142, t142, Tryz.call142⟩
theorem i143 : Is Tryz.prog 143 c_tlb_Table_Flush := ⟨Tryz.f143, Tryz.func143, t143, Tryz.call143⟩
theorem i144 : Is Tryz.prog 144 c_slices_IndexFunc_int_int := ⟨Tryz.f144, Tryz.func144, t144, Tryz.call144⟩
theorem i145 : Is Tryz.prog 145 c_frames_Pool_Take := ⟨Tryz.f145, Tryz.func145, t145, Tryz.call145⟩
theorem i146 : Is Tryz.prog 146 c_phys_Memory_Zero := ⟨Tryz.f146, Tryz.func146, t146, Tryz.call146⟩
theorem i151 : Is Tryz.prog 151 c_object_Pool_Ids := ⟨Tryz.f151, Tryz.func151, t151, Tryz.call151⟩
theorem i156 : Is Tryz.prog 156 c_kern_Kernel_take := ⟨Tryz.f156, Tryz.func156, t156, Tryz.call156⟩
theorem i158 : Is Tryz.prog 158 c_phys_Memory_Fill := ⟨Tryz.f158, Tryz.func158, t158, Tryz.call158⟩
theorem i159 : Is Tryz.prog 159 c_phys_Memory_at := ⟨Tryz.f159, Tryz.func159, t159, Tryz.call159⟩
theorem i161 : Is Tryz.prog 161 c_entry_Good := ⟨Tryz.f161, Tryz.func161, t161, Tryz.call161⟩
theorem i162 : Is Tryz.prog 162 c_vmap_within := ⟨Tryz.f162, Tryz.func162, t162, Tryz.call162⟩
theorem i163 : Is Tryz.prog 163 c_entry_Cut := ⟨Tryz.f163, Tryz.func163, t163, Tryz.call163⟩
theorem i164 : Is Tryz.prog 164 c_entry_Space := ⟨Tryz.f164, Tryz.func164, t164, Tryz.call164⟩
theorem i165 : Is Tryz.prog 165 c_entry_Insert := ⟨Tryz.f165, Tryz.func165, t165, Tryz.call165⟩
theorem i166 : Is Tryz.prog 166 c_entry_Merge := ⟨Tryz.f166, Tryz.func166, t166, Tryz.call166⟩
theorem i170 : Is Tryz.prog 170 c_kern_Kernel_reach := ⟨Tryz.f170, Tryz.func170, t170, Tryz.call170⟩
theorem i171 : Is Tryz.prog 171 c_kern_Kernel_fault := ⟨Tryz.f171, Tryz.func171, t171, Tryz.call171⟩
theorem i172 : Is Tryz.prog 172 c_slices_Clone_api_Entry_api_Entry := ⟨Tryz.f172, Tryz.func172, t172, Tryz.call172⟩
theorem i174 : Is Tryz.prog 174 c_kern_Kernel_own := ⟨Tryz.f174, Tryz.func174, t174, Tryz.call174⟩
theorem i178 : Is Tryz.prog 178 c_pmap_Map_made := ⟨Tryz.f178, Tryz.func178, t178, Tryz.call178⟩
theorem i179 : Is Tryz.prog 179 c_pmap_Map_below := ⟨Tryz.f179, Tryz.func179, t179, Tryz.call179⟩
theorem i180 : Is Tryz.prog 180 c_pmap_Map_give := ⟨Tryz.f180, Tryz.func180, t180, Tryz.call180⟩
theorem i181 : Is Tryz.prog 181 c_tlb_Table_drop := ⟨Tryz.f181, Tryz.func181, t181, Tryz.call181⟩
theorem i184 : Is Tryz.prog 184 c_amap_Pool_made := ⟨Tryz.f184, Tryz.func184, t184, Tryz.call184⟩
theorem i185 : Is Tryz.prog 185 c_spread_New := ⟨Tryz.f185, Tryz.func185, t185, Tryz.call185⟩
theorem i186 : Is Tryz.prog 186 c_spread_Counts_Add := ⟨Tryz.f186, Tryz.func186, t186, Tryz.call186⟩
theorem i187 : Is Tryz.prog 187 c_slices_Index_amap_one_amap_one := ⟨Tryz.f187, Tryz.func187, t187, Tryz.call187⟩
theorem i189 : Is Tryz.prog 189 c_amap_Pool_Set := ⟨Tryz.f189, Tryz.func189, t189, Tryz.call189⟩
theorem i190 : Is Tryz.prog 190 c_anon_Pool_Make := ⟨Tryz.f190, Tryz.func190, t190, Tryz.call190⟩
theorem i191 : Is Tryz.prog 191 c_frames_Pool_Own := ⟨Tryz.f191, Tryz.func191, t191, Tryz.call191⟩
theorem i194 : Is Tryz.prog 194 c_slices_IndexFunc_kern_area_kern_area := ⟨Tryz.f194, Tryz.func194, t194, Tryz.call194⟩
theorem i196 : Is Tryz.prog 196 c_slices_Insert_kern_area_kern_area := ⟨Tryz.f196, Tryz.func196, t196, Tryz.call196⟩
theorem i200 : Is Tryz.prog 200 c_kern_Kernel_out := ⟨Tryz.f200, Tryz.func200, t200, Tryz.call200⟩
theorem i205 : Is Tryz.prog 205 c_kern_Kernel_put := ⟨Tryz.f205, Tryz.func205, t205, Tryz.call205⟩
theorem i211 : Is Tryz.prog 211 c_slots_Slots_Take := ⟨Tryz.f211, Tryz.func211, t211, Tryz.call211⟩
theorem i212 : Is Tryz.prog 212 c_swap_Device_Write := ⟨Tryz.f212, Tryz.func212, t212, Tryz.call212⟩
theorem i214 : Is Tryz.prog 214 c_object_Pool_made := ⟨Tryz.f214, Tryz.func214, t214, Tryz.call214⟩
theorem i215 : Is Tryz.prog 215 c_anon_Pool_change := ⟨Tryz.f215, Tryz.func215, t215, Tryz.call215⟩
theorem i216 : Is Tryz.prog 216 c_anon_Pool_Put_1 := ⟨Tryz.f216, Tryz.func216, t216, Tryz.call216⟩
theorem i217 : Is Tryz.prog 217 c_frames_Pool_with := ⟨Tryz.f217, Tryz.func217, t217, Tryz.call217⟩
theorem i220 : Is Tryz.prog 220 c_frames_Pool_Give_1 := ⟨Tryz.f220, Tryz.func220, t220, Tryz.call220⟩
theorem i221 : Is Tryz.prog 221 c_slices_AppendSeq_int_int := ⟨Tryz.f221, Tryz.func221, t221, Tryz.call221⟩
theorem i222 : Is Tryz.prog 222 c_slices_pdqsortOrdered_int := ⟨Tryz.f222, Tryz.func222, t222, Tryz.call222⟩
theorem i223 : Is Tryz.prog 223 c_math_bits_Len := ⟨Tryz.f223, Tryz.func223, t223, Tryz.call223⟩
theorem i224 : Is Tryz.prog 224 c_slices_BinarySearchFunc_api_Entry_api_Entry_int := ⟨Tryz.f224, Tryz.func224, t224, Tryz.call224⟩
theorem i225 : Is Tryz.prog 225 c_entry_Find_1 := ⟨Tryz.f225, Tryz.func225, t225, Tryz.call225⟩
theorem i226 : Is Tryz.prog 226 c_kern_proc_at_1 := ⟨Tryz.f226, Tryz.func226, t226, Tryz.call226⟩
theorem i227 : Is Tryz.prog 227 c_amap_Pool_Slots := ⟨Tryz.f227, Tryz.func227, t227, Tryz.call227⟩
theorem i228 : Is Tryz.prog 228 c_amap_Pool_of := ⟨Tryz.f228, Tryz.func228, t228, Tryz.call228⟩
theorem i229 : Is Tryz.prog 229 c_swap_Device_may := ⟨Tryz.f229, Tryz.func229, t229, Tryz.call229⟩
theorem i230 : Is Tryz.prog 230 c_slices_Grow_int_int := ⟨Tryz.f230, Tryz.func230, t230, Tryz.call230⟩
theorem i231 : Is Tryz.prog 231 c_daemon_Daemon_line := ⟨Tryz.f231, Tryz.func231, t231, Tryz.call231⟩
theorem i232 : Is Tryz.prog 232 c_slices_Index_int_int := ⟨Tryz.f232, Tryz.func232, t232, Tryz.call232⟩
theorem i233 : Is Tryz.prog 233 c_slices_DeleteFunc_int_int := ⟨Tryz.f233, Tryz.func233, t233, Tryz.call233⟩
theorem i234 : Is Tryz.prog 234 c_ring_Rows_int_Remove_1 := ⟨Tryz.f234, Tryz.func234, t234, Tryz.call234⟩
theorem i235 : Is Tryz.prog 235 c_ring_Rows_int_Rows := ⟨Tryz.f235, Tryz.func235, t235, Tryz.call235⟩
theorem i236 : Is Tryz.prog 236 c_ring_Rows_int_enter := ⟨Tryz.f236, Tryz.func236, t236, Tryz.call236⟩
theorem i237 : Is Tryz.prog 237 c_ring_Rows_int_All := ⟨Tryz.f237, Tryz.func237, t237, Tryz.call237⟩
theorem i238 : Is Tryz.prog 238 c_maps_Keys_map_int_kern_proc_int_kern_proc := ⟨Tryz.f238, Tryz.func238, t238, Tryz.call238⟩
theorem i239 : Is Tryz.prog 239 c_pmap_Map_All_1 := ⟨Tryz.f239, Tryz.func239, t239, Tryz.call239⟩
theorem i240 : Is Tryz.prog 240 c_walk_Leaves := ⟨Tryz.f240, Tryz.func240, t240, Tryz.call240⟩
theorem i241 : Is Tryz.prog 241 c_pmap_Map_change := ⟨Tryz.f241, Tryz.func241, t241, Tryz.call241⟩
theorem i242 : Is Tryz.prog 242 c_pmap_Map_Clear_1 := ⟨Tryz.f242, Tryz.func242, t242, Tryz.call242⟩
theorem i244 : Is Tryz.prog 244 c_slices_IndexFunc_frames_Frame_frames_Frame := ⟨Tryz.f244, Tryz.func244, t244, Tryz.call244⟩
theorem i245 : Is Tryz.prog 245 c_frames_Pool_Take_1 := ⟨Tryz.f245, Tryz.func245, t245, Tryz.call245⟩
theorem i248 : Is Tryz.prog 248 c_maps_Keys_map_int_object_one_int_object_one := ⟨Tryz.f248, Tryz.func248, t248, Tryz.call248⟩
theorem i251 : Is Tryz.prog 251 c_entry_Clip := ⟨Tryz.f251, Tryz.func251, t251, Tryz.call251⟩
theorem i252 : Is Tryz.prog 252 c_slices_DeleteFunc_api_Entry_api_Entry := ⟨Tryz.f252, Tryz.func252, t252, Tryz.call252⟩
theorem i254 : Is Tryz.prog 254 c_entry_room := ⟨Tryz.f254, Tryz.func254, t254, Tryz.call254⟩
theorem i255 : Is Tryz.prog 255 c_slices_Insert_api_Entry_api_Entry := ⟨Tryz.f255, Tryz.func255, t255, Tryz.call255⟩
theorem i257 : Is Tryz.prog 257 c_tlb_Table_Find := ⟨Tryz.f257, Tryz.func257, t257, Tryz.call257⟩
theorem i258 : Is Tryz.prog 258 c_pte_May := ⟨Tryz.f258, Tryz.func258, t258, Tryz.call258⟩
theorem i259 : Is Tryz.prog 259 c_walk_Walk := ⟨Tryz.f259, Tryz.func259, t259, Tryz.call259⟩
theorem i260 : Is Tryz.prog 260 c_pmap_Map_Root := ⟨Tryz.f260, Tryz.func260, t260, Tryz.call260⟩
theorem i261 : Is Tryz.prog 261 c_walk_Look := ⟨Tryz.f261, Tryz.func261, t261, Tryz.call261⟩
theorem i262 : Is Tryz.prog 262 c_tlb_Table_Put := ⟨Tryz.f262, Tryz.func262, t262, Tryz.call262⟩
theorem i263 : Is Tryz.prog 263 c_kern_Kernel_private := ⟨Tryz.f263, Tryz.func263, t263, Tryz.call263⟩
theorem i264 : Is Tryz.prog 264 c_pmap_Map_Enter := ⟨Tryz.f264, Tryz.func264, t264, Tryz.call264⟩
theorem i266 : Is Tryz.prog 266 c_kern_Kernel_begin := ⟨Tryz.f266, Tryz.func266, t266, Tryz.call266⟩
theorem i267 : Is Tryz.prog 267 c_amap_Pool_Cover := ⟨Tryz.f267, Tryz.func267, t267, Tryz.call267⟩
theorem i270 : Is Tryz.prog 270 c_amap_Pool_known := ⟨Tryz.f270, Tryz.func270, t270, Tryz.call270⟩
theorem i273 : Is Tryz.prog 273 c_phys_Memory_Word := ⟨Tryz.f273, Tryz.func273, t273, Tryz.call273⟩
theorem i274 : Is Tryz.prog 274 c_pte_Decode := ⟨Tryz.f274, Tryz.func274, t274, Tryz.call274⟩
theorem i275 : Is Tryz.prog 275 c_pte_Kind := ⟨Tryz.f275, Tryz.func275, t275, Tryz.call275⟩
theorem i276 : Is Tryz.prog 276 c_phys_Memory_SetWord := ⟨Tryz.f276, Tryz.func276, t276, Tryz.call276⟩
theorem i277 : Is Tryz.prog 277 c_spread_Counts_Grow := ⟨Tryz.f277, Tryz.func277, t277, Tryz.call277⟩
theorem i278 : Is Tryz.prog 278 c_spread_Counts_made := ⟨Tryz.f278, Tryz.func278, t278, Tryz.call278⟩
theorem i279 : Is Tryz.prog 279 c_spread_Counts_parts := ⟨Tryz.f279, Tryz.func279, t279, Tryz.call279⟩
theorem i280 : Is Tryz.prog 280 c_spread_split := ⟨Tryz.f280, Tryz.func280, t280, Tryz.call280⟩
theorem i281 : Is Tryz.prog 281 c_slices_Clone_api_Run_api_Run := ⟨Tryz.f281, Tryz.func281, t281, Tryz.call281⟩
theorem i282 : Is Tryz.prog 282 c_spread_join := ⟨Tryz.f282, Tryz.func282, t282, Tryz.call282⟩
theorem i284 : Is Tryz.prog 284 c_frames_Pool_Own_1 := ⟨Tryz.f284, Tryz.func284, t284, Tryz.call284⟩
theorem i290 : Is Tryz.prog 290 c_pmap_Map_Remove := ⟨Tryz.f290, Tryz.func290, t290, Tryz.call290⟩
theorem i293 : Is Tryz.prog 293 c_slots_Slots_TakeRun := ⟨Tryz.f293, Tryz.func293, t293, Tryz.call293⟩
theorem i294 : Is Tryz.prog 294 c_swap_plan_fails := ⟨Tryz.f294, Tryz.func294, t294, Tryz.call294⟩
theorem i295 : Is Tryz.prog 295 c_slots_put := ⟨Tryz.f295, Tryz.func295, t295, Tryz.call295⟩
theorem i297 : Is Tryz.prog 297 c_slices_insertionSortOrdered_int := ⟨Tryz.f297, Tryz.func297, t297, Tryz.call297⟩
theorem i307 : Is Tryz.prog 307 c_math_bits_Len64 := ⟨Tryz.f307, Tryz.func307, t307, Tryz.call307⟩
theorem i308 : Is Tryz.prog 308 c_swap_Device_made := ⟨Tryz.f308, Tryz.func308, t308, Tryz.call308⟩
theorem i309 : Is Tryz.prog 309 c_ring_Rows_int_is := ⟨Tryz.f309, Tryz.func309, t309, Tryz.call309⟩
theorem i310 : Is Tryz.prog 310 c_ring_Rows_int_All_1 := ⟨Tryz.f310, Tryz.func310, t310, Tryz.call310⟩
theorem i311 : Is Tryz.prog 311 c_slices_Clone_int_int := ⟨Tryz.f311, Tryz.func311, t311, Tryz.call311⟩
theorem i312 : Is Tryz.prog 312 c_maps_Keys_map_int_kern_proc_int_kern_proc_1 := ⟨Tryz.f312, Tryz.func312, t312, Tryz.call312⟩
theorem i313 : Is Tryz.prog 313 c_walk_Leaves_1 := ⟨Tryz.f313, Tryz.func313, t313, Tryz.call313⟩
theorem i314 : Is Tryz.prog 314 c_walk_Leaves_1_1 := ⟨Tryz.f314, Tryz.func314, t314, Tryz.call314⟩
theorem i315 : Is Tryz.prog 315 c_walk_read := ⟨Tryz.f315, Tryz.func315, t315, Tryz.call315⟩
theorem i316 : Is Tryz.prog 316 c_walk_below := ⟨Tryz.f316, Tryz.func316, t316, Tryz.call316⟩
theorem i317 : Is Tryz.prog 317 c_pmap_Map_Find := ⟨Tryz.f317, Tryz.func317, t317, Tryz.call317⟩
theorem i318 : Is Tryz.prog 318 c_walk_Place := ⟨Tryz.f318, Tryz.func318, t318, Tryz.call318⟩
theorem i319 : Is Tryz.prog 319 c_pte_Encode := ⟨Tryz.f319, Tryz.func319, t319, Tryz.call319⟩
theorem i320 : Is Tryz.prog 320 c_pmap_Map_tidy := ⟨Tryz.f320, Tryz.func320, t320, Tryz.call320⟩
theorem i322 : Is Tryz.prog 322 c_maps_Keys_map_int_object_one_int_object_one_1 := ⟨Tryz.f322, Tryz.func322, t322, Tryz.call322⟩
theorem i324 : Is Tryz.prog 324 c_slots_has := ⟨Tryz.f324, Tryz.func324, t324, Tryz.call324⟩
theorem i325 : Is Tryz.prog 325 c_slices_IndexFunc_api_Entry_api_Entry := ⟨Tryz.f325, Tryz.func325, t325, Tryz.call325⟩
theorem i328 : Is Tryz.prog 328 c_pte_Canonical := ⟨Tryz.f328, Tryz.func328, t328, Tryz.call328⟩
theorem i329 : Is Tryz.prog 329 c_pte_Split := ⟨Tryz.f329, Tryz.func329, t329, Tryz.call329⟩
theorem i330 : Is Tryz.prog 330 c_tlb_Table_Put_1 := ⟨Tryz.f330, Tryz.func330, t330, Tryz.call330⟩
theorem i333 : Is Tryz.prog 333 c_kern_Kernel_fresh := ⟨Tryz.f333, Tryz.func333, t333, Tryz.call333⟩
theorem i334 : Is Tryz.prog 334 c_pte_Index := ⟨Tryz.f334, Tryz.func334, t334, Tryz.call334⟩
theorem i336 : Is Tryz.prog 336 c_pte_Flags := ⟨Tryz.f336, Tryz.func336, t336, Tryz.call336⟩
theorem i337 : Is Tryz.prog 337 c_spread_Counts_At := ⟨Tryz.f337, Tryz.func337, t337, Tryz.call337⟩
theorem i340 : Is Tryz.prog 340 c_phys_Memory_cell := ⟨Tryz.f340, Tryz.func340, t340, Tryz.call340⟩
theorem i341 : Is Tryz.prog 341 c_pte_low := ⟨Tryz.f341, Tryz.func341, t341, Tryz.call341⟩
theorem i342 : Is Tryz.prog 342 c_spread_Counts_parts_1 := ⟨Tryz.f342, Tryz.func342, t342, Tryz.call342⟩
theorem i343 : Is Tryz.prog 343 c_slices_IndexFunc_api_Run_api_Run := ⟨Tryz.f343, Tryz.func343, t343, Tryz.call343⟩
theorem i344 : Is Tryz.prog 344 c_spread_split_1 := ⟨Tryz.f344, Tryz.func344, t344, Tryz.call344⟩
theorem i346 : Is Tryz.prog 346 c_spread_Counts_Len := ⟨Tryz.f346, Tryz.func346, t346, Tryz.call346⟩
theorem i348 : Is Tryz.prog 348 c_pmap_Map_Remove_1 := ⟨Tryz.f348, Tryz.func348, t348, Tryz.call348⟩
theorem i355 : Is Tryz.prog 355 c_pmap_Map_bare := ⟨Tryz.f355, Tryz.func355, t355, Tryz.call355⟩
theorem i357 : Is Tryz.prog 357 c_pte_gather := ⟨Tryz.f357, Tryz.func357, t357, Tryz.call357⟩
theorem tabSound : AllB (Is Tryz.prog) tab := ⟨⟨⟨⟨⟨⟨⟨⟨trivial, i2, trivial⟩, i3, ⟨trivial, i4, trivial⟩⟩, i5, ⟨⟨trivial, i6, trivial⟩, i7, trivial⟩⟩, i8, ⟨⟨⟨trivial, i9, trivial⟩, i10, ⟨trivial, i15, trivial⟩⟩, i20, ⟨⟨trivial, i21, trivial⟩, i22, trivial⟩⟩⟩, i23, ⟨⟨⟨⟨trivial, i24, trivial⟩, i25, ⟨trivial, i26, trivial⟩⟩, i27, ⟨⟨trivial, i28, trivial⟩, i29, trivial⟩⟩, i30, ⟨⟨⟨trivial, i31, trivial⟩, i32, trivial⟩, i34, ⟨⟨trivial, i35, trivial⟩, i38, trivial⟩⟩⟩⟩, i39, ⟨⟨⟨⟨⟨trivial, i44, trivial⟩, i45, ⟨trivial, i46, trivial⟩⟩, i51, ⟨⟨trivial, i53, trivial⟩, i55, trivial⟩⟩, i57, ⟨⟨⟨trivial, i59, trivial⟩, i61, ⟨trivial, i62, trivial⟩⟩, i63, ⟨⟨trivial, i64, trivial⟩, i65, trivial⟩⟩⟩, i67, ⟨⟨⟨⟨trivial, i68, trivial⟩, i69, ⟨trivial, i70, trivial⟩⟩, i77, ⟨⟨trivial, i79, trivial⟩, i80, trivial⟩⟩, i82, ⟨⟨⟨trivial, i83, trivial⟩, i84, trivial⟩, i86, ⟨⟨trivial, i93, trivial⟩, i96, trivial⟩⟩⟩⟩⟩, i103, ⟨⟨⟨⟨⟨⟨trivial, i104, trivial⟩, i108, ⟨trivial, i109, trivial⟩⟩, i111, ⟨⟨trivial, i113, trivial⟩, i116, trivial⟩⟩, i117, ⟨⟨⟨trivial, i118, trivial⟩, i119, ⟨trivial, i121, trivial⟩⟩, i122, ⟨⟨trivial, i123, trivial⟩, i124, trivial⟩⟩⟩, i125, ⟨⟨⟨⟨trivial, i126, trivial⟩, i128, ⟨trivial, i130, trivial⟩⟩, i131, ⟨⟨trivial, i132, trivial⟩, i133, trivial⟩⟩, i134, ⟨⟨⟨trivial, i135, trivial⟩, i136, trivial⟩, i137, ⟨⟨trivial, i138, trivial⟩, i139, trivial⟩⟩⟩⟩, i140, ⟨⟨⟨⟨⟨trivial, i141, trivial⟩, i142, ⟨trivial, i143, trivial⟩⟩, i144, ⟨⟨trivial, i145, trivial⟩, i146, trivial⟩⟩, i151, ⟨⟨⟨trivial, i156, trivial⟩, i158, trivial⟩, i159, ⟨⟨trivial, i161, trivial⟩, i162, trivial⟩⟩⟩, i163, ⟨⟨⟨⟨trivial, i164, trivial⟩, i165, ⟨trivial, i166, trivial⟩⟩, i170, ⟨⟨trivial, i171, trivial⟩, i172, trivial⟩⟩, i174, ⟨⟨⟨trivial, i178, trivial⟩, i179, trivial⟩, i180, ⟨⟨trivial, i181, trivial⟩, i184, trivial⟩⟩⟩⟩⟩⟩, i185, ⟨⟨⟨⟨⟨⟨⟨trivial, i186, trivial⟩, i187, ⟨trivial, i189, trivial⟩⟩, i190, ⟨⟨trivial, i191, trivial⟩, i194, trivial⟩⟩, i196, ⟨⟨⟨trivial, i200, trivial⟩, i205, ⟨trivial, i211, trivial⟩⟩, i212, ⟨⟨trivial, i214, trivial⟩, i215, trivial⟩⟩⟩, i216, ⟨⟨⟨⟨trivial, i217, trivial⟩, i220, ⟨trivial, i221, trivial⟩⟩, i222, ⟨⟨trivial, i223, trivial⟩, i224, trivial⟩⟩, i225, ⟨⟨⟨trivial, i226, trivial⟩, i227, trivial⟩, i228, ⟨⟨trivial, i229, trivial⟩, i230, trivial⟩⟩⟩⟩, i231, ⟨⟨⟨⟨⟨trivial, i232, trivial⟩, i233, ⟨trivial, i234, trivial⟩⟩, i235, ⟨⟨trivial, i236, trivial⟩, i237, trivial⟩⟩, i238, ⟨⟨⟨trivial, i239, trivial⟩, i240, trivial⟩, i241, ⟨⟨trivial, i242, trivial⟩, i244, trivial⟩⟩⟩, i245, ⟨⟨⟨⟨trivial, i248, trivial⟩, i251, ⟨trivial, i252, trivial⟩⟩, i254, ⟨⟨trivial, i255, trivial⟩, i257, trivial⟩⟩, i258, ⟨⟨⟨trivial, i259, trivial⟩, i260, trivial⟩, i261, ⟨⟨trivial, i262, trivial⟩, i263, trivial⟩⟩⟩⟩⟩, i264, ⟨⟨⟨⟨⟨⟨trivial, i266, trivial⟩, i267, ⟨trivial, i270, trivial⟩⟩, i273, ⟨⟨trivial, i274, trivial⟩, i275, trivial⟩⟩, i276, ⟨⟨⟨trivial, i277, trivial⟩, i278, ⟨trivial, i279, trivial⟩⟩, i280, ⟨⟨trivial, i281, trivial⟩, i282, trivial⟩⟩⟩, i284, ⟨⟨⟨⟨trivial, i290, trivial⟩, i293, ⟨trivial, i294, trivial⟩⟩, i295, ⟨⟨trivial, i297, trivial⟩, i307, trivial⟩⟩, i308, ⟨⟨⟨trivial, i309, trivial⟩, i310, trivial⟩, i311, ⟨⟨trivial, i312, trivial⟩, i313, trivial⟩⟩⟩⟩, i314, ⟨⟨⟨⟨⟨trivial, i315, trivial⟩, i316, ⟨trivial, i317, trivial⟩⟩, i318, ⟨⟨trivial, i319, trivial⟩, i320, trivial⟩⟩, i322, ⟨⟨⟨trivial, i324, trivial⟩, i325, trivial⟩, i328, ⟨⟨trivial, i329, trivial⟩, i330, trivial⟩⟩⟩, i333, ⟨⟨⟨⟨trivial, i334, trivial⟩, i336, ⟨trivial, i337, trivial⟩⟩, i340, ⟨⟨trivial, i341, trivial⟩, i342, trivial⟩⟩, i343, ⟨⟨⟨trivial, i344, trivial⟩, i346, trivial⟩, i348, ⟨⟨trivial, i355, trivial⟩, i357, trivial⟩⟩⟩⟩⟩⟩⟩
end Go.Proofs.YtlkfclgkinaibaaGreat

namespace Go.Proofs.YtlkfclgkinaibaaGreat
abbrev isLives (n : Nat) : Bool := Nat.beq n n_law18_lives || Nat.beq n n_law19_lives || Nat.beq n n_law20_lives || Nat.beq n n_slices_Sorted_int
end Go.Proofs.YtlkfclgkinaibaaGreat

namespace Go.Proofs.YtlkfclgkinaibaaGreat
def SlIs (v : AV) (e es k : Nat) (d : Dat) (w : Bool) (cs : List Chunk) : Prop :=
  (v = .nilsl ∧ k = 0 ∧ d.len = 0 ∧ cs = []) ∨ (v = .esl ∧ k = 0 ∧ d.len = 0 ∧ cs = [] ∧ w = false) ∨
  (∃ id off cap D e' es' sf, v = .sl id off k cap ∧ cs = [.pt id (.row e' es' sf (!w) D)] ∧ D.take off (k * es) = some d ∧ k ≤ cap ∧ (w = true → off + cap * es ≤ D.len)) ∨
  (∃ id idx D, v = .ssl id idx es k ∧ cs = [.pt id (.row e es true false D)] ∧ D.take (idx * es) (k * es) = some d ∧ w = true ∧ (idx + k) * es = D.len)
theorem wrap_id {k : IntKind} {n : Int} (h1 : k.min ≤ n) (h2 : n ≤ k.max) : k.wrap n = n := by
  cases k <;> simp only [IntKind.min, IntKind.max, IntKind.signed, IntKind.bits, IntKind.wrap] at * <;> (simp at h1 h2 ⊢) <;> (try split) <;> omega
theorem wrap64 {n : Int} (h1 : -9223372036854775808 ≤ n) (h2 : n ≤ 9223372036854775807) : IntKind.i64.wrap n = n := wrap_id h1 h2
theorem d_add {a b : Int} {h : AHeap} (h1 : -9223372036854775808 ≤ a + b) (h2 : a + b ≤ 9223372036854775807) : Does (.bin .add) [.int .i64 a, .int .i64 b] h (.int .i64 (a + b)) h := ⟨rfl, by
  simp only [aop, binInt, ne_eq, not_true, if_false, Option.map_some, wrap64 h1 h2]⟩
theorem d_sub {a b : Int} {h : AHeap} (h1 : -9223372036854775808 ≤ a - b) (h2 : a - b ≤ 9223372036854775807) : Does (.bin .sub) [.int .i64 a, .int .i64 b] h (.int .i64 (a - b)) h := ⟨rfl, by
  simp only [aop, binInt, ne_eq, not_true, if_false, Option.map_some, wrap64 h1 h2]⟩
abbrev SlC (v : AV) (e es k : Nat) (d : Dat) (w : Bool) : Chunk := pk 10 v (SlIs v e es k d w)
section
variable {h : AHeap} {L R : List Chunk} {v : AV} {e es k : Nat} {d : Dat} {w : Bool}
theorem SlIs.len {cs : List Chunk} (x : SlIs v e es k d w cs) : sliceLen v = some k := by
  rcases x with ⟨rfl, rfl, _⟩ | ⟨rfl, rfl, _⟩ | ⟨id, off, cap, D, e', es', sf, rfl, _⟩ | ⟨id, idx, D, rfl, _⟩ <;> rfl
theorem SlIs.nj {cs : List Chunk} (x : SlIs v e es k d w cs) : v.notJunk = some v := by
  rcases x with ⟨rfl, _⟩ | ⟨rfl, _⟩ | ⟨id, off, cap, D, e', es', sf, rfl, _⟩ | ⟨id, idx, D, rfl, _⟩ <;> rfl
theorem d_lens {k : Nat} {v : AV} (hk : sliceLen v = some k) : Does .lens [v] h (.int .i64 k) h := ⟨rfl, by simp only [aop, hk]; rfl⟩
theorem St.slice {id n cap e' es' : Nat} {sf : Bool} {D : Dat} (st : St h (.pt id (.row e' es' sf false D) :: L)) (h1 : D.take 0 (n * es) = some d) (h2 : n ≤ cap) (h3 : cap * es ≤ D.len) : St h (SlC (.sl id 0 n cap) e es n d true :: L) :=
  St.pack (cs := [.pt id (.row e' es' sf false D)]) st (.inr (.inr (.inl ⟨id, 0, cap, D, e', es', sf, rfl, rfl, h1, h2, fun _ => by omega⟩)))
end
end Go.Proofs.YtlkfclgkinaibaaGreat
