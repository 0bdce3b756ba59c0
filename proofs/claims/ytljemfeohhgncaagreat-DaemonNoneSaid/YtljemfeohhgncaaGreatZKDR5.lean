/- BY PROGRAM (wip/tool/shake.py): own texts, one behind the other, without what is not needed. -/
import Derived.Control
import Derived.Calls
import Derived.KernelRfl
import Derived.Laws.Sem
import Derived.Laws.Cells
import Derived.Laws.World
import GoSem.Dispatch
import Derived.Laws.StructEq
import Derived.IntWalk
import Derived.WideKeyRuns
import Derived.Laws.BytesArg
import Derived.Orders
import Derived.ChangeArms
import Derived.OpenShut
import Derived.ChangeShapes
import Derived.ProofKit
import Derived.Test.YtljemfeohhgncaaGreatProg
import Derived.Test.YtljemfeohhgncaaGreatZKDR4

namespace Go.Proofs.YtljemfeohhgncaaGreat
/-- live: [0, 1, 2, 3, 8, 9] -/
def c_slices_pdqsortOrdered_int_L0 : ACode :=
 .block 1 (.seq (.region [I 19 (.mv) [T 2],
   I 20 (.mv) [T 1],
   I 21 (.bin .sub) [T 19, T 20],
   I 10 (.mv) [T 21]])
 (.seq (.seq (.region [I 22 (.mv) [T 10],
   I 23 (.bin .leq) [T 22, N 12]])
 (.cond (T 23)
 (.seq (.region [I 24 (.mv) [T 0],
    I 25 (.mv) [T 1],
    I 26 (.mv) [T 2],
    I 27 (.callv) [F 298, T 24, T 25, T 26]])
  (.ret))
 (.skip)))
 (.seq (.seq (.region [I 28 (.mv) [T 3],
   I 29 (.bin .eql) [T 28, N 0]])
 (.cond (T 29)
 (.seq (.region [I 30 (.mv) [T 0],
    I 31 (.mv) [T 1],
    I 32 (.mv) [T 2],
    I 33 (.callv) [F 299, T 30, T 31, T 32]])
  (.ret))
 (.skip)))
 (.seq (.seq (.region [I 34 (.mv) [T 8],
   I 35 (.un .not) [T 34]])
 (.cond (T 35)
 (.seq (.region [I 36 (.mv) [T 0],
    I 37 (.mv) [T 1],
    I 38 (.mv) [T 2],
    I 39 (.callv) [F 300, T 36, T 37, T 38]])
  (.region [I 40 (.mv) [T 3],
    I 41 (.bin .sub) [T 40, N 1],
    I 3 (.mv) [T 41]]))
 (.skip)))
 (.seq (.region [I 43 (.mv) [T 0],
   I 44 (.mv) [T 1],
   I 45 (.mv) [T 2],
   I 46 (.callv) [F 301, T 43, T 44, T 45],
   I 42 (.mv) [T 46],
   I 47 (.extract 0) [T 42],
   I 48 (.extract 1) [T 42],
   I 11 (.mv) [T 47],
   I 12 (.mv) [T 48]])
 (.seq (.seq (.region [I 49 (.mv) [T 12],
   I 50 (.bin .eql) [T 49, N 2]])
 (.cond (T 50)
 (.seq (.region [I 51 (.mv) [T 0],
    I 52 (.mv) [T 1],
    I 53 (.mv) [T 2],
    I 54 (.callv) [F 302, T 51, T 52, T 53]])
  (.seq (.region [I 55 (.mv) [T 2],
    I 56 (.bin .sub) [T 55, N 1],
    I 57 (.mv) [T 11],
    I 58 (.mv) [T 1],
    I 59 (.bin .sub) [T 57, T 58],
    I 60 (.bin .sub) [T 56, T 59],
    I 11 (.mv) [T 60]])
  (.region [I 12 (.mv) [N 1]])))
 (.skip)))
 (.seq (.seq (.region [I 61 (.mv) [T 8],
   I 62 (.mv) [T 61],
   IG 63 (.mv) [T 9] 62 true,
   I 64 (.pick) [T 62, T 63, .lit (.bool false)],
   I 65 (.mv) [T 64],
   IG 66 (.mv) [T 12] 65 true,
   IG 67 (.bin .eql) [T 66, N 1] 65 true,
   I 68 (.pick) [T 65, T 67, .lit (.bool false)]])
 (.cond (T 68)
 (.seq (.region [I 69 (.mv) [T 0],
    I 70 (.mv) [T 1],
    I 71 (.mv) [T 2],
    I 72 (.callv) [F 303, T 69, T 70, T 71]])
  (.cond (T 72)
  (.ret)
  (.skip)))
 (.skip)))
 (.seq (.seq (.draw [[⟨0, I 73 (.mv) [T 1], [], false⟩,
   ⟨1, I 74 (.bin .gtr) [T 73, N 0], [], false⟩,
   ⟨2, I 75 (.mv) [T 74], [], false⟩,
   ⟨3, IG 76 (.mv) [T 0] 75 true, [], false⟩,
   ⟨4, IG 77 (.mv) [T 1] 75 true, [], false⟩,
   ⟨5, IG 78 (.bin .sub) [T 77, N 1] 75 true, [], false⟩,
   ⟨6, IG 79 (.indexs 1) [T 76, T 78] 75 true, [], false⟩,
   ⟨7, IG 80 (.load1) [T 79] 75 true, [], false⟩,
   ⟨8, IG 81 (.mv) [T 0] 75 true, [], false⟩,
   ⟨9, IG 82 (.mv) [T 11] 75 true, [], false⟩,
   ⟨10, IG 83 (.indexs 1) [T 81, T 82] 75 true, [], false⟩,
   ⟨11, IG 84 (.load1) [T 83] 75 true, [], false⟩,
   ⟨12, IG 85 (.callv) [F 304, T 80, T 84] 75 true, [], false⟩,
   ⟨13, IG 86 (.un .not) [T 85] 75 true, [], false⟩,
   ⟨14, I 87 (.pick) [T 75, T 86, .lit (.bool false)], [], false⟩]])
 (.cond (T 87)
 (.seq (.region [I 88 (.mv) [T 0],
    I 89 (.mv) [T 1],
    I 90 (.mv) [T 2],
    I 91 (.mv) [T 11],
    I 92 (.callv) [F 305, T 88, T 89, T 90, T 91],
    I 13 (.mv) [T 92]])
  (.seq (.region [I 93 (.mv) [T 13],
    I 1 (.mv) [T 93]])
  (.exit 1)))
 (.skip)))
 (.seq (.region [I 95 (.mv) [T 0],
   I 96 (.mv) [T 1],
   I 97 (.mv) [T 2],
   I 98 (.mv) [T 11],
   I 99 (.callv) [F 306, T 95, T 96, T 97, T 98],
   I 94 (.mv) [T 99],
   I 100 (.extract 0) [T 94],
   I 101 (.extract 1) [T 94],
   I 14 (.mv) [T 100],
   I 15 (.mv) [T 101]])
 (.seq (.region [I 102 (.mv) [T 15],
   I 9 (.mv) [T 102]])
 (.seq (.region [I 103 (.mv) [T 14],
   I 104 (.mv) [T 1],
   I 105 (.bin .sub) [T 103, T 104],
   I 106 (.mv) [T 2],
   I 107 (.mv) [T 14],
   I 108 (.bin .sub) [T 106, T 107],
   I 16 (.mv) [T 105],
   I 17 (.mv) [T 108]])
 (.seq (.region [I 109 (.mv) [T 10],
   I 110 (.bin .quo) [T 109, N 8],
   I 18 (.mv) [T 110]])
 (.seq (.region [I 111 (.mv) [T 16],
   I 112 (.mv) [T 17],
   I 113 (.bin .lss) [T 111, T 112]])
 (.cond (T 113)
 (.seq (.region [I 114 (.mv) [T 16],
    I 115 (.mv) [T 18],
    I 116 (.bin .geq) [T 114, T 115],
    I 8 (.mv) [T 116]])
  (.seq (.region [I 117 (.mv) [T 0],
    I 118 (.mv) [T 1],
    I 119 (.mv) [T 14],
    I 120 (.mv) [T 3],
    I 121 (.callv) [F 203, T 117, T 118, T 119, T 120]])
  (.region [I 122 (.mv) [T 14],
    I 123 (.bin .add) [T 122, N 1],
    I 1 (.mv) [T 123]])))
 (.seq (.region [I 124 (.mv) [T 17],
    I 125 (.mv) [T 18],
    I 126 (.bin .geq) [T 124, T 125],
    I 8 (.mv) [T 126]])
  (.seq (.region [I 127 (.mv) [T 0],
    I 128 (.mv) [T 14],
    I 129 (.bin .add) [T 128, N 1],
    I 130 (.mv) [T 2],
    I 131 (.mv) [T 3],
    I 132 (.callv) [F 203, T 127, T 129, T 130, T 131]])
  (.region [I 133 (.mv) [T 14],
    I 2 (.mv) [T 133]])))))))))))))))))
def c_slices_pdqsortOrdered_int : AFn := ⟨134, [],
 .seq (.region [I 8 (.mv) [.lit (.bool true)]])
 (.seq (.region [I 9 (.mv) [.lit (.bool true)]])
 (.block 0 (.loop c_slices_pdqsortOrdered_int_L0)))⟩
theorem t203 : trFn Tryz.prog Tryz.f203 = some c_slices_pdqsortOrdered_int := by kernel_rfl
/-- math/bits.Len -/
abbrev n_math_bits_Len : Nat := 204
def c_math_bits_Len : AFn := ⟨8, [.tmp 2],
 .seq (.region [I 2 (.mv) [N 0]])
 (.seq (.cond (.lit (.bool false))
 (.seq (.region [I 3 (.mv) [T 0],
    I 4 (.conv .u32) [T 3],
    I 5 (.callv) [F 307, T 4],
    I 2 (.mv) [T 5]])
  (.ret))
 (.skip))
 (.seq (.region [I 6 (.mv) [T 0],
   I 7 (.callv) [F 308, T 6],
   I 2 (.mv) [T 7]])
 (.ret)))⟩
theorem t204 : trFn Tryz.prog Tryz.f204 = some c_math_bits_Len := by kernel_rfl
/-- slices.Grow[[]int,int] -/
abbrev n_slices_Grow_int_int : Nat := 205
def c_slices_Grow_int_int : AFn := ⟨27, [.tmp 4],
 .seq (.region [I 4 (.mv) [.lit .nilsl]])
 (.seq (.seq (.region [I 5 (.mv) [T 1],
   I 6 (.bin .lss) [T 5, N 0]])
 (.cond (T 6)
 (.region [I 7 (.bad) [.lit (.str ⟨#[99, 97, 110, 110, 111, 116, 32, 98, 101, 32, 110, 101, 103, 97, 116, 105, 118, 101]⟩)],
    J (.bad) [T 7]])
 (.skip)))
 (.seq (.seq (.region [I 8 (.mv) [T 1],
   I 9 (.mv) [T 0],
   I 10 (.cap) [T 9],
   I 11 (.mv) [T 0],
   I 12 (.lens) [T 11],
   I 13 (.bin .sub) [T 10, T 12],
   I 14 (.bin .sub) [T 8, T 13],
   I 1 (.mv) [T 14]])
 (.seq (.region [I 15 (.mv) [T 1],
   I 16 (.bin .gtr) [T 15, N 0]])
 (.cond (T 16)
 (.region [I 17 (.mv) [T 0],
    I 18 (.mv) [T 0],
    I 19 (.cap) [T 18],
    I 20 (.slice 1 false true false) [T 17, T 19],
    I 21 (.mv) [T 1],
    I 22 (.appendz 3 1 8 (.vals [(.int .i64 0)])) [T 20, T 21],
    I 23 (.mv) [T 0],
    I 24 (.lens) [T 23],
    I 25 (.slice 1 false true false) [T 22, T 24],
    I 0 (.mv) [T 25]])
 (.skip))))
 (.seq (.region [I 26 (.mv) [T 0],
   I 4 (.mv) [T 26]])
 (.ret))))⟩
theorem t205 : trFn Tryz.prog Tryz.f205 = some c_slices_Grow_int_int := by kernel_rfl
/-- slices.DeleteFunc[[]int,int] -/
abbrev n_slices_DeleteFunc_int_int : Nat := 207
/-- live: [0, 1, 5, 6] -/
def c_slices_DeleteFunc_int_int_L0 : ACode :=
 .seq (.seq (.region [I 16 (.mv) [T 6],
   I 17 (.mv) [T 0],
   I 18 (.lens) [T 17],
   I 19 (.bin .lss) [T 16, T 18]])
 (.cond (T 19)
 (.skip)
 (.exit 0)))
 (.seq (.block 1 (.seq (.region [I 22 (.mv) [T 0],
   I 23 (.mv) [T 6],
   I 24 (.indexs 1) [T 22, T 23],
   I 25 (.load1) [T 24],
   I 7 (.mv) [T 25]])
 (.seq (.region [I 26 (.mv) [T 1],
   I 27 (.mv) [T 7],
   I 28 (.callv) [T 26, T 27],
   I 29 (.un .not) [T 28]])
 (.cond (T 29)
 (.seq (.region [I 30 (.mv) [T 0],
    I 31 (.mv) [T 5],
    I 32 (.mv) [T 7],
    I 33 (.indexs 1) [T 30, T 31],
    J (.store 1) [T 33, T 32]])
  (.region [I 34 (.mv) [T 5],
    I 35 (.bin .add) [T 34, N 1],
    I 5 (.mv) [T 35]]))
 (.skip)))))
 (.region [I 20 (.mv) [T 6],
   I 21 (.bin .add) [T 20, N 1],
   I 6 (.mv) [T 21]]))
def c_slices_DeleteFunc_int_int : AFn := ⟨42, [.tmp 4],
 .seq (.region [I 4 (.mv) [.lit .nilsl]])
 (.seq (.region [I 8 (.mv) [T 0],
   I 9 (.mv) [T 1],
   I 10 (.callv) [F 296, T 8, T 9],
   I 5 (.mv) [T 10]])
 (.seq (.seq (.region [I 11 (.mv) [T 5],
   I 12 (.bin .eql) [T 11, N (-1)]])
 (.cond (T 12)
 (.seq (.region [I 13 (.mv) [T 0],
    I 4 (.mv) [T 13]])
  (.ret))
 (.skip)))
 (.seq (.seq (.region [I 14 (.mv) [T 5],
   I 15 (.bin .add) [T 14, N 1],
   I 6 (.mv) [T 15]])
 (.block 0 (.loop c_slices_DeleteFunc_int_int_L0)))
 (.seq (.region [I 36 (.mv) [T 0],
   I 37 (.mv) [T 5],
   I 38 (.slice 1 true false false) [T 36, T 37],
   J (.clear 1 (.vals [(.int .i64 0)])) [T 38]])
 (.seq (.region [I 39 (.mv) [T 0],
   I 40 (.mv) [T 5],
   I 41 (.slice 1 false true false) [T 39, T 40],
   I 4 (.mv) [T 41]])
 (.ret))))))⟩
theorem t207 : trFn Tryz.prog Tryz.f207 = some c_slices_DeleteFunc_int_int := by kernel_rfl
/-- (*pantry/ring.Rows[int]).Remove$1 -/
abbrev n_ring_Rows_int_Remove_1 : Nat := 208
def c_ring_Rows_int_Remove_1 : AFn := ⟨7, [.tmp 3],
 .seq (.region [I 3 (.mv) [.lit (.bool false)]])
 (.seq (.region [I 4 (.mv) [T 0],
   I 5 (.load1) [T 1],
   I 6 (.bin .eql) [T 4, T 5],
   I 3 (.mv) [T 6]])
 (.ret))⟩
theorem t208 : trFn Tryz.prog Tryz.f208 = some c_ring_Rows_int_Remove_1 := by kernel_rfl
/-- (*pantry/ring.Rows[int]).Rows -/
abbrev n_ring_Rows_int_Rows : Nat := 209
def c_ring_Rows_int_Rows : AFn := ⟨10, [.tmp 2],
 .seq (.region [I 2 (.mv) [N 0]])
 (.seq (.seq (.region [I 3 (.mv) [T 0],
   I 4 (.eqv false .ptr) [T 3, .lit .nilptr]])
 (.cond (T 4)
 (.seq (.region [I 2 (.mv) [N 0]])
  (.ret))
 (.skip)))
 (.seq (.region [I 5 (.mv) [T 0],
   I 6 (.nilCheck) [T 5],
   I 7 (.fieldAddr 0) [T 6],
   I 8 (.load1) [T 7],
   I 9 (.lens) [T 8],
   I 2 (.mv) [T 9]])
 (.ret)))⟩
theorem t209 : trFn Tryz.prog Tryz.f209 = some c_ring_Rows_int_Rows := by kernel_rfl
/-- (*pantry/ring.Rows[int]).enter -/
abbrev n_ring_Rows_int_enter : Nat := 210
def c_ring_Rows_int_enter : AFn := ⟨41, [.tmp 6],
 .seq (.region [I 6 (.mv) [.lit (.bool false)]])
 (.seq (.seq (.region [I 9 (.mv) [T 0],
   I 10 (.mv) [T 1],
   I 11 (.callv) [F 212, T 9, T 10],
   I 12 (.un .not) [T 11]])
 (.cond (T 12)
 (.seq (.region [I 6 (.mv) [.lit (.bool false)]])
  (.ret))
 (.skip)))
 (.seq (.seq (.region [I 14 (.mv) [T 0],
   I 15 (.nilCheck) [T 14],
   I 16 (.fieldAddr 1) [T 15],
   I 17 (.load1) [T 16],
   I 18 (.mv) [T 2],
   I 19 (.lookup (.scal .int) (.int .i64 0) true) [T 17, T 18],
   I 13 (.mv) [T 19],
   I 20 (.extract 0) [T 13],
   I 21 (.extract 1) [T 13],
   I 7 (.mv) [T 20],
   I 8 (.mv) [T 21]])
 (.seq (.region [I 22 (.mv) [T 8],
   I 23 (.un .not) [T 22],
   I 24 (.mv) [T 23],
   IG 25 (.mv) [T 0] 24 true,
   IG 26 (.nilCheck) [T 25] 24 true,
   IG 27 (.fieldAddr 1) [T 26] 24 true,
   IG 28 (.load1) [T 27] 24 true,
   IG 29 (.lenm) [T 28] 24 true,
   IG 30 (.bin .geq) [T 29, N 4096] 24 true,
   I 31 (.pick) [T 24, T 30, .lit (.bool false)]])
 (.cond (T 31)
 (.seq (.region [I 6 (.mv) [.lit (.bool false)]])
  (.ret))
 (.skip))))
 (.seq (.region [I 32 (.mv) [T 0],
   I 33 (.mv) [T 2],
   I 34 (.callv) [F 114, T 32, T 33]])
 (.seq (.region [I 35 (.mv) [T 0],
   I 36 (.nilCheck) [T 35],
   I 37 (.fieldAddr 1) [T 36],
   I 38 (.load1) [T 37],
   I 39 (.mv) [T 2],
   I 40 (.mv) [T 1],
   J (.mapput (.scal .int)) [T 38, T 39, T 40]])
 (.seq (.region [I 6 (.mv) [.lit (.bool true)]])
 (.ret))))))⟩
theorem t210 : trFn Tryz.prog Tryz.f210 = some c_ring_Rows_int_enter := by kernel_rfl
/-- (*pantry/ring.Rows[int]).All$1 -/
abbrev n_ring_Rows_int_All_1 : Nat := 211
/-- live: [0, 17, 18, 19] -/
def c_ring_Rows_int_All_1_L0 : ACode :=
 .seq (.region [I 20 (.bin .lss) [T 19, T 18]])
 (.seq (.cond (T 20)
 (.skip)
 (.exit 0))
 (.seq (.block 1 (.seq (.region [I 21 (.indexs 1) [T 17, T 19],
   I 22 (.load1) [T 21],
   I 5 (.mv) [T 22]])
 (.seq (.region [I 23 (.mv) [T 0],
   I 24 (.mv) [T 5],
   I 25 (.callv) [T 23, T 24],
   I 26 (.un .not) [T 25]])
 (.cond (T 26)
 (.ret)
 (.skip)))))
 (.region [I 27 (.bin .add) [T 19, N 1],
   I 19 (.mv) [T 27]])))
def c_ring_Rows_int_All_1 : AFn := ⟨28, [],
 .seq (.seq (.region [I 6 (.load1) [T 1],
   I 7 (.load1) [T 2],
   I 8 (.callv) [F 212, T 6, T 7],
   I 9 (.un .not) [T 8]])
 (.cond (T 9)
 (.ret)
 (.skip)))
 (.seq (.draw [[⟨0, I 10 (.load1) [T 1], [], false⟩,
   ⟨1, I 11 (.nilCheck) [T 10], [], false⟩,
   ⟨2, I 12 (.fieldAddr 0) [T 11], [], false⟩,
   ⟨3, I 13 (.load1) [T 12], [], false⟩,
   ⟨4, I 14 (.load1) [T 2], [], false⟩,
   ⟨5, I 15 (.indexs 1) [T 13, T 14], [], false⟩,
   ⟨6, I 16 (.load1) [T 15], [], false⟩,
   ⟨9, I 19 (.mv) [N 0], [], false⟩,
   ⟨7, I 17 (.callv) [F 213, T 16], [], false⟩,
   ⟨8, I 18 (.lens) [T 17], [], false⟩]])
 (.block 0 (.loop c_ring_Rows_int_All_1_L0)))⟩
theorem t211 : trFn Tryz.prog Tryz.f211 = some c_ring_Rows_int_All_1 := by kernel_rfl
/-- (*pantry/ring.Rows[int]).is -/
abbrev n_ring_Rows_int_is : Nat := 212
def c_ring_Rows_int_is : AFn := ⟨13, [.tmp 4],
 .seq (.region [I 4 (.mv) [.lit (.bool false)]])
 (.seq (.region [I 5 (.mv) [T 1],
   I 6 (.bin .geq) [T 5, N 0],
   I 7 (.mv) [T 6],
   IG 8 (.mv) [T 1] 7 true,
   IG 9 (.mv) [T 0] 7 true,
   IG 10 (.callv) [F 209, T 9] 7 true,
   IG 11 (.bin .lss) [T 8, T 10] 7 true,
   I 12 (.pick) [T 7, T 11, .lit (.bool false)],
   I 4 (.mv) [T 12]])
 (.ret))⟩
theorem t212 : trFn Tryz.prog Tryz.f212 = some c_ring_Rows_int_is := by kernel_rfl
/-- slices.Clone[[]int,int] -/
abbrev n_slices_Clone_int_int : Nat := 213
def c_slices_Clone_int_int : AFn := ⟨8, [.tmp 2],
 .seq (.region [I 2 (.mv) [.lit .nilsl]])
 (.seq (.seq (.region [I 3 (.mv) [T 0],
   I 4 (.eqv false .slice) [T 3, .lit .nilsl]])
 (.cond (T 4)
 (.seq (.region [I 2 (.mv) [.lit .nilsl]])
  (.ret))
 (.skip)))
 (.seq (.region [I 5 (.bslice 3 1 0 (.vals [(.int .i64 0)]) []) [],
   I 6 (.mv) [T 0],
   I 7 (.append 3 1 8 (.vals [(.int .i64 0)])) [T 5, T 6],
   I 2 (.mv) [T 7]])
 (.ret)))⟩
theorem t213 : trFn Tryz.prog Tryz.f213 = some c_slices_Clone_int_int := by kernel_rfl
/-- slices.BinarySearchFunc[[]pantry/api.Entry,pantry/api.Entry,int] -/
abbrev n_slices_BinarySearchFunc_api_Entry_api_Entry_int : Nat := 214
/-- live: [0, 1, 2, 8, 9, 10] -/
def c_slices_BinarySearchFunc_api_Entry_api_Entry_int_L0 : ACode :=
 .seq (.seq (.region [I 15 (.mv) [T 9],
   I 16 (.mv) [T 10],
   I 17 (.bin .lss) [T 15, T 16]])
 (.cond (T 17)
 (.skip)
 (.exit 0)))
 (.block 1 (.seq (.region [I 18 (.mv) [T 9],
   I 19 (.mv) [T 10],
   I 20 (.bin .add) [T 18, T 19],
   I 21 (.conv .u64) [T 20],
   I 22 (.bin .shr) [T 21, .lit (.int .u64 1)],
   I 23 (.conv .i64) [T 22],
   I 11 (.mv) [T 23]])
 (.seq (.region [I 24 (.mv) [T 2],
   I 25 (.mv) [T 0],
   I 26 (.mv) [T 11],
   I 27 (.indexs 10) [T 25, T 26],
   I 28 (.loadn 10) [T 27],
   I 29 (.mv) [T 1],
   I 30 (.callv) [T 24, T 28, T 29],
   I 31 (.bin .lss) [T 30, N 0]])
 (.cond (T 31)
 (.region [I 32 (.mv) [T 11],
    I 33 (.bin .add) [T 32, N 1],
    I 9 (.mv) [T 33]])
 (.region [I 34 (.mv) [T 11],
    I 10 (.mv) [T 34]])))))
def c_slices_BinarySearchFunc_api_Entry_api_Entry_int : AFn := ⟨49, [.tmp 6, .tmp 7],
 .seq (.region [I 6 (.mv) [N 0],
   I 7 (.mv) [.lit (.bool false)]])
 (.seq (.region [I 12 (.mv) [T 0],
   I 13 (.lens) [T 12],
   I 8 (.mv) [T 13]])
 (.seq (.region [I 14 (.mv) [T 8],
   I 9 (.mv) [N 0],
   I 10 (.mv) [T 14]])
 (.seq (.block 0 (.loop c_slices_BinarySearchFunc_api_Entry_api_Entry_int_L0))
 (.seq (.region [I 35 (.mv) [T 9],
   I 36 (.mv) [T 9],
   I 37 (.mv) [T 8],
   I 38 (.bin .lss) [T 36, T 37],
   I 39 (.mv) [T 38],
   IG 40 (.mv) [T 2] 39 true,
   IG 41 (.mv) [T 0] 39 true,
   IG 42 (.mv) [T 9] 39 true,
   IG 43 (.indexs 10) [T 41, T 42] 39 true,
   IG 44 (.loadn 10) [T 43] 39 true,
   IG 45 (.mv) [T 1] 39 true,
   IG 46 (.callv) [T 40, T 44, T 45] 39 true,
   IG 47 (.bin .eql) [T 46, N 0] 39 true,
   I 48 (.pick) [T 39, T 47, .lit (.bool false)],
   I 6 (.mv) [T 35],
   I 7 (.mv) [T 48]])
 (.ret)))))⟩
theorem t214 : trFn Tryz.prog Tryz.f214 = some c_slices_BinarySearchFunc_api_Entry_api_Entry_int := by kernel_rfl
/-- pantry/entry.Find$1 -/
abbrev n_entry_Find_1 : Nat := 215
def c_entry_Find_1 : AFn := ⟨9, [.tmp 4],
 .seq (.region [I 2 (.box 94 10) [T 0],
   I 4 (.mv) [N 0]])
 (.seq (.seq (.region [I 5 (.fieldAddr 1) [T 2],
   I 6 (.load1) [T 5],
   I 7 (.mv) [T 1],
   I 8 (.bin .leq) [T 6, T 7]])
 (.cond (T 8)
 (.seq (.region [I 4 (.mv) [N (-1)]])
  (.ret))
 (.skip)))
 (.seq (.region [I 4 (.mv) [N 1]])
 (.ret)))⟩
theorem t215 : trFn Tryz.prog Tryz.f215 = some c_entry_Find_1 := by kernel_rfl
/-- slices.IndexFunc[[]pantry/kern.area,pantry/kern.area] -/
abbrev n_slices_IndexFunc_kern_area_kern_area : Nat := 216
/-- live: [0, 1, 7, 8] -/
def c_slices_IndexFunc_kern_area_kern_area_L0 : ACode :=
 .seq (.region [I 9 (.bin .lss) [T 8, T 7]])
 (.seq (.cond (T 9)
 (.skip)
 (.exit 0))
 (.seq (.block 1 (.seq (.region [I 10 (.mv) [T 8],
   I 5 (.mv) [T 10]])
 (.seq (.region [I 11 (.mv) [T 1],
   I 12 (.mv) [T 0],
   I 13 (.mv) [T 5],
   I 14 (.indexs 6) [T 12, T 13],
   I 15 (.loadn 6) [T 14],
   I 16 (.callv) [T 11, T 15]])
 (.cond (T 16)
 (.seq (.region [I 17 (.mv) [T 5],
    I 4 (.mv) [T 17]])
  (.ret))
 (.skip)))))
 (.region [I 18 (.bin .add) [T 8, N 1],
   I 8 (.mv) [T 18]])))
def c_slices_IndexFunc_kern_area_kern_area : AFn := ⟨19, [.tmp 4],
 .seq (.region [I 4 (.mv) [N 0]])
 (.seq (.seq (.region [I 6 (.mv) [T 0],
   I 7 (.lens) [T 6],
   I 8 (.mv) [N 0]])
 (.block 0 (.loop c_slices_IndexFunc_kern_area_kern_area_L0)))
 (.seq (.region [I 4 (.mv) [N (-1)]])
 (.ret)))⟩
theorem t216 : trFn Tryz.prog Tryz.f216 = some c_slices_IndexFunc_kern_area_kern_area := by kernel_rfl
/-- (*pantry/kern.proc).at$1 -/
abbrev n_kern_proc_at_1 : Nat := 217
def c_kern_proc_at_1 : AFn := ⟨14, [.tmp 3],
 .seq (.region [I 2 (.box 132 6) [T 0],
   I 3 (.mv) [.lit (.bool false)]])
 (.seq (.region [I 4 (.fieldAddr 0) [T 2],
   I 5 (.load1) [T 4],
   I 6 (.load1) [T 1],
   I 7 (.bin .leq) [T 5, T 6],
   I 8 (.mv) [T 7],
   IG 9 (.load1) [T 1] 8 true,
   IG 10 (.fieldAddr 1) [T 2] 8 true,
   IG 11 (.load1) [T 10] 8 true,
   IG 12 (.bin .lss) [T 9, T 11] 8 true,
   I 13 (.pick) [T 8, T 12, .lit (.bool false)],
   I 3 (.mv) [T 13]])
 (.ret))⟩
theorem t217 : trFn Tryz.prog Tryz.f217 = some c_kern_proc_at_1 := by kernel_rfl
/-- (*pantry/swap.Device).may -/
abbrev n_swap_Device_may : Nat := 218
def c_swap_Device_may : AFn := ⟨26, [.tmp 6],
 .seq (.region [I 6 (.mv) [N 0]])
 (.seq (.block 0 (.seq (.region [I 8 (.mv) [T 0],
   I 9 (.callv) [F 151, T 8],
   I 10 (.un .not) [T 9],
   I 7 (.mv) [T 10]])
 (.cond (T 7)
 (.seq (.region [I 6 (.mv) [N 1]])
  (.ret))
 (.seq (.region [I 12 (.mv) [T 1],
    I 13 (.bin .lss) [T 12, N 0],
    I 14 (.mv) [T 13],
    IG 15 (.mv) [T 1] 14 false,
    IG 16 (.mv) [T 0] 14 false,
    IG 17 (.nilCheck) [T 16] 14 false,
    IG 18 (.fieldAddr 0) [T 17] 14 false,
    IG 19 (.load1) [T 18] 14 false,
    IG 20 (.bin .geq) [T 15, T 19] 14 false,
    I 21 (.pick) [T 14, .lit (.bool true), T 20],
    I 22 (.mv) [T 21],
    IG 23 (.mv) [T 2] 22 false,
    IG 24 (.un .not) [T 23] 22 false,
    I 25 (.pick) [T 22, .lit (.bool true), T 24],
    I 11 (.mv) [T 25]])
  (.cond (T 11)
  (.seq (.region [I 6 (.mv) [N 2]])
   (.ret))
  (.skip))))))
 (.seq (.region [I 6 (.mv) [N 0]])
 (.ret)))⟩
theorem t218 : trFn Tryz.prog Tryz.f218 = some c_swap_Device_may := by kernel_rfl
/-- (*pantry/tlb.Table).Find -/
abbrev n_tlb_Table_Find : Nat := 219
def c_tlb_Table_Find : AFn := ⟨22, [.cell 4 (.loadn 2), .tmp 5],
 .seq (.region [I 3 (.box 150 2) [T 1],
   I 4 (.alloc 139 2 (.vals [(.int .i64 0), (.int .i64 0)])) [],
   I 5 (.mv) [.lit (.bool false)]])
 (.seq (.seq (.region [I 8 (.mv) [T 0],
   I 9 (.eqv false .ptr) [T 8, .lit .nilptr]])
 (.cond (T 9)
 (.seq (.region [I 10 (.build (.agg [(.int .i64 0), (.int .i64 0)]) []) [],
    J (.store 2) [T 4, T 10],
    I 5 (.mv) [.lit (.bool false)]])
  (.ret))
 (.skip)))
 (.seq (.draw [[⟨0, I 12 (.mv) [T 0], [], false⟩,
   ⟨1, I 13 (.nilCheck) [T 12], [], false⟩,
   ⟨2, I 14 (.fieldAddr 2) [T 13], [], false⟩,
   ⟨3, I 15 (.load1) [T 14], [], false⟩,
   ⟨4, I 16 (.loadn 2) [T 3], [], false⟩,
   ⟨5, I 17 (.lookup (.flat [.int, .int]) (.agg [(.int .i64 0), (.int .i64 0)]) true) [T 15, T 16], [], false⟩,
   ⟨6, I 11 (.mv) [T 17], [], false⟩,
   ⟨7, I 18 (.extract 0) [T 11], [], false⟩,
   ⟨8, I 19 (.extract 1) [T 11], [], false⟩,
   ⟨9, I 6 (.alloc 139 2 (.vals [(.int .i64 0), (.int .i64 0)])) [], [(3, I 15 (.load1) [T 14]), (4, I 16 (.loadn 2) [T 3]), (5, I 17 (.lookup (.flat [.int, .int]) (.agg [(.int .i64 0), (.int .i64 0)]) true) [T 15, T 16])], false⟩,
   ⟨10, J (.store 2) [T 6, T 18], [], false⟩,
   ⟨11, I 7 (.mv) [T 19], [], false⟩]])
 (.seq (.region [I 20 (.loadn 2) [T 6],
   I 21 (.mv) [T 7],
   J (.store 2) [T 4, T 20],
   I 5 (.mv) [T 21]])
 (.ret))))⟩
theorem t219 : trFn Tryz.prog Tryz.f219 = some c_tlb_Table_Find := by kernel_rfl
/-- pantry/pte.May -/
abbrev n_pte_May : Nat := 220
def c_pte_May : AFn := ⟨37, [.tmp 6],
 .seq (.region [I 3 (.box 139 2) [T 0],
   I 6 (.mv) [.lit (.bool false)]])
 (.seq (.region [I 7 (.mv) [N 0]])
 (.seq (.seq (.region [I 8 (.mv) [T 1]])
 (.block 0 (.seq (.region [I 10 (.bin .eql) [T 8, N 1],
   I 9 (.mv) [T 10]])
 (.cond (T 9)
 (.region [I 7 (.mv) [N 2]])
 (.seq (.region [I 12 (.bin .eql) [T 8, N 2],
    I 11 (.mv) [T 12]])
  (.cond (T 11)
  (.region [I 7 (.mv) [N 4]])
  (.seq (.region [I 14 (.bin .eql) [T 8, N 4],
     I 13 (.mv) [T 14]])
   (.cond (T 13)
   (.region [I 7 (.mv) [N 8]])
   (.skip)))))))))
 (.seq (.region [I 15 (.loadn 2) [T 3],
   I 16 (.callv) [F 149, T 15],
   I 17 (.bin .eql) [T 16, N 2],
   I 18 (.mv) [T 17],
   IG 19 (.mv) [T 7] 18 true,
   IG 20 (.bin .gtr) [T 19, N 0] 18 true,
   I 21 (.pick) [T 18, T 20, .lit (.bool false)],
   I 22 (.mv) [T 21],
   IG 23 (.fieldAddr 0) [T 3] 22 true,
   IG 24 (.load1) [T 23] 22 true,
   IG 25 (.mv) [T 7] 22 true,
   IG 26 (.bin .and) [T 24, T 25] 22 true,
   IG 27 (.bin .gtr) [T 26, N 0] 22 true,
   I 28 (.pick) [T 22, T 27, .lit (.bool false)],
   I 29 (.mv) [T 28],
   IG 30 (.fieldAddr 0) [T 3] 29 true,
   IG 31 (.load1) [T 30] 29 true,
   IG 32 (.bin .and) [T 31, N 16] 29 true,
   IG 33 (.bin .gtr) [T 32, N 0] 29 true,
   IG 34 (.mv) [T 2] 29 true,
   IG 35 (.eqv false (.scal .bool)) [T 33, T 34] 29 true,
   I 36 (.pick) [T 29, T 35, .lit (.bool false)],
   I 6 (.mv) [T 36]])
 (.ret))))⟩
theorem t220 : trFn Tryz.prog Tryz.f220 = some c_pte_May := by kernel_rfl
/-- pantry/walk.Walk -/
abbrev n_walk_Walk : Nat := 221
def c_walk_Walk : AFn := ⟨90, [.tmp 10, .tmp 11, .tmp 12],
 .seq (.region [I 10 (.mv) [N 0],
   I 11 (.mv) [N 0],
   I 12 (.mv) [N 0]])
 (.seq (.seq (.region [I 22 (.mv) [T 2],
   I 23 (.callv) [F 309, T 22],
   I 24 (.un .not) [T 23],
   I 25 (.mv) [T 24],
   IG 26 (.mv) [T 1] 25 false,
   IG 27 (.bin .lss) [T 26, N 0] 25 false,
   I 28 (.pick) [T 25, .lit (.bool true), T 27],
   I 29 (.mv) [T 28],
   IG 30 (.mv) [T 1] 29 false,
   IG 31 (.mv) [T 0] 29 false,
   IG 32 (.callv) [F 58, T 31] 29 false,
   IG 33 (.bin .geq) [T 30, T 32] 29 false,
   I 34 (.pick) [T 29, .lit (.bool true), T 33]])
 (.cond (T 34)
 (.seq (.region [I 10 (.mv) [N 2],
    I 11 (.mv) [N 0],
    I 12 (.mv) [N 0]])
  (.ret))
 (.skip)))
 (.seq (.region [I 36 (.mv) [T 2],
   I 37 (.callv) [F 310, T 36],
   I 35 (.mv) [T 37],
   I 38 (.extract 0) [T 35],
   I 39 (.extract 1) [T 35],
   I 13 (.mv) [T 38],
   I 14 (.mv) [T 39]])
 (.seq (.region [I 41 (.mv) [T 0],
   I 42 (.mv) [T 1],
   I 43 (.mv) [T 13],
   I 44 (.callv) [F 287, T 41, T 42, T 43],
   I 40 (.mv) [T 44],
   I 45 (.extract 0) [T 40],
   I 46 (.extract 1) [T 40],
   I 47 (.extract 2) [T 40],
   I 15 (.mv) [T 45],
   I 16 (.mv) [T 46],
   I 17 (.mv) [T 47]])
 (.seq (.seq (.region [I 48 (.mv) [T 17],
   I 49 (.un .not) [T 48]])
 (.cond (T 49)
 (.seq (.region [I 10 (.mv) [N 1],
    I 11 (.mv) [N 0],
    I 12 (.mv) [N 0]])
  (.ret))
 (.skip)))
 (.seq (.region [I 50 (.mv) [T 0],
   I 51 (.mv) [T 15],
   I 52 (.mv) [T 16],
   I 53 (.callv) [F 235, T 50, T 51, T 52],
   I 18 (.alloc 139 2 (.vals [(.int .i64 0), (.int .i64 0)])) [],
   J (.store 2) [T 18, T 53]])
 (.seq (.seq (.draw [[⟨0, I 54 (.loadn 2) [T 18], [], false⟩,
   ⟨1, I 55 (.callv) [F 149, T 54], [], false⟩,
   ⟨2, I 56 (.bin .neq) [T 55, N 2], [], false⟩,
   ⟨3, I 57 (.mv) [T 56], [], false⟩,
   ⟨4, IG 58 (.fieldAddr 1) [T 18] 57 false, [], false⟩,
   ⟨5, IG 59 (.load1) [T 58] 57 false, [], false⟩,
   ⟨6, IG 60 (.mv) [T 0] 57 false, [], false⟩,
   ⟨7, IG 61 (.callv) [F 58, T 60] 57 false, [(5, IG 59 (.load1) [T 58] 57 false)], false⟩,
   ⟨8, IG 62 (.bin .geq) [T 59, T 61] 57 false, [], false⟩,
   ⟨9, I 63 (.pick) [T 57, .lit (.bool true), T 62], [], false⟩]])
 (.cond (T 63)
 (.seq (.region [I 10 (.mv) [N 1],
    I 11 (.mv) [N 0],
    I 12 (.mv) [N 0]])
  (.ret))
 (.skip)))
 (.seq (.seq (.region [I 64 (.loadn 2) [T 18],
   I 65 (.mv) [T 3],
   I 66 (.mv) [T 4],
   I 67 (.callv) [F 220, T 64, T 65, T 66],
   I 68 (.un .not) [T 67]])
 (.cond (T 68)
 (.seq (.region [I 10 (.mv) [N 3],
    I 11 (.mv) [N 0],
    I 12 (.mv) [N 0]])
  (.ret))
 (.skip)))
 (.seq (.region [I 19 (.mv) [.lit (.int .u64 64)]])
 (.seq (.seq (.region [I 69 (.mv) [T 3],
   I 70 (.bin .eql) [T 69, N 2]])
 (.cond (T 70)
 (.region [I 71 (.mv) [T 19],
    I 72 (.bin .or) [T 71, .lit (.int .u64 128)],
    I 19 (.mv) [T 72]])
 (.skip)))
 (.seq (.region [I 74 (.mv) [T 0],
   I 75 (.mv) [T 15],
   I 76 (.mv) [T 16],
   I 77 (.callv) [F 311, T 74, T 75, T 76],
   I 73 (.mv) [T 77],
   I 78 (.extract 0) [T 73],
   I 79 (.extract 1) [T 73],
   I 20 (.mv) [T 78],
   I 21 (.mv) [T 79]])
 (.seq (.region [I 80 (.mv) [T 0],
   I 81 (.mv) [T 15],
   I 82 (.mv) [T 16],
   I 83 (.mv) [T 20],
   I 84 (.mv) [T 19],
   I 85 (.bin .or) [T 83, T 84],
   I 86 (.callv) [F 289, T 80, T 81, T 82, T 85]])
 (.seq (.draw [[⟨0, I 87 (.fieldAddr 1) [T 18], [], false⟩,
   ⟨1, I 88 (.load1) [T 87], [], false⟩,
   ⟨2, I 89 (.mv) [T 14], [], false⟩,
   ⟨3, I 10 (.mv) [N 0], [], false⟩,
   ⟨4, I 11 (.mv) [T 88], [], false⟩,
   ⟨5, I 12 (.mv) [T 89], [], false⟩]])
 (.ret)))))))))))))⟩
theorem t221 : trFn Tryz.prog Tryz.f221 = some c_walk_Walk := by kernel_rfl
/-- (*pantry/pmap.Map).Root -/
abbrev n_pmap_Map_Root : Nat := 222
def c_pmap_Map_Root : AFn := ⟨10, [.tmp 2],
 .seq (.region [I 2 (.mv) [N 0]])
 (.seq (.seq (.region [I 3 (.mv) [T 0],
   I 4 (.callv) [F 146, T 3],
   I 5 (.un .not) [T 4]])
 (.cond (T 5)
 (.seq (.region [I 2 (.mv) [N (-1)]])
  (.ret))
 (.skip)))
 (.seq (.region [I 6 (.mv) [T 0],
   I 7 (.nilCheck) [T 6],
   I 8 (.fieldAddr 3) [T 7],
   I 9 (.load1) [T 8],
   I 2 (.mv) [T 9]])
 (.ret)))⟩
theorem t222 : trFn Tryz.prog Tryz.f222 = some c_pmap_Map_Root := by kernel_rfl
/-- pantry/walk.Look -/
abbrev n_walk_Look : Nat := 223
def c_walk_Look : AFn := ⟨26, [.cell 6 (.loadn 2), .tmp 7],
 .seq (.region [I 6 (.alloc 139 2 (.vals [(.int .i64 0), (.int .i64 0)])) [],
   I 7 (.mv) [.lit (.bool false)]])
 (.seq (.region [I 12 (.mv) [T 0],
   I 13 (.mv) [T 1],
   I 14 (.mv) [T 2],
   I 15 (.callv) [F 287, T 12, T 13, T 14],
   I 11 (.mv) [T 15],
   I 16 (.extract 0) [T 11],
   I 17 (.extract 1) [T 11],
   I 18 (.extract 2) [T 11],
   I 8 (.mv) [T 16],
   I 9 (.mv) [T 17],
   I 10 (.mv) [T 18]])
 (.seq (.seq (.region [I 19 (.mv) [T 10],
   I 20 (.un .not) [T 19]])
 (.cond (T 20)
 (.seq (.region [I 21 (.build (.agg [(.int .i64 0), (.int .i64 0)]) []) [],
    J (.store 2) [T 6, T 21],
    I 7 (.mv) [.lit (.bool false)]])
  (.ret))
 (.skip)))
 (.seq (.region [I 22 (.mv) [T 0],
   I 23 (.mv) [T 8],
   I 24 (.mv) [T 9],
   I 25 (.callv) [F 235, T 22, T 23, T 24],
   J (.store 2) [T 6, T 25],
   I 7 (.mv) [.lit (.bool true)]])
 (.ret))))⟩
theorem t223 : trFn Tryz.prog Tryz.f223 = some c_walk_Look := by kernel_rfl
/-- (*pantry/tlb.Table).Put -/
abbrev n_tlb_Table_Put : Nat := 224
def c_tlb_Table_Put : AFn := ⟨57, [],
 .seq (.region [I 3 (.box 55 1) [T 0],
   I 4 (.box 150 2) [T 1],
   I 5 (.box 139 2) [T 2]])
 (.seq (.seq (.region [I 8 (.load1) [T 3],
   I 9 (.eqv false .ptr) [T 8, .lit .nilptr],
   I 10 (.mv) [T 9],
   IG 11 (.load1) [T 3] 10 false,
   IG 12 (.nilCheck) [T 11] 10 false,
   IG 13 (.fieldAddr 2) [T 12] 10 false,
   IG 14 (.load1) [T 13] 10 false,
   IG 15 (.eqv false .map) [T 14, .lit .nilmap] 10 false,
   I 16 (.pick) [T 10, .lit (.bool true), T 15]])
 (.cond (T 16)
 (.ret)
 (.skip)))
 (.seq (.seq (.draw [[⟨0, I 18 (.load1) [T 3], [], false⟩,
   ⟨1, I 19 (.nilCheck) [T 18], [], false⟩,
   ⟨2, I 20 (.fieldAddr 2) [T 19], [], false⟩,
   ⟨3, I 21 (.load1) [T 20], [], false⟩,
   ⟨4, I 22 (.loadn 2) [T 4], [], false⟩,
   ⟨5, I 23 (.lookup (.flat [.int, .int]) (.agg [(.int .i64 0), (.int .i64 0)]) true) [T 21, T 22], [], false⟩,
   ⟨6, I 17 (.mv) [T 23], [], false⟩,
   ⟨7, I 24 (.extract 0) [T 17], [], false⟩,
   ⟨8, I 25 (.extract 1) [T 17], [], false⟩,
   ⟨9, I 6 (.alloc 139 2 (.vals [(.int .i64 0), (.int .i64 0)])) [], [(0, I 18 (.load1) [T 3]), (3, I 21 (.load1) [T 20]), (4, I 22 (.loadn 2) [T 4]), (5, I 23 (.lookup (.flat [.int, .int]) (.agg [(.int .i64 0), (.int .i64 0)]) true) [T 21, T 22])], false⟩,
   ⟨10, J (.store 2) [T 6, T 24], [], false⟩,
   ⟨11, I 7 (.mv) [T 25], [], false⟩]])
 (.seq (.region [I 26 (.mv) [T 7],
   I 27 (.un .not) [T 26]])
 (.cond (T 27)
 (.draw [[⟨0, I 28 (.load1) [T 3], [], false⟩,
    ⟨1, I 29 (.load1) [T 3], [], false⟩,
    ⟨2, I 30 (.nilCheck) [T 29], [], false⟩,
    ⟨3, I 31 (.fieldAddr 1) [T 30], [], false⟩,
    ⟨4, I 32 (.load1) [T 31], [], false⟩,
    ⟨5, I 33 (.loadn 2) [T 4], [], false⟩,
    ⟨6, I 34 (.bslice 150 2 1 (.vals [(.int .i64 0), (.int .i64 0)]) [0]) [T 33], [(0, I 28 (.load1) [T 3]), (1, I 29 (.load1) [T 3]), (4, I 32 (.load1) [T 31])], false⟩,
    ⟨7, I 35 (.append 150 2 16 (.vals [(.int .i64 0), (.int .i64 0)])) [T 32, T 34], [(0, I 28 (.load1) [T 3])], false⟩,
    ⟨8, I 36 (.nilCheck) [T 28], [], false⟩,
    ⟨9, I 37 (.fieldAddr 1) [T 36], [], false⟩,
    ⟨10, J (.store 1) [T 37, T 35], [], false⟩]])
 (.skip))))
 (.seq (.draw [[⟨0, I 38 (.load1) [T 3], [], false⟩,
   ⟨1, I 39 (.nilCheck) [T 38], [], false⟩,
   ⟨2, I 40 (.fieldAddr 2) [T 39], [], false⟩,
   ⟨3, I 41 (.load1) [T 40], [], false⟩,
   ⟨4, I 42 (.loadn 2) [T 4], [], false⟩,
   ⟨5, I 43 (.loadn 2) [T 5], [], false⟩,
   ⟨6, J (.mapput (.flat [.int, .int])) [T 41, T 42, T 43], [], false⟩]])
 (.seq (.draw [[⟨0, I 44 (.load1) [T 3], [], false⟩,
   ⟨1, I 45 (.nilCheck) [T 44], [], false⟩,
   ⟨2, I 46 (.fieldAddr 1) [T 45], [], false⟩,
   ⟨3, I 47 (.load1) [T 46], [], false⟩,
   ⟨4, I 48 (.lens) [T 47], [], false⟩,
   ⟨5, I 49 (.load1) [T 3], [], false⟩,
   ⟨6, I 50 (.nilCheck) [T 49], [], false⟩,
   ⟨7, I 51 (.fieldAddr 0) [T 50], [], false⟩,
   ⟨8, I 52 (.load1) [T 51], [], false⟩,
   ⟨9, I 53 (.bin .gtr) [T 48, T 52], [], false⟩]])
 (.cond (T 53)
 (.region [I 54 (.load1) [T 3],
    I 55 (.mkfunc 312 0) [T 3],
    I 56 (.callv) [F 182, T 54, T 55]])
 (.skip))))))⟩
theorem t224 : trFn Tryz.prog Tryz.f224 = some c_tlb_Table_Put := by kernel_rfl
/-- (*pantry/kern.Kernel).private -/
abbrev n_kern_Kernel_private : Nat := 225
def c_kern_Kernel_private : AFn := ⟨91, [.tmp 10, .tmp 11],
 .seq (.region [I 7 (.box 94 10) [T 2],
   I 10 (.mv) [N 0],
   I 11 (.mv) [N 0]])
 (.seq (.region [I 17 (.mv) [T 0],
   I 18 (.mv) [T 1],
   I 19 (.mv) [T 3],
   I 20 (.callv) [F 47, T 17, T 18, T 19],
   I 12 (.mv) [T 20]])
 (.seq (.block 0 (.seq (.region [I 22 (.mv) [T 12],
   I 23 (.bin .gtr) [T 22, N 0],
   I 24 (.mv) [T 23],
   IG 25 (.mv) [T 4] 24 true,
   I 26 (.pick) [T 24, T 25, .lit (.bool false)],
   I 21 (.mv) [T 26]])
 (.cond (T 21)
 (.seq (.region [I 27 (.mv) [T 0],
    I 28 (.mv) [T 1],
    I 29 (.mv) [T 3],
    I 30 (.callv) [F 313, T 27, T 28, T 29],
    I 31 (.extract 0) [T 30],
    I 32 (.extract 1) [T 30],
    I 10 (.mv) [T 31],
    I 11 (.mv) [T 32]])
  (.ret))
 (.seq (.region [I 34 (.mv) [T 12],
    I 35 (.bin .gtr) [T 34, N 0],
    I 33 (.mv) [T 35]])
  (.cond (T 33)
  (.seq (.region [I 36 (.mv) [T 0],
     I 37 (.mv) [T 12],
     I 38 (.callv) [F 314, T 36, T 37],
     I 39 (.extract 0) [T 38],
     I 40 (.extract 1) [T 38],
     I 10 (.mv) [T 39],
     I 11 (.mv) [T 40]])
   (.ret))
  (.seq (.region [I 42 (.fieldAddr 2) [T 7],
     I 43 (.load1) [T 42],
     I 44 (.bin .eql) [T 43, N 0],
     I 41 (.mv) [T 44]])
   (.cond (T 41)
   (.seq (.region [I 45 (.mv) [T 0],
      I 46 (.mv) [T 1],
      I 47 (.mv) [T 3],
      I 48 (.callv) [F 315, T 45, T 46, T 47, N (-1)],
      I 49 (.extract 0) [T 48],
      I 50 (.extract 1) [T 48],
      I 10 (.mv) [T 49],
      I 11 (.mv) [T 50]])
    (.ret))
   (.skip))))))))
 (.seq (.region [I 52 (.mv) [T 0],
   I 53 (.fieldAddr 2) [T 7],
   I 54 (.load1) [T 53],
   I 55 (.fieldAddr 3) [T 7],
   I 56 (.load1) [T 55],
   I 57 (.mv) [T 3],
   I 58 (.bin .add) [T 56, T 57],
   I 59 (.fieldAddr 0) [T 7],
   I 60 (.load1) [T 59],
   I 61 (.bin .sub) [T 58, T 60],
   I 62 (.callv) [F 157, T 52, T 54, T 61],
   I 51 (.mv) [T 62],
   I 63 (.extract 0) [T 51],
   I 64 (.extract 1) [T 51],
   I 65 (.extract 2) [T 51],
   I 13 (.mv) [T 63],
   I 14 (.mv) [T 64],
   I 15 (.mv) [T 65]])
 (.seq (.seq (.region [I 66 (.mv) [T 15],
   I 67 (.bin .neq) [T 66, N 0],
   I 68 (.mv) [T 67],
   IG 69 (.mv) [T 4] 68 false,
   IG 70 (.un .not) [T 69] 68 false,
   I 71 (.pick) [T 68, .lit (.bool true), T 70]])
 (.cond (T 71)
 (.seq (.region [I 72 (.mv) [T 14],
    I 73 (.mv) [T 15],
    I 10 (.mv) [T 72],
    I 11 (.mv) [T 73]])
  (.ret))
 (.skip)))
 (.seq (.seq (.region [I 74 (.mv) [T 1],
   I 75 (.nilCheck) [T 74],
   I 76 (.fieldAddr 2) [T 75],
   I 77 (.load1) [T 76],
   I 78 (.mv) [T 3],
   I 79 (.mv) [T 14],
   I 80 (.callv) [F 226, T 77, T 78, T 79, N 1],
   I 16 (.mv) [T 80]])
 (.seq (.region [I 81 (.mv) [T 16],
   I 82 (.bin .neq) [T 81, N 0]])
 (.cond (T 82)
 (.seq (.region [I 83 (.mv) [T 16],
    I 10 (.mv) [N (-1)],
    I 11 (.mv) [T 83]])
  (.ret))
 (.skip))))
 (.seq (.region [I 84 (.mv) [T 0],
   I 85 (.mv) [T 1],
   I 86 (.mv) [T 3],
   I 87 (.mv) [T 14],
   I 88 (.callv) [F 315, T 84, T 85, T 86, T 87],
   I 89 (.extract 0) [T 88],
   I 90 (.extract 1) [T 88],
   I 10 (.mv) [T 89],
   I 11 (.mv) [T 90]])
 (.ret)))))))⟩
theorem t225 : trFn Tryz.prog Tryz.f225 = some c_kern_Kernel_private := by kernel_rfl
/-- (*pantry/pmap.Map).Enter -/
abbrev n_pmap_Map_Enter : Nat := 226
/-- live: [17, 89, 90, 91] -/
def c_pmap_Map_Enter_L1 : ACode :=
 .seq (.region [I 92 (.bin .lss) [T 91, T 90]])
 (.seq (.cond (T 92)
 (.skip)
 (.exit 3))
 (.seq (.block 4 (.seq (.region [I 93 (.indexs 1) [T 89, T 91],
   I 94 (.load1) [T 93],
   I 19 (.mv) [T 94]])
 (.region [I 95 (.mv) [T 19],
   I 96 (.callv) [T 95]])))
 (.region [I 97 (.bin .add) [T 91, N 1],
   I 91 (.mv) [T 97]])))
/-- live: [1, 2, 3, 4, 9, 10, 11] -/
def c_pmap_Map_Enter_L0 : ACode :=
 .seq (.seq (.region [I 56 (.mv) [T 11],
   I 57 (.bin .gtr) [T 56, N 0]])
 (.cond (T 57)
 (.skip)
 (.exit 1)))
 (.seq (.block 2 (.seq (.region [I 60 (.mv) [T 9],
   I 61 (.mv) [T 1],
   I 62 (.mv) [T 11],
   I 63 (.callv) [F 316, T 61, T 62],
   I 12 (.alloc 3 1 (.vals [(.int .i64 0)])) [],
   I 13 (.alloc 3 1 (.vals [(.int .i64 0)])) [],
   J (.store 1) [T 12, T 60],
   J (.store 1) [T 13, T 63]])
 (.seq (.region [I 65 (.load1) [T 4],
   I 66 (.load1) [T 12],
   I 67 (.load1) [T 13],
   I 68 (.callv) [F 263, T 65, T 66, T 67],
   I 64 (.mv) [T 68],
   I 69 (.extract 0) [T 64],
   I 70 (.extract 1) [T 64],
   I 14 (.mv) [T 69],
   I 15 (.mv) [T 70]])
 (.seq (.seq (.region [I 71 (.mv) [T 15],
   I 72 (.un .not) [T 71]])
 (.cond (T 72)
 (.seq (.draw [[⟨0, I 74 (.load1) [T 4], [], false⟩,
    ⟨1, I 75 (.nilCheck) [T 74], [], false⟩,
    ⟨2, I 76 (.fieldAddr 1) [T 75], [], false⟩,
    ⟨3, I 77 (.load1) [T 76], [], false⟩,
    ⟨4, I 78 (.load1) [T 4], [], false⟩,
    ⟨5, I 79 (.nilCheck) [T 78], [], false⟩,
    ⟨6, I 80 (.fieldAddr 2) [T 79], [], false⟩,
    ⟨7, I 81 (.load1) [T 80], [], false⟩,
    ⟨8, I 82 (.mv) [T 11], [], false⟩,
    ⟨9, I 83 (.bin .sub) [N 3, T 82], [], false⟩,
    ⟨10, I 84 (.callv) [F 297, T 77, N 1, T 81, T 83], [], false⟩,
    ⟨11, I 73 (.mv) [T 84], [], false⟩,
    ⟨12, I 85 (.extract 0) [T 73], [], false⟩,
    ⟨13, I 86 (.extract 1) [T 73], [], false⟩,
    ⟨14, I 16 (.mv) [T 85], [], false⟩,
    ⟨15, I 17 (.mv) [T 86], [], false⟩]])
  (.seq (.seq (.region [I 87 (.mv) [T 17],
    I 88 (.bin .neq) [T 87, N 0]])
  (.cond (T 88)
  (.seq (.seq (.region [I 89 (.mv) [T 10],
     I 90 (.lens) [T 89],
     I 91 (.mv) [N 0]])
   (.block 3 (.loop c_pmap_Map_Enter_L1)))
   (.seq (.region [I 98 (.mv) [T 17],
     I 8 (.mv) [T 98]])
   (.ret)))
  (.skip)))
  (.seq (.region [I 99 (.mv) [T 16],
    I 14 (.mv) [T 99]])
  (.seq (.region [I 100 (.load1) [T 4],
    I 101 (.nilCheck) [T 100],
    I 102 (.fieldAddr 0) [T 101],
    I 103 (.load1) [T 102],
    I 104 (.mv) [T 16],
    I 105 (.callv) [F 245, T 103, T 104]])
  (.seq (.draw [[⟨0, I 106 (.load1) [T 4], [], false⟩,
    ⟨1, I 107 (.nilCheck) [T 106], [], false⟩,
    ⟨2, I 108 (.fieldAddr 0) [T 107], [], false⟩,
    ⟨3, I 109 (.load1) [T 108], [], false⟩,
    ⟨4, I 110 (.load1) [T 12], [], false⟩,
    ⟨5, I 111 (.load1) [T 13], [], false⟩,
    ⟨6, I 112 (.mv) [T 16], [], false⟩,
    ⟨7, I 113 (.build (.agg [(.int .i64 0), (.int .i64 0)]) [(0, 1), (1, 1)]) [N 1, T 112], [], false⟩,
    ⟨8, I 114 (.callv) [F 288, T 113], [(0, I 106 (.load1) [T 4]), (3, I 109 (.load1) [T 108]), (4, I 110 (.load1) [T 12]), (5, I 111 (.load1) [T 13])], false⟩,
    ⟨9, I 115 (.callv) [F 289, T 109, T 110, T 111, T 114], [], false⟩]])
  (.seq (.region [I 116 (.load1) [T 4],
    I 117 (.nilCheck) [T 116],
    I 118 (.fieldAddr 4) [T 117],
    I 119 (.load1) [T 118],
    I 120 (.bin .add) [T 119, N 1],
    I 121 (.nilCheck) [T 116],
    I 122 (.fieldAddr 4) [T 121],
    J (.store 1) [T 122, T 120]])
  (.region [I 123 (.mv) [T 10],
    I 124 (.mkfunc 317 0) [T 4, T 12, T 13],
    I 125 (.bslice 1 1 1 (.vals [.nilfunc]) [0]) [T 124],
    I 126 (.append 1 1 8 (.vals [.nilfunc])) [T 123, T 125],
    I 10 (.mv) [T 126]])))))))
 (.skip)))
 (.region [I 127 (.mv) [T 14],
   I 9 (.mv) [T 127]])))))
 (.region [I 58 (.mv) [T 11],
   I 59 (.bin .sub) [T 58, N 1],
   I 11 (.mv) [T 59]]))
def c_pmap_Map_Enter : AFn := ⟨141, [.tmp 8],
 .seq (.region [I 4 (.box 97 1) [T 0],
   I 8 (.mv) [N 0]])
 (.seq (.block 0 (.seq (.region [I 21 (.load1) [T 4],
   I 22 (.callv) [F 146, T 21],
   I 23 (.un .not) [T 22],
   I 20 (.mv) [T 23]])
 (.cond (T 20)
 (.seq (.region [I 8 (.mv) [N 1]])
  (.ret))
 (.seq (.region (I 25 (.mv) [T 1] ::
    I 26 (.bin .lss) [T 25, N 0] ::
    I 27 (.mv) [T 26] ::
    IG 28 (.mv) [T 1] 27 false ::
    IG 29 (.bin .geq) [T 28, N 67108864] 27 false ::
    I 30 (.pick) [T 27, .lit (.bool true), T 29] ::
    I 31 (.mv) [T 30] ::
    IG 32 (.mv) [T 3] 31 false ::
    IG 33 (.bin .lss) [T 32, N 1] 31 false ::
    I 34 (.pick) [T 31, .lit (.bool true), T 33] ::
    I 35 (.mv) [T 34] ::
    IG 36 (.mv) [T 3] 35 false ::
    IG 37 (.bin .gtr) [T 36, N 7] 35 false ::
    I 38 (.pick) [T 35, .lit (.bool true), T 37] ::
    I 39 (.mv) [T 38] ::
    IG 40 (.mv) [T 2] 39 false ::
    IG 41 (.bin .lss) [T 40, N 0] 39 false ::
    I 42 (.pick) [T 39, .lit (.bool true), T 41] ::
    I 43 (.mv) [T 42] ::
    IG 44 (.mv) [T 2] 43 false ::
    IG 45 (.load1) [T 4] 43 false ::
    IG 46 (.nilCheck) [T 45] 43 false ::
    IG 47 (.fieldAddr 0) [T 46] 43 false ::
    IG 48 (.load1) [T 47] 43 false ::
    IG 49 (.callv) [F 58, T 48] 43 false ::
    IG 50 (.bin .geq) [T 44, T 49] 43 false ::
    I 51 (.pick) [T 43, .lit (.bool true), T 50] ::
    I 24 (.mv) [T 51] ::
    []))
  (.cond (T 24)
  (.seq (.region [I 8 (.mv) [N 2]])
   (.ret))
  (.skip))))))
 (.seq (.region [I 52 (.load1) [T 4],
   I 53 (.nilCheck) [T 52],
   I 54 (.fieldAddr 3) [T 53],
   I 55 (.load1) [T 54],
   I 9 (.mv) [T 55]])
 (.seq (.region [I 10 (.mv) [.lit .nilsl]])
 (.seq (.seq (.region [I 11 (.mv) [N 2]])
 (.block 1 (.loop c_pmap_Map_Enter_L0)))
 (.seq (.draw [[⟨0, I 128 (.load1) [T 4], [], false⟩,
   ⟨1, I 129 (.nilCheck) [T 128], [], false⟩,
   ⟨2, I 130 (.fieldAddr 0) [T 129], [], false⟩,
   ⟨3, I 131 (.load1) [T 130], [], false⟩,
   ⟨4, I 132 (.mv) [T 9], [], false⟩,
   ⟨5, I 133 (.mv) [T 1], [], false⟩,
   ⟨7, I 135 (.mv) [T 3], [], false⟩,
   ⟨9, I 137 (.mv) [T 2], [], false⟩,
   ⟨6, I 134 (.callv) [F 316, T 133, N 0], [(0, I 128 (.load1) [T 4]), (3, I 131 (.load1) [T 130])], false⟩,
   ⟨8, I 136 (.callv) [F 318, T 135, .lit (.bool true)], [(0, I 128 (.load1) [T 4]), (3, I 131 (.load1) [T 130])], false⟩,
   ⟨10, I 138 (.build (.agg [(.int .i64 0), (.int .i64 0)]) [(0, 1), (1, 1)]) [T 136, T 137], [], false⟩,
   ⟨11, I 139 (.callv) [F 288, T 138], [(0, I 128 (.load1) [T 4]), (3, I 131 (.load1) [T 130])], false⟩,
   ⟨12, I 140 (.callv) [F 289, T 131, T 132, T 134, T 139], [], false⟩]])
 (.seq (.region [I 8 (.mv) [N 0]])
 (.ret)))))))⟩
theorem t226 : trFn Tryz.prog Tryz.f226 = some c_pmap_Map_Enter := by kernel_rfl
/-- (*pantry/pmap.Map).Remove -/
abbrev n_pmap_Map_Remove : Nat := 227
def c_pmap_Map_Remove : AFn := ⟨8, [.tmp 4],
 .seq (.region [I 4 (.mv) [.lit (.bool false)]])
 (.seq (.region [I 5 (.mv) [T 0],
   I 6 (.mv) [T 1],
   I 7 (.callv) [F 180, T 5, T 6, F 319],
   I 4 (.mv) [T 7]])
 (.ret))⟩
theorem t227 : trFn Tryz.prog Tryz.f227 = some c_pmap_Map_Remove := by kernel_rfl
/-- (*pantry/spread.Counts).Len -/
abbrev n_spread_Counts_Len : Nat := 229
def c_spread_Counts_Len : AFn := ⟨10, [.tmp 2],
 .seq (.region [I 2 (.mv) [N 0]])
 (.seq (.seq (.region [I 3 (.mv) [T 0],
   I 4 (.callv) [F 320, T 3],
   I 5 (.un .not) [T 4]])
 (.cond (T 5)
 (.seq (.region [I 2 (.mv) [N 0]])
  (.ret))
 (.skip)))
 (.seq (.region [I 6 (.mv) [T 0],
   I 7 (.nilCheck) [T 6],
   I 8 (.fieldAddr 1) [T 7],
   I 9 (.load1) [T 8],
   I 2 (.mv) [T 9]])
 (.ret)))⟩
theorem t229 : trFn Tryz.prog Tryz.f229 = some c_spread_Counts_Len := by kernel_rfl
/-- (*pantry/spread.Counts).parts -/
abbrev n_spread_Counts_parts : Nat := 230
def c_spread_Counts_parts : AFn := ⟨8, [.tmp 6],
 .seq (.region [I 3 (.box 212 1) [T 0],
   I 4 (.box 3 1) [T 1],
   I 5 (.box 3 1) [T 2],
   I 6 (.mv) [.lit .nilfunc]])
 (.seq (.region [I 7 (.mkfunc 321 0) [T 3, T 4, T 5],
   I 6 (.mv) [T 7]])
 (.ret))⟩
theorem t230 : trFn Tryz.prog Tryz.f230 = some c_spread_Counts_parts := by kernel_rfl
/-- maps.Keys[map[int]*pantry/object.one,int,*pantry/object.one]$1 -/
abbrev n_maps_Keys_map_int_object_one_int_object_one_1 : Nat := 231
/-- live: [0, 5] -/
def c_maps_Keys_map_int_object_one_int_object_one_1_L0 : ACode :=
 .seq (.region [I 6 (.next) [T 5],
   I 7 (.extract 0) [T 6]])
 (.seq (.cond (T 7)
 (.skip)
 (.exit 0))
 (.block 1 (.seq (.region [I 8 (.entry) [T 5],
   I 9 (.extract 0) [T 8],
   I 3 (.mv) [T 9]])
 (.seq (.region [I 10 (.mv) [T 0],
   I 11 (.mv) [T 3],
   I 12 (.callv) [T 10, T 11],
   I 13 (.un .not) [T 12]])
 (.cond (T 13)
 (.ret)
 (.skip))))))
def c_maps_Keys_map_int_object_one_int_object_one_1 : AFn := ⟨14, [],
 .seq (.region [I 4 (.load1) [T 1],
   I 5 (.range) [T 4]])
 (.block 0 (.loop c_maps_Keys_map_int_object_one_int_object_one_1_L0))⟩
theorem t231 : trFn Tryz.prog Tryz.f231 = some c_maps_Keys_map_int_object_one_int_object_one_1 := by kernel_rfl
/-- pantry/walk.Leaves$1 -/
abbrev n_walk_Leaves_1 : Nat := 233
def c_walk_Leaves_1 : AFn := ⟨17, [],
 .seq (.region [I 3 (.box 228 1) [T 0]])
 (.seq (.region [I 4 (.alloc 314 1 (.vals [.nilfunc])) []])
 (.seq (.region [I 5 (.mkfunc 234 0) [T 1, T 3, T 4],
   J (.store 1) [T 4, T 5]])
 (.seq (.draw [[⟨0, I 6 (.load1) [T 2], [], false⟩,
   ⟨1, I 7 (.bin .geq) [T 6, N 0], [], false⟩,
   ⟨2, I 8 (.mv) [T 7], [], false⟩,
   ⟨3, IG 9 (.load1) [T 2] 8 true, [], false⟩,
   ⟨4, IG 10 (.load1) [T 1] 8 true, [], false⟩,
   ⟨5, IG 11 (.callv) [F 58, T 10] 8 true, [(3, IG 9 (.load1) [T 2] 8 true)], false⟩,
   ⟨6, IG 12 (.bin .lss) [T 9, T 11] 8 true, [], false⟩,
   ⟨7, I 13 (.pick) [T 8, T 12, .lit (.bool false)], [], false⟩]])
 (.cond (T 13)
 (.region [I 14 (.load1) [T 4],
    I 15 (.load1) [T 2],
    I 16 (.callv) [T 14, T 15, N 2, N 0]])
 (.skip)))))⟩
theorem t233 : trFn Tryz.prog Tryz.f233 = some c_walk_Leaves_1 := by kernel_rfl
/-- pantry/walk.Leaves$1$1 -/
abbrev n_walk_Leaves_1_1 : Nat := 234
/-- live: [0, 1, 2, 3, 4, 5, 15] -/
def c_walk_Leaves_1_1_L0 : ACode :=
 .seq (.region [I 16 (.bin .lss) [T 15, N 512]])
 (.seq (.cond (T 16)
 (.skip)
 (.exit 0))
 (.seq (.block 1 (.seq (.region [I 17 (.mv) [T 15],
   I 10 (.mv) [T 17]])
 (.seq (.region [I 18 (.mv) [T 2],
   I 19 (.bin .mul) [T 18, N 512],
   I 20 (.mv) [T 10],
   I 21 (.bin .add) [T 19, T 20],
   I 11 (.mv) [T 21]])
 (.seq (.seq (.region [I 22 (.mv) [T 1],
   I 23 (.bin .eql) [T 22, N 0]])
 (.cond (T 23)
 (.seq (.seq (.region [I 24 (.load1) [T 3],
    I 25 (.mv) [T 0],
    I 26 (.mv) [T 10],
    I 27 (.callv) [F 235, T 24, T 25, T 26],
    I 12 (.alloc 139 2 (.vals [(.int .i64 0), (.int .i64 0)])) [],
    J (.store 2) [T 12, T 27]])
  (.seq (.region [I 28 (.loadn 2) [T 12],
    I 29 (.callv) [F 149, T 28],
    I 30 (.bin .eql) [T 29, N 2],
    I 31 (.mv) [T 30],
    IG 32 (.load1) [T 4] 31 true,
    IG 33 (.mv) [T 11] 31 true,
    IG 34 (.loadn 2) [T 12] 31 true,
    IG 35 (.callv) [T 32, T 33, T 34] 31 true,
    IG 36 (.un .not) [T 35] 31 true,
    I 37 (.pick) [T 31, T 36, .lit (.bool false)]])
  (.cond (T 37)
  (.seq (.region [I 9 (.mv) [.lit (.bool false)]])
   (.ret))
  (.skip))))
  (.exit 1))
 (.skip)))
 (.seq (.region [I 39 (.load1) [T 3],
   I 40 (.mv) [T 0],
   I 41 (.mv) [T 10],
   I 42 (.callv) [F 236, T 39, T 40, T 41],
   I 38 (.mv) [T 42],
   I 43 (.extract 0) [T 38],
   I 44 (.extract 1) [T 38],
   I 13 (.mv) [T 43],
   I 14 (.mv) [T 44]])
 (.seq (.region [I 45 (.mv) [T 14],
   I 46 (.mv) [T 45],
   IG 47 (.load1) [T 5] 46 true,
   IG 48 (.mv) [T 13] 46 true,
   IG 49 (.mv) [T 1] 46 true,
   IG 50 (.bin .sub) [T 49, N 1] 46 true,
   IG 51 (.mv) [T 11] 46 true,
   IG 52 (.callv) [T 47, T 48, T 50, T 51] 46 true,
   IG 53 (.un .not) [T 52] 46 true,
   I 54 (.pick) [T 46, T 53, .lit (.bool false)]])
 (.cond (T 54)
 (.seq (.region [I 9 (.mv) [.lit (.bool false)]])
  (.ret))
 (.skip))))))))
 (.region [I 55 (.bin .add) [T 15, N 1],
   I 15 (.mv) [T 55]])))
def c_walk_Leaves_1_1 : AFn := ⟨56, [.tmp 9],
 .seq (.region [I 9 (.mv) [.lit (.bool false)]])
 (.seq (.seq (.region [I 15 (.mv) [N 0]])
 (.block 0 (.loop c_walk_Leaves_1_1_L0)))
 (.seq (.region [I 9 (.mv) [.lit (.bool true)]])
 (.ret)))⟩
theorem t234 : trFn Tryz.prog Tryz.f234 = some c_walk_Leaves_1_1 := by kernel_rfl
/-- pantry/walk.read -/
abbrev n_walk_read : Nat := 235
def c_walk_read : AFn := ⟨18, [.cell 6 (.loadn 2)],
 .seq (.region [I 6 (.alloc 139 2 (.vals [(.int .i64 0), (.int .i64 0)])) []])
 (.seq (.region [I 10 (.mv) [T 0],
   I 11 (.mv) [T 1],
   I 12 (.mv) [T 2],
   I 13 (.callv) [F 311, T 10, T 11, T 12],
   I 9 (.mv) [T 13],
   I 14 (.extract 0) [T 9],
   I 15 (.extract 1) [T 9],
   I 7 (.mv) [T 14],
   I 8 (.mv) [T 15]])
 (.seq (.region [I 16 (.mv) [T 7],
   I 17 (.callv) [F 322, T 16],
   J (.store 2) [T 6, T 17]])
 (.ret)))⟩
theorem t235 : trFn Tryz.prog Tryz.f235 = some c_walk_read := by kernel_rfl
/-- pantry/walk.below -/
abbrev n_walk_below : Nat := 236
def c_walk_below : AFn := ⟨25, [.tmp 6, .tmp 7],
 .seq (.region [I 6 (.mv) [N 0],
   I 7 (.mv) [.lit (.bool false)]])
 (.seq (.region [I 9 (.mv) [T 0],
   I 10 (.mv) [T 1],
   I 11 (.mv) [T 2],
   I 12 (.callv) [F 235, T 9, T 10, T 11],
   I 8 (.alloc 139 2 (.vals [(.int .i64 0), (.int .i64 0)])) [],
   J (.store 2) [T 8, T 12]])
 (.seq (.draw [[⟨0, I 13 (.fieldAddr 1) [T 8], [], false⟩,
   ⟨1, I 14 (.load1) [T 13], [], false⟩,
   ⟨2, I 15 (.loadn 2) [T 8], [], false⟩,
   ⟨3, I 16 (.callv) [F 149, T 15], [(1, I 14 (.load1) [T 13])], false⟩,
   ⟨4, I 17 (.bin .eql) [T 16, N 1], [], false⟩,
   ⟨5, I 18 (.mv) [T 17], [], false⟩,
   ⟨6, IG 19 (.fieldAddr 1) [T 8] 18 true, [], false⟩,
   ⟨7, IG 20 (.load1) [T 19] 18 true, [], false⟩,
   ⟨8, IG 21 (.mv) [T 0] 18 true, [], false⟩,
   ⟨9, IG 22 (.callv) [F 58, T 21] 18 true, [(1, I 14 (.load1) [T 13]), (7, IG 20 (.load1) [T 19] 18 true)], false⟩,
   ⟨10, IG 23 (.bin .lss) [T 20, T 22] 18 true, [], false⟩,
   ⟨11, I 24 (.pick) [T 18, T 23, .lit (.bool false)], [], false⟩,
   ⟨12, I 6 (.mv) [T 14], [], false⟩,
   ⟨13, I 7 (.mv) [T 24], [], false⟩]])
 (.ret)))⟩
theorem t236 : trFn Tryz.prog Tryz.f236 = some c_walk_below := by kernel_rfl
/-- (*pantry/kern.Kernel).take -/
abbrev n_kern_Kernel_take : Nat := 244
def c_kern_Kernel_take : AFn := ⟨20, [.tmp 8, .tmp 9],
 .seq (.region [I 8 (.mv) [N 0],
   I 9 (.mv) [N 0]])
 (.seq (.region [I 10 (.mv) [T 0],
   I 11 (.nilCheck) [T 10],
   I 12 (.fieldAddr 1) [T 11],
   I 13 (.load1) [T 12],
   I 14 (.mv) [T 1],
   I 15 (.mv) [T 2],
   I 16 (.mv) [T 3],
   I 17 (.callv) [F 297, T 13, T 14, T 15, T 16],
   I 18 (.extract 0) [T 17],
   I 19 (.extract 1) [T 17],
   I 8 (.mv) [T 18],
   I 9 (.mv) [T 19]])
 (.ret))⟩
theorem t244 : trFn Tryz.prog Tryz.f244 = some c_kern_Kernel_take := by kernel_rfl
/-- (*pantry/phys.Memory).Zero -/
abbrev n_phys_Memory_Zero : Nat := 245
def c_phys_Memory_Zero : AFn := ⟨8, [.tmp 4],
 .seq (.region [I 4 (.mv) [.lit (.bool false)]])
 (.seq (.region [I 5 (.mv) [T 0],
   I 6 (.mv) [T 1],
   I 7 (.callv) [F 247, T 5, T 6, .lit .nilsl],
   I 4 (.mv) [T 7]])
 (.ret))⟩
theorem t245 : trFn Tryz.prog Tryz.f245 = some c_phys_Memory_Zero := by kernel_rfl
/-- (*pantry/phys.Memory).Fill -/
abbrev n_phys_Memory_Fill : Nat := 247
def c_phys_Memory_Fill : AFn := ⟨20, [.tmp 6],
 .seq (.region [I 6 (.mv) [.lit (.bool false)]])
 (.seq (.region [I 9 (.mv) [T 0],
   I 10 (.mv) [T 1],
   I 11 (.callv) [F 136, T 9, T 10],
   I 7 (.mv) [T 11]])
 (.seq (.seq (.region [I 12 (.mv) [T 7],
   I 13 (.eqv false .ptr) [T 12, .lit .nilptr]])
 (.cond (T 13)
 (.seq (.region [I 6 (.mv) [.lit (.bool false)]])
  (.ret))
 (.skip)))
 (.seq (.region [I 8 (.alloc 308 4096 (.bytes 4096 0)) []])
 (.seq (.region [I 14 (.slicea 4096 1 false false false) [T 8],
   I 15 (.mv) [T 2],
   I 16 (.copy 1) [T 14, T 15]])
 (.seq (.region [I 17 (.mv) [T 7],
   I 18 (.loadn 4096) [T 8],
   I 19 (.nilCheck) [T 17],
   J (.store 4096) [T 19, T 18]])
 (.seq (.region [I 6 (.mv) [.lit (.bool true)]])
 (.ret)))))))⟩
theorem t247 : trFn Tryz.prog Tryz.f247 = some c_phys_Memory_Fill := by kernel_rfl
/-- pantry/entry.Good -/
abbrev n_entry_Good : Nat := 249
def c_entry_Good : AFn := ⟨84, [.tmp 2],
 .seq (.region [I 1 (.box 94 10) [T 0],
   I 2 (.mv) [.lit (.bool false)]])
 (.seq (.block 0 (.seq (.region [I 4 (.fieldAddr 0) [T 1],
   I 5 (.load1) [T 4],
   I 6 (.bin .lss) [T 5, N 0],
   I 7 (.mv) [T 6],
   IG 8 (.fieldAddr 1) [T 1] 7 false,
   IG 9 (.load1) [T 8] 7 false,
   IG 10 (.fieldAddr 0) [T 1] 7 false,
   IG 11 (.load1) [T 10] 7 false,
   IG 12 (.bin .leq) [T 9, T 11] 7 false,
   I 13 (.pick) [T 7, .lit (.bool true), T 12],
   I 14 (.mv) [T 13],
   IG 15 (.fieldAddr 1) [T 1] 14 false,
   IG 16 (.load1) [T 15] 14 false,
   IG 17 (.bin .gtr) [T 16, N 67108864] 14 false,
   I 18 (.pick) [T 14, .lit (.bool true), T 17],
   I 3 (.mv) [T 18]])
 (.cond (T 3)
 (.seq (.region [I 2 (.mv) [.lit (.bool false)]])
  (.ret))
 (.seq (.region [I 20 (.fieldAddr 2) [T 1],
    I 21 (.load1) [T 20],
    I 22 (.bin .lss) [T 21, N 0],
    I 23 (.mv) [T 22],
    IG 24 (.fieldAddr 3) [T 1] 23 false,
    IG 25 (.load1) [T 24] 23 false,
    IG 26 (.bin .lss) [T 25, N 0] 23 false,
    I 27 (.pick) [T 23, .lit (.bool true), T 26],
    I 28 (.mv) [T 27],
    IG 29 (.fieldAddr 2) [T 1] 28 false,
    IG 30 (.load1) [T 29] 28 false,
    IG 31 (.bin .eql) [T 30, N 0] 28 false,
    IG 32 (.mv) [T 31] 28 false,
    IG 33 (.fieldAddr 3) [T 1] 32 true,
    IG 34 (.load1) [T 33] 32 true,
    IG 35 (.bin .gtr) [T 34, N 0] 32 true,
    IG 36 (.pick) [T 32, T 35, .lit (.bool false)] 28 false,
    I 37 (.pick) [T 28, .lit (.bool true), T 36],
    I 19 (.mv) [T 37]])
  (.cond (T 19)
  (.seq (.region [I 2 (.mv) [.lit (.bool false)]])
   (.ret))
  (.seq (.region [I 39 (.fieldAddr 2) [T 1],
     I 40 (.load1) [T 39],
     I 41 (.bin .gtr) [T 40, N 0],
     I 42 (.mv) [T 41],
     IG 43 (.fieldAddr 3) [T 1] 42 true,
     IG 44 (.load1) [T 43] 42 true,
     IG 45 (.fieldAddr 1) [T 1] 42 true,
     IG 46 (.load1) [T 45] 42 true,
     IG 47 (.fieldAddr 0) [T 1] 42 true,
     IG 48 (.load1) [T 47] 42 true,
     IG 49 (.bin .sub) [T 46, T 48] 42 true,
     IG 50 (.bin .sub) [N 4096, T 49] 42 true,
     IG 51 (.bin .gtr) [T 44, T 50] 42 true,
     I 52 (.pick) [T 42, T 51, .lit (.bool false)],
     I 38 (.mv) [T 52]])
   (.cond (T 38)
   (.seq (.region [I 2 (.mv) [.lit (.bool false)]])
    (.ret))
   (.seq (.region [I 54 (.fieldAddr 6) [T 1],
      I 55 (.load1) [T 54],
      I 56 (.bin .andNot) [T 55, N 7],
      I 57 (.bin .neq) [T 56, N 0],
      I 58 (.mv) [T 57],
      IG 59 (.fieldAddr 5) [T 1] 58 false,
      IG 60 (.load1) [T 59] 58 false,
      IG 61 (.fieldAddr 6) [T 1] 58 false,
      IG 62 (.load1) [T 61] 58 false,
      IG 63 (.bin .andNot) [T 60, T 62] 58 false,
      IG 64 (.bin .neq) [T 63, N 0] 58 false,
      I 65 (.pick) [T 58, .lit (.bool true), T 64],
      I 53 (.mv) [T 65]])
    (.cond (T 53)
    (.seq (.region [I 2 (.mv) [.lit (.bool false)]])
     (.ret))
    (.skip))))))))))
 (.seq (.region [I 66 (.fieldAddr 7) [T 1],
   I 67 (.load1) [T 66],
   I 68 (.bin .geq) [T 67, N 0],
   I 69 (.mv) [T 68],
   IG 70 (.fieldAddr 7) [T 1] 69 true,
   IG 71 (.load1) [T 70] 69 true,
   IG 72 (.bin .leq) [T 71, N 2] 69 true,
   I 73 (.pick) [T 69, T 72, .lit (.bool false)],
   I 74 (.mv) [T 73],
   IG 75 (.fieldAddr 8) [T 1] 74 true,
   IG 76 (.load1) [T 75] 74 true,
   IG 77 (.bin .geq) [T 76, N 0] 74 true,
   I 78 (.pick) [T 74, T 77, .lit (.bool false)],
   I 79 (.mv) [T 78],
   IG 80 (.fieldAddr 8) [T 1] 79 true,
   IG 81 (.load1) [T 80] 79 true,
   IG 82 (.bin .leq) [T 81, N 4] 79 true,
   I 83 (.pick) [T 79, T 82, .lit (.bool false)],
   I 2 (.mv) [T 83]])
 (.ret)))⟩
theorem t249 : trFn Tryz.prog Tryz.f249 = some c_entry_Good := by kernel_rfl
/-- pantry/entry.Space -/
abbrev n_entry_Space : Nat := 252
def c_entry_Space : AFn := ⟨37, [.tmp 6, .tmp 7],
 .seq (.region [I 6 (.mv) [N 0],
   I 7 (.mv) [.lit (.bool false)]])
 (.seq (.seq (.region [I 12 (.mv) [T 2],
   I 13 (.bin .lss) [T 12, N 1],
   I 14 (.mv) [T 13],
   IG 15 (.mv) [T 2] 14 false,
   IG 16 (.bin .gtr) [T 15, N 67108864] 14 false,
   I 17 (.pick) [T 14, .lit (.bool true), T 16]])
 (.cond (T 17)
 (.seq (.region [I 6 (.mv) [N 0],
    I 7 (.mv) [.lit (.bool false)]])
  (.ret))
 (.skip)))
 (.seq (.seq (.region [I 19 (.mv) [T 0],
   I 20 (.mv) [T 1],
   I 21 (.max) [T 20, N 0],
   I 22 (.mv) [T 2],
   I 23 (.callv) [F 327, T 19, T 21, T 22],
   I 18 (.mv) [T 23],
   I 24 (.extract 0) [T 18],
   I 25 (.extract 1) [T 18],
   I 8 (.mv) [T 24],
   I 9 (.mv) [T 25]])
 (.seq (.region [I 26 (.mv) [T 9]])
 (.cond (T 26)
 (.seq (.region [I 27 (.mv) [T 8],
    I 6 (.mv) [T 27],
    I 7 (.mv) [.lit (.bool true)]])
  (.ret))
 (.skip))))
 (.seq (.region [I 29 (.mv) [T 0],
   I 30 (.mv) [T 2],
   I 31 (.callv) [F 327, T 29, N 0, T 30],
   I 28 (.mv) [T 31],
   I 32 (.extract 0) [T 28],
   I 33 (.extract 1) [T 28],
   I 10 (.mv) [T 32],
   I 11 (.mv) [T 33]])
 (.seq (.seq (.region [I 34 (.mv) [T 11],
   I 35 (.un .not) [T 34]])
 (.cond (T 35)
 (.seq (.region [I 6 (.mv) [N 0],
    I 7 (.mv) [.lit (.bool false)]])
  (.ret))
 (.skip)))
 (.seq (.region [I 36 (.mv) [T 10],
   I 6 (.mv) [T 36],
   I 7 (.mv) [.lit (.bool true)]])
 (.ret))))))⟩
theorem t252 : trFn Tryz.prog Tryz.f252 = some c_entry_Space := by kernel_rfl
/-- pantry/entry.Insert -/
abbrev n_entry_Insert : Nat := 253
def c_entry_Insert : AFn := ⟨44, [.tmp 4, .tmp 5],
 .seq (.region [I 3 (.box 94 10) [T 1],
   I 4 (.mv) [.lit .nilsl],
   I 5 (.mv) [.lit (.bool false)]])
 (.seq (.region [I 8 (.mv) [T 0],
   I 9 (.callv) [F 197, T 8],
   I 0 (.mv) [T 9]])
 (.seq (.seq (.region [I 10 (.loadn 10) [T 3],
   I 11 (.callv) [F 249, T 10],
   I 12 (.un .not) [T 11]])
 (.cond (T 12)
 (.seq (.region [I 13 (.mv) [T 0],
    I 4 (.mv) [T 13],
    I 5 (.mv) [.lit (.bool false)]])
  (.ret))
 (.skip)))
 (.seq (.region [I 15 (.mv) [T 0],
   I 16 (.fieldAddr 0) [T 3],
   I 17 (.load1) [T 16],
   I 18 (.callv) [F 122, T 15, T 17],
   I 14 (.mv) [T 18],
   I 19 (.extract 0) [T 14],
   I 20 (.extract 1) [T 14],
   I 6 (.mv) [T 19],
   I 7 (.mv) [T 20]])
 (.seq (.seq (.draw [[⟨0, I 21 (.mv) [T 7], [], false⟩,
   ⟨1, I 22 (.mv) [T 21], [], false⟩,
   ⟨2, IG 23 (.mv) [T 6] 22 false, [], false⟩,
   ⟨3, IG 24 (.mv) [T 0] 22 false, [], false⟩,
   ⟨4, IG 25 (.lens) [T 24] 22 false, [], false⟩,
   ⟨5, IG 26 (.bin .lss) [T 23, T 25] 22 false, [], false⟩,
   ⟨6, IG 27 (.mv) [T 26] 22 false, [], false⟩,
   ⟨7, IG 28 (.mv) [T 0] 27 true, [], false⟩,
   ⟨8, IG 29 (.mv) [T 6] 27 true, [], false⟩,
   ⟨9, IG 30 (.indexs 10) [T 28, T 29] 27 true, [], false⟩,
   ⟨10, IG 31 (.fieldAddr 0) [T 30] 27 true, [], false⟩,
   ⟨11, IG 32 (.load1) [T 31] 27 true, [], false⟩,
   ⟨12, IG 33 (.fieldAddr 1) [T 3] 27 true, [], false⟩,
   ⟨13, IG 34 (.load1) [T 33] 27 true, [], false⟩,
   ⟨14, IG 35 (.bin .lss) [T 32, T 34] 27 true, [], false⟩,
   ⟨15, IG 36 (.pick) [T 27, T 35, .lit (.bool false)] 22 false, [], false⟩,
   ⟨16, I 37 (.pick) [T 22, .lit (.bool true), T 36], [], false⟩]])
 (.cond (T 37)
 (.seq (.region [I 38 (.mv) [T 0],
    I 4 (.mv) [T 38],
    I 5 (.mv) [.lit (.bool false)]])
  (.ret))
 (.skip)))
 (.seq (.region [I 39 (.mv) [T 0],
   I 40 (.mv) [T 6],
   I 41 (.loadn 10) [T 3],
   I 42 (.bslice 94 10 1 (.vals [(.int .i64 0), (.int .i64 0), (.int .i64 0), (.int .i64 0), (.bool false), (.int .i64 0), (.int .i64 0), (.int .i64 0), (.int .i64 0), (.bool false)]) [0]) [T 41],
   I 43 (.callv) [F 328, T 39, T 40, T 42],
   I 4 (.mv) [T 43],
   I 5 (.mv) [.lit (.bool true)]])
 (.ret))))))⟩
theorem t253 : trFn Tryz.prog Tryz.f253 = some c_entry_Insert := by kernel_rfl
/-- pantry/entry.Merge -/
abbrev n_entry_Merge : Nat := 254
/-- live: [3, 7, 8, 9] -/
def c_entry_Merge_L0 : ACode :=
 .seq (.region [I 10 (.bin .lss) [T 9, T 8]])
 (.seq (.cond (T 10)
 (.skip)
 (.exit 0))
 (.seq (.block 1 (.seq (.region [I 11 (.indexs 10) [T 7, T 9],
   I 12 (.loadn 10) [T 11],
   I 5 (.alloc 94 10 (.vals [(.int .i64 0), (.int .i64 0), (.int .i64 0), (.int .i64 0), (.bool false), (.int .i64 0), (.int .i64 0), (.int .i64 0), (.int .i64 0), (.bool false)])) [],
   J (.store 10) [T 5, T 12]])
 (.seq (.region [I 13 (.mv) [T 3],
   I 14 (.lens) [T 13],
   I 15 (.bin .sub) [T 14, N 1],
   I 6 (.mv) [T 15]])
 (.seq (.draw [[⟨0, I 16 (.mv) [T 6], [], false⟩,
   ⟨1, I 17 (.bin .geq) [T 16, N 0], [], false⟩,
   ⟨2, I 18 (.mv) [T 17], [], false⟩,
   ⟨3, IG 19 (.mv) [T 3] 18 true, [], false⟩,
   ⟨4, IG 20 (.mv) [T 6] 18 true, [], false⟩,
   ⟨5, IG 21 (.indexs 10) [T 19, T 20] 18 true, [], false⟩,
   ⟨6, IG 22 (.loadn 10) [T 21] 18 true, [], false⟩,
   ⟨7, IG 23 (.loadn 10) [T 5] 18 true, [], false⟩,
   ⟨9, IG 25 (.loadn 10) [T 5] 18 true, [], false⟩,
   ⟨8, IG 24 (.callv) [F 329, T 22, T 23] 18 true, [(9, IG 25 (.loadn 10) [T 5] 18 true)], false⟩,
   ⟨10, IG 26 (.eqv false (.flat [.int, .int, .int, .int, .bool, .int, .int, .int, .int, .bool])) [T 24, T 25] 18 true, [], false⟩,
   ⟨11, I 27 (.pick) [T 18, T 26, .lit (.bool false)], [], false⟩]])
 (.cond (T 27)
 (.region [I 28 (.mv) [T 3],
    I 29 (.mv) [T 6],
    I 30 (.fieldAddr 1) [T 5],
    I 31 (.load1) [T 30],
    I 32 (.indexs 10) [T 28, T 29],
    I 33 (.fieldAddr 1) [T 32],
    J (.store 1) [T 33, T 31]])
 (.region [I 34 (.mv) [T 3],
    I 35 (.loadn 10) [T 5],
    I 36 (.bslice 94 10 1 (.vals [(.int .i64 0), (.int .i64 0), (.int .i64 0), (.int .i64 0), (.bool false), (.int .i64 0), (.int .i64 0), (.int .i64 0), (.int .i64 0), (.bool false)]) [0]) [T 35],
    I 37 (.append 94 10 80 (.vals [(.int .i64 0), (.int .i64 0), (.int .i64 0), (.int .i64 0), (.bool false), (.int .i64 0), (.int .i64 0), (.int .i64 0), (.int .i64 0), (.bool false)])) [T 34, T 36],
    I 3 (.mv) [T 37]]))))))
 (.region [I 38 (.bin .add) [T 9, N 1],
   I 9 (.mv) [T 38]])))
def c_entry_Merge : AFn := ⟨40, [.tmp 2],
 .seq (.region [I 2 (.mv) [.lit .nilsl]])
 (.seq (.region [I 3 (.mv) [.lit .nilsl]])
 (.seq (.seq (.region [I 7 (.mv) [T 0],
   I 8 (.lens) [T 7],
   I 9 (.mv) [N 0]])
 (.block 0 (.loop c_entry_Merge_L0)))
 (.seq (.region [I 39 (.mv) [T 3],
   I 2 (.mv) [T 39]])
 (.ret))))⟩
theorem t254 : trFn Tryz.prog Tryz.f254 = some c_entry_Merge := by kernel_rfl
/-- (*pantry/kern.Kernel).own -/
abbrev n_kern_Kernel_own : Nat := 259
/-- live: [0, 8, 9, 10] -/
def c_kern_Kernel_own_L0 : ACode :=
 .seq (.seq (.region [I 37 (.mv) [T 10],
   I 38 (.mv) [T 8],
   I 39 (.nilCheck) [T 38],
   I 40 (.loadn 6) [T 39],
   I 41 (.callv) [F 261, T 40],
   I 42 (.bin .lss) [T 37, T 41]])
 (.cond (T 42)
 (.skip)
 (.exit 0)))
 (.seq (.block 1 (.draw [[⟨0, I 45 (.mv) [T 9], [], false⟩,
   ⟨1, I 46 (.mv) [T 45], [], false⟩,
   ⟨2, IG 47 (.mv) [T 0] 46 true, [], false⟩,
   ⟨3, IG 48 (.nilCheck) [T 47] 46 true, [], false⟩,
   ⟨4, IG 49 (.fieldAddr 6) [T 48] 46 true, [], false⟩,
   ⟨5, IG 50 (.load1) [T 49] 46 true, [], false⟩,
   ⟨6, IG 51 (.mv) [T 8] 46 true, [], false⟩,
   ⟨7, IG 52 (.nilCheck) [T 51] 46 true, [], false⟩,
   ⟨8, IG 53 (.fieldAddr 2) [T 52] 46 true, [], false⟩,
   ⟨9, IG 54 (.load1) [T 53] 46 true, [], false⟩,
   ⟨10, IG 55 (.mv) [T 10] 46 true, [], false⟩,
   ⟨11, IG 56 (.callv) [F 62, T 50, T 54, T 55] 46 true, [], false⟩,
   ⟨12, IG 57 (.bin .eql) [T 56, N 1] 46 true, [], false⟩,
   ⟨13, I 58 (.pick) [T 46, T 57, .lit (.bool false)], [], false⟩,
   ⟨14, I 9 (.mv) [T 58], [], true⟩]]))
 (.region [I 43 (.mv) [T 10],
   I 44 (.bin .add) [T 43, N 1],
   I 10 (.mv) [T 44]]))
/-- live: [0, 8, 11, 85, 86, 87] -/
def c_kern_Kernel_own_L1 : ACode :=
 .seq (.region [I 88 (.bin .lss) [T 87, T 86]])
 (.seq (.cond (T 88)
 (.skip)
 (.exit 2))
 (.seq (.block 3 (.seq (.region [I 89 (.indexs 1) [T 85, T 87],
   I 90 (.load1) [T 89],
   I 15 (.mv) [T 90]])
 (.region [I 91 (.mv) [T 0],
   I 92 (.nilCheck) [T 91],
   I 93 (.fieldAddr 5) [T 92],
   I 94 (.load1) [T 93],
   I 95 (.mv) [T 15],
   I 96 (.callv) [F 333, T 94, T 95, N 1]])))
 (.region [I 97 (.bin .add) [T 87, N 1],
   I 87 (.mv) [T 97]])))
def c_kern_Kernel_own : AFn := ⟨114, [.tmp 6, .tmp 7],
 .seq (.region [I 6 (.mv) [.lit .nilptr],
   I 7 (.mv) [N 0]])
 (.seq (.region [I 16 (.mv) [T 1],
   I 17 (.mv) [T 2],
   I 18 (.callv) [F 124, T 16, T 17],
   I 8 (.mv) [T 18]])
 (.seq (.seq (.region [I 19 (.mv) [T 8],
   I 20 (.eqv false .ptr) [T 19, .lit .nilptr]])
 (.cond (T 20)
 (.seq (.region [I 21 (.mv) [T 0],
    I 22 (.mv) [T 1],
    I 23 (.mv) [T 2],
    I 24 (.callv) [F 331, T 21, T 22, T 23],
    I 25 (.extract 0) [T 24],
    I 26 (.extract 1) [T 24],
    I 6 (.mv) [T 25],
    I 7 (.mv) [T 26]])
  (.ret))
 (.skip)))
 (.seq (.seq (.region [I 27 (.mv) [T 8],
   I 28 (.nilCheck) [T 27],
   I 29 (.fieldAddr 4) [T 28],
   I 30 (.load1) [T 29],
   I 31 (.un .not) [T 30]])
 (.cond (T 31)
 (.seq (.region [I 32 (.mv) [T 8],
    I 6 (.mv) [T 32],
    I 7 (.mv) [N 0]])
  (.ret))
 (.skip)))
 (.seq (.region [I 9 (.mv) [.lit (.bool true)]])
 (.seq (.seq (.region [I 33 (.mv) [T 8],
   I 34 (.nilCheck) [T 33],
   I 35 (.fieldAddr 3) [T 34],
   I 36 (.load1) [T 35],
   I 10 (.mv) [T 36]])
 (.block 0 (.loop c_kern_Kernel_own_L0)))
 (.seq (.seq (.region [I 59 (.mv) [T 9],
   I 60 (.un .not) [T 59]])
 (.cond (T 60)
 (.seq (.draw [[⟨0, I 62 (.mv) [T 0], [], false⟩,
    ⟨1, I 63 (.nilCheck) [T 62], [], false⟩,
    ⟨2, I 64 (.fieldAddr 6) [T 63], [], false⟩,
    ⟨3, I 65 (.load1) [T 64], [], false⟩,
    ⟨4, I 66 (.mv) [T 8], [], false⟩,
    ⟨5, I 67 (.nilCheck) [T 66], [], false⟩,
    ⟨6, I 68 (.fieldAddr 2) [T 67], [], false⟩,
    ⟨7, I 69 (.load1) [T 68], [], false⟩,
    ⟨8, I 70 (.mv) [T 8], [], false⟩,
    ⟨9, I 71 (.nilCheck) [T 70], [], false⟩,
    ⟨10, I 72 (.fieldAddr 3) [T 71], [], false⟩,
    ⟨11, I 73 (.load1) [T 72], [], false⟩,
    ⟨12, I 74 (.mv) [T 8], [], false⟩,
    ⟨13, I 75 (.nilCheck) [T 74], [], false⟩,
    ⟨14, I 76 (.loadn 6) [T 75], [], false⟩,
    ⟨15, I 77 (.callv) [F 261, T 76], [(3, I 65 (.load1) [T 64]), (7, I 69 (.load1) [T 68]), (11, I 73 (.load1) [T 72])], false⟩,
    ⟨16, I 78 (.callv) [F 332, T 65, T 69, T 73, T 77], [], false⟩,
    ⟨17, I 61 (.mv) [T 78], [], false⟩,
    ⟨18, I 79 (.extract 0) [T 61], [], false⟩,
    ⟨19, I 80 (.extract 1) [T 61], [], false⟩,
    ⟨20, I 81 (.extract 2) [T 61], [], false⟩,
    ⟨21, I 11 (.mv) [T 79], [], false⟩,
    ⟨22, I 12 (.mv) [T 80], [], false⟩,
    ⟨23, I 13 (.mv) [T 81], [], false⟩]])
  (.seq (.seq (.region [I 82 (.mv) [T 13],
    I 83 (.bin .neq) [T 82, N 0]])
  (.cond (T 83)
  (.seq (.region [I 84 (.mv) [T 13],
     I 6 (.mv) [.lit .nilptr],
     I 7 (.mv) [T 84]])
   (.ret))
  (.skip)))
  (.seq (.seq (.region [I 85 (.mv) [T 12],
    I 86 (.lens) [T 85],
    I 87 (.mv) [N 0]])
  (.block 2 (.loop c_kern_Kernel_own_L1)))
  (.seq (.region [I 98 (.mv) [T 0],
    I 99 (.mv) [T 8],
    I 100 (.nilCheck) [T 99],
    I 101 (.loadn 6) [T 100],
    I 102 (.callv) [F 172, T 98, T 101]])
  (.region [I 103 (.mv) [T 8],
    I 104 (.mv) [T 8],
    I 105 (.mv) [T 11],
    I 106 (.nilCheck) [T 103],
    I 107 (.fieldAddr 2) [T 106],
    J (.store 1) [T 107, T 105],
    I 108 (.nilCheck) [T 104],
    I 109 (.fieldAddr 3) [T 108],
    J (.store 1) [T 109, N 0]])))))
 (.skip)))
 (.seq (.region [I 110 (.mv) [T 8],
   I 111 (.nilCheck) [T 110],
   I 112 (.fieldAddr 4) [T 111],
   J (.store 1) [T 112, .lit (.bool false)]])
 (.seq (.region [I 113 (.mv) [T 8],
   I 6 (.mv) [T 113],
   I 7 (.mv) [N 0]])
 (.ret)))))))))⟩
theorem t259 : trFn Tryz.prog Tryz.f259 = some c_kern_Kernel_own := by kernel_rfl
/-- (*pantry/pmap.Map).below -/
abbrev n_pmap_Map_below : Nat := 263
def c_pmap_Map_below : AFn := ⟨38, [.tmp 6, .tmp 7],
 .seq (.region [I 6 (.mv) [N 0],
   I 7 (.mv) [.lit (.bool false)]])
 (.seq (.region [I 12 (.mv) [T 0],
   I 13 (.nilCheck) [T 12],
   I 14 (.fieldAddr 0) [T 13],
   I 15 (.load1) [T 14],
   I 16 (.mv) [T 1],
   I 17 (.mv) [T 2],
   I 18 (.callv) [F 311, T 15, T 16, T 17],
   I 11 (.mv) [T 18],
   I 19 (.extract 0) [T 11],
   I 20 (.extract 1) [T 11],
   I 8 (.mv) [T 19],
   I 9 (.mv) [T 20]])
 (.seq (.region [I 21 (.mv) [T 8],
   I 22 (.callv) [F 322, T 21],
   I 10 (.alloc 139 2 (.vals [(.int .i64 0), (.int .i64 0)])) [],
   J (.store 2) [T 10, T 22]])
 (.seq (.draw [[⟨0, I 23 (.fieldAddr 1) [T 10], [], false⟩,
   ⟨1, I 24 (.load1) [T 23], [], false⟩,
   ⟨2, I 25 (.loadn 2) [T 10], [], false⟩,
   ⟨3, I 26 (.callv) [F 149, T 25], [(1, I 24 (.load1) [T 23])], false⟩,
   ⟨4, I 27 (.bin .eql) [T 26, N 1], [], false⟩,
   ⟨5, I 28 (.mv) [T 27], [], false⟩,
   ⟨6, IG 29 (.fieldAddr 1) [T 10] 28 true, [], false⟩,
   ⟨7, IG 30 (.load1) [T 29] 28 true, [], false⟩,
   ⟨8, IG 31 (.mv) [T 0] 28 true, [], false⟩,
   ⟨9, IG 32 (.nilCheck) [T 31] 28 true, [], false⟩,
   ⟨10, IG 33 (.fieldAddr 0) [T 32] 28 true, [], false⟩,
   ⟨11, IG 34 (.load1) [T 33] 28 true, [], false⟩,
   ⟨12, IG 35 (.callv) [F 58, T 34] 28 true, [(1, I 24 (.load1) [T 23]), (7, IG 30 (.load1) [T 29] 28 true)], false⟩,
   ⟨13, IG 36 (.bin .lss) [T 30, T 35] 28 true, [], false⟩,
   ⟨14, I 37 (.pick) [T 28, T 36, .lit (.bool false)], [], false⟩,
   ⟨15, I 6 (.mv) [T 24], [], false⟩,
   ⟨16, I 7 (.mv) [T 37], [], false⟩]])
 (.ret))))⟩
theorem t263 : trFn Tryz.prog Tryz.f263 = some c_pmap_Map_below := by kernel_rfl
/-- (*pantry/pmap.Map).give -/
abbrev n_pmap_Map_give : Nat := 264
def c_pmap_Map_give : AFn := ⟨35, [],
 .seq (.region [I 9 (.mv) [T 0],
   I 10 (.mv) [T 1],
   I 11 (.mv) [T 2],
   I 12 (.callv) [F 263, T 9, T 10, T 11],
   I 8 (.mv) [T 12],
   I 13 (.extract 0) [T 8],
   I 14 (.extract 1) [T 8],
   I 6 (.mv) [T 13],
   I 7 (.mv) [T 14]])
 (.seq (.region [I 15 (.mv) [T 0],
   I 16 (.nilCheck) [T 15],
   I 17 (.fieldAddr 1) [T 16],
   I 18 (.load1) [T 17],
   I 19 (.mv) [T 6],
   I 20 (.callv) [F 91, T 18, T 19]])
 (.seq (.region [I 21 (.mv) [T 0],
   I 22 (.nilCheck) [T 21],
   I 23 (.fieldAddr 0) [T 22],
   I 24 (.load1) [T 23],
   I 25 (.mv) [T 1],
   I 26 (.mv) [T 2],
   I 27 (.callv) [F 289, T 24, T 25, T 26, .lit (.int .u64 0)]])
 (.region [I 28 (.mv) [T 0],
   I 29 (.nilCheck) [T 28],
   I 30 (.fieldAddr 4) [T 29],
   I 31 (.load1) [T 30],
   I 32 (.bin .sub) [T 31, N 1],
   I 33 (.nilCheck) [T 28],
   I 34 (.fieldAddr 4) [T 33],
   J (.store 1) [T 34, T 32]])))⟩
theorem t264 : trFn Tryz.prog Tryz.f264 = some c_pmap_Map_give := by kernel_rfl
/-- pantry/spread.New -/
abbrev n_spread_New : Nat := 267
def c_spread_New : AFn := ⟨16, [.tmp 2],
 .seq (.region [I 2 (.mv) [.lit .nilptr]])
 (.seq (.seq (.region [I 4 (.mv) [T 0],
   I 5 (.bin .lss) [T 4, N 0],
   I 6 (.mv) [T 5],
   IG 7 (.mv) [T 0] 6 false,
   IG 8 (.bin .gtr) [T 7, N 4096] 6 false,
   I 9 (.pick) [T 6, .lit (.bool true), T 8]])
 (.cond (T 9)
 (.seq (.region [I 2 (.mv) [.lit .nilptr]])
  (.ret))
 (.skip)))
 (.seq (.region [I 10 (.build (.agg [.nilsl, (.int .i64 0), (.bool false)]) [(2, 1)]) [.lit (.bool true)],
   I 11 (.box 373 3) [T 10],
   I 3 (.mv) [T 11]])
 (.seq (.region [I 12 (.mv) [T 3],
   I 13 (.mv) [T 0],
   I 14 (.callv) [F 337, T 12, T 13]])
 (.seq (.region [I 15 (.mv) [T 3],
   I 2 (.mv) [T 15]])
 (.ret)))))⟩
theorem t267 : trFn Tryz.prog Tryz.f267 = some c_spread_New := by kernel_rfl
/-- (*pantry/spread.Counts).Add -/
abbrev n_spread_Counts_Add : Nat := 268
/-- live: [7, 10, 11, 12] -/
def c_spread_Counts_Add_L1 : ACode :=
 .seq (.seq (.region [I 53 (.load1) [T 7],
   I 54 (.bin .neq) [T 53, N 0],
   I 55 (.mv) [T 54],
   IG 56 (.load1) [T 7] 55 true,
   IG 57 (.fieldAddr 2) [T 11] 55 true,
   IG 58 (.load1) [T 57] 55 true,
   IG 59 (.un .neg) [T 58] 55 true,
   IG 60 (.bin .eql) [T 56, T 59] 55 true,
   I 61 (.pick) [T 55, T 60, .lit (.bool false)],
   I 62 (.mv) [T 61],
   IG 63 (.mv) [T 12] 62 true,
   IG 64 (.fieldAddr 1) [T 11] 62 true,
   IG 65 (.load1) [T 64] 62 true,
   IG 66 (.bin .lss) [T 63, T 65] 62 true,
   I 67 (.pick) [T 62, T 66, .lit (.bool false)]])
 (.cond (T 67)
 (.skip)
 (.exit 2)))
 (.seq (.block 3 (.region [I 70 (.load1) [T 10],
   I 71 (.mv) [T 12],
   I 72 (.bslice 3 1 1 (.vals [(.int .i64 0)]) [0]) [T 71],
   I 73 (.append 3 1 8 (.vals [(.int .i64 0)])) [T 70, T 72],
   J (.store 1) [T 10, T 73]]))
 (.region [I 68 (.mv) [T 12],
   I 69 (.bin .add) [T 68, N 1],
   I 12 (.mv) [T 69]]))
/-- live: [7, 8, 9, 10] -/
def c_spread_Counts_Add_A0 : ACode :=
 .region [I 11 (.alloc 313 3 (.vals [(.int .i64 0), (.int .i64 0), (.int .i64 0)])) [],
   J (.store 3) [T 11, T 38]]
def c_spread_Counts_Add_B0 : ACode :=
 .block 1 (.seq (.seq (.region [I 39 (.load1) [T 7],
   I 40 (.fieldAddr 2) [T 11],
   I 41 (.load1) [T 40],
   I 42 (.un .neg) [T 41],
   I 43 (.bin .lss) [T 39, T 42],
   I 44 (.mv) [T 43],
   IG 45 (.load1) [T 7] 44 false,
   IG 46 (.fieldAddr 2) [T 11] 44 false,
   IG 47 (.load1) [T 46] 44 false,
   IG 48 (.bin .sub) [N 1000000, T 47] 44 false,
   IG 49 (.bin .gtr) [T 45, T 48] 44 false,
   I 50 (.pick) [T 44, .lit (.bool true), T 49]])
 (.cond (T 50)
 (.seq (.region [J (.store 1) [T 8, .lit .nilsl],
    J (.store 1) [T 9, N 2]])
  (.ret))
 (.skip)))
 (.seq (.region [I 51 (.fieldAddr 0) [T 11],
   I 52 (.load1) [T 51],
   I 12 (.mv) [T 52]])
 (.block 2 (.loop c_spread_Counts_Add_L1))))
/-- live: [0, 1, 2, 7, 8, 9, 10, 13, 84, 85, 86] -/
def c_spread_Counts_Add_L2 : ACode :=
 .seq (.region [I 87 (.bin .lss) [T 86, T 85]])
 (.seq (.cond (T 87)
 (.skip)
 (.exit 4))
 (.seq (.block 5 (.seq (.region [I 88 (.mv) [T 86],
   I 89 (.indexs 3) [T 84, T 86],
   I 90 (.loadn 3) [T 89],
   I 15 (.alloc 313 3 (.vals [(.int .i64 0), (.int .i64 0), (.int .i64 0)])) [],
   I 14 (.mv) [T 88],
   J (.store 3) [T 15, T 90]])
 (.seq (.region [I 91 (.fieldAddr 0) [T 15],
   I 92 (.load1) [T 91],
   I 93 (.mv) [T 1],
   I 94 (.bin .geq) [T 92, T 93],
   I 95 (.mv) [T 94],
   IG 96 (.fieldAddr 1) [T 15] 95 true,
   IG 97 (.load1) [T 96] 95 true,
   IG 98 (.mv) [T 2] 95 true,
   IG 99 (.bin .leq) [T 97, T 98] 95 true,
   I 100 (.pick) [T 95, T 99, .lit (.bool false)]])
 (.cond (T 100)
 (.draw [[⟨0, I 101 (.mv) [T 13], [], false⟩,
    ⟨1, I 102 (.mv) [T 14], [], false⟩,
    ⟨2, I 103 (.indexs 3) [T 101, T 102], [], false⟩,
    ⟨3, I 104 (.fieldAddr 2) [T 103], [], false⟩,
    ⟨4, I 105 (.load1) [T 104], [], false⟩,
    ⟨5, I 106 (.load1) [T 7], [], false⟩,
    ⟨6, I 107 (.bin .add) [T 105, T 106], [], false⟩,
    ⟨7, I 108 (.indexs 3) [T 101, T 102], [], false⟩,
    ⟨8, I 109 (.fieldAddr 2) [T 108], [], false⟩,
    ⟨9, J (.store 1) [T 109, T 107], [], false⟩]])
 (.skip)))))
 (.region [I 110 (.bin .add) [T 86, N 1],
   I 86 (.mv) [T 110]])))
def c_spread_Counts_Add : AFn := ⟨117, [.cell 8 (.load1), .cell 9 (.load1)],
 .seq (.region [I 7 (.box 3 1) [T 3],
   I 8 (.alloc 34 1 (.vals [.nilsl])) [],
   I 9 (.alloc 30 1 (.vals [(.int .i64 0)])) []])
 (.seq (.seq (.region [I 16 (.mv) [T 0],
   I 17 (.callv) [F 320, T 16],
   I 18 (.un .not) [T 17]])
 (.cond (T 18)
 (.seq (.region [J (.store 1) [T 8, .lit .nilsl],
    J (.store 1) [T 9, N 1]])
  (.ret))
 (.skip)))
 (.seq (.seq (.region [I 19 (.mv) [T 1],
   I 20 (.bin .lss) [T 19, N 0],
   I 21 (.mv) [T 20],
   IG 22 (.mv) [T 2] 21 false,
   IG 23 (.mv) [T 0] 21 false,
   IG 24 (.nilCheck) [T 23] 21 false,
   IG 25 (.fieldAddr 1) [T 24] 21 false,
   IG 26 (.load1) [T 25] 21 false,
   IG 27 (.bin .gtr) [T 22, T 26] 21 false,
   I 28 (.pick) [T 21, .lit (.bool true), T 27],
   I 29 (.mv) [T 28],
   IG 30 (.mv) [T 1] 29 false,
   IG 31 (.mv) [T 2] 29 false,
   IG 32 (.bin .gtr) [T 30, T 31] 29 false,
   I 33 (.pick) [T 29, .lit (.bool true), T 32]])
 (.cond (T 33)
 (.seq (.region [J (.store 1) [T 8, .lit .nilsl],
    J (.store 1) [T 9, N 2]])
  (.ret))
 (.skip)))
 (.seq (.region [I 10 (.alloc 34 1 (.vals [.nilsl])) []])
 (.seq (.seq (.region [I 34 (.mv) [T 0],
   I 35 (.mv) [T 1],
   I 36 (.mv) [T 2],
   I 37 (.callv) [F 230, T 34, T 35, T 36]])
 (.block 0 (.rfun (T 37) [38] c_spread_Counts_Add_A0 c_spread_Counts_Add_B0)))
 (.seq (.region [I 74 (.mv) [T 0],
   I 75 (.nilCheck) [T 74],
   I 76 (.fieldAddr 0) [T 75],
   I 77 (.load1) [T 76],
   I 78 (.mv) [T 1],
   I 79 (.callv) [F 338, T 77, T 78],
   I 80 (.mv) [T 2],
   I 81 (.callv) [F 338, T 79, T 80],
   I 13 (.mv) [T 81]])
 (.seq (.region [I 82 (.mv) [T 13],
   I 83 (.callv) [F 339, T 82],
   I 13 (.mv) [T 83]])
 (.seq (.seq (.region [I 84 (.mv) [T 13],
   I 85 (.lens) [T 84],
   I 86 (.mv) [N 0]])
 (.block 4 (.loop c_spread_Counts_Add_L2)))
 (.seq (.region [I 111 (.mv) [T 0],
   I 112 (.mv) [T 13],
   I 113 (.callv) [F 340, T 112],
   I 114 (.nilCheck) [T 111],
   I 115 (.fieldAddr 0) [T 114],
   J (.store 1) [T 115, T 113]])
 (.seq (.region [I 116 (.load1) [T 10],
   J (.store 1) [T 8, T 116],
   J (.store 1) [T 9, N 0]])
 (.ret))))))))))⟩
theorem t268 : trFn Tryz.prog Tryz.f268 = some c_spread_Counts_Add := by kernel_rfl
/-- slices.Index[[]*pantry/amap.one,*pantry/amap.one] -/
abbrev n_slices_Index_amap_one_amap_one : Nat := 269
/-- live: [0, 1, 7, 8] -/
def c_slices_Index_amap_one_amap_one_L0 : ACode :=
 .seq (.region [I 9 (.bin .lss) [T 8, T 7]])
 (.seq (.cond (T 9)
 (.skip)
 (.exit 0))
 (.seq (.block 1 (.seq (.region [I 10 (.mv) [T 8],
   I 5 (.mv) [T 10]])
 (.seq (.region [I 11 (.mv) [T 1],
   I 12 (.mv) [T 0],
   I 13 (.mv) [T 5],
   I 14 (.indexs 1) [T 12, T 13],
   I 15 (.load1) [T 14],
   I 16 (.eqv false .ptr) [T 11, T 15]])
 (.cond (T 16)
 (.seq (.region [I 17 (.mv) [T 5],
    I 4 (.mv) [T 17]])
  (.ret))
 (.skip)))))
 (.region [I 18 (.bin .add) [T 8, N 1],
   I 8 (.mv) [T 18]])))
def c_slices_Index_amap_one_amap_one : AFn := ⟨19, [.tmp 4],
 .seq (.region [I 4 (.mv) [N 0]])
 (.seq (.seq (.region [I 6 (.mv) [T 0],
   I 7 (.lens) [T 6],
   I 8 (.mv) [N 0]])
 (.block 0 (.loop c_slices_Index_amap_one_amap_one_L0)))
 (.seq (.region [I 4 (.mv) [N (-1)]])
 (.ret)))⟩
theorem t269 : trFn Tryz.prog Tryz.f269 = some c_slices_Index_amap_one_amap_one := by kernel_rfl
/-- (*pantry/amap.Pool).Set -/
abbrev n_amap_Pool_Set : Nat := 271
def c_amap_Pool_Set : AFn := ⟨48, [.tmp 8, .tmp 9],
 .seq (.region [I 8 (.mv) [N 0],
   I 9 (.mv) [N 0]])
 (.seq (.region [I 14 (.mv) [T 0],
   I 15 (.mv) [T 1],
   I 16 (.callv) [F 334, T 14, T 15],
   I 13 (.mv) [T 16],
   I 17 (.extract 0) [T 13],
   I 18 (.extract 1) [T 13],
   I 10 (.mv) [T 17],
   I 11 (.mv) [T 18]])
 (.seq (.block 0 (.seq (.region [I 20 (.mv) [T 11],
   I 21 (.bin .neq) [T 20, N 0],
   I 19 (.mv) [T 21]])
 (.cond (T 19)
 (.seq (.region [I 22 (.mv) [T 11],
    I 8 (.mv) [N 0],
    I 9 (.mv) [T 22]])
  (.ret))
 (.seq (.region [I 24 (.mv) [T 0],
    I 25 (.mv) [T 1],
    I 26 (.mv) [T 2],
    I 27 (.callv) [F 62, T 24, T 25, T 26],
    I 28 (.bin .eql) [T 27, N 0],
    I 29 (.mv) [T 28],
    IG 30 (.mv) [T 3] 29 false,
    IG 31 (.bin .lss) [T 30, N 0] 29 false,
    I 32 (.pick) [T 29, .lit (.bool true), T 31],
    I 23 (.mv) [T 32]])
  (.cond (T 23)
  (.seq (.region [I 8 (.mv) [N 0],
     I 9 (.mv) [N 2]])
   (.ret))
  (.skip))))))
 (.seq (.region [I 33 (.mv) [T 10],
   I 34 (.nilCheck) [T 33],
   I 35 (.fieldAddr 1) [T 34],
   I 36 (.load1) [T 35],
   I 37 (.mv) [T 2],
   I 38 (.indexs 1) [T 36, T 37],
   I 39 (.load1) [T 38],
   I 12 (.mv) [T 39]])
 (.seq (.region [I 40 (.mv) [T 10],
   I 41 (.nilCheck) [T 40],
   I 42 (.fieldAddr 1) [T 41],
   I 43 (.load1) [T 42],
   I 44 (.mv) [T 2],
   I 45 (.mv) [T 3],
   I 46 (.indexs 1) [T 43, T 44],
   J (.store 1) [T 46, T 45]])
 (.seq (.region [I 47 (.mv) [T 12],
   I 8 (.mv) [T 47],
   I 9 (.mv) [N 0]])
 (.ret))))))⟩
theorem t271 : trFn Tryz.prog Tryz.f271 = some c_amap_Pool_Set := by kernel_rfl
/-- (*pantry/anon.Pool).Make -/
abbrev n_anon_Pool_Make : Nat := 272
def c_anon_Pool_Make : AFn := ⟨51, [.tmp 4, .tmp 5],
 .seq (.region [I 4 (.mv) [N 0],
   I 5 (.mv) [N 0]])
 (.seq (.block 0 (.seq (.region [I 8 (.mv) [T 0],
   I 9 (.callv) [F 123, T 8],
   I 10 (.un .not) [T 9],
   I 7 (.mv) [T 10]])
 (.cond (T 7)
 (.seq (.region [I 4 (.mv) [N 0],
    I 5 (.mv) [N 1]])
  (.ret))
 (.seq (.draw [[⟨0, I 12 (.mv) [T 0], [], false⟩,
    ⟨1, I 13 (.nilCheck) [T 12], [], false⟩,
    ⟨2, I 14 (.fieldAddr 2) [T 13], [], false⟩,
    ⟨3, I 15 (.load1) [T 14], [], false⟩,
    ⟨4, I 16 (.lenm) [T 15], [], false⟩,
    ⟨5, I 17 (.mv) [T 0], [], false⟩,
    ⟨6, I 18 (.nilCheck) [T 17], [], false⟩,
    ⟨7, I 19 (.fieldAddr 0) [T 18], [], false⟩,
    ⟨8, I 20 (.load1) [T 19], [], false⟩,
    ⟨9, I 21 (.bin .geq) [T 16, T 20], [], false⟩,
    ⟨10, I 11 (.mv) [T 21], [], false⟩]])
  (.cond (T 11)
  (.seq (.region [I 4 (.mv) [N 0],
     I 5 (.mv) [N 5]])
   (.ret))
  (.skip))))))
 (.seq (.region [I 6 (.mv) [N 0]])
 (.seq (.seq (.region [I 22 (.mv) [T 0],
   I 23 (.nilCheck) [T 22],
   I 24 (.fieldAddr 3) [T 23],
   I 25 (.load1) [T 24],
   I 26 (.lens) [T 25],
   I 27 (.bin .gtr) [T 26, N 0]])
 (.cond (T 27)
 (.region [I 28 (.mv) [T 0],
    I 29 (.nilCheck) [T 28],
    I 30 (.fieldAddr 3) [T 29],
    I 31 (.callv) [F 341, T 30],
    I 6 (.mv) [T 31]])
 (.seq (.region [I 32 (.mv) [T 0],
    I 33 (.nilCheck) [T 32],
    I 34 (.fieldAddr 4) [T 33],
    I 35 (.load1) [T 34],
    I 36 (.bin .add) [T 35, N 1],
    I 37 (.nilCheck) [T 32],
    I 38 (.fieldAddr 4) [T 37],
    J (.store 1) [T 38, T 36]])
  (.region [I 39 (.mv) [T 0],
    I 40 (.nilCheck) [T 39],
    I 41 (.fieldAddr 4) [T 40],
    I 42 (.load1) [T 41],
    I 6 (.mv) [T 42]]))))
 (.seq (.region [I 43 (.mv) [T 0],
   I 44 (.nilCheck) [T 43],
   I 45 (.fieldAddr 2) [T 44],
   I 46 (.load1) [T 45],
   I 47 (.mv) [T 6],
   I 48 (.mv) [T 1],
   I 49 (.build (.agg [(.int .i64 0), (.int .i64 0), (.int .i64 0)]) [(0, 1), (1, 1), (2, 1)]) [N 1, T 48, N (-1)],
   J (.mapput (.scal .int)) [T 46, T 47, T 49]])
 (.seq (.region [I 50 (.mv) [T 6],
   I 4 (.mv) [T 50],
   I 5 (.mv) [N 0]])
 (.ret))))))⟩
theorem t272 : trFn Tryz.prog Tryz.f272 = some c_anon_Pool_Make := by kernel_rfl
/-- slices.Insert[[]pantry/kern.area,pantry/kern.area] -/
abbrev n_slices_Insert_kern_area_kern_area : Nat := 276
def c_slices_Insert_kern_area_kern_area : AFn := ⟨95, [.tmp 6],
 .seq (.region [I 6 (.mv) [.lit .nilsl]])
 (.seq (.region [I 10 (.mv) [T 0],
   I 11 (.mv) [T 1],
   I 12 (.slice 6 true false false) [T 10, T 11]])
 (.seq (.region [I 13 (.mv) [T 2],
   I 14 (.lens) [T 13],
   I 7 (.mv) [T 14]])
 (.seq (.seq (.region [I 15 (.mv) [T 7],
   I 16 (.bin .eql) [T 15, N 0]])
 (.cond (T 16)
 (.seq (.region [I 17 (.mv) [T 0],
    I 6 (.mv) [T 17]])
  (.ret))
 (.skip)))
 (.seq (.region [I 18 (.mv) [T 0],
   I 19 (.lens) [T 18],
   I 8 (.mv) [T 19]])
 (.seq (.seq (.region [I 20 (.mv) [T 1],
   I 21 (.mv) [T 8],
   I 22 (.bin .eql) [T 20, T 21]])
 (.cond (T 22)
 (.seq (.region [I 23 (.mv) [T 0],
    I 24 (.mv) [T 2],
    I 25 (.append 132 6 40 (.vals [(.int .i64 0), (.int .i64 0), (.int .i64 0), (.int .i64 0), (.bool false), (.bool false)])) [T 23, T 24],
    I 6 (.mv) [T 25]])
  (.ret))
 (.skip)))
 (.seq (.seq (.region [I 26 (.mv) [T 8],
   I 27 (.mv) [T 7],
   I 28 (.bin .add) [T 26, T 27],
   I 29 (.mv) [T 0],
   I 30 (.cap) [T 29],
   I 31 (.bin .gtr) [T 28, T 30]])
 (.cond (T 31)
 (.seq (.region [I 32 (.mv) [T 0],
    I 33 (.mv) [T 1],
    I 34 (.slice 6 false true false) [T 32, T 33],
    I 35 (.mv) [T 8],
    I 36 (.mv) [T 7],
    I 37 (.bin .add) [T 35, T 36],
    I 38 (.mv) [T 1],
    I 39 (.bin .sub) [T 37, T 38],
    I 40 (.appendz 132 6 40 (.vals [(.int .i64 0), (.int .i64 0), (.int .i64 0), (.int .i64 0), (.bool false), (.bool false)])) [T 34, T 39],
    I 9 (.mv) [T 40]])
  (.seq (.region [I 41 (.mv) [T 9],
    I 42 (.mv) [T 1],
    I 43 (.slice 6 true false false) [T 41, T 42],
    I 44 (.mv) [T 2],
    I 45 (.copy 6) [T 43, T 44]])
  (.seq (.draw [[⟨0, I 46 (.mv) [T 9], [], false⟩,
    ⟨1, I 47 (.mv) [T 1], [], false⟩,
    ⟨2, I 48 (.mv) [T 7], [], false⟩,
    ⟨3, I 49 (.bin .add) [T 47, T 48], [], false⟩,
    ⟨4, I 50 (.slice 6 true false false) [T 46, T 49], [], false⟩,
    ⟨5, I 51 (.mv) [T 0], [], false⟩,
    ⟨6, I 52 (.mv) [T 1], [], false⟩,
    ⟨7, I 53 (.slice 6 true false false) [T 51, T 52], [], false⟩,
    ⟨8, I 54 (.copy 6) [T 50, T 53], [], false⟩]])
  (.seq (.region [I 55 (.mv) [T 9],
    I 6 (.mv) [T 55]])
  (.ret)))))
 (.skip)))
 (.seq (.region [I 56 (.mv) [T 0],
   I 57 (.mv) [T 8],
   I 58 (.mv) [T 7],
   I 59 (.bin .add) [T 57, T 58],
   I 60 (.slice 6 false true false) [T 56, T 59],
   I 0 (.mv) [T 60]])
 (.seq (.seq (.region [I 61 (.mv) [T 2],
   I 62 (.mv) [T 0],
   I 63 (.mv) [T 1],
   I 64 (.mv) [T 7],
   I 65 (.bin .add) [T 63, T 64],
   I 66 (.slice 6 true false false) [T 62, T 65],
   I 67 (.callv) [F 343, T 61, T 66],
   I 68 (.un .not) [T 67]])
 (.cond (T 68)
 (.seq (.draw [[⟨0, I 69 (.mv) [T 0], [], false⟩,
    ⟨1, I 70 (.mv) [T 1], [], false⟩,
    ⟨2, I 71 (.mv) [T 7], [], false⟩,
    ⟨3, I 72 (.bin .add) [T 70, T 71], [], false⟩,
    ⟨4, I 73 (.slice 6 true false false) [T 69, T 72], [], false⟩,
    ⟨5, I 74 (.mv) [T 0], [], false⟩,
    ⟨6, I 75 (.mv) [T 1], [], false⟩,
    ⟨7, I 76 (.slice 6 true false false) [T 74, T 75], [], false⟩,
    ⟨8, I 77 (.copy 6) [T 73, T 76], [], false⟩]])
  (.seq (.region [I 78 (.mv) [T 0],
    I 79 (.mv) [T 1],
    I 80 (.slice 6 true false false) [T 78, T 79],
    I 81 (.mv) [T 2],
    I 82 (.copy 6) [T 80, T 81]])
  (.seq (.region [I 83 (.mv) [T 0],
    I 6 (.mv) [T 83]])
  (.ret))))
 (.skip)))
 (.seq (.region [I 84 (.mv) [T 0],
   I 85 (.mv) [T 8],
   I 86 (.slice 6 true false false) [T 84, T 85],
   I 87 (.mv) [T 2],
   I 88 (.copy 6) [T 86, T 87]])
 (.seq (.region [I 89 (.mv) [T 0],
   I 90 (.mv) [T 1],
   I 91 (.slice 6 true false false) [T 89, T 90],
   I 92 (.mv) [T 7],
   I 93 (.callv) [F 344, T 91, T 92]])
 (.seq (.region [I 94 (.mv) [T 0],
   I 6 (.mv) [T 94]])
 (.ret))))))))))))⟩
theorem t276 : trFn Tryz.prog Tryz.f276 = some c_slices_Insert_kern_area_kern_area := by kernel_rfl
/-- (*pantry/kern.Kernel).put -/
abbrev n_kern_Kernel_put : Nat := 284
def c_kern_Kernel_put : AFn := ⟨52, [],
 .seq (.draw [[⟨0, I 11 (.mv) [T 1], [], false⟩,
   ⟨1, I 12 (.nilCheck) [T 11], [], false⟩,
   ⟨2, I 13 (.fieldAddr 3) [T 12], [], false⟩,
   ⟨3, I 14 (.load1) [T 13], [], false⟩,
   ⟨4, I 15 (.mv) [T 2], [], false⟩,
   ⟨5, I 16 (.bin .add) [T 14, T 15], [], false⟩,
   ⟨6, I 17 (.mv) [T 1], [], false⟩,
   ⟨7, I 18 (.nilCheck) [T 17], [], false⟩,
   ⟨8, I 19 (.fieldAddr 0) [T 18], [], false⟩,
   ⟨9, I 20 (.load1) [T 19], [], false⟩,
   ⟨10, I 21 (.bin .sub) [T 16, T 20], [], false⟩,
   ⟨11, I 8 (.mv) [T 21], [], false⟩]])
 (.seq (.draw [[⟨0, I 23 (.mv) [T 0], [], false⟩,
   ⟨1, I 24 (.nilCheck) [T 23], [], false⟩,
   ⟨2, I 25 (.fieldAddr 6) [T 24], [], false⟩,
   ⟨3, I 26 (.load1) [T 25], [], false⟩,
   ⟨4, I 27 (.mv) [T 1], [], false⟩,
   ⟨5, I 28 (.nilCheck) [T 27], [], false⟩,
   ⟨6, I 29 (.fieldAddr 2) [T 28], [], false⟩,
   ⟨7, I 30 (.load1) [T 29], [], false⟩,
   ⟨8, I 31 (.mv) [T 8], [], false⟩,
   ⟨9, I 32 (.mv) [T 3], [], false⟩,
   ⟨10, I 33 (.callv) [F 271, T 26, T 30, T 31, T 32], [], false⟩,
   ⟨11, I 22 (.mv) [T 33], [], false⟩,
   ⟨12, I 34 (.extract 0) [T 22], [], false⟩,
   ⟨13, I 35 (.extract 1) [T 22], [], false⟩,
   ⟨14, I 9 (.mv) [T 34], [], false⟩,
   ⟨15, I 10 (.mv) [T 35], [], false⟩]])
 (.seq (.seq (.region [I 36 (.mv) [T 1],
   I 37 (.nilCheck) [T 36],
   I 38 (.fieldAddr 5) [T 37],
   I 39 (.load1) [T 38]])
 (.cond (T 39)
 (.region [I 40 (.mv) [T 0],
    I 41 (.mv) [T 1],
    I 42 (.nilCheck) [T 41],
    I 43 (.fieldAddr 2) [T 42],
    I 44 (.load1) [T 43],
    I 45 (.mv) [T 8],
    I 46 (.callv) [F 348, T 40, T 44, T 45]])
 (.skip)))
 (.seq (.region [I 47 (.mv) [T 9],
   I 48 (.bin .gtr) [T 47, N 0]])
 (.cond (T 48)
 (.region [I 49 (.mv) [T 0],
    I 50 (.mv) [T 9],
    I 51 (.callv) [F 274, T 49, T 50]])
 (.skip)))))⟩
theorem t284 : trFn Tryz.prog Tryz.f284 = some c_kern_Kernel_put := by kernel_rfl
/-- (*pantry/pmap.Map).Find -/
abbrev n_pmap_Map_Find : Nat := 286
def c_pmap_Map_Find : AFn := ⟨34, [.cell 4 (.loadn 2), .tmp 5],
 .seq (.region [I 4 (.alloc 139 2 (.vals [(.int .i64 0), (.int .i64 0)])) [],
   I 5 (.mv) [.lit (.bool false)]])
 (.seq (.seq (.region [I 8 (.mv) [T 0],
   I 9 (.callv) [F 146, T 8],
   I 10 (.un .not) [T 9]])
 (.cond (T 10)
 (.seq (.region [I 11 (.build (.agg [(.int .i64 0), (.int .i64 0)]) []) [],
    J (.store 2) [T 4, T 11],
    I 5 (.mv) [.lit (.bool false)]])
  (.ret))
 (.skip)))
 (.seq (.draw [[⟨0, I 13 (.mv) [T 0], [], false⟩,
   ⟨1, I 14 (.nilCheck) [T 13], [], false⟩,
   ⟨2, I 15 (.fieldAddr 0) [T 14], [], false⟩,
   ⟨3, I 16 (.load1) [T 15], [], false⟩,
   ⟨4, I 17 (.mv) [T 0], [], false⟩,
   ⟨5, I 18 (.nilCheck) [T 17], [], false⟩,
   ⟨6, I 19 (.fieldAddr 3) [T 18], [], false⟩,
   ⟨7, I 20 (.load1) [T 19], [], false⟩,
   ⟨8, I 21 (.mv) [T 1], [], false⟩,
   ⟨9, I 22 (.callv) [F 223, T 16, T 20, T 21], [], false⟩,
   ⟨10, I 12 (.mv) [T 22], [], false⟩,
   ⟨11, I 23 (.extract 0) [T 12], [], false⟩,
   ⟨12, I 24 (.extract 1) [T 12], [], false⟩,
   ⟨13, I 6 (.alloc 139 2 (.vals [(.int .i64 0), (.int .i64 0)])) [], [(3, I 16 (.load1) [T 15]), (7, I 20 (.load1) [T 19])], false⟩,
   ⟨14, J (.store 2) [T 6, T 23], [], false⟩,
   ⟨15, I 7 (.mv) [T 24], [], false⟩],
[⟨0, I 13 (.mv) [T 0], [], false⟩,
   ⟨1, I 14 (.nilCheck) [T 13], [], false⟩,
   ⟨2, I 15 (.fieldAddr 0) [T 14], [], false⟩,
   ⟨3, I 16 (.load1) [T 15], [], false⟩,
   ⟨4, I 17 (.mv) [T 0], [], false⟩,
   ⟨5, I 18 (.nilCheck) [T 17], [], false⟩,
   ⟨6, I 19 (.fieldAddr 3) [T 18], [], false⟩,
   ⟨7, I 20 (.load1) [T 19], [], false⟩,
   ⟨8, I 21 (.mv) [T 1], [], false⟩,
   ⟨13, I 6 (.alloc 139 2 (.vals [(.int .i64 0), (.int .i64 0)])) [], [(3, I 16 (.load1) [T 15]), (7, I 20 (.load1) [T 19])], false⟩,
   ⟨9, I 22 (.callv) [F 223, T 16, T 20, T 21], [], false⟩,
   ⟨10, I 12 (.mv) [T 22], [], false⟩,
   ⟨11, I 23 (.extract 0) [T 12], [], false⟩,
   ⟨12, I 24 (.extract 1) [T 12], [], false⟩,
   ⟨14, J (.store 2) [T 6, T 23], [], false⟩,
   ⟨15, I 7 (.mv) [T 24], [], false⟩]])
 (.seq (.seq (.region [I 25 (.mv) [T 7],
   I 26 (.un .not) [T 25],
   I 27 (.mv) [T 26],
   IG 28 (.loadn 2) [T 6] 27 false,
   IG 29 (.callv) [F 149, T 28] 27 false,
   IG 30 (.bin .neq) [T 29, N 2] 27 false,
   I 31 (.pick) [T 27, .lit (.bool true), T 30]])
 (.cond (T 31)
 (.seq (.region [I 32 (.build (.agg [(.int .i64 0), (.int .i64 0)]) []) [],
    J (.store 2) [T 4, T 32],
    I 5 (.mv) [.lit (.bool false)]])
  (.ret))
 (.skip)))
 (.seq (.region [I 33 (.loadn 2) [T 6],
   J (.store 2) [T 4, T 33],
   I 5 (.mv) [.lit (.bool true)]])
 (.ret)))))⟩
theorem t286 : trFn Tryz.prog Tryz.f286 = some c_pmap_Map_Find := by kernel_rfl
/-- pantry/walk.Place -/
abbrev n_walk_Place : Nat := 287
/-- live: [0, 2, 9, 10] -/
def c_walk_Place_L0 : ACode :=
 .seq (.block 1 (.seq (.seq (.region [I 32 (.mv) [T 10],
   I 33 (.bin .eql) [T 32, N 0]])
 (.cond (T 33)
 (.exit 0)
 (.skip)))
 (.seq (.region [I 35 (.mv) [T 0],
   I 36 (.mv) [T 9],
   I 37 (.mv) [T 2],
   I 38 (.mv) [T 10],
   I 39 (.callv) [F 316, T 37, T 38],
   I 40 (.callv) [F 236, T 35, T 36, T 39],
   I 34 (.mv) [T 40],
   I 41 (.extract 0) [T 34],
   I 42 (.extract 1) [T 34],
   I 11 (.mv) [T 41],
   I 12 (.mv) [T 42]])
 (.seq (.seq (.region [I 43 (.mv) [T 12],
   I 44 (.un .not) [T 43]])
 (.cond (T 44)
 (.seq (.region [I 6 (.mv) [N 0],
    I 7 (.mv) [N 0],
    I 8 (.mv) [.lit (.bool false)]])
  (.ret))
 (.skip)))
 (.region [I 45 (.mv) [T 11],
   I 9 (.mv) [T 45]])))))
 (.region [I 30 (.mv) [T 10],
   I 31 (.bin .sub) [T 30, N 1],
   I 10 (.mv) [T 31]])
def c_walk_Place : AFn := ⟨49, [.tmp 6, .tmp 7, .tmp 8],
 .seq (.region [I 6 (.mv) [N 0],
   I 7 (.mv) [N 0],
   I 8 (.mv) [.lit (.bool false)]])
 (.seq (.seq (.region [I 13 (.mv) [T 1],
   I 14 (.bin .lss) [T 13, N 0],
   I 15 (.mv) [T 14],
   IG 16 (.mv) [T 1] 15 false,
   IG 17 (.mv) [T 0] 15 false,
   IG 18 (.callv) [F 58, T 17] 15 false,
   IG 19 (.bin .geq) [T 16, T 18] 15 false,
   I 20 (.pick) [T 15, .lit (.bool true), T 19],
   I 21 (.mv) [T 20],
   IG 22 (.mv) [T 2] 21 false,
   IG 23 (.bin .lss) [T 22, N 0] 21 false,
   I 24 (.pick) [T 21, .lit (.bool true), T 23],
   I 25 (.mv) [T 24],
   IG 26 (.mv) [T 2] 25 false,
   IG 27 (.bin .geq) [T 26, N 134217728] 25 false,
   I 28 (.pick) [T 25, .lit (.bool true), T 27]])
 (.cond (T 28)
 (.seq (.region [I 6 (.mv) [N 0],
    I 7 (.mv) [N 0],
    I 8 (.mv) [.lit (.bool false)]])
  (.ret))
 (.skip)))
 (.seq (.region [I 29 (.mv) [T 1],
   I 9 (.mv) [T 29]])
 (.seq (.skip)
 (.seq (.seq (.region [I 10 (.mv) [N 2]])
 (.block 0 (.loop c_walk_Place_L0)))
 (.seq (.region [I 46 (.mv) [T 9],
   I 47 (.mv) [T 2],
   I 48 (.callv) [F 316, T 47, N 0],
   I 6 (.mv) [T 46],
   I 7 (.mv) [T 48],
   I 8 (.mv) [.lit (.bool true)]])
 (.ret))))))⟩
theorem t287 : trFn Tryz.prog Tryz.f287 = some c_walk_Place := by kernel_rfl
/-- pantry/pte.Encode -/
abbrev n_pte_Encode : Nat := 288
def c_pte_Encode : AFn := ⟨13, [.tmp 2],
 .seq (.region [I 1 (.box 139 2) [T 0],
   I 2 (.mv) [.lit (.int .u64 0)]])
 (.seq (.draw [[⟨0, I 3 (.fieldAddr 1) [T 1], [], false⟩,
   ⟨1, I 4 (.load1) [T 3], [], false⟩,
   ⟨2, I 5 (.conv .u64) [T 4], [], false⟩,
   ⟨5, I 8 (.fieldAddr 0) [T 1], [], false⟩,
   ⟨6, I 9 (.load1) [T 8], [], false⟩,
   ⟨7, I 10 (.conv .u64) [T 9], [], false⟩,
   ⟨3, I 6 (.callv) [F 349, T 5, N 44], [(6, I 9 (.load1) [T 8])], false⟩,
   ⟨4, I 7 (.bin .shl) [T 6, .lit (.int .u64 10)], [], false⟩,
   ⟨8, I 11 (.callv) [F 349, T 10, N 8], [], false⟩,
   ⟨9, I 12 (.bin .or) [T 7, T 11], [], false⟩,
   ⟨10, I 2 (.mv) [T 12], [], false⟩]])
 (.ret))⟩
theorem t288 : trFn Tryz.prog Tryz.f288 = some c_pte_Encode := by kernel_rfl
/-- (*pantry/phys.Memory).SetWord -/
abbrev n_phys_Memory_SetWord : Nat := 289
/-- live: [3, 9, 18, 19] -/
def c_phys_Memory_SetWord_L0 : ACode :=
 .seq (.region [I 20 (.bin .lss) [T 19, T 18]])
 (.seq (.cond (T 20)
 (.skip)
 (.exit 0))
 (.seq (.block 1 (.seq (.region [I 21 (.mv) [T 19],
   I 10 (.mv) [T 21]])
 (.seq (.region [I 22 (.mv) [T 9],
   I 23 (.mv) [T 10],
   I 24 (.mv) [T 3],
   I 25 (.conv .u8) [T 24],
   I 26 (.indexs 1) [T 22, T 23],
   J (.store 1) [T 26, T 25]])
 (.region [I 27 (.mv) [T 3],
   I 28 (.bin .shr) [T 27, .lit (.int .u64 8)],
   I 3 (.mv) [T 28]]))))
 (.region [I 29 (.bin .add) [T 19, N 1],
   I 19 (.mv) [T 29]])))
def c_phys_Memory_SetWord : AFn := ⟨30, [.tmp 8],
 .seq (.region [I 8 (.mv) [.lit (.bool false)]])
 (.seq (.region [I 11 (.mv) [T 0],
   I 12 (.mv) [T 1],
   I 13 (.mv) [T 2],
   I 14 (.callv) [F 350, T 11, T 12, T 13],
   I 9 (.mv) [T 14]])
 (.seq (.seq (.region [I 15 (.mv) [T 9],
   I 16 (.eqv false .slice) [T 15, .lit .nilsl]])
 (.cond (T 16)
 (.seq (.region [I 8 (.mv) [.lit (.bool false)]])
  (.ret))
 (.skip)))
 (.seq (.seq (.region [I 17 (.mv) [T 9],
   I 18 (.lens) [T 17],
   I 19 (.mv) [N 0]])
 (.block 0 (.loop c_phys_Memory_SetWord_L0)))
 (.seq (.region [I 8 (.mv) [.lit (.bool true)]])
 (.ret)))))⟩
theorem t289 : trFn Tryz.prog Tryz.f289 = some c_phys_Memory_SetWord := by kernel_rfl
/-- (*pantry/pmap.Map).tidy -/
abbrev n_pmap_Map_tidy : Nat := 290
def c_pmap_Map_tidy : AFn := ⟨53, [],
 .seq (.region [I 10 (.mv) [T 1],
   I 11 (.callv) [F 316, T 10, N 2],
   I 12 (.mv) [T 1],
   I 13 (.callv) [F 316, T 12, N 1],
   I 4 (.mv) [T 11],
   I 5 (.mv) [T 13]])
 (.seq (.region [I 15 (.mv) [T 0],
   I 16 (.mv) [T 0],
   I 17 (.nilCheck) [T 16],
   I 18 (.fieldAddr 3) [T 17],
   I 19 (.load1) [T 18],
   I 20 (.mv) [T 4],
   I 21 (.callv) [F 263, T 15, T 19, T 20],
   I 14 (.mv) [T 21],
   I 22 (.extract 0) [T 14],
   I 23 (.extract 1) [T 14],
   I 6 (.mv) [T 22],
   I 7 (.mv) [T 23]])
 (.seq (.seq (.region [I 24 (.mv) [T 7],
   I 25 (.un .not) [T 24]])
 (.cond (T 25)
 (.ret)
 (.skip)))
 (.seq (.seq (.region [I 27 (.mv) [T 0],
   I 28 (.mv) [T 6],
   I 29 (.mv) [T 5],
   I 30 (.callv) [F 263, T 27, T 28, T 29],
   I 26 (.mv) [T 30],
   I 31 (.extract 0) [T 26],
   I 32 (.extract 1) [T 26],
   I 8 (.mv) [T 31],
   I 9 (.mv) [T 32]])
 (.seq (.region [I 33 (.mv) [T 9],
   I 34 (.mv) [T 33],
   IG 35 (.mv) [T 0] 34 true,
   IG 36 (.mv) [T 8] 34 true,
   IG 37 (.callv) [F 351, T 35, T 36] 34 true,
   I 38 (.pick) [T 34, T 37, .lit (.bool false)]])
 (.cond (T 38)
 (.region [I 39 (.mv) [T 0],
    I 40 (.mv) [T 6],
    I 41 (.mv) [T 5],
    I 42 (.callv) [F 264, T 39, T 40, T 41]])
 (.skip))))
 (.seq (.region [I 43 (.mv) [T 0],
   I 44 (.mv) [T 6],
   I 45 (.callv) [F 351, T 43, T 44]])
 (.cond (T 45)
 (.region [I 46 (.mv) [T 0],
    I 47 (.mv) [T 0],
    I 48 (.nilCheck) [T 47],
    I 49 (.fieldAddr 3) [T 48],
    I 50 (.load1) [T 49],
    I 51 (.mv) [T 4],
    I 52 (.callv) [F 264, T 46, T 50, T 51]])
 (.skip))))))⟩
theorem t290 : trFn Tryz.prog Tryz.f290 = some c_pmap_Map_tidy := by kernel_rfl
/-- (*pantry/frames.Pool).Own$1 -/
abbrev n_frames_Pool_Own_1 : Nat := 291
def c_frames_Pool_Own_1 : AFn := ⟨24, [.tmp 5],
 .seq (.region [I 5 (.mv) [N 0]])
 (.seq (.seq (.region [I 6 (.load1) [T 1],
   I 7 (.bin .lss) [T 6, N 1],
   I 8 (.mv) [T 7],
   IG 9 (.load1) [T 1] 8 false,
   IG 10 (.bin .gtr) [T 9, N 4] 8 false,
   I 11 (.pick) [T 8, .lit (.bool true), T 10]])
 (.cond (T 11)
 (.seq (.region [I 5 (.mv) [N 2]])
  (.ret))
 (.skip)))
 (.seq (.draw [[⟨0, I 12 (.mv) [T 0], [], false⟩,
   ⟨1, I 13 (.mv) [T 0], [], false⟩,
   ⟨2, I 14 (.mv) [T 0], [], false⟩,
   ⟨3, I 15 (.load1) [T 1], [], false⟩,
   ⟨4, I 16 (.load1) [T 2], [], false⟩,
   ⟨5, I 17 (.load1) [T 3], [], false⟩,
   ⟨6, I 18 (.nilCheck) [T 12], [], false⟩,
   ⟨7, I 19 (.fieldAddr 0) [T 18], [], false⟩,
   ⟨8, J (.store 1) [T 19, T 15], [(4, I 16 (.load1) [T 2]), (5, I 17 (.load1) [T 3])], false⟩,
   ⟨9, I 20 (.nilCheck) [T 13], [], false⟩,
   ⟨10, I 21 (.fieldAddr 1) [T 20], [], false⟩,
   ⟨11, J (.store 1) [T 21, T 16], [(5, I 17 (.load1) [T 3])], false⟩,
   ⟨12, I 22 (.nilCheck) [T 14], [], false⟩,
   ⟨13, I 23 (.fieldAddr 2) [T 22], [], false⟩,
   ⟨14, J (.store 1) [T 23, T 17], [], false⟩]])
 (.seq (.region [I 5 (.mv) [N 0]])
 (.ret))))⟩
theorem t291 : trFn Tryz.prog Tryz.f291 = some c_frames_Pool_Own_1 := by kernel_rfl
/-- (*pantry/slots.Slots).TakeRun -/
abbrev n_slots_Slots_TakeRun : Nat := 292
/-- live: [0, 1, 6, 7] -/
def c_slots_Slots_TakeRun_L1 : ACode :=
 .seq (.seq (.region [I 37 (.mv) [T 7],
   I 38 (.mv) [T 6],
   I 39 (.bin .geq) [T 37, T 38]])
 (.cond (T 39)
 (.skip)
 (.exit 2)))
 (.seq (.block 3 (.seq (.region [I 42 (.mv) [T 0],
   I 43 (.nilCheck) [T 42],
   I 44 (.fieldAddr 1) [T 43],
   I 45 (.load1) [T 44],
   I 46 (.mv) [T 7],
   I 47 (.callv) [F 153, T 45, T 46]])
 (.cond (T 47)
 (.seq (.region [I 48 (.mv) [T 7],
    I 6 (.mv) [T 48]])
  (.exit 1))
 (.skip))))
 (.region [I 40 (.mv) [T 7],
   I 41 (.bin .sub) [T 40, N 1],
   I 7 (.mv) [T 41]]))
/-- live: [0, 6, 49, 50] -/
def c_slots_Slots_TakeRun_L2 : ACode :=
 .seq (.region [I 51 (.bin .lss) [T 50, T 49]])
 (.seq (.cond (T 51)
 (.skip)
 (.exit 4))
 (.seq (.block 5 (.seq (.region [I 52 (.mv) [T 50],
   I 8 (.mv) [T 52]])
 (.region [I 53 (.mv) [T 0],
   I 54 (.nilCheck) [T 53],
   I 55 (.fieldAddr 1) [T 54],
   I 56 (.load1) [T 55],
   I 57 (.mv) [T 6],
   I 58 (.mv) [T 8],
   I 59 (.bin .add) [T 57, T 58],
   I 60 (.callv) [F 294, T 56, T 59]])))
 (.region [I 61 (.bin .add) [T 50, N 1],
   I 50 (.mv) [T 61]])))
/-- live: [0, 1, 6] -/
def c_slots_Slots_TakeRun_L0 : ACode :=
 .seq (.seq (.region [I 23 (.mv) [T 6],
   I 24 (.mv) [T 0],
   I 25 (.nilCheck) [T 24],
   I 26 (.fieldAddr 0) [T 25],
   I 27 (.load1) [T 26],
   I 28 (.mv) [T 1],
   I 29 (.bin .sub) [T 27, T 28],
   I 30 (.bin .leq) [T 23, T 29]])
 (.cond (T 30)
 (.skip)
 (.exit 0)))
 (.seq (.block 1 (.seq (.seq (.region [I 33 (.mv) [T 6],
   I 34 (.mv) [T 1],
   I 35 (.bin .add) [T 33, T 34],
   I 36 (.bin .sub) [T 35, N 1],
   I 7 (.mv) [T 36]])
 (.block 2 (.loop c_slots_Slots_TakeRun_L1)))
 (.seq (.seq (.region [I 49 (.mv) [T 1],
   I 50 (.mv) [N 0]])
 (.block 4 (.loop c_slots_Slots_TakeRun_L2)))
 (.seq (.region [I 62 (.mv) [T 6],
   I 4 (.mv) [T 62],
   I 5 (.mv) [.lit (.bool true)]])
 (.ret)))))
 (.region [I 31 (.mv) [T 6],
   I 32 (.bin .add) [T 31, N 1],
   I 6 (.mv) [T 32]]))
def c_slots_Slots_TakeRun : AFn := ⟨63, [.tmp 4, .tmp 5],
 .seq (.region [I 4 (.mv) [N 0],
   I 5 (.mv) [.lit (.bool false)]])
 (.seq (.seq (.region [I 9 (.mv) [T 0],
   I 10 (.eqv false .ptr) [T 9, .lit .nilptr],
   I 11 (.mv) [T 10],
   IG 12 (.mv) [T 1] 11 false,
   IG 13 (.bin .lss) [T 12, N 1] 11 false,
   I 14 (.pick) [T 11, .lit (.bool true), T 13],
   I 15 (.mv) [T 14],
   IG 16 (.mv) [T 1] 15 false,
   IG 17 (.mv) [T 0] 15 false,
   IG 18 (.nilCheck) [T 17] 15 false,
   IG 19 (.fieldAddr 0) [T 18] 15 false,
   IG 20 (.load1) [T 19] 15 false,
   IG 21 (.bin .gtr) [T 16, T 20] 15 false,
   I 22 (.pick) [T 15, .lit (.bool true), T 21]])
 (.cond (T 22)
 (.seq (.region [I 4 (.mv) [N 0],
    I 5 (.mv) [.lit (.bool false)]])
  (.ret))
 (.skip)))
 (.seq (.skip)
 (.seq (.seq (.region [I 6 (.mv) [N 0]])
 (.block 0 (.loop c_slots_Slots_TakeRun_L0)))
 (.seq (.region [I 4 (.mv) [N 0],
   I 5 (.mv) [.lit (.bool false)]])
 (.ret)))))⟩
theorem t292 : trFn Tryz.prog Tryz.f292 = some c_slots_Slots_TakeRun := by kernel_rfl
/-- (*pantry/swap.plan).fails -/
abbrev n_swap_plan_fails : Nat := 293
def c_swap_plan_fails : AFn := ⟨27, [.tmp 2],
 .seq (.region [I 2 (.mv) [.lit (.bool false)]])
 (.seq (.region [I 3 (.mv) [T 0],
   I 4 (.nilCheck) [T 3],
   I 5 (.fieldAddr 0) [T 4],
   I 6 (.load1) [T 5],
   I 7 (.bin .add) [T 6, N 1],
   I 8 (.nilCheck) [T 3],
   I 9 (.fieldAddr 0) [T 8],
   J (.store 1) [T 9, T 7]])
 (.seq (.seq (.region [I 10 (.mv) [T 0],
   I 11 (.nilCheck) [T 10],
   I 12 (.fieldAddr 1) [T 11],
   I 13 (.load1) [T 12],
   I 14 (.bin .eql) [T 13, N 0]])
 (.cond (T 14)
 (.seq (.region [I 2 (.mv) [.lit (.bool false)]])
  (.ret))
 (.skip)))
 (.seq (.region [I 15 (.mv) [T 0],
   I 16 (.nilCheck) [T 15],
   I 17 (.fieldAddr 1) [T 16],
   I 18 (.load1) [T 17],
   I 19 (.bin .sub) [T 18, N 1],
   I 20 (.nilCheck) [T 15],
   I 21 (.fieldAddr 1) [T 20],
   J (.store 1) [T 21, T 19]])
 (.seq (.region [I 22 (.mv) [T 0],
   I 23 (.nilCheck) [T 22],
   I 24 (.fieldAddr 1) [T 23],
   I 25 (.load1) [T 24],
   I 26 (.bin .eql) [T 25, N 0],
   I 2 (.mv) [T 26]])
 (.ret)))))⟩
theorem t293 : trFn Tryz.prog Tryz.f293 = some c_swap_plan_fails := by kernel_rfl
/-- pantry/slots.put -/
abbrev n_slots_put : Nat := 294
def c_slots_put : AFn := ⟨14, [],
 .draw [[⟨0, I 4 (.mv) [T 0], [], false⟩,
   ⟨1, I 5 (.mv) [T 1], [], false⟩,
   ⟨2, I 6 (.bin .quo) [T 5, N 64], [], false⟩,
   ⟨3, I 7 (.indexs 1) [T 4, T 6], [], false⟩,
   ⟨4, I 8 (.load1) [T 7], [], false⟩,
   ⟨5, I 9 (.mv) [T 1], [], false⟩,
   ⟨6, I 10 (.bin .rem) [T 9, N 64], [], false⟩,
   ⟨7, I 11 (.bin .shl) [.lit (.int .u64 1), T 10], [], false⟩,
   ⟨8, I 12 (.bin .or) [T 8, T 11], [], false⟩,
   ⟨9, I 13 (.indexs 1) [T 4, T 6], [], false⟩,
   ⟨10, J (.store 1) [T 13, T 12], [], false⟩]]⟩
theorem t294 : trFn Tryz.prog Tryz.f294 = some c_slots_put := by kernel_rfl
/-- slices.IndexFunc[[]int,int] -/
abbrev n_slices_IndexFunc_int_int : Nat := 296
/-- live: [0, 1, 7, 8] -/
def c_slices_IndexFunc_int_int_L0 : ACode :=
 .seq (.region [I 9 (.bin .lss) [T 8, T 7]])
 (.seq (.cond (T 9)
 (.skip)
 (.exit 0))
 (.seq (.block 1 (.seq (.region [I 10 (.mv) [T 8],
   I 5 (.mv) [T 10]])
 (.seq (.region [I 11 (.mv) [T 1],
   I 12 (.mv) [T 0],
   I 13 (.mv) [T 5],
   I 14 (.indexs 1) [T 12, T 13],
   I 15 (.load1) [T 14],
   I 16 (.callv) [T 11, T 15]])
 (.cond (T 16)
 (.seq (.region [I 17 (.mv) [T 5],
    I 4 (.mv) [T 17]])
  (.ret))
 (.skip)))))
 (.region [I 18 (.bin .add) [T 8, N 1],
   I 8 (.mv) [T 18]])))
def c_slices_IndexFunc_int_int : AFn := ⟨19, [.tmp 4],
 .seq (.region [I 4 (.mv) [N 0]])
 (.seq (.seq (.region [I 6 (.mv) [T 0],
   I 7 (.lens) [T 6],
   I 8 (.mv) [N 0]])
 (.block 0 (.loop c_slices_IndexFunc_int_int_L0)))
 (.seq (.region [I 4 (.mv) [N (-1)]])
 (.ret)))⟩
theorem t296 : trFn Tryz.prog Tryz.f296 = some c_slices_IndexFunc_int_int := by kernel_rfl
/-- (*pantry/frames.Pool).Take -/
abbrev n_frames_Pool_Take : Nat := 297
def c_frames_Pool_Take : AFn := ⟨49, [.tmp 8, .tmp 9],
 .seq (.region [I 8 (.mv) [N 0],
   I 9 (.mv) [N 0]])
 (.seq (.seq (.region [I 12 (.mv) [T 0],
   I 13 (.callv) [F 135, T 12],
   I 14 (.un .not) [T 13]])
 (.cond (T 14)
 (.seq (.region [I 8 (.mv) [N 0],
    I 9 (.mv) [N 1]])
  (.ret))
 (.skip)))
 (.seq (.seq (.region [I 15 (.mv) [T 1],
   I 16 (.bin .lss) [T 15, N 1],
   I 17 (.mv) [T 16],
   IG 18 (.mv) [T 1] 17 false,
   IG 19 (.bin .gtr) [T 18, N 4] 17 false,
   I 20 (.pick) [T 17, .lit (.bool true), T 19]])
 (.cond (T 20)
 (.seq (.region [I 8 (.mv) [N 0],
    I 9 (.mv) [N 2]])
  (.ret))
 (.skip)))
 (.seq (.region [I 21 (.mv) [T 0],
   I 22 (.nilCheck) [T 21],
   I 23 (.fieldAddr 1) [T 22],
   I 24 (.load1) [T 23],
   I 10 (.mv) [T 24]])
 (.seq (.seq (.region [I 25 (.mv) [T 1],
   I 26 (.bin .eql) [T 25, N 1]])
 (.cond (T 26)
 (.region [I 10 (.mv) [N 0]])
 (.skip)))
 (.seq (.seq (.region [I 27 (.mv) [T 0],
   I 28 (.callv) [F 94, T 27],
   I 29 (.mv) [T 10],
   I 30 (.bin .leq) [T 28, T 29]])
 (.cond (T 30)
 (.seq (.region [I 8 (.mv) [N 0],
    I 9 (.mv) [N 5]])
  (.ret))
 (.skip)))
 (.seq (.region [I 31 (.mv) [T 0],
   I 32 (.nilCheck) [T 31],
   I 33 (.fieldAddr 0) [T 32],
   I 34 (.load1) [T 33],
   I 35 (.callv) [F 352, T 34, F 353],
   I 11 (.mv) [T 35]])
 (.seq (.seq (.region [I 36 (.mv) [T 11],
   I 37 (.bin .lss) [T 36, N 0]])
 (.cond (T 37)
 (.seq (.region [I 8 (.mv) [N 0],
    I 9 (.mv) [N 5]])
  (.ret))
 (.skip)))
 (.seq (.region [I 38 (.mv) [T 0],
   I 39 (.nilCheck) [T 38],
   I 40 (.fieldAddr 0) [T 39],
   I 41 (.load1) [T 40],
   I 42 (.mv) [T 11],
   I 43 (.mv) [T 1],
   I 44 (.mv) [T 2],
   I 45 (.mv) [T 3],
   I 46 (.build (.agg [(.int .i64 0), (.int .i64 0), (.int .i64 0), (.int .i64 0), (.int .i64 0)]) [(0, 1), (1, 1), (2, 1)]) [T 43, T 44, T 45],
   I 47 (.indexs 5) [T 41, T 42],
   J (.store 5) [T 47, T 46]])
 (.seq (.region [I 48 (.mv) [T 11],
   I 8 (.mv) [T 48],
   I 9 (.mv) [N 0]])
 (.ret))))))))))⟩
theorem t297 : trFn Tryz.prog Tryz.f297 = some c_frames_Pool_Take := by kernel_rfl
/-- slices.insertionSortOrdered[int] -/
abbrev n_slices_insertionSortOrdered_int : Nat := 298
/-- live: [0, 1, 2, 6, 7] -/
def c_slices_insertionSortOrdered_int_L1 : ACode :=
 .seq (.seq (.draw [[⟨0, I 16 (.mv) [T 7], [], false⟩,
   ⟨1, I 17 (.mv) [T 1], [], false⟩,
   ⟨2, I 18 (.bin .gtr) [T 16, T 17], [], false⟩,
   ⟨3, I 19 (.mv) [T 18], [], false⟩,
   ⟨4, IG 20 (.mv) [T 0] 19 true, [], false⟩,
   ⟨5, IG 21 (.mv) [T 7] 19 true, [], false⟩,
   ⟨6, IG 22 (.indexs 1) [T 20, T 21] 19 true, [], false⟩,
   ⟨7, IG 23 (.load1) [T 22] 19 true, [], false⟩,
   ⟨8, IG 24 (.mv) [T 0] 19 true, [], false⟩,
   ⟨9, IG 25 (.mv) [T 7] 19 true, [], false⟩,
   ⟨10, IG 26 (.bin .sub) [T 25, N 1] 19 true, [], false⟩,
   ⟨11, IG 27 (.indexs 1) [T 24, T 26] 19 true, [], false⟩,
   ⟨12, IG 28 (.load1) [T 27] 19 true, [], false⟩,
   ⟨13, IG 29 (.callv) [F 304, T 23, T 28] 19 true, [], false⟩,
   ⟨14, I 30 (.pick) [T 19, T 29, .lit (.bool false)], [], false⟩]])
 (.cond (T 30)
 (.skip)
 (.exit 2)))
 (.seq (.block 3 (.draw [[⟨0, I 33 (.mv) [T 0], [], false⟩,
   ⟨1, I 34 (.mv) [T 7], [], false⟩,
   ⟨2, I 35 (.mv) [T 0], [], false⟩,
   ⟨3, I 36 (.mv) [T 7], [], false⟩,
   ⟨4, I 37 (.bin .sub) [T 36, N 1], [], false⟩,
   ⟨5, I 38 (.mv) [T 0], [], false⟩,
   ⟨6, I 39 (.mv) [T 7], [], false⟩,
   ⟨7, I 40 (.bin .sub) [T 39, N 1], [], false⟩,
   ⟨8, I 41 (.indexs 1) [T 38, T 40], [], false⟩,
   ⟨9, I 42 (.load1) [T 41], [], false⟩,
   ⟨10, I 43 (.mv) [T 0], [], false⟩,
   ⟨11, I 44 (.mv) [T 7], [], false⟩,
   ⟨12, I 45 (.indexs 1) [T 43, T 44], [], false⟩,
   ⟨13, I 46 (.load1) [T 45], [], false⟩,
   ⟨14, I 47 (.indexs 1) [T 33, T 34], [], false⟩,
   ⟨15, J (.store 1) [T 47, T 42], [], false⟩,
   ⟨16, I 48 (.indexs 1) [T 35, T 37], [], false⟩,
   ⟨17, J (.store 1) [T 48, T 46], [], false⟩]]))
 (.region [I 31 (.mv) [T 7],
   I 32 (.bin .sub) [T 31, N 1],
   I 7 (.mv) [T 32]]))
/-- live: [0, 1, 2, 6] -/
def c_slices_insertionSortOrdered_int_L0 : ACode :=
 .seq (.seq (.region [I 10 (.mv) [T 6],
   I 11 (.mv) [T 2],
   I 12 (.bin .lss) [T 10, T 11]])
 (.cond (T 12)
 (.skip)
 (.exit 0)))
 (.seq (.block 1 (.seq (.region [I 15 (.mv) [T 6],
   I 7 (.mv) [T 15]])
 (.block 2 (.loop c_slices_insertionSortOrdered_int_L1))))
 (.region [I 13 (.mv) [T 6],
   I 14 (.bin .add) [T 13, N 1],
   I 6 (.mv) [T 14]]))
def c_slices_insertionSortOrdered_int : AFn := ⟨49, [],
 .seq (.region [I 8 (.mv) [T 1],
   I 9 (.bin .add) [T 8, N 1],
   I 6 (.mv) [T 9]])
 (.block 0 (.loop c_slices_insertionSortOrdered_int_L0))⟩
theorem t298 : trFn Tryz.prog Tryz.f298 = some c_slices_insertionSortOrdered_int := by kernel_rfl
/-- math/bits.Len64 -/
abbrev n_math_bits_Len64 : Nat := 308
def c_math_bits_Len64 : AFn := ⟨25, [.tmp 2],
 .seq (.region [I 2 (.mv) [N 0]])
 (.seq (.seq (.region [I 3 (.mv) [T 0],
   I 4 (.bin .geq) [T 3, .lit (.int .u64 4294967296)]])
 (.cond (T 4)
 (.seq (.region [I 5 (.mv) [T 0],
    I 6 (.bin .shr) [T 5, .lit (.int .u64 32)],
    I 0 (.mv) [T 6]])
  (.region [I 2 (.mv) [N 32]]))
 (.skip)))
 (.seq (.seq (.region [I 7 (.mv) [T 0],
   I 8 (.bin .geq) [T 7, .lit (.int .u64 65536)]])
 (.cond (T 8)
 (.seq (.region [I 9 (.mv) [T 0],
    I 10 (.bin .shr) [T 9, .lit (.int .u64 16)],
    I 0 (.mv) [T 10]])
  (.region [I 11 (.mv) [T 2],
    I 12 (.bin .add) [T 11, N 16],
    I 2 (.mv) [T 12]]))
 (.skip)))
 (.seq (.seq (.region [I 13 (.mv) [T 0],
   I 14 (.bin .geq) [T 13, .lit (.int .u64 256)]])
 (.cond (T 14)
 (.seq (.region [I 15 (.mv) [T 0],
    I 16 (.bin .shr) [T 15, .lit (.int .u64 8)],
    I 0 (.mv) [T 16]])
  (.region [I 17 (.mv) [T 2],
    I 18 (.bin .add) [T 17, N 8],
    I 2 (.mv) [T 18]]))
 (.skip)))
 (.seq (.region [I 19 (.mv) [T 2],
   I 20 (.mv) [T 0],
   I 21 (.conv .u8) [T 20],
   I 22 (.indexstr) [.lit (.str ⟨#[0, 1, 2, 2, 3, 3, 3, 3, 4, 4, 4, 4, 4, 4, 4, 4, 5, 5, 5, 5, 5, 5, 5, 5, 5, 5, 5, 5, 5, 5, 5, 5, 6, 6, 6, 6, 6, 6, 6, 6, 6, 6, 6, 6, 6, 6, 6, 6, 6, 6, 6, 6, 6, 6, 6, 6, 6, 6, 6, 6, 6, 6, 6, 6, 7, 7, 7, 7, 7, 7, 7, 7, 7, 7, 7, 7, 7, 7, 7, 7, 7, 7, 7, 7, 7, 7, 7, 7, 7, 7, 7, 7, 7, 7, 7, 7, 7, 7, 7, 7, 7, 7, 7, 7, 7, 7, 7, 7, 7, 7, 7, 7, 7, 7, 7, 7, 7, 7, 7, 7, 7, 7, 7, 7, 7, 7, 7, 7, 8, 8, 8, 8, 8, 8, 8, 8, 8, 8, 8, 8, 8, 8, 8, 8, 8, 8, 8, 8, 8, 8, 8, 8, 8, 8, 8, 8, 8, 8, 8, 8, 8, 8, 8, 8, 8, 8, 8, 8, 8, 8, 8, 8, 8, 8, 8, 8, 8, 8, 8, 8, 8, 8, 8, 8, 8, 8, 8, 8, 8, 8, 8, 8, 8, 8, 8, 8, 8, 8, 8, 8, 8, 8, 8, 8, 8, 8, 8, 8, 8, 8, 8, 8, 8, 8, 8, 8, 8, 8, 8, 8, 8, 8, 8, 8, 8, 8, 8, 8, 8, 8, 8, 8, 8, 8, 8, 8, 8, 8, 8, 8, 8, 8, 8, 8, 8, 8, 8, 8, 8, 8, 8, 8, 8, 8, 8, 8]⟩), T 21],
   I 23 (.conv .i64) [T 22],
   I 24 (.bin .add) [T 19, T 23],
   I 2 (.mv) [T 24]])
 (.ret)))))⟩
theorem t308 : trFn Tryz.prog Tryz.f308 = some c_math_bits_Len64 := by kernel_rfl
/-- pantry/pte.Canonical -/
abbrev n_pte_Canonical : Nat := 309
def c_pte_Canonical : AFn := ⟨12, [.tmp 2],
 .seq (.region [I 2 (.mv) [.lit (.bool false)]])
 (.seq (.region [I 4 (.mv) [T 0],
   I 5 (.bin .shr) [T 4, .lit (.int .u64 38)],
   I 3 (.mv) [T 5]])
 (.seq (.region [I 6 (.mv) [T 3],
   I 7 (.bin .eql) [T 6, N 0],
   I 8 (.mv) [T 7],
   IG 9 (.mv) [T 3] 8 false,
   IG 10 (.bin .eql) [T 9, N (-1)] 8 false,
   I 11 (.pick) [T 8, .lit (.bool true), T 10],
   I 2 (.mv) [T 11]])
 (.ret)))⟩
theorem t309 : trFn Tryz.prog Tryz.f309 = some c_pte_Canonical := by kernel_rfl
/-- pantry/pte.Split -/
abbrev n_pte_Split : Nat := 310
def c_pte_Split : AFn := ⟨14, [.tmp 2, .tmp 3],
 .seq (.region [I 2 (.mv) [N 0],
   I 3 (.mv) [N 0]])
 (.seq (.region [I 5 (.mv) [T 0],
   I 6 (.conv .u64) [T 5],
   I 4 (.mv) [T 6]])
 (.seq (.region [I 7 (.mv) [T 4],
   I 8 (.bin .shr) [T 7, .lit (.int .u64 12)],
   I 9 (.callv) [F 349, T 8, N 27],
   I 10 (.conv .i64) [T 9],
   I 11 (.mv) [T 4],
   I 12 (.callv) [F 349, T 11, N 12],
   I 13 (.conv .i64) [T 12],
   I 2 (.mv) [T 10],
   I 3 (.mv) [T 13]])
 (.ret)))⟩
theorem t310 : trFn Tryz.prog Tryz.f310 = some c_pte_Split := by kernel_rfl
/-- (*pantry/phys.Memory).Word -/
abbrev n_phys_Memory_Word : Nat := 311
/-- live: [8, 9, 10] -/
def c_phys_Memory_Word_L0 : ACode :=
 .seq (.seq (.region [I 20 (.mv) [T 10],
   I 21 (.bin .geq) [T 20, N 0]])
 (.cond (T 21)
 (.skip)
 (.exit 0)))
 (.seq (.block 1 (.region [I 24 (.mv) [T 9],
   I 25 (.bin .shl) [T 24, .lit (.int .u64 8)],
   I 26 (.mv) [T 8],
   I 27 (.mv) [T 10],
   I 28 (.indexs 1) [T 26, T 27],
   I 29 (.load1) [T 28],
   I 30 (.conv .u64) [T 29],
   I 31 (.bin .or) [T 25, T 30],
   I 9 (.mv) [T 31]]))
 (.region [I 22 (.mv) [T 10],
   I 23 (.bin .sub) [T 22, N 1],
   I 10 (.mv) [T 23]]))
def c_phys_Memory_Word : AFn := ⟨33, [.tmp 6, .tmp 7],
 .seq (.region [I 6 (.mv) [.lit (.int .u64 0)],
   I 7 (.mv) [.lit (.bool false)]])
 (.seq (.region [I 11 (.mv) [T 0],
   I 12 (.mv) [T 1],
   I 13 (.mv) [T 2],
   I 14 (.callv) [F 350, T 11, T 12, T 13],
   I 8 (.mv) [T 14]])
 (.seq (.seq (.region [I 15 (.mv) [T 8],
   I 16 (.eqv false .slice) [T 15, .lit .nilsl]])
 (.cond (T 16)
 (.seq (.region [I 6 (.mv) [.lit (.int .u64 0)],
    I 7 (.mv) [.lit (.bool false)]])
  (.ret))
 (.skip)))
 (.seq (.region [I 9 (.mv) [.lit (.int .u64 0)]])
 (.seq (.seq (.region [I 17 (.mv) [T 8],
   I 18 (.lens) [T 17],
   I 19 (.bin .sub) [T 18, N 1],
   I 10 (.mv) [T 19]])
 (.block 0 (.loop c_phys_Memory_Word_L0)))
 (.seq (.region [I 32 (.mv) [T 9],
   I 6 (.mv) [T 32],
   I 7 (.mv) [.lit (.bool true)]])
 (.ret))))))⟩
theorem t311 : trFn Tryz.prog Tryz.f311 = some c_phys_Memory_Word := by kernel_rfl
/-- (*pantry/tlb.Table).Put$1 -/
abbrev n_tlb_Table_Put_1 : Nat := 312
def c_tlb_Table_Put_1 : AFn := ⟨12, [.tmp 3],
 .seq (.region [I 2 (.box 150 2) [T 0],
   I 3 (.mv) [.lit (.bool false)]])
 (.seq (.draw [[⟨0, I 4 (.loadn 2) [T 2], [], false⟩,
   ⟨1, I 5 (.load1) [T 1], [], false⟩,
   ⟨2, I 6 (.nilCheck) [T 5], [], false⟩,
   ⟨3, I 7 (.fieldAddr 1) [T 6], [], false⟩,
   ⟨4, I 8 (.load1) [T 7], [], false⟩,
   ⟨5, I 9 (.indexs 2) [T 8, N 0], [], false⟩,
   ⟨6, I 10 (.loadn 2) [T 9], [], false⟩,
   ⟨7, I 11 (.eqv false (.flat [.int, .int])) [T 4, T 10], [], false⟩,
   ⟨8, I 3 (.mv) [T 11], [], false⟩]])
 (.ret))⟩
theorem t312 : trFn Tryz.prog Tryz.f312 = some c_tlb_Table_Put_1 := by kernel_rfl
/-- (*pantry/kern.Kernel).fresh -/
abbrev n_kern_Kernel_fresh : Nat := 315
def c_kern_Kernel_fresh : AFn := ⟨78, [.tmp 8, .tmp 9],
 .seq (.region [I 8 (.mv) [N 0],
   I 9 (.mv) [N 0]])
 (.seq (.region [I 15 (.mv) [T 0],
   I 16 (.mv) [T 1],
   I 17 (.mv) [T 2],
   I 18 (.callv) [F 259, T 15, T 16, T 17],
   I 14 (.mv) [T 18],
   I 19 (.extract 0) [T 14],
   I 20 (.extract 1) [T 14],
   I 10 (.mv) [T 19],
   I 11 (.mv) [T 20]])
 (.seq (.seq (.region [I 21 (.mv) [T 11],
   I 22 (.bin .neq) [T 21, N 0]])
 (.cond (T 22)
 (.seq (.region [I 23 (.mv) [T 11],
    I 8 (.mv) [N (-1)],
    I 9 (.mv) [T 23]])
  (.ret))
 (.skip)))
 (.seq (.region [I 25 (.mv) [T 0],
   I 26 (.callv) [F 244, T 25, N 2, N 0, N 0],
   I 24 (.mv) [T 26],
   I 27 (.extract 0) [T 24],
   I 28 (.extract 1) [T 24],
   I 12 (.mv) [T 27],
   I 11 (.mv) [T 28]])
 (.seq (.seq (.region [I 29 (.mv) [T 11],
   I 30 (.bin .neq) [T 29, N 0]])
 (.cond (T 30)
 (.seq (.region [I 31 (.mv) [T 11],
    I 8 (.mv) [N (-1)],
    I 9 (.mv) [T 31]])
  (.ret))
 (.skip)))
 (.seq (.region [I 33 (.mv) [T 0],
   I 34 (.nilCheck) [T 33],
   I 35 (.fieldAddr 5) [T 34],
   I 36 (.load1) [T 35],
   I 37 (.mv) [T 12],
   I 38 (.callv) [F 272, T 36, T 37],
   I 32 (.mv) [T 38],
   I 39 (.extract 0) [T 32],
   I 40 (.extract 1) [T 32],
   I 13 (.mv) [T 39],
   I 11 (.mv) [T 40]])
 (.seq (.seq (.region [I 41 (.mv) [T 11],
   I 42 (.bin .neq) [T 41, N 0]])
 (.cond (T 42)
 (.seq (.region [I 43 (.mv) [T 0],
    I 44 (.nilCheck) [T 43],
    I 45 (.fieldAddr 1) [T 44],
    I 46 (.load1) [T 45],
    I 47 (.mv) [T 12],
    I 48 (.callv) [F 91, T 46, T 47]])
  (.seq (.region [I 49 (.mv) [T 11],
    I 8 (.mv) [N (-1)],
    I 9 (.mv) [T 49]])
  (.ret)))
 (.skip)))
 (.seq (.region [I 50 (.mv) [T 0],
   I 51 (.nilCheck) [T 50],
   I 52 (.fieldAddr 1) [T 51],
   I 53 (.load1) [T 52],
   I 54 (.mv) [T 12],
   I 55 (.mv) [T 13],
   I 56 (.callv) [F 186, T 53, T 54, N 2, T 55, N 0]])
 (.seq (.seq (.region [I 57 (.mv) [T 3],
   I 58 (.bin .geq) [T 57, N 0]])
 (.cond (T 58)
 (.region [I 59 (.mv) [T 0],
    I 60 (.nilCheck) [T 59],
    I 61 (.fieldAddr 0) [T 60],
    I 62 (.load1) [T 61],
    I 63 (.mv) [T 12],
    I 64 (.mv) [T 3],
    I 65 (.callv) [F 248, T 62, T 63, T 64]])
 (.region [I 66 (.mv) [T 0],
    I 67 (.nilCheck) [T 66],
    I 68 (.fieldAddr 0) [T 67],
    I 69 (.load1) [T 68],
    I 70 (.mv) [T 12],
    I 71 (.callv) [F 245, T 69, T 70]])))
 (.seq (.region [I 72 (.mv) [T 0],
   I 73 (.mv) [T 10],
   I 74 (.mv) [T 2],
   I 75 (.mv) [T 13],
   I 76 (.callv) [F 284, T 72, T 73, T 74, T 75]])
 (.seq (.region [I 77 (.mv) [T 12],
   I 8 (.mv) [T 77],
   I 9 (.mv) [N 0]])
 (.ret)))))))))))⟩
theorem t315 : trFn Tryz.prog Tryz.f315 = some c_kern_Kernel_fresh := by kernel_rfl
/-- pantry/pte.Index -/
abbrev n_pte_Index : Nat := 316
def c_pte_Index : AFn := ⟨18, [.tmp 4],
 .seq (.region [I 4 (.mv) [N 0]])
 (.seq (.seq (.region [I 5 (.mv) [T 1],
   I 6 (.bin .lss) [T 5, N 0],
   I 7 (.mv) [T 6],
   IG 8 (.mv) [T 1] 7 false,
   IG 9 (.bin .geq) [T 8, N 3] 7 false,
   I 10 (.pick) [T 7, .lit (.bool true), T 9]])
 (.cond (T 10)
 (.seq (.region [I 4 (.mv) [N 0]])
  (.ret))
 (.skip)))
 (.seq (.region [I 11 (.mv) [T 0],
   I 12 (.conv .u64) [T 11],
   I 13 (.mv) [T 1],
   I 14 (.bin .mul) [N 9, T 13],
   I 15 (.bin .shr) [T 12, T 14],
   I 16 (.callv) [F 349, T 15, N 9],
   I 17 (.conv .i64) [T 16],
   I 4 (.mv) [T 17]])
 (.ret)))⟩
theorem t316 : trFn Tryz.prog Tryz.f316 = some c_pte_Index := by kernel_rfl
/-- pantry/pte.Flags -/
abbrev n_pte_Flags : Nat := 318
def c_pte_Flags : AFn := ⟨25, [.tmp 4],
 .seq (.region [I 4 (.mv) [N 0]])
 (.seq (.seq (.region [I 5 (.mv) [T 0],
   I 6 (.bin .and) [T 5, N 7],
   I 7 (.bin .eql) [T 6, N 0]])
 (.cond (T 7)
 (.seq (.region [I 4 (.mv) [N 0]])
  (.ret))
 (.skip)))
 (.seq (.region [I 8 (.build (.agg [(.bool false), (.int .i64 0)]) [(0, 1), (1, 1)]) [.lit (.bool true), N 1],
   I 9 (.mv) [T 0],
   I 10 (.bin .and) [T 9, N 3],
   I 11 (.bin .gtr) [T 10, N 0],
   I 12 (.build (.agg [(.bool false), (.int .i64 0)]) [(0, 1), (1, 1)]) [T 11, N 2],
   I 13 (.mv) [T 0],
   I 14 (.bin .and) [T 13, N 2],
   I 15 (.bin .gtr) [T 14, N 0],
   I 16 (.build (.agg [(.bool false), (.int .i64 0)]) [(0, 1), (1, 1)]) [T 15, N 4],
   I 17 (.mv) [T 0],
   I 18 (.bin .and) [T 17, N 4],
   I 19 (.bin .gtr) [T 18, N 0],
   I 20 (.build (.agg [(.bool false), (.int .i64 0)]) [(0, 1), (1, 1)]) [T 19, N 8],
   I 21 (.mv) [T 1],
   I 22 (.build (.agg [(.bool false), (.int .i64 0)]) [(0, 1), (1, 1)]) [T 21, N 16],
   I 23 (.bslice 232 2 5 (.vals [(.bool false), (.int .i64 0)]) [0, 1, 2, 3, 4]) [T 8, T 12, T 16, T 20, T 22],
   I 24 (.callv) [F 150, T 23],
   I 4 (.mv) [T 24]])
 (.ret)))⟩
theorem t318 : trFn Tryz.prog Tryz.f318 = some c_pte_Flags := by kernel_rfl
/-- (*pantry/pmap.Map).Remove$1 -/
abbrev n_pmap_Map_Remove_1 : Nat := 319
def c_pmap_Map_Remove_1 : AFn := ⟨4, [.cell 2 (.loadn 2)],
 .seq (.region [I 1 (.box 139 2) [T 0],
   I 2 (.alloc 139 2 (.vals [(.int .i64 0), (.int .i64 0)])) []])
 (.seq (.region [I 3 (.build (.agg [(.int .i64 0), (.int .i64 0)]) []) [],
   J (.store 2) [T 2, T 3]])
 (.ret))⟩
theorem t319 : trFn Tryz.prog Tryz.f319 = some c_pmap_Map_Remove_1 := by kernel_rfl
/-- (*pantry/spread.Counts).made -/
abbrev n_spread_Counts_made : Nat := 320
def c_spread_Counts_made : AFn := ⟨11, [.tmp 2],
 .seq (.region [I 2 (.mv) [.lit (.bool false)]])
 (.seq (.region [I 3 (.mv) [T 0],
   I 4 (.eqv true .ptr) [T 3, .lit .nilptr],
   I 5 (.mv) [T 4],
   IG 6 (.mv) [T 0] 5 true,
   IG 7 (.nilCheck) [T 6] 5 true,
   IG 8 (.fieldAddr 2) [T 7] 5 true,
   IG 9 (.load1) [T 8] 5 true,
   I 10 (.pick) [T 5, T 9, .lit (.bool false)],
   I 2 (.mv) [T 10]])
 (.ret))⟩
theorem t320 : trFn Tryz.prog Tryz.f320 = some c_spread_Counts_made := by kernel_rfl
/-- (*pantry/spread.Counts).parts$1 -/
abbrev n_spread_Counts_parts_1 : Nat := 321
/-- live: [0, 2, 3, 13, 14, 15] -/
def c_spread_Counts_parts_1_L0 : ACode :=
 .seq (.region [I 16 (.bin .lss) [T 15, T 14]])
 (.seq (.cond (T 16)
 (.skip)
 (.exit 0))
 (.seq (.block 1 (.seq (.region [I 17 (.indexs 3) [T 13, T 15],
   I 18 (.loadn 3) [T 17],
   I 6 (.alloc 313 3 (.vals [(.int .i64 0), (.int .i64 0), (.int .i64 0)])) [],
   J (.store 3) [T 6, T 18]])
 (.seq (.draw [[⟨0, I 19 (.fieldAddr 0) [T 6], [], false⟩,
   ⟨1, I 20 (.load1) [T 19], [], false⟩,
   ⟨2, I 21 (.load1) [T 2], [], false⟩,
   ⟨3, I 22 (.max) [T 20, T 21], [], false⟩,
   ⟨4, I 23 (.fieldAddr 1) [T 6], [], false⟩,
   ⟨5, I 24 (.load1) [T 23], [], false⟩,
   ⟨6, I 25 (.load1) [T 3], [], false⟩,
   ⟨7, I 26 (.min) [T 24, T 25], [], false⟩,
   ⟨8, I 27 (.fieldAddr 0) [T 6], [], false⟩,
   ⟨9, J (.store 1) [T 27, T 22], [(6, I 25 (.load1) [T 3])], false⟩,
   ⟨10, I 28 (.fieldAddr 1) [T 6], [], false⟩,
   ⟨11, J (.store 1) [T 28, T 26], [], false⟩]])
 (.seq (.region [I 29 (.fieldAddr 0) [T 6],
   I 30 (.load1) [T 29],
   I 31 (.fieldAddr 1) [T 6],
   I 32 (.load1) [T 31],
   I 33 (.bin .lss) [T 30, T 32],
   I 34 (.mv) [T 33],
   IG 35 (.mv) [T 0] 34 true,
   IG 36 (.loadn 3) [T 6] 34 true,
   IG 37 (.callv) [T 35, T 36] 34 true,
   IG 38 (.un .not) [T 37] 34 true,
   I 39 (.pick) [T 34, T 38, .lit (.bool false)]])
 (.cond (T 39)
 (.ret)
 (.skip))))))
 (.region [I 40 (.bin .add) [T 15, N 1],
   I 15 (.mv) [T 40]])))
def c_spread_Counts_parts_1 : AFn := ⟨41, [],
 .seq (.seq (.region [I 7 (.load1) [T 1],
   I 8 (.callv) [F 320, T 7],
   I 9 (.un .not) [T 8]])
 (.cond (T 9)
 (.ret)
 (.skip)))
 (.seq (.region [I 10 (.load1) [T 1],
   I 11 (.nilCheck) [T 10],
   I 12 (.fieldAddr 0) [T 11],
   I 13 (.load1) [T 12],
   I 14 (.lens) [T 13],
   I 15 (.mv) [N 0]])
 (.block 0 (.loop c_spread_Counts_parts_1_L0)))⟩
theorem t321 : trFn Tryz.prog Tryz.f321 = some c_spread_Counts_parts_1 := by kernel_rfl
/-- pantry/pte.Decode -/
abbrev n_pte_Decode : Nat := 322
def c_pte_Decode : AFn := ⟨11, [.cell 2 (.loadn 2)],
 .seq (.region [I 2 (.alloc 139 2 (.vals [(.int .i64 0), (.int .i64 0)])) []])
 (.seq (.region [I 3 (.mv) [T 0],
   I 4 (.callv) [F 349, T 3, N 8],
   I 5 (.conv .i64) [T 4],
   I 6 (.mv) [T 0],
   I 7 (.bin .shr) [T 6, .lit (.int .u64 10)],
   I 8 (.callv) [F 349, T 7, N 44],
   I 9 (.conv .i64) [T 8],
   I 10 (.build (.agg [(.int .i64 0), (.int .i64 0)]) [(0, 1), (1, 1)]) [T 5, T 9],
   J (.store 2) [T 2, T 10]])
 (.ret))⟩
theorem t322 : trFn Tryz.prog Tryz.f322 = some c_pte_Decode := by kernel_rfl
/-- pantry/entry.room -/
abbrev n_entry_room : Nat := 327
/-- live: [1, 2, 20, 21, 22] -/
def c_entry_room_L0 : ACode :=
 .seq (.region [I 23 (.bin .lss) [T 22, T 21]])
 (.seq (.cond (T 23)
 (.skip)
 (.exit 0))
 (.seq (.block 1 (.seq (.region [I 24 (.indexs 10) [T 20, T 22],
   I 25 (.loadn 10) [T 24],
   I 11 (.alloc 94 10 (.vals [(.int .i64 0), (.int .i64 0), (.int .i64 0), (.int .i64 0), (.bool false), (.int .i64 0), (.int .i64 0), (.int .i64 0), (.int .i64 0), (.bool false)])) [],
   J (.store 10) [T 11, T 25]])
 (.seq (.seq (.region [I 26 (.mv) [T 1],
   I 27 (.fieldAddr 0) [T 11],
   I 28 (.load1) [T 27],
   I 29 (.mv) [T 2],
   I 30 (.bin .sub) [T 28, T 29],
   I 31 (.bin .leq) [T 26, T 30]])
 (.cond (T 31)
 (.exit 0)
 (.skip)))
 (.region [I 32 (.fieldAddr 1) [T 11],
   I 33 (.load1) [T 32],
   I 1 (.mv) [T 33]]))))
 (.region [I 34 (.bin .add) [T 22, N 1],
   I 22 (.mv) [T 34]])))
def c_entry_room : AFn := ⟨40, [.tmp 6, .tmp 7],
 .seq (.region [I 6 (.mv) [N 0],
   I 7 (.mv) [.lit (.bool false)]])
 (.seq (.region [I 13 (.mv) [T 0],
   I 14 (.mv) [T 1],
   I 15 (.callv) [F 122, T 13, T 14],
   I 12 (.mv) [T 15],
   I 16 (.extract 0) [T 12],
   I 17 (.extract 1) [T 12],
   I 8 (.mv) [T 16],
   I 9 (.mv) [T 17]])
 (.seq (.seq (.region [I 18 (.mv) [T 0],
   I 19 (.mv) [T 8],
   I 20 (.slice 10 true false false) [T 18, T 19],
   I 21 (.lens) [T 20],
   I 22 (.mv) [N 0]])
 (.block 0 (.loop c_entry_room_L0)))
 (.seq (.region [I 35 (.mv) [T 1],
   I 36 (.mv) [T 1],
   I 37 (.mv) [T 2],
   I 38 (.bin .sub) [N 67108864, T 37],
   I 39 (.bin .leq) [T 36, T 38],
   I 6 (.mv) [T 35],
   I 7 (.mv) [T 39]])
 (.ret))))⟩
theorem t327 : trFn Tryz.prog Tryz.f327 = some c_entry_room := by kernel_rfl
/-- slices.Insert[[]pantry/api.Entry,pantry/api.Entry] -/
abbrev n_slices_Insert_api_Entry_api_Entry : Nat := 328
def c_slices_Insert_api_Entry_api_Entry : AFn := ⟨95, [.tmp 6],
 .seq (.region [I 6 (.mv) [.lit .nilsl]])
 (.seq (.region [I 10 (.mv) [T 0],
   I 11 (.mv) [T 1],
   I 12 (.slice 10 true false false) [T 10, T 11]])
 (.seq (.region [I 13 (.mv) [T 2],
   I 14 (.lens) [T 13],
   I 7 (.mv) [T 14]])
 (.seq (.seq (.region [I 15 (.mv) [T 7],
   I 16 (.bin .eql) [T 15, N 0]])
 (.cond (T 16)
 (.seq (.region [I 17 (.mv) [T 0],
    I 6 (.mv) [T 17]])
  (.ret))
 (.skip)))
 (.seq (.region [I 18 (.mv) [T 0],
   I 19 (.lens) [T 18],
   I 8 (.mv) [T 19]])
 (.seq (.seq (.region [I 20 (.mv) [T 1],
   I 21 (.mv) [T 8],
   I 22 (.bin .eql) [T 20, T 21]])
 (.cond (T 22)
 (.seq (.region [I 23 (.mv) [T 0],
    I 24 (.mv) [T 2],
    I 25 (.append 94 10 80 (.vals [(.int .i64 0), (.int .i64 0), (.int .i64 0), (.int .i64 0), (.bool false), (.int .i64 0), (.int .i64 0), (.int .i64 0), (.int .i64 0), (.bool false)])) [T 23, T 24],
    I 6 (.mv) [T 25]])
  (.ret))
 (.skip)))
 (.seq (.seq (.region [I 26 (.mv) [T 8],
   I 27 (.mv) [T 7],
   I 28 (.bin .add) [T 26, T 27],
   I 29 (.mv) [T 0],
   I 30 (.cap) [T 29],
   I 31 (.bin .gtr) [T 28, T 30]])
 (.cond (T 31)
 (.seq (.region [I 32 (.mv) [T 0],
    I 33 (.mv) [T 1],
    I 34 (.slice 10 false true false) [T 32, T 33],
    I 35 (.mv) [T 8],
    I 36 (.mv) [T 7],
    I 37 (.bin .add) [T 35, T 36],
    I 38 (.mv) [T 1],
    I 39 (.bin .sub) [T 37, T 38],
    I 40 (.appendz 94 10 80 (.vals [(.int .i64 0), (.int .i64 0), (.int .i64 0), (.int .i64 0), (.bool false), (.int .i64 0), (.int .i64 0), (.int .i64 0), (.int .i64 0), (.bool false)])) [T 34, T 39],
    I 9 (.mv) [T 40]])
  (.seq (.region [I 41 (.mv) [T 9],
    I 42 (.mv) [T 1],
    I 43 (.slice 10 true false false) [T 41, T 42],
    I 44 (.mv) [T 2],
    I 45 (.copy 10) [T 43, T 44]])
  (.seq (.draw [[⟨0, I 46 (.mv) [T 9], [], false⟩,
    ⟨1, I 47 (.mv) [T 1], [], false⟩,
    ⟨2, I 48 (.mv) [T 7], [], false⟩,
    ⟨3, I 49 (.bin .add) [T 47, T 48], [], false⟩,
    ⟨4, I 50 (.slice 10 true false false) [T 46, T 49], [], false⟩,
    ⟨5, I 51 (.mv) [T 0], [], false⟩,
    ⟨6, I 52 (.mv) [T 1], [], false⟩,
    ⟨7, I 53 (.slice 10 true false false) [T 51, T 52], [], false⟩,
    ⟨8, I 54 (.copy 10) [T 50, T 53], [], false⟩]])
  (.seq (.region [I 55 (.mv) [T 9],
    I 6 (.mv) [T 55]])
  (.ret)))))
 (.skip)))
 (.seq (.region [I 56 (.mv) [T 0],
   I 57 (.mv) [T 8],
   I 58 (.mv) [T 7],
   I 59 (.bin .add) [T 57, T 58],
   I 60 (.slice 10 false true false) [T 56, T 59],
   I 0 (.mv) [T 60]])
 (.seq (.seq (.region [I 61 (.mv) [T 2],
   I 62 (.mv) [T 0],
   I 63 (.mv) [T 1],
   I 64 (.mv) [T 7],
   I 65 (.bin .add) [T 63, T 64],
   I 66 (.slice 10 true false false) [T 62, T 65],
   I 67 (.callv) [F 361, T 61, T 66],
   I 68 (.un .not) [T 67]])
 (.cond (T 68)
 (.seq (.draw [[⟨0, I 69 (.mv) [T 0], [], false⟩,
    ⟨1, I 70 (.mv) [T 1], [], false⟩,
    ⟨2, I 71 (.mv) [T 7], [], false⟩,
    ⟨3, I 72 (.bin .add) [T 70, T 71], [], false⟩,
    ⟨4, I 73 (.slice 10 true false false) [T 69, T 72], [], false⟩,
    ⟨5, I 74 (.mv) [T 0], [], false⟩,
    ⟨6, I 75 (.mv) [T 1], [], false⟩,
    ⟨7, I 76 (.slice 10 true false false) [T 74, T 75], [], false⟩,
    ⟨8, I 77 (.copy 10) [T 73, T 76], [], false⟩]])
  (.seq (.region [I 78 (.mv) [T 0],
    I 79 (.mv) [T 1],
    I 80 (.slice 10 true false false) [T 78, T 79],
    I 81 (.mv) [T 2],
    I 82 (.copy 10) [T 80, T 81]])
  (.seq (.region [I 83 (.mv) [T 0],
    I 6 (.mv) [T 83]])
  (.ret))))
 (.skip)))
 (.seq (.region [I 84 (.mv) [T 0],
   I 85 (.mv) [T 8],
   I 86 (.slice 10 true false false) [T 84, T 85],
   I 87 (.mv) [T 2],
   I 88 (.copy 10) [T 86, T 87]])
 (.seq (.region [I 89 (.mv) [T 0],
   I 90 (.mv) [T 1],
   I 91 (.slice 10 true false false) [T 89, T 90],
   I 92 (.mv) [T 7],
   I 93 (.callv) [F 362, T 91, T 92]])
 (.seq (.region [I 94 (.mv) [T 0],
   I 6 (.mv) [T 94]])
 (.ret))))))))))))⟩
theorem t328 : trFn Tryz.prog Tryz.f328 = some c_slices_Insert_api_Entry_api_Entry := by kernel_rfl
/-- (*pantry/kern.Kernel).begin -/
abbrev n_kern_Kernel_begin : Nat := 331
/-- live: [0, 1, 2, 10, 32, 33, 34] -/
def c_kern_Kernel_begin_L0 : ACode :=
 .seq (.region [I 35 (.bin .lss) [T 34, T 33]])
 (.seq (.cond (T 35)
 (.skip)
 (.exit 0))
 (.seq (.block 1 (.seq (.region [I 36 (.indexs 6) [T 32, T 34],
   I 37 (.loadn 6) [T 36],
   I 12 (.alloc 132 6 (.vals [(.int .i64 0), (.int .i64 0), (.int .i64 0), (.int .i64 0), (.bool false), (.bool false)])) [],
   J (.store 6) [T 12, T 37]])
 (.seq (.region [I 38 (.fieldAddr 1) [T 12],
   I 39 (.load1) [T 38],
   I 40 (.mv) [T 2],
   I 41 (.bin .leq) [T 39, T 40]])
 (.cond (T 41)
 (.region [I 42 (.fieldAddr 0) [T 10],
    I 43 (.load1) [T 42],
    I 44 (.fieldAddr 1) [T 12],
    I 45 (.load1) [T 44],
    I 46 (.max) [T 43, T 45],
    I 47 (.fieldAddr 0) [T 10],
    J (.store 1) [T 47, T 46]])
 (.region [I 48 (.fieldAddr 1) [T 10],
    I 49 (.load1) [T 48],
    I 50 (.fieldAddr 0) [T 12],
    I 51 (.load1) [T 50],
    I 52 (.min) [T 49, T 51],
    I 53 (.fieldAddr 1) [T 10],
    J (.store 1) [T 53, T 52]])))))
 (.region [I 54 (.bin .add) [T 34, N 1],
   I 34 (.mv) [T 54]])))
def c_kern_Kernel_begin : AFn := ⟨79, [.tmp 6, .tmp 7],
 .seq (.region [I 6 (.mv) [.lit .nilptr],
   I 7 (.mv) [N 0]])
 (.seq (.region [I 16 (.mv) [T 1],
   I 17 (.nilCheck) [T 16],
   I 18 (.fieldAddr 1) [T 17],
   I 19 (.load1) [T 18],
   I 20 (.mv) [T 2],
   I 21 (.callv) [F 45, T 19, T 20],
   I 15 (.mv) [T 21],
   I 22 (.extract 0) [T 15],
   I 23 (.extract 1) [T 15],
   I 8 (.alloc 94 10 (.vals [(.int .i64 0), (.int .i64 0), (.int .i64 0), (.int .i64 0), (.bool false), (.int .i64 0), (.int .i64 0), (.int .i64 0), (.int .i64 0), (.bool false)])) [],
   J (.store 10) [T 8, T 22],
   I 9 (.mv) [T 23]])
 (.seq (.region [I 24 (.fieldAddr 0) [T 8],
   I 25 (.load1) [T 24],
   I 26 (.fieldAddr 1) [T 8],
   I 27 (.load1) [T 26],
   I 28 (.build (.agg [(.int .i64 0), (.int .i64 0), (.int .i64 0), (.int .i64 0), (.bool false), (.bool false)]) [(0, 1), (1, 1)]) [T 25, T 27],
   I 10 (.alloc 132 6 (.vals [(.int .i64 0), (.int .i64 0), (.int .i64 0), (.int .i64 0), (.bool false), (.bool false)])) [],
   J (.store 6) [T 10, T 28]])
 (.seq (.seq (.region [I 29 (.mv) [T 1],
   I 30 (.nilCheck) [T 29],
   I 31 (.fieldAddr 3) [T 30],
   I 32 (.load1) [T 31],
   I 33 (.lens) [T 32],
   I 34 (.mv) [N 0]])
 (.block 0 (.loop c_kern_Kernel_begin_L0)))
 (.seq (.draw [[⟨0, I 56 (.mv) [T 0], [], false⟩,
   ⟨1, I 57 (.nilCheck) [T 56], [], false⟩,
   ⟨2, I 58 (.fieldAddr 6) [T 57], [], false⟩,
   ⟨3, I 59 (.load1) [T 58], [], false⟩,
   ⟨4, I 60 (.fieldAddr 1) [T 10], [], false⟩,
   ⟨5, I 61 (.load1) [T 60], [], false⟩,
   ⟨6, I 62 (.fieldAddr 0) [T 10], [], false⟩,
   ⟨7, I 63 (.load1) [T 62], [], false⟩,
   ⟨8, I 64 (.bin .sub) [T 61, T 63], [], false⟩,
   ⟨9, I 65 (.callv) [F 170, T 59, T 64], [], false⟩,
   ⟨10, I 55 (.mv) [T 65], [], false⟩,
   ⟨11, I 66 (.extract 0) [T 55], [], false⟩,
   ⟨12, I 67 (.extract 1) [T 55], [], false⟩,
   ⟨13, I 13 (.mv) [T 66], [], false⟩,
   ⟨14, I 14 (.mv) [T 67], [], false⟩]])
 (.seq (.seq (.region [I 68 (.mv) [T 14],
   I 69 (.bin .neq) [T 68, N 0]])
 (.cond (T 69)
 (.seq (.region [I 70 (.mv) [T 14],
    I 6 (.mv) [.lit .nilptr],
    I 7 (.mv) [T 70]])
  (.ret))
 (.skip)))
 (.seq (.region [I 71 (.mv) [T 13],
   I 72 (.fieldAddr 2) [T 10],
   J (.store 1) [T 72, T 71]])
 (.seq (.region [I 73 (.mv) [T 1],
   I 74 (.loadn 6) [T 10],
   I 75 (.callv) [F 173, T 73, T 74]])
 (.seq (.region [I 76 (.mv) [T 1],
   I 77 (.mv) [T 2],
   I 78 (.callv) [F 124, T 76, T 77],
   I 6 (.mv) [T 78],
   I 7 (.mv) [N 0]])
 (.ret)))))))))⟩
theorem t331 : trFn Tryz.prog Tryz.f331 = some c_kern_Kernel_begin := by kernel_rfl
/-- (*pantry/amap.Pool).known -/
abbrev n_amap_Pool_known : Nat := 334
def c_amap_Pool_known : AFn := ⟨16, [.tmp 4, .tmp 5],
 .seq (.region [I 4 (.mv) [.lit .nilptr],
   I 5 (.mv) [N 0]])
 (.seq (.seq (.region [I 7 (.mv) [T 0],
   I 8 (.callv) [F 138, T 7],
   I 9 (.un .not) [T 8]])
 (.cond (T 9)
 (.seq (.region [I 4 (.mv) [.lit .nilptr],
    I 5 (.mv) [N 1]])
  (.ret))
 (.skip)))
 (.seq (.region [I 10 (.mv) [T 0],
   I 11 (.mv) [T 1],
   I 12 (.callv) [F 139, T 10, T 11],
   I 6 (.mv) [T 12]])
 (.seq (.seq (.region [I 13 (.mv) [T 6],
   I 14 (.eqv false .ptr) [T 13, .lit .nilptr]])
 (.cond (T 14)
 (.seq (.region [I 4 (.mv) [.lit .nilptr],
    I 5 (.mv) [N 7]])
  (.ret))
 (.skip)))
 (.seq (.region [I 15 (.mv) [T 6],
   I 4 (.mv) [T 15],
   I 5 (.mv) [N 0]])
 (.ret)))))⟩
theorem t334 : trFn Tryz.prog Tryz.f334 = some c_amap_Pool_known := by kernel_rfl
/-- (*pantry/spread.Counts).Grow -/
abbrev n_spread_Counts_Grow : Nat := 337
def c_spread_Counts_Grow : AFn := ⟨47, [.tmp 4],
 .seq (.region [I 4 (.mv) [N 0]])
 (.seq (.block 0 (.seq (.region [I 6 (.mv) [T 0],
   I 7 (.callv) [F 320, T 6],
   I 8 (.un .not) [T 7],
   I 5 (.mv) [T 8]])
 (.cond (T 5)
 (.seq (.region [I 4 (.mv) [N 1]])
  (.ret))
 (.seq (.region [I 10 (.mv) [T 1],
    I 11 (.mv) [T 0],
    I 12 (.nilCheck) [T 11],
    I 13 (.fieldAddr 1) [T 12],
    I 14 (.load1) [T 13],
    I 15 (.bin .lss) [T 10, T 14],
    I 16 (.mv) [T 15],
    IG 17 (.mv) [T 1] 16 false,
    IG 18 (.bin .gtr) [T 17, N 4096] 16 false,
    I 19 (.pick) [T 16, .lit (.bool true), T 18],
    I 9 (.mv) [T 19]])
  (.cond (T 9)
  (.seq (.region [I 4 (.mv) [N 2]])
   (.ret))
  (.skip))))))
 (.seq (.seq (.region [I 20 (.mv) [T 1],
   I 21 (.mv) [T 0],
   I 22 (.nilCheck) [T 21],
   I 23 (.fieldAddr 1) [T 22],
   I 24 (.load1) [T 23],
   I 25 (.bin .gtr) [T 20, T 24]])
 (.cond (T 25)
 (.draw [[⟨0, I 26 (.mv) [T 0], [], false⟩,
    ⟨1, I 27 (.mv) [T 0], [], false⟩,
    ⟨2, I 28 (.nilCheck) [T 27], [], false⟩,
    ⟨3, I 29 (.fieldAddr 0) [T 28], [], false⟩,
    ⟨4, I 30 (.load1) [T 29], [], false⟩,
    ⟨6, I 32 (.mv) [T 0], [], false⟩,
    ⟨7, I 33 (.nilCheck) [T 32], [], false⟩,
    ⟨8, I 34 (.fieldAddr 1) [T 33], [], false⟩,
    ⟨9, I 35 (.load1) [T 34], [], false⟩,
    ⟨10, I 36 (.mv) [T 1], [], false⟩,
    ⟨11, I 37 (.build (.agg [(.int .i64 0), (.int .i64 0), (.int .i64 0)]) [(0, 1), (1, 1)]) [T 35, T 36], [], false⟩,
    ⟨5, I 31 (.callv) [F 339, T 30], [(9, I 35 (.load1) [T 34])], false⟩,
    ⟨12, I 38 (.bslice 313 3 1 (.vals [(.int .i64 0), (.int .i64 0), (.int .i64 0)]) [0]) [T 37], [(4, I 30 (.load1) [T 29])], false⟩,
    ⟨13, I 39 (.append 313 3 24 (.vals [(.int .i64 0), (.int .i64 0), (.int .i64 0)])) [T 31, T 38], [], false⟩,
    ⟨14, I 40 (.callv) [F 340, T 39], [], false⟩,
    ⟨15, I 41 (.nilCheck) [T 26], [], false⟩,
    ⟨16, I 42 (.fieldAddr 0) [T 41], [], false⟩,
    ⟨17, J (.store 1) [T 42, T 40], [], false⟩],
[⟨0, I 26 (.mv) [T 0], [], false⟩,
    ⟨1, I 27 (.mv) [T 0], [], false⟩,
    ⟨2, I 28 (.nilCheck) [T 27], [], false⟩,
    ⟨3, I 29 (.fieldAddr 0) [T 28], [], false⟩,
    ⟨4, I 30 (.load1) [T 29], [], false⟩,
    ⟨6, I 32 (.mv) [T 0], [], false⟩,
    ⟨7, I 33 (.nilCheck) [T 32], [], false⟩,
    ⟨8, I 34 (.fieldAddr 1) [T 33], [], false⟩,
    ⟨9, I 35 (.load1) [T 34], [], false⟩,
    ⟨10, I 36 (.mv) [T 1], [], false⟩,
    ⟨11, I 37 (.build (.agg [(.int .i64 0), (.int .i64 0), (.int .i64 0)]) [(0, 1), (1, 1)]) [T 35, T 36], [], false⟩,
    ⟨12, I 38 (.bslice 313 3 1 (.vals [(.int .i64 0), (.int .i64 0), (.int .i64 0)]) [0]) [T 37], [(4, I 30 (.load1) [T 29])], false⟩,
    ⟨5, I 31 (.callv) [F 339, T 30], [(9, I 35 (.load1) [T 34])], false⟩,
    ⟨13, I 39 (.append 313 3 24 (.vals [(.int .i64 0), (.int .i64 0), (.int .i64 0)])) [T 31, T 38], [], false⟩,
    ⟨14, I 40 (.callv) [F 340, T 39], [], false⟩,
    ⟨15, I 41 (.nilCheck) [T 26], [], false⟩,
    ⟨16, I 42 (.fieldAddr 0) [T 41], [], false⟩,
    ⟨17, J (.store 1) [T 42, T 40], [], false⟩]])
 (.skip)))
 (.seq (.region [I 43 (.mv) [T 0],
   I 44 (.mv) [T 1],
   I 45 (.nilCheck) [T 43],
   I 46 (.fieldAddr 1) [T 45],
   J (.store 1) [T 46, T 44]])
 (.seq (.region [I 4 (.mv) [N 0]])
 (.ret)))))⟩
theorem t337 : trFn Tryz.prog Tryz.f337 = some c_spread_Counts_Grow := by kernel_rfl
/-- pantry/spread.split -/
abbrev n_spread_split : Nat := 338
def c_spread_split : AFn := ⟨39, [.tmp 4],
 .seq (.region [I 3 (.box 3 1) [T 1],
   I 4 (.mv) [.lit .nilsl]])
 (.seq (.region [I 8 (.mv) [T 0],
   I 9 (.mkfunc 366 0) [T 3],
   I 10 (.callv) [F 365, T 8, T 9],
   I 5 (.mv) [T 10]])
 (.seq (.seq (.region [I 11 (.mv) [T 5],
   I 12 (.bin .lss) [T 11, N 0]])
 (.cond (T 12)
 (.seq (.region [I 13 (.mv) [T 0],
    I 4 (.mv) [T 13]])
  (.ret))
 (.skip)))
 (.seq (.draw [[⟨0, I 14 (.mv) [T 0], [], false⟩,
   ⟨1, I 15 (.mv) [T 5], [], false⟩,
   ⟨2, I 16 (.indexs 3) [T 14, T 15], [], false⟩,
   ⟨3, I 17 (.loadn 3) [T 16], [], false⟩,
   ⟨4, I 18 (.mv) [T 0], [], false⟩,
   ⟨5, I 19 (.mv) [T 5], [], false⟩,
   ⟨6, I 20 (.indexs 3) [T 18, T 19], [], false⟩,
   ⟨7, I 21 (.loadn 3) [T 20], [], false⟩,
   ⟨8, I 6 (.alloc 313 3 (.vals [(.int .i64 0), (.int .i64 0), (.int .i64 0)])) [], [(3, I 17 (.loadn 3) [T 16]), (7, I 21 (.loadn 3) [T 20])], false⟩,
   ⟨9, I 7 (.alloc 313 3 (.vals [(.int .i64 0), (.int .i64 0), (.int .i64 0)])) [], [(3, I 17 (.loadn 3) [T 16]), (7, I 21 (.loadn 3) [T 20])], false⟩,
   ⟨10, J (.store 3) [T 6, T 17], [(7, I 21 (.loadn 3) [T 20])], false⟩,
   ⟨11, J (.store 3) [T 7, T 21], [], false⟩],
[⟨0, I 14 (.mv) [T 0], [], false⟩,
   ⟨1, I 15 (.mv) [T 5], [], false⟩,
   ⟨2, I 16 (.indexs 3) [T 14, T 15], [], false⟩,
   ⟨3, I 17 (.loadn 3) [T 16], [], false⟩,
   ⟨4, I 18 (.mv) [T 0], [], false⟩,
   ⟨5, I 19 (.mv) [T 5], [], false⟩,
   ⟨6, I 20 (.indexs 3) [T 18, T 19], [], false⟩,
   ⟨7, I 21 (.loadn 3) [T 20], [], false⟩,
   ⟨9, I 7 (.alloc 313 3 (.vals [(.int .i64 0), (.int .i64 0), (.int .i64 0)])) [], [(3, I 17 (.loadn 3) [T 16]), (7, I 21 (.loadn 3) [T 20])], false⟩,
   ⟨8, I 6 (.alloc 313 3 (.vals [(.int .i64 0), (.int .i64 0), (.int .i64 0)])) [], [(3, I 17 (.loadn 3) [T 16]), (7, I 21 (.loadn 3) [T 20])], false⟩,
   ⟨10, J (.store 3) [T 6, T 17], [(7, I 21 (.loadn 3) [T 20])], false⟩,
   ⟨11, J (.store 3) [T 7, T 21], [], false⟩]])
 (.seq (.draw [[⟨0, I 22 (.load1) [T 3], [], false⟩,
   ⟨1, I 23 (.load1) [T 3], [], false⟩,
   ⟨2, I 24 (.fieldAddr 1) [T 6], [], false⟩,
   ⟨3, J (.store 1) [T 24, T 22], [(1, I 23 (.load1) [T 3])], false⟩,
   ⟨4, I 25 (.fieldAddr 0) [T 7], [], false⟩,
   ⟨5, J (.store 1) [T 25, T 23], [], false⟩]])
 (.seq (.draw [[⟨0, I 26 (.mv) [T 0], [], false⟩,
   ⟨1, I 27 (.mv) [T 5], [], false⟩,
   ⟨2, I 28 (.mv) [T 5], [], false⟩,
   ⟨3, I 29 (.slice 3 false true true) [T 26, T 27, T 28], [], false⟩,
   ⟨4, I 30 (.loadn 3) [T 6], [], false⟩,
   ⟨5, I 31 (.loadn 3) [T 7], [], false⟩,
   ⟨7, I 33 (.mv) [T 0], [], false⟩,
   ⟨8, I 34 (.mv) [T 5], [], false⟩,
   ⟨9, I 35 (.bin .add) [T 34, N 1], [], false⟩,
   ⟨10, I 36 (.slice 3 true false false) [T 33, T 35], [], false⟩,
   ⟨6, I 32 (.bslice 313 3 2 (.vals [(.int .i64 0), (.int .i64 0), (.int .i64 0)]) [0, 1]) [T 30, T 31], [], false⟩,
   ⟨11, I 37 (.bslice 371 1 3 (.vals [.nilsl]) [0, 1, 2]) [T 29, T 32, T 36], [], false⟩,
   ⟨12, I 38 (.callv) [F 367, T 37], [], false⟩,
   ⟨13, I 4 (.mv) [T 38], [], false⟩]])
 (.ret))))))⟩
theorem t338 : trFn Tryz.prog Tryz.f338 = some c_spread_split := by kernel_rfl
/-- slices.Clone[[]pantry/api.Run,pantry/api.Run] -/
abbrev n_slices_Clone_api_Run_api_Run : Nat := 339
def c_slices_Clone_api_Run_api_Run : AFn := ⟨8, [.tmp 2],
 .seq (.region [I 2 (.mv) [.lit .nilsl]])
 (.seq (.seq (.region [I 3 (.mv) [T 0],
   I 4 (.eqv false .slice) [T 3, .lit .nilsl]])
 (.cond (T 4)
 (.seq (.region [I 2 (.mv) [.lit .nilsl]])
  (.ret))
 (.skip)))
 (.seq (.region [I 5 (.bslice 313 3 0 (.vals [(.int .i64 0), (.int .i64 0), (.int .i64 0)]) []) [],
   I 6 (.mv) [T 0],
   I 7 (.append 313 3 24 (.vals [(.int .i64 0), (.int .i64 0), (.int .i64 0)])) [T 5, T 6],
   I 2 (.mv) [T 7]])
 (.ret)))⟩
theorem t339 : trFn Tryz.prog Tryz.f339 = some c_slices_Clone_api_Run_api_Run := by kernel_rfl
/-- pantry/spread.join -/
abbrev n_spread_join : Nat := 340
/-- live: [3, 7, 8, 9] -/
def c_spread_join_L0 : ACode :=
 .seq (.region [I 10 (.bin .lss) [T 9, T 8]])
 (.seq (.cond (T 10)
 (.skip)
 (.exit 0))
 (.seq (.block 1 (.seq (.region [I 11 (.indexs 3) [T 7, T 9],
   I 12 (.loadn 3) [T 11],
   I 5 (.alloc 313 3 (.vals [(.int .i64 0), (.int .i64 0), (.int .i64 0)])) [],
   J (.store 3) [T 5, T 12]])
 (.seq (.region [I 13 (.mv) [T 3],
   I 14 (.lens) [T 13],
   I 15 (.bin .sub) [T 14, N 1],
   I 6 (.mv) [T 15]])
 (.seq (.draw [[⟨0, I 16 (.mv) [T 6], [], false⟩,
   ⟨1, I 17 (.bin .geq) [T 16, N 0], [], false⟩,
   ⟨2, I 18 (.mv) [T 17], [], false⟩,
   ⟨3, IG 19 (.mv) [T 3] 18 true, [], false⟩,
   ⟨4, IG 20 (.mv) [T 6] 18 true, [], false⟩,
   ⟨5, IG 21 (.indexs 3) [T 19, T 20] 18 true, [], false⟩,
   ⟨6, IG 22 (.fieldAddr 2) [T 21] 18 true, [], false⟩,
   ⟨7, IG 23 (.load1) [T 22] 18 true, [], false⟩,
   ⟨8, IG 24 (.fieldAddr 2) [T 5] 18 true, [], false⟩,
   ⟨9, IG 25 (.load1) [T 24] 18 true, [], false⟩,
   ⟨10, IG 26 (.bin .eql) [T 23, T 25] 18 true, [], false⟩,
   ⟨11, I 27 (.pick) [T 18, T 26, .lit (.bool false)], [], false⟩]])
 (.cond (T 27)
 (.region [I 28 (.mv) [T 3],
    I 29 (.mv) [T 6],
    I 30 (.fieldAddr 1) [T 5],
    I 31 (.load1) [T 30],
    I 32 (.indexs 3) [T 28, T 29],
    I 33 (.fieldAddr 1) [T 32],
    J (.store 1) [T 33, T 31]])
 (.region [I 34 (.mv) [T 3],
    I 35 (.loadn 3) [T 5],
    I 36 (.bslice 313 3 1 (.vals [(.int .i64 0), (.int .i64 0), (.int .i64 0)]) [0]) [T 35],
    I 37 (.append 313 3 24 (.vals [(.int .i64 0), (.int .i64 0), (.int .i64 0)])) [T 34, T 36],
    I 3 (.mv) [T 37]]))))))
 (.region [I 38 (.bin .add) [T 9, N 1],
   I 9 (.mv) [T 38]])))
def c_spread_join : AFn := ⟨40, [.tmp 2],
 .seq (.region [I 2 (.mv) [.lit .nilsl]])
 (.seq (.region [I 3 (.mv) [.lit .nilsl]])
 (.seq (.seq (.region [I 7 (.mv) [T 0],
   I 8 (.lens) [T 7],
   I 9 (.mv) [N 0]])
 (.block 0 (.loop c_spread_join_L0)))
 (.seq (.region [I 39 (.mv) [T 3],
   I 2 (.mv) [T 39]])
 (.ret))))⟩
theorem t340 : trFn Tryz.prog Tryz.f340 = some c_spread_join := by kernel_rfl
/-- pantry/pte.low -/
abbrev n_pte_low : Nat := 349
def c_pte_low : AFn := ⟨10, [.tmp 4],
 .seq (.region [I 4 (.mv) [.lit (.int .u64 0)]])
 (.seq (.region [I 5 (.mv) [T 0],
   I 6 (.mv) [T 1],
   I 7 (.bin .shl) [.lit (.int .u64 1), T 6],
   I 8 (.bin .sub) [T 7, .lit (.int .u64 1)],
   I 9 (.bin .and) [T 5, T 8],
   I 4 (.mv) [T 9]])
 (.ret))⟩
theorem t349 : trFn Tryz.prog Tryz.f349 = some c_pte_low := by kernel_rfl
/-- (*pantry/phys.Memory).cell -/
abbrev n_phys_Memory_cell : Nat := 350
def c_phys_Memory_cell : AFn := ⟨29, [.tmp 6],
 .seq (.region [I 6 (.mv) [.lit .nilsl]])
 (.seq (.region [I 8 (.mv) [T 0],
   I 9 (.mv) [T 1],
   I 10 (.callv) [F 136, T 8, T 9],
   I 7 (.mv) [T 10]])
 (.seq (.seq (.region [I 11 (.mv) [T 7],
   I 12 (.eqv false .ptr) [T 11, .lit .nilptr],
   I 13 (.mv) [T 12],
   IG 14 (.mv) [T 2] 13 false,
   IG 15 (.bin .lss) [T 14, N 0] 13 false,
   I 16 (.pick) [T 13, .lit (.bool true), T 15],
   I 17 (.mv) [T 16],
   IG 18 (.mv) [T 2] 17 false,
   IG 19 (.bin .geq) [T 18, N 512] 17 false,
   I 20 (.pick) [T 17, .lit (.bool true), T 19]])
 (.cond (T 20)
 (.seq (.region [I 6 (.mv) [.lit .nilsl]])
  (.ret))
 (.skip)))
 (.seq (.region [I 21 (.mv) [T 7],
   I 22 (.nilCheck) [T 21],
   I 23 (.mv) [T 2],
   I 24 (.bin .mul) [N 8, T 23],
   I 25 (.mv) [T 2],
   I 26 (.bin .mul) [N 8, T 25],
   I 27 (.bin .add) [T 26, N 8],
   I 28 (.slicea 4096 1 true true false) [T 22, T 24, T 27],
   I 6 (.mv) [T 28]])
 (.ret))))⟩
theorem t350 : trFn Tryz.prog Tryz.f350 = some c_phys_Memory_cell := by kernel_rfl
/-- (*pantry/pmap.Map).bare -/
abbrev n_pmap_Map_bare : Nat := 351
/-- live: [0, 1, 8] -/
def c_pmap_Map_bare_L0 : ACode :=
 .seq (.region [I 9 (.bin .lss) [T 8, N 512]])
 (.seq (.cond (T 9)
 (.skip)
 (.exit 0))
 (.seq (.block 1 (.seq (.region [I 10 (.mv) [T 8],
   I 5 (.mv) [T 10]])
 (.seq (.region [I 12 (.mv) [T 0],
   I 13 (.nilCheck) [T 12],
   I 14 (.fieldAddr 0) [T 13],
   I 15 (.load1) [T 14],
   I 16 (.mv) [T 1],
   I 17 (.mv) [T 5],
   I 18 (.callv) [F 311, T 15, T 16, T 17],
   I 11 (.mv) [T 18],
   I 19 (.extract 0) [T 11],
   I 20 (.extract 1) [T 11],
   I 6 (.mv) [T 19],
   I 7 (.mv) [T 20]])
 (.seq (.region [I 21 (.mv) [T 6],
   I 22 (.bin .neq) [T 21, .lit (.int .u64 0)]])
 (.cond (T 22)
 (.seq (.region [I 4 (.mv) [.lit (.bool false)]])
  (.ret))
 (.skip))))))
 (.region [I 23 (.bin .add) [T 8, N 1],
   I 8 (.mv) [T 23]])))
def c_pmap_Map_bare : AFn := ⟨24, [.tmp 4],
 .seq (.region [I 4 (.mv) [.lit (.bool false)]])
 (.seq (.seq (.region [I 8 (.mv) [N 0]])
 (.block 0 (.loop c_pmap_Map_bare_L0)))
 (.seq (.region [I 4 (.mv) [.lit (.bool true)]])
 (.ret)))⟩
theorem t351 : trFn Tryz.prog Tryz.f351 = some c_pmap_Map_bare := by kernel_rfl
/-- slices.IndexFunc[[]pantry/frames.Frame,pantry/frames.Frame] -/
abbrev n_slices_IndexFunc_frames_Frame_frames_Frame : Nat := 352
/-- live: [0, 1, 7, 8] -/
def c_slices_IndexFunc_frames_Frame_frames_Frame_L0 : ACode :=
 .seq (.region [I 9 (.bin .lss) [T 8, T 7]])
 (.seq (.cond (T 9)
 (.skip)
 (.exit 0))
 (.seq (.block 1 (.seq (.region [I 10 (.mv) [T 8],
   I 5 (.mv) [T 10]])
 (.seq (.region [I 11 (.mv) [T 1],
   I 12 (.mv) [T 0],
   I 13 (.mv) [T 5],
   I 14 (.indexs 5) [T 12, T 13],
   I 15 (.loadn 5) [T 14],
   I 16 (.callv) [T 11, T 15]])
 (.cond (T 16)
 (.seq (.region [I 17 (.mv) [T 5],
    I 4 (.mv) [T 17]])
  (.ret))
 (.skip)))))
 (.region [I 18 (.bin .add) [T 8, N 1],
   I 8 (.mv) [T 18]])))
def c_slices_IndexFunc_frames_Frame_frames_Frame : AFn := ⟨19, [.tmp 4],
 .seq (.region [I 4 (.mv) [N 0]])
 (.seq (.seq (.region [I 6 (.mv) [T 0],
   I 7 (.lens) [T 6],
   I 8 (.mv) [N 0]])
 (.block 0 (.loop c_slices_IndexFunc_frames_Frame_frames_Frame_L0)))
 (.seq (.region [I 4 (.mv) [N (-1)]])
 (.ret)))⟩
theorem t352 : trFn Tryz.prog Tryz.f352 = some c_slices_IndexFunc_frames_Frame_frames_Frame := by kernel_rfl
/-- (*pantry/frames.Pool).Take$1 -/
abbrev n_frames_Pool_Take_1 : Nat := 353
def c_frames_Pool_Take_1 : AFn := ⟨6, [.tmp 2],
 .seq (.region [I 1 (.box 114 5) [T 0],
   I 2 (.mv) [.lit (.bool false)]])
 (.seq (.region [I 3 (.loadn 5) [T 1],
   I 4 (.build (.agg [(.int .i64 0), (.int .i64 0), (.int .i64 0), (.int .i64 0), (.int .i64 0)]) []) [],
   I 5 (.eqv false (.flat [.int, .int, .int, .int, .int])) [T 3, T 4],
   I 2 (.mv) [T 5]])
 (.ret))⟩
theorem t353 : trFn Tryz.prog Tryz.f353 = some c_frames_Pool_Take_1 := by kernel_rfl
/-- slices.IndexFunc[[]pantry/api.Run,pantry/api.Run] -/
abbrev n_slices_IndexFunc_api_Run_api_Run : Nat := 365
/-- live: [0, 1, 7, 8] -/
def c_slices_IndexFunc_api_Run_api_Run_L0 : ACode :=
 .seq (.region [I 9 (.bin .lss) [T 8, T 7]])
 (.seq (.cond (T 9)
 (.skip)
 (.exit 0))
 (.seq (.block 1 (.seq (.region [I 10 (.mv) [T 8],
   I 5 (.mv) [T 10]])
 (.seq (.region [I 11 (.mv) [T 1],
   I 12 (.mv) [T 0],
   I 13 (.mv) [T 5],
   I 14 (.indexs 3) [T 12, T 13],
   I 15 (.loadn 3) [T 14],
   I 16 (.callv) [T 11, T 15]])
 (.cond (T 16)
 (.seq (.region [I 17 (.mv) [T 5],
    I 4 (.mv) [T 17]])
  (.ret))
 (.skip)))))
 (.region [I 18 (.bin .add) [T 8, N 1],
   I 8 (.mv) [T 18]])))
def c_slices_IndexFunc_api_Run_api_Run : AFn := ⟨19, [.tmp 4],
 .seq (.region [I 4 (.mv) [N 0]])
 (.seq (.seq (.region [I 6 (.mv) [T 0],
   I 7 (.lens) [T 6],
   I 8 (.mv) [N 0]])
 (.block 0 (.loop c_slices_IndexFunc_api_Run_api_Run_L0)))
 (.seq (.region [I 4 (.mv) [N (-1)]])
 (.ret)))⟩
theorem t365 : trFn Tryz.prog Tryz.f365 = some c_slices_IndexFunc_api_Run_api_Run := by kernel_rfl
/-- pantry/spread.split$1 -/
abbrev n_spread_split_1 : Nat := 366
def c_spread_split_1 : AFn := ⟨14, [.tmp 3],
 .seq (.region [I 2 (.box 313 3) [T 0],
   I 3 (.mv) [.lit (.bool false)]])
 (.seq (.region [I 4 (.fieldAddr 0) [T 2],
   I 5 (.load1) [T 4],
   I 6 (.load1) [T 1],
   I 7 (.bin .lss) [T 5, T 6],
   I 8 (.mv) [T 7],
   IG 9 (.load1) [T 1] 8 true,
   IG 10 (.fieldAddr 1) [T 2] 8 true,
   IG 11 (.load1) [T 10] 8 true,
   IG 12 (.bin .lss) [T 9, T 11] 8 true,
   I 13 (.pick) [T 8, T 12, .lit (.bool false)],
   I 3 (.mv) [T 13]])
 (.ret))⟩
theorem t366 : trFn Tryz.prog Tryz.f366 = some c_spread_split_1 := by kernel_rfl
def tab : BT := (.node (.node (.node (.node (.node (.node (.node (.node .leaf 3 c_law19_LoanNone .leaf) 4 c_law20_DaemonNone (.node .leaf 13 c_daemon_Daemon_Tick .leaf)) 14 c_daemon_Daemon_Want (.node (.node .leaf 15 c_daemon_Daemon_Active .leaf) 16 c_daemon_Daemon_Inactive .leaf)) 17 c_daemon_New (.node (.node (.node .leaf 18 c_law20_lives .leaf) 24 c_kern_Kernel_Do .leaf) 25 c_kern_Kernel_Seen (.node (.node .leaf 26 c_kern_Kernel_Evict .leaf) 30 c_kern_Kernel_Procs .leaf))) 32 c_kern_Kernel_Resident (.node (.node (.node (.node .leaf 33 c_kern_New .leaf) 37 c_slices_Sorted_int (.node .leaf 39 c_daemon_Daemon_made .leaf)) 40 c_daemon_Daemon_gather (.node (.node .leaf 41 c_daemon_Daemon_look .leaf) 42 c_daemon_Daemon_line .leaf)) 43 c_ring_New_int (.node (.node (.node .leaf 44 c_kern_Kernel_made .leaf) 45 c_vmap_Map_At .leaf) 47 c_kern_Kernel_anonAt (.node (.node .leaf 49 c_kern_Kernel_gone .leaf) 52 c_kern_Kernel_allowed .leaf)))) 53 c_kern_Kernel_find (.node (.node (.node (.node (.node .leaf 55 c_kern_Kernel_alone .leaf) 56 c_frames_Pool_Get (.node .leaf 58 c_phys_Memory_Frames .leaf)) 61 c_amap_Pool_Slots (.node (.node .leaf 62 c_amap_Pool_Cover .leaf) 63 c_amap_Pool_Get .leaf)) 64 c_object_Pool_Ids (.node (.node (.node .leaf 68 c_pmap_Map_All .leaf) 74 c_kern_Kernel_enter .leaf) 75 c_kern_Kernel_access (.node (.node .leaf 80 c_pmap_Map_Clear .leaf) 81 c_tlb_Table_Flush .leaf))) 82 c_kern_Kernel_wired (.node (.node (.node (.node .leaf 85 c_phys_Memory_Page .leaf) 86 c_kern_Kernel_leave .leaf) 88 c_kern_Kernel_stow (.node (.node .leaf 90 c_anon_Pool_Put .leaf) 91 c_frames_Pool_Give .leaf)) 94 c_frames_Pool_Free (.node (.node (.node .leaf 95 c_maps_Keys_map_int_kern_proc_int_kern_proc .leaf) 96 c_vmap_Map_Entries .leaf) 97 c_kern_may (.node (.node .leaf 98 c_phys_New .leaf) 99 c_frames_New .leaf))))) 100 c_swap_New (.node (.node (.node (.node (.node (.node .leaf 101 c_slots_New .leaf) 102 c_file_New (.node .leaf 103 c_anon_New .leaf)) 104 c_amap_New (.node (.node .leaf 105 c_object_New .leaf) 106 c_tlb_New .leaf)) 108 c_kern_Kernel_birth (.node (.node (.node .leaf 109 c_slices_Collect_int .leaf) 110 c_slices_Sort_int_int .leaf) 112 c_slices_Concat_int_int (.node (.node .leaf 114 c_ring_Rows_int_Remove .leaf) 115 c_ring_Rows_int_Where .leaf))) 116 c_ring_Rows_int_Push (.node (.node (.node (.node .leaf 117 c_ring_Rows_int_First .leaf) 118 c_daemon_Daemon_old .leaf) 119 c_daemon_Daemon_young (.node (.node .leaf 120 c_ring_Rows_int_All .leaf) 121 c_vmap_Map_made .leaf)) 122 c_entry_Find (.node (.node (.node .leaf 123 c_anon_Pool_made .leaf) 124 c_kern_proc_at .leaf) 126 c_file_Store_Size (.node (.node .leaf 129 c_kern_Kernel_reach .leaf) 130 c_kern_Kernel_fault .leaf)))) 131 c_frames_Pool_with (.node (.node (.node (.node (.node .leaf 134 c_kern_Kernel_out .leaf) 135 c_frames_Pool_made (.node .leaf 136 c_phys_Memory_at .leaf)) 138 c_amap_Pool_made (.node (.node .leaf 139 c_amap_Pool_of .leaf) 140 c_spread_Counts_At .leaf)) 141 c_object_Pool_made (.node (.node (.node .leaf 142 c_maps_Keys_map_int_object_one_int_object_one .leaf) 146 c_pmap_Map_made .leaf) 147 c_pmap_Map_All_1 (.node (.node .leaf 148 c_walk_Leaves .leaf) 149 c_pte_Kind .leaf))) 150 c_pte_gather (.node (.node (.node (.node .leaf 151 c_swap_Device_made .leaf) 153 c_slots_has .leaf) 159 c_phys_Memory_SetByte (.node (.node .leaf 160 c_vmap_Map_Map .leaf) 162 c_kern_Kernel_reap .leaf)) 170 c_amap_Pool_Make (.node (.node (.node .leaf 173 c_kern_proc_insert .leaf) 180 c_pmap_Map_change .leaf) 181 c_pmap_Map_Clear_1 (.node (.node .leaf 182 c_tlb_Table_drop .leaf) 186 c_frames_Pool_Own .leaf)))))) 188 c_slots_Slots_Take (.node (.node (.node (.node (.node (.node (.node .leaf 189 c_swap_Device_Write .leaf) 191 c_anon_Pool_change (.node .leaf 192 c_anon_Pool_Put_1 .leaf)) 193 c_frames_Pool_Give_1 (.node (.node .leaf 194 c_file_Store_made .leaf) 195 c_frames_Pool_Count .leaf)) 196 c_maps_Keys_map_int_kern_proc_int_kern_proc_1 (.node (.node (.node .leaf 197 c_slices_Clone_api_Entry_api_Entry .leaf) 199 c_slices_ContainsFunc_int_int .leaf) 200 c_pmap_New (.node (.node .leaf 201 c_vmap_New .leaf) 202 c_slices_AppendSeq_int_int .leaf))) 203 c_slices_pdqsortOrdered_int (.node (.node (.node (.node .leaf 204 c_math_bits_Len .leaf) 205 c_slices_Grow_int_int .leaf) 207 c_slices_DeleteFunc_int_int (.node (.node .leaf 208 c_ring_Rows_int_Remove_1 .leaf) 209 c_ring_Rows_int_Rows .leaf)) 210 c_ring_Rows_int_enter (.node (.node (.node .leaf 211 c_ring_Rows_int_All_1 .leaf) 212 c_ring_Rows_int_is .leaf) 213 c_slices_Clone_int_int (.node (.node .leaf 214 c_slices_BinarySearchFunc_api_Entry_api_Entry_int .leaf) 215 c_entry_Find_1 .leaf)))) 216 c_slices_IndexFunc_kern_area_kern_area (.node (.node (.node (.node (.node .leaf 217 c_kern_proc_at_1 .leaf) 218 c_swap_Device_may (.node .leaf 219 c_tlb_Table_Find .leaf)) 220 c_pte_May (.node (.node .leaf 221 c_walk_Walk .leaf) 222 c_pmap_Map_Root .leaf)) 223 c_walk_Look (.node (.node (.node .leaf 224 c_tlb_Table_Put .leaf) 225 c_kern_Kernel_private .leaf) 226 c_pmap_Map_Enter (.node (.node .leaf 227 c_pmap_Map_Remove .leaf) 229 c_spread_Counts_Len .leaf))) 230 c_spread_Counts_parts (.node (.node (.node (.node .leaf 231 c_maps_Keys_map_int_object_one_int_object_one_1 .leaf) 233 c_walk_Leaves_1 .leaf) 234 c_walk_Leaves_1_1 (.node (.node .leaf 235 c_walk_read .leaf) 236 c_walk_below .leaf)) 244 c_kern_Kernel_take (.node (.node (.node .leaf 245 c_phys_Memory_Zero .leaf) 247 c_phys_Memory_Fill .leaf) 249 c_entry_Good (.node (.node .leaf 252 c_entry_Space .leaf) 253 c_entry_Insert .leaf))))) 254 c_entry_Merge (.node (.node (.node (.node (.node (.node .leaf 259 c_kern_Kernel_own .leaf) 263 c_pmap_Map_below (.node .leaf 264 c_pmap_Map_give .leaf)) 267 c_spread_New (.node (.node .leaf 268 c_spread_Counts_Add .leaf) 269 c_slices_Index_amap_one_amap_one .leaf)) 271 c_amap_Pool_Set (.node (.node (.node .leaf 272 c_anon_Pool_Make .leaf) 276 c_slices_Insert_kern_area_kern_area .leaf) 284 c_kern_Kernel_put (.node (.node .leaf 286 c_pmap_Map_Find .leaf) 287 c_walk_Place .leaf))) 288 c_pte_Encode (.node (.node (.node (.node .leaf 289 c_phys_Memory_SetWord .leaf) 290 c_pmap_Map_tidy .leaf) 291 c_frames_Pool_Own_1 (.node (.node .leaf 292 c_slots_Slots_TakeRun .leaf) 293 c_swap_plan_fails .leaf)) 294 c_slots_put (.node (.node (.node .leaf 296 c_slices_IndexFunc_int_int .leaf) 297 c_frames_Pool_Take .leaf) 298 c_slices_insertionSortOrdered_int (.node (.node .leaf 308 c_math_bits_Len64 .leaf) 309 c_pte_Canonical .leaf)))) 310 c_pte_Split (.node (.node (.node (.node (.node .leaf 311 c_phys_Memory_Word .leaf) 312 c_tlb_Table_Put_1 (.node .leaf 315 c_kern_Kernel_fresh .leaf)) 316 c_pte_Index (.node (.node .leaf 318 c_pte_Flags .leaf) 319 c_pmap_Map_Remove_1 .leaf)) 320 c_spread_Counts_made (.node (.node (.node .leaf 321 c_spread_Counts_parts_1 .leaf) 322 c_pte_Decode .leaf) 327 c_entry_room (.node (.node .leaf 328 c_slices_Insert_api_Entry_api_Entry .leaf) 331 c_kern_Kernel_begin .leaf))) 334 c_amap_Pool_known (.node (.node (.node (.node .leaf 337 c_spread_Counts_Grow .leaf) 338 c_spread_split .leaf) 339 c_slices_Clone_api_Run_api_Run (.node (.node .leaf 340 c_spread_join .leaf) 349 c_pte_low .leaf)) 350 c_phys_Memory_cell (.node (.node (.node .leaf 351 c_pmap_Map_bare .leaf) 352 c_slices_IndexFunc_frames_Frame_frames_Frame .leaf) 353 c_frames_Pool_Take_1 (.node (.node .leaf 365 c_slices_IndexFunc_api_Run_api_Run .leaf) 366 c_spread_split_1 .leaf)))))))
theorem i3 : Is Tryz.prog 3 c_law19_LoanNone := ⟨Tryz.f3, Tryz.func3, t3, Tryz.call3⟩
theorem i4 : Is Tryz.prog 4 c_law20_DaemonNone := ⟨Tryz.f4, Tryz.func4, t4, Tryz.call4⟩
theorem i13 : Is Tryz.prog 13 c_daemon_Daemon_Tick := ⟨Tryz.f13, Tryz.func13, t13, Tryz.call13⟩
theorem i14 : Is Tryz.prog 14 c_daemon_Daemon_Want := ⟨Tryz.f14, Tryz.func14, t14, Tryz.call14⟩
theorem i15 : Is Tryz.prog 15 c_daemon_Daemon_Active := ⟨Tryz.f15, Tryz.func15, t15, Tryz.call15⟩
theorem i16 : Is Tryz.prog 16 c_daemon_Daemon_Inactive := ⟨Tryz.f16, Tryz.func16, t16, Tryz.call16⟩
theorem i17 : Is Tryz.prog 17 c_daemon_New := ⟨Tryz.f17, Tryz.func17, t17, Tryz.call17⟩
theorem i18 : Is Tryz.prog 18 c_law20_lives := ⟨Tryz.f18, Tryz.func18, t18, Tryz.call18⟩
theorem i24 : Is Tryz.prog 24 c_kern_Kernel_Do := ⟨Tryz.f24, Tryz.func24, t24, Tryz.call24⟩
theorem i25 : Is Tryz.prog 25 c_kern_Kernel_Seen := ⟨Tryz.f25, Tryz.func25, t25, Tryz.call25⟩
theorem i26 : Is Tryz.prog 26 c_kern_Kernel_Evict := ⟨Tryz.f26, Tryz.func26, t26, Tryz.call26⟩
theorem i30 : Is Tryz.prog 30 c_kern_Kernel_Procs := ⟨Tryz.f30, Tryz.func30, t30, Tryz.call30⟩
theorem i32 : Is Tryz.prog 32 c_kern_Kernel_Resident := ⟨Tryz.f32, Tryz.func32, t32, Tryz.call32⟩
theorem i33 : Is Tryz.prog 33 c_kern_New := ⟨Tryz.f33, Tryz.func33, t33, Tryz.call33⟩
theorem i37 : Is Tryz.prog 37 c_slices_Sorted_int := ⟨Tryz.f37, Tryz.func37, t37, Tryz.call37⟩
theorem i39 : Is Tryz.prog 39 c_daemon_Daemon_made := ⟨Tryz.f39, Tryz.func39, t39, Tryz.call39⟩
theorem i40 : Is Tryz.prog 40 c_daemon_Daemon_gather := ⟨Tryz.f40, Tryz.func40, t40, Tryz.call40⟩
theorem i41 : Is Tryz.prog 41 c_daemon_Daemon_look := ⟨Tryz.f41, Tryz.func41, t41, Tryz.call41⟩
theorem i42 : Is Tryz.prog 42 c_daemon_Daemon_line := ⟨Tryz.f42, Tryz.func42, t42, Tryz.call42⟩
theorem i43 : Is Tryz.prog 43 c_ring_New_int := ⟨Tryz.f43, Tryz.func43, t43, Tryz.call43⟩
theorem i44 : Is Tryz.prog 44 c_kern_Kernel_made := ⟨Tryz.f44, Tryz.func44, t44, Tryz.call44⟩
theorem i45 : Is Tryz.prog 45 c_vmap_Map_At := ⟨Tryz.f45, Tryz.func45, t45, Tryz.call45⟩
theorem i47 : Is Tryz.prog 47 c_kern_Kernel_anonAt := ⟨Tryz.f47, Tryz.func47, t47, Tryz.call47⟩
theorem i49 : Is Tryz.prog 49 c_kern_Kernel_gone := ⟨Tryz.f49, Tryz.func49, t49, Tryz.call49⟩
theorem i52 : Is Tryz.prog 52 c_kern_Kernel_allowed := ⟨Tryz.f52, Tryz.func52, t52, Tryz.call52⟩
theorem i53 : Is Tryz.prog 53 c_kern_Kernel_find := ⟨Tryz.f53, Tryz.func53, t53, Tryz.call53⟩
theorem i55 : Is Tryz.prog 55 c_kern_Kernel_alone := ⟨Tryz.f55, Tryz.func55, t55, Tryz.call55⟩
theorem i56 : Is Tryz.prog 56 c_frames_Pool_Get := ⟨Tryz.f56, Tryz.func56, t56, Tryz.call56⟩
theorem i58 : Is Tryz.prog 58 c_phys_Memory_Frames := ⟨Tryz.f58, Tryz.func58, t58, Tryz.call58⟩
theorem i61 : Is Tryz.prog 61 c_amap_Pool_Slots := ⟨Tryz.f61, Tryz.func61, t61, Tryz.call61⟩
theorem i62 : Is Tryz.prog 62 c_amap_Pool_Cover := ⟨Tryz.f62, Tryz.func62, t62, Tryz.call62⟩
theorem i63 : Is Tryz.prog 63 c_amap_Pool_Get := ⟨Tryz.f63, Tryz.func63, t63, Tryz.call63⟩
theorem i64 : Is Tryz.prog 64 c_object_Pool_Ids := ⟨Tryz.f64, Tryz.func64, t64, Tryz.call64⟩
theorem i68 : Is Tryz.prog 68 c_pmap_Map_All := ⟨Tryz.f68, Tryz.func68, t68, Tryz.call68⟩
theorem i74 : Is Tryz.prog 74 c_kern_Kernel_enter := ⟨Tryz.f74, Tryz.func74, t74, Tryz.call74⟩
theorem i75 : Is Tryz.prog 75 c_kern_Kernel_access := ⟨Tryz.f75, Tryz.func75, t75, Tryz.call75⟩
theorem i80 : Is Tryz.prog 80 c_pmap_Map_Clear := ⟨Tryz.f80, Tryz.func80, t80, Tryz.call80⟩
theorem i81 : Is Tryz.prog 81 c_tlb_Table_Flush := ⟨Tryz.f81, Tryz.func81, t81, Tryz.call81⟩
theorem i82 : Is Tryz.prog 82 c_kern_Kernel_wired := ⟨Tryz.f82, Tryz.func82, t82, Tryz.call82⟩
theorem i85 : Is Tryz.prog 85 c_phys_Memory_Page := ⟨Tryz.f85, Tryz.func85, t85, Tryz.call85⟩
theorem i86 : Is Tryz.prog 86 c_kern_Kernel_leave := ⟨Tryz.f86, Tryz.func86, t86, Tryz.call86⟩
theorem i88 : Is Tryz.prog 88 c_kern_Kernel_stow := ⟨Tryz.f88, Tryz.func88, t88, Tryz.call88⟩
theorem i90 : Is Tryz.prog 90 c_anon_Pool_Put := ⟨Tryz.f90, Tryz.func90, t90, Tryz.call90⟩
theorem i91 : Is Tryz.prog 91 c_frames_Pool_Give := ⟨Tryz.f91, Tryz.func91, t91, Tryz.call91⟩
theorem i94 : Is Tryz.prog 94 c_frames_Pool_Free := ⟨Tryz.f94, Tryz.func94, t94, Tryz.call94⟩
theorem i95 : Is Tryz.prog 95 c_maps_Keys_map_int_kern_proc_int_kern_proc := ⟨Tryz.f95, Tryz.func95, t95, Tryz.call95⟩
theorem i96 : Is Tryz.prog 96 c_vmap_Map_Entries := ⟨Tryz.f96, Tryz.func96, t96, Tryz.call96⟩
theorem i97 : Is Tryz.prog 97 c_kern_may := ⟨Tryz.f97, Tryz.func97, t97, Tryz.call97⟩
theorem i98 : Is Tryz.prog 98 c_phys_New := ⟨Tryz.f98, Tryz.func98, t98, Tryz.call98⟩
theorem i99 : Is Tryz.prog 99 c_frames_New := ⟨Tryz.f99, Tryz.func99, t99, Tryz.call99⟩
theorem i100 : Is Tryz.prog 100 c_swap_New := ⟨Tryz.f100, Tryz.func100, t100, Tryz.call100⟩
theorem i101 : Is Tryz.prog 101 c_slots_New := ⟨Tryz.f101, Tryz.func101, t101, Tryz.call101⟩
theorem i102 : Is Tryz.prog 102 c_file_New := ⟨Tryz.f102, Tryz.func102, t102, Tryz.call102⟩
theorem i103 : Is Tryz.prog 103 c_anon_New := ⟨Tryz.f103, Tryz.func103, t103, Tryz.call103⟩
theorem i104 : Is Tryz.prog 104 c_amap_New := ⟨Tryz.f104, Tryz.func104, t104, Tryz.call104⟩
theorem i105 : Is Tryz.prog 105 c_object_New := ⟨Tryz.f105, Tryz.func105, t105, Tryz.call105⟩
theorem i106 : Is Tryz.prog 106 c_tlb_New := ⟨Tryz.f106, Tryz.func106, t106, Tryz.call106⟩
theorem i108 : Is Tryz.prog 108 c_kern_Kernel_birth := ⟨Tryz.f108, Tryz.func108, t108, Tryz.call108⟩
theorem i109 : Is Tryz.prog 109 c_slices_Collect_int := ⟨Tryz.f109, Tryz.func109, t109, Tryz.call109⟩
theorem i110 : Is Tryz.prog 110 c_slices_Sort_int_int := ⟨Tryz.f110, Tryz.func110, t110, Tryz.call110⟩
theorem i112 : Is Tryz.prog 112 c_slices_Concat_int_int := ⟨Tryz.f112, Tryz.func112, t112, Tryz.call112⟩
theorem i114 : Is Tryz.prog 114 c_ring_Rows_int_Remove := ⟨Tryz.f114, Tryz.func114, t114, Tryz.call114⟩
theorem i115 : Is Tryz.prog 115 c_ring_Rows_int_Where := ⟨Tryz.f115, Tryz.func115, t115, Tryz.call115⟩
theorem i116 : Is Tryz.prog 116 c_ring_Rows_int_Push := ⟨Tryz.f116, Tryz.func116, t116, Tryz.call116⟩
theorem i117 : Is Tryz.prog 117 c_ring_Rows_int_First := ⟨Tryz.f117, Tryz.func117, t117, Tryz.call117⟩
theorem i118 : Is Tryz.prog 118 c_daemon_Daemon_old := ⟨Tryz.f118, Tryz.func118, t118, Tryz.call118⟩
theorem i119 : Is Tryz.prog 119 c_daemon_Daemon_young := ⟨Tryz.f119, Tryz.func119, t119, Tryz.call119⟩
theorem i120 : Is Tryz.prog 120 c_ring_Rows_int_All := ⟨Tryz.f120, Tryz.func120, t120, Tryz.call120⟩
theorem i121 : Is Tryz.prog 121 c_vmap_Map_made := ⟨Tryz.f121, Tryz.func121, t121, Tryz.call121⟩
theorem i122 : Is Tryz.prog 122 c_entry_Find := ⟨Tryz.f122, Tryz.func122, t122, Tryz.call122⟩
theorem i123 : Is Tryz.prog 123 c_anon_Pool_made := ⟨Tryz.f123, Tryz.func123, t123, Tryz.call123⟩
theorem i124 : Is Tryz.prog 124 c_kern_proc_at := ⟨Tryz.f124, Tryz.func124, t124, Tryz.call124⟩
theorem i126 : Is Tryz.prog 126 c_file_Store_Size := ⟨Tryz.f126, Tryz.func126, t126, Tryz.call126⟩
theorem i129 : Is Tryz.prog 129 c_kern_Kernel_reach := ⟨Tryz.f129, Tryz.func129, t129, Tryz.call129⟩
theorem i130 : Is Tryz.prog 130 c_kern_Kernel_fault := ⟨Tryz.f130, Tryz.func130, t130, Tryz.call130⟩
theorem i131 : Is Tryz.prog 131 c_frames_Pool_with := ⟨Tryz.f131, Tryz.func131, t131, Tryz.call131⟩
theorem i134 : Is Tryz.prog 134 c_kern_Kernel_out := ⟨Tryz.f134, Tryz.func134, t134, Tryz.call134⟩
theorem i135 : Is Tryz.prog 135 c_frames_Pool_made := ⟨Tryz.f135, Tryz.func135, t135, Tryz.call135⟩
theorem i136 : Is Tryz.prog 136 c_phys_Memory_at := ⟨Tryz.f136, Tryz.func136, t136, Tryz.call136⟩
theorem i138 : Is Tryz.prog 138 c_amap_Pool_made := ⟨Tryz.f138, Tryz.func138, t138, Tryz.call138⟩
theorem i139 : Is Tryz.prog 139 c_amap_Pool_of := ⟨Tryz.f139, Tryz.func139, t139, Tryz.call139⟩
theorem i140 : Is Tryz.prog 140 c_spread_Counts_At := ⟨Tryz.f140, Tryz.func140, t140, Tryz.call140⟩
theorem i141 : Is Tryz.prog 141 c_object_Pool_made := ⟨Tryz.f141, Tryz.func141, t141, Tryz.call141⟩
theorem i142 : Is Tryz.prog 142 c_maps_Keys_map_int_object_one_int_object_one := ⟨Tryz.f142, Tryz.func142, t142, Tryz.call142⟩
theorem i146 : Is Tryz.prog 146 c_pmap_Map_made := ⟨Tryz.f146, Tryz.func146, t146, Tryz.call146⟩
theorem i147 : Is Tryz.prog 147 c_pmap_Map_All_1 := ⟨Tryz.f147, Tryz.func147, t147, Tryz.call147⟩
theorem i148 : Is Tryz.prog 148 c_walk_Leaves := ⟨Tryz.f148, Tryz.func148, t148, Tryz.call148⟩
theorem i149 : Is Tryz.prog 149 c_pte_Kind := ⟨Tryz.f149, Tryz.func149, t149, Tryz.call149⟩
theorem i150 : Is Tryz.prog 150 c_pte_gather := ⟨Tryz.f150, Tryz.func150, t150, Tryz.call150⟩
theorem i151 : Is Tryz.prog 151 c_swap_Device_made := ⟨Tryz.f151, Tryz.func151, t151, Tryz.call151⟩
theorem i153 : Is Tryz.prog 153 c_slots_has := ⟨Tryz.f153, Tryz.func153, t153, Tryz.call153⟩
theorem i159 : Is Tryz.prog 159 c_phys_Memory_SetByte := ⟨Tryz.f159, Tryz.func159, t159, Tryz.call159⟩
theorem i160 : Is Tryz.prog 160 c_vmap_Map_Map := ⟨Tryz.f160, Tryz.func160, t160, Tryz.call160⟩
theorem i162 : Is Tryz.prog 162 c_kern_Kernel_reap := ⟨Tryz.f162, Tryz.func162, t162, Tryz.call162⟩
theorem i170 : Is Tryz.prog 170 c_amap_Pool_Make := ⟨Tryz.f170, Tryz.func170, t170, Tryz.call170⟩
theorem i173 : Is Tryz.prog 173 c_kern_proc_insert := ⟨Tryz.f173, Tryz.func173, t173, Tryz.call173⟩
theorem i180 : Is Tryz.prog 180 c_pmap_Map_change := ⟨Tryz.f180, Tryz.func180, t180, Tryz.call180⟩
theorem i181 : Is Tryz.prog 181 c_pmap_Map_Clear_1 := ⟨Tryz.f181, Tryz.func181, t181, Tryz.call181⟩
theorem i182 : Is Tryz.prog 182 c_tlb_Table_drop := ⟨Tryz.f182, Tryz.func182, t182, Tryz.call182⟩
theorem i186 : Is Tryz.prog 186 c_frames_Pool_Own := ⟨Tryz.f186, Tryz.func186, t186, Tryz.call186⟩
theorem i188 : Is Tryz.prog 188 c_slots_Slots_Take := ⟨Tryz.f188, Tryz.func188, t188, Tryz.call188⟩
theorem i189 : Is Tryz.prog 189 c_swap_Device_Write := ⟨Tryz.f189, Tryz.func189, t189, Tryz.call189⟩
theorem i191 : Is Tryz.prog 191 c_anon_Pool_change := ⟨Tryz.f191, Tryz.func191, t191, Tryz.call191⟩
theorem i192 : Is Tryz.prog 192 c_anon_Pool_Put_1 := ⟨Tryz.f192, Tryz.func192, t192, Tryz.call192⟩
theorem i193 : Is Tryz.prog 193 c_frames_Pool_Give_1 := ⟨Tryz.f193, Tryz.func193, t193, Tryz.call193⟩
theorem i194 : Is Tryz.prog 194 c_file_Store_made := ⟨Tryz.f194, Tryz.func194, t194, Tryz.call194⟩
theorem i195 : Is Tryz.prog 195 c_frames_Pool_Count := ⟨Tryz.f195, Tryz.func195, t195, Tryz.call195⟩
theorem i196 : Is Tryz.prog 196 c_maps_Keys_map_int_kern_proc_int_kern_proc_1 := ⟨Tryz.f196, Tryz.func196, t196, Tryz.call196⟩
theorem i197 : Is Tryz.prog 197 c_slices_Clone_api_Entry_api_Entry := ⟨Tryz.f197, Tryz.func197, t197, Tryz.call197⟩
theorem i199 : Is Tryz.prog 199 c_slices_ContainsFunc_int_int := ⟨Tryz.f199, Tryz.func199, t199, Tryz.call199⟩
theorem i200 : Is Tryz.prog 200 c_pmap_New := ⟨Tryz.f200, Tryz.func200, t200, Tryz.call200⟩
theorem i201 : Is Tryz.prog 201 c_vmap_New := ⟨Tryz.f201, Tryz.func201, t201, Tryz.call201⟩
theorem i202 : Is Tryz.prog 202 c_slices_AppendSeq_int_int := ⟨Tryz.f202, Tryz.func202, t202, Tryz.call202⟩
theorem i203 : Is Tryz.prog 203 c_slices_pdqsortOrdered_int := ⟨Tryz.f203, Tryz.func203, t203, Tryz.call203⟩
theorem i204 : Is Tryz.prog 204 c_math_bits_Len := ⟨Tryz.f204, Tryz.func204, t204, Tryz.call204⟩
theorem i205 : Is Tryz.prog 205 c_slices_Grow_int_int := ⟨Tryz.f205, Tryz.func205, t205, Tryz.call205⟩
theorem i207 : Is Tryz.prog 207 c_slices_DeleteFunc_int_int := ⟨Tryz.f207, Tryz.func207, t207, Tryz.call207⟩
theorem i208 : Is Tryz.prog 208 c_ring_Rows_int_Remove_1 := ⟨Tryz.f208, Tryz.func208, t208, Tryz.call208⟩
theorem i209 : Is Tryz.prog 209 c_ring_Rows_int_Rows := ⟨Tryz.f209, Tryz.func209, t209, Tryz.call209⟩
theorem i210 : Is Tryz.prog 210 c_ring_Rows_int_enter := ⟨Tryz.f210, Tryz.func210, t210, Tryz.call210⟩
theorem i211 : Is Tryz.prog 211 c_ring_Rows_int_All_1 := ⟨Tryz.f211, Tryz.func211, t211, Tryz.call211⟩
theorem i212 : Is Tryz.prog 212 c_ring_Rows_int_is := ⟨Tryz.f212, Tryz.func212, t212, Tryz.call212⟩
theorem i213 : Is Tryz.prog 213 c_slices_Clone_int_int := ⟨Tryz.f213, Tryz.func213, t213, Tryz.call213⟩
theorem i214 : Is Tryz.prog 214 c_slices_BinarySearchFunc_api_Entry_api_Entry_int := ⟨Tryz.f214, Tryz.func214, t214, Tryz.call214⟩
theorem i215 : Is Tryz.prog 215 c_entry_Find_1 := ⟨Tryz.f215, Tryz.func215, t215, Tryz.call215⟩
theorem i216 : Is Tryz.prog 216 c_slices_IndexFunc_kern_area_kern_area := ⟨Tryz.f216, Tryz.func216, t216, Tryz.call216⟩
theorem i217 : Is Tryz.prog 217 c_kern_proc_at_1 := ⟨Tryz.f217, Tryz.func217, t217, Tryz.call217⟩
theorem i218 : Is Tryz.prog 218 c_swap_Device_may := ⟨Tryz.f218, Tryz.func218, t218, Tryz.call218⟩
theorem i219 : Is Tryz.prog 219 c_tlb_Table_Find := ⟨Tryz.f219, Tryz.func219, t219, Tryz.call219⟩
theorem i220 : Is Tryz.prog 220 c_pte_May := ⟨Tryz.f220, Tryz.func220, t220, Tryz.call220⟩
theorem i221 : Is Tryz.prog 221 c_walk_Walk := ⟨Tryz.f221, Tryz.func221, t221, Tryz.call221⟩
theorem i222 : Is Tryz.prog 222 c_pmap_Map_Root := ⟨Tryz.f222, Tryz.func222, t222, Tryz.call222⟩
theorem i223 : Is Tryz.prog 223 c_walk_Look := ⟨Tryz.f223, Tryz.func223, t223, Tryz.call223⟩
theorem i224 : Is Tryz.prog 224 c_tlb_Table_Put := ⟨Tryz.f224, Tryz.func224, t224, Tryz.call224⟩
theorem i225 : Is Tryz.prog 225 c_kern_Kernel_private := ⟨Tryz.f225, Tryz.func225, t225, Tryz.call225⟩
theorem i226 : Is Tryz.prog 226 c_pmap_Map_Enter := ⟨Tryz.f226, Tryz.func226, t226, Tryz.call226⟩
theorem i227 : Is Tryz.prog 227 c_pmap_Map_Remove := ⟨Tryz.f227, Tryz.func227, t227, Tryz.call227⟩
theorem i229 : Is Tryz.prog 229 c_spread_Counts_Len := ⟨Tryz.f229, Tryz.func229, t229, Tryz.call229⟩
theorem i230 : Is Tryz.prog 230 c_spread_Counts_parts := ⟨Tryz.f230, Tryz.func230, t230, Tryz.call230⟩
theorem i231 : Is Tryz.prog 231 c_maps_Keys_map_int_object_one_int_object_one_1 := ⟨Tryz.f231, Tryz.func231, t231, Tryz.call231⟩
theorem i233 : Is Tryz.prog 233 c_walk_Leaves_1 := ⟨Tryz.f233, Tryz.func233, t233, Tryz.call233⟩
theorem i234 : Is Tryz.prog 234 c_walk_Leaves_1_1 := ⟨Tryz.f234, Tryz.func234, t234, Tryz.call234⟩
theorem i235 : Is Tryz.prog 235 c_walk_read := ⟨Tryz.f235, Tryz.func235, t235, Tryz.call235⟩
theorem i236 : Is Tryz.prog 236 c_walk_below := ⟨Tryz.f236, Tryz.func236, t236, Tryz.call236⟩
theorem i244 : Is Tryz.prog 244 c_kern_Kernel_take := ⟨Tryz.f244, Tryz.func244, t244, Tryz.call244⟩
theorem i245 : Is Tryz.prog 245 c_phys_Memory_Zero := ⟨Tryz.f245, Tryz.func245, t245, Tryz.call245⟩
theorem i247 : Is Tryz.prog 247 c_phys_Memory_Fill := ⟨Tryz.f247, Tryz.func247, t247, Tryz.call247⟩
theorem i249 : Is Tryz.prog 249 c_entry_Good := ⟨Tryz.f249, Tryz.func249, t249, Tryz.call249⟩
theorem i252 : Is Tryz.prog 252 c_entry_Space := ⟨Tryz.f252, Tryz.func252, t252, Tryz.call252⟩
theorem i253 : Is Tryz.prog 253 c_entry_Insert := ⟨Tryz.f253, Tryz.func253, t253, Tryz.call253⟩
theorem i254 : Is Tryz.prog 254 c_entry_Merge := ⟨Tryz.f254, Tryz.func254, t254, Tryz.call254⟩
theorem i259 : Is Tryz.prog 259 c_kern_Kernel_own := ⟨Tryz.f259, Tryz.func259, t259, Tryz.call259⟩
theorem i263 : Is Tryz.prog 263 c_pmap_Map_below := ⟨Tryz.f263, Tryz.func263, t263, Tryz.call263⟩
theorem i264 : Is Tryz.prog 264 c_pmap_Map_give := ⟨Tryz.f264, Tryz.func264, t264, Tryz.call264⟩
theorem i267 : Is Tryz.prog 267 c_spread_New := ⟨Tryz.f267, Tryz.func267, t267, Tryz.call267⟩
theorem i268 : Is Tryz.prog 268 c_spread_Counts_Add := ⟨Tryz.f268, Tryz.func268, t268, Tryz.call268⟩
theorem i269 : Is Tryz.prog 269 c_slices_Index_amap_one_amap_one := ⟨Tryz.f269, Tryz.func269, t269, Tryz.call269⟩
theorem i271 : Is Tryz.prog 271 c_amap_Pool_Set := ⟨Tryz.f271, Tryz.func271, t271, Tryz.call271⟩
theorem i272 : Is Tryz.prog 272 c_anon_Pool_Make := ⟨Tryz.f272, Tryz.func272, t272, Tryz.call272⟩
theorem i276 : Is Tryz.prog 276 c_slices_Insert_kern_area_kern_area := ⟨Tryz.f276, Tryz.func276, t276, Tryz.call276⟩
theorem i284 : Is Tryz.prog 284 c_kern_Kernel_put := ⟨Tryz.f284, Tryz.func284, t284, Tryz.call284⟩
theorem i286 : Is Tryz.prog 286 c_pmap_Map_Find := ⟨Tryz.f286, Tryz.func286, t286, Tryz.call286⟩
theorem i287 : Is Tryz.prog 287 c_walk_Place := ⟨Tryz.f287, Tryz.func287, t287, Tryz.call287⟩
theorem i288 : Is Tryz.prog 288 c_pte_Encode := ⟨Tryz.f288, Tryz.func288, t288, Tryz.call288⟩
theorem i289 : Is Tryz.prog 289 c_phys_Memory_SetWord := ⟨Tryz.f289, Tryz.func289, t289, Tryz.call289⟩
theorem i290 : Is Tryz.prog 290 c_pmap_Map_tidy := ⟨Tryz.f290, Tryz.func290, t290, Tryz.call290⟩
theorem i291 : Is Tryz.prog 291 c_frames_Pool_Own_1 := ⟨Tryz.f291, Tryz.func291, t291, Tryz.call291⟩
theorem i292 : Is Tryz.prog 292 c_slots_Slots_TakeRun := ⟨Tryz.f292, Tryz.func292, t292, Tryz.call292⟩
theorem i293 : Is Tryz.prog 293 c_swap_plan_fails := ⟨Tryz.f293, Tryz.func293, t293, Tryz.call293⟩
theorem i294 : Is Tryz.prog 294 c_slots_put := ⟨Tryz.f294, Tryz.func294, t294, Tryz.call294⟩
theorem i296 : Is Tryz.prog 296 c_slices_IndexFunc_int_int := ⟨Tryz.f296, Tryz.func296, t296, Tryz.call296⟩
theorem i297 : Is Tryz.prog 297 c_frames_Pool_Take := ⟨Tryz.f297, Tryz.func297, t297, Tryz.call297⟩
theorem i298 : Is Tryz.prog 298 c_slices_insertionSortOrdered_int := ⟨Tryz.f298, Tryz.func298, t298, Tryz.call298⟩
theorem i308 : Is Tryz.prog 308 c_math_bits_Len64 := ⟨Tryz.f308, Tryz.func308, t308, Tryz.call308⟩
theorem i309 : Is Tryz.prog 309 c_pte_Canonical := ⟨Tryz.f309, Tryz.func309, t309, Tryz.call309⟩
theorem i310 : Is Tryz.prog 310 c_pte_Split := ⟨Tryz.f310, Tryz.func310, t310, Tryz.call310⟩
theorem i311 : Is Tryz.prog 311 c_phys_Memory_Word := ⟨Tryz.f311, Tryz.func311, t311, Tryz.call311⟩
theorem i312 : Is Tryz.prog 312 c_tlb_Table_Put_1 := ⟨Tryz.f312, Tryz.func312, t312, Tryz.call312⟩
theorem i315 : Is Tryz.prog 315 c_kern_Kernel_fresh := ⟨Tryz.f315, Tryz.func315, t315, Tryz.call315⟩
theorem i316 : Is Tryz.prog 316 c_pte_Index := ⟨Tryz.f316, Tryz.func316, t316, Tryz.call316⟩
theorem i318 : Is Tryz.prog 318 c_pte_Flags := ⟨Tryz.f318, Tryz.func318, t318, Tryz.call318⟩
theorem i319 : Is Tryz.prog 319 c_pmap_Map_Remove_1 := ⟨Tryz.f319, Tryz.func319, t319, Tryz.call319⟩
theorem i320 : Is Tryz.prog 320 c_spread_Counts_made := ⟨Tryz.f320, Tryz.func320, t320, Tryz.call320⟩
theorem i321 : Is Tryz.prog 321 c_spread_Counts_parts_1 := ⟨Tryz.f321, Tryz.func321, t321, Tryz.call321⟩
theorem i322 : Is Tryz.prog 322 c_pte_Decode := ⟨Tryz.f322, Tryz.func322, t322, Tryz.call322⟩
theorem i327 : Is Tryz.prog 327 c_entry_room := ⟨Tryz.f327, Tryz.func327, t327, Tryz.call327⟩
theorem i328 : Is Tryz.prog 328 c_slices_Insert_api_Entry_api_Entry := ⟨Tryz.f328, Tryz.func328, t328, Tryz.call328⟩
theorem i331 : Is Tryz.prog 331 c_kern_Kernel_begin := ⟨Tryz.f331, Tryz.func331, t331, Tryz.call331⟩
theorem i334 : Is Tryz.prog 334 c_amap_Pool_known := ⟨Tryz.f334, Tryz.func334, t334, Tryz.call334⟩
theorem i337 : Is Tryz.prog 337 c_spread_Counts_Grow := ⟨Tryz.f337, Tryz.func337, t337, Tryz.call337⟩
theorem i338 : Is Tryz.prog 338 c_spread_split := ⟨Tryz.f338, Tryz.func338, t338, Tryz.call338⟩
theorem i339 : Is Tryz.prog 339 c_slices_Clone_api_Run_api_Run := ⟨Tryz.f339, Tryz.func339, t339, Tryz.call339⟩
theorem i340 : Is Tryz.prog 340 c_spread_join := ⟨Tryz.f340, Tryz.func340, t340, Tryz.call340⟩
theorem i349 : Is Tryz.prog 349 c_pte_low := ⟨Tryz.f349, Tryz.func349, t349, Tryz.call349⟩
theorem i350 : Is Tryz.prog 350 c_phys_Memory_cell := ⟨Tryz.f350, Tryz.func350, t350, Tryz.call350⟩
theorem i351 : Is Tryz.prog 351 c_pmap_Map_bare := ⟨Tryz.f351, Tryz.func351, t351, Tryz.call351⟩
theorem i352 : Is Tryz.prog 352 c_slices_IndexFunc_frames_Frame_frames_Frame := ⟨Tryz.f352, Tryz.func352, t352, Tryz.call352⟩
theorem i353 : Is Tryz.prog 353 c_frames_Pool_Take_1 := ⟨Tryz.f353, Tryz.func353, t353, Tryz.call353⟩
theorem i365 : Is Tryz.prog 365 c_slices_IndexFunc_api_Run_api_Run := ⟨Tryz.f365, Tryz.func365, t365, Tryz.call365⟩
theorem i366 : Is Tryz.prog 366 c_spread_split_1 := ⟨Tryz.f366, Tryz.func366, t366, Tryz.call366⟩
theorem tabSound : AllB (Is Tryz.prog) tab := ⟨⟨⟨⟨⟨⟨⟨⟨trivial, i3, trivial⟩, i4, ⟨trivial, i13, trivial⟩⟩, i14, ⟨⟨trivial, i15, trivial⟩, i16, trivial⟩⟩, i17, ⟨⟨⟨trivial, i18, trivial⟩, i24, trivial⟩, i25, ⟨⟨trivial, i26, trivial⟩, i30, trivial⟩⟩⟩, i32, ⟨⟨⟨⟨trivial, i33, trivial⟩, i37, ⟨trivial, i39, trivial⟩⟩, i40, ⟨⟨trivial, i41, trivial⟩, i42, trivial⟩⟩, i43, ⟨⟨⟨trivial, i44, trivial⟩, i45, trivial⟩, i47, ⟨⟨trivial, i49, trivial⟩, i52, trivial⟩⟩⟩⟩, i53, ⟨⟨⟨⟨⟨trivial, i55, trivial⟩, i56, ⟨trivial, i58, trivial⟩⟩, i61, ⟨⟨trivial, i62, trivial⟩, i63, trivial⟩⟩, i64, ⟨⟨⟨trivial, i68, trivial⟩, i74, trivial⟩, i75, ⟨⟨trivial, i80, trivial⟩, i81, trivial⟩⟩⟩, i82, ⟨⟨⟨⟨trivial, i85, trivial⟩, i86, trivial⟩, i88, ⟨⟨trivial, i90, trivial⟩, i91, trivial⟩⟩, i94, ⟨⟨⟨trivial, i95, trivial⟩, i96, trivial⟩, i97, ⟨⟨trivial, i98, trivial⟩, i99, trivial⟩⟩⟩⟩⟩, i100, ⟨⟨⟨⟨⟨⟨trivial, i101, trivial⟩, i102, ⟨trivial, i103, trivial⟩⟩, i104, ⟨⟨trivial, i105, trivial⟩, i106, trivial⟩⟩, i108, ⟨⟨⟨trivial, i109, trivial⟩, i110, trivial⟩, i112, ⟨⟨trivial, i114, trivial⟩, i115, trivial⟩⟩⟩, i116, ⟨⟨⟨⟨trivial, i117, trivial⟩, i118, trivial⟩, i119, ⟨⟨trivial, i120, trivial⟩, i121, trivial⟩⟩, i122, ⟨⟨⟨trivial, i123, trivial⟩, i124, trivial⟩, i126, ⟨⟨trivial, i129, trivial⟩, i130, trivial⟩⟩⟩⟩, i131, ⟨⟨⟨⟨⟨trivial, i134, trivial⟩, i135, ⟨trivial, i136, trivial⟩⟩, i138, ⟨⟨trivial, i139, trivial⟩, i140, trivial⟩⟩, i141, ⟨⟨⟨trivial, i142, trivial⟩, i146, trivial⟩, i147, ⟨⟨trivial, i148, trivial⟩, i149, trivial⟩⟩⟩, i150, ⟨⟨⟨⟨trivial, i151, trivial⟩, i153, trivial⟩, i159, ⟨⟨trivial, i160, trivial⟩, i162, trivial⟩⟩, i170, ⟨⟨⟨trivial, i173, trivial⟩, i180, trivial⟩, i181, ⟨⟨trivial, i182, trivial⟩, i186, trivial⟩⟩⟩⟩⟩⟩, i188, ⟨⟨⟨⟨⟨⟨⟨trivial, i189, trivial⟩, i191, ⟨trivial, i192, trivial⟩⟩, i193, ⟨⟨trivial, i194, trivial⟩, i195, trivial⟩⟩, i196, ⟨⟨⟨trivial, i197, trivial⟩, i199, trivial⟩, i200, ⟨⟨trivial, i201, trivial⟩, i202, trivial⟩⟩⟩, i203, ⟨⟨⟨⟨trivial, i204, trivial⟩, i205, trivial⟩, i207, ⟨⟨trivial, i208, trivial⟩, i209, trivial⟩⟩, i210, ⟨⟨⟨trivial, i211, trivial⟩, i212, trivial⟩, i213, ⟨⟨trivial, i214, trivial⟩, i215, trivial⟩⟩⟩⟩, i216, ⟨⟨⟨⟨⟨trivial, i217, trivial⟩, i218, ⟨trivial, i219, trivial⟩⟩, i220, ⟨⟨trivial, i221, trivial⟩, i222, trivial⟩⟩, i223, ⟨⟨⟨trivial, i224, trivial⟩, i225, trivial⟩, i226, ⟨⟨trivial, i227, trivial⟩, i229, trivial⟩⟩⟩, i230, ⟨⟨⟨⟨trivial, i231, trivial⟩, i233, trivial⟩, i234, ⟨⟨trivial, i235, trivial⟩, i236, trivial⟩⟩, i244, ⟨⟨⟨trivial, i245, trivial⟩, i247, trivial⟩, i249, ⟨⟨trivial, i252, trivial⟩, i253, trivial⟩⟩⟩⟩⟩, i254, ⟨⟨⟨⟨⟨⟨trivial, i259, trivial⟩, i263, ⟨trivial, i264, trivial⟩⟩, i267, ⟨⟨trivial, i268, trivial⟩, i269, trivial⟩⟩, i271, ⟨⟨⟨trivial, i272, trivial⟩, i276, trivial⟩, i284, ⟨⟨trivial, i286, trivial⟩, i287, trivial⟩⟩⟩, i288, ⟨⟨⟨⟨trivial, i289, trivial⟩, i290, trivial⟩, i291, ⟨⟨trivial, i292, trivial⟩, i293, trivial⟩⟩, i294, ⟨⟨⟨trivial, i296, trivial⟩, i297, trivial⟩, i298, ⟨⟨trivial, i308, trivial⟩, i309, trivial⟩⟩⟩⟩, i310, ⟨⟨⟨⟨⟨trivial, i311, trivial⟩, i312, ⟨trivial, i315, trivial⟩⟩, i316, ⟨⟨trivial, i318, trivial⟩, i319, trivial⟩⟩, i320, ⟨⟨⟨trivial, i321, trivial⟩, i322, trivial⟩, i327, ⟨⟨trivial, i328, trivial⟩, i331, trivial⟩⟩⟩, i334, ⟨⟨⟨⟨trivial, i337, trivial⟩, i338, trivial⟩, i339, ⟨⟨trivial, i340, trivial⟩, i349, trivial⟩⟩, i350, ⟨⟨⟨trivial, i351, trivial⟩, i352, trivial⟩, i353, ⟨⟨trivial, i365, trivial⟩, i366, trivial⟩⟩⟩⟩⟩⟩⟩
end Go.Proofs.YtljemfeohhgncaaGreat

namespace Go.Proofs.YtljemfeohhgncaaGreat
/-- what a slice of k elements is, with which parts of the heap: its cells are d; may it be written -/
def SlIs (v : AV) (e es k : Nat) (d : Dat) (w : Bool) (cs : List Chunk) : Prop :=
  (v = .nilsl ∧ k = 0 ∧ d.len = 0 ∧ cs = []) ∨ (v = .esl ∧ k = 0 ∧ d.len = 0 ∧ cs = [] ∧ w = false) ∨
  (∃ id off cap D e' es' sf, v = .sl id off k cap ∧ cs = [.pt id (.row e' es' sf (!w) D)] ∧ D.take off (k * es) = some d ∧ k ≤ cap ∧ (w = true → off + cap * es ≤ D.len)) ∨
  (∃ id idx D, v = .ssl id idx es k ∧ cs = [.pt id (.row e es true false D)] ∧ D.take (idx * es) (k * es) = some d ∧ w = true ∧ (idx + k) * es = D.len)
theorem wrap_id {k : IntKind} {n : Int} (h1 : k.min ≤ n) (h2 : n ≤ k.max) : k.wrap n = n := by
  cases k <;> simp only [IntKind.min, IntKind.max, IntKind.signed, IntKind.bits, IntKind.wrap] at * <;> (simp at h1 h2 ⊢) <;> (try split) <;> omega
theorem wrap64 {n : Int} (h1 : -9223372036854775808 ≤ n) (h2 : n ≤ 9223372036854775807) : IntKind.i64.wrap n = n := wrap_id h1 h2
theorem d_add {a b : Int} {h : AHeap} (h1 : -9223372036854775808 ≤ a + b) (h2 : a + b ≤ 9223372036854775807) : Does (.bin .add) [.int .i64 a, .int .i64 b] h (.int .i64 (a + b)) h := ⟨rfl, by
  simp only [aop, binInt, ne_eq, not_true, if_false, Option.map_some, wrap64 h1 h2]⟩
theorem d_sub {a b : Int} {h : AHeap} (h1 : -9223372036854775808 ≤ a - b) (h2 : a - b ≤ 9223372036854775807) : Does (.bin .sub) [.int .i64 a, .int .i64 b] h (.int .i64 (a - b)) h := ⟨rfl, by
  simp only [aop, binInt, ne_eq, not_true, if_false, Option.map_some, wrap64 h1 h2]⟩
/-- a slice, as a part -/
abbrev SlC (v : AV) (e es k : Nat) (d : Dat) (w : Bool) : Chunk := pk 10 v (SlIs v e es k d w)
section
variable {h : AHeap} {L R : List Chunk} {v : AV} {e es k : Nat} {d : Dat} {w : Bool}
theorem SlIs.len {cs : List Chunk} (x : SlIs v e es k d w cs) : sliceLen v = some k := by
  rcases x with ⟨rfl, rfl, _⟩ | ⟨rfl, rfl, _⟩ | ⟨id, off, cap, D, e', es', sf, rfl, _⟩ | ⟨id, idx, D, rfl, _⟩ <;> rfl
theorem SlIs.nj {cs : List Chunk} (x : SlIs v e es k d w cs) : v.notJunk = some v := by
  rcases x with ⟨rfl, _⟩ | ⟨rfl, _⟩ | ⟨id, off, cap, D, e', es', sf, rfl, _⟩ | ⟨id, idx, D, rfl, _⟩ <;> rfl
theorem d_lens {k : Nat} {v : AV} (hk : sliceLen v = some k) : Does .lens [v] h (.int .i64 k) h := ⟨rfl, by simp only [aop, hk]; rfl⟩
/-- a new row as a slice -/
theorem St.slice {id n cap e' es' : Nat} {sf : Bool} {D : Dat} (st : St h (.pt id (.row e' es' sf false D) :: L)) (h1 : D.take 0 (n * es) = some d) (h2 : n ≤ cap) (h3 : cap * es ≤ D.len) : St h (SlC (.sl id 0 n cap) e es n d true :: L) :=
  St.pack (cs := [.pt id (.row e' es' sf false D)]) st (.inr (.inr (.inl ⟨id, 0, cap, D, e', es', sf, rfl, rfl, h1, h2, fun _ => by omega⟩)))
end
end Go.Proofs.YtljemfeohhgncaaGreat

namespace Go.Proofs.YtljemfeohhgncaaGreat
theorem d_indexa {h : AHeap} {n es id off : Nat} {kk : IntKind} {i : Int} (h0 : 0 ≤ i) (h1 : i < n) : Does (.indexa n es) [.ptr id off, .int kk i] h (.ptr id (off + i.toNat * es)) h := ⟨rfl, by
  simp only [aop]; rw [if_pos ⟨h0, h1⟩]⟩
theorem Sbs {P : Prop} (h : P := by repeat (first | exact trivial | refine ⟨by first | rfl | assumption, ?_⟩)) : P := h
theorem Njs {P : Prop} (h : P := by repeat (first | exact trivial | refine ⟨by first | rfl | assumption, ?_⟩)) : P := h
/-- what is still to be walked -/
inductive KI where
  | code (c : ACode)
  | ins (is : List AIn)
  | dis (ds : List DI)
  | ag (rs : List (Nat × AIn))
  | blk (id : Nat)
  /-- a loop's round ends here: what is to be shown -/
  | lp (J : Env → AHeap → Prop)
mutual
def okSame : AV → Bool
  | .bool _ => true
  | .int _ _ => true
  | .ptr _ _ => true
  | .nilptr => true
  | .sl _ _ _ _ => true
  | .ssl _ _ _ _ => true
  | .nilsl => true
  | .esl => true
  | .map _ => true
  | .nilmap => true
  | .func _ a b => okSameL a && okSameL b
  | .nilfunc => true
  | .yield _ => true
  | .agg a => okSameL a
  | .bytes _ _ => true
  | .tuple a => okSameL a
  | _ => false
def okSameL : List AV → Bool
  | [] => true
  | a :: l => okSame a && okSameL l
end
mutual
theorem same_self : ∀ (v : AV), okSame v = true → AV.same v v = true := by
  intro v h
  cases v with
  | func f a b =>
    simp only [okSame, Bool.and_eq_true] at h
    simp only [AV.same, beq_self_eq_true, Bool.and_eq_true]
    exact ⟨⟨trivial, same_selfL _ h.1⟩, same_selfL _ h.2⟩
  | agg a =>
    simp only [okSame] at h
    simp only [AV.same]
    exact same_selfL _ h
  | tuple a =>
    simp only [okSame] at h
    simp only [AV.same]
    exact same_selfL _ h
  | _ => simp [okSame, AV.same] at h ⊢
theorem same_selfL : ∀ (v : List AV), okSameL v = true → AV.sameL v v = true := by
  intro v h
  cases v with
  | nil => simp [AV.sameL]
  | cons a l =>
    simp only [okSameL, Bool.and_eq_true] at h
    simp only [AV.sameL, Bool.and_eq_true]
    exact ⟨same_self a h.1, same_selfL l h.2⟩
end
/-- what is looked at again tells the same -/
inductive Ag (s : Env) (h : AHeap) : List (Nat × AIn) → Prop where
  | nil : Ag s h []
  | ld {j t : Nat} {os : List Opd} {rs : List (Nat × AIn)} {id off e es : Nat} {soft ro' : Bool} {D : Dat} {v : AV} {L R : List Chunk} : evalLS s os = some [.ptr id off] → look s t = some v → St h L → Take L (.pt id (.row e es soft ro' D)) R → D.get off = some v → okSame v = true → Ag s h rs →
      Ag s h ((j, ⟨some t, .load1, os, none⟩) :: rs)
  | ldn {j t n : Nat} {os : List Opd} {rs : List (Nat × AIn)} {id off e es : Nat} {soft ro' : Bool} {D : Dat} {v : AV} {L R : List Chunk} : evalLS s os = some [.ptr id off] → look s t = some v → St h L → Take L (.pt id (.row e es soft ro' D)) R → D.sub off n = some v → okSame v = true → Ag s h rs →
      Ag s h ((j, ⟨some t, .loadn n, os, none⟩) :: rs)
  | gd {j : Nat} {d : Option Nat} {op : AOp} {os : List Opd} {g : Nat × Bool} {b : Bool} {rs : List (Nat × AIn)} : wantS s (some g) = some b → Ag s h (bif b then (j, ⟨d, op, os, none⟩) :: rs else rs) → Ag s h ((j, ⟨d, op, os, some g⟩) :: rs)
  | dz {j t : Nat} {op : AOp} {os : List Opd} {rs : List (Nat × AIn)} {vs : List AV} {v : AV} : evalLS s os = some vs → look s t = some v → Does op vs h v h → okSame v = true → Ag s h rs → Ag s h ((j, ⟨some t, op, os, none⟩) :: rs)
theorem Ag.ok {s : Env} {h : AHeap} {rs : List (Nat × AIn)} (a : Ag s h rs) : Again s h rs := by
  induction a with
  | nil => trivial
  | ld h1 h2 h3 h4 h5 h6 _ ih => exact ⟨.inr ⟨rfl, _, _, h, h1, (d_load1 (h3.get' h4) h5).run, fun t' e => (by cases e; exact h2), same_self _ h6⟩, ih⟩
  | ldn h1 h2 h3 h4 h5 h6 _ ih => exact ⟨.inr ⟨rfl, _, _, h, h1, (d_loadn (h3.get' h4) h5).run, fun t' e => (by cases e; exact h2), same_self _ h6⟩, ih⟩
  | dz h1 h2 h3 h4 _ ih => exact ⟨.inr ⟨rfl, _, _, h, h1, h3.run, fun t' e => (by cases e; exact h2), same_self _ h4⟩, ih⟩
  | @gd _ _ _ _ _ b _ h1 _ ih =>
    cases b with
    | false => exact ⟨.inl h1, ih⟩
    | true =>
      obtain ⟨h2, h3⟩ := ih
      refine ⟨?_, h3⟩
      rcases h2 with h2 | ⟨_, h2⟩
      · cases h2
      · exact .inr ⟨h1, h2⟩
/-- a choice -/
structure Pk (c : Bool) (a b v : AV) : Prop where
  is : (bif c then a else b) = v
theorem Pk.t {c : Bool} {a b : AV} (h : c = true := by first | rfl | assumption | exact d_t (by omega) | exact q_t (by omega) | exact nq_t (by omega) | exact nd_t (by omega)) : Pk c a b a := ⟨by subst h; rfl⟩
theorem Pk.f {c : Bool} {a b : AV} (h : c = false := by first | rfl | assumption | exact d_f (by omega) | exact q_f (by omega) | exact nq_f (by omega) | exact nd_f (by omega)) : Pk c a b b := ⟨by subst h; rfl⟩
/-- what a step of the walk wants, but the walk behind it -/
theorem Sd {P : Prop} (h : P := by first | (show (_ : Int) ≤ _; omega) | exact rfl | assumption | ((repeat (first | exact Take.here | apply Take.there)); done) | (show Ag _ _ _; (repeat (first | assumption | exact rfl | exact Ag.nil | exact Take.here | apply Take.there | (show Ag _ _ _; constructor))); done) | exact Pk.t | exact Pk.f) : P := h
section
variable (C : SemW) (ro : Option Nat) (N : Nat)
/-- what holds behind what is still to be walked -/
def postK : List KI → (AExit → List AV → AHeap → Prop) → AExit → List AV → AHeap → Prop
  | [], Q => Q
  | .code c :: k, Q => fun x e h => match x with
    | .normal => execW C ro c e h (postK k Q)
    | .exit i => postK k Q (.exit i) e h
    | .ret => postK k Q .ret e h
  | .ins is :: k, Q => fun x e h => match x with
    | .normal => runInsW C is e h (postK k Q .normal)
    | .exit i => postK k Q (.exit i) e h
    | .ret => postK k Q .ret e h
  | .dis ds :: k, Q => fun x e h => match x with
    | .normal => runDrawW C ds e h (postK k Q .normal)
    | .exit i => postK k Q (.exit i) e h
    | .ret => postK k Q .ret e h
  | .ag rs :: k, Q => fun x e h => match x with
    | .normal => rs.all (fun r => again r.2 e h) = true ∧ postK k Q .normal e h
    | .exit i => postK k Q (.exit i) e h
    | .ret => postK k Q .ret e h
  | .blk id :: k, Q => fun x e h => match x with
    | .normal => postK k Q .normal e h
    | .exit i => if i = id then postK k Q .normal e h else postK k Q (.exit i) e h
    | .ret => postK k Q .ret e h
  | .lp J :: k, Q => fun x e h => match x with
    | .normal => ∃ s, e.length = N ∧ Cov s e ∧ J s h
    | .exit i => postK k Q (.exit i) e h
    | .ret => postK k Q .ret e h
end
/-- THE (repeat (first | (show W _ _ _ _ _ _ (.code (cond _ _ _) :: _) _ _; first | refine W.ct ?_ | refine W.cf ?_) | (show W _ _ _ _ _ _ (.ins (cond _ _ _ :: _) :: _) _ _; first | refine W.gt ?_ | refine W.gf ?_) | (show W _ _ _ _ _ _ [] _ _; refine W.of (.done ?_)) | (apply W.of; constructor <;> first | (show W _ _ _ _ _ _ _ _ _) | (intro (al : Nat) h st; show W _ _ _ _ _ _ _ _ _) | (intro _ h st; show W _ _ _ _ _ _ _ _ _) | exact Sd))): what is known of the slots, the heap; how it stands; what is still to be walked; what is to hold behind it. -/
structure W (O : Nat → Option FSpec) (T : BT) (ro : Option Nat) (N : Nat) (Q : AExit → Env → AHeap → Prop) (x : AExit) (k : List KI) (s : Env) (h : AHeap) : Prop where
  run : ∀ e, e.length = N → Cov s e → postK (progI O T) ro N k (fun x e h => ∃ s', e.length = N ∧ Cov s' e ∧ Q x s' h) x e h
section
variable {O : Nat → Option FSpec} {T : BT} {ro : Option Nat} {N : Nat} {Q : AExit → Env → AHeap → Prop} {x : AExit} {k : List KI} {s : Env} {h : AHeap}
section ops
variable {d : Nat} {op : AOp} {os : List Opd} {g : Option (Nat × Bool)} {is : List AIn} {vs : List AV} {v : AV} {L R : List Chunk}
theorem W.dop (ha : evalLS s os = some vs) (ho : Does op vs h v h) (hj : v.notJunk = some v) (hd : Nat.blt d N = true) (w : W O T ro N Q .normal (.ins is :: k) ((d, v) :: s) h) : W O T ro N Q .normal (.ins (⟨some d, op, os, none⟩ :: is) :: k) s h :=
  ⟨fun e hl hc => by
    simp only [postK, runInsW]
    exact runIn_eff hc rfl ha (ho.do (w.run _ (by simpa [setDst] using hl) (hc.set (by rw [hl]; exact blt_of hd) hj)))⟩
theorem W.eff {K : AV → AHeap → Prop} (ho : Eff (progI O T) op vs h K) (ha : evalLS s os = some vs) (hd : Nat.blt d N = true) (w : ∀ v h', K v h' → v.notJunk = some v ∧ W O T ro N Q .normal (.ins is :: k) ((d, v) :: s) h') : W O T ro N Q .normal (.ins (⟨some d, op, os, none⟩ :: is) :: k) s h :=
  ⟨fun e hl hc => by
    simp only [postK, runInsW]
    exact runIn_eff hc rfl ha (doOpW_mono (fun _ _ _ _ x => x) progI_mono (fun v h1 q => (w v h1 q).2.run _ (by simpa [setDst] using hl) (hc.set (by rw [hl]; exact blt_of hd) (w v h1 q).1)) ho.run)⟩
theorem W.eff0 {K : AV → AHeap → Prop} (ho : Eff (progI O T) op vs h K) (ha : evalLS s os = some vs) (w : ∀ v h', K v h' → W O T ro N Q .normal (.ins is :: k) s h') : W O T ro N Q .normal (.ins (⟨none, op, os, none⟩ :: is) :: k) s h :=
  ⟨fun e hl hc => by
    simp only [postK, runInsW]
    exact runIn_eff hc rfl ha (doOpW_mono (fun _ _ _ _ x => x) progI_mono (fun v h1 q => (w v h1 q).run _ hl hc) ho.run)⟩
end ops
end
/-- one step of the walk -/
inductive Stp (O : Nat → Option FSpec) (T : BT) (ro : Option Nat) (N : Nat) (Q : AExit → Env → AHeap → Prop) : AExit → List KI → Env → AHeap → Prop where
  | done {x : AExit} {s : Env} {h : AHeap} : Q x s h → Stp O T ro N Q x [] s h
  | seq {k : List KI} {s : Env} {h : AHeap} {a b : ACode} : W O T ro N Q .normal (.code a :: .code b :: k) s h → Stp O T ro N Q .normal (.code (.seq a b) :: k) s h
  | region {k : List KI} {s : Env} {h : AHeap} {is : List AIn} : W O T ro N Q .normal (.ins is :: k) s h → Stp O T ro N Q .normal (.code (.region is) :: k) s h
  | draw1 {k : List KI} {s : Env} {h : AHeap} {ds : List DI} : W O T ro N Q .normal (.dis ds :: k) s h → Stp O T ro N Q .normal (.code (.draw [ds]) :: k) s h
  | block {k : List KI} {s : Env} {h : AHeap} {id : Nat} {b : ACode} : W O T ro N Q .normal (.code b :: .blk id :: k) s h → Stp O T ro N Q .normal (.code (.block id b) :: k) s h
  | blk {k : List KI} {s : Env} {h : AHeap} {id : Nat} : W O T ro N Q .normal k s h → Stp O T ro N Q .normal (.blk id :: k) s h
  | cond {k : List KI} {s : Env} {h : AHeap} {o : Opd} {q : Bool} {a b : ACode} : evalS s o = some (.bool q) → W O T ro N Q .normal (.code (bif q then a else b) :: k) s h → Stp O T ro N Q .normal (.code (.cond o a b) :: k) s h
  | skip {k : List KI} {s : Env} {h : AHeap} : W O T ro N Q .normal k s h → Stp O T ro N Q .normal (.code .skip :: k) s h
  | ret {k : List KI} {s : Env} {h : AHeap} : W O T ro N Q .ret k s h → Stp O T ro N Q .normal (.code .ret :: k) s h
  | exit {k : List KI} {s : Env} {h : AHeap} {id : Nat} : W O T ro N Q (.exit id) k s h → Stp O T ro N Q .normal (.code (.exit id) :: k) s h
  | rcode {k : List KI} {s : Env} {h : AHeap} {c : ACode} : W O T ro N Q .ret k s h → Stp O T ro N Q .ret (.code c :: k) s h
  | rblk {k : List KI} {s : Env} {h : AHeap} {id : Nat} : W O T ro N Q .ret k s h → Stp O T ro N Q .ret (.blk id :: k) s h
  | rlp {k : List KI} {s : Env} {h : AHeap} {J : Env → AHeap → Prop} : W O T ro N Q .ret k s h → Stp O T ro N Q .ret (.lp J :: k) s h
  | xcode {k : List KI} {s : Env} {h : AHeap} {c : ACode} {i : Nat} : W O T ro N Q (.exit i) k s h → Stp O T ro N Q (.exit i) (.code c :: k) s h
  | xblk {k : List KI} {s : Env} {h : AHeap} {i id : Nat} : W O T ro N Q (bif Nat.beq i id then .normal else .exit i) k s h → Stp O T ro N Q (.exit i) (.blk id :: k) s h
  | xlp {k : List KI} {s : Env} {h : AHeap} {i : Nat} {J : Env → AHeap → Prop} : W O T ro N Q (.exit i) k s h → Stp O T ro N Q (.exit i) (.lp J :: k) s h
  | lp {k : List KI} {s : Env} {h : AHeap} {J : Env → AHeap → Prop} : J s h → Stp O T ro N Q .normal (.lp J :: k) s h
  | inil {k : List KI} {s : Env} {h : AHeap} : W O T ro N Q .normal k s h → Stp O T ro N Q .normal (.ins [] :: k) s h
  | dnil {k : List KI} {s : Env} {h : AHeap} : W O T ro N Q .normal k s h → Stp O T ro N Q .normal (.dis [] :: k) s h
  | dcons {k : List KI} {s : Env} {h : AHeap} {j : Nat} {i : AIn} {rs : List (Nat × AIn)} {fin : Bool} {ds : List DI} : W O T ro N Q .normal (.ins [i] :: .ag rs :: .dis ds :: k) s h → Stp O T ro N Q .normal (.dis (⟨j, i, rs, fin⟩ :: ds) :: k) s h
  | ag {k : List KI} {s : Env} {h : AHeap} {rs : List (Nat × AIn)} : Ag s h rs → W O T ro N Q .normal k s h → Stp O T ro N Q .normal (.ag rs :: k) s h
  | guard {k : List KI} {s : Env} {h : AHeap} {d : Option Nat} {op : AOp} {os : List Opd} {g : Nat × Bool} {b : Bool} {is : List AIn} : wantS s (some g) = some b → W O T ro N Q .normal (.ins ((bif b then ⟨d, op, os, none⟩ else ⟨d, .mv, [.lit (.tuple [])], none⟩) :: is) :: k) s h → Stp O T ro N Q .normal (.ins (⟨d, op, os, some g⟩ :: is) :: k) s h
  | mv {k : List KI} {s : Env} {h : AHeap} {d : Nat} {os : List Opd} {is : List AIn} {v : AV} : evalLS s os = some [v] → AV.notJunk v = some v → Nat.blt d N = true → W O T ro N Q .normal (.ins is :: k) ((d, v) :: s) h → Stp O T ro N Q .normal (.ins (⟨some d, .mv, os, none⟩ :: is) :: k) s h
  | load1 {k : List KI} {s : Env} {h : AHeap} {d : Nat} {os : List Opd} {is : List AIn} {id off e es : Nat} {soft ro' : Bool} {D : Dat} {L R : List Chunk} {v : AV} : evalLS s os = some [.ptr id off] → St h L → Take L (.pt id (.row e es soft ro' D)) R → D.get off = some v → AV.notJunk v = some v → Nat.blt d N = true → W O T ro N Q .normal (.ins is :: k) ((d, v) :: s) h → Stp O T ro N Q .normal (.ins (⟨some d, .load1, os, none⟩ :: is) :: k) s h
  | loadn {k : List KI} {s : Env} {h : AHeap} {d : Nat} {os : List Opd} {is : List AIn} {id off e es : Nat} {soft ro' : Bool} {D : Dat} {L R : List Chunk} {v : AV} {n : Nat} : evalLS s os = some [.ptr id off] → St h L → Take L (.pt id (.row e es soft ro' D)) R → D.sub off n = some v → AV.notJunk v = some v → Nat.blt d N = true → W O T ro N Q .normal (.ins is :: k) ((d, v) :: s) h → Stp O T ro N Q .normal (.ins (⟨some d, (.loadn n), os, none⟩ :: is) :: k) s h
  | pick {k : List KI} {s : Env} {h : AHeap} {d : Nat} {os : List Opd} {is : List AIn} {c : Bool} {a b v : AV} : evalLS s os = some [.bool c, a, b] → Pk c a b v → AV.notJunk v = some v → Nat.blt d N = true → W O T ro N Q .normal (.ins is :: k) ((d, v) :: s) h → Stp O T ro N Q .normal (.ins (⟨some d, .pick, os, none⟩ :: is) :: k) s h
  | lens {k : List KI} {s : Env} {h : AHeap} {d : Nat} {os : List Opd} {is : List AIn} {v : AV} {n : Nat} : evalLS s os = some [v] → sliceLen v = some n → AV.notJunk (.int .i64 n) = some (.int .i64 n) → Nat.blt d N = true → W O T ro N Q .normal (.ins is :: k) ((d, (.int .i64 n)) :: s) h → Stp O T ro N Q .normal (.ins (⟨some d, .lens, os, none⟩ :: is) :: k) s h
  | add {k : List KI} {s : Env} {h : AHeap} {d : Nat} {os : List Opd} {is : List AIn} {a b : Int} : evalLS s os = some [.int .i64 a, .int .i64 b] → -9223372036854775808 ≤ a + b → a + b ≤ 9223372036854775807 → AV.notJunk (.int .i64 (a + b)) = some (.int .i64 (a + b)) → Nat.blt d N = true → W O T ro N Q .normal (.ins is :: k) ((d, (.int .i64 (a + b))) :: s) h → Stp O T ro N Q .normal (.ins (⟨some d, (.bin .add), os, none⟩ :: is) :: k) s h
  | sub {k : List KI} {s : Env} {h : AHeap} {d : Nat} {os : List Opd} {is : List AIn} {a b : Int} : evalLS s os = some [.int .i64 a, .int .i64 b] → -9223372036854775808 ≤ a - b → a - b ≤ 9223372036854775807 → AV.notJunk (.int .i64 (a - b)) = some (.int .i64 (a - b)) → Nat.blt d N = true → W O T ro N Q .normal (.ins is :: k) ((d, (.int .i64 (a - b))) :: s) h → Stp O T ro N Q .normal (.ins (⟨some d, (.bin .sub), os, none⟩ :: is) :: k) s h
  | indexa {k : List KI} {s : Env} {h : AHeap} {d : Nat} {os : List Opd} {is : List AIn} {n es id off : Nat} {kk : IntKind} {i : Int} : evalLS s os = some [.ptr id off, .int kk i] → 0 ≤ i → i < n → AV.notJunk (.ptr id (off + i.toNat * es)) = some (.ptr id (off + i.toNat * es)) → Nat.blt d N = true → W O T ro N Q .normal (.ins is :: k) ((d, (.ptr id (off + i.toNat * es))) :: s) h → Stp O T ro N Q .normal (.ins (⟨some d, (.indexa n es), os, none⟩ :: is) :: k) s h
  | nilCheck {k : List KI} {s : Env} {h : AHeap} {d : Nat} {os : List Opd} {is : List AIn} {vs : List AV} {v : AV} : evalLS s os = some vs → aop .nilCheck vs h = some (v, h) → AV.notJunk v = some v → Nat.blt d N = true → W O T ro N Q .normal (.ins is :: k) ((d, v) :: s) h → Stp O T ro N Q .normal (.ins (⟨some d, .nilCheck, os, none⟩ :: is) :: k) s h
  | eqvS {k : List KI} {s : Env} {h : AHeap} {d : Nat} {os : List Opd} {is : List AIn} {vs : List AV} {v : AV} {n : Bool} {q : Sc} : evalLS s os = some vs → aop (.eqv n (.scal q)) vs h = some (v, h) → AV.notJunk v = some v → Nat.blt d N = true → W O T ro N Q .normal (.ins is :: k) ((d, v) :: s) h → Stp O T ro N Q .normal (.ins (⟨some d, (.eqv n (.scal q)), os, none⟩ :: is) :: k) s h
  | eqvP {k : List KI} {s : Env} {h : AHeap} {d : Nat} {os : List Opd} {is : List AIn} {vs : List AV} {v : AV} {n : Bool} : evalLS s os = some vs → aop (.eqv n .ptr) vs h = some (v, h) → AV.notJunk v = some v → Nat.blt d N = true → W O T ro N Q .normal (.ins is :: k) ((d, v) :: s) h → Stp O T ro N Q .normal (.ins (⟨some d, (.eqv n .ptr), os, none⟩ :: is) :: k) s h
  | eqvL {k : List KI} {s : Env} {h : AHeap} {d : Nat} {os : List Opd} {is : List AIn} {vs : List AV} {v : AV} {n : Bool} : evalLS s os = some vs → aop (.eqv n .slice) vs h = some (v, h) → AV.notJunk v = some v → Nat.blt d N = true → W O T ro N Q .normal (.ins is :: k) ((d, v) :: s) h → Stp O T ro N Q .normal (.ins (⟨some d, (.eqv n .slice), os, none⟩ :: is) :: k) s h
  | eqvM {k : List KI} {s : Env} {h : AHeap} {d : Nat} {os : List Opd} {is : List AIn} {vs : List AV} {v : AV} {n : Bool} : evalLS s os = some vs → aop (.eqv n .map) vs h = some (v, h) → AV.notJunk v = some v → Nat.blt d N = true → W O T ro N Q .normal (.ins is :: k) ((d, v) :: s) h → Stp O T ro N Q .normal (.ins (⟨some d, (.eqv n .map), os, none⟩ :: is) :: k) s h
  | eqvF {k : List KI} {s : Env} {h : AHeap} {d : Nat} {os : List Opd} {is : List AIn} {vs : List AV} {v : AV} {n : Bool} : evalLS s os = some vs → aop (.eqv n .func) vs h = some (v, h) → AV.notJunk v = some v → Nat.blt d N = true → W O T ro N Q .normal (.ins is :: k) ((d, v) :: s) h → Stp O T ro N Q .normal (.ins (⟨some d, (.eqv n .func), os, none⟩ :: is) :: k) s h
  | eqvA {k : List KI} {s : Env} {h : AHeap} {d : Nat} {os : List Opd} {is : List AIn} {vs : List AV} {v : AV} {n : Bool} {q : List Sc} : evalLS s os = some vs → aop (.eqv n (.flat q)) vs h = some (v, h) → AV.notJunk v = some v → Nat.blt d N = true → W O T ro N Q .normal (.ins is :: k) ((d, v) :: s) h → Stp O T ro N Q .normal (.ins (⟨some d, (.eqv n (.flat q)), os, none⟩ :: is) :: k) s h
  | un {k : List KI} {s : Env} {h : AHeap} {d : Nat} {os : List Opd} {is : List AIn} {vs : List AV} {v : AV} {u : UnOp} : evalLS s os = some vs → aop (.un u) vs h = some (v, h) → AV.notJunk v = some v → Nat.blt d N = true → W O T ro N Q .normal (.ins is :: k) ((d, v) :: s) h → Stp O T ro N Q .normal (.ins (⟨some d, (.un u), os, none⟩ :: is) :: k) s h
  | conv {k : List KI} {s : Env} {h : AHeap} {d : Nat} {os : List Opd} {is : List AIn} {vs : List AV} {v : AV} {q : IntKind} : evalLS s os = some vs → aop (.conv q) vs h = some (v, h) → AV.notJunk v = some v → Nat.blt d N = true → W O T ro N Q .normal (.ins is :: k) ((d, v) :: s) h → Stp O T ro N Q .normal (.ins (⟨some d, (.conv q), os, none⟩ :: is) :: k) s h
  | sl2arr {k : List KI} {s : Env} {h : AHeap} {d : Nat} {os : List Opd} {is : List AIn} {vs : List AV} {v : AV} {n : Nat} : evalLS s os = some vs → aop (.sl2arr n) vs h = some (v, h) → AV.notJunk v = some v → Nat.blt d N = true → W O T ro N Q .normal (.ins is :: k) ((d, v) :: s) h → Stp O T ro N Q .normal (.ins (⟨some d, (.sl2arr n), os, none⟩ :: is) :: k) s h
  | mkfunc {k : List KI} {s : Env} {h : AHeap} {d : Nat} {os : List Opd} {is : List AIn} {vs : List AV} {v : AV} {f n : Nat} : evalLS s os = some vs → aop (.mkfunc f n) vs h = some (v, h) → AV.notJunk v = some v → Nat.blt d N = true → W O T ro N Q .normal (.ins is :: k) ((d, v) :: s) h → Stp O T ro N Q .normal (.ins (⟨some d, (.mkfunc f n), os, none⟩ :: is) :: k) s h
  | slice {k : List KI} {s : Env} {h : AHeap} {d : Nat} {os : List Opd} {is : List AIn} {vs : List AV} {v : AV} {es : Nat} {a b c : Bool} : evalLS s os = some vs → aop (.slice es a b c) vs h = some (v, h) → AV.notJunk v = some v → Nat.blt d N = true → W O T ro N Q .normal (.ins is :: k) ((d, v) :: s) h → Stp O T ro N Q .normal (.ins (⟨some d, (.slice es a b c), os, none⟩ :: is) :: k) s h
  | slicea {k : List KI} {s : Env} {h : AHeap} {d : Nat} {os : List Opd} {is : List AIn} {vs : List AV} {v : AV} {n es : Nat} {a b c : Bool} : evalLS s os = some vs → aop (.slicea n es a b c) vs h = some (v, h) → AV.notJunk v = some v → Nat.blt d N = true → W O T ro N Q .normal (.ins is :: k) ((d, v) :: s) h → Stp O T ro N Q .normal (.ins (⟨some d, (.slicea n es a b c), os, none⟩ :: is) :: k) s h
  | fieldAddr {k : List KI} {s : Env} {h : AHeap} {d : Nat} {os : List Opd} {is : List AIn} {vs : List AV} {v : AV} {n : Nat} : evalLS s os = some vs → aop (.fieldAddr n) vs h = some (v, h) → AV.notJunk v = some v → Nat.blt d N = true → W O T ro N Q .normal (.ins is :: k) ((d, v) :: s) h → Stp O T ro N Q .normal (.ins (⟨some d, (.fieldAddr n), os, none⟩ :: is) :: k) s h
  | field {k : List KI} {s : Env} {h : AHeap} {d : Nat} {os : List Opd} {is : List AIn} {vs : List AV} {v : AV} {a b : Nat} {c : Bool} : evalLS s os = some vs → aop (.field a b c) vs h = some (v, h) → AV.notJunk v = some v → Nat.blt d N = true → W O T ro N Q .normal (.ins is :: k) ((d, v) :: s) h → Stp O T ro N Q .normal (.ins (⟨some d, (.field a b c), os, none⟩ :: is) :: k) s h
  | indexv {k : List KI} {s : Env} {h : AHeap} {d : Nat} {os : List Opd} {is : List AIn} {vs : List AV} {v : AV} {a b : Nat} {c : Bool} : evalLS s os = some vs → aop (.indexv a b c) vs h = some (v, h) → AV.notJunk v = some v → Nat.blt d N = true → W O T ro N Q .normal (.ins is :: k) ((d, v) :: s) h → Stp O T ro N Q .normal (.ins (⟨some d, (.indexv a b c), os, none⟩ :: is) :: k) s h
  | extract {k : List KI} {s : Env} {h : AHeap} {d : Nat} {os : List Opd} {is : List AIn} {vs : List AV} {v : AV} {i : Nat} : evalLS s os = some vs → aop (.extract i) vs h = some (v, h) → AV.notJunk v = some v → Nat.blt d N = true → W O T ro N Q .normal (.ins is :: k) ((d, v) :: s) h → Stp O T ro N Q .normal (.ins (⟨some d, (.extract i), os, none⟩ :: is) :: k) s h
  | lenc {k : List KI} {s : Env} {h : AHeap} {d : Nat} {os : List Opd} {is : List AIn} {vs : List AV} {v : AV} {n : Nat} : evalLS s os = some vs → aop (.lenc n) vs h = some (v, h) → AV.notJunk v = some v → Nat.blt d N = true → W O T ro N Q .normal (.ins is :: k) ((d, v) :: s) h → Stp O T ro N Q .normal (.ins (⟨some d, (.lenc n), os, none⟩ :: is) :: k) s h
  | cap {k : List KI} {s : Env} {h : AHeap} {d : Nat} {os : List Opd} {is : List AIn} {vs : List AV} {v : AV} : evalLS s os = some vs → aop .cap vs h = some (v, h) → AV.notJunk v = some v → Nat.blt d N = true → W O T ro N Q .normal (.ins is :: k) ((d, v) :: s) h → Stp O T ro N Q .normal (.ins (⟨some d, .cap, os, none⟩ :: is) :: k) s h
  | lenstr {k : List KI} {s : Env} {h : AHeap} {d : Nat} {os : List Opd} {is : List AIn} {vs : List AV} {v : AV} : evalLS s os = some vs → aop .lenstr vs h = some (v, h) → AV.notJunk v = some v → Nat.blt d N = true → W O T ro N Q .normal (.ins is :: k) ((d, v) :: s) h → Stp O T ro N Q .normal (.ins (⟨some d, .lenstr, os, none⟩ :: is) :: k) s h
  | min {k : List KI} {s : Env} {h : AHeap} {d : Nat} {os : List Opd} {is : List AIn} {vs : List AV} {v : AV} : evalLS s os = some vs → aop .min vs h = some (v, h) → AV.notJunk v = some v → Nat.blt d N = true → W O T ro N Q .normal (.ins is :: k) ((d, v) :: s) h → Stp O T ro N Q .normal (.ins (⟨some d, .min, os, none⟩ :: is) :: k) s h
  | max {k : List KI} {s : Env} {h : AHeap} {d : Nat} {os : List Opd} {is : List AIn} {vs : List AV} {v : AV} : evalLS s os = some vs → aop .max vs h = some (v, h) → AV.notJunk v = some v → Nat.blt d N = true → W O T ro N Q .normal (.ins is :: k) ((d, v) :: s) h → Stp O T ro N Q .normal (.ins (⟨some d, .max, os, none⟩ :: is) :: k) s h
  | build {k : List KI} {s : Env} {h : AHeap} {d : Nat} {os : List Opd} {is : List AIn} {vs : List AV} {v : AV} {z : AV} {ps : List (Nat × Nat)} : evalLS s os = some vs → aop (.build z ps) vs h = some (v, h) → AV.notJunk v = some v → Nat.blt d N = true → W O T ro N Q .normal (.ins is :: k) ((d, v) :: s) h → Stp O T ro N Q .normal (.ins (⟨some d, (.build z ps), os, none⟩ :: is) :: k) s h
  | lss {k : List KI} {s : Env} {h : AHeap} {d : Nat} {os : List Opd} {is : List AIn} {vs : List AV} {v : AV} : evalLS s os = some vs → aop (.bin .lss) vs h = some (v, h) → AV.notJunk v = some v → Nat.blt d N = true → W O T ro N Q .normal (.ins is :: k) ((d, v) :: s) h → Stp O T ro N Q .normal (.ins (⟨some d, (.bin .lss), os, none⟩ :: is) :: k) s h
  | leq {k : List KI} {s : Env} {h : AHeap} {d : Nat} {os : List Opd} {is : List AIn} {vs : List AV} {v : AV} : evalLS s os = some vs → aop (.bin .leq) vs h = some (v, h) → AV.notJunk v = some v → Nat.blt d N = true → W O T ro N Q .normal (.ins is :: k) ((d, v) :: s) h → Stp O T ro N Q .normal (.ins (⟨some d, (.bin .leq), os, none⟩ :: is) :: k) s h
  | gtr {k : List KI} {s : Env} {h : AHeap} {d : Nat} {os : List Opd} {is : List AIn} {vs : List AV} {v : AV} : evalLS s os = some vs → aop (.bin .gtr) vs h = some (v, h) → AV.notJunk v = some v → Nat.blt d N = true → W O T ro N Q .normal (.ins is :: k) ((d, v) :: s) h → Stp O T ro N Q .normal (.ins (⟨some d, (.bin .gtr), os, none⟩ :: is) :: k) s h
  | geq {k : List KI} {s : Env} {h : AHeap} {d : Nat} {os : List Opd} {is : List AIn} {vs : List AV} {v : AV} : evalLS s os = some vs → aop (.bin .geq) vs h = some (v, h) → AV.notJunk v = some v → Nat.blt d N = true → W O T ro N Q .normal (.ins is :: k) ((d, v) :: s) h → Stp O T ro N Q .normal (.ins (⟨some d, (.bin .geq), os, none⟩ :: is) :: k) s h
  | eql {k : List KI} {s : Env} {h : AHeap} {d : Nat} {os : List Opd} {is : List AIn} {vs : List AV} {v : AV} : evalLS s os = some vs → aop (.bin .eql) vs h = some (v, h) → AV.notJunk v = some v → Nat.blt d N = true → W O T ro N Q .normal (.ins is :: k) ((d, v) :: s) h → Stp O T ro N Q .normal (.ins (⟨some d, (.bin .eql), os, none⟩ :: is) :: k) s h
  | neq {k : List KI} {s : Env} {h : AHeap} {d : Nat} {os : List Opd} {is : List AIn} {vs : List AV} {v : AV} : evalLS s os = some vs → aop (.bin .neq) vs h = some (v, h) → AV.notJunk v = some v → Nat.blt d N = true → W O T ro N Q .normal (.ins is :: k) ((d, v) :: s) h → Stp O T ro N Q .normal (.ins (⟨some d, (.bin .neq), os, none⟩ :: is) :: k) s h
  | mul {k : List KI} {s : Env} {h : AHeap} {d : Nat} {os : List Opd} {is : List AIn} {vs : List AV} {v : AV} : evalLS s os = some vs → aop (.bin .mul) vs h = some (v, h) → AV.notJunk v = some v → Nat.blt d N = true → W O T ro N Q .normal (.ins is :: k) ((d, v) :: s) h → Stp O T ro N Q .normal (.ins (⟨some d, (.bin .mul), os, none⟩ :: is) :: k) s h
  | quo {k : List KI} {s : Env} {h : AHeap} {d : Nat} {os : List Opd} {is : List AIn} {vs : List AV} {v : AV} : evalLS s os = some vs → aop (.bin .quo) vs h = some (v, h) → AV.notJunk v = some v → Nat.blt d N = true → W O T ro N Q .normal (.ins is :: k) ((d, v) :: s) h → Stp O T ro N Q .normal (.ins (⟨some d, (.bin .quo), os, none⟩ :: is) :: k) s h
  | rem {k : List KI} {s : Env} {h : AHeap} {d : Nat} {os : List Opd} {is : List AIn} {vs : List AV} {v : AV} : evalLS s os = some vs → aop (.bin .rem) vs h = some (v, h) → AV.notJunk v = some v → Nat.blt d N = true → W O T ro N Q .normal (.ins is :: k) ((d, v) :: s) h → Stp O T ro N Q .normal (.ins (⟨some d, (.bin .rem), os, none⟩ :: is) :: k) s h
  | band {k : List KI} {s : Env} {h : AHeap} {d : Nat} {os : List Opd} {is : List AIn} {vs : List AV} {v : AV} : evalLS s os = some vs → aop (.bin .and) vs h = some (v, h) → AV.notJunk v = some v → Nat.blt d N = true → W O T ro N Q .normal (.ins is :: k) ((d, v) :: s) h → Stp O T ro N Q .normal (.ins (⟨some d, (.bin .and), os, none⟩ :: is) :: k) s h
  | bor {k : List KI} {s : Env} {h : AHeap} {d : Nat} {os : List Opd} {is : List AIn} {vs : List AV} {v : AV} : evalLS s os = some vs → aop (.bin .or) vs h = some (v, h) → AV.notJunk v = some v → Nat.blt d N = true → W O T ro N Q .normal (.ins is :: k) ((d, v) :: s) h → Stp O T ro N Q .normal (.ins (⟨some d, (.bin .or), os, none⟩ :: is) :: k) s h
  | shl {k : List KI} {s : Env} {h : AHeap} {d : Nat} {os : List Opd} {is : List AIn} {vs : List AV} {v : AV} : evalLS s os = some vs → aop (.bin .shl) vs h = some (v, h) → AV.notJunk v = some v → Nat.blt d N = true → W O T ro N Q .normal (.ins is :: k) ((d, v) :: s) h → Stp O T ro N Q .normal (.ins (⟨some d, (.bin .shl), os, none⟩ :: is) :: k) s h
  | shr {k : List KI} {s : Env} {h : AHeap} {d : Nat} {os : List Opd} {is : List AIn} {vs : List AV} {v : AV} : evalLS s os = some vs → aop (.bin .shr) vs h = some (v, h) → AV.notJunk v = some v → Nat.blt d N = true → W O T ro N Q .normal (.ins is :: k) ((d, v) :: s) h → Stp O T ro N Q .normal (.ins (⟨some d, (.bin .shr), os, none⟩ :: is) :: k) s h
  | bandn {k : List KI} {s : Env} {h : AHeap} {d : Nat} {os : List Opd} {is : List AIn} {vs : List AV} {v : AV} : evalLS s os = some vs → aop (.bin .andNot) vs h = some (v, h) → AV.notJunk v = some v → Nat.blt d N = true → W O T ro N Q .normal (.ins is :: k) ((d, v) :: s) h → Stp O T ro N Q .normal (.ins (⟨some d, (.bin .andNot), os, none⟩ :: is) :: k) s h
  | alloc {k : List KI} {s : Env} {h : AHeap} {d : Nat} {os : List Opd} {is : List AIn} {L : List Chunk} {e es : Nat} {z : Dat} : evalLS s os = some [] → St h L → z.len = es → Nat.blt 0 es = true → Nat.blt d N = true → (∀ p h', St h' (.pt p (.row e es false false z) :: L) → W O T ro N Q .normal (.ins is :: k) ((d, .ptr p 0) :: s) h') → Stp O T ro N Q .normal (.ins (⟨some d, (.alloc e es z), os, none⟩ :: is) :: k) s h
  | box {k : List KI} {s : Env} {h : AHeap} {d : Nat} {os : List Opd} {is : List AIn} {L : List Chunk} {e es : Nat} {v : AV} : evalLS s os = some [v] → St h L → v.dat.len = es → Nat.blt 0 es = true → Nat.blt d N = true → (∀ p h', St h' (.pt p (.row e es false false v.dat) :: L) → W O T ro N Q .normal (.ins is :: k) ((d, .ptr p 0) :: s) h') → Stp O T ro N Q .normal (.ins (⟨some d, (.box e es), os, none⟩ :: is) :: k) s h
  | bslice {k : List KI} {s : Env} {h : AHeap} {d : Nat} {os : List Opd} {is : List AIn} {L : List Chunk} {e es len : Nat} {z dd : Dat} {parts : List Nat} {args : List AV} : evalLS s os = some args → St h L → fills (parts.map fun i => (i * es, es)) args (z.rep len) = some dd → dd.len = len * es → Nat.blt 0 es = true → Nat.blt d N = true → (∀ p h', St h' (.pt p (.row e es false false dd) :: L) → W O T ro N Q .normal (.ins is :: k) ((d, .sl p 0 len len) :: s) h') → Stp O T ro N Q .normal (.ins (⟨some d, (.bslice e es len z parts), os, none⟩ :: is) :: k) s h
  | store {k : List KI} {s : Env} {h : AHeap} {os : List Opd} {is : List AIn} {L R : List Chunk} {id off e es n : Nat} {soft : Bool} {D D' : Dat} {v : AV} : evalLS s os = some [.ptr id off, v] → St h L → Take L (.pt id (.row e es soft false D)) R → v.dat.len = n → Nat.blt 0 n = true → D.put off v.dat = some D' → (∀ (_ : Unit) h', St h' (.pt id (.row e es soft false D') :: R) → W O T ro N Q .normal (.ins is :: k) s h') → Stp O T ro N Q .normal (.ins (⟨none, .store n, os, none⟩ :: is) :: k) s h
  | skip0 {k : List KI} {s : Env} {h : AHeap} {os : List Opd} {is : List AIn} {v : AV} : evalLS s os = some [v] → W O T ro N Q .normal (.ins is :: k) s h → Stp O T ro N Q .normal (.ins (⟨none, .mv, os, none⟩ :: is) :: k) s h
section
variable {O : Nat → Option FSpec} {T : BT} {ro : Option Nat} {N : Nat} {Q : AExit → Env → AHeap → Prop} {x : AExit} {k : List KI} {s : Env} {h : AHeap} {L R : List Chunk}
theorem W.of (p : Stp O T ro N Q x k s h) : W O T ro N Q x k s h := by
  cases p with
  | done q => exact ⟨fun e hl hc => ⟨_, hl, hc, q⟩⟩
  | seq w => exact ⟨fun e hl hc => by
      refine execW_mono (fun _ _ _ _ x => x) progI_mono (fun y e h q => ?_) (w.run e hl hc)
      cases y <;> exact q⟩
  | region w => exact ⟨fun e hl hc => w.run e hl hc⟩
  | draw1 w => exact ⟨fun e hl hc ds hd => by rw [List.mem_singleton.1 hd]; exact runDrawW_mono (fun _ _ _ _ x => x) progI_mono (fun _ _ q => ⟨_, _, Ren.refl _ _ _, q⟩) (w.run e hl hc)⟩
  | block w => exact ⟨fun e hl hc => by
      refine execW_mono (fun _ _ _ _ x => x) progI_mono (fun y e h q => ?_) (w.run e hl hc)
      cases y <;> exact q⟩
  | blk w => exact ⟨fun e hl hc => w.run e hl hc⟩
  | cond ho w => exact ⟨fun e hl hc => by
      have := w.run e hl hc
      simp only [postK, execW, hc.eval ho] at this ⊢
      rename_i q _ _
      cases q <;> exact this⟩
  | skip w => exact ⟨fun e hl hc => w.run e hl hc⟩
  | ret w => exact ⟨fun e hl hc => w.run e hl hc⟩
  | exit w => exact ⟨fun e hl hc => w.run e hl hc⟩
  | rcode w => exact ⟨fun e hl hc => w.run e hl hc⟩
  | rblk w => exact ⟨fun e hl hc => w.run e hl hc⟩
  | rlp w => exact ⟨fun e hl hc => w.run e hl hc⟩
  | xcode w => exact ⟨fun e hl hc => w.run e hl hc⟩
  | xblk w => exact ⟨fun e hl hc => by
      have := w.run e hl hc
      simp only [postK]
      rename_i i id
      cases hb : Nat.beq i id with
      | true => rw [hb] at this; rw [if_pos (Nat.eq_of_beq_eq_true hb)]; exact this
      | false => rw [hb] at this; rw [if_neg (Nat.ne_of_beq_eq_false hb)]; exact this⟩
  | xlp w => exact ⟨fun e hl hc => w.run e hl hc⟩
  | lp j => exact ⟨fun e hl hc => ⟨_, hl, hc, j⟩⟩
  | inil w => exact ⟨fun e hl hc => w.run e hl hc⟩
  | dnil w => exact ⟨fun e hl hc => w.run e hl hc⟩
  | dcons w => exact ⟨fun e hl hc => w.run e hl hc⟩
  | ag a w => exact ⟨fun e hl hc => ⟨again_ok hc a.ok, w.run e hl hc⟩⟩
  | guard hw w => exact ⟨fun e hl hc => by
      have := w.run e hl hc
      simp only [postK, runInsW, runInW, hc.want hw] at this ⊢
      rename_i b _
      cases b with
      | true => exact this
      | false => simpa only [cond_false, wantedA, evalL, Opd.eval, doOpW, aop] using this⟩
  | mv ha  hj hd w => exact W.dop ha (⟨rfl, rfl⟩) hj hd w
  | load1 ha p0 p1 p2 hj hd w => exact W.dop ha (d_load1 (p0.get' p1) p2) hj hd w
  | loadn ha p0 p1 p2 hj hd w => exact W.dop ha (d_loadn (p0.get' p1) p2) hj hd w
  | pick ha p0 hj hd w => exact W.dop ha (⟨rfl, by obtain ⟨rfl⟩ := p0; cases ‹Bool› <;> rfl⟩) hj hd w
  | lens ha p0 hj hd w => exact W.dop ha (d_lens p0) hj hd w
  | add ha p0 p1 hj hd w => exact W.dop ha (d_add p0 p1) hj hd w
  | sub ha p0 p1 hj hd w => exact W.dop ha (d_sub p0 p1) hj hd w
  | indexa ha p0 p1 hj hd w => exact W.dop ha (d_indexa p0 p1) hj hd w
  | nilCheck ha p0 hj hd w => exact W.dop ha (⟨rfl, p0⟩) hj hd w
  | eqvS ha p0 hj hd w => exact W.dop ha (⟨rfl, p0⟩) hj hd w
  | eqvP ha p0 hj hd w => exact W.dop ha (⟨rfl, p0⟩) hj hd w
  | eqvL ha p0 hj hd w => exact W.dop ha (⟨rfl, p0⟩) hj hd w
  | eqvM ha p0 hj hd w => exact W.dop ha (⟨rfl, p0⟩) hj hd w
  | eqvF ha p0 hj hd w => exact W.dop ha (⟨rfl, p0⟩) hj hd w
  | eqvA ha p0 hj hd w => exact W.dop ha (⟨rfl, p0⟩) hj hd w
  | un ha p0 hj hd w => exact W.dop ha (⟨rfl, p0⟩) hj hd w
  | conv ha p0 hj hd w => exact W.dop ha (⟨rfl, p0⟩) hj hd w
  | sl2arr ha p0 hj hd w => exact W.dop ha (⟨rfl, p0⟩) hj hd w
  | mkfunc ha p0 hj hd w => exact W.dop ha (⟨rfl, p0⟩) hj hd w
  | slice ha p0 hj hd w => exact W.dop ha (⟨rfl, p0⟩) hj hd w
  | slicea ha p0 hj hd w => exact W.dop ha (⟨rfl, p0⟩) hj hd w
  | fieldAddr ha p0 hj hd w => exact W.dop ha (⟨rfl, p0⟩) hj hd w
  | field ha p0 hj hd w => exact W.dop ha (⟨rfl, p0⟩) hj hd w
  | indexv ha p0 hj hd w => exact W.dop ha (⟨rfl, p0⟩) hj hd w
  | extract ha p0 hj hd w => exact W.dop ha (⟨rfl, p0⟩) hj hd w
  | lenc ha p0 hj hd w => exact W.dop ha (⟨rfl, p0⟩) hj hd w
  | cap ha p0 hj hd w => exact W.dop ha (⟨rfl, p0⟩) hj hd w
  | lenstr ha p0 hj hd w => exact W.dop ha (⟨rfl, p0⟩) hj hd w
  | min ha p0 hj hd w => exact W.dop ha (⟨rfl, p0⟩) hj hd w
  | max ha p0 hj hd w => exact W.dop ha (⟨rfl, p0⟩) hj hd w
  | build ha p0 hj hd w => exact W.dop ha (⟨rfl, p0⟩) hj hd w
  | lss ha p0 hj hd w => exact W.dop ha (⟨rfl, p0⟩) hj hd w
  | leq ha p0 hj hd w => exact W.dop ha (⟨rfl, p0⟩) hj hd w
  | gtr ha p0 hj hd w => exact W.dop ha (⟨rfl, p0⟩) hj hd w
  | geq ha p0 hj hd w => exact W.dop ha (⟨rfl, p0⟩) hj hd w
  | eql ha p0 hj hd w => exact W.dop ha (⟨rfl, p0⟩) hj hd w
  | neq ha p0 hj hd w => exact W.dop ha (⟨rfl, p0⟩) hj hd w
  | mul ha p0 hj hd w => exact W.dop ha (⟨rfl, p0⟩) hj hd w
  | quo ha p0 hj hd w => exact W.dop ha (⟨rfl, p0⟩) hj hd w
  | rem ha p0 hj hd w => exact W.dop ha (⟨rfl, p0⟩) hj hd w
  | band ha p0 hj hd w => exact W.dop ha (⟨rfl, p0⟩) hj hd w
  | bor ha p0 hj hd w => exact W.dop ha (⟨rfl, p0⟩) hj hd w
  | shl ha p0 hj hd w => exact W.dop ha (⟨rfl, p0⟩) hj hd w
  | shr ha p0 hj hd w => exact W.dop ha (⟨rfl, p0⟩) hj hd w
  | bandn ha p0 hj hd w => exact W.dop ha (⟨rfl, p0⟩) hj hd w
  | alloc ha st p0 p1 hd w => exact W.eff (e_alloc st p0 p1) ha hd fun _ h' ⟨p, e, st'⟩ => by subst e; exact ⟨rfl, w p h' st'⟩
  | box ha st p0 p1 hd w => exact W.eff (e_box st p0 p1) ha hd fun _ h' ⟨p, e, st'⟩ => by subst e; exact ⟨rfl, w p h' st'⟩
  | bslice ha st p0 p1 p2 hd w => exact W.eff (e_bslice st p0 p1 p2) ha hd fun _ h' ⟨p, e, st'⟩ => by subst e; exact ⟨rfl, w p h' st'⟩
  | store ha st t h1 h2 h3 w => exact W.eff0 (e_store st t h1 h2 h3) ha fun _ h' ⟨_, st'⟩ => w () h' st'
  | skip0 ha w => exact W.eff0 (K := fun _ h' => h' = h) ⟨by simp only [doOpW, aop]⟩ ha fun _ h' e => by subst e; exact w
theorem be_t {q : Bool} (h : q = true) : (q == true) = true := by subst h; rfl
theorem be_f {q : Bool} (h : q = false) : (q == true) = false := by subst h; rfl
theorem bo_t {q : Bool} (h : q = false) : (q == false) = true := by subst h; rfl
theorem bo_f {q : Bool} (h : q = true) : (q == false) = false := by subst h; rfl
/-- a branch whose way is known -/
theorem W.ct {q : Bool} {a b : ACode} (w : W O T ro N Q .normal (.code a :: k) s h) (hq : q = true := by first | assumption | exact d_t (by omega) | exact q_t (by omega) | exact nq_t (by omega) | exact nd_t (by omega)) : W O T ro N Q .normal (.code (bif q then a else b) :: k) s h := by subst hq; exact w
theorem W.cf {q : Bool} {a b : ACode} (w : W O T ro N Q .normal (.code b :: k) s h) (hq : q = false := by first | assumption | exact d_f (by omega) | exact q_f (by omega) | exact nq_f (by omega) | exact nd_f (by omega)) : W O T ro N Q .normal (.code (bif q then a else b) :: k) s h := by subst hq; exact w
theorem W.gt {q : Bool} {a b : AIn} {is : List AIn} (w : W O T ro N Q .normal (.ins (a :: is) :: k) s h) (hq : q = true := by first | exact be_t (by first | assumption | exact d_t (by omega) | exact q_t (by omega) | exact nq_t (by omega) | exact nd_t (by omega)) | exact bo_t (by first | assumption | exact d_f (by omega) | exact q_f (by omega) | exact nq_f (by omega) | exact nd_f (by omega))) : W O T ro N Q .normal (.ins ((bif q then a else b) :: is) :: k) s h := by subst hq; exact w
theorem W.gf {q : Bool} {a b : AIn} {is : List AIn} (w : W O T ro N Q .normal (.ins (b :: is) :: k) s h) (hq : q = false := by first | exact be_f (by first | assumption | exact d_f (by omega) | exact q_f (by omega) | exact nq_f (by omega) | exact nd_f (by omega)) | exact bo_f (by first | assumption | exact d_t (by omega) | exact q_t (by omega) | exact nq_t (by omega) | exact nd_t (by omega))) : W O T ro N Q .normal (.ins ((bif q then a else b) :: is) :: k) s h := by subst hq; exact w
/-- a call, by what is known of the function -/
theorem W.call {d f : Nat} {os : List Opd} {is : List AIn} {first captured rest args : List AV} {Ps : List Chunk} {post : AV → List Chunk → Prop} (ha : evalLS s os = some (.func f first captured :: rest) := by rfl) (hx : first ++ rest ++ captured = args := by rfl) (hs : Spec (progI O T) (.f f) args Ps post)
    (st : St h L := by assumption) (hp : Pick L Ps R := by repeat (first | exact Take.here | exact Pick.nil | apply Pick.cons | apply Take.there)) (hd : Nat.blt d N = true := by rfl) (w : ∀ v Rs, post v Rs → ∀ h', St h' (Rs ++ R) → v.notJunk = some v ∧ W O T ro N Q .normal (.ins is :: k) ((d, v) :: s) h') : W O T ro N Q .normal (.ins (⟨some d, .callv, os, none⟩ :: is) :: k) s h :=
  W.eff (e_call progI_mono hs hx st hp) ha hd fun v h' ⟨Rs, y, z⟩ => w v Rs y h' z
theorem W.ef {d : Nat} {op : AOp} {os : List Opd} {is : List AIn} {vs : List AV} {K : AV → AHeap → Prop} (ha : evalLS s os = some vs := by rfl) (ho : Eff (progI O T) op vs h K) (hd : Nat.blt d N = true := by rfl) (w : ∀ v h', K v h' → v.notJunk = some v ∧ W O T ro N Q .normal (.ins is :: k) ((d, v) :: s) h') :
    W O T ro N Q .normal (.ins (⟨some d, op, os, none⟩ :: is) :: k) s h := W.eff ho ha hd w
theorem W.do {d : Nat} {op : AOp} {os : List Opd} {is : List AIn} {vs : List AV} {v : AV} (ha : evalLS s os = some vs := by rfl) (ho : Does op vs h v h) (hj : v.notJunk = some v := by first | rfl | assumption) (hd : Nat.blt d N = true := by rfl) (w : W O T ro N Q .normal (.ins is :: k) ((d, v) :: s) h) :
    W O T ro N Q .normal (.ins (⟨some d, op, os, none⟩ :: is) :: k) s h := W.dop ha ho hj hd w
theorem nj {v : AV} {A : Prop} (k : A) (hj : v.notJunk = some v := by first | rfl | assumption) : v.notJunk = some v ∧ A := ⟨hj, k⟩
theorem W.sub {s' : Env} (hs : Sub s' s) (w : W O T ro N Q x k s' h) : W O T ro N Q x k s h := ⟨fun e hl hc => w.run e hl (hc.sub hs)⟩
/-- A LOOP: a state, the slots and the parts of the heap by it, and what gets less. -/
theorem W.loop {σ : Type} {b : ACode} (E : σ → Env) (G : σ → List Chunk) (φ : σ → Prop) (m : σ → Nat) (x0 : σ) (hm : m x0 < rounds) (hs : Sub (E x0) s) (st : St h (G x0)) (h0 : φ x0)
    (hb : ∀ y h, φ y → St h (G y) → W O T ro N Q .normal (.code b :: .lp (fun s' h' => ∃ z, m z < m y ∧ φ z ∧ Sub (E z) s' ∧ St h' (G z)) :: k) (E y) h) : W O T ro N Q .normal (.code (.loop b) :: k) s h := by
  have key : ∀ (n : Nat) (y : σ) (h : AHeap), m y < n → φ y → St h (G y) → ∀ e, e.length = N → Cov (E y) e → iterW (execW (progI O T) ro b) n e h (postK (progI O T) ro N k fun x e h => ∃ s', e.length = N ∧ Cov s' e ∧ Q x s' h) := by
    intro n
    induction n with
    | zero => intro y h hy; omega
    | succ n ih =>
      intro y h hy hφ st e hl hc
      refine execW_mono (fun _ _ _ _ x => x) progI_mono (fun z e' h' q => ?_) ((hb y h hφ st).run e hl hc)
      cases z with
      | normal =>
        obtain ⟨s', p1, p2, z, hz, hφ', hsub, st'⟩ := q
        exact ih z h' (by omega) hφ' st' e' p1 (p2.sub hsub)
      | exit i => exact q
      | ret => exact q
  exact ⟨fun e hl hc => key rounds x0 h hm h0 st e hl (hc.sub hs)⟩
end
end Go.Proofs.YtljemfeohhgncaaGreat

namespace Go.Proofs.YtljemfeohhgncaaGreat
noncomputable def sel {α : Type} (b : Bool) (t e : α) : α := Bool.rec (motive := fun _ => α) e t b
theorem sel_true {α : Type} {t e : α} : sel true t e = t := rfl
theorem sel_false {α : Type} {t e : α} : sel false t e = e := rfl
theorem sel_eq {α : Type} {b : Bool} {t e : α} : sel b t e = if b = true then t else e := by cases b <;> rfl
noncomputable def trGet (v : Option AObj) (gl gr : Nat → Option AObj) (n : Nat) : Option AObj := sel (Nat.beq n 0) v (sel (Nat.beq (Nat.mod n 2) 1) (gl (Nat.div n 2)) (gr (Nat.sub (Nat.div n 2) 1)))
noncomputable def Tr.getK (t : Tr) : Nat → Option AObj := Tr.rec (motive := fun _ => Nat → Option AObj) (fun _ => none) (fun _ v _ gl gr => trGet v gl gr) t
theorem beqD {a b : Nat} : Nat.beq a b = decide (a = b) := by
  cases h : Nat.beq a b with
  | true => rw [Nat.eq_of_beq_eq_true h]; simp
  | false => have := Nat.ne_of_beq_eq_false h; simp [this]
theorem Tr.getK_eq : ∀ (t : Tr) (n : Nat), t.getK n = t.get n
  | .leaf, _ => rfl
  | .node l v r, n => by
    show trGet v l.getK r.getK n = _
    simp only [trGet, Tr.get, sel_eq, beqD, decide_eq_true_eq, Tr.getK_eq l, Tr.getK_eq r]
    rfl
noncomputable def trPut0 (p : Tr → Nat → Option AObj → Tr) (n : Nat) (o : Option AObj) : Tr := sel (Nat.beq n 0) (.node .leaf o .leaf) (sel (Nat.beq (Nat.mod n 2) 1) (.node (p .leaf (Nat.div n 2) o) none .leaf) (.node .leaf none (p .leaf (Nat.sub (Nat.div n 2) 1) o)))
noncomputable def trPut1 (p : Tr → Nat → Option AObj → Tr) (l : Tr) (v : Option AObj) (r : Tr) (n : Nat) (o : Option AObj) : Tr := sel (Nat.beq n 0) (.node l o r) (sel (Nat.beq (Nat.mod n 2) 1) (.node (p l (Nat.div n 2) o) v r) (.node l v (p r (Nat.sub (Nat.div n 2) 1) o)))
noncomputable def trPut (p : Tr → Nat → Option AObj → Tr) (t : Tr) : Nat → Option AObj → Tr := Tr.rec (motive := fun _ => Nat → Option AObj → Tr) (trPut0 p) (fun l v r _ _ => trPut1 p l v r) t
noncomputable def Tr.putK (f : Nat) : Tr → Nat → Option AObj → Tr := Nat.rec (motive := fun _ => Tr → Nat → Option AObj → Tr) (fun t _ _ => t) (fun _ p => trPut p) f
theorem Tr.putK_eq : ∀ (f : Nat) (t : Tr) (n : Nat) (o : Option AObj), Tr.putK f t n o = Tr.put f t n o
  | 0, _, _, _ => rfl
  | f + 1, .leaf, n, o => by
    show trPut0 (Tr.putK f) n o = _
    simp only [trPut0, Tr.put, sel_eq, beqD, decide_eq_true_eq, Tr.putK_eq f]
    rfl
  | f + 1, .node l v r, n, o => by
    show trPut1 (Tr.putK f) l v r n o = _
    simp only [trPut1, Tr.put, sel_eq, beqD, decide_eq_true_eq, Tr.putK_eq f]
    rfl
noncomputable def AHeap.getK (h : AHeap) (id : Nat) : Option AObj := Tr.getK h.objs id
theorem AHeap.getK_eq : AHeap.getK = AHeap.get := funext fun _ => funext fun _ => Tr.getK_eq _ _
noncomputable def AHeap.putK (h : AHeap) (id : Nat) (o : AObj) : AHeap := ⟨h.next, Tr.putK (Nat.add id 2) h.objs id (some o)⟩
theorem AHeap.putK_eq : AHeap.putK = AHeap.put := funext fun h => funext fun id => funext fun o => by
  show AHeap.mk _ _ = AHeap.mk _ _
  rw [Tr.putK_eq]
noncomputable def AHeap.killK (h : AHeap) (id : Nat) : AHeap := ⟨h.next, Tr.putK (Nat.add id 2) h.objs id none⟩
theorem AHeap.killK_eq : AHeap.killK = AHeap.kill := funext fun h => funext fun id => by
  show AHeap.mk _ _ = AHeap.mk _ _
  rw [Tr.putK_eq]
noncomputable def AHeap.newK (h : AHeap) (o : AObj) : AHeap := ⟨Nat.succ h.next, Tr.putK (Nat.add h.next 2) h.objs h.next (some o)⟩
theorem AHeap.newK_eq : AHeap.newK = AHeap.new := funext fun h => funext fun o => by
  show AHeap.mk _ _ = AHeap.mk _ _
  rw [Tr.putK_eq]
noncomputable def nthK (l : List AV) : Nat → Option AV := List.rec (motive := fun _ => Nat → Option AV) (fun _ => none) (fun a _ ih n => Nat.rec (motive := fun _ => Option AV) (some a) (fun m _ => ih m) n) l
theorem nthK_eq : ∀ (l : List AV) (n : Nat), nthK l n = l[n]?
  | [], _ => by simp [nthK]
  | a :: l, 0 => rfl
  | a :: l, n + 1 => by rw [List.getElem?_cons_succ, ← nthK_eq l n]; rfl
noncomputable def dropK (n : Nat) : List AV → Option (List AV) := Nat.rec (motive := fun _ => List AV → Option (List AV)) some (fun _ ih l => List.rec (motive := fun _ => Option (List AV)) none (fun _ t _ => ih t) l) n
theorem dropK_eq : ∀ (n : Nat) (l : List AV), dropK n l = if n ≤ l.length then some (l.drop n) else none
  | 0, l => rfl
  | n + 1, [] => by simp [dropK]
  | n + 1, a :: l => by
    show dropK n l = _
    rw [dropK_eq n l]; simp
noncomputable def consO (a : AV) (r : Option (List AV)) : Option (List AV) := Option.rec (motive := fun _ => Option (List AV)) none (fun l => some (a :: l)) r
noncomputable def takeK (n : Nat) : List AV → Option (List AV) := Nat.rec (motive := fun _ => List AV → Option (List AV)) (fun _ => some []) (fun _ ih l => List.rec (motive := fun _ => Option (List AV)) none (fun a t _ => consO a (ih t)) l) n
theorem takeK_eq : ∀ (n : Nat) (l : List AV), takeK n l = if n ≤ l.length then some (l.take n) else none
  | 0, l => rfl
  | n + 1, [] => by simp [takeK]
  | n + 1, a :: l => by
    show consO a (takeK n l) = _
    rw [takeK_eq n l]
    by_cases h : n ≤ l.length
    · rw [if_pos h, if_pos (by simpa using h)]; rfl
    · rw [if_neg h, if_neg (by simpa using h)]; rfl
/-- vs over what stands at the front -/
noncomputable def overK (vs : List AV) : List AV → Option (List AV) := List.rec (motive := fun _ => List AV → Option (List AV)) some (fun v _ ih l => List.rec (motive := fun _ => Option (List AV)) none (fun _ t _ => consO v (ih t)) l) vs
theorem overK_eq : ∀ (vs l : List AV), overK vs l = if vs.length ≤ l.length then some (vs ++ l.drop vs.length) else none
  | [], l => by simp [overK]
  | v :: vs, [] => by simp [overK]
  | v :: vs, a :: l => by
    show consO v (overK vs l) = _
    rw [overK_eq vs l]
    by_cases h : vs.length ≤ l.length
    · rw [if_pos h, if_pos (by simpa using h)]; rfl
    · rw [if_neg h, if_neg (by simpa using h)]; rfl
noncomputable def putAtK (vs : List AV) (n : Nat) : List AV → Option (List AV) := Nat.rec (motive := fun _ => List AV → Option (List AV)) (overK vs) (fun _ ih l => List.rec (motive := fun _ => Option (List AV)) none (fun a t _ => consO a (ih t)) l) n
theorem putAtK_eq (vs : List AV) : ∀ (n : Nat) (l : List AV), putAtK vs n l = if n + vs.length ≤ l.length then some (l.take n ++ vs ++ l.drop (n + vs.length)) else none
  | 0, l => by
    show overK vs l = _
    rw [overK_eq]; simp
  | n + 1, [] => by
    rw [if_neg (by simp)]; rfl
  | n + 1, a :: l => by
    show consO a (putAtK vs n l) = _
    rw [putAtK_eq vs n l]
    by_cases h : n + vs.length ≤ l.length
    · rw [if_pos h, if_pos (by simp; omega)]
      simp [consO, show n + 1 + vs.length = (n + vs.length) + 1 by omega]
    · rw [if_neg h, if_neg (by simp; omega)]; rfl
noncomputable def Dat.getK (d : Dat) (i : Nat) : Option AV := Dat.rec (motive := fun _ => Option AV) (fun cs => nthK cs i) (fun len n => sel (Nat.blt i len) (some (.int .u8 (Int.ofNat (Nat.mod (Nat.shiftRight n (Nat.mul 8 i)) 256)))) none) d
theorem bltD {a b : Nat} : Nat.blt a b = decide (a < b) := by
  cases h : Nat.blt a b with
  | true => rw [Nat.blt_eq] at h; simp [h]
  | false => have : ¬ a < b := fun hc => by rw [← Nat.blt_eq] at hc; rw [hc] at h; cases h
             simp [this]
theorem Dat.getK_eq : Dat.getK = Dat.get := funext fun d => funext fun i => by
  cases d with
  | vals cs => exact nthK_eq _ _
  | bytes l n =>
    show sel (Nat.blt i l) _ none = _
    rw [sel_eq, bltD]
    simp only [decide_eq_true_eq]
    rfl
noncomputable def aggO (r : Option (List AV)) : Option AV := Option.rec (motive := fun _ => Option AV) none (fun l => some (.agg l)) r
noncomputable def bindO (r : Option (List AV)) (k : List AV → Option (List AV)) : Option (List AV) := Option.rec (motive := fun _ => Option (List AV)) none k r
noncomputable def Dat.subK (d : Dat) (off len : Nat) : Option AV := Dat.rec (motive := fun _ => Option AV) (fun cs => aggO (bindO (dropK off cs) (takeK len))) (fun l n => sel (Nat.ble (Nat.add off len) l) (some (.bytes len (bsub n off len))) none) d
theorem bleD {a b : Nat} : Nat.ble a b = decide (a ≤ b) := by
  cases h : Nat.ble a b with
  | true => have := Nat.le_of_ble_eq_true h; simp [this]
  | false => have : ¬ a ≤ b := fun hc => by rw [Nat.ble_eq_true_of_le hc] at h; cases h
             simp [this]
theorem dropTake {cs : List AV} {off len : Nat} : bindO (dropK off cs) (takeK len) = if off + len ≤ cs.length then some ((cs.drop off).take len) else none := by
  rw [dropK_eq]
  by_cases h : off ≤ cs.length
  · rw [if_pos h]
    show takeK len _ = _
    rw [takeK_eq, List.length_drop]
    by_cases h2 : off + len ≤ cs.length
    · rw [if_pos (by omega), if_pos h2]
    · rw [if_neg (by omega), if_neg h2]
  · rw [if_neg h, if_neg (by omega)]; rfl
theorem Dat.subK_eq : Dat.subK = Dat.sub := funext fun d => funext fun off => funext fun len => by
  cases d with
  | vals cs =>
    show aggO (bindO _ _) = _
    rw [dropTake]
    simp only [Dat.sub]
    split <;> rfl
  | bytes l n =>
    show sel (Nat.ble (off + len) l) _ none = _
    rw [sel_eq, bleD]
    simp only [decide_eq_true_eq]
    rfl
noncomputable def valsO (r : Option (List AV)) : Option Dat := Option.rec (motive := fun _ => Option Dat) none (fun l => some (.vals l)) r
noncomputable def Dat.takeK (d : Dat) (off len : Nat) : Option Dat := Dat.rec (motive := fun _ => Option Dat) (fun cs => valsO (bindO (dropK off cs) (Go.Proofs.YtljemfeohhgncaaGreat.takeK len))) (fun l n => sel (Nat.ble (Nat.add off len) l) (some (.bytes len (bsub n off len))) none) d
theorem Dat.takeK_eq : Dat.takeK = Dat.take := funext fun d => funext fun off => funext fun len => by
  cases d with
  | vals cs =>
    show valsO (bindO _ _) = _
    rw [dropTake]
    simp only [Dat.take]
    split <;> rfl
  | bytes l n =>
    show sel (Nat.ble (off + len) l) _ none = _
    rw [sel_eq, bleD]
    simp only [decide_eq_true_eq]
    rfl
noncomputable def Dat.putK (d : Dat) (off : Nat) (v : Dat) : Option Dat := Dat.rec (motive := fun _ => Option Dat) (fun cs => Dat.rec (motive := fun _ => Option Dat) (fun vs => valsO (putAtK vs off cs)) (fun _ _ => Dat.put (.vals cs) off v) v) (fun l n => Dat.put (.bytes l n) off v) d
theorem Dat.putK_eq : Dat.putK = Dat.put := funext fun d => funext fun off => funext fun v => by
  cases d with
  | vals cs =>
    cases v with
    | vals vs =>
      show valsO (putAtK vs off cs) = _
      rw [putAtK_eq]
      simp only [Dat.put]
      split <;> rfl
    | bytes l n => rfl
  | bytes l n => rfl
noncomputable def Dat.partK (d : Dat) (off size : Nat) (agg : Bool) : Option AV := sel agg (d.subK off size) (d.getK off)
theorem Dat.partK_eq : Dat.partK = Dat.part := funext fun d => funext fun off => funext fun size => funext fun agg => by
  rw [Dat.partK, Dat.part, Dat.subK_eq, Dat.getK_eq, sel_eq]
noncomputable def limR (k : IntKind) : Nat := IntKind.rec (motive := fun _ => Nat) 128 32768 2147483648 9223372036854775808 256 65536 4294967296 18446744073709551616 k
noncomputable def sgnR (k : IntKind) : Bool := IntKind.rec (motive := fun _ => Bool) true true true true false false false false k
noncomputable def wrapK (k : IntKind) (n : Int) : Int := Int.rec (motive := fun _ => Int) (fun m => sel (Nat.blt m (limR k)) (Int.ofNat m) (k.wrap (Int.ofNat m))) (fun m => sel (sgnR k) (sel (Nat.blt m (limR k)) (Int.negSucc m) (k.wrap (Int.negSucc m))) (k.wrap (Int.negSucc m))) n
theorem wrap_fit {k : IntKind} {n : Int} (h1 : (if sgnR k = true then -(limR k : Int) else 0) ≤ n) (h2 : n < (limR k : Int)) : k.wrap n = n := by
  cases k <;> simp [limR, sgnR] at h1 h2 <;> simp [Go.IntKind.wrap, Go.IntKind.bits, Go.IntKind.signed] <;> omega
theorem wrapK_eq : wrapK = Go.IntKind.wrap := funext fun k => funext fun n => by
  cases n with
  | ofNat m =>
    show sel (Nat.blt m (limR k)) _ _ = _
    rw [sel_eq, bltD]
    split
    · rename_i h
      simp only [decide_eq_true_eq] at h
      refine (wrap_fit ?_ ?_).symm
      · split <;> simp only [Int.ofNat_eq_natCast] <;> omega
      · simp only [Int.ofNat_eq_natCast]; omega
    · rfl
  | negSucc m =>
    show sel (sgnR k) (sel (Nat.blt m (limR k)) _ _) _ = _
    rw [sel_eq, sel_eq, bltD]
    split
    · rename_i hs
      split
      · rename_i h
        simp only [decide_eq_true_eq] at h
        refine (wrap_fit ?_ ?_).symm
        · rw [if_pos hs]; omega
        · omega
      · rfl
    · rfl
noncomputable def ltK (a b : Int) : Bool := Int.rec (motive := fun _ => Bool) (fun m => Int.rec (motive := fun _ => Bool) (fun n => Nat.blt m n) (fun _ => false) b) (fun m => Int.rec (motive := fun _ => Bool) (fun _ => true) (fun n => Nat.blt n m) b) a
theorem ltK_eq {a b : Int} : ltK a b = decide (a < b) := by
  cases a with
  | ofNat m => cases b with
    | ofNat n => show Nat.blt m n = _; rw [bltD]; exact decide_eq_decide.2 ⟨fun h => Int.ofNat_lt.2 h, fun h => Int.ofNat_lt.1 h⟩
    | negSucc n => exact (decide_eq_false (by simp only [Int.ofNat_eq_natCast]; omega)).symm
  | negSucc m => cases b with
    | ofNat n => exact (decide_eq_true (by simp only [Int.ofNat_eq_natCast]; omega)).symm
    | negSucc n => show Nat.blt n m = _; rw [bltD]; exact decide_eq_decide.2 (by omega)
noncomputable def leK (a b : Int) : Bool := Int.rec (motive := fun _ => Bool) (fun m => Int.rec (motive := fun _ => Bool) (fun n => Nat.ble m n) (fun _ => false) b) (fun m => Int.rec (motive := fun _ => Bool) (fun _ => true) (fun n => Nat.ble n m) b) a
theorem leK_eq {a b : Int} : leK a b = decide (a ≤ b) := by
  cases a with
  | ofNat m => cases b with
    | ofNat n => show Nat.ble m n = _; rw [bleD]; exact decide_eq_decide.2 ⟨fun h => Int.ofNat_le.2 h, fun h => Int.ofNat_le.1 h⟩
    | negSucc n => exact (decide_eq_false (by simp only [Int.ofNat_eq_natCast]; omega)).symm
  | negSucc m => cases b with
    | ofNat n => exact (decide_eq_true (by simp only [Int.ofNat_eq_natCast]; omega)).symm
    | negSucc n => show Nat.ble n m = _; rw [bleD]; exact decide_eq_decide.2 (by omega)
noncomputable def eqK (a b : Int) : Bool := Int.rec (motive := fun _ => Bool) (fun m => Int.rec (motive := fun _ => Bool) (fun n => Nat.beq m n) (fun _ => false) b) (fun m => Int.rec (motive := fun _ => Bool) (fun _ => false) (fun n => Nat.beq m n) b) a
theorem eqK_eq {a b : Int} : eqK a b = (a == b) := by
  rw [show (a == b) = decide (a = b) from rfl]
  cases a with
  | ofNat m => cases b with
    | ofNat n => show Nat.beq m n = _; rw [beqD]; exact decide_eq_decide.2 ⟨fun h => congrArg _ h, fun h => Int.ofNat.inj h⟩
    | negSucc n => exact (decide_eq_false (by simp only [Int.ofNat_eq_natCast]; omega)).symm
  | negSucc m => cases b with
    | ofNat n => exact (decide_eq_false (by simp only [Int.ofNat_eq_natCast]; omega)).symm
    | negSucc n => show Nat.beq m n = _; rw [beqD]; exact decide_eq_decide.2 ⟨fun h => congrArg _ h, fun h => Int.negSucc.inj h⟩
noncomputable def kindNo (k : IntKind) : Nat := IntKind.rec (motive := fun _ => Nat) 0 1 2 3 4 5 6 7 k
theorem kindNo_eq {a b : IntKind} : Nat.beq (kindNo a) (kindNo b) = decide (a = b) := by cases a <;> cases b <;> rfl
noncomputable def binIntK (op : BinOp) (k : IntKind) (a : Int) (k' : IntKind) (b : Int) : Option AV :=
  BinOp.rec (motive := fun _ => Option AV)
    (sel (Nat.beq (kindNo k) (kindNo k')) (some (.int k (wrapK k (Int.add a b)))) none)
    (sel (Nat.beq (kindNo k) (kindNo k')) (some (.int k (wrapK k (Int.sub a b)))) none)
    (sel (Nat.beq (kindNo k) (kindNo k')) (some (.int k (wrapK k (Int.mul a b)))) none)
    (binInt .quo k a k' b) (binInt .rem k a k' b) (binInt .and k a k' b) (binInt .or k a k' b) (binInt .xor k a k' b) (binInt .shl k a k' b) (binInt .shr k a k' b) (binInt .andNot k a k' b)
    (sel (Nat.beq (kindNo k) (kindNo k')) (some (.bool (eqK a b))) none)
    (sel (Nat.beq (kindNo k) (kindNo k')) (some (.bool (Bool.not (eqK a b)))) none)
    (sel (Nat.beq (kindNo k) (kindNo k')) (some (.bool (ltK a b))) none)
    (sel (Nat.beq (kindNo k) (kindNo k')) (some (.bool (leK a b))) none)
    (sel (Nat.beq (kindNo k) (kindNo k')) (some (.bool (ltK b a))) none)
    (sel (Nat.beq (kindNo k) (kindNo k')) (some (.bool (leK b a))) none) op
theorem binIntK_eq {op : BinOp} {k k' : IntKind} {a b : Int} : binIntK op k a k' b = binInt op k a k' b := by
  cases op <;> simp only [binIntK, binInt, sel_eq, kindNo_eq, wrapK_eq, eqK_eq, ltK_eq, leK_eq, decide_eq_true_eq, ne_eq, ite_not] <;> rfl
end Go.Proofs.YtljemfeohhgncaaGreat
