/- BY PROGRAM (wip/tool/print2.lean): the abstract machine's code of the program's functions. -/
import Derived.Test.YtjdemlagmamlbaaCodeA
import Derived.Test.YtjdemlagmamlbaaProg
namespace Go.Proofs.Ytjdemlagmamlbaa

/-- live: [0, 2, 3, 11, 12, 14, 15] -/
def c_ref13_Pool_Copy_L0 : ACode :=
 .seq (.seq (.region [I 49 (.mv) [T 15],
   I 50 (.mv) [T 3],
   I 51 (.bin .lss) [T 49, T 50]])
 (.cond (T 51)
 (.skip)
 (.exit 0)))
 (.seq (.block 1 (.seq (.draw [[⟨0, I 54 (.mv) [T 0], [], false⟩,
   ⟨1, I 55 (.mv) [T 12], [], false⟩,
   ⟨6, I 60 (.mv) [T 15], [], false⟩,
   ⟨7, I 61 (.mv) [T 2], [], false⟩,
   ⟨8, I 62 (.bin .sub) [T 60, T 61], [], false⟩,
   ⟨9, I 63 (.mv) [T 11], [], false⟩,
   ⟨10, I 64 (.nilCheck) [T 63], [], false⟩,
   ⟨11, I 65 (.fieldAddr 1) [T 64], [], false⟩,
   ⟨12, I 66 (.load1) [T 65], [], false⟩,
   ⟨13, I 67 (.mv) [T 15], [], false⟩,
   ⟨14, I 68 (.indexs 1) [T 66, T 67], [], false⟩,
   ⟨15, I 69 (.load1) [T 68], [], false⟩,
   ⟨2, I 56 (.callv) [F 95, T 54, T 55], [(12, I 66 (.load1) [T 65]), (15, I 69 (.load1) [T 68])], false⟩,
   ⟨3, I 57 (.nilCheck) [T 56], [], false⟩,
   ⟨4, I 58 (.fieldAddr 1) [T 57], [], false⟩,
   ⟨5, I 59 (.load1) [T 58], [], false⟩,
   ⟨16, I 70 (.indexs 1) [T 59, T 62], [], false⟩,
   ⟨17, J (.store 1) [T 70, T 69], [], false⟩]])
 (.seq (.region [I 71 (.mv) [T 11],
   I 72 (.nilCheck) [T 71],
   I 73 (.fieldAddr 1) [T 72],
   I 74 (.load1) [T 73],
   I 75 (.mv) [T 15],
   I 76 (.indexs 1) [T 74, T 75],
   I 77 (.load1) [T 76],
   I 78 (.bin .neq) [T 77, N 0]])
 (.cond (T 78)
 (.region [I 79 (.mv) [T 14],
    I 80 (.mv) [T 11],
    I 81 (.nilCheck) [T 80],
    I 82 (.fieldAddr 1) [T 81],
    I 83 (.load1) [T 82],
    I 84 (.mv) [T 15],
    I 85 (.indexs 1) [T 83, T 84],
    I 86 (.load1) [T 85],
    I 87 (.bslice 3 1 1 (.vals [(.int .i64 0)]) [0]) [T 86],
    I 88 (.append 3 1 8 (.vals [(.int .i64 0)])) [T 79, T 87],
    I 14 (.mv) [T 88]])
 (.skip)))))
 (.region [I 52 (.mv) [T 15],
   I 53 (.bin .add) [T 52, N 1],
   I 15 (.mv) [T 53]]))
def c_ref13_Pool_Copy : AFn := ⟨91, [.tmp 8, .tmp 9, .tmp 10],
 .seq (.region [I 8 (.mv) [N 0],
   I 9 (.mv) [.lit .nilsl],
   I 10 (.mv) [N 0]])
 (.seq (.region [I 16 (.mv) [T 0],
   I 17 (.mv) [T 1],
   I 18 (.callv) [F 95, T 16, T 17],
   I 11 (.mv) [T 18]])
 (.seq (.seq (.region [I 19 (.mv) [T 11],
   I 20 (.eqv false .ptr) [T 19, .lit .nilptr]])
 (.cond (T 20)
 (.seq (.region [I 8 (.mv) [N 0],
    I 9 (.mv) [.lit .nilsl],
    I 10 (.mv) [N 7]])
  (.ret))
 (.skip)))
 (.seq (.seq (.region [I 21 (.mv) [T 2],
   I 22 (.bin .lss) [T 21, N 0],
   I 23 (.mv) [T 22],
   IG 24 (.mv) [T 2] 23 false,
   IG 25 (.mv) [T 3] 23 false,
   IG 26 (.bin .geq) [T 24, T 25] 23 false,
   I 27 (.pick) [T 23, .lit (.bool true), T 26],
   I 28 (.mv) [T 27],
   IG 29 (.mv) [T 3] 28 false,
   IG 30 (.mv) [T 11] 28 false,
   IG 31 (.nilCheck) [T 30] 28 false,
   IG 32 (.fieldAddr 1) [T 31] 28 false,
   IG 33 (.load1) [T 32] 28 false,
   IG 34 (.lens) [T 33] 28 false,
   IG 35 (.bin .gtr) [T 29, T 34] 28 false,
   I 36 (.pick) [T 28, .lit (.bool true), T 35]])
 (.cond (T 36)
 (.seq (.region [I 8 (.mv) [N 0],
    I 9 (.mv) [.lit .nilsl],
    I 10 (.mv) [N 2]])
  (.ret))
 (.skip)))
 (.seq (.region [I 38 (.mv) [T 0],
   I 39 (.mv) [T 3],
   I 40 (.mv) [T 2],
   I 41 (.bin .sub) [T 39, T 40],
   I 42 (.callv) [F 90, T 38, T 41],
   I 37 (.mv) [T 42],
   I 43 (.extract 0) [T 37],
   I 44 (.extract 1) [T 37],
   I 12 (.mv) [T 43],
   I 13 (.mv) [T 44]])
 (.seq (.seq (.region [I 45 (.mv) [T 13],
   I 46 (.bin .neq) [T 45, N 0]])
 (.cond (T 46)
 (.seq (.region [I 47 (.mv) [T 13],
    I 8 (.mv) [N 0],
    I 9 (.mv) [.lit .nilsl],
    I 10 (.mv) [T 47]])
  (.ret))
 (.skip)))
 (.seq (.region [I 14 (.mv) [.lit .nilsl]])
 (.seq (.seq (.region [I 48 (.mv) [T 2],
   I 15 (.mv) [T 48]])
 (.block 0 (.loop c_ref13_Pool_Copy_L0)))
 (.seq (.region [I 89 (.mv) [T 12],
   I 90 (.mv) [T 14],
   I 8 (.mv) [T 89],
   I 9 (.mv) [T 90],
   I 10 (.mv) [N 0]])
 (.ret)))))))))⟩
theorem t94 : trFn Try.prog Try.f94 = some c_ref13_Pool_Copy := by kernel_rfl

/-- (*pantry/pantryref13.Pool).Of -/
abbrev n_ref13_Pool_Of : Nat := 95
def c_ref13_Pool_Of : AFn := ⟨24, [.tmp 4],
 .seq (.region [I 4 (.mv) [.lit .nilptr]])
 (.seq (.seq (.region [I 5 (.mv) [T 1],
   I 6 (.bin .lss) [T 5, N 1],
   I 7 (.mv) [T 6],
   IG 8 (.mv) [T 1] 7 false,
   IG 9 (.mv) [T 0] 7 false,
   IG 10 (.nilCheck) [T 9] 7 false,
   IG 11 (.fieldAddr 1) [T 10] 7 false,
   IG 12 (.load1) [T 11] 7 false,
   IG 13 (.lens) [T 12] 7 false,
   IG 14 (.bin .gtr) [T 8, T 13] 7 false,
   I 15 (.pick) [T 7, .lit (.bool true), T 14]])
 (.cond (T 15)
 (.seq (.region [I 4 (.mv) [.lit .nilptr]])
  (.ret))
 (.skip)))
 (.seq (.region [I 16 (.mv) [T 0],
   I 17 (.nilCheck) [T 16],
   I 18 (.fieldAddr 1) [T 17],
   I 19 (.load1) [T 18],
   I 20 (.mv) [T 1],
   I 21 (.bin .sub) [T 20, N 1],
   I 22 (.indexs 1) [T 19, T 21],
   I 23 (.load1) [T 22],
   I 4 (.mv) [T 23]])
 (.ret)))⟩
theorem t95 : trFn Try.prog Try.f95 = some c_ref13_Pool_Of := by kernel_rfl

/-- (*pantry/pantryref13.Pool).Slots -/
abbrev n_ref13_Pool_Slots : Nat := 96
def c_ref13_Pool_Slots : AFn := ⟨16, [.tmp 4],
 .seq (.region [I 4 (.mv) [N 0]])
 (.seq (.seq (.region [I 6 (.mv) [T 0],
   I 7 (.mv) [T 1],
   I 8 (.callv) [F 95, T 6, T 7],
   I 5 (.mv) [T 8]])
 (.seq (.region [I 9 (.mv) [T 5],
   I 10 (.eqv true .ptr) [T 9, .lit .nilptr]])
 (.cond (T 10)
 (.seq (.region [I 11 (.mv) [T 5],
    I 12 (.nilCheck) [T 11],
    I 13 (.fieldAddr 1) [T 12],
    I 14 (.load1) [T 13],
    I 15 (.lens) [T 14],
    I 4 (.mv) [T 15]])
  (.ret))
 (.skip))))
 (.seq (.region [I 4 (.mv) [N 0]])
 (.ret)))⟩
theorem t96 : trFn Try.prog Try.f96 = some c_ref13_Pool_Slots := by kernel_rfl

/-- (*pantry/pantryref13.Pool).Cover -/
abbrev n_ref13_Pool_Cover : Nat := 97
def c_ref13_Pool_Cover : AFn := ⟨28, [.tmp 6],
 .seq (.region [I 6 (.mv) [N 0]])
 (.seq (.region [I 8 (.mv) [T 0],
   I 9 (.mv) [T 1],
   I 10 (.callv) [F 95, T 8, T 9],
   I 7 (.mv) [T 10]])
 (.seq (.seq (.region [I 11 (.mv) [T 7],
   I 12 (.eqv false .ptr) [T 11, .lit .nilptr],
   I 13 (.mv) [T 12],
   IG 14 (.mv) [T 7] 13 false,
   IG 15 (.nilCheck) [T 14] 13 false,
   IG 16 (.fieldAddr 0) [T 15] 13 false,
   IG 17 (.load1) [T 16] 13 false,
   IG 18 (.mv) [T 2] 13 false,
   IG 19 (.callv) [F 71, T 17, T 18] 13 false,
   IG 20 (.bin .lss) [T 19, N 0] 13 false,
   I 21 (.pick) [T 13, .lit (.bool true), T 20]])
 (.cond (T 21)
 (.seq (.region [I 6 (.mv) [N 0]])
  (.ret))
 (.skip)))
 (.seq (.region [I 22 (.mv) [T 7],
   I 23 (.nilCheck) [T 22],
   I 24 (.fieldAddr 0) [T 23],
   I 25 (.load1) [T 24],
   I 26 (.mv) [T 2],
   I 27 (.callv) [F 71, T 25, T 26],
   I 6 (.mv) [T 27]])
 (.ret))))⟩
theorem t97 : trFn Try.prog Try.f97 = some c_ref13_Pool_Cover := by kernel_rfl

/-- (*pantry/pantryref13.Pool).Get -/
abbrev n_ref13_Pool_Get : Nat := 98
def c_ref13_Pool_Get : AFn := ⟨25, [.tmp 6],
 .seq (.region [I 6 (.mv) [N 0]])
 (.seq (.seq (.region [I 7 (.mv) [T 2],
   I 8 (.bin .lss) [T 7, N 0],
   I 9 (.mv) [T 8],
   IG 10 (.mv) [T 2] 9 false,
   IG 11 (.mv) [T 0] 9 false,
   IG 12 (.mv) [T 1] 9 false,
   IG 13 (.callv) [F 96, T 11, T 12] 9 false,
   IG 14 (.bin .geq) [T 10, T 13] 9 false,
   I 15 (.pick) [T 9, .lit (.bool true), T 14]])
 (.cond (T 15)
 (.seq (.region [I 6 (.mv) [N 0]])
  (.ret))
 (.skip)))
 (.seq (.region [I 16 (.mv) [T 0],
   I 17 (.mv) [T 1],
   I 18 (.callv) [F 95, T 16, T 17],
   I 19 (.nilCheck) [T 18],
   I 20 (.fieldAddr 1) [T 19],
   I 21 (.load1) [T 20],
   I 22 (.mv) [T 2],
   I 23 (.indexs 1) [T 21, T 22],
   I 24 (.load1) [T 23],
   I 6 (.mv) [T 24]])
 (.ret)))⟩
theorem t98 : trFn Try.prog Try.f98 = some c_ref13_Pool_Get := by kernel_rfl

/-- (*pantry/pantryref13.Pool).Ids -/
abbrev n_ref13_Pool_Ids : Nat := 99
/-- live: [3, 9, 10, 11] -/
def c_ref13_Pool_Ids_L0 : ACode :=
 .seq (.region [I 12 (.bin .lss) [T 11, T 10]])
 (.seq (.cond (T 12)
 (.skip)
 (.exit 0))
 (.seq (.block 1 (.seq (.region [I 13 (.mv) [T 11],
   I 14 (.indexs 1) [T 9, T 11],
   I 15 (.load1) [T 14],
   I 4 (.mv) [T 13],
   I 5 (.mv) [T 15]])
 (.seq (.region [I 16 (.mv) [T 5],
   I 17 (.eqv true .ptr) [T 16, .lit .nilptr]])
 (.cond (T 17)
 (.region [I 18 (.mv) [T 3],
    I 19 (.mv) [T 4],
    I 20 (.bin .add) [T 19, N 1],
    I 21 (.bslice 3 1 1 (.vals [(.int .i64 0)]) [0]) [T 20],
    I 22 (.append 3 1 8 (.vals [(.int .i64 0)])) [T 18, T 21],
    I 3 (.mv) [T 22]])
 (.skip)))))
 (.region [I 23 (.bin .add) [T 11, N 1],
   I 11 (.mv) [T 23]])))
def c_ref13_Pool_Ids : AFn := ⟨25, [.tmp 2],
 .seq (.region [I 2 (.mv) [.lit .nilsl]])
 (.seq (.region [I 3 (.mv) [.lit .nilsl]])
 (.seq (.seq (.region [I 6 (.mv) [T 0],
   I 7 (.nilCheck) [T 6],
   I 8 (.fieldAddr 1) [T 7],
   I 9 (.load1) [T 8],
   I 10 (.lens) [T 9],
   I 11 (.mv) [N 0]])
 (.block 0 (.loop c_ref13_Pool_Ids_L0)))
 (.seq (.region [I 24 (.mv) [T 3],
   I 2 (.mv) [T 24]])
 (.ret))))⟩
theorem t99 : trFn Try.prog Try.f99 = some c_ref13_Pool_Ids := by kernel_rfl

/-- pantry/pantrylaw13.used -/
abbrev n_law13_used : Nat := 100
/-- live: [5, 8] -/
def c_law13_used_A0 : ACode :=
 .seq (.region [I 9 (.mv) [T 18]])
 (.region [I 10 (.mv) [T 19]])
def c_law13_used_B0 : ACode :=
 .block 1 (.seq (.seq (.region [I 20 (.load1) [T 5],
   I 21 (.bin .geq) [T 20, N 0],
   I 22 (.mv) [T 21],
   IG 23 (.load1) [T 8] 22 true,
   IG 24 (.lens) [T 23] 22 true,
   IG 25 (.load1) [T 5] 22 true,
   IG 26 (.bin .mul) [N 2, T 25] 22 true,
   IG 27 (.bin .geq) [T 24, T 26] 22 true,
   I 28 (.pick) [T 22, T 27, .lit (.bool false)]])
 (.cond (T 28)
 (.exit 0)
 (.skip)))
 (.region [I 29 (.load1) [T 8],
   I 30 (.mv) [T 9],
   I 31 (.mv) [T 10],
   I 32 (.bslice 3 1 2 (.vals [(.int .i64 0)]) [0, 1]) [T 30, T 31],
   I 33 (.append 3 1 8 (.vals [(.int .i64 0)])) [T 29, T 32],
   J (.store 1) [T 8, T 33]]))
def c_law13_used : AFn := ⟨35, [.tmp 6],
 .seq (.region [I 5 (.box 3 1) [T 2],
   I 6 (.mv) [.lit .nilsl]])
 (.seq (.region [I 11 (.mv) [T 0],
   I 12 (.mv) [T 1],
   I 13 (.callv) [F 122, T 11, T 12],
   I 7 (.mv) [T 13]])
 (.seq (.seq (.region [I 14 (.mv) [T 7],
   I 15 (.eqv false .func) [T 14, .lit .nilfunc]])
 (.cond (T 15)
 (.seq (.region [I 16 (.bslice 3 1 1 (.vals [(.int .i64 0)]) [0]) [N (-1)],
    I 6 (.mv) [T 16]])
  (.ret))
 (.skip)))
 (.seq (.region [I 8 (.alloc 77 1 (.vals [.nilsl])) []])
 (.seq (.seq (.region [I 17 (.mv) [T 7]])
 (.block 0 (.rfun (T 17) [18, 19] c_law13_used_A0 c_law13_used_B0)))
 (.seq (.region [I 34 (.load1) [T 8],
   I 6 (.mv) [T 34]])
 (.ret))))))⟩
theorem t100 : trFn Try.prog Try.f100 = some c_law13_used := by kernel_rfl

/-- (*pantry/swap.Device).may -/
abbrev n_swap_Device_may : Nat := 101
def c_swap_Device_may : AFn := ⟨26, [.tmp 6],
 .seq (.region [I 6 (.mv) [N 0]])
 (.seq (.block 0 (.seq (.region [I 8 (.mv) [T 0],
   I 9 (.callv) [F 103, T 8],
   I 10 (.un .not) [T 9],
   I 7 (.mv) [T 10]])
 (.cond (T 7)
 (.seq (.region [I 6 (.mv) [N 1]])
  (.ret))
 (.seq (.region [I 12 (.mv) [T 1],
    I 13 (.bin .lss) [T 12, N 0],
    I 14 (.mv) [T 13],
    IG 15 (.mv) [T 1] 14 false,
    IG 16 (.mv) [T 0] 14 false,
    IG 17 (.nilCheck) [T 16] 14 false,
    IG 18 (.fieldAddr 0) [T 17] 14 false,
    IG 19 (.load1) [T 18] 14 false,
    IG 20 (.bin .geq) [T 15, T 19] 14 false,
    I 21 (.pick) [T 14, .lit (.bool true), T 20],
    I 22 (.mv) [T 21],
    IG 23 (.mv) [T 2] 22 false,
    IG 24 (.un .not) [T 23] 22 false,
    I 25 (.pick) [T 22, .lit (.bool true), T 24],
    I 11 (.mv) [T 25]])
  (.cond (T 11)
  (.seq (.region [I 6 (.mv) [N 2]])
   (.ret))
  (.skip))))))
 (.seq (.region [I 6 (.mv) [N 0]])
 (.ret)))⟩
theorem t101 : trFn Try.prog Try.f101 = some c_swap_Device_may := by kernel_rfl

/-- (*pantry/swap.plan).fails -/
abbrev n_swap_plan_fails : Nat := 102
def c_swap_plan_fails : AFn := ⟨27, [.tmp 2],
 .seq (.region [I 2 (.mv) [.lit (.bool false)]])
 (.seq (.region [I 3 (.mv) [T 0],
   I 4 (.nilCheck) [T 3],
   I 5 (.fieldAddr 0) [T 4],
   I 6 (.load1) [T 5],
   I 7 (.bin .add) [T 6, N 1],
   I 8 (.nilCheck) [T 3],
   I 9 (.fieldAddr 0) [T 8],
   J (.store 1) [T 9, T 7]])
 (.seq (.seq (.region [I 10 (.mv) [T 0],
   I 11 (.nilCheck) [T 10],
   I 12 (.fieldAddr 1) [T 11],
   I 13 (.load1) [T 12],
   I 14 (.bin .eql) [T 13, N 0]])
 (.cond (T 14)
 (.seq (.region [I 2 (.mv) [.lit (.bool false)]])
  (.ret))
 (.skip)))
 (.seq (.region [I 15 (.mv) [T 0],
   I 16 (.nilCheck) [T 15],
   I 17 (.fieldAddr 1) [T 16],
   I 18 (.load1) [T 17],
   I 19 (.bin .sub) [T 18, N 1],
   I 20 (.nilCheck) [T 15],
   I 21 (.fieldAddr 1) [T 20],
   J (.store 1) [T 21, T 19]])
 (.seq (.region [I 22 (.mv) [T 0],
   I 23 (.nilCheck) [T 22],
   I 24 (.fieldAddr 1) [T 23],
   I 25 (.load1) [T 24],
   I 26 (.bin .eql) [T 25, N 0],
   I 2 (.mv) [T 26]])
 (.ret)))))⟩
theorem t102 : trFn Try.prog Try.f102 = some c_swap_plan_fails := by kernel_rfl

/-- (*pantry/swap.Device).made -/
abbrev n_swap_Device_made : Nat := 103
def c_swap_Device_made : AFn := ⟨11, [.tmp 2],
 .seq (.region [I 2 (.mv) [.lit (.bool false)]])
 (.seq (.region [I 3 (.mv) [T 0],
   I 4 (.eqv true .ptr) [T 3, .lit .nilptr],
   I 5 (.mv) [T 4],
   IG 6 (.mv) [T 0] 5 true,
   IG 7 (.nilCheck) [T 6] 5 true,
   IG 8 (.fieldAddr 1) [T 7] 5 true,
   IG 9 (.load1) [T 8] 5 true,
   I 10 (.pick) [T 5, T 9, .lit (.bool false)],
   I 2 (.mv) [T 10]])
 (.ret))⟩
theorem t103 : trFn Try.prog Try.f103 = some c_swap_Device_made := by kernel_rfl

/-- (*pantry/pantryref09.Device).fails -/
abbrev n_ref09_Device_fails : Nat := 104
def c_ref09_Device_fails : AFn := ⟨39, [.tmp 4],
 .seq (.region [I 4 (.mv) [.lit (.bool false)]])
 (.seq (.draw [[⟨0, I 5 (.mv) [T 0], [], false⟩,
   ⟨1, I 6 (.mv) [T 1], [], false⟩,
   ⟨2, I 7 (.nilCheck) [T 5], [], false⟩,
   ⟨3, I 8 (.fieldAddr 3) [T 7], [], false⟩,
   ⟨4, I 9 (.indexa 2 1) [T 8, T 6], [], false⟩,
   ⟨5, I 10 (.load1) [T 9], [], false⟩,
   ⟨6, I 11 (.bin .add) [T 10, N 1], [], false⟩,
   ⟨7, I 12 (.nilCheck) [T 5], [], false⟩,
   ⟨8, I 13 (.fieldAddr 3) [T 12], [], false⟩,
   ⟨9, I 14 (.indexa 2 1) [T 13, T 6], [], false⟩,
   ⟨10, J (.store 1) [T 14, T 11], [], false⟩]])
 (.seq (.seq (.region [I 15 (.mv) [T 0],
   I 16 (.mv) [T 1],
   I 17 (.nilCheck) [T 15],
   I 18 (.fieldAddr 1) [T 17],
   I 19 (.indexa 2 1) [T 18, T 16],
   I 20 (.load1) [T 19],
   I 21 (.bin .eql) [T 20, N 0]])
 (.cond (T 21)
 (.seq (.region [I 4 (.mv) [.lit (.bool false)]])
  (.ret))
 (.skip)))
 (.seq (.draw [[⟨0, I 22 (.mv) [T 0], [], false⟩,
   ⟨1, I 23 (.mv) [T 1], [], false⟩,
   ⟨2, I 24 (.nilCheck) [T 22], [], false⟩,
   ⟨3, I 25 (.fieldAddr 1) [T 24], [], false⟩,
   ⟨4, I 26 (.indexa 2 1) [T 25, T 23], [], false⟩,
   ⟨5, I 27 (.load1) [T 26], [], false⟩,
   ⟨6, I 28 (.bin .sub) [T 27, N 1], [], false⟩,
   ⟨7, I 29 (.nilCheck) [T 22], [], false⟩,
   ⟨8, I 30 (.fieldAddr 1) [T 29], [], false⟩,
   ⟨9, I 31 (.indexa 2 1) [T 30, T 23], [], false⟩,
   ⟨10, J (.store 1) [T 31, T 28], [], false⟩]])
 (.seq (.region [I 32 (.mv) [T 0],
   I 33 (.mv) [T 1],
   I 34 (.nilCheck) [T 32],
   I 35 (.fieldAddr 1) [T 34],
   I 36 (.indexa 2 1) [T 35, T 33],
   I 37 (.load1) [T 36],
   I 38 (.bin .eql) [T 37, N 0],
   I 4 (.mv) [T 38]])
 (.ret)))))⟩
theorem t104 : trFn Try.prog Try.f104 = some c_ref09_Device_fails := by kernel_rfl

/-- (*pantry/file.Store).made -/
abbrev n_file_Store_made : Nat := 105
def c_file_Store_made : AFn := ⟨11, [.tmp 2],
 .seq (.region [I 2 (.mv) [.lit (.bool false)]])
 (.seq (.region [I 3 (.mv) [T 0],
   I 4 (.eqv true .ptr) [T 3, .lit .nilptr],
   I 5 (.mv) [T 4],
   IG 6 (.mv) [T 0] 5 true,
   IG 7 (.nilCheck) [T 6] 5 true,
   IG 8 (.fieldAddr 0) [T 7] 5 true,
   IG 9 (.load1) [T 8] 5 true,
   I 10 (.pick) [T 5, T 9, .lit (.bool false)],
   I 2 (.mv) [T 10]])
 (.ret))⟩
theorem t105 : trFn Try.prog Try.f105 = some c_file_Store_made := by kernel_rfl

/-- (*pantry/file.Store).at -/
abbrev n_file_Store_at : Nat := 106
def c_file_Store_at : AFn := ⟨57, [.cell 8 (.loadn 2), .tmp 9],
 .seq (.region [I 8 (.alloc 164 2 (.vals [(.int .i64 0), (.int .i64 0)])) [],
   I 9 (.mv) [N 0]])
 (.seq (.region [I 13 (.mv) [T 0],
   I 14 (.mv) [T 1],
   I 15 (.callv) [F 107, T 13, T 14],
   I 12 (.mv) [T 15],
   I 16 (.extract 0) [T 12],
   I 17 (.extract 1) [T 12],
   I 10 (.mv) [T 16],
   I 11 (.mv) [T 17]])
 (.seq (.block 0 (.seq (.region [I 19 (.mv) [T 11],
   I 20 (.bin .neq) [T 19, N 0],
   I 18 (.mv) [T 20]])
 (.cond (T 18)
 (.seq (.region [I 21 (.build (.agg [(.int .i64 0), (.int .i64 0)]) []) [],
    I 22 (.mv) [T 11],
    J (.store 2) [T 8, T 21],
    I 9 (.mv) [T 22]])
  (.ret))
 (.seq (.region [I 24 (.mv) [T 2],
    I 25 (.bin .lss) [T 24, N 0],
    I 26 (.mv) [T 25],
    IG 27 (.mv) [T 2] 26 false,
    IG 28 (.mv) [T 10] 26 false,
    IG 29 (.bin .geq) [T 27, T 28] 26 false,
    I 30 (.pick) [T 26, .lit (.bool true), T 29],
    I 31 (.mv) [T 30],
    IG 32 (.mv) [T 3] 31 false,
    IG 33 (.un .not) [T 32] 31 false,
    I 34 (.pick) [T 31, .lit (.bool true), T 33],
    I 23 (.mv) [T 34]])
  (.cond (T 23)
  (.seq (.region [I 35 (.build (.agg [(.int .i64 0), (.int .i64 0)]) []) [],
     J (.store 2) [T 8, T 35],
     I 9 (.mv) [N 2]])
   (.ret))
  (.skip))))))
 (.seq (.seq (.region [I 36 (.mv) [T 0],
   I 37 (.nilCheck) [T 36],
   I 38 (.fieldAddr 3) [T 37],
   I 39 (.load1) [T 38],
   I 40 (.bin .gtr) [T 39, N 0]])
 (.cond (T 40)
 (.seq (.region [I 41 (.mv) [T 0],
    I 42 (.nilCheck) [T 41],
    I 43 (.fieldAddr 3) [T 42],
    I 44 (.load1) [T 43],
    I 45 (.bin .sub) [T 44, N 1],
    I 46 (.nilCheck) [T 41],
    I 47 (.fieldAddr 3) [T 46],
    J (.store 1) [T 47, T 45]])
  (.seq (.region [I 48 (.mv) [T 0],
    I 49 (.nilCheck) [T 48],
    I 50 (.fieldAddr 3) [T 49],
    I 51 (.load1) [T 50],
    I 52 (.bin .eql) [T 51, N 0]])
  (.cond (T 52)
  (.seq (.region [I 53 (.build (.agg [(.int .i64 0), (.int .i64 0)]) []) [],
     J (.store 2) [T 8, T 53],
     I 9 (.mv) [N 6]])
   (.ret))
  (.skip))))
 (.skip)))
 (.seq (.region [I 54 (.mv) [T 1],
   I 55 (.mv) [T 2],
   I 56 (.build (.agg [(.int .i64 0), (.int .i64 0)]) [(0, 1), (1, 1)]) [T 54, T 55],
   J (.store 2) [T 8, T 56],
   I 9 (.mv) [N 0]])
 (.ret)))))⟩
theorem t106 : trFn Try.prog Try.f106 = some c_file_Store_at := by kernel_rfl

/-- (*pantry/file.Store).known -/
abbrev n_file_Store_known : Nat := 107
def c_file_Store_known : AFn := ⟨20, [.tmp 4, .tmp 5],
 .seq (.region [I 4 (.mv) [N 0],
   I 5 (.mv) [N 0]])
 (.seq (.seq (.region [I 8 (.mv) [T 0],
   I 9 (.callv) [F 105, T 8],
   I 10 (.un .not) [T 9]])
 (.cond (T 10)
 (.seq (.region [I 4 (.mv) [N 0],
    I 5 (.mv) [N 1]])
  (.ret))
 (.skip)))
 (.seq (.region [I 12 (.mv) [T 0],
   I 13 (.mv) [T 1],
   I 14 (.callv) [F 49, T 12, T 13],
   I 11 (.mv) [T 14],
   I 15 (.extract 0) [T 11],
   I 16 (.extract 1) [T 11],
   I 6 (.mv) [T 15],
   I 7 (.mv) [T 16]])
 (.seq (.seq (.region [I 17 (.mv) [T 7],
   I 18 (.un .not) [T 17]])
 (.cond (T 18)
 (.seq (.region [I 4 (.mv) [N 0],
    I 5 (.mv) [N 7]])
  (.ret))
 (.skip)))
 (.seq (.region [I 19 (.mv) [T 6],
   I 4 (.mv) [T 19],
   I 5 (.mv) [N 0]])
 (.ret)))))⟩
theorem t107 : trFn Try.prog Try.f107 = some c_file_Store_known := by kernel_rfl

/-- maps.DeleteFunc[map[pantry/file.place][4096]byte,pantry/file.place,[4096]byte] -/
abbrev n_maps_DeleteFunc_map_file_place_4096_byte_file_place_4096_byte : Nat := 108
/-- live: [0, 1, 7] -/
def c_maps_DeleteFunc_map_file_place_4096_byte_file_place_4096_byte_L0 : ACode :=
 .seq (.region [I 8 (.next) [T 7],
   I 9 (.extract 0) [T 8]])
 (.seq (.cond (T 9)
 (.skip)
 (.exit 0))
 (.block 1 (.seq (.region [I 10 (.entry) [T 7],
   I 11 (.extract 0) [T 10],
   I 12 (.extract 1) [T 10],
   I 4 (.alloc 164 2 (.vals [(.int .i64 0), (.int .i64 0)])) [],
   I 5 (.alloc 160 4096 (.bytes 4096 0)) [],
   J (.store 2) [T 4, T 11],
   J (.store 4096) [T 5, T 12]])
 (.seq (.region [I 13 (.mv) [T 1],
   I 14 (.loadn 2) [T 4],
   I 15 (.loadn 4096) [T 5],
   I 16 (.callv) [T 13, T 14, T 15]])
 (.cond (T 16)
 (.region [I 17 (.mv) [T 0],
    I 18 (.loadn 2) [T 4],
    J (.delete (.flat [.int, .int])) [T 17, T 18]])
 (.skip))))))
def c_maps_DeleteFunc_map_file_place_4096_byte_file_place_4096_byte : AFn := ⟨19, [],
 .seq (.region [I 6 (.mv) [T 0],
   I 7 (.range) [T 6]])
 (.block 0 (.loop c_maps_DeleteFunc_map_file_place_4096_byte_file_place_4096_byte_L0))⟩
theorem t108 : trFn Try.prog Try.f108 = some c_maps_DeleteFunc_map_file_place_4096_byte_file_place_4096_byte := by kernel_rfl

/-- (*pantry/file.Store).Resize$1 -/
abbrev n_file_Store_Resize_1 : Nat := 109
def c_file_Store_Resize_1 : AFn := ⟨17, [.tmp 6],
 .seq (.region [I 4 (.box 164 2) [T 0],
   I 5 (.box 160 4096) [T 1],
   I 6 (.mv) [.lit (.bool false)]])
 (.seq (.region [I 7 (.fieldAddr 0) [T 4],
   I 8 (.load1) [T 7],
   I 9 (.load1) [T 2],
   I 10 (.bin .eql) [T 8, T 9],
   I 11 (.mv) [T 10],
   IG 12 (.fieldAddr 1) [T 4] 11 true,
   IG 13 (.load1) [T 12] 11 true,
   IG 14 (.load1) [T 3] 11 true,
   IG 15 (.bin .geq) [T 13, T 14] 11 true,
   I 16 (.pick) [T 11, T 15, .lit (.bool false)],
   I 6 (.mv) [T 16]])
 (.ret))⟩
theorem t109 : trFn Try.prog Try.f109 = some c_file_Store_Resize_1 := by kernel_rfl

/-- (*pantry/pantryref10.Store).without -/
abbrev n_ref10_Store_without : Nat := 110
/-- live: [1, 2, 3, 9, 15, 16, 17] -/
def c_ref10_Store_without_L0 : ACode :=
 .seq (.region [I 18 (.bin .lss) [T 17, T 16]])
 (.seq (.cond (T 18)
 (.skip)
 (.exit 0))
 (.seq (.block 1 (.seq (.region [I 19 (.indexs 3) [T 15, T 17],
   I 20 (.loadn 3) [T 19],
   I 11 (.alloc 171 3 (.vals [(.int .i64 0), (.int .i64 0), .nilsl])) [],
   J (.store 3) [T 11, T 20]])
 (.seq (.region [I 21 (.fieldAddr 0) [T 11],
   I 22 (.load1) [T 21],
   I 23 (.mv) [T 1],
   I 24 (.bin .eql) [T 22, T 23],
   I 25 (.mv) [T 24],
   IG 26 (.fieldAddr 1) [T 11] 25 true,
   IG 27 (.load1) [T 26] 25 true,
   IG 28 (.mv) [T 2] 25 true,
   IG 29 (.bin .eql) [T 27, T 28] 25 true,
   IG 30 (.mv) [T 29] 25 true,
   IG 31 (.mv) [T 3] 30 false,
   IG 32 (.mv) [T 31] 30 false,
   IG 33 (.fieldAddr 1) [T 11] 32 true,
   IG 34 (.load1) [T 33] 32 true,
   IG 35 (.mv) [T 2] 32 true,
   IG 36 (.bin .geq) [T 34, T 35] 32 true,
   IG 37 (.pick) [T 32, T 36, .lit (.bool false)] 30 false,
   IG 38 (.pick) [T 30, .lit (.bool true), T 37] 25 true,
   I 39 (.pick) [T 25, T 38, .lit (.bool false)],
   I 40 (.un .not) [T 39]])
 (.cond (T 40)
 (.region [I 41 (.mv) [T 9],
    I 42 (.loadn 3) [T 11],
    I 43 (.bslice 171 3 1 (.vals [(.int .i64 0), (.int .i64 0), .nilsl]) [0]) [T 42],
    I 44 (.append 171 3 40 (.vals [(.int .i64 0), (.int .i64 0), .nilsl])) [T 41, T 43],
    I 9 (.mv) [T 44]])
 (.skip)))))
 (.region [I 45 (.bin .add) [T 17, N 1],
   I 17 (.mv) [T 45]])))
def c_ref10_Store_without : AFn := ⟨47, [.tmp 8],
 .seq (.region [I 8 (.mv) [.lit .nilsl]])
 (.seq (.region [I 9 (.mv) [.lit .nilsl]])
 (.seq (.seq (.region [I 12 (.mv) [T 0],
   I 13 (.nilCheck) [T 12],
   I 14 (.fieldAddr 1) [T 13],
   I 15 (.load1) [T 14],
   I 16 (.lens) [T 15],
   I 17 (.mv) [N 0]])
 (.block 0 (.loop c_ref10_Store_without_L0)))
 (.seq (.region [I 46 (.mv) [T 9],
   I 8 (.mv) [T 46]])
 (.ret))))⟩
theorem t110 : trFn Try.prog Try.f110 = some c_ref10_Store_without := by kernel_rfl

/-- (*pantry/pantryref10.Store).fails -/
abbrev n_ref10_Store_fails : Nat := 111
def c_ref10_Store_fails : AFn := ⟨20, [.tmp 2],
 .seq (.region [I 2 (.mv) [.lit (.bool false)]])
 (.seq (.seq (.region [I 3 (.mv) [T 0],
   I 4 (.nilCheck) [T 3],
   I 5 (.fieldAddr 2) [T 4],
   I 6 (.load1) [T 5],
   I 7 (.bin .eql) [T 6, N 0]])
 (.cond (T 7)
 (.seq (.region [I 2 (.mv) [.lit (.bool false)]])
  (.ret))
 (.skip)))
 (.seq (.region [I 8 (.mv) [T 0],
   I 9 (.nilCheck) [T 8],
   I 10 (.fieldAddr 2) [T 9],
   I 11 (.load1) [T 10],
   I 12 (.bin .sub) [T 11, N 1],
   I 13 (.nilCheck) [T 8],
   I 14 (.fieldAddr 2) [T 13],
   J (.store 1) [T 14, T 12]])
 (.seq (.region [I 15 (.mv) [T 0],
   I 16 (.nilCheck) [T 15],
   I 17 (.fieldAddr 2) [T 16],
   I 18 (.load1) [T 17],
   I 19 (.bin .eql) [T 18, N 0],
   I 2 (.mv) [T 19]])
 (.ret))))⟩
theorem t111 : trFn Try.prog Try.f111 = some c_ref10_Store_fails := by kernel_rfl

/-- (*pantry/spread.Counts).made -/
abbrev n_spread_Counts_made : Nat := 112
def c_spread_Counts_made : AFn := ⟨11, [.tmp 2],
 .seq (.region [I 2 (.mv) [.lit (.bool false)]])
 (.seq (.region [I 3 (.mv) [T 0],
   I 4 (.eqv true .ptr) [T 3, .lit .nilptr],
   I 5 (.mv) [T 4],
   IG 6 (.mv) [T 0] 5 true,
   IG 7 (.nilCheck) [T 6] 5 true,
   IG 8 (.fieldAddr 2) [T 7] 5 true,
   IG 9 (.load1) [T 8] 5 true,
   I 10 (.pick) [T 5, T 9, .lit (.bool false)],
   I 2 (.mv) [T 10]])
 (.ret))⟩
theorem t112 : trFn Try.prog Try.f112 = some c_spread_Counts_made := by kernel_rfl

/-- pantry/spread.join -/
abbrev n_spread_join : Nat := 113
/-- live: [3, 7, 8, 9] -/
def c_spread_join_L0 : ACode :=
 .seq (.region [I 10 (.bin .lss) [T 9, T 8]])
 (.seq (.cond (T 10)
 (.skip)
 (.exit 0))
 (.seq (.block 1 (.seq (.region [I 11 (.indexs 3) [T 7, T 9],
   I 12 (.loadn 3) [T 11],
   I 5 (.alloc 121 3 (.vals [(.int .i64 0), (.int .i64 0), (.int .i64 0)])) [],
   J (.store 3) [T 5, T 12]])
 (.seq (.region [I 13 (.mv) [T 3],
   I 14 (.lens) [T 13],
   I 15 (.bin .sub) [T 14, N 1],
   I 6 (.mv) [T 15]])
 (.seq (.draw [[⟨0, I 16 (.mv) [T 6], [], false⟩,
   ⟨1, I 17 (.bin .geq) [T 16, N 0], [], false⟩,
   ⟨2, I 18 (.mv) [T 17], [], false⟩,
   ⟨3, IG 19 (.mv) [T 3] 18 true, [], false⟩,
   ⟨4, IG 20 (.mv) [T 6] 18 true, [], false⟩,
   ⟨5, IG 21 (.indexs 3) [T 19, T 20] 18 true, [], false⟩,
   ⟨6, IG 22 (.fieldAddr 2) [T 21] 18 true, [], false⟩,
   ⟨7, IG 23 (.load1) [T 22] 18 true, [], false⟩,
   ⟨8, IG 24 (.fieldAddr 2) [T 5] 18 true, [], false⟩,
   ⟨9, IG 25 (.load1) [T 24] 18 true, [], false⟩,
   ⟨10, IG 26 (.bin .eql) [T 23, T 25] 18 true, [], false⟩,
   ⟨11, I 27 (.pick) [T 18, T 26, .lit (.bool false)], [], false⟩]])
 (.cond (T 27)
 (.region [I 28 (.mv) [T 3],
    I 29 (.mv) [T 6],
    I 30 (.fieldAddr 1) [T 5],
    I 31 (.load1) [T 30],
    I 32 (.indexs 3) [T 28, T 29],
    I 33 (.fieldAddr 1) [T 32],
    J (.store 1) [T 33, T 31]])
 (.region [I 34 (.mv) [T 3],
    I 35 (.loadn 3) [T 5],
    I 36 (.bslice 121 3 1 (.vals [(.int .i64 0), (.int .i64 0), (.int .i64 0)]) [0]) [T 35],
    I 37 (.append 121 3 24 (.vals [(.int .i64 0), (.int .i64 0), (.int .i64 0)])) [T 34, T 36],
    I 3 (.mv) [T 37]]))))))
 (.region [I 38 (.bin .add) [T 9, N 1],
   I 9 (.mv) [T 38]])))
def c_spread_join : AFn := ⟨40, [.tmp 2],
 .seq (.region [I 2 (.mv) [.lit .nilsl]])
 (.seq (.region [I 3 (.mv) [.lit .nilsl]])
 (.seq (.seq (.region [I 7 (.mv) [T 0],
   I 8 (.lens) [T 7],
   I 9 (.mv) [N 0]])
 (.block 0 (.loop c_spread_join_L0)))
 (.seq (.region [I 39 (.mv) [T 3],
   I 2 (.mv) [T 39]])
 (.ret))))⟩
theorem t113 : trFn Try.prog Try.f113 = some c_spread_join := by kernel_rfl

/-- slices.Clone[[]pantry/api.Run,pantry/api.Run] -/
abbrev n_slices_Clone_api_Run_api_Run : Nat := 114
def c_slices_Clone_api_Run_api_Run : AFn := ⟨8, [.tmp 2],
 .seq (.region [I 2 (.mv) [.lit .nilsl]])
 (.seq (.seq (.region [I 3 (.mv) [T 0],
   I 4 (.eqv false .slice) [T 3, .lit .nilsl]])
 (.cond (T 4)
 (.seq (.region [I 2 (.mv) [.lit .nilsl]])
  (.ret))
 (.skip)))
 (.seq (.region [I 5 (.bslice 121 3 0 (.vals [(.int .i64 0), (.int .i64 0), (.int .i64 0)]) []) [],
   I 6 (.mv) [T 0],
   I 7 (.append 121 3 24 (.vals [(.int .i64 0), (.int .i64 0), (.int .i64 0)])) [T 5, T 6],
   I 2 (.mv) [T 7]])
 (.ret)))⟩
theorem t114 : trFn Try.prog Try.f114 = some c_slices_Clone_api_Run_api_Run := by kernel_rfl

/-- (*pantry/spread.Counts).parts -/
abbrev n_spread_Counts_parts : Nat := 115
def c_spread_Counts_parts : AFn := ⟨8, [.tmp 6],
 .seq (.region [I 3 (.box 103 1) [T 0],
   I 4 (.box 3 1) [T 1],
   I 5 (.box 3 1) [T 2],
   I 6 (.mv) [.lit .nilfunc]])
 (.seq (.region [I 7 (.mkfunc 123 0) [T 3, T 4, T 5],
   I 6 (.mv) [T 7]])
 (.ret))⟩
theorem t115 : trFn Try.prog Try.f115 = some c_spread_Counts_parts := by kernel_rfl

/-- pantry/spread.split -/
abbrev n_spread_split : Nat := 116
def c_spread_split : AFn := ⟨39, [.tmp 4],
 .seq (.region [I 3 (.box 3 1) [T 1],
   I 4 (.mv) [.lit .nilsl]])
 (.seq (.region [I 8 (.mv) [T 0],
   I 9 (.mkfunc 125 0) [T 3],
   I 10 (.callv) [F 124, T 8, T 9],
   I 5 (.mv) [T 10]])
 (.seq (.seq (.region [I 11 (.mv) [T 5],
   I 12 (.bin .lss) [T 11, N 0]])
 (.cond (T 12)
 (.seq (.region [I 13 (.mv) [T 0],
    I 4 (.mv) [T 13]])
  (.ret))
 (.skip)))
 (.seq (.draw [[⟨0, I 14 (.mv) [T 0], [], false⟩,
   ⟨1, I 15 (.mv) [T 5], [], false⟩,
   ⟨2, I 16 (.indexs 3) [T 14, T 15], [], false⟩,
   ⟨3, I 17 (.loadn 3) [T 16], [], false⟩,
   ⟨4, I 18 (.mv) [T 0], [], false⟩,
   ⟨5, I 19 (.mv) [T 5], [], false⟩,
   ⟨6, I 20 (.indexs 3) [T 18, T 19], [], false⟩,
   ⟨7, I 21 (.loadn 3) [T 20], [], false⟩,
   ⟨8, I 6 (.alloc 121 3 (.vals [(.int .i64 0), (.int .i64 0), (.int .i64 0)])) [], [(3, I 17 (.loadn 3) [T 16]), (7, I 21 (.loadn 3) [T 20])], false⟩,
   ⟨9, I 7 (.alloc 121 3 (.vals [(.int .i64 0), (.int .i64 0), (.int .i64 0)])) [], [(3, I 17 (.loadn 3) [T 16]), (7, I 21 (.loadn 3) [T 20])], false⟩,
   ⟨10, J (.store 3) [T 6, T 17], [(7, I 21 (.loadn 3) [T 20])], false⟩,
   ⟨11, J (.store 3) [T 7, T 21], [], false⟩],
[⟨0, I 14 (.mv) [T 0], [], false⟩,
   ⟨1, I 15 (.mv) [T 5], [], false⟩,
   ⟨2, I 16 (.indexs 3) [T 14, T 15], [], false⟩,
   ⟨3, I 17 (.loadn 3) [T 16], [], false⟩,
   ⟨4, I 18 (.mv) [T 0], [], false⟩,
   ⟨5, I 19 (.mv) [T 5], [], false⟩,
   ⟨6, I 20 (.indexs 3) [T 18, T 19], [], false⟩,
   ⟨7, I 21 (.loadn 3) [T 20], [], false⟩,
   ⟨9, I 7 (.alloc 121 3 (.vals [(.int .i64 0), (.int .i64 0), (.int .i64 0)])) [], [(3, I 17 (.loadn 3) [T 16]), (7, I 21 (.loadn 3) [T 20])], false⟩,
   ⟨8, I 6 (.alloc 121 3 (.vals [(.int .i64 0), (.int .i64 0), (.int .i64 0)])) [], [(3, I 17 (.loadn 3) [T 16]), (7, I 21 (.loadn 3) [T 20])], false⟩,
   ⟨10, J (.store 3) [T 6, T 17], [(7, I 21 (.loadn 3) [T 20])], false⟩,
   ⟨11, J (.store 3) [T 7, T 21], [], false⟩]])
 (.seq (.draw [[⟨0, I 22 (.load1) [T 3], [], false⟩,
   ⟨1, I 23 (.load1) [T 3], [], false⟩,
   ⟨2, I 24 (.fieldAddr 1) [T 6], [], false⟩,
   ⟨3, J (.store 1) [T 24, T 22], [(1, I 23 (.load1) [T 3])], false⟩,
   ⟨4, I 25 (.fieldAddr 0) [T 7], [], false⟩,
   ⟨5, J (.store 1) [T 25, T 23], [], false⟩]])
 (.seq (.draw [[⟨0, I 26 (.mv) [T 0], [], false⟩,
   ⟨1, I 27 (.mv) [T 5], [], false⟩,
   ⟨2, I 28 (.mv) [T 5], [], false⟩,
   ⟨3, I 29 (.slice 3 false true true) [T 26, T 27, T 28], [], false⟩,
   ⟨4, I 30 (.loadn 3) [T 6], [], false⟩,
   ⟨5, I 31 (.loadn 3) [T 7], [], false⟩,
   ⟨7, I 33 (.mv) [T 0], [], false⟩,
   ⟨8, I 34 (.mv) [T 5], [], false⟩,
   ⟨9, I 35 (.bin .add) [T 34, N 1], [], false⟩,
   ⟨10, I 36 (.slice 3 true false false) [T 33, T 35], [], false⟩,
   ⟨6, I 32 (.bslice 121 3 2 (.vals [(.int .i64 0), (.int .i64 0), (.int .i64 0)]) [0, 1]) [T 30, T 31], [], false⟩,
   ⟨11, I 37 (.bslice 117 1 3 (.vals [.nilsl]) [0, 1, 2]) [T 29, T 32, T 36], [], false⟩,
   ⟨12, I 38 (.callv) [F 126, T 37], [], false⟩,
   ⟨13, I 4 (.mv) [T 38], [], false⟩]])
 (.ret))))))⟩
theorem t116 : trFn Try.prog Try.f116 = some c_spread_split := by kernel_rfl

/-- (*pantry/amap.Pool).made -/
abbrev n_amap_Pool_made : Nat := 117
def c_amap_Pool_made : AFn := ⟨11, [.tmp 2],
 .seq (.region [I 2 (.mv) [.lit (.bool false)]])
 (.seq (.region [I 3 (.mv) [T 0],
   I 4 (.eqv true .ptr) [T 3, .lit .nilptr],
   I 5 (.mv) [T 4],
   IG 6 (.mv) [T 0] 5 true,
   IG 7 (.nilCheck) [T 6] 5 true,
   IG 8 (.fieldAddr 1) [T 7] 5 true,
   IG 9 (.load1) [T 8] 5 true,
   I 10 (.pick) [T 5, T 9, .lit (.bool false)],
   I 2 (.mv) [T 10]])
 (.ret))⟩
theorem t117 : trFn Try.prog Try.f117 = some c_amap_Pool_made := by kernel_rfl

/-- slices.Index[[]*pantry/amap.one,*pantry/amap.one] -/
abbrev n_slices_Index_amap_one_amap_one : Nat := 118
/-- live: [0, 1, 7, 8] -/
def c_slices_Index_amap_one_amap_one_L0 : ACode :=
 .seq (.region [I 9 (.bin .lss) [T 8, T 7]])
 (.seq (.cond (T 9)
 (.skip)
 (.exit 0))
 (.seq (.block 1 (.seq (.region [I 10 (.mv) [T 8],
   I 5 (.mv) [T 10]])
 (.seq (.region [I 11 (.mv) [T 1],
   I 12 (.mv) [T 0],
   I 13 (.mv) [T 5],
   I 14 (.indexs 1) [T 12, T 13],
   I 15 (.load1) [T 14],
   I 16 (.eqv false .ptr) [T 11, T 15]])
 (.cond (T 16)
 (.seq (.region [I 17 (.mv) [T 5],
    I 4 (.mv) [T 17]])
  (.ret))
 (.skip)))))
 (.region [I 18 (.bin .add) [T 8, N 1],
   I 8 (.mv) [T 18]])))
def c_slices_Index_amap_one_amap_one : AFn := ⟨19, [.tmp 4],
 .seq (.region [I 4 (.mv) [N 0]])
 (.seq (.seq (.region [I 6 (.mv) [T 0],
   I 7 (.lens) [T 6],
   I 8 (.mv) [N 0]])
 (.block 0 (.loop c_slices_Index_amap_one_amap_one_L0)))
 (.seq (.region [I 4 (.mv) [N (-1)]])
 (.ret)))⟩
theorem t118 : trFn Try.prog Try.f118 = some c_slices_Index_amap_one_amap_one := by kernel_rfl

/-- (*pantry/amap.Pool).known -/
abbrev n_amap_Pool_known : Nat := 119
def c_amap_Pool_known : AFn := ⟨16, [.tmp 4, .tmp 5],
 .seq (.region [I 4 (.mv) [.lit .nilptr],
   I 5 (.mv) [N 0]])
 (.seq (.seq (.region [I 7 (.mv) [T 0],
   I 8 (.callv) [F 117, T 7],
   I 9 (.un .not) [T 8]])
 (.cond (T 9)
 (.seq (.region [I 4 (.mv) [.lit .nilptr],
    I 5 (.mv) [N 1]])
  (.ret))
 (.skip)))
 (.seq (.region [I 10 (.mv) [T 0],
   I 11 (.mv) [T 1],
   I 12 (.callv) [F 121, T 10, T 11],
   I 6 (.mv) [T 12]])
 (.seq (.seq (.region [I 13 (.mv) [T 6],
   I 14 (.eqv false .ptr) [T 13, .lit .nilptr]])
 (.cond (T 14)
 (.seq (.region [I 4 (.mv) [.lit .nilptr],
    I 5 (.mv) [N 7]])
  (.ret))
 (.skip)))
 (.seq (.region [I 15 (.mv) [T 6],
   I 4 (.mv) [T 15],
   I 5 (.mv) [N 0]])
 (.ret)))))⟩
theorem t119 : trFn Try.prog Try.f119 = some c_amap_Pool_known := by kernel_rfl

/-- (*pantry/amap.one).within -/
abbrev n_amap_one_within : Nat := 120
def c_amap_one_within : AFn := ⟨23, [.tmp 6],
 .seq (.region [I 6 (.mv) [.lit (.bool false)]])
 (.seq (.region [I 7 (.mv) [T 1],
   I 8 (.bin .geq) [T 7, N 0],
   I 9 (.mv) [T 8],
   IG 10 (.mv) [T 1] 9 true,
   IG 11 (.mv) [T 2] 9 true,
   IG 12 (.bin .lss) [T 10, T 11] 9 true,
   I 13 (.pick) [T 9, T 12, .lit (.bool false)],
   I 14 (.mv) [T 13],
   IG 15 (.mv) [T 2] 14 true,
   IG 16 (.mv) [T 0] 14 true,
   IG 17 (.nilCheck) [T 16] 14 true,
   IG 18 (.fieldAddr 1) [T 17] 14 true,
   IG 19 (.load1) [T 18] 14 true,
   IG 20 (.lens) [T 19] 14 true,
   IG 21 (.bin .leq) [T 15, T 20] 14 true,
   I 22 (.pick) [T 14, T 21, .lit (.bool false)],
   I 6 (.mv) [T 22]])
 (.ret))⟩
theorem t120 : trFn Try.prog Try.f120 = some c_amap_one_within := by kernel_rfl

/-- (*pantry/amap.Pool).of -/
abbrev n_amap_Pool_of : Nat := 121
def c_amap_Pool_of : AFn := ⟨29, [.tmp 4],
 .seq (.region [I 4 (.mv) [.lit .nilptr]])
 (.seq (.seq (.region [I 5 (.mv) [T 0],
   I 6 (.callv) [F 117, T 5],
   I 7 (.un .not) [T 6],
   I 8 (.mv) [T 7],
   IG 9 (.mv) [T 1] 8 false,
   IG 10 (.bin .lss) [T 9, N 1] 8 false,
   I 11 (.pick) [T 8, .lit (.bool true), T 10],
   I 12 (.mv) [T 11],
   IG 13 (.mv) [T 1] 12 false,
   IG 14 (.mv) [T 0] 12 false,
   IG 15 (.nilCheck) [T 14] 12 false,
   IG 16 (.fieldAddr 2) [T 15] 12 false,
   IG 17 (.load1) [T 16] 12 false,
   IG 18 (.lens) [T 17] 12 false,
   IG 19 (.bin .gtr) [T 13, T 18] 12 false,
   I 20 (.pick) [T 12, .lit (.bool true), T 19]])
 (.cond (T 20)
 (.seq (.region [I 4 (.mv) [.lit .nilptr]])
  (.ret))
 (.skip)))
 (.seq (.region [I 21 (.mv) [T 0],
   I 22 (.nilCheck) [T 21],
   I 23 (.fieldAddr 2) [T 22],
   I 24 (.load1) [T 23],
   I 25 (.mv) [T 1],
   I 26 (.bin .sub) [T 25, N 1],
   I 27 (.indexs 1) [T 24, T 26],
   I 28 (.load1) [T 27],
   I 4 (.mv) [T 28]])
 (.ret)))⟩
theorem t121 : trFn Try.prog Try.f121 = some c_amap_Pool_of := by kernel_rfl

/-- (*pantry/amap.Pool).Used -/
abbrev n_amap_Pool_Used : Nat := 122
def c_amap_Pool_Used : AFn := ⟨6, [.tmp 4],
 .seq (.region [I 2 (.box 129 1) [T 0],
   I 3 (.box 3 1) [T 1],
   I 4 (.mv) [.lit .nilfunc]])
 (.seq (.region [I 5 (.mkfunc 127 0) [T 2, T 3],
   I 4 (.mv) [T 5]])
 (.ret))⟩
theorem t122 : trFn Try.prog Try.f122 = some c_amap_Pool_Used := by kernel_rfl

/-- (*pantry/spread.Counts).parts$1 -/
abbrev n_spread_Counts_parts_1 : Nat := 123
/-- live: [0, 2, 3, 13, 14, 15] -/
def c_spread_Counts_parts_1_L0 : ACode :=
 .seq (.region [I 16 (.bin .lss) [T 15, T 14]])
 (.seq (.cond (T 16)
 (.skip)
 (.exit 0))
 (.seq (.block 1 (.seq (.region [I 17 (.indexs 3) [T 13, T 15],
   I 18 (.loadn 3) [T 17],
   I 6 (.alloc 121 3 (.vals [(.int .i64 0), (.int .i64 0), (.int .i64 0)])) [],
   J (.store 3) [T 6, T 18]])
 (.seq (.draw [[⟨0, I 19 (.fieldAddr 0) [T 6], [], false⟩,
   ⟨1, I 20 (.load1) [T 19], [], false⟩,
   ⟨2, I 21 (.load1) [T 2], [], false⟩,
   ⟨3, I 22 (.max) [T 20, T 21], [], false⟩,
   ⟨4, I 23 (.fieldAddr 1) [T 6], [], false⟩,
   ⟨5, I 24 (.load1) [T 23], [], false⟩,
   ⟨6, I 25 (.load1) [T 3], [], false⟩,
   ⟨7, I 26 (.min) [T 24, T 25], [], false⟩,
   ⟨8, I 27 (.fieldAddr 0) [T 6], [], false⟩,
   ⟨9, J (.store 1) [T 27, T 22], [(6, I 25 (.load1) [T 3])], false⟩,
   ⟨10, I 28 (.fieldAddr 1) [T 6], [], false⟩,
   ⟨11, J (.store 1) [T 28, T 26], [], false⟩]])
 (.seq (.region [I 29 (.fieldAddr 0) [T 6],
   I 30 (.load1) [T 29],
   I 31 (.fieldAddr 1) [T 6],
   I 32 (.load1) [T 31],
   I 33 (.bin .lss) [T 30, T 32],
   I 34 (.mv) [T 33],
   IG 35 (.mv) [T 0] 34 true,
   IG 36 (.loadn 3) [T 6] 34 true,
   IG 37 (.callv) [T 35, T 36] 34 true,
   IG 38 (.un .not) [T 37] 34 true,
   I 39 (.pick) [T 34, T 38, .lit (.bool false)]])
 (.cond (T 39)
 (.ret)
 (.skip))))))
 (.region [I 40 (.bin .add) [T 15, N 1],
   I 15 (.mv) [T 40]])))
def c_spread_Counts_parts_1 : AFn := ⟨41, [],
 .seq (.seq (.region [I 7 (.load1) [T 1],
   I 8 (.callv) [F 112, T 7],
   I 9 (.un .not) [T 8]])
 (.cond (T 9)
 (.ret)
 (.skip)))
 (.seq (.region [I 10 (.load1) [T 1],
   I 11 (.nilCheck) [T 10],
   I 12 (.fieldAddr 0) [T 11],
   I 13 (.load1) [T 12],
   I 14 (.lens) [T 13],
   I 15 (.mv) [N 0]])
 (.block 0 (.loop c_spread_Counts_parts_1_L0)))⟩
theorem t123 : trFn Try.prog Try.f123 = some c_spread_Counts_parts_1 := by kernel_rfl

/-- slices.IndexFunc[[]pantry/api.Run,pantry/api.Run] -/
abbrev n_slices_IndexFunc_api_Run_api_Run : Nat := 124
/-- live: [0, 1, 7, 8] -/
def c_slices_IndexFunc_api_Run_api_Run_L0 : ACode :=
 .seq (.region [I 9 (.bin .lss) [T 8, T 7]])
 (.seq (.cond (T 9)
 (.skip)
 (.exit 0))
 (.seq (.block 1 (.seq (.region [I 10 (.mv) [T 8],
   I 5 (.mv) [T 10]])
 (.seq (.region [I 11 (.mv) [T 1],
   I 12 (.mv) [T 0],
   I 13 (.mv) [T 5],
   I 14 (.indexs 3) [T 12, T 13],
   I 15 (.loadn 3) [T 14],
   I 16 (.callv) [T 11, T 15]])
 (.cond (T 16)
 (.seq (.region [I 17 (.mv) [T 5],
    I 4 (.mv) [T 17]])
  (.ret))
 (.skip)))))
 (.region [I 18 (.bin .add) [T 8, N 1],
   I 8 (.mv) [T 18]])))
def c_slices_IndexFunc_api_Run_api_Run : AFn := ⟨19, [.tmp 4],
 .seq (.region [I 4 (.mv) [N 0]])
 (.seq (.seq (.region [I 6 (.mv) [T 0],
   I 7 (.lens) [T 6],
   I 8 (.mv) [N 0]])
 (.block 0 (.loop c_slices_IndexFunc_api_Run_api_Run_L0)))
 (.seq (.region [I 4 (.mv) [N (-1)]])
 (.ret)))⟩
theorem t124 : trFn Try.prog Try.f124 = some c_slices_IndexFunc_api_Run_api_Run := by kernel_rfl

/-- pantry/spread.split$1 -/
abbrev n_spread_split_1 : Nat := 125
def c_spread_split_1 : AFn := ⟨14, [.tmp 3],
 .seq (.region [I 2 (.box 121 3) [T 0],
   I 3 (.mv) [.lit (.bool false)]])
 (.seq (.region [I 4 (.fieldAddr 0) [T 2],
   I 5 (.load1) [T 4],
   I 6 (.load1) [T 1],
   I 7 (.bin .lss) [T 5, T 6],
   I 8 (.mv) [T 7],
   IG 9 (.load1) [T 1] 8 true,
   IG 10 (.fieldAddr 1) [T 2] 8 true,
   IG 11 (.load1) [T 10] 8 true,
   IG 12 (.bin .lss) [T 9, T 11] 8 true,
   I 13 (.pick) [T 8, T 12, .lit (.bool false)],
   I 3 (.mv) [T 13]])
 (.ret))⟩
theorem t125 : trFn Try.prog Try.f125 = some c_spread_split_1 := by kernel_rfl

/-- slices.Concat[[]pantry/api.Run,pantry/api.Run] -/
abbrev n_slices_Concat_api_Run_api_Run : Nat := 126
/-- live: [0, 3, 9, 10, 11] -/
def c_slices_Concat_api_Run_api_Run_L0 : ACode :=
 .seq (.region [I 12 (.bin .lss) [T 11, T 10]])
 (.seq (.cond (T 12)
 (.skip)
 (.exit 0))
 (.seq (.block 1 (.seq (.region [I 13 (.indexs 1) [T 9, T 11],
   I 14 (.load1) [T 13],
   I 5 (.mv) [T 14]])
 (.seq (.region [I 15 (.mv) [T 3],
   I 16 (.mv) [T 5],
   I 17 (.lens) [T 16],
   I 18 (.bin .add) [T 15, T 17],
   I 3 (.mv) [T 18]])
 (.seq (.region [I 19 (.mv) [T 3],
   I 20 (.bin .lss) [T 19, N 0]])
 (.cond (T 20)
 (.region [I 21 (.bad) [.lit (.str ⟨#[108, 101, 110, 32, 111, 117, 116, 32, 111, 102, 32, 114, 97, 110, 103, 101]⟩)],
    J (.bad) [T 21]])
 (.skip))))))
 (.region [I 22 (.bin .add) [T 11, N 1],
   I 11 (.mv) [T 22]])))
/-- live: [6, 25, 26, 27] -/
def c_slices_Concat_api_Run_api_Run_L1 : ACode :=
 .seq (.region [I 28 (.bin .lss) [T 27, T 26]])
 (.seq (.cond (T 28)
 (.skip)
 (.exit 2))
 (.seq (.block 3 (.seq (.region [I 29 (.indexs 1) [T 25, T 27],
   I 30 (.load1) [T 29],
   I 8 (.mv) [T 30]])
 (.region [I 31 (.mv) [T 6],
   I 32 (.mv) [T 8],
   I 33 (.append 121 3 24 (.vals [(.int .i64 0), (.int .i64 0), (.int .i64 0)])) [T 31, T 32],
   I 6 (.mv) [T 33]])))
 (.region [I 34 (.bin .add) [T 27, N 1],
   I 27 (.mv) [T 34]])))
def c_slices_Concat_api_Run_api_Run : AFn := ⟨36, [.tmp 2],
 .seq (.region [I 2 (.mv) [.lit .nilsl]])
 (.seq (.region [I 3 (.mv) [N 0]])
 (.seq (.seq (.region [I 9 (.mv) [T 0],
   I 10 (.lens) [T 9],
   I 11 (.mv) [N 0]])
 (.block 0 (.loop c_slices_Concat_api_Run_api_Run_L0)))
 (.seq (.region [I 23 (.mv) [T 3],
   I 24 (.callv) [F 129, .lit .nilsl, T 23],
   I 6 (.mv) [T 24]])
 (.seq (.seq (.region [I 25 (.mv) [T 0],
   I 26 (.lens) [T 25],
   I 27 (.mv) [N 0]])
 (.block 2 (.loop c_slices_Concat_api_Run_api_Run_L1)))
 (.seq (.region [I 35 (.mv) [T 6],
   I 2 (.mv) [T 35]])
 (.ret))))))⟩
theorem t126 : trFn Try.prog Try.f126 = some c_slices_Concat_api_Run_api_Run := by kernel_rfl

/-- (*pantry/amap.Pool).Used$1 -/
abbrev n_amap_Pool_Used_1 : Nat := 127
/-- live: [0, 16, 17, 18] -/
def c_amap_Pool_Used_1_L0 : ACode :=
 .seq (.region [I 19 (.bin .lss) [T 18, T 17]])
 (.seq (.cond (T 19)
 (.skip)
 (.exit 0))
 (.seq (.block 1 (.seq (.region [I 20 (.mv) [T 18],
   I 21 (.indexs 1) [T 16, T 18],
   I 22 (.load1) [T 21],
   I 5 (.mv) [T 20],
   I 6 (.mv) [T 22]])
 (.seq (.region [I 23 (.mv) [T 6],
   I 24 (.bin .gtr) [T 23, N 0],
   I 25 (.mv) [T 24],
   IG 26 (.mv) [T 0] 25 true,
   IG 27 (.mv) [T 5] 25 true,
   IG 28 (.mv) [T 6] 25 true,
   IG 29 (.callv) [T 26, T 27, T 28] 25 true,
   IG 30 (.un .not) [T 29] 25 true,
   I 31 (.pick) [T 25, T 30, .lit (.bool false)]])
 (.cond (T 31)
 (.ret)
 (.skip)))))
 (.region [I 32 (.bin .add) [T 18, N 1],
   I 18 (.mv) [T 32]])))
def c_amap_Pool_Used_1 : AFn := ⟨33, [],
 .seq (.region [I 7 (.load1) [T 1],
   I 8 (.load1) [T 2],
   I 9 (.callv) [F 121, T 7, T 8],
   I 4 (.mv) [T 9]])
 (.seq (.seq (.region [I 10 (.mv) [T 4],
   I 11 (.eqv false .ptr) [T 10, .lit .nilptr]])
 (.cond (T 11)
 (.ret)
 (.skip)))
 (.seq (.region [I 12 (.mv) [T 4],
   I 13 (.nilCheck) [T 12],
   I 14 (.fieldAddr 1) [T 13],
   I 15 (.load1) [T 14],
   I 16 (.callv) [F 128, T 15],
   I 17 (.lens) [T 16],
   I 18 (.mv) [N 0]])
 (.block 0 (.loop c_amap_Pool_Used_1_L0))))⟩
theorem t127 : trFn Try.prog Try.f127 = some c_amap_Pool_Used_1 := by kernel_rfl

/-- slices.Clone[[]int,int] -/
abbrev n_slices_Clone_int_int : Nat := 128
def c_slices_Clone_int_int : AFn := ⟨8, [.tmp 2],
 .seq (.region [I 2 (.mv) [.lit .nilsl]])
 (.seq (.seq (.region [I 3 (.mv) [T 0],
   I 4 (.eqv false .slice) [T 3, .lit .nilsl]])
 (.cond (T 4)
 (.seq (.region [I 2 (.mv) [.lit .nilsl]])
  (.ret))
 (.skip)))
 (.seq (.region [I 5 (.bslice 3 1 0 (.vals [(.int .i64 0)]) []) [],
   I 6 (.mv) [T 0],
   I 7 (.append 3 1 8 (.vals [(.int .i64 0)])) [T 5, T 6],
   I 2 (.mv) [T 7]])
 (.ret)))⟩
theorem t128 : trFn Try.prog Try.f128 = some c_slices_Clone_int_int := by kernel_rfl

/-- slices.Grow[[]pantry/api.Run,pantry/api.Run] -/
abbrev n_slices_Grow_api_Run_api_Run : Nat := 129
def c_slices_Grow_api_Run_api_Run : AFn := ⟨27, [.tmp 4],
 .seq (.region [I 4 (.mv) [.lit .nilsl]])
 (.seq (.seq (.region [I 5 (.mv) [T 1],
   I 6 (.bin .lss) [T 5, N 0]])
 (.cond (T 6)
 (.region [I 7 (.bad) [.lit (.str ⟨#[99, 97, 110, 110, 111, 116, 32, 98, 101, 32, 110, 101, 103, 97, 116, 105, 118, 101]⟩)],
    J (.bad) [T 7]])
 (.skip)))
 (.seq (.seq (.region [I 8 (.mv) [T 1],
   I 9 (.mv) [T 0],
   I 10 (.cap) [T 9],
   I 11 (.mv) [T 0],
   I 12 (.lens) [T 11],
   I 13 (.bin .sub) [T 10, T 12],
   I 14 (.bin .sub) [T 8, T 13],
   I 1 (.mv) [T 14]])
 (.seq (.region [I 15 (.mv) [T 1],
   I 16 (.bin .gtr) [T 15, N 0]])
 (.cond (T 16)
 (.region [I 17 (.mv) [T 0],
    I 18 (.mv) [T 0],
    I 19 (.cap) [T 18],
    I 20 (.slice 3 false true false) [T 17, T 19],
    I 21 (.mv) [T 1],
    I 22 (.appendz 121 3 24 (.vals [(.int .i64 0), (.int .i64 0), (.int .i64 0)])) [T 20, T 21],
    I 23 (.mv) [T 0],
    I 24 (.lens) [T 23],
    I 25 (.slice 3 false true false) [T 22, T 24],
    I 0 (.mv) [T 25]])
 (.skip))))
 (.seq (.region [I 26 (.mv) [T 0],
   I 4 (.mv) [T 26]])
 (.ret))))⟩
theorem t129 : trFn Try.prog Try.f129 = some c_slices_Grow_api_Run_api_Run := by kernel_rfl

def tab : BT := (.node (.node (.node (.node (.node (.node (.node (.node .leaf 2 c_gosem_cut_init .leaf) 3 c_law09_SwapKeeps .leaf) 4 c_law09_SwapPlans (.node .leaf 5 c_law09_SwapApart .leaf)) 6 c_law09_SwapActs (.node (.node .leaf 7 c_law09_SwapNone .leaf) 8 c_law10_FileCuts (.node .leaf 9 c_law10_FileKeeps .leaf))) 10 c_law10_FileMany (.node (.node (.node .leaf 11 c_law10_FilePages .leaf) 12 c_law10_FileActs (.node .leaf 13 c_law10_FileNone .leaf)) 14 c_law11_SpreadActs (.node (.node .leaf 15 c_law11_SpreadRuns .leaf) 16 c_law11_SpreadZeros (.node .leaf 17 c_law11_SpreadBack .leaf)))) 18 c_law11_SpreadNone (.node (.node (.node (.node .leaf 19 c_law13_AmapNumbers .leaf) 20 c_law13_AmapCovers (.node .leaf 21 c_law13_AmapCopies .leaf)) 22 c_law13_AmapActs (.node (.node .leaf 23 c_law13_AmapNone .leaf) 24 c_swap_New (.node .leaf 25 c_law09_light .leaf))) 26 c_law09_lives (.node (.node (.node .leaf 27 c_law09_page .leaf) 28 c_swap_Device_Write (.node .leaf 29 c_law09_Act_bytes .leaf)) 30 c_swap_Device_Plan (.node (.node .leaf 31 c_swap_Device_Read .leaf) 32 c_ref01_Bytes (.node .leaf 33 c_swap_Device_Count .leaf))))) 34 c_swap_Device_Peek (.node (.node (.node (.node (.node .leaf 35 c_ref09_New .leaf) 36 c_ref09_Device_Write (.node .leaf 37 c_ref09_Device_Read .leaf)) 38 c_ref09_Device_Plan (.node (.node .leaf 39 c_ref09_Device_Peek .leaf) 40 c_swap_Device_Places (.node .leaf 41 c_law10_lives .leaf))) 42 c_file_New (.node (.node (.node .leaf 43 c_file_Store_Make .leaf) 44 c_file_Store_Write (.node .leaf 45 c_law10_page .leaf)) 46 c_file_Store_Resize (.node (.node .leaf 47 c_file_Store_Read .leaf) 48 c_file_Store_Plan (.node .leaf 49 c_file_Store_Size .leaf)))) 50 c_file_Store_Ids (.node (.node (.node (.node .leaf 51 c_file_Store_Peek .leaf) 52 c_law10_light (.node .leaf 53 c_ref10_Store_Make .leaf)) 54 c_ref10_Store_Resize (.node (.node .leaf 55 c_ref10_Store_Read .leaf) 56 c_law10_Act_bytes (.node .leaf 57 c_ref10_Store_Write .leaf))) 58 c_ref10_Store_Plan (.node (.node (.node .leaf 59 c_ref10_Store_Size .leaf) 60 c_ref10_Store_Peek (.node .leaf 61 c_spread_New .leaf)) 62 c_ref11_New (.node (.node .leaf 63 c_law11_lives .leaf) 64 c_spread_Counts_Grow (.node .leaf 65 c_ref11_Counts_Grow .leaf)))))) 66 c_spread_Counts_Add (.node (.node (.node (.node (.node (.node .leaf 67 c_ref11_Counts_Add .leaf) 68 c_ref01_Ints (.node .leaf 69 c_spread_Counts_Len .leaf)) 70 c_spread_Counts_At (.node (.node .leaf 71 c_ref11_Counts_At .leaf) 72 c_spread_Counts_Sum (.node .leaf 73 c_ref11_Counts_Sum .leaf))) 74 c_ref11_Same (.node (.node (.node .leaf 75 c_spread_Counts_Runs .leaf) 76 c_ref11_Counts_Runs (.node .leaf 77 c_spread_Counts_Copy .leaf)) 78 c_amap_New (.node (.node .leaf 79 c_amap_Pool_Make .leaf) 80 c_amap_Pool_Set (.node .leaf 81 c_amap_Pool_Drop .leaf)))) 82 c_amap_Pool_Slots (.node (.node (.node (.node .leaf 83 c_amap_Pool_Get .leaf) 84 c_law13_lives (.node .leaf 85 c_amap_Pool_Hold .leaf)) 86 c_amap_Pool_Ids (.node (.node .leaf 87 c_amap_Pool_Cover .leaf) 88 c_amap_Pool_Copy (.node .leaf 89 c_ref13_New .leaf))) 90 c_ref13_Pool_Make (.node (.node (.node .leaf 91 c_ref13_Pool_Set .leaf) 92 c_ref13_Pool_Hold (.node .leaf 93 c_ref13_Pool_Drop .leaf)) 94 c_ref13_Pool_Copy (.node (.node .leaf 95 c_ref13_Pool_Of .leaf) 96 c_ref13_Pool_Slots (.node .leaf 97 c_ref13_Pool_Cover .leaf))))) 98 c_ref13_Pool_Get (.node (.node (.node (.node (.node .leaf 99 c_ref13_Pool_Ids .leaf) 100 c_law13_used (.node .leaf 101 c_swap_Device_may .leaf)) 102 c_swap_plan_fails (.node (.node .leaf 103 c_swap_Device_made .leaf) 104 c_ref09_Device_fails (.node .leaf 105 c_file_Store_made .leaf))) 106 c_file_Store_at (.node (.node (.node .leaf 107 c_file_Store_known .leaf) 108 c_maps_DeleteFunc_map_file_place_4096_byte_file_place_4096_byte (.node .leaf 109 c_file_Store_Resize_1 .leaf)) 110 c_ref10_Store_without (.node (.node .leaf 111 c_ref10_Store_fails .leaf) 112 c_spread_Counts_made (.node .leaf 113 c_spread_join .leaf)))) 114 c_slices_Clone_api_Run_api_Run (.node (.node (.node (.node .leaf 115 c_spread_Counts_parts .leaf) 116 c_spread_split (.node .leaf 117 c_amap_Pool_made .leaf)) 118 c_slices_Index_amap_one_amap_one (.node (.node .leaf 119 c_amap_Pool_known .leaf) 120 c_amap_one_within (.node .leaf 121 c_amap_Pool_of .leaf))) 122 c_amap_Pool_Used (.node (.node (.node .leaf 123 c_spread_Counts_parts_1 .leaf) 124 c_slices_IndexFunc_api_Run_api_Run (.node .leaf 125 c_spread_split_1 .leaf)) 126 c_slices_Concat_api_Run_api_Run (.node (.node .leaf 127 c_amap_Pool_Used_1 .leaf) 128 c_slices_Clone_int_int (.node .leaf 129 c_slices_Grow_api_Run_api_Run .leaf)))))))
theorem i2 : Is Try.prog 2 c_gosem_cut_init := ⟨Try.f2, Try.func2, t2, Try.call2⟩
theorem i3 : Is Try.prog 3 c_law09_SwapKeeps := ⟨Try.f3, Try.func3, t3, Try.call3⟩
theorem i4 : Is Try.prog 4 c_law09_SwapPlans := ⟨Try.f4, Try.func4, t4, Try.call4⟩
theorem i5 : Is Try.prog 5 c_law09_SwapApart := ⟨Try.f5, Try.func5, t5, Try.call5⟩
theorem i6 : Is Try.prog 6 c_law09_SwapActs := ⟨Try.f6, Try.func6, t6, Try.call6⟩
theorem i7 : Is Try.prog 7 c_law09_SwapNone := ⟨Try.f7, Try.func7, t7, Try.call7⟩
theorem i8 : Is Try.prog 8 c_law10_FileCuts := ⟨Try.f8, Try.func8, t8, Try.call8⟩
theorem i9 : Is Try.prog 9 c_law10_FileKeeps := ⟨Try.f9, Try.func9, t9, Try.call9⟩
theorem i10 : Is Try.prog 10 c_law10_FileMany := ⟨Try.f10, Try.func10, t10, Try.call10⟩
theorem i11 : Is Try.prog 11 c_law10_FilePages := ⟨Try.f11, Try.func11, t11, Try.call11⟩
theorem i12 : Is Try.prog 12 c_law10_FileActs := ⟨Try.f12, Try.func12, t12, Try.call12⟩
theorem i13 : Is Try.prog 13 c_law10_FileNone := ⟨Try.f13, Try.func13, t13, Try.call13⟩
theorem i14 : Is Try.prog 14 c_law11_SpreadActs := ⟨Try.f14, Try.func14, t14, Try.call14⟩
theorem i15 : Is Try.prog 15 c_law11_SpreadRuns := ⟨Try.f15, Try.func15, t15, Try.call15⟩
theorem i16 : Is Try.prog 16 c_law11_SpreadZeros := ⟨Try.f16, Try.func16, t16, Try.call16⟩
theorem i17 : Is Try.prog 17 c_law11_SpreadBack := ⟨Try.f17, Try.func17, t17, Try.call17⟩
theorem i18 : Is Try.prog 18 c_law11_SpreadNone := ⟨Try.f18, Try.func18, t18, Try.call18⟩
theorem i19 : Is Try.prog 19 c_law13_AmapNumbers := ⟨Try.f19, Try.func19, t19, Try.call19⟩
theorem i20 : Is Try.prog 20 c_law13_AmapCovers := ⟨Try.f20, Try.func20, t20, Try.call20⟩
theorem i21 : Is Try.prog 21 c_law13_AmapCopies := ⟨Try.f21, Try.func21, t21, Try.call21⟩
theorem i22 : Is Try.prog 22 c_law13_AmapActs := ⟨Try.f22, Try.func22, t22, Try.call22⟩
theorem i23 : Is Try.prog 23 c_law13_AmapNone := ⟨Try.f23, Try.func23, t23, Try.call23⟩
theorem i24 : Is Try.prog 24 c_swap_New := ⟨Try.f24, Try.func24, t24, Try.call24⟩
theorem i25 : Is Try.prog 25 c_law09_light := ⟨Try.f25, Try.func25, t25, Try.call25⟩
theorem i26 : Is Try.prog 26 c_law09_lives := ⟨Try.f26, Try.func26, t26, Try.call26⟩
theorem i27 : Is Try.prog 27 c_law09_page := ⟨Try.f27, Try.func27, t27, Try.call27⟩
theorem i28 : Is Try.prog 28 c_swap_Device_Write := ⟨Try.f28, Try.func28, t28, Try.call28⟩
theorem i29 : Is Try.prog 29 c_law09_Act_bytes := ⟨Try.f29, Try.func29, t29, Try.call29⟩
theorem i30 : Is Try.prog 30 c_swap_Device_Plan := ⟨Try.f30, Try.func30, t30, Try.call30⟩
theorem i31 : Is Try.prog 31 c_swap_Device_Read := ⟨Try.f31, Try.func31, t31, Try.call31⟩
theorem i32 : Is Try.prog 32 c_ref01_Bytes := ⟨Try.f32, Try.func32, t32, Try.call32⟩
theorem i33 : Is Try.prog 33 c_swap_Device_Count := ⟨Try.f33, Try.func33, t33, Try.call33⟩
theorem i34 : Is Try.prog 34 c_swap_Device_Peek := ⟨Try.f34, Try.func34, t34, Try.call34⟩
theorem i35 : Is Try.prog 35 c_ref09_New := ⟨Try.f35, Try.func35, t35, Try.call35⟩
theorem i36 : Is Try.prog 36 c_ref09_Device_Write := ⟨Try.f36, Try.func36, t36, Try.call36⟩
theorem i37 : Is Try.prog 37 c_ref09_Device_Read := ⟨Try.f37, Try.func37, t37, Try.call37⟩
theorem i38 : Is Try.prog 38 c_ref09_Device_Plan := ⟨Try.f38, Try.func38, t38, Try.call38⟩
theorem i39 : Is Try.prog 39 c_ref09_Device_Peek := ⟨Try.f39, Try.func39, t39, Try.call39⟩
theorem i40 : Is Try.prog 40 c_swap_Device_Places := ⟨Try.f40, Try.func40, t40, Try.call40⟩
theorem i41 : Is Try.prog 41 c_law10_lives := ⟨Try.f41, Try.func41, t41, Try.call41⟩
theorem i42 : Is Try.prog 42 c_file_New := ⟨Try.f42, Try.func42, t42, Try.call42⟩
theorem i43 : Is Try.prog 43 c_file_Store_Make := ⟨Try.f43, Try.func43, t43, Try.call43⟩
theorem i44 : Is Try.prog 44 c_file_Store_Write := ⟨Try.f44, Try.func44, t44, Try.call44⟩
theorem i45 : Is Try.prog 45 c_law10_page := ⟨Try.f45, Try.func45, t45, Try.call45⟩
theorem i46 : Is Try.prog 46 c_file_Store_Resize := ⟨Try.f46, Try.func46, t46, Try.call46⟩
theorem i47 : Is Try.prog 47 c_file_Store_Read := ⟨Try.f47, Try.func47, t47, Try.call47⟩
theorem i48 : Is Try.prog 48 c_file_Store_Plan := ⟨Try.f48, Try.func48, t48, Try.call48⟩
theorem i49 : Is Try.prog 49 c_file_Store_Size := ⟨Try.f49, Try.func49, t49, Try.call49⟩
theorem i50 : Is Try.prog 50 c_file_Store_Ids := ⟨Try.f50, Try.func50, t50, Try.call50⟩
theorem i51 : Is Try.prog 51 c_file_Store_Peek := ⟨Try.f51, Try.func51, t51, Try.call51⟩
theorem i52 : Is Try.prog 52 c_law10_light := ⟨Try.f52, Try.func52, t52, Try.call52⟩
theorem i53 : Is Try.prog 53 c_ref10_Store_Make := ⟨Try.f53, Try.func53, t53, Try.call53⟩
theorem i54 : Is Try.prog 54 c_ref10_Store_Resize := ⟨Try.f54, Try.func54, t54, Try.call54⟩
theorem i55 : Is Try.prog 55 c_ref10_Store_Read := ⟨Try.f55, Try.func55, t55, Try.call55⟩
theorem i56 : Is Try.prog 56 c_law10_Act_bytes := ⟨Try.f56, Try.func56, t56, Try.call56⟩
theorem i57 : Is Try.prog 57 c_ref10_Store_Write := ⟨Try.f57, Try.func57, t57, Try.call57⟩
theorem i58 : Is Try.prog 58 c_ref10_Store_Plan := ⟨Try.f58, Try.func58, t58, Try.call58⟩
theorem i59 : Is Try.prog 59 c_ref10_Store_Size := ⟨Try.f59, Try.func59, t59, Try.call59⟩
theorem i60 : Is Try.prog 60 c_ref10_Store_Peek := ⟨Try.f60, Try.func60, t60, Try.call60⟩
theorem i61 : Is Try.prog 61 c_spread_New := ⟨Try.f61, Try.func61, t61, Try.call61⟩
theorem i62 : Is Try.prog 62 c_ref11_New := ⟨Try.f62, Try.func62, t62, Try.call62⟩
theorem i63 : Is Try.prog 63 c_law11_lives := ⟨Try.f63, Try.func63, t63, Try.call63⟩
theorem i64 : Is Try.prog 64 c_spread_Counts_Grow := ⟨Try.f64, Try.func64, t64, Try.call64⟩
theorem i65 : Is Try.prog 65 c_ref11_Counts_Grow := ⟨Try.f65, Try.func65, t65, Try.call65⟩
theorem i66 : Is Try.prog 66 c_spread_Counts_Add := ⟨Try.f66, Try.func66, t66, Try.call66⟩
theorem i67 : Is Try.prog 67 c_ref11_Counts_Add := ⟨Try.f67, Try.func67, t67, Try.call67⟩
theorem i68 : Is Try.prog 68 c_ref01_Ints := ⟨Try.f68, Try.func68, t68, Try.call68⟩
theorem i69 : Is Try.prog 69 c_spread_Counts_Len := ⟨Try.f69, Try.func69, t69, Try.call69⟩
theorem i70 : Is Try.prog 70 c_spread_Counts_At := ⟨Try.f70, Try.func70, t70, Try.call70⟩
theorem i71 : Is Try.prog 71 c_ref11_Counts_At := ⟨Try.f71, Try.func71, t71, Try.call71⟩
theorem i72 : Is Try.prog 72 c_spread_Counts_Sum := ⟨Try.f72, Try.func72, t72, Try.call72⟩
theorem i73 : Is Try.prog 73 c_ref11_Counts_Sum := ⟨Try.f73, Try.func73, t73, Try.call73⟩
theorem i74 : Is Try.prog 74 c_ref11_Same := ⟨Try.f74, Try.func74, t74, Try.call74⟩
theorem i75 : Is Try.prog 75 c_spread_Counts_Runs := ⟨Try.f75, Try.func75, t75, Try.call75⟩
theorem i76 : Is Try.prog 76 c_ref11_Counts_Runs := ⟨Try.f76, Try.func76, t76, Try.call76⟩
theorem i77 : Is Try.prog 77 c_spread_Counts_Copy := ⟨Try.f77, Try.func77, t77, Try.call77⟩
theorem i78 : Is Try.prog 78 c_amap_New := ⟨Try.f78, Try.func78, t78, Try.call78⟩
theorem i79 : Is Try.prog 79 c_amap_Pool_Make := ⟨Try.f79, Try.func79, t79, Try.call79⟩
theorem i80 : Is Try.prog 80 c_amap_Pool_Set := ⟨Try.f80, Try.func80, t80, Try.call80⟩
theorem i81 : Is Try.prog 81 c_amap_Pool_Drop := ⟨Try.f81, Try.func81, t81, Try.call81⟩
theorem i82 : Is Try.prog 82 c_amap_Pool_Slots := ⟨Try.f82, Try.func82, t82, Try.call82⟩
theorem i83 : Is Try.prog 83 c_amap_Pool_Get := ⟨Try.f83, Try.func83, t83, Try.call83⟩
theorem i84 : Is Try.prog 84 c_law13_lives := ⟨Try.f84, Try.func84, t84, Try.call84⟩
theorem i85 : Is Try.prog 85 c_amap_Pool_Hold := ⟨Try.f85, Try.func85, t85, Try.call85⟩
theorem i86 : Is Try.prog 86 c_amap_Pool_Ids := ⟨Try.f86, Try.func86, t86, Try.call86⟩
theorem i87 : Is Try.prog 87 c_amap_Pool_Cover := ⟨Try.f87, Try.func87, t87, Try.call87⟩
theorem i88 : Is Try.prog 88 c_amap_Pool_Copy := ⟨Try.f88, Try.func88, t88, Try.call88⟩
theorem i89 : Is Try.prog 89 c_ref13_New := ⟨Try.f89, Try.func89, t89, Try.call89⟩
theorem i90 : Is Try.prog 90 c_ref13_Pool_Make := ⟨Try.f90, Try.func90, t90, Try.call90⟩
theorem i91 : Is Try.prog 91 c_ref13_Pool_Set := ⟨Try.f91, Try.func91, t91, Try.call91⟩
theorem i92 : Is Try.prog 92 c_ref13_Pool_Hold := ⟨Try.f92, Try.func92, t92, Try.call92⟩
theorem i93 : Is Try.prog 93 c_ref13_Pool_Drop := ⟨Try.f93, Try.func93, t93, Try.call93⟩
theorem i94 : Is Try.prog 94 c_ref13_Pool_Copy := ⟨Try.f94, Try.func94, t94, Try.call94⟩
theorem i95 : Is Try.prog 95 c_ref13_Pool_Of := ⟨Try.f95, Try.func95, t95, Try.call95⟩
theorem i96 : Is Try.prog 96 c_ref13_Pool_Slots := ⟨Try.f96, Try.func96, t96, Try.call96⟩
theorem i97 : Is Try.prog 97 c_ref13_Pool_Cover := ⟨Try.f97, Try.func97, t97, Try.call97⟩
theorem i98 : Is Try.prog 98 c_ref13_Pool_Get := ⟨Try.f98, Try.func98, t98, Try.call98⟩
theorem i99 : Is Try.prog 99 c_ref13_Pool_Ids := ⟨Try.f99, Try.func99, t99, Try.call99⟩
theorem i100 : Is Try.prog 100 c_law13_used := ⟨Try.f100, Try.func100, t100, Try.call100⟩
theorem i101 : Is Try.prog 101 c_swap_Device_may := ⟨Try.f101, Try.func101, t101, Try.call101⟩
theorem i102 : Is Try.prog 102 c_swap_plan_fails := ⟨Try.f102, Try.func102, t102, Try.call102⟩
theorem i103 : Is Try.prog 103 c_swap_Device_made := ⟨Try.f103, Try.func103, t103, Try.call103⟩
theorem i104 : Is Try.prog 104 c_ref09_Device_fails := ⟨Try.f104, Try.func104, t104, Try.call104⟩
theorem i105 : Is Try.prog 105 c_file_Store_made := ⟨Try.f105, Try.func105, t105, Try.call105⟩
theorem i106 : Is Try.prog 106 c_file_Store_at := ⟨Try.f106, Try.func106, t106, Try.call106⟩
theorem i107 : Is Try.prog 107 c_file_Store_known := ⟨Try.f107, Try.func107, t107, Try.call107⟩
theorem i108 : Is Try.prog 108 c_maps_DeleteFunc_map_file_place_4096_byte_file_place_4096_byte := ⟨Try.f108, Try.func108, t108, Try.call108⟩
theorem i109 : Is Try.prog 109 c_file_Store_Resize_1 := ⟨Try.f109, Try.func109, t109, Try.call109⟩
theorem i110 : Is Try.prog 110 c_ref10_Store_without := ⟨Try.f110, Try.func110, t110, Try.call110⟩
theorem i111 : Is Try.prog 111 c_ref10_Store_fails := ⟨Try.f111, Try.func111, t111, Try.call111⟩
theorem i112 : Is Try.prog 112 c_spread_Counts_made := ⟨Try.f112, Try.func112, t112, Try.call112⟩
theorem i113 : Is Try.prog 113 c_spread_join := ⟨Try.f113, Try.func113, t113, Try.call113⟩
theorem i114 : Is Try.prog 114 c_slices_Clone_api_Run_api_Run := ⟨Try.f114, Try.func114, t114, Try.call114⟩
theorem i115 : Is Try.prog 115 c_spread_Counts_parts := ⟨Try.f115, Try.func115, t115, Try.call115⟩
theorem i116 : Is Try.prog 116 c_spread_split := ⟨Try.f116, Try.func116, t116, Try.call116⟩
theorem i117 : Is Try.prog 117 c_amap_Pool_made := ⟨Try.f117, Try.func117, t117, Try.call117⟩
theorem i118 : Is Try.prog 118 c_slices_Index_amap_one_amap_one := ⟨Try.f118, Try.func118, t118, Try.call118⟩
theorem i119 : Is Try.prog 119 c_amap_Pool_known := ⟨Try.f119, Try.func119, t119, Try.call119⟩
theorem i120 : Is Try.prog 120 c_amap_one_within := ⟨Try.f120, Try.func120, t120, Try.call120⟩
theorem i121 : Is Try.prog 121 c_amap_Pool_of := ⟨Try.f121, Try.func121, t121, Try.call121⟩
theorem i122 : Is Try.prog 122 c_amap_Pool_Used := ⟨Try.f122, Try.func122, t122, Try.call122⟩
theorem i123 : Is Try.prog 123 c_spread_Counts_parts_1 := ⟨Try.f123, Try.func123, t123, Try.call123⟩
theorem i124 : Is Try.prog 124 c_slices_IndexFunc_api_Run_api_Run := ⟨Try.f124, Try.func124, t124, Try.call124⟩
theorem i125 : Is Try.prog 125 c_spread_split_1 := ⟨Try.f125, Try.func125, t125, Try.call125⟩
theorem i126 : Is Try.prog 126 c_slices_Concat_api_Run_api_Run := ⟨Try.f126, Try.func126, t126, Try.call126⟩
theorem i127 : Is Try.prog 127 c_amap_Pool_Used_1 := ⟨Try.f127, Try.func127, t127, Try.call127⟩
theorem i128 : Is Try.prog 128 c_slices_Clone_int_int := ⟨Try.f128, Try.func128, t128, Try.call128⟩
theorem i129 : Is Try.prog 129 c_slices_Grow_api_Run_api_Run := ⟨Try.f129, Try.func129, t129, Try.call129⟩
theorem tabSound : AllB (Is Try.prog) tab := ⟨⟨⟨⟨⟨⟨⟨⟨trivial, i2, trivial⟩, i3, trivial⟩, i4, ⟨trivial, i5, trivial⟩⟩, i6, ⟨⟨trivial, i7, trivial⟩, i8, ⟨trivial, i9, trivial⟩⟩⟩, i10, ⟨⟨⟨trivial, i11, trivial⟩, i12, ⟨trivial, i13, trivial⟩⟩, i14, ⟨⟨trivial, i15, trivial⟩, i16, ⟨trivial, i17, trivial⟩⟩⟩⟩, i18, ⟨⟨⟨⟨trivial, i19, trivial⟩, i20, ⟨trivial, i21, trivial⟩⟩, i22, ⟨⟨trivial, i23, trivial⟩, i24, ⟨trivial, i25, trivial⟩⟩⟩, i26, ⟨⟨⟨trivial, i27, trivial⟩, i28, ⟨trivial, i29, trivial⟩⟩, i30, ⟨⟨trivial, i31, trivial⟩, i32, ⟨trivial, i33, trivial⟩⟩⟩⟩⟩, i34, ⟨⟨⟨⟨⟨trivial, i35, trivial⟩, i36, ⟨trivial, i37, trivial⟩⟩, i38, ⟨⟨trivial, i39, trivial⟩, i40, ⟨trivial, i41, trivial⟩⟩⟩, i42, ⟨⟨⟨trivial, i43, trivial⟩, i44, ⟨trivial, i45, trivial⟩⟩, i46, ⟨⟨trivial, i47, trivial⟩, i48, ⟨trivial, i49, trivial⟩⟩⟩⟩, i50, ⟨⟨⟨⟨trivial, i51, trivial⟩, i52, ⟨trivial, i53, trivial⟩⟩, i54, ⟨⟨trivial, i55, trivial⟩, i56, ⟨trivial, i57, trivial⟩⟩⟩, i58, ⟨⟨⟨trivial, i59, trivial⟩, i60, ⟨trivial, i61, trivial⟩⟩, i62, ⟨⟨trivial, i63, trivial⟩, i64, ⟨trivial, i65, trivial⟩⟩⟩⟩⟩⟩, i66, ⟨⟨⟨⟨⟨⟨trivial, i67, trivial⟩, i68, ⟨trivial, i69, trivial⟩⟩, i70, ⟨⟨trivial, i71, trivial⟩, i72, ⟨trivial, i73, trivial⟩⟩⟩, i74, ⟨⟨⟨trivial, i75, trivial⟩, i76, ⟨trivial, i77, trivial⟩⟩, i78, ⟨⟨trivial, i79, trivial⟩, i80, ⟨trivial, i81, trivial⟩⟩⟩⟩, i82, ⟨⟨⟨⟨trivial, i83, trivial⟩, i84, ⟨trivial, i85, trivial⟩⟩, i86, ⟨⟨trivial, i87, trivial⟩, i88, ⟨trivial, i89, trivial⟩⟩⟩, i90, ⟨⟨⟨trivial, i91, trivial⟩, i92, ⟨trivial, i93, trivial⟩⟩, i94, ⟨⟨trivial, i95, trivial⟩, i96, ⟨trivial, i97, trivial⟩⟩⟩⟩⟩, i98, ⟨⟨⟨⟨⟨trivial, i99, trivial⟩, i100, ⟨trivial, i101, trivial⟩⟩, i102, ⟨⟨trivial, i103, trivial⟩, i104, ⟨trivial, i105, trivial⟩⟩⟩, i106, ⟨⟨⟨trivial, i107, trivial⟩, i108, ⟨trivial, i109, trivial⟩⟩, i110, ⟨⟨trivial, i111, trivial⟩, i112, ⟨trivial, i113, trivial⟩⟩⟩⟩, i114, ⟨⟨⟨⟨trivial, i115, trivial⟩, i116, ⟨trivial, i117, trivial⟩⟩, i118, ⟨⟨trivial, i119, trivial⟩, i120, ⟨trivial, i121, trivial⟩⟩⟩, i122, ⟨⟨⟨trivial, i123, trivial⟩, i124, ⟨trivial, i125, trivial⟩⟩, i126, ⟨⟨trivial, i127, trivial⟩, i128, ⟨trivial, i129, trivial⟩⟩⟩⟩⟩⟩⟩


end Go.Proofs.Ytjdemlagmamlbaa
