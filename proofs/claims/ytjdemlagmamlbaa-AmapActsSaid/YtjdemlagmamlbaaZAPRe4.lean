/- BY PROGRAM (wip/tool/shake.py): own texts, one behind the other, without what is not needed. -/
import Derived.Control
import Derived.Calls
import Derived.KernelRfl
import Derived.Laws.Sem
import Derived.Laws.Cells
import Derived.Laws.World
import GoSem.Dispatch
import Derived.Laws.StructEq
import Derived.IntWalk
import Derived.WideKeyRuns
import Derived.Laws.BytesArg
import Derived.Orders
import Derived.ChangeArms
import Derived.OpenShut
import Derived.ChangeShapes
import Derived.ProofKit
import Derived.Test.YtjdemlagmamlbaaProg
import Derived.Test.YtjdemlagmamlbaaZAPRe3

namespace Go.Proofs.Ytjdemlagmamlbaa
abbrev ty_swap_Device : Nat := 62
abbrev ty_api_Run : Nat := 121
abbrev ty_spread_Counts : Nat := 126
abbrev ty_law13_Act : Nat := 135
abbrev ty_amap_Pool : Nat := 156
abbrev ty_ref11_Counts : Nat := 115
abbrev ty_amap_one : Nat := 179
abbrev ty_ref13_Pool : Nat := 190
abbrev ty_ref13_Amap : Nat := 151
/-- gosem.cut.init -/
abbrev n_gosem_cut_init : Nat := 2
def c_gosem_cut_init : AFn := ⟨1, [],
 .region [I 0 (.callv) [F 1]]⟩
theorem t2 : trFn Try.prog Try.f2 = some c_gosem_cut_init := by kernel_rfl
/-- pantry/pantrylaw09.SwapKeeps -/
abbrev n_law09_SwapKeeps : Nat := 3
/-- live: [0, 3, 4, 26] -/
def c_law09_SwapKeeps_L0 : ACode :=
 .seq (.region [I 27 (.bin .lss) [T 26, N 4]])
 (.seq (.cond (T 27)
 (.skip)
 (.exit 0))
 (.seq (.block 1 (.seq (.region [I 28 (.mv) [T 26],
   I 5 (.mv) [T 28]])
 (.region [I 29 (.mv) [T 5],
   I 30 (.callv) [F 27, .lit .nilsl],
   I 31 (.indexa 4 1) [T 4, T 29],
   J (.store 1) [T 31, T 30]])))
 (.region [I 32 (.bin .add) [T 26, N 1],
   I 26 (.mv) [T 32]])))
/-- live: [3, 4, 33, 34, 35] -/
def c_law09_SwapKeeps_L1 : ACode :=
 .seq (.region [I 36 (.bin .lss) [T 35, T 34]])
 (.seq (.cond (T 36)
 (.skip)
 (.exit 2))
 (.seq (.block 3 (.seq (.region [I 37 (.indexs 4) [T 33, T 35],
   I 38 (.loadn 4) [T 37],
   I 7 (.alloc 31 4 (.vals [(.int .i64 0), (.int .i64 0), .nilsl, (.bool false)])) [],
   J (.store 4) [T 7, T 38]])
 (.seq (.region [I 39 (.fieldAddr 0) [T 7],
   I 40 (.load1) [T 39]])
 (.block 4 (.seq (.region [I 42 (.bin .eql) [T 40, N 0],
   I 41 (.mv) [T 42]])
 (.cond (T 41)
 (.seq (.draw [[⟨0, I 43 (.mv) [T 3], [], false⟩,
    ⟨1, I 44 (.fieldAddr 1) [T 7], [], false⟩,
    ⟨2, I 45 (.load1) [T 44], [], false⟩,
    ⟨3, I 46 (.loadn 4) [T 7], [], false⟩,
    ⟨4, I 47 (.callv) [F 29, T 46], [(2, I 45 (.load1) [T 44])], false⟩,
    ⟨5, I 48 (.callv) [F 28, T 43, T 45, T 47], [], false⟩,
    ⟨6, I 49 (.bin .eql) [T 48, N 0], [], false⟩]])
  (.cond (T 49)
  (.seq (.seq (.region [I 50 (.fieldAddr 1) [T 7],
     I 51 (.load1) [T 50],
     I 52 (.bin .lss) [T 51, N 0],
     I 53 (.mv) [T 52],
     IG 54 (.fieldAddr 1) [T 7] 53 false,
     IG 55 (.load1) [T 54] 53 false,
     IG 56 (.bin .geq) [T 55, N 4] 53 false,
     I 57 (.pick) [T 53, .lit (.bool true), T 56]])
   (.cond (T 57)
   (.seq (.region [I 2 (.mv) [.lit (.bool false)]])
    (.ret))
   (.skip)))
   (.draw [[⟨0, I 58 (.fieldAddr 1) [T 7], [], false⟩,
     ⟨1, I 59 (.load1) [T 58], [], false⟩,
     ⟨2, I 60 (.loadn 4) [T 7], [], false⟩,
     ⟨3, I 61 (.callv) [F 29, T 60], [(1, I 59 (.load1) [T 58])], false⟩,
     ⟨4, I 62 (.indexa 4 1) [T 4, T 59], [], false⟩,
     ⟨5, J (.store 1) [T 62, T 61], [], false⟩]]))
  (.skip)))
 (.seq (.region [I 64 (.bin .eql) [T 40, N 2],
    I 63 (.mv) [T 64]])
  (.cond (T 63)
  (.region [I 65 (.mv) [T 3],
     I 66 (.fieldAddr 3) [T 7],
     I 67 (.load1) [T 66],
     I 68 (.fieldAddr 1) [T 7],
     I 69 (.load1) [T 68],
     I 70 (.callv) [F 30, T 65, T 67, T 69]])
  (.skip)))))))))
 (.region [I 71 (.bin .add) [T 35, N 1],
   I 35 (.mv) [T 71]])))
/-- live: [3, 4, 74] -/
def c_law09_SwapKeeps_L2 : ACode :=
 .seq (.region [I 75 (.bin .lss) [T 74, N 4]])
 (.seq (.cond (T 75)
 (.skip)
 (.exit 5))
 (.seq (.block 6 (.seq (.region [I 76 (.mv) [T 74],
   I 8 (.mv) [T 76]])
 (.seq (.region [I 78 (.mv) [T 3],
   I 79 (.mv) [T 8],
   I 80 (.callv) [F 31, T 78, T 79],
   I 77 (.mv) [T 80],
   I 81 (.extract 0) [T 77],
   I 82 (.extract 1) [T 77],
   I 9 (.mv) [T 81],
   I 10 (.mv) [T 82]])
 (.seq (.seq (.region [I 83 (.mv) [T 10],
   I 84 (.bin .neq) [T 83, N 0],
   I 85 (.mv) [T 84],
   IG 86 (.mv) [T 9] 85 false,
   IG 87 (.mv) [T 8] 85 false,
   IG 88 (.indexa 4 1) [T 4, T 87] 85 false,
   IG 89 (.load1) [T 88] 85 false,
   IG 90 (.callv) [F 32, T 86, T 89] 85 false,
   IG 91 (.un .not) [T 90] 85 false,
   I 92 (.pick) [T 85, .lit (.bool true), T 91]])
 (.cond (T 92)
 (.seq (.region [I 2 (.mv) [.lit (.bool false)]])
  (.ret))
 (.skip)))
 (.seq (.seq (.region [I 93 (.mv) [T 9],
   I 94 (.lens) [T 93],
   I 95 (.bin .eql) [T 94, N 0]])
 (.cond (T 95)
 (.seq (.region [I 2 (.mv) [.lit (.bool false)]])
  (.ret))
 (.skip)))
 (.seq (.region [I 96 (.mv) [T 9],
   I 97 (.indexs 1) [T 96, N 0],
   I 98 (.load1) [T 97],
   I 99 (.bin .add) [T 98, .lit (.int .u8 1)],
   I 100 (.indexs 1) [T 96, N 0],
   J (.store 1) [T 100, T 99]])
 (.seq (.region [I 102 (.mv) [T 3],
   I 103 (.mv) [T 8],
   I 104 (.callv) [F 31, T 102, T 103],
   I 101 (.mv) [T 104],
   I 105 (.extract 0) [T 101],
   I 106 (.extract 1) [T 101],
   I 11 (.mv) [T 105],
   I 12 (.mv) [T 106]])
 (.seq (.region [I 107 (.mv) [T 11],
   I 108 (.mv) [T 8],
   I 109 (.indexa 4 1) [T 4, T 108],
   I 110 (.load1) [T 109],
   I 111 (.callv) [F 32, T 107, T 110],
   I 112 (.un .not) [T 111]])
 (.cond (T 112)
 (.seq (.region [I 2 (.mv) [.lit (.bool false)]])
  (.ret))
 (.skip))))))))))
 (.region [I 113 (.bin .add) [T 74, N 1],
   I 74 (.mv) [T 113]])))
def c_law09_SwapKeeps : AFn := ⟨115, [.tmp 2],
 .seq (.region [I 2 (.mv) [.lit (.bool false)]])
 (.seq (.region [I 13 (.callv) [F 24, N 4],
   I 3 (.mv) [T 13]])
 (.seq (.seq (.region [I 14 (.mv) [T 3],
   I 15 (.eqv false .ptr) [T 14, .lit .nilptr],
   I 16 (.mv) [T 15],
   IG 17 (.mv) [T 0] 16 false,
   IG 18 (.callv) [F 25, T 17] 16 false,
   IG 19 (.un .not) [T 18] 16 false,
   I 20 (.pick) [T 16, .lit (.bool true), T 19]])
 (.cond (T 20)
 (.seq (.region [I 21 (.mv) [T 3],
    I 22 (.eqv true .ptr) [T 21, .lit .nilptr],
    I 23 (.mv) [T 22],
    IG 24 (.callv) [F 26] 23 true,
    I 25 (.pick) [T 23, T 24, .lit (.bool false)],
    I 2 (.mv) [T 25]])
  (.ret))
 (.skip)))
 (.seq (.region [I 4 (.alloc 28 4 (.vals [.nilsl, .nilsl, .nilsl, .nilsl])) []])
 (.seq (.seq (.region [I 26 (.mv) [N 0]])
 (.block 0 (.loop c_law09_SwapKeeps_L0)))
 (.seq (.seq (.region [I 33 (.mv) [T 0],
   I 34 (.lens) [T 33],
   I 35 (.mv) [N 0]])
 (.block 2 (.loop c_law09_SwapKeeps_L1)))
 (.seq (.region [I 72 (.mv) [T 3],
   I 73 (.callv) [F 30, T 72, .lit (.bool false), N 0]])
 (.seq (.seq (.region [I 74 (.mv) [N 0]])
 (.block 5 (.loop c_law09_SwapKeeps_L2)))
 (.seq (.region [I 114 (.callv) [F 26],
   I 2 (.mv) [T 114]])
 (.ret)))))))))⟩
theorem t3 : trFn Try.prog Try.f3 = some c_law09_SwapKeeps := by kernel_rfl
/-- pantry/pantrylaw09.SwapPlans -/
abbrev n_law09_SwapPlans : Nat := 4
/-- live: [7, 8, 9, 10, 11] -/
def c_law09_SwapPlans_L0 : ACode :=
 .seq (.seq (.region [I 37 (.mv) [T 11],
   I 38 (.mv) [T 10],
   I 39 (.bin .leq) [T 37, T 38]])
 (.cond (T 39)
 (.skip)
 (.exit 0)))
 (.seq (.block 1 (.seq (.region [I 42 (.mv) [T 7],
   I 43 (.callv) [F 27, .lit .nilsl],
   I 44 (.callv) [F 28, T 42, N 0, T 43],
   I 12 (.mv) [T 44]])
 (.seq (.region [I 46 (.mv) [T 7],
   I 47 (.callv) [F 31, T 46, N 0],
   I 45 (.mv) [T 47],
   I 48 (.extract 0) [T 45],
   I 49 (.extract 1) [T 45],
   I 13 (.mv) [T 48],
   I 14 (.mv) [T 49]])
 (.seq (.region (I 50 (.mv) [T 12] ::
   I 51 (.bin .eql) [T 50, N 6] ::
   I 52 (.mv) [T 11] ::
   I 53 (.mv) [T 8] ::
   I 54 (.bin .eql) [T 52, T 53] ::
   I 55 (.eqv true (.scal .bool)) [T 51, T 54] ::
   I 56 (.mv) [T 55] ::
   IG 57 (.mv) [T 14] 56 false ::
   IG 58 (.bin .eql) [T 57, N 6] 56 false ::
   IG 59 (.mv) [T 11] 56 false ::
   IG 60 (.mv) [T 9] 56 false ::
   IG 61 (.bin .eql) [T 59, T 60] 56 false ::
   IG 62 (.eqv true (.scal .bool)) [T 58, T 61] 56 false ::
   I 63 (.pick) [T 56, .lit (.bool true), T 62] ::
   I 64 (.mv) [T 63] ::
   IG 65 (.mv) [T 12] 64 false ::
   IG 66 (.bin .neq) [T 65, N 0] 64 false ::
   IG 67 (.mv) [T 66] 64 false ::
   IG 68 (.mv) [T 12] 67 true ::
   IG 69 (.bin .neq) [T 68, N 6] 67 true ::
   IG 70 (.pick) [T 67, T 69, .lit (.bool false)] 64 false ::
   I 71 (.pick) [T 64, .lit (.bool true), T 70] ::
   I 72 (.mv) [T 71] ::
   IG 73 (.mv) [T 14] 72 false ::
   IG 74 (.bin .neq) [T 73, N 0] 72 false ::
   IG 75 (.mv) [T 74] 72 false ::
   IG 76 (.mv) [T 14] 75 true ::
   IG 77 (.bin .neq) [T 76, N 6] 75 true ::
   IG 78 (.pick) [T 75, T 77, .lit (.bool false)] 72 false ::
   I 79 (.pick) [T 72, .lit (.bool true), T 78] ::
   []))
 (.cond (T 79)
 (.seq (.region [I 6 (.mv) [.lit (.bool false)]])
  (.ret))
 (.skip))))))
 (.region [I 40 (.mv) [T 11],
   I 41 (.bin .add) [T 40, N 1],
   I 11 (.mv) [T 41]]))
def c_law09_SwapPlans : AFn := ⟨102, [.tmp 6],
 .seq (.region [I 6 (.mv) [.lit (.bool false)]])
 (.seq (.region [I 17 (.callv) [F 24, N 1],
   I 7 (.mv) [T 17]])
 (.seq (.region [I 18 (.mv) [T 0],
   I 19 (.bin .rem) [T 18, .lit (.int .u64 20)],
   I 20 (.conv .i64) [T 19],
   I 21 (.mv) [T 1],
   I 22 (.bin .rem) [T 21, .lit (.int .u64 20)],
   I 23 (.conv .i64) [T 22],
   I 24 (.mv) [T 2],
   I 25 (.bin .rem) [T 24, .lit (.int .u64 30)],
   I 26 (.conv .i64) [T 25],
   I 8 (.mv) [T 20],
   I 9 (.mv) [T 23],
   I 10 (.mv) [T 26]])
 (.seq (.seq (.region [I 27 (.mv) [T 7],
   I 28 (.mv) [T 8],
   I 29 (.callv) [F 30, T 27, .lit (.bool true), T 28],
   I 30 (.bin .neq) [T 29, N 0],
   I 31 (.mv) [T 30],
   IG 32 (.mv) [T 7] 31 false,
   IG 33 (.mv) [T 9] 31 false,
   IG 34 (.callv) [F 30, T 32, .lit (.bool false), T 33] 31 false,
   IG 35 (.bin .neq) [T 34, N 0] 31 false,
   I 36 (.pick) [T 31, .lit (.bool true), T 35]])
 (.cond (T 36)
 (.seq (.region [I 6 (.mv) [.lit (.bool false)]])
  (.ret))
 (.skip)))
 (.seq (.seq (.region [I 11 (.mv) [N 1]])
 (.block 0 (.loop c_law09_SwapPlans_L0)))
 (.seq (.region [I 81 (.mv) [T 7],
   I 82 (.callv) [F 33, T 81],
   I 80 (.mv) [T 82],
   I 83 (.extract 0) [T 80],
   I 84 (.extract 1) [T 80],
   I 15 (.mv) [T 83],
   I 16 (.mv) [T 84]])
 (.seq (.region [I 85 (.mv) [T 15],
   I 86 (.mv) [T 10],
   I 87 (.bin .eql) [T 85, T 86],
   I 88 (.mv) [T 87],
   IG 89 (.mv) [T 16] 88 true,
   IG 90 (.mv) [T 10] 88 true,
   IG 91 (.bin .eql) [T 89, T 90] 88 true,
   I 92 (.pick) [T 88, T 91, .lit (.bool false)],
   I 93 (.mv) [T 92],
   IG 94 (.mv) [T 7] 93 true,
   IG 95 (.callv) [F 27, .lit .nilsl] 93 true,
   IG 96 (.callv) [F 28, T 94, N 1, T 95] 93 true,
   IG 97 (.bin .eql) [T 96, N 2] 93 true,
   I 98 (.pick) [T 93, T 97, .lit (.bool false)],
   I 99 (.mv) [T 98],
   IG 100 (.callv) [F 26] 99 true,
   I 101 (.pick) [T 99, T 100, .lit (.bool false)],
   I 6 (.mv) [T 101]])
 (.ret)))))))⟩
theorem t4 : trFn Try.prog Try.f4 = some c_law09_SwapPlans := by kernel_rfl
/-- pantry/pantrylaw13.AmapActs -/
abbrev n_law13_AmapActs : Nat := 22
/-- live: [0, 1, 2, 40, 41, 42] -/
def c_law13_AmapActs_L0 : ACode :=
 .seq (.region [I 43 (.bin .lss) [T 42, T 41]])
 (.seq (.cond (T 43)
 (.skip)
 (.exit 0))
 (.seq (.block 1 (.seq (.region [I 44 (.indexs 4) [T 40, T 42],
   I 45 (.loadn 4) [T 44],
   I 8 (.alloc 135 4 (.vals [(.int .i64 0), (.int .i64 0), (.int .i64 0), (.int .i64 0)])) [],
   J (.store 4) [T 8, T 45]])
 (.seq (.region [I 46 (.fieldAddr 0) [T 8],
   I 47 (.load1) [T 46],
   I 48 (.bin .eql) [T 47, N 0],
   I 49 (.mv) [T 48],
   IG 50 (.fieldAddr 3) [T 8] 49 true,
   IG 51 (.load1) [T 50] 49 true,
   IG 52 (.bin .gtr) [T 51, N 200] 49 true,
   I 53 (.pick) [T 49, T 52, .lit (.bool false)],
   I 54 (.mv) [T 53],
   IG 55 (.fieldAddr 3) [T 8] 54 true,
   IG 56 (.load1) [T 55] 54 true,
   IG 57 (.bin .leq) [T 56, N 4096] 54 true,
   I 58 (.pick) [T 54, T 57, .lit (.bool false)]])
 (.cond (T 58)
 (.seq (.region [I 59 (.callv) [F 84],
    I 6 (.mv) [T 59]])
  (.ret))
 (.skip)))))
 (.region [I 60 (.bin .add) [T 42, N 1],
   I 42 (.mv) [T 60]])))
/-- live: [2, 9, 10, 12, 13, 32, 73, 74, 75, 236, 237, 238] -/
def c_law13_AmapActs_L2 : ACode :=
 .seq (.region [I 239 (.bin .lss) [T 238, T 237]])
 (.seq (.cond (T 239)
 (.skip)
 (.exit 5))
 (.seq (.block 6 (.seq (.region [I 240 (.mv) [T 238],
   I 241 (.indexs 1) [T 236, T 238],
   I 242 (.load1) [T 241],
   I 34 (.mv) [T 240],
   I 35 (.mv) [T 242]])
 (.seq (.region [I 243 (.mv) [T 35],
   I 244 (.bin .neq) [T 243, N 0],
   I 245 (.mv) [T 244],
   IG 246 (.mv) [T 2] 245 true,
   IG 247 (.bin .lss) [T 246, N 0] 245 true,
   IG 248 (.mv) [T 247] 245 true,
   IG 249 (.mv) [T 32] 248 false,
   IG 250 (.lens) [T 249] 248 false,
   IG 251 (.mv) [T 2] 248 false,
   IG 252 (.bin .mul) [N 2, T 251] 248 false,
   IG 253 (.bin .lss) [T 250, T 252] 248 false,
   IG 254 (.pick) [T 248, .lit (.bool true), T 253] 245 true,
   I 255 (.pick) [T 245, T 254, .lit (.bool false)]])
 (.cond (T 255)
 (.region [I 256 (.mv) [T 32],
    I 257 (.mv) [T 34],
    I 258 (.mv) [T 35],
    I 259 (.bslice 3 1 2 (.vals [(.int .i64 0)]) [0, 1]) [T 257, T 258],
    I 260 (.append 3 1 8 (.vals [(.int .i64 0)])) [T 256, T 259],
    I 32 (.mv) [T 260]])
 (.skip)))))
 (.region [I 261 (.bin .add) [T 238, N 1],
   I 238 (.mv) [T 261]])))
/-- live: [2, 9, 10, 73, 74, 75] -/
def c_law13_AmapActs_L1 : ACode :=
 .seq (.region [I 76 (.bin .lss) [T 75, T 74]])
 (.seq (.cond (T 76)
 (.skip)
 (.exit 2))
 (.seq (.block 3 (.seq (.region [I 77 (.indexs 4) [T 73, T 75],
   I 78 (.loadn 4) [T 77],
   I 12 (.alloc 135 4 (.vals [(.int .i64 0), (.int .i64 0), (.int .i64 0), (.int .i64 0)])) [],
   J (.store 4) [T 12, T 78]])
 (.seq (.region [I 13 (.mv) [.lit (.bool true)]])
 (.seq (.seq (.region [I 79 (.fieldAddr 0) [T 12],
   I 80 (.load1) [T 79]])
 (.block 4 (.seq (.region [I 82 (.bin .eql) [T 80, N 0],
   I 81 (.mv) [T 82]])
 (.cond (T 81)
 (.seq (.region [I 84 (.mv) [T 9],
    I 85 (.fieldAddr 3) [T 12],
    I 86 (.load1) [T 85],
    I 87 (.callv) [F 79, T 84, T 86],
    I 83 (.mv) [T 87],
    I 88 (.extract 0) [T 83],
    I 89 (.extract 1) [T 83],
    I 14 (.mv) [T 88],
    I 15 (.mv) [T 89]])
  (.seq (.region [I 91 (.mv) [T 10],
    I 92 (.fieldAddr 3) [T 12],
    I 93 (.load1) [T 92],
    I 94 (.callv) [F 90, T 91, T 93],
    I 90 (.mv) [T 94],
    I 95 (.extract 0) [T 90],
    I 96 (.extract 1) [T 90],
    I 16 (.mv) [T 95],
    I 17 (.mv) [T 96]])
  (.region [I 97 (.mv) [T 14],
    I 98 (.mv) [T 16],
    I 99 (.bin .eql) [T 97, T 98],
    I 100 (.mv) [T 99],
    IG 101 (.mv) [T 15] 100 true,
    IG 102 (.mv) [T 17] 100 true,
    IG 103 (.bin .eql) [T 101, T 102] 100 true,
    I 104 (.pick) [T 100, T 103, .lit (.bool false)],
    I 13 (.mv) [T 104]])))
 (.seq (.region [I 106 (.bin .eql) [T 80, N 1],
    I 105 (.mv) [T 106]])
  (.cond (T 105)
  (.seq (.region [I 108 (.mv) [T 9],
     I 109 (.fieldAddr 1) [T 12],
     I 110 (.load1) [T 109],
     I 111 (.fieldAddr 2) [T 12],
     I 112 (.load1) [T 111],
     I 113 (.fieldAddr 3) [T 12],
     I 114 (.load1) [T 113],
     I 115 (.callv) [F 80, T 108, T 110, T 112, T 114],
     I 107 (.mv) [T 115],
     I 116 (.extract 0) [T 107],
     I 117 (.extract 1) [T 107],
     I 18 (.mv) [T 116],
     I 19 (.mv) [T 117]])
   (.seq (.region [I 119 (.mv) [T 10],
     I 120 (.fieldAddr 1) [T 12],
     I 121 (.load1) [T 120],
     I 122 (.fieldAddr 2) [T 12],
     I 123 (.load1) [T 122],
     I 124 (.fieldAddr 3) [T 12],
     I 125 (.load1) [T 124],
     I 126 (.callv) [F 91, T 119, T 121, T 123, T 125],
     I 118 (.mv) [T 126],
     I 127 (.extract 0) [T 118],
     I 128 (.extract 1) [T 118],
     I 20 (.mv) [T 127],
     I 21 (.mv) [T 128]])
   (.region [I 129 (.mv) [T 18],
     I 130 (.mv) [T 20],
     I 131 (.bin .eql) [T 129, T 130],
     I 132 (.mv) [T 131],
     IG 133 (.mv) [T 19] 132 true,
     IG 134 (.mv) [T 21] 132 true,
     IG 135 (.bin .eql) [T 133, T 134] 132 true,
     I 136 (.pick) [T 132, T 135, .lit (.bool false)],
     I 13 (.mv) [T 136]])))
  (.seq (.region [I 138 (.bin .eql) [T 80, N 2],
     I 137 (.mv) [T 138]])
   (.cond (T 137)
   (.draw [[⟨0, I 139 (.mv) [T 9], [], false⟩,
      ⟨1, I 140 (.fieldAddr 1) [T 12], [], false⟩,
      ⟨2, I 141 (.load1) [T 140], [], false⟩,
      ⟨3, I 142 (.fieldAddr 2) [T 12], [], false⟩,
      ⟨4, I 143 (.load1) [T 142], [], false⟩,
      ⟨5, I 144 (.fieldAddr 3) [T 12], [], false⟩,
      ⟨6, I 145 (.load1) [T 144], [], false⟩,
      ⟨8, I 147 (.mv) [T 10], [], false⟩,
      ⟨9, I 148 (.fieldAddr 1) [T 12], [], false⟩,
      ⟨10, I 149 (.load1) [T 148], [], false⟩,
      ⟨11, I 150 (.fieldAddr 2) [T 12], [], false⟩,
      ⟨12, I 151 (.load1) [T 150], [], false⟩,
      ⟨13, I 152 (.fieldAddr 3) [T 12], [], false⟩,
      ⟨14, I 153 (.load1) [T 152], [], false⟩,
      ⟨7, I 146 (.callv) [F 85, T 139, T 141, T 143, T 145], [(10, I 149 (.load1) [T 148]), (12, I 151 (.load1) [T 150]), (14, I 153 (.load1) [T 152])], false⟩,
      ⟨15, I 154 (.callv) [F 92, T 147, T 149, T 151, T 153], [], false⟩,
      ⟨16, I 155 (.bin .eql) [T 146, T 154], [], false⟩,
      ⟨17, I 13 (.mv) [T 155], [], false⟩]])
   (.seq (.region [I 157 (.bin .eql) [T 80, N 3],
      I 156 (.mv) [T 157]])
    (.cond (T 156)
    (.seq (.region [I 159 (.mv) [T 9],
       I 160 (.fieldAddr 1) [T 12],
       I 161 (.load1) [T 160],
       I 162 (.fieldAddr 2) [T 12],
       I 163 (.load1) [T 162],
       I 164 (.fieldAddr 3) [T 12],
       I 165 (.load1) [T 164],
       I 166 (.callv) [F 81, T 159, T 161, T 163, T 165],
       I 158 (.mv) [T 166],
       I 167 (.extract 0) [T 158],
       I 168 (.extract 1) [T 158],
       I 22 (.mv) [T 167],
       I 23 (.mv) [T 168]])
     (.seq (.region [I 170 (.mv) [T 10],
       I 171 (.fieldAddr 1) [T 12],
       I 172 (.load1) [T 171],
       I 173 (.fieldAddr 2) [T 12],
       I 174 (.load1) [T 173],
       I 175 (.fieldAddr 3) [T 12],
       I 176 (.load1) [T 175],
       I 177 (.callv) [F 93, T 170, T 172, T 174, T 176],
       I 169 (.mv) [T 177],
       I 178 (.extract 0) [T 169],
       I 179 (.extract 1) [T 169],
       I 24 (.mv) [T 178],
       I 25 (.mv) [T 179]])
     (.region [I 180 (.mv) [T 22],
       I 181 (.mv) [T 24],
       I 182 (.callv) [F 68, T 180, T 181],
       I 183 (.mv) [T 182],
       IG 184 (.mv) [T 23] 183 true,
       IG 185 (.mv) [T 25] 183 true,
       IG 186 (.bin .eql) [T 184, T 185] 183 true,
       I 187 (.pick) [T 183, T 186, .lit (.bool false)],
       I 13 (.mv) [T 187]])))
    (.seq (.region [I 189 (.bin .eql) [T 80, N 4],
       I 188 (.mv) [T 189]])
     (.cond (T 188)
     (.seq (.region [I 191 (.mv) [T 9],
        I 192 (.fieldAddr 1) [T 12],
        I 193 (.load1) [T 192],
        I 194 (.fieldAddr 2) [T 12],
        I 195 (.load1) [T 194],
        I 196 (.fieldAddr 3) [T 12],
        I 197 (.load1) [T 196],
        I 198 (.callv) [F 88, T 191, T 193, T 195, T 197],
        I 190 (.mv) [T 198],
        I 199 (.extract 0) [T 190],
        I 200 (.extract 1) [T 190],
        I 201 (.extract 2) [T 190],
        I 26 (.mv) [T 199],
        I 27 (.mv) [T 200],
        I 28 (.mv) [T 201]])
      (.seq (.region [I 203 (.mv) [T 10],
        I 204 (.fieldAddr 1) [T 12],
        I 205 (.load1) [T 204],
        I 206 (.fieldAddr 2) [T 12],
        I 207 (.load1) [T 206],
        I 208 (.fieldAddr 3) [T 12],
        I 209 (.load1) [T 208],
        I 210 (.callv) [F 94, T 203, T 205, T 207, T 209],
        I 202 (.mv) [T 210],
        I 211 (.extract 0) [T 202],
        I 212 (.extract 1) [T 202],
        I 213 (.extract 2) [T 202],
        I 29 (.mv) [T 211],
        I 30 (.mv) [T 212],
        I 31 (.mv) [T 213]])
      (.region [I 214 (.mv) [T 26],
        I 215 (.mv) [T 29],
        I 216 (.bin .eql) [T 214, T 215],
        I 217 (.mv) [T 216],
        IG 218 (.mv) [T 27] 217 true,
        IG 219 (.mv) [T 30] 217 true,
        IG 220 (.callv) [F 68, T 218, T 219] 217 true,
        I 221 (.pick) [T 217, T 220, .lit (.bool false)],
        I 222 (.mv) [T 221],
        IG 223 (.mv) [T 28] 222 true,
        IG 224 (.mv) [T 31] 222 true,
        IG 225 (.bin .eql) [T 223, T 224] 222 true,
        I 226 (.pick) [T 222, T 225, .lit (.bool false)],
        I 13 (.mv) [T 226]])))
     (.skip)))))))))))))
 (.seq (.region [I 32 (.mv) [.lit .nilsl]])
 (.seq (.seq (.region [I 227 (.mv) [T 10],
   I 228 (.fieldAddr 1) [T 12],
   I 229 (.load1) [T 228],
   I 230 (.callv) [F 95, T 227, T 229],
   I 33 (.mv) [T 230]])
 (.seq (.region [I 231 (.mv) [T 33],
   I 232 (.eqv true .ptr) [T 231, .lit .nilptr]])
 (.cond (T 232)
 (.seq (.region [I 233 (.mv) [T 33],
    I 234 (.nilCheck) [T 233],
    I 235 (.fieldAddr 1) [T 234],
    I 236 (.load1) [T 235],
    I 237 (.lens) [T 236],
    I 238 (.mv) [N 0]])
  (.block 5 (.loop c_law13_AmapActs_L2)))
 (.skip))))
 (.seq (.draw [(⟨0, I 262 (.mv) [T 13], [], false⟩ ::
   ⟨1, I 263 (.un .not) [T 262], [], false⟩ ::
   ⟨2, I 264 (.mv) [T 263], [], false⟩ ::
   ⟨3, IG 265 (.mv) [T 9] 264 false, [], false⟩ ::
   ⟨4, IG 266 (.fieldAddr 1) [T 12] 264 false, [], false⟩ ::
   ⟨5, IG 267 (.load1) [T 266] 264 false, [], false⟩ ::
   ⟨7, IG 269 (.mv) [T 10] 264 false, [], false⟩ ::
   ⟨8, IG 270 (.fieldAddr 1) [T 12] 264 false, [], false⟩ ::
   ⟨9, IG 271 (.load1) [T 270] 264 false, [], false⟩ ::
   ⟨6, IG 268 (.callv) [F 82, T 265, T 267] 264 false, [(9, IG 271 (.load1) [T 270] 264 false)], false⟩ ::
   ⟨10, IG 272 (.callv) [F 96, T 269, T 271] 264 false, [], false⟩ ::
   ⟨11, IG 273 (.bin .neq) [T 268, T 272] 264 false, [], false⟩ ::
   ⟨12, I 274 (.pick) [T 264, .lit (.bool true), T 273], [], false⟩ ::
   ⟨13, I 275 (.mv) [T 274], [], false⟩ ::
   ⟨14, IG 276 (.mv) [T 9] 275 false, [], false⟩ ::
   ⟨15, IG 277 (.fieldAddr 1) [T 12] 275 false, [], false⟩ ::
   ⟨16, IG 278 (.load1) [T 277] 275 false, [], false⟩ ::
   ⟨17, IG 279 (.fieldAddr 2) [T 12] 275 false, [], false⟩ ::
   ⟨18, IG 280 (.load1) [T 279] 275 false, [], false⟩ ::
   ⟨20, IG 282 (.mv) [T 10] 275 false, [], false⟩ ::
   ⟨21, IG 283 (.fieldAddr 1) [T 12] 275 false, [], false⟩ ::
   ⟨22, IG 284 (.load1) [T 283] 275 false, [], false⟩ ::
   ⟨23, IG 285 (.fieldAddr 2) [T 12] 275 false, [], false⟩ ::
   ⟨24, IG 286 (.load1) [T 285] 275 false, [], false⟩ ::
   ⟨19, IG 281 (.callv) [F 87, T 276, T 278, T 280] 275 false, [(22, IG 284 (.load1) [T 283] 275 false), (24, IG 286 (.load1) [T 285] 275 false)], false⟩ ::
   ⟨25, IG 287 (.callv) [F 97, T 282, T 284, T 286] 275 false, [], false⟩ ::
   ⟨26, IG 288 (.bin .neq) [T 281, T 287] 275 false, [], false⟩ ::
   ⟨27, I 289 (.pick) [T 275, .lit (.bool true), T 288], [], false⟩ ::
   ⟨28, I 290 (.mv) [T 289], [], false⟩ ::
   ⟨29, IG 291 (.mv) [T 9] 290 false, [], false⟩ ::
   ⟨30, IG 292 (.fieldAddr 1) [T 12] 290 false, [], false⟩ ::
   ⟨31, IG 293 (.load1) [T 292] 290 false, [], false⟩ ::
   ⟨32, IG 294 (.fieldAddr 2) [T 12] 290 false, [], false⟩ ::
   ⟨33, IG 295 (.load1) [T 294] 290 false, [], false⟩ ::
   ⟨35, IG 297 (.mv) [T 10] 290 false, [], false⟩ ::
   ⟨36, IG 298 (.fieldAddr 1) [T 12] 290 false, [], false⟩ ::
   ⟨37, IG 299 (.load1) [T 298] 290 false, [], false⟩ ::
   ⟨38, IG 300 (.fieldAddr 2) [T 12] 290 false, [], false⟩ ::
   ⟨39, IG 301 (.load1) [T 300] 290 false, [], false⟩ ::
   ⟨34, IG 296 (.callv) [F 83, T 291, T 293, T 295] 290 false, [(37, IG 299 (.load1) [T 298] 290 false), (39, IG 301 (.load1) [T 300] 290 false)], false⟩ ::
   ⟨40, IG 302 (.callv) [F 98, T 297, T 299, T 301] 290 false, [], false⟩ ::
   ⟨41, IG 303 (.bin .neq) [T 296, T 302] 290 false, [], false⟩ ::
   ⟨42, I 304 (.pick) [T 290, .lit (.bool true), T 303], [], false⟩ ::
   ⟨43, I 305 (.mv) [T 304], [], false⟩ ::
   ⟨44, IG 306 (.mv) [T 9] 305 false, [], false⟩ ::
   ⟨46, IG 308 (.mv) [T 10] 305 false, [], false⟩ ::
   ⟨45, IG 307 (.callv) [F 86, T 306] 305 false, [], false⟩ ::
   ⟨47, IG 309 (.callv) [F 99, T 308] 305 false, [], false⟩ ::
   ⟨48, IG 310 (.callv) [F 68, T 307, T 309] 305 false, [], false⟩ ::
   ⟨49, IG 311 (.un .not) [T 310] 305 false, [], false⟩ ::
   ⟨50, I 312 (.pick) [T 305, .lit (.bool true), T 311], [], false⟩ ::
   ⟨51, I 313 (.mv) [T 312], [], false⟩ ::
   ⟨52, IG 314 (.mv) [T 9] 313 false, [], false⟩ ::
   ⟨53, IG 315 (.fieldAddr 1) [T 12] 313 false, [], false⟩ ::
   ⟨54, IG 316 (.load1) [T 315] 313 false, [], false⟩ ::
   ⟨55, IG 317 (.mv) [T 2] 313 false, [], false⟩ ::
   ⟨57, IG 319 (.mv) [T 32] 313 false, [], false⟩ ::
   ⟨56, IG 318 (.callv) [F 100, T 314, T 316, T 317] 313 false, [], false⟩ ::
   ⟨58, IG 320 (.callv) [F 68, T 318, T 319] 313 false, [], false⟩ ::
   ⟨59, IG 321 (.un .not) [T 320] 313 false, [], false⟩ ::
   ⟨60, I 322 (.pick) [T 313, .lit (.bool true), T 321], [], false⟩ ::
   [])])
 (.cond (T 322)
 (.seq (.region [I 6 (.mv) [.lit (.bool false)]])
  (.ret))
 (.skip)))))))))
 (.region [I 323 (.bin .add) [T 75, N 1],
   I 75 (.mv) [T 323]])))
def c_law13_AmapActs : AFn := ⟨325, [.tmp 6],
 .seq (.region [I 6 (.mv) [.lit (.bool false)]])
 (.seq (.seq (.region [I 36 (.mv) [T 1],
   I 37 (.lens) [T 36],
   I 38 (.bin .gtr) [T 37, N 80]])
 (.cond (T 38)
 (.seq (.region [I 39 (.callv) [F 84],
    I 6 (.mv) [T 39]])
  (.ret))
 (.skip)))
 (.seq (.seq (.region [I 40 (.mv) [T 1],
   I 41 (.lens) [T 40],
   I 42 (.mv) [N 0]])
 (.block 0 (.loop c_law13_AmapActs_L0)))
 (.seq (.region [I 61 (.mv) [T 0],
   I 62 (.callv) [F 78, T 61],
   I 63 (.mv) [T 0],
   I 64 (.callv) [F 89, T 63],
   I 9 (.mv) [T 62],
   I 10 (.mv) [T 64]])
 (.seq (.seq (.region [I 65 (.mv) [T 9],
   I 66 (.eqv false .ptr) [T 65, .lit .nilptr],
   I 67 (.mv) [T 10],
   I 68 (.eqv false .ptr) [T 67, .lit .nilptr],
   I 69 (.eqv true (.scal .bool)) [T 66, T 68]])
 (.cond (T 69)
 (.seq (.region [I 6 (.mv) [.lit (.bool false)]])
  (.ret))
 (.skip)))
 (.seq (.seq (.region [I 70 (.mv) [T 10],
   I 71 (.eqv false .ptr) [T 70, .lit .nilptr]])
 (.cond (T 71)
 (.seq (.region [I 72 (.callv) [F 84],
    I 6 (.mv) [T 72]])
  (.ret))
 (.skip)))
 (.seq (.seq (.region [I 73 (.mv) [T 1],
   I 74 (.lens) [T 73],
   I 75 (.mv) [N 0]])
 (.block 2 (.loop c_law13_AmapActs_L1)))
 (.seq (.region [I 324 (.callv) [F 84],
   I 6 (.mv) [T 324]])
 (.ret))))))))⟩
theorem t22 : trFn Try.prog Try.f22 = some c_law13_AmapActs := by kernel_rfl
/-- pantry/swap.New -/
abbrev n_swap_New : Nat := 24
def c_swap_New : AFn := ⟨13, [.tmp 2],
 .seq (.region [I 2 (.mv) [.lit .nilptr]])
 (.seq (.seq (.region [I 3 (.mv) [T 0],
   I 4 (.bin .lss) [T 3, N 0],
   I 5 (.mv) [T 4],
   IG 6 (.mv) [T 0] 5 false,
   IG 7 (.bin .gtr) [T 6, N 256] 5 false,
   I 8 (.pick) [T 5, .lit (.bool true), T 7]])
 (.cond (T 8)
 (.seq (.region [I 2 (.mv) [.lit .nilptr]])
  (.ret))
 (.skip)))
 (.seq (.region [I 9 (.mv) [T 0],
   I 10 (.mkmap) [],
   I 11 (.build (.agg [(.int .i64 0), (.bool false), .nilmap, (.int .i64 0), (.int .i64 0), (.int .i64 0), (.int .i64 0)]) [(0, 1), (1, 1), (2, 1)]) [T 9, .lit (.bool true), T 10],
   I 12 (.box 62 7) [T 11],
   I 2 (.mv) [T 12]])
 (.ret)))⟩
theorem t24 : trFn Try.prog Try.f24 = some c_swap_New := by kernel_rfl
/-- pantry/pantrylaw09.lives -/
abbrev n_law09_lives : Nat := 26
def c_law09_lives : AFn := ⟨27, [.tmp 0],
 .seq (.region [I 0 (.mv) [.lit (.bool false)]])
 (.seq (.region [I 2 (.callv) [F 24, N 2],
   I 1 (.mv) [T 2]])
 (.seq (.region (I 3 (.mv) [T 1] ::
   I 4 (.callv) [F 30, T 3, .lit (.bool true), N 2] ::
   I 5 (.bin .eql) [T 4, N 0] ::
   I 6 (.mv) [T 5] ::
   IG 7 (.mv) [T 1] 6 true ::
   IG 8 (.bslice 5 1 1 (.bytes 1 0) [0]) [.lit (.int .u8 1)] 6 true ::
   IG 9 (.callv) [F 27, T 8] 6 true ::
   IG 10 (.callv) [F 28, T 7, N 0, T 9] 6 true ::
   IG 11 (.bin .eql) [T 10, N 0] 6 true ::
   I 12 (.pick) [T 6, T 11, .lit (.bool false)] ::
   I 13 (.mv) [T 12] ::
   IG 14 (.mv) [T 1] 13 true ::
   IG 15 (.bslice 5 1 1 (.bytes 1 0) [0]) [.lit (.int .u8 2)] 13 true ::
   IG 16 (.callv) [F 27, T 15] 13 true ::
   IG 17 (.callv) [F 28, T 14, N 0, T 16] 13 true ::
   IG 18 (.bin .eql) [T 17, N 6] 13 true ::
   I 19 (.pick) [T 13, T 18, .lit (.bool false)] ::
   I 20 (.mv) [T 19] ::
   IG 21 (.mv) [T 1] 20 true ::
   IG 22 (.bslice 5 1 1 (.bytes 1 0) [0]) [.lit (.int .u8 3)] 20 true ::
   IG 23 (.callv) [F 27, T 22] 20 true ::
   IG 24 (.callv) [F 28, T 21, N 1, T 23] 20 true ::
   IG 25 (.bin .eql) [T 24, N 0] 20 true ::
   I 26 (.pick) [T 20, T 25, .lit (.bool false)] ::
   I 0 (.mv) [T 26] ::
   []))
 (.ret)))⟩
theorem t26 : trFn Try.prog Try.f26 = some c_law09_lives := by kernel_rfl
/-- pantry/pantrylaw09.page -/
abbrev n_law09_page : Nat := 27
def c_law09_page : AFn := ⟨9, [.tmp 2],
 .seq (.region [I 2 (.mv) [.lit .nilsl]])
 (.seq (.region [I 4 (.mkslice 5 1 1 (.bytes 1 0)) [N 4096, N 4096],
   I 3 (.mv) [T 4]])
 (.seq (.region [I 5 (.mv) [T 3],
   I 6 (.mv) [T 0],
   I 7 (.copy 1) [T 5, T 6]])
 (.seq (.region [I 8 (.mv) [T 3],
   I 2 (.mv) [T 8]])
 (.ret))))⟩
theorem t27 : trFn Try.prog Try.f27 = some c_law09_page := by kernel_rfl
/-- (*pantry/swap.Device).Write -/
abbrev n_swap_Device_Write : Nat := 28
def c_swap_Device_Write : AFn := ⟨29, [.tmp 6],
 .seq (.region [I 6 (.mv) [N 0]])
 (.seq (.seq (.region [I 8 (.mv) [T 0],
   I 9 (.mv) [T 1],
   I 10 (.mv) [T 2],
   I 11 (.lens) [T 10],
   I 12 (.bin .eql) [T 11, N 4096],
   I 13 (.callv) [F 101, T 8, T 9, T 12],
   I 7 (.mv) [T 13]])
 (.seq (.region [I 14 (.mv) [T 7],
   I 15 (.bin .neq) [T 14, N 0]])
 (.cond (T 15)
 (.seq (.region [I 16 (.mv) [T 7],
    I 6 (.mv) [T 16]])
  (.ret))
 (.skip))))
 (.seq (.seq (.region [I 17 (.mv) [T 0],
   I 18 (.nilCheck) [T 17],
   I 19 (.fieldAddr 3) [T 18],
   I 20 (.callv) [F 102, T 19]])
 (.cond (T 20)
 (.seq (.region [I 6 (.mv) [N 6]])
  (.ret))
 (.skip)))
 (.seq (.draw [[⟨0, I 21 (.mv) [T 0], [], false⟩,
   ⟨1, I 22 (.nilCheck) [T 21], [], false⟩,
   ⟨2, I 23 (.fieldAddr 2) [T 22], [], false⟩,
   ⟨3, I 24 (.load1) [T 23], [], false⟩,
   ⟨4, I 25 (.mv) [T 1], [], false⟩,
   ⟨5, I 26 (.mv) [T 2], [], false⟩,
   ⟨6, I 27 (.sl2arr 4096) [T 26], [], false⟩,
   ⟨7, I 28 (.loadn 4096) [T 27], [], false⟩,
   ⟨8, J (.mapput (.scal .int)) [T 24, T 25, T 28], [], false⟩]])
 (.seq (.region [I 6 (.mv) [N 0]])
 (.ret)))))⟩
theorem t28 : trFn Try.prog Try.f28 = some c_swap_Device_Write := by kernel_rfl
/-- (*pantry/swap.Device).Plan -/
abbrev n_swap_Device_Plan : Nat := 30
def c_swap_Device_Plan : AFn := ⟨26, [.tmp 6],
 .seq (.region [I 6 (.mv) [N 0]])
 (.seq (.block 0 (.seq (.region [I 13 (.mv) [T 0],
   I 14 (.callv) [F 103, T 13],
   I 15 (.un .not) [T 14],
   I 12 (.mv) [T 15]])
 (.cond (T 12)
 (.seq (.region [I 6 (.mv) [N 1]])
  (.ret))
 (.seq (.region [I 17 (.mv) [T 2],
    I 18 (.bin .lss) [T 17, N 0],
    I 16 (.mv) [T 18]])
  (.cond (T 16)
  (.seq (.region [I 6 (.mv) [N 2]])
   (.ret))
  (.seq (.region [I 20 (.mv) [T 1],
     I 19 (.mv) [T 20]])
   (.cond (T 19)
   (.region [I 21 (.mv) [T 0],
      I 22 (.mv) [T 2],
      I 23 (.nilCheck) [T 21],
      I 24 (.fieldAddr 3) [T 23],
      I 25 (.fieldAddr 1) [T 24],
      J (.store 1) [T 25, T 22]])
   (.region [I 7 (.mv) [T 0],
      I 8 (.mv) [T 2],
      I 9 (.nilCheck) [T 7],
      I 10 (.fieldAddr 5) [T 9],
      I 11 (.fieldAddr 1) [T 10],
      J (.store 1) [T 11, T 8]]))))))))
 (.seq (.region [I 6 (.mv) [N 0]])
 (.ret)))⟩
theorem t30 : trFn Try.prog Try.f30 = some c_swap_Device_Plan := by kernel_rfl
/-- pantry/spread.New -/
abbrev n_spread_New : Nat := 61
def c_spread_New : AFn := ⟨16, [.tmp 2],
 .seq (.region [I 2 (.mv) [.lit .nilptr]])
 (.seq (.seq (.region [I 4 (.mv) [T 0],
   I 5 (.bin .lss) [T 4, N 0],
   I 6 (.mv) [T 5],
   IG 7 (.mv) [T 0] 6 false,
   IG 8 (.bin .gtr) [T 7, N 4096] 6 false,
   I 9 (.pick) [T 6, .lit (.bool true), T 8]])
 (.cond (T 9)
 (.seq (.region [I 2 (.mv) [.lit .nilptr]])
  (.ret))
 (.skip)))
 (.seq (.region [I 10 (.build (.agg [.nilsl, (.int .i64 0), (.bool false)]) [(2, 1)]) [.lit (.bool true)],
   I 11 (.box 126 3) [T 10],
   I 3 (.mv) [T 11]])
 (.seq (.region [I 12 (.mv) [T 3],
   I 13 (.mv) [T 0],
   I 14 (.callv) [F 64, T 12, T 13]])
 (.seq (.region [I 15 (.mv) [T 3],
   I 2 (.mv) [T 15]])
 (.ret)))))⟩
theorem t61 : trFn Try.prog Try.f61 = some c_spread_New := by kernel_rfl
/-- pantry/pantryref11.New -/
abbrev n_ref11_New : Nat := 62
def c_ref11_New : AFn := ⟨13, [.tmp 2],
 .seq (.region [I 2 (.mv) [.lit .nilptr]])
 (.seq (.seq (.region [I 3 (.mv) [T 0],
   I 4 (.bin .lss) [T 3, N 0],
   I 5 (.mv) [T 4],
   IG 6 (.mv) [T 0] 5 false,
   IG 7 (.bin .gtr) [T 6, N 4096] 5 false,
   I 8 (.pick) [T 5, .lit (.bool true), T 7]])
 (.cond (T 8)
 (.seq (.region [I 2 (.mv) [.lit .nilptr]])
  (.ret))
 (.skip)))
 (.seq (.region [I 9 (.mv) [T 0],
   I 10 (.mkslice 3 1 8 (.vals [(.int .i64 0)])) [T 9, T 9],
   I 11 (.build (.agg [.nilsl]) [(0, 1)]) [T 10],
   I 12 (.box 115 1) [T 11],
   I 2 (.mv) [T 12]])
 (.ret)))⟩
theorem t62 : trFn Try.prog Try.f62 = some c_ref11_New := by kernel_rfl
/-- (*pantry/spread.Counts).Grow -/
abbrev n_spread_Counts_Grow : Nat := 64
def c_spread_Counts_Grow : AFn := ⟨47, [.tmp 4],
 .seq (.region [I 4 (.mv) [N 0]])
 (.seq (.block 0 (.seq (.region [I 6 (.mv) [T 0],
   I 7 (.callv) [F 112, T 6],
   I 8 (.un .not) [T 7],
   I 5 (.mv) [T 8]])
 (.cond (T 5)
 (.seq (.region [I 4 (.mv) [N 1]])
  (.ret))
 (.seq (.region [I 10 (.mv) [T 1],
    I 11 (.mv) [T 0],
    I 12 (.nilCheck) [T 11],
    I 13 (.fieldAddr 1) [T 12],
    I 14 (.load1) [T 13],
    I 15 (.bin .lss) [T 10, T 14],
    I 16 (.mv) [T 15],
    IG 17 (.mv) [T 1] 16 false,
    IG 18 (.bin .gtr) [T 17, N 4096] 16 false,
    I 19 (.pick) [T 16, .lit (.bool true), T 18],
    I 9 (.mv) [T 19]])
  (.cond (T 9)
  (.seq (.region [I 4 (.mv) [N 2]])
   (.ret))
  (.skip))))))
 (.seq (.seq (.region [I 20 (.mv) [T 1],
   I 21 (.mv) [T 0],
   I 22 (.nilCheck) [T 21],
   I 23 (.fieldAddr 1) [T 22],
   I 24 (.load1) [T 23],
   I 25 (.bin .gtr) [T 20, T 24]])
 (.cond (T 25)
 (.draw [[⟨0, I 26 (.mv) [T 0], [], false⟩,
    ⟨1, I 27 (.mv) [T 0], [], false⟩,
    ⟨2, I 28 (.nilCheck) [T 27], [], false⟩,
    ⟨3, I 29 (.fieldAddr 0) [T 28], [], false⟩,
    ⟨4, I 30 (.load1) [T 29], [], false⟩,
    ⟨6, I 32 (.mv) [T 0], [], false⟩,
    ⟨7, I 33 (.nilCheck) [T 32], [], false⟩,
    ⟨8, I 34 (.fieldAddr 1) [T 33], [], false⟩,
    ⟨9, I 35 (.load1) [T 34], [], false⟩,
    ⟨10, I 36 (.mv) [T 1], [], false⟩,
    ⟨11, I 37 (.build (.agg [(.int .i64 0), (.int .i64 0), (.int .i64 0)]) [(0, 1), (1, 1)]) [T 35, T 36], [], false⟩,
    ⟨5, I 31 (.callv) [F 114, T 30], [(9, I 35 (.load1) [T 34])], false⟩,
    ⟨12, I 38 (.bslice 121 3 1 (.vals [(.int .i64 0), (.int .i64 0), (.int .i64 0)]) [0]) [T 37], [(4, I 30 (.load1) [T 29])], false⟩,
    ⟨13, I 39 (.append 121 3 24 (.vals [(.int .i64 0), (.int .i64 0), (.int .i64 0)])) [T 31, T 38], [], false⟩,
    ⟨14, I 40 (.callv) [F 113, T 39], [], false⟩,
    ⟨15, I 41 (.nilCheck) [T 26], [], false⟩,
    ⟨16, I 42 (.fieldAddr 0) [T 41], [], false⟩,
    ⟨17, J (.store 1) [T 42, T 40], [], false⟩],
[⟨0, I 26 (.mv) [T 0], [], false⟩,
    ⟨1, I 27 (.mv) [T 0], [], false⟩,
    ⟨2, I 28 (.nilCheck) [T 27], [], false⟩,
    ⟨3, I 29 (.fieldAddr 0) [T 28], [], false⟩,
    ⟨4, I 30 (.load1) [T 29], [], false⟩,
    ⟨6, I 32 (.mv) [T 0], [], false⟩,
    ⟨7, I 33 (.nilCheck) [T 32], [], false⟩,
    ⟨8, I 34 (.fieldAddr 1) [T 33], [], false⟩,
    ⟨9, I 35 (.load1) [T 34], [], false⟩,
    ⟨10, I 36 (.mv) [T 1], [], false⟩,
    ⟨11, I 37 (.build (.agg [(.int .i64 0), (.int .i64 0), (.int .i64 0)]) [(0, 1), (1, 1)]) [T 35, T 36], [], false⟩,
    ⟨12, I 38 (.bslice 121 3 1 (.vals [(.int .i64 0), (.int .i64 0), (.int .i64 0)]) [0]) [T 37], [(4, I 30 (.load1) [T 29])], false⟩,
    ⟨5, I 31 (.callv) [F 114, T 30], [(9, I 35 (.load1) [T 34])], false⟩,
    ⟨13, I 39 (.append 121 3 24 (.vals [(.int .i64 0), (.int .i64 0), (.int .i64 0)])) [T 31, T 38], [], false⟩,
    ⟨14, I 40 (.callv) [F 113, T 39], [], false⟩,
    ⟨15, I 41 (.nilCheck) [T 26], [], false⟩,
    ⟨16, I 42 (.fieldAddr 0) [T 41], [], false⟩,
    ⟨17, J (.store 1) [T 42, T 40], [], false⟩]])
 (.skip)))
 (.seq (.region [I 43 (.mv) [T 0],
   I 44 (.mv) [T 1],
   I 45 (.nilCheck) [T 43],
   I 46 (.fieldAddr 1) [T 45],
   J (.store 1) [T 46, T 44]])
 (.seq (.region [I 4 (.mv) [N 0]])
 (.ret)))))⟩
theorem t64 : trFn Try.prog Try.f64 = some c_spread_Counts_Grow := by kernel_rfl
/-- (*pantry/spread.Counts).Add -/
abbrev n_spread_Counts_Add : Nat := 66
/-- live: [7, 10, 11, 12] -/
def c_spread_Counts_Add_L1 : ACode :=
 .seq (.seq (.region [I 53 (.load1) [T 7],
   I 54 (.bin .neq) [T 53, N 0],
   I 55 (.mv) [T 54],
   IG 56 (.load1) [T 7] 55 true,
   IG 57 (.fieldAddr 2) [T 11] 55 true,
   IG 58 (.load1) [T 57] 55 true,
   IG 59 (.un .neg) [T 58] 55 true,
   IG 60 (.bin .eql) [T 56, T 59] 55 true,
   I 61 (.pick) [T 55, T 60, .lit (.bool false)],
   I 62 (.mv) [T 61],
   IG 63 (.mv) [T 12] 62 true,
   IG 64 (.fieldAddr 1) [T 11] 62 true,
   IG 65 (.load1) [T 64] 62 true,
   IG 66 (.bin .lss) [T 63, T 65] 62 true,
   I 67 (.pick) [T 62, T 66, .lit (.bool false)]])
 (.cond (T 67)
 (.skip)
 (.exit 2)))
 (.seq (.block 3 (.region [I 70 (.load1) [T 10],
   I 71 (.mv) [T 12],
   I 72 (.bslice 3 1 1 (.vals [(.int .i64 0)]) [0]) [T 71],
   I 73 (.append 3 1 8 (.vals [(.int .i64 0)])) [T 70, T 72],
   J (.store 1) [T 10, T 73]]))
 (.region [I 68 (.mv) [T 12],
   I 69 (.bin .add) [T 68, N 1],
   I 12 (.mv) [T 69]]))
/-- live: [7, 8, 9, 10] -/
def c_spread_Counts_Add_A0 : ACode :=
 .region [I 11 (.alloc 121 3 (.vals [(.int .i64 0), (.int .i64 0), (.int .i64 0)])) [],
   J (.store 3) [T 11, T 38]]
def c_spread_Counts_Add_B0 : ACode :=
 .block 1 (.seq (.seq (.region [I 39 (.load1) [T 7],
   I 40 (.fieldAddr 2) [T 11],
   I 41 (.load1) [T 40],
   I 42 (.un .neg) [T 41],
   I 43 (.bin .lss) [T 39, T 42],
   I 44 (.mv) [T 43],
   IG 45 (.load1) [T 7] 44 false,
   IG 46 (.fieldAddr 2) [T 11] 44 false,
   IG 47 (.load1) [T 46] 44 false,
   IG 48 (.bin .sub) [N 1000000, T 47] 44 false,
   IG 49 (.bin .gtr) [T 45, T 48] 44 false,
   I 50 (.pick) [T 44, .lit (.bool true), T 49]])
 (.cond (T 50)
 (.seq (.region [J (.store 1) [T 8, .lit .nilsl],
    J (.store 1) [T 9, N 2]])
  (.ret))
 (.skip)))
 (.seq (.region [I 51 (.fieldAddr 0) [T 11],
   I 52 (.load1) [T 51],
   I 12 (.mv) [T 52]])
 (.block 2 (.loop c_spread_Counts_Add_L1))))
/-- live: [0, 1, 2, 7, 8, 9, 10, 13, 84, 85, 86] -/
def c_spread_Counts_Add_L2 : ACode :=
 .seq (.region [I 87 (.bin .lss) [T 86, T 85]])
 (.seq (.cond (T 87)
 (.skip)
 (.exit 4))
 (.seq (.block 5 (.seq (.region [I 88 (.mv) [T 86],
   I 89 (.indexs 3) [T 84, T 86],
   I 90 (.loadn 3) [T 89],
   I 15 (.alloc 121 3 (.vals [(.int .i64 0), (.int .i64 0), (.int .i64 0)])) [],
   I 14 (.mv) [T 88],
   J (.store 3) [T 15, T 90]])
 (.seq (.region [I 91 (.fieldAddr 0) [T 15],
   I 92 (.load1) [T 91],
   I 93 (.mv) [T 1],
   I 94 (.bin .geq) [T 92, T 93],
   I 95 (.mv) [T 94],
   IG 96 (.fieldAddr 1) [T 15] 95 true,
   IG 97 (.load1) [T 96] 95 true,
   IG 98 (.mv) [T 2] 95 true,
   IG 99 (.bin .leq) [T 97, T 98] 95 true,
   I 100 (.pick) [T 95, T 99, .lit (.bool false)]])
 (.cond (T 100)
 (.draw [[⟨0, I 101 (.mv) [T 13], [], false⟩,
    ⟨1, I 102 (.mv) [T 14], [], false⟩,
    ⟨2, I 103 (.indexs 3) [T 101, T 102], [], false⟩,
    ⟨3, I 104 (.fieldAddr 2) [T 103], [], false⟩,
    ⟨4, I 105 (.load1) [T 104], [], false⟩,
    ⟨5, I 106 (.load1) [T 7], [], false⟩,
    ⟨6, I 107 (.bin .add) [T 105, T 106], [], false⟩,
    ⟨7, I 108 (.indexs 3) [T 101, T 102], [], false⟩,
    ⟨8, I 109 (.fieldAddr 2) [T 108], [], false⟩,
    ⟨9, J (.store 1) [T 109, T 107], [], false⟩]])
 (.skip)))))
 (.region [I 110 (.bin .add) [T 86, N 1],
   I 86 (.mv) [T 110]])))
def c_spread_Counts_Add : AFn := ⟨117, [.cell 8 (.load1), .cell 9 (.load1)],
 .seq (.region [I 7 (.box 3 1) [T 3],
   I 8 (.alloc 77 1 (.vals [.nilsl])) [],
   I 9 (.alloc 32 1 (.vals [(.int .i64 0)])) []])
 (.seq (.seq (.region [I 16 (.mv) [T 0],
   I 17 (.callv) [F 112, T 16],
   I 18 (.un .not) [T 17]])
 (.cond (T 18)
 (.seq (.region [J (.store 1) [T 8, .lit .nilsl],
    J (.store 1) [T 9, N 1]])
  (.ret))
 (.skip)))
 (.seq (.seq (.region [I 19 (.mv) [T 1],
   I 20 (.bin .lss) [T 19, N 0],
   I 21 (.mv) [T 20],
   IG 22 (.mv) [T 2] 21 false,
   IG 23 (.mv) [T 0] 21 false,
   IG 24 (.nilCheck) [T 23] 21 false,
   IG 25 (.fieldAddr 1) [T 24] 21 false,
   IG 26 (.load1) [T 25] 21 false,
   IG 27 (.bin .gtr) [T 22, T 26] 21 false,
   I 28 (.pick) [T 21, .lit (.bool true), T 27],
   I 29 (.mv) [T 28],
   IG 30 (.mv) [T 1] 29 false,
   IG 31 (.mv) [T 2] 29 false,
   IG 32 (.bin .gtr) [T 30, T 31] 29 false,
   I 33 (.pick) [T 29, .lit (.bool true), T 32]])
 (.cond (T 33)
 (.seq (.region [J (.store 1) [T 8, .lit .nilsl],
    J (.store 1) [T 9, N 2]])
  (.ret))
 (.skip)))
 (.seq (.region [I 10 (.alloc 77 1 (.vals [.nilsl])) []])
 (.seq (.seq (.region [I 34 (.mv) [T 0],
   I 35 (.mv) [T 1],
   I 36 (.mv) [T 2],
   I 37 (.callv) [F 115, T 34, T 35, T 36]])
 (.block 0 (.rfun (T 37) [38] c_spread_Counts_Add_A0 c_spread_Counts_Add_B0)))
 (.seq (.region [I 74 (.mv) [T 0],
   I 75 (.nilCheck) [T 74],
   I 76 (.fieldAddr 0) [T 75],
   I 77 (.load1) [T 76],
   I 78 (.mv) [T 1],
   I 79 (.callv) [F 116, T 77, T 78],
   I 80 (.mv) [T 2],
   I 81 (.callv) [F 116, T 79, T 80],
   I 13 (.mv) [T 81]])
 (.seq (.region [I 82 (.mv) [T 13],
   I 83 (.callv) [F 114, T 82],
   I 13 (.mv) [T 83]])
 (.seq (.seq (.region [I 84 (.mv) [T 13],
   I 85 (.lens) [T 84],
   I 86 (.mv) [N 0]])
 (.block 4 (.loop c_spread_Counts_Add_L2)))
 (.seq (.region [I 111 (.mv) [T 0],
   I 112 (.mv) [T 13],
   I 113 (.callv) [F 113, T 112],
   I 114 (.nilCheck) [T 111],
   I 115 (.fieldAddr 0) [T 114],
   J (.store 1) [T 115, T 113]])
 (.seq (.region [I 116 (.load1) [T 10],
   J (.store 1) [T 8, T 116],
   J (.store 1) [T 9, N 0]])
 (.ret))))))))))⟩
theorem t66 : trFn Try.prog Try.f66 = some c_spread_Counts_Add := by kernel_rfl
/-- (*pantry/pantryref11.Counts).Add -/
abbrev n_ref11_Counts_Add : Nat := 67
/-- live: [0, 1, 2, 3, 38, 39, 40] -/
def c_ref11_Counts_Add_L0 : ACode :=
 .seq (.region [I 41 (.bin .lss) [T 40, T 39]])
 (.seq (.cond (T 41)
 (.skip)
 (.exit 0))
 (.seq (.block 1 (.seq (.region [I 42 (.indexs 1) [T 38, T 40],
   I 43 (.load1) [T 42],
   I 11 (.mv) [T 43]])
 (.seq (.region [I 44 (.mv) [T 3],
   I 45 (.mv) [T 11],
   I 46 (.un .neg) [T 45],
   I 47 (.bin .lss) [T 44, T 46],
   I 48 (.mv) [T 47],
   IG 49 (.mv) [T 3] 48 false,
   IG 50 (.mv) [T 11] 48 false,
   IG 51 (.bin .sub) [N 1000000, T 50] 48 false,
   IG 52 (.bin .gtr) [T 49, T 51] 48 false,
   I 53 (.pick) [T 48, .lit (.bool true), T 52]])
 (.cond (T 53)
 (.seq (.region [I 8 (.mv) [.lit .nilsl],
    I 9 (.mv) [N 2]])
  (.ret))
 (.skip)))))
 (.region [I 54 (.bin .add) [T 40, N 1],
   I 40 (.mv) [T 54]])))
/-- live: [0, 2, 3, 12, 13, 14] -/
def c_ref11_Counts_Add_L1 : ACode :=
 .seq (.seq (.region [I 62 (.mv) [T 14],
   I 63 (.mv) [T 2],
   I 64 (.bin .lss) [T 62, T 63]])
 (.cond (T 64)
 (.skip)
 (.exit 2)))
 (.seq (.block 3 (.seq (.region [I 67 (.mv) [T 12],
   I 68 (.mv) [T 14],
   I 69 (.indexs 1) [T 67, T 68],
   I 70 (.load1) [T 69],
   I 15 (.mv) [T 70]])
 (.seq (.region [I 71 (.mv) [T 12],
   I 72 (.mv) [T 14],
   I 73 (.indexs 1) [T 71, T 72],
   I 74 (.load1) [T 73],
   I 75 (.mv) [T 3],
   I 76 (.bin .add) [T 74, T 75],
   I 77 (.indexs 1) [T 71, T 72],
   J (.store 1) [T 77, T 76]])
 (.seq (.region [I 78 (.mv) [T 15],
   I 79 (.bin .neq) [T 78, N 0],
   I 80 (.mv) [T 79],
   IG 81 (.mv) [T 12] 80 true,
   IG 82 (.mv) [T 14] 80 true,
   IG 83 (.indexs 1) [T 81, T 82] 80 true,
   IG 84 (.load1) [T 83] 80 true,
   IG 85 (.bin .eql) [T 84, N 0] 80 true,
   I 86 (.pick) [T 80, T 85, .lit (.bool false)]])
 (.cond (T 86)
 (.region [I 87 (.mv) [T 13],
    I 88 (.mv) [T 14],
    I 89 (.bslice 3 1 1 (.vals [(.int .i64 0)]) [0]) [T 88],
    I 90 (.append 3 1 8 (.vals [(.int .i64 0)])) [T 87, T 89],
    I 13 (.mv) [T 90]])
 (.skip))))))
 (.region [I 65 (.mv) [T 14],
   I 66 (.bin .add) [T 65, N 1],
   I 14 (.mv) [T 66]]))
def c_ref11_Counts_Add : AFn := ⟨96, [.tmp 8, .tmp 9],
 .seq (.region [I 8 (.mv) [.lit .nilsl],
   I 9 (.mv) [N 0]])
 (.seq (.seq (.region [I 16 (.mv) [T 1],
   I 17 (.bin .lss) [T 16, N 0],
   I 18 (.mv) [T 17],
   IG 19 (.mv) [T 2] 18 false,
   IG 20 (.mv) [T 0] 18 false,
   IG 21 (.nilCheck) [T 20] 18 false,
   IG 22 (.fieldAddr 0) [T 21] 18 false,
   IG 23 (.load1) [T 22] 18 false,
   IG 24 (.lens) [T 23] 18 false,
   IG 25 (.bin .gtr) [T 19, T 24] 18 false,
   I 26 (.pick) [T 18, .lit (.bool true), T 25],
   I 27 (.mv) [T 26],
   IG 28 (.mv) [T 1] 27 false,
   IG 29 (.mv) [T 2] 27 false,
   IG 30 (.bin .gtr) [T 28, T 29] 27 false,
   I 31 (.pick) [T 27, .lit (.bool true), T 30]])
 (.cond (T 31)
 (.seq (.region [I 8 (.mv) [.lit .nilsl],
    I 9 (.mv) [N 2]])
  (.ret))
 (.skip)))
 (.seq (.seq (.region [I 32 (.mv) [T 0],
   I 33 (.nilCheck) [T 32],
   I 34 (.fieldAddr 0) [T 33],
   I 35 (.load1) [T 34],
   I 36 (.mv) [T 1],
   I 37 (.mv) [T 2],
   I 38 (.slice 1 true true false) [T 35, T 36, T 37],
   I 39 (.lens) [T 38],
   I 40 (.mv) [N 0]])
 (.block 0 (.loop c_ref11_Counts_Add_L0)))
 (.seq (.region [I 55 (.bslice 3 1 0 (.vals [(.int .i64 0)]) []) [],
   I 56 (.mv) [T 0],
   I 57 (.nilCheck) [T 56],
   I 58 (.fieldAddr 0) [T 57],
   I 59 (.load1) [T 58],
   I 60 (.append 3 1 8 (.vals [(.int .i64 0)])) [T 55, T 59],
   I 12 (.mv) [T 60]])
 (.seq (.region [I 13 (.mv) [.lit .nilsl]])
 (.seq (.seq (.region [I 61 (.mv) [T 1],
   I 14 (.mv) [T 61]])
 (.block 2 (.loop c_ref11_Counts_Add_L1)))
 (.seq (.region [I 91 (.mv) [T 0],
   I 92 (.mv) [T 12],
   I 93 (.nilCheck) [T 91],
   I 94 (.fieldAddr 0) [T 93],
   J (.store 1) [T 94, T 92]])
 (.seq (.region [I 95 (.mv) [T 13],
   I 8 (.mv) [T 95],
   I 9 (.mv) [N 0]])
 (.ret))))))))⟩
theorem t67 : trFn Try.prog Try.f67 = some c_ref11_Counts_Add := by kernel_rfl
/-- pantry/pantryref01.Ints -/
abbrev n_ref01_Ints : Nat := 68
/-- live: [0, 1, 12, 13] -/
def c_ref01_Ints_L0 : ACode :=
 .seq (.region [I 14 (.bin .lss) [T 13, T 12]])
 (.seq (.cond (T 14)
 (.skip)
 (.exit 0))
 (.seq (.block 1 (.seq (.region [I 15 (.mv) [T 13],
   I 5 (.mv) [T 15]])
 (.seq (.draw [[⟨0, I 16 (.mv) [T 0], [], false⟩,
   ⟨1, I 17 (.mv) [T 5], [], false⟩,
   ⟨2, I 18 (.indexs 1) [T 16, T 17], [], false⟩,
   ⟨3, I 19 (.load1) [T 18], [], false⟩,
   ⟨4, I 20 (.mv) [T 1], [], false⟩,
   ⟨5, I 21 (.mv) [T 5], [], false⟩,
   ⟨6, I 22 (.indexs 1) [T 20, T 21], [], false⟩,
   ⟨7, I 23 (.load1) [T 22], [], false⟩,
   ⟨8, I 24 (.bin .neq) [T 19, T 23], [], false⟩]])
 (.cond (T 24)
 (.seq (.region [I 4 (.mv) [.lit (.bool false)]])
  (.ret))
 (.skip)))))
 (.region [I 25 (.bin .add) [T 13, N 1],
   I 13 (.mv) [T 25]])))
def c_ref01_Ints : AFn := ⟨26, [.tmp 4],
 .seq (.region [I 4 (.mv) [.lit (.bool false)]])
 (.seq (.seq (.region [I 6 (.mv) [T 0],
   I 7 (.lens) [T 6],
   I 8 (.mv) [T 1],
   I 9 (.lens) [T 8],
   I 10 (.bin .neq) [T 7, T 9]])
 (.cond (T 10)
 (.seq (.region [I 4 (.mv) [.lit (.bool false)]])
  (.ret))
 (.skip)))
 (.seq (.seq (.region [I 11 (.mv) [T 0],
   I 12 (.lens) [T 11],
   I 13 (.mv) [N 0]])
 (.block 0 (.loop c_ref01_Ints_L0)))
 (.seq (.region [I 4 (.mv) [.lit (.bool true)]])
 (.ret))))⟩
theorem t68 : trFn Try.prog Try.f68 = some c_ref01_Ints := by kernel_rfl
/-- (*pantry/spread.Counts).Len -/
abbrev n_spread_Counts_Len : Nat := 69
def c_spread_Counts_Len : AFn := ⟨10, [.tmp 2],
 .seq (.region [I 2 (.mv) [N 0]])
 (.seq (.seq (.region [I 3 (.mv) [T 0],
   I 4 (.callv) [F 112, T 3],
   I 5 (.un .not) [T 4]])
 (.cond (T 5)
 (.seq (.region [I 2 (.mv) [N 0]])
  (.ret))
 (.skip)))
 (.seq (.region [I 6 (.mv) [T 0],
   I 7 (.nilCheck) [T 6],
   I 8 (.fieldAddr 1) [T 7],
   I 9 (.load1) [T 8],
   I 2 (.mv) [T 9]])
 (.ret)))⟩
theorem t69 : trFn Try.prog Try.f69 = some c_spread_Counts_Len := by kernel_rfl
/-- (*pantry/spread.Counts).At -/
abbrev n_spread_Counts_At : Nat := 70
/-- live: [4] -/
def c_spread_Counts_At_A0 : ACode :=
 .region [I 5 (.alloc 121 3 (.vals [(.int .i64 0), (.int .i64 0), (.int .i64 0)])) [],
   J (.store 3) [T 5, T 19]]
def c_spread_Counts_At_B0 : ACode :=
 .block 1 (.seq (.region [I 20 (.fieldAddr 2) [T 5],
   I 21 (.load1) [T 20],
   J (.store 1) [T 4, T 21]])
 (.ret))
def c_spread_Counts_At : AFn := ⟨22, [.cell 4 (.load1)],
 .seq (.region [I 4 (.alloc 3 1 (.vals [(.int .i64 0)])) []])
 (.seq (.seq (.region [I 6 (.mv) [T 1],
   I 7 (.bin .lss) [T 6, N 0],
   I 8 (.mv) [T 7],
   IG 9 (.mv) [T 1] 8 false,
   IG 10 (.mv) [T 0] 8 false,
   IG 11 (.callv) [F 69, T 10] 8 false,
   IG 12 (.bin .geq) [T 9, T 11] 8 false,
   I 13 (.pick) [T 8, .lit (.bool true), T 12]])
 (.cond (T 13)
 (.seq (.region [J (.store 1) [T 4, N (-1)]])
  (.ret))
 (.skip)))
 (.seq (.seq (.region [I 14 (.mv) [T 0],
   I 15 (.mv) [T 1],
   I 16 (.mv) [T 1],
   I 17 (.bin .add) [T 16, N 1],
   I 18 (.callv) [F 115, T 14, T 15, T 17]])
 (.block 0 (.rfun (T 18) [19] c_spread_Counts_At_A0 c_spread_Counts_At_B0)))
 (.seq (.region [J (.store 1) [T 4, N (-1)]])
 (.ret))))⟩
theorem t70 : trFn Try.prog Try.f70 = some c_spread_Counts_At := by kernel_rfl
/-- (*pantry/pantryref11.Counts).At -/
abbrev n_ref11_Counts_At : Nat := 71
def c_ref11_Counts_At : AFn := ⟨23, [.tmp 4],
 .seq (.region [I 4 (.mv) [N 0]])
 (.seq (.seq (.region [I 5 (.mv) [T 1],
   I 6 (.bin .lss) [T 5, N 0],
   I 7 (.mv) [T 6],
   IG 8 (.mv) [T 1] 7 false,
   IG 9 (.mv) [T 0] 7 false,
   IG 10 (.nilCheck) [T 9] 7 false,
   IG 11 (.fieldAddr 0) [T 10] 7 false,
   IG 12 (.load1) [T 11] 7 false,
   IG 13 (.lens) [T 12] 7 false,
   IG 14 (.bin .geq) [T 8, T 13] 7 false,
   I 15 (.pick) [T 7, .lit (.bool true), T 14]])
 (.cond (T 15)
 (.seq (.region [I 4 (.mv) [N (-1)]])
  (.ret))
 (.skip)))
 (.seq (.region [I 16 (.mv) [T 0],
   I 17 (.nilCheck) [T 16],
   I 18 (.fieldAddr 0) [T 17],
   I 19 (.load1) [T 18],
   I 20 (.mv) [T 1],
   I 21 (.indexs 1) [T 19, T 20],
   I 22 (.load1) [T 21],
   I 4 (.mv) [T 22]])
 (.ret)))⟩
theorem t71 : trFn Try.prog Try.f71 = some c_ref11_Counts_At := by kernel_rfl
/-- (*pantry/spread.Counts).Sum -/
abbrev n_spread_Counts_Sum : Nat := 72
/-- live: [3] -/
def c_spread_Counts_Sum_A0 : ACode :=
 .region [I 4 (.alloc 121 3 (.vals [(.int .i64 0), (.int .i64 0), (.int .i64 0)])) [],
   J (.store 3) [T 4, T 9]]
def c_spread_Counts_Sum_B0 : ACode :=
 .block 1 (.region [I 10 (.load1) [T 3],
   I 11 (.fieldAddr 2) [T 4],
   I 12 (.load1) [T 11],
   I 13 (.fieldAddr 1) [T 4],
   I 14 (.load1) [T 13],
   I 15 (.fieldAddr 0) [T 4],
   I 16 (.load1) [T 15],
   I 17 (.bin .sub) [T 14, T 16],
   I 18 (.bin .mul) [T 12, T 17],
   I 19 (.bin .add) [T 10, T 18],
   J (.store 1) [T 3, T 19]])
def c_spread_Counts_Sum : AFn := ⟨21, [.tmp 2],
 .seq (.region [I 2 (.mv) [N 0]])
 (.seq (.region [I 3 (.alloc 3 1 (.vals [(.int .i64 0)])) [],
   J (.store 1) [T 3, N 0]])
 (.seq (.seq (.region [I 5 (.mv) [T 0],
   I 6 (.mv) [T 0],
   I 7 (.callv) [F 69, T 6],
   I 8 (.callv) [F 115, T 5, N 0, T 7]])
 (.block 0 (.rfun (T 8) [9] c_spread_Counts_Sum_A0 c_spread_Counts_Sum_B0)))
 (.seq (.region [I 20 (.load1) [T 3],
   I 2 (.mv) [T 20]])
 (.ret))))⟩
theorem t72 : trFn Try.prog Try.f72 = some c_spread_Counts_Sum := by kernel_rfl
/-- (*pantry/pantryref11.Counts).Sum -/
abbrev n_ref11_Counts_Sum : Nat := 73
/-- live: [3, 9, 10, 11] -/
def c_ref11_Counts_Sum_L0 : ACode :=
 .seq (.region [I 12 (.bin .lss) [T 11, T 10]])
 (.seq (.cond (T 12)
 (.skip)
 (.exit 0))
 (.seq (.block 1 (.seq (.region [I 13 (.indexs 1) [T 9, T 11],
   I 14 (.load1) [T 13],
   I 5 (.mv) [T 14]])
 (.region [I 15 (.mv) [T 3],
   I 16 (.mv) [T 5],
   I 17 (.bin .add) [T 15, T 16],
   I 3 (.mv) [T 17]])))
 (.region [I 18 (.bin .add) [T 11, N 1],
   I 11 (.mv) [T 18]])))
def c_ref11_Counts_Sum : AFn := ⟨20, [.tmp 2],
 .seq (.region [I 2 (.mv) [N 0]])
 (.seq (.region [I 3 (.mv) [N 0]])
 (.seq (.seq (.region [I 6 (.mv) [T 0],
   I 7 (.nilCheck) [T 6],
   I 8 (.fieldAddr 0) [T 7],
   I 9 (.load1) [T 8],
   I 10 (.lens) [T 9],
   I 11 (.mv) [N 0]])
 (.block 0 (.loop c_ref11_Counts_Sum_L0)))
 (.seq (.region [I 19 (.mv) [T 3],
   I 2 (.mv) [T 19]])
 (.ret))))⟩
theorem t73 : trFn Try.prog Try.f73 = some c_ref11_Counts_Sum := by kernel_rfl
/-- (*pantry/spread.Counts).Runs -/
abbrev n_spread_Counts_Runs : Nat := 75
def c_spread_Counts_Runs : AFn := ⟨11, [.tmp 2],
 .seq (.region [I 2 (.mv) [.lit .nilsl]])
 (.seq (.seq (.region [I 3 (.mv) [T 0],
   I 4 (.callv) [F 112, T 3],
   I 5 (.un .not) [T 4]])
 (.cond (T 5)
 (.seq (.region [I 2 (.mv) [.lit .nilsl]])
  (.ret))
 (.skip)))
 (.seq (.region [I 6 (.mv) [T 0],
   I 7 (.nilCheck) [T 6],
   I 8 (.fieldAddr 0) [T 7],
   I 9 (.load1) [T 8],
   I 10 (.callv) [F 114, T 9],
   I 2 (.mv) [T 10]])
 (.ret)))⟩
theorem t75 : trFn Try.prog Try.f75 = some c_spread_Counts_Runs := by kernel_rfl
/-- pantry/amap.New -/
abbrev n_amap_New : Nat := 78
def c_amap_New : AFn := ⟨12, [.tmp 2],
 .seq (.region [I 2 (.mv) [.lit .nilptr]])
 (.seq (.seq (.region [I 3 (.mv) [T 0],
   I 4 (.bin .lss) [T 3, N 0],
   I 5 (.mv) [T 4],
   IG 6 (.mv) [T 0] 5 false,
   IG 7 (.bin .gtr) [T 6, N 4096] 5 false,
   I 8 (.pick) [T 5, .lit (.bool true), T 7]])
 (.cond (T 8)
 (.seq (.region [I 2 (.mv) [.lit .nilptr]])
  (.ret))
 (.skip)))
 (.seq (.region [I 9 (.mv) [T 0],
   I 10 (.build (.agg [(.int .i64 0), (.bool false), .nilsl, (.int .i64 0)]) [(0, 1), (1, 1)]) [T 9, .lit (.bool true)],
   I 11 (.box 156 4) [T 10],
   I 2 (.mv) [T 11]])
 (.ret)))⟩
theorem t78 : trFn Try.prog Try.f78 = some c_amap_New := by kernel_rfl
/-- (*pantry/amap.Pool).Make -/
abbrev n_amap_Pool_Make : Nat := 79
def c_amap_Pool_Make : AFn := ⟨79, [.tmp 4, .tmp 5],
 .seq (.region [I 4 (.mv) [N 0],
   I 5 (.mv) [N 0]])
 (.seq (.block 0 (.seq (.region [I 9 (.mv) [T 0],
   I 10 (.callv) [F 117, T 9],
   I 11 (.un .not) [T 10],
   I 8 (.mv) [T 11]])
 (.cond (T 8)
 (.seq (.region [I 4 (.mv) [N 0],
    I 5 (.mv) [N 1]])
  (.ret))
 (.seq (.region [I 13 (.mv) [T 1],
    I 14 (.bin .lss) [T 13, N 1],
    I 15 (.mv) [T 14],
    IG 16 (.mv) [T 1] 15 false,
    IG 17 (.bin .gtr) [T 16, N 4096] 15 false,
    I 18 (.pick) [T 15, .lit (.bool true), T 17],
    I 12 (.mv) [T 18]])
  (.cond (T 12)
  (.seq (.region [I 4 (.mv) [N 0],
     I 5 (.mv) [N 2]])
   (.ret))
  (.seq (.draw [[⟨0, I 20 (.mv) [T 0], [], false⟩,
     ⟨1, I 21 (.nilCheck) [T 20], [], false⟩,
     ⟨2, I 22 (.fieldAddr 3) [T 21], [], false⟩,
     ⟨3, I 23 (.load1) [T 22], [], false⟩,
     ⟨4, I 24 (.mv) [T 0], [], false⟩,
     ⟨5, I 25 (.nilCheck) [T 24], [], false⟩,
     ⟨6, I 26 (.fieldAddr 0) [T 25], [], false⟩,
     ⟨7, I 27 (.load1) [T 26], [], false⟩,
     ⟨8, I 28 (.bin .geq) [T 23, T 27], [], false⟩,
     ⟨9, I 19 (.mv) [T 28], [], false⟩]])
   (.cond (T 19)
   (.seq (.region [I 4 (.mv) [N 0],
      I 5 (.mv) [N 5]])
    (.ret))
   (.skip))))))))
 (.seq (.draw [[⟨0, I 29 (.mv) [T 1], [], false⟩,
   ⟨2, I 31 (.mv) [T 1], [], false⟩,
   ⟨1, I 30 (.callv) [F 61, T 29], [], false⟩,
   ⟨3, I 32 (.mkslice 3 1 8 (.vals [(.int .i64 0)])) [T 31, T 31], [], false⟩,
   ⟨4, I 33 (.build (.agg [.nilptr, .nilsl]) [(0, 1), (1, 1)]) [T 30, T 32], [], false⟩,
   ⟨5, I 34 (.box 179 2) [T 33], [], false⟩,
   ⟨6, I 6 (.mv) [T 34], [], false⟩],
[⟨0, I 29 (.mv) [T 1], [], false⟩,
   ⟨2, I 31 (.mv) [T 1], [], false⟩,
   ⟨3, I 32 (.mkslice 3 1 8 (.vals [(.int .i64 0)])) [T 31, T 31], [], false⟩,
   ⟨1, I 30 (.callv) [F 61, T 29], [], false⟩,
   ⟨4, I 33 (.build (.agg [.nilptr, .nilsl]) [(0, 1), (1, 1)]) [T 30, T 32], [], false⟩,
   ⟨5, I 34 (.box 179 2) [T 33], [], false⟩,
   ⟨6, I 6 (.mv) [T 34], [], false⟩]])
 (.seq (.region [I 35 (.mv) [T 6],
   I 36 (.nilCheck) [T 35],
   I 37 (.fieldAddr 0) [T 36],
   I 38 (.load1) [T 37],
   I 39 (.mv) [T 1],
   I 40 (.callv) [F 66, T 38, N 0, T 39, N 1]])
 (.seq (.region [I 41 (.mv) [T 0],
   I 42 (.nilCheck) [T 41],
   I 43 (.fieldAddr 3) [T 42],
   I 44 (.load1) [T 43],
   I 45 (.bin .add) [T 44, N 1],
   I 46 (.nilCheck) [T 41],
   I 47 (.fieldAddr 3) [T 46],
   J (.store 1) [T 47, T 45]])
 (.seq (.seq (.region [I 48 (.mv) [T 0],
   I 49 (.nilCheck) [T 48],
   I 50 (.fieldAddr 2) [T 49],
   I 51 (.load1) [T 50],
   I 52 (.callv) [F 118, T 51, .lit .nilptr],
   I 7 (.mv) [T 52]])
 (.seq (.region [I 53 (.mv) [T 7],
   I 54 (.bin .geq) [T 53, N 0]])
 (.cond (T 54)
 (.seq (.region [I 55 (.mv) [T 0],
    I 56 (.nilCheck) [T 55],
    I 57 (.fieldAddr 2) [T 56],
    I 58 (.load1) [T 57],
    I 59 (.mv) [T 7],
    I 60 (.mv) [T 6],
    I 61 (.indexs 1) [T 58, T 59],
    J (.store 1) [T 61, T 60]])
  (.seq (.region [I 62 (.mv) [T 7],
    I 63 (.bin .add) [T 62, N 1],
    I 4 (.mv) [T 63],
    I 5 (.mv) [N 0]])
  (.ret)))
 (.skip))))
 (.seq (.region [I 64 (.mv) [T 0],
   I 65 (.mv) [T 0],
   I 66 (.nilCheck) [T 65],
   I 67 (.fieldAddr 2) [T 66],
   I 68 (.load1) [T 67],
   I 69 (.mv) [T 6],
   I 70 (.bslice 177 1 1 (.vals [.nilptr]) [0]) [T 69],
   I 71 (.append 177 1 8 (.vals [.nilptr])) [T 68, T 70],
   I 72 (.nilCheck) [T 64],
   I 73 (.fieldAddr 2) [T 72],
   J (.store 1) [T 73, T 71]])
 (.seq (.region [I 74 (.mv) [T 0],
   I 75 (.nilCheck) [T 74],
   I 76 (.fieldAddr 2) [T 75],
   I 77 (.load1) [T 76],
   I 78 (.lens) [T 77],
   I 4 (.mv) [T 78],
   I 5 (.mv) [N 0]])
 (.ret))))))))⟩
theorem t79 : trFn Try.prog Try.f79 = some c_amap_Pool_Make := by kernel_rfl
/-- (*pantry/amap.Pool).Set -/
abbrev n_amap_Pool_Set : Nat := 80
def c_amap_Pool_Set : AFn := ⟨48, [.tmp 8, .tmp 9],
 .seq (.region [I 8 (.mv) [N 0],
   I 9 (.mv) [N 0]])
 (.seq (.region [I 14 (.mv) [T 0],
   I 15 (.mv) [T 1],
   I 16 (.callv) [F 119, T 14, T 15],
   I 13 (.mv) [T 16],
   I 17 (.extract 0) [T 13],
   I 18 (.extract 1) [T 13],
   I 10 (.mv) [T 17],
   I 11 (.mv) [T 18]])
 (.seq (.block 0 (.seq (.region [I 20 (.mv) [T 11],
   I 21 (.bin .neq) [T 20, N 0],
   I 19 (.mv) [T 21]])
 (.cond (T 19)
 (.seq (.region [I 22 (.mv) [T 11],
    I 8 (.mv) [N 0],
    I 9 (.mv) [T 22]])
  (.ret))
 (.seq (.region [I 24 (.mv) [T 0],
    I 25 (.mv) [T 1],
    I 26 (.mv) [T 2],
    I 27 (.callv) [F 87, T 24, T 25, T 26],
    I 28 (.bin .eql) [T 27, N 0],
    I 29 (.mv) [T 28],
    IG 30 (.mv) [T 3] 29 false,
    IG 31 (.bin .lss) [T 30, N 0] 29 false,
    I 32 (.pick) [T 29, .lit (.bool true), T 31],
    I 23 (.mv) [T 32]])
  (.cond (T 23)
  (.seq (.region [I 8 (.mv) [N 0],
     I 9 (.mv) [N 2]])
   (.ret))
  (.skip))))))
 (.seq (.region [I 33 (.mv) [T 10],
   I 34 (.nilCheck) [T 33],
   I 35 (.fieldAddr 1) [T 34],
   I 36 (.load1) [T 35],
   I 37 (.mv) [T 2],
   I 38 (.indexs 1) [T 36, T 37],
   I 39 (.load1) [T 38],
   I 12 (.mv) [T 39]])
 (.seq (.region [I 40 (.mv) [T 10],
   I 41 (.nilCheck) [T 40],
   I 42 (.fieldAddr 1) [T 41],
   I 43 (.load1) [T 42],
   I 44 (.mv) [T 2],
   I 45 (.mv) [T 3],
   I 46 (.indexs 1) [T 43, T 44],
   J (.store 1) [T 46, T 45]])
 (.seq (.region [I 47 (.mv) [T 12],
   I 8 (.mv) [T 47],
   I 9 (.mv) [N 0]])
 (.ret))))))⟩
theorem t80 : trFn Try.prog Try.f80 = some c_amap_Pool_Set := by kernel_rfl
/-- (*pantry/amap.Pool).Drop -/
abbrev n_amap_Pool_Drop : Nat := 81
/-- live: [0, 1, 10, 13, 43, 44, 45] -/
def c_amap_Pool_Drop_L0 : ACode :=
 .seq (.region [I 46 (.bin .lss) [T 45, T 44]])
 (.seq (.cond (T 46)
 (.skip)
 (.exit 0))
 (.seq (.block 1 (.seq (.region [I 47 (.indexs 1) [T 43, T 45],
   I 48 (.load1) [T 47],
   I 15 (.mv) [T 48]])
 (.seq (.seq (.region [I 49 (.mv) [T 10],
   I 50 (.nilCheck) [T 49],
   I 51 (.fieldAddr 1) [T 50],
   I 52 (.load1) [T 51],
   I 53 (.mv) [T 15],
   I 54 (.indexs 1) [T 52, T 53],
   I 55 (.load1) [T 54],
   I 56 (.bin .gtr) [T 55, N 0]])
 (.cond (T 56)
 (.region [I 57 (.mv) [T 13],
    I 58 (.mv) [T 10],
    I 59 (.nilCheck) [T 58],
    I 60 (.fieldAddr 1) [T 59],
    I 61 (.load1) [T 60],
    I 62 (.mv) [T 15],
    I 63 (.indexs 1) [T 61, T 62],
    I 64 (.load1) [T 63],
    I 65 (.bslice 3 1 1 (.vals [(.int .i64 0)]) [0]) [T 64],
    I 66 (.append 3 1 8 (.vals [(.int .i64 0)])) [T 57, T 65],
    I 13 (.mv) [T 66]])
 (.skip)))
 (.region [I 67 (.mv) [T 10],
   I 68 (.nilCheck) [T 67],
   I 69 (.fieldAddr 1) [T 68],
   I 70 (.load1) [T 69],
   I 71 (.mv) [T 15],
   I 72 (.indexs 1) [T 70, T 71],
   J (.store 1) [T 72, N 0]]))))
 (.region [I 73 (.bin .add) [T 45, N 1],
   I 45 (.mv) [T 73]])))
def c_amap_Pool_Drop : AFn := ⟨95, [.tmp 8, .tmp 9],
 .seq (.region [I 8 (.mv) [.lit .nilsl],
   I 9 (.mv) [N 0]])
 (.seq (.region [I 17 (.mv) [T 0],
   I 18 (.mv) [T 1],
   I 19 (.callv) [F 119, T 17, T 18],
   I 16 (.mv) [T 19],
   I 20 (.extract 0) [T 16],
   I 21 (.extract 1) [T 16],
   I 10 (.mv) [T 20],
   I 11 (.mv) [T 21]])
 (.seq (.seq (.region [I 22 (.mv) [T 11],
   I 23 (.bin .neq) [T 22, N 0]])
 (.cond (T 23)
 (.seq (.region [I 24 (.mv) [T 11],
    I 8 (.mv) [.lit .nilsl],
    I 9 (.mv) [T 24]])
  (.ret))
 (.skip)))
 (.seq (.seq (.region [I 25 (.mv) [T 10],
   I 26 (.mv) [T 2],
   I 27 (.mv) [T 3],
   I 28 (.callv) [F 120, T 25, T 26, T 27],
   I 29 (.un .not) [T 28]])
 (.cond (T 29)
 (.seq (.region [I 8 (.mv) [.lit .nilsl],
    I 9 (.mv) [N 2]])
  (.ret))
 (.skip)))
 (.seq (.region [I 31 (.mv) [T 10],
   I 32 (.nilCheck) [T 31],
   I 33 (.fieldAddr 0) [T 32],
   I 34 (.load1) [T 33],
   I 35 (.mv) [T 2],
   I 36 (.mv) [T 3],
   I 37 (.callv) [F 66, T 34, T 35, T 36, N (-1)],
   I 30 (.mv) [T 37],
   I 38 (.extract 0) [T 30],
   I 39 (.extract 1) [T 30],
   I 12 (.mv) [T 38],
   I 11 (.mv) [T 39]])
 (.seq (.seq (.region [I 40 (.mv) [T 11],
   I 41 (.bin .neq) [T 40, N 0]])
 (.cond (T 41)
 (.seq (.region [I 42 (.mv) [T 11],
    I 8 (.mv) [.lit .nilsl],
    I 9 (.mv) [T 42]])
  (.ret))
 (.skip)))
 (.seq (.region [I 13 (.mv) [.lit .nilsl]])
 (.seq (.seq (.region [I 43 (.mv) [T 12],
   I 44 (.lens) [T 43],
   I 45 (.mv) [N 0]])
 (.block 0 (.loop c_amap_Pool_Drop_L0)))
 (.seq (.seq (.region [I 74 (.mv) [T 10],
   I 75 (.nilCheck) [T 74],
   I 76 (.fieldAddr 0) [T 75],
   I 77 (.load1) [T 76],
   I 78 (.callv) [F 72, T 77],
   I 79 (.bin .eql) [T 78, N 0]])
 (.cond (T 79)
 (.seq (.region [I 80 (.mv) [T 0],
    I 81 (.nilCheck) [T 80],
    I 82 (.fieldAddr 2) [T 81],
    I 83 (.load1) [T 82],
    I 84 (.mv) [T 1],
    I 85 (.bin .sub) [T 84, N 1],
    I 86 (.indexs 1) [T 83, T 85],
    J (.store 1) [T 86, .lit .nilptr]])
  (.region [I 87 (.mv) [T 0],
    I 88 (.nilCheck) [T 87],
    I 89 (.fieldAddr 3) [T 88],
    I 90 (.load1) [T 89],
    I 91 (.bin .sub) [T 90, N 1],
    I 92 (.nilCheck) [T 87],
    I 93 (.fieldAddr 3) [T 92],
    J (.store 1) [T 93, T 91]]))
 (.skip)))
 (.seq (.region [I 94 (.mv) [T 13],
   I 8 (.mv) [T 94],
   I 9 (.mv) [N 0]])
 (.ret))))))))))⟩
theorem t81 : trFn Try.prog Try.f81 = some c_amap_Pool_Drop := by kernel_rfl
/-- (*pantry/amap.Pool).Slots -/
abbrev n_amap_Pool_Slots : Nat := 82
def c_amap_Pool_Slots : AFn := ⟨16, [.tmp 4],
 .seq (.region [I 4 (.mv) [N 0]])
 (.seq (.seq (.region [I 6 (.mv) [T 0],
   I 7 (.mv) [T 1],
   I 8 (.callv) [F 121, T 6, T 7],
   I 5 (.mv) [T 8]])
 (.seq (.region [I 9 (.mv) [T 5],
   I 10 (.eqv true .ptr) [T 9, .lit .nilptr]])
 (.cond (T 10)
 (.seq (.region [I 11 (.mv) [T 5],
    I 12 (.nilCheck) [T 11],
    I 13 (.fieldAddr 1) [T 12],
    I 14 (.load1) [T 13],
    I 15 (.lens) [T 14],
    I 4 (.mv) [T 15]])
  (.ret))
 (.skip))))
 (.seq (.region [I 4 (.mv) [N 0]])
 (.ret)))⟩
theorem t82 : trFn Try.prog Try.f82 = some c_amap_Pool_Slots := by kernel_rfl
/-- (*pantry/amap.Pool).Get -/
abbrev n_amap_Pool_Get : Nat := 83
def c_amap_Pool_Get : AFn := ⟨25, [.tmp 6],
 .seq (.region [I 6 (.mv) [N 0]])
 (.seq (.seq (.region [I 7 (.mv) [T 2],
   I 8 (.bin .lss) [T 7, N 0],
   I 9 (.mv) [T 8],
   IG 10 (.mv) [T 2] 9 false,
   IG 11 (.mv) [T 0] 9 false,
   IG 12 (.mv) [T 1] 9 false,
   IG 13 (.callv) [F 82, T 11, T 12] 9 false,
   IG 14 (.bin .geq) [T 10, T 13] 9 false,
   I 15 (.pick) [T 9, .lit (.bool true), T 14]])
 (.cond (T 15)
 (.seq (.region [I 6 (.mv) [N 0]])
  (.ret))
 (.skip)))
 (.seq (.region [I 16 (.mv) [T 0],
   I 17 (.mv) [T 1],
   I 18 (.callv) [F 121, T 16, T 17],
   I 19 (.nilCheck) [T 18],
   I 20 (.fieldAddr 1) [T 19],
   I 21 (.load1) [T 20],
   I 22 (.mv) [T 2],
   I 23 (.indexs 1) [T 21, T 22],
   I 24 (.load1) [T 23],
   I 6 (.mv) [T 24]])
 (.ret)))⟩
theorem t83 : trFn Try.prog Try.f83 = some c_amap_Pool_Get := by kernel_rfl
/-- pantry/pantrylaw13.lives -/
abbrev n_law13_lives : Nat := 84
def c_law13_lives : AFn := ⟨60, [.tmp 0],
 .seq (.region [I 0 (.mv) [.lit (.bool false)]])
 (.seq (.region [I 9 (.callv) [F 78, N 9],
   I 1 (.mv) [T 9]])
 (.seq (.region [I 11 (.mv) [T 1],
   I 12 (.callv) [F 79, T 11, N 4],
   I 10 (.mv) [T 12],
   I 13 (.extract 0) [T 10],
   I 14 (.extract 1) [T 10],
   I 2 (.mv) [T 13],
   I 3 (.mv) [T 14]])
 (.seq (.region [I 16 (.mv) [T 1],
   I 17 (.callv) [F 80, T 16, N 1, N 2, N 9],
   I 15 (.mv) [T 17],
   I 18 (.extract 0) [T 15],
   I 19 (.extract 1) [T 15],
   I 4 (.mv) [T 18],
   I 5 (.mv) [T 19]])
 (.seq (.region [I 20 (.mv) [T 1],
   I 21 (.callv) [F 85, T 20, N 1, N 0, N 2],
   I 6 (.mv) [T 21]])
 (.seq (.region [I 23 (.mv) [T 1],
   I 24 (.callv) [F 81, T 23, N 1, N 0, N 4],
   I 22 (.mv) [T 24],
   I 25 (.extract 0) [T 22],
   I 26 (.extract 1) [T 22],
   I 7 (.mv) [T 25],
   I 8 (.mv) [T 26]])
 (.seq (.region (I 27 (.mv) [T 2] ::
   I 28 (.bin .eql) [T 27, N 1] ::
   I 29 (.mv) [T 28] ::
   IG 30 (.mv) [T 3] 29 true ::
   IG 31 (.bin .eql) [T 30, N 0] 29 true ::
   I 32 (.pick) [T 29, T 31, .lit (.bool false)] ::
   I 33 (.mv) [T 32] ::
   IG 34 (.mv) [T 5] 33 true ::
   IG 35 (.bin .eql) [T 34, N 0] 33 true ::
   I 36 (.pick) [T 33, T 35, .lit (.bool false)] ::
   I 37 (.mv) [T 36] ::
   IG 38 (.mv) [T 6] 37 true ::
   IG 39 (.bin .eql) [T 38, N 0] 37 true ::
   I 40 (.pick) [T 37, T 39, .lit (.bool false)] ::
   I 41 (.mv) [T 40] ::
   IG 42 (.mv) [T 8] 41 true ::
   IG 43 (.bin .eql) [T 42, N 0] 41 true ::
   I 44 (.pick) [T 41, T 43, .lit (.bool false)] ::
   I 45 (.mv) [T 44] ::
   IG 46 (.mv) [T 7] 45 true ::
   IG 47 (.bslice 3 1 1 (.vals [(.int .i64 0)]) [0]) [N 9] 45 true ::
   IG 48 (.callv) [F 68, T 46, T 47] 45 true ::
   I 49 (.pick) [T 45, T 48, .lit (.bool false)] ::
   I 50 (.mv) [T 49] ::
   IG 51 (.mv) [T 1] 50 true ::
   IG 52 (.callv) [F 87, T 51, N 1, N 0] 50 true ::
   IG 53 (.bin .eql) [T 52, N 1] 50 true ::
   I 54 (.pick) [T 50, T 53, .lit (.bool false)] ::
   I 55 (.mv) [T 54] ::
   IG 56 (.mv) [T 1] 55 true ::
   IG 57 (.callv) [F 87, T 56, N 1, N 2] 55 true ::
   IG 58 (.bin .eql) [T 57, N 0] 55 true ::
   I 59 (.pick) [T 55, T 58, .lit (.bool false)] ::
   I 0 (.mv) [T 59] ::
   []))
 (.ret)))))))⟩
theorem t84 : trFn Try.prog Try.f84 = some c_law13_lives := by kernel_rfl
/-- (*pantry/amap.Pool).Hold -/
abbrev n_amap_Pool_Hold : Nat := 85
/-- live: [2, 3, 9, 31, 32, 33] -/
def c_amap_Pool_Hold_L0 : ACode :=
 .seq (.region [I 34 (.bin .lss) [T 33, T 32]])
 (.seq (.cond (T 34)
 (.skip)
 (.exit 0))
 (.seq (.block 1 (.seq (.region [I 35 (.indexs 3) [T 31, T 33],
   I 36 (.loadn 3) [T 35],
   I 12 (.alloc 121 3 (.vals [(.int .i64 0), (.int .i64 0), (.int .i64 0)])) [],
   J (.store 3) [T 12, T 36]])
 (.seq (.region [I 37 (.fieldAddr 2) [T 12],
   I 38 (.load1) [T 37],
   I 39 (.bin .eql) [T 38, N 0],
   I 40 (.mv) [T 39],
   IG 41 (.fieldAddr 0) [T 12] 40 true,
   IG 42 (.load1) [T 41] 40 true,
   IG 43 (.mv) [T 3] 40 true,
   IG 44 (.bin .lss) [T 42, T 43] 40 true,
   I 45 (.pick) [T 40, T 44, .lit (.bool false)],
   I 46 (.mv) [T 45],
   IG 47 (.mv) [T 2] 46 true,
   IG 48 (.fieldAddr 1) [T 12] 46 true,
   IG 49 (.load1) [T 48] 46 true,
   IG 50 (.bin .lss) [T 47, T 49] 46 true,
   I 51 (.pick) [T 46, T 50, .lit (.bool false)]])
 (.cond (T 51)
 (.seq (.region [I 8 (.mv) [N 2]])
  (.ret))
 (.skip)))))
 (.region [I 52 (.bin .add) [T 33, N 1],
   I 33 (.mv) [T 52]])))
def c_amap_Pool_Hold : AFn := ⟨64, [.tmp 8],
 .seq (.region [I 8 (.mv) [N 0]])
 (.seq (.region [I 14 (.mv) [T 0],
   I 15 (.mv) [T 1],
   I 16 (.callv) [F 119, T 14, T 15],
   I 13 (.mv) [T 16],
   I 17 (.extract 0) [T 13],
   I 18 (.extract 1) [T 13],
   I 9 (.mv) [T 17],
   I 10 (.mv) [T 18]])
 (.seq (.seq (.region [I 19 (.mv) [T 10],
   I 20 (.bin .neq) [T 19, N 0]])
 (.cond (T 20)
 (.seq (.region [I 21 (.mv) [T 10],
    I 8 (.mv) [T 21]])
  (.ret))
 (.skip)))
 (.seq (.seq (.region [I 22 (.mv) [T 9],
   I 23 (.mv) [T 2],
   I 24 (.mv) [T 3],
   I 25 (.callv) [F 120, T 22, T 23, T 24],
   I 26 (.un .not) [T 25]])
 (.cond (T 26)
 (.seq (.region [I 8 (.mv) [N 2]])
  (.ret))
 (.skip)))
 (.seq (.seq (.region [I 27 (.mv) [T 9],
   I 28 (.nilCheck) [T 27],
   I 29 (.fieldAddr 0) [T 28],
   I 30 (.load1) [T 29],
   I 31 (.callv) [F 75, T 30],
   I 32 (.lens) [T 31],
   I 33 (.mv) [N 0]])
 (.block 0 (.loop c_amap_Pool_Hold_L0)))
 (.seq (.region [I 54 (.mv) [T 9],
   I 55 (.nilCheck) [T 54],
   I 56 (.fieldAddr 0) [T 55],
   I 57 (.load1) [T 56],
   I 58 (.mv) [T 2],
   I 59 (.mv) [T 3],
   I 60 (.callv) [F 66, T 57, T 58, T 59, N 1],
   I 53 (.mv) [T 60],
   I 61 (.extract 0) [T 53],
   I 62 (.extract 1) [T 53],
   I 10 (.mv) [T 62]])
 (.seq (.region [I 63 (.mv) [T 10],
   I 8 (.mv) [T 63]])
 (.ret)))))))⟩
theorem t85 : trFn Try.prog Try.f85 = some c_amap_Pool_Hold := by kernel_rfl
/-- (*pantry/amap.Pool).Ids -/
abbrev n_amap_Pool_Ids : Nat := 86
/-- live: [3, 12, 13, 14] -/
def c_amap_Pool_Ids_L0 : ACode :=
 .seq (.region [I 15 (.bin .lss) [T 14, T 13]])
 (.seq (.cond (T 15)
 (.skip)
 (.exit 0))
 (.seq (.block 1 (.seq (.region [I 16 (.mv) [T 14],
   I 17 (.indexs 1) [T 12, T 14],
   I 18 (.load1) [T 17],
   I 4 (.mv) [T 16],
   I 5 (.mv) [T 18]])
 (.seq (.region [I 19 (.mv) [T 5],
   I 20 (.eqv true .ptr) [T 19, .lit .nilptr]])
 (.cond (T 20)
 (.region [I 21 (.mv) [T 3],
    I 22 (.mv) [T 4],
    I 23 (.bin .add) [T 22, N 1],
    I 24 (.bslice 3 1 1 (.vals [(.int .i64 0)]) [0]) [T 23],
    I 25 (.append 3 1 8 (.vals [(.int .i64 0)])) [T 21, T 24],
    I 3 (.mv) [T 25]])
 (.skip)))))
 (.region [I 26 (.bin .add) [T 14, N 1],
   I 14 (.mv) [T 26]])))
def c_amap_Pool_Ids : AFn := ⟨28, [.tmp 2],
 .seq (.region [I 2 (.mv) [.lit .nilsl]])
 (.seq (.seq (.region [I 6 (.mv) [T 0],
   I 7 (.callv) [F 117, T 6],
   I 8 (.un .not) [T 7]])
 (.cond (T 8)
 (.seq (.region [I 2 (.mv) [.lit .nilsl]])
  (.ret))
 (.skip)))
 (.seq (.region [I 3 (.mv) [.lit .nilsl]])
 (.seq (.seq (.region [I 9 (.mv) [T 0],
   I 10 (.nilCheck) [T 9],
   I 11 (.fieldAddr 2) [T 10],
   I 12 (.load1) [T 11],
   I 13 (.lens) [T 12],
   I 14 (.mv) [N 0]])
 (.block 0 (.loop c_amap_Pool_Ids_L0)))
 (.seq (.region [I 27 (.mv) [T 3],
   I 2 (.mv) [T 27]])
 (.ret)))))⟩
theorem t86 : trFn Try.prog Try.f86 = some c_amap_Pool_Ids := by kernel_rfl
/-- (*pantry/amap.Pool).Cover -/
abbrev n_amap_Pool_Cover : Nat := 87
def c_amap_Pool_Cover : AFn := ⟨20, [.tmp 6],
 .seq (.region [I 6 (.mv) [N 0]])
 (.seq (.region [I 8 (.mv) [T 0],
   I 9 (.mv) [T 1],
   I 10 (.callv) [F 121, T 8, T 9],
   I 7 (.mv) [T 10]])
 (.seq (.seq (.region [I 11 (.mv) [T 7],
   I 12 (.eqv false .ptr) [T 11, .lit .nilptr]])
 (.cond (T 12)
 (.seq (.region [I 6 (.mv) [N 0]])
  (.ret))
 (.skip)))
 (.seq (.region [I 13 (.mv) [T 7],
   I 14 (.nilCheck) [T 13],
   I 15 (.fieldAddr 0) [T 14],
   I 16 (.load1) [T 15],
   I 17 (.mv) [T 2],
   I 18 (.callv) [F 70, T 16, T 17],
   I 19 (.max) [T 18, N 0],
   I 6 (.mv) [T 19]])
 (.ret))))⟩
theorem t87 : trFn Try.prog Try.f87 = some c_amap_Pool_Cover := by kernel_rfl
/-- (*pantry/amap.Pool).Copy -/
abbrev n_amap_Pool_Copy : Nat := 88
/-- live: [14] -/
def c_amap_Pool_Copy_A0 : ACode :=
 .region [I 16 (.mv) [T 60]]
def c_amap_Pool_Copy_B0 : ACode :=
 .block 1 (.region [I 61 (.load1) [T 14],
   I 62 (.mv) [T 16],
   I 63 (.bslice 3 1 1 (.vals [(.int .i64 0)]) [0]) [T 62],
   I 64 (.append 3 1 8 (.vals [(.int .i64 0)])) [T 61, T 63],
   J (.store 1) [T 14, T 64]])
def c_amap_Pool_Copy : AFn := ⟨67, [.tmp 8, .tmp 9, .tmp 10],
 .seq (.region [I 8 (.mv) [N 0],
   I 9 (.mv) [.lit .nilsl],
   I 10 (.mv) [N 0]])
 (.seq (.region [I 18 (.mv) [T 0],
   I 19 (.mv) [T 1],
   I 20 (.callv) [F 119, T 18, T 19],
   I 17 (.mv) [T 20],
   I 21 (.extract 0) [T 17],
   I 22 (.extract 1) [T 17],
   I 11 (.mv) [T 21],
   I 12 (.mv) [T 22]])
 (.seq (.seq (.region [I 23 (.mv) [T 12],
   I 24 (.bin .neq) [T 23, N 0]])
 (.cond (T 24)
 (.seq (.region [I 25 (.mv) [T 12],
    I 8 (.mv) [N 0],
    I 9 (.mv) [.lit .nilsl],
    I 10 (.mv) [T 25]])
  (.ret))
 (.skip)))
 (.seq (.seq (.region [I 26 (.mv) [T 11],
   I 27 (.mv) [T 2],
   I 28 (.mv) [T 3],
   I 29 (.callv) [F 120, T 26, T 27, T 28],
   I 30 (.un .not) [T 29]])
 (.cond (T 30)
 (.seq (.region [I 8 (.mv) [N 0],
    I 9 (.mv) [.lit .nilsl],
    I 10 (.mv) [N 2]])
  (.ret))
 (.skip)))
 (.seq (.region [I 32 (.mv) [T 0],
   I 33 (.mv) [T 3],
   I 34 (.mv) [T 2],
   I 35 (.bin .sub) [T 33, T 34],
   I 36 (.callv) [F 79, T 32, T 35],
   I 31 (.mv) [T 36],
   I 37 (.extract 0) [T 31],
   I 38 (.extract 1) [T 31],
   I 13 (.mv) [T 37],
   I 12 (.mv) [T 38]])
 (.seq (.seq (.region [I 39 (.mv) [T 12],
   I 40 (.bin .neq) [T 39, N 0]])
 (.cond (T 40)
 (.seq (.region [I 41 (.mv) [T 12],
    I 8 (.mv) [N 0],
    I 9 (.mv) [.lit .nilsl],
    I 10 (.mv) [T 41]])
  (.ret))
 (.skip)))
 (.seq (.draw [[⟨0, I 42 (.mv) [T 0], [], false⟩,
   ⟨1, I 43 (.mv) [T 13], [], false⟩,
   ⟨6, I 48 (.mv) [T 11], [], false⟩,
   ⟨7, I 49 (.nilCheck) [T 48], [], false⟩,
   ⟨8, I 50 (.fieldAddr 1) [T 49], [], false⟩,
   ⟨9, I 51 (.load1) [T 50], [], false⟩,
   ⟨10, I 52 (.mv) [T 2], [], false⟩,
   ⟨11, I 53 (.mv) [T 3], [], false⟩,
   ⟨12, I 54 (.slice 1 true true false) [T 51, T 52, T 53], [], false⟩,
   ⟨2, I 44 (.callv) [F 121, T 42, T 43], [(9, I 51 (.load1) [T 50])], false⟩,
   ⟨3, I 45 (.nilCheck) [T 44], [], false⟩,
   ⟨4, I 46 (.fieldAddr 1) [T 45], [], false⟩,
   ⟨5, I 47 (.load1) [T 46], [], false⟩,
   ⟨13, I 55 (.copy 1) [T 47, T 54], [], false⟩]])
 (.seq (.region [I 14 (.alloc 77 1 (.vals [.nilsl])) []])
 (.seq (.seq (.region [I 56 (.mv) [T 0],
   I 57 (.mv) [T 13],
   I 58 (.callv) [F 122, T 56, T 57]])
 (.block 0 (.rfun (T 58) [59, 60] c_amap_Pool_Copy_A0 c_amap_Pool_Copy_B0)))
 (.seq (.draw [[⟨0, I 65 (.mv) [T 13], [], false⟩,
   ⟨1, I 66 (.load1) [T 14], [], false⟩,
   ⟨2, I 8 (.mv) [T 65], [], false⟩,
   ⟨3, I 9 (.mv) [T 66], [], false⟩,
   ⟨4, I 10 (.mv) [N 0], [], false⟩]])
 (.ret))))))))))⟩
theorem t88 : trFn Try.prog Try.f88 = some c_amap_Pool_Copy := by kernel_rfl
/-- pantry/pantryref13.New -/
abbrev n_ref13_New : Nat := 89
def c_ref13_New : AFn := ⟨12, [.tmp 2],
 .seq (.region [I 2 (.mv) [.lit .nilptr]])
 (.seq (.seq (.region [I 3 (.mv) [T 0],
   I 4 (.bin .lss) [T 3, N 0],
   I 5 (.mv) [T 4],
   IG 6 (.mv) [T 0] 5 false,
   IG 7 (.bin .gtr) [T 6, N 4096] 5 false,
   I 8 (.pick) [T 5, .lit (.bool true), T 7]])
 (.cond (T 8)
 (.seq (.region [I 2 (.mv) [.lit .nilptr]])
  (.ret))
 (.skip)))
 (.seq (.region [I 9 (.mv) [T 0],
   I 10 (.build (.agg [(.int .i64 0), .nilsl]) [(0, 1)]) [T 9],
   I 11 (.box 190 2) [T 10],
   I 2 (.mv) [T 11]])
 (.ret)))⟩
theorem t89 : trFn Try.prog Try.f89 = some c_ref13_New := by kernel_rfl
/-- (*pantry/pantryref13.Pool).Make -/
abbrev n_ref13_Pool_Make : Nat := 90
/-- live: [0, 6, 38, 39, 40] -/
def c_ref13_Pool_Make_L0 : ACode :=
 .seq (.region [I 41 (.bin .lss) [T 40, T 39]])
 (.seq (.cond (T 41)
 (.skip)
 (.exit 0))
 (.seq (.block 1 (.seq (.region [I 42 (.mv) [T 40],
   I 43 (.indexs 1) [T 38, T 40],
   I 44 (.load1) [T 43],
   I 7 (.mv) [T 42],
   I 8 (.mv) [T 44]])
 (.seq (.region [I 45 (.mv) [T 8],
   I 46 (.eqv false .ptr) [T 45, .lit .nilptr]])
 (.cond (T 46)
 (.seq (.region [I 47 (.mv) [T 0],
    I 48 (.nilCheck) [T 47],
    I 49 (.fieldAddr 1) [T 48],
    I 50 (.load1) [T 49],
    I 51 (.mv) [T 7],
    I 52 (.mv) [T 6],
    I 53 (.indexs 1) [T 50, T 51],
    J (.store 1) [T 53, T 52]])
  (.seq (.region [I 54 (.mv) [T 7],
    I 55 (.bin .add) [T 54, N 1],
    I 4 (.mv) [T 55],
    I 5 (.mv) [N 0]])
  (.ret)))
 (.skip)))))
 (.region [I 56 (.bin .add) [T 40, N 1],
   I 40 (.mv) [T 56]])))
def c_ref13_Pool_Make : AFn := ⟨72, [.tmp 4, .tmp 5],
 .seq (.region [I 4 (.mv) [N 0],
   I 5 (.mv) [N 0]])
 (.seq (.seq (.region [I 9 (.mv) [T 1],
   I 10 (.bin .lss) [T 9, N 1],
   I 11 (.mv) [T 10],
   IG 12 (.mv) [T 1] 11 false,
   IG 13 (.bin .gtr) [T 12, N 4096] 11 false,
   I 14 (.pick) [T 11, .lit (.bool true), T 13]])
 (.cond (T 14)
 (.seq (.region [I 4 (.mv) [N 0],
    I 5 (.mv) [N 2]])
  (.ret))
 (.skip)))
 (.seq (.seq (.draw [[⟨0, I 15 (.mv) [T 0], [], false⟩,
   ⟨3, I 18 (.mv) [T 0], [], false⟩,
   ⟨4, I 19 (.nilCheck) [T 18], [], false⟩,
   ⟨5, I 20 (.fieldAddr 0) [T 19], [], false⟩,
   ⟨6, I 21 (.load1) [T 20], [], false⟩,
   ⟨1, I 16 (.callv) [F 99, T 15], [(6, I 21 (.load1) [T 20])], false⟩,
   ⟨2, I 17 (.lens) [T 16], [], false⟩,
   ⟨7, I 22 (.bin .geq) [T 17, T 21], [], false⟩]])
 (.cond (T 22)
 (.seq (.region [I 4 (.mv) [N 0],
    I 5 (.mv) [N 5]])
  (.ret))
 (.skip)))
 (.seq (.draw [[⟨0, I 23 (.mv) [T 1], [], false⟩,
   ⟨2, I 25 (.mv) [T 1], [], false⟩,
   ⟨1, I 24 (.callv) [F 62, T 23], [], false⟩,
   ⟨3, I 26 (.mkslice 3 1 8 (.vals [(.int .i64 0)])) [T 25, T 25], [], false⟩,
   ⟨4, I 27 (.build (.agg [.nilptr, .nilsl]) [(0, 1), (1, 1)]) [T 24, T 26], [], false⟩,
   ⟨5, I 28 (.box 151 2) [T 27], [], false⟩,
   ⟨6, I 6 (.mv) [T 28], [], false⟩],
[⟨0, I 23 (.mv) [T 1], [], false⟩,
   ⟨2, I 25 (.mv) [T 1], [], false⟩,
   ⟨3, I 26 (.mkslice 3 1 8 (.vals [(.int .i64 0)])) [T 25, T 25], [], false⟩,
   ⟨1, I 24 (.callv) [F 62, T 23], [], false⟩,
   ⟨4, I 27 (.build (.agg [.nilptr, .nilsl]) [(0, 1), (1, 1)]) [T 24, T 26], [], false⟩,
   ⟨5, I 28 (.box 151 2) [T 27], [], false⟩,
   ⟨6, I 6 (.mv) [T 28], [], false⟩]])
 (.seq (.region [I 29 (.mv) [T 6],
   I 30 (.nilCheck) [T 29],
   I 31 (.fieldAddr 0) [T 30],
   I 32 (.load1) [T 31],
   I 33 (.mv) [T 1],
   I 34 (.callv) [F 67, T 32, N 0, T 33, N 1]])
 (.seq (.seq (.region [I 35 (.mv) [T 0],
   I 36 (.nilCheck) [T 35],
   I 37 (.fieldAddr 1) [T 36],
   I 38 (.load1) [T 37],
   I 39 (.lens) [T 38],
   I 40 (.mv) [N 0]])
 (.block 0 (.loop c_ref13_Pool_Make_L0)))
 (.seq (.region [I 57 (.mv) [T 0],
   I 58 (.mv) [T 0],
   I 59 (.nilCheck) [T 58],
   I 60 (.fieldAddr 1) [T 59],
   I 61 (.load1) [T 60],
   I 62 (.mv) [T 6],
   I 63 (.bslice 148 1 1 (.vals [.nilptr]) [0]) [T 62],
   I 64 (.append 148 1 8 (.vals [.nilptr])) [T 61, T 63],
   I 65 (.nilCheck) [T 57],
   I 66 (.fieldAddr 1) [T 65],
   J (.store 1) [T 66, T 64]])
 (.seq (.region [I 67 (.mv) [T 0],
   I 68 (.nilCheck) [T 67],
   I 69 (.fieldAddr 1) [T 68],
   I 70 (.load1) [T 69],
   I 71 (.lens) [T 70],
   I 4 (.mv) [T 71],
   I 5 (.mv) [N 0]])
 (.ret))))))))⟩
theorem t90 : trFn Try.prog Try.f90 = some c_ref13_Pool_Make := by kernel_rfl
/-- (*pantry/pantryref13.Pool).Set -/
abbrev n_ref13_Pool_Set : Nat := 91
def c_ref13_Pool_Set : AFn := ⟨40, [.tmp 8, .tmp 9],
 .seq (.region [I 8 (.mv) [N 0],
   I 9 (.mv) [N 0]])
 (.seq (.block 0 (.seq (.region [I 12 (.mv) [T 0],
   I 13 (.mv) [T 1],
   I 14 (.callv) [F 95, T 12, T 13],
   I 15 (.eqv false .ptr) [T 14, .lit .nilptr],
   I 11 (.mv) [T 15]])
 (.cond (T 11)
 (.seq (.region [I 8 (.mv) [N 0],
    I 9 (.mv) [N 7]])
  (.ret))
 (.seq (.region [I 17 (.mv) [T 0],
    I 18 (.mv) [T 1],
    I 19 (.mv) [T 2],
    I 20 (.callv) [F 97, T 17, T 18, T 19],
    I 21 (.bin .eql) [T 20, N 0],
    I 22 (.mv) [T 21],
    IG 23 (.mv) [T 3] 22 false,
    IG 24 (.bin .lss) [T 23, N 0] 22 false,
    I 25 (.pick) [T 22, .lit (.bool true), T 24],
    I 16 (.mv) [T 25]])
  (.cond (T 16)
  (.seq (.region [I 8 (.mv) [N 0],
     I 9 (.mv) [N 2]])
   (.ret))
  (.skip))))))
 (.seq (.region [I 26 (.mv) [T 0],
   I 27 (.mv) [T 1],
   I 28 (.mv) [T 2],
   I 29 (.callv) [F 98, T 26, T 27, T 28],
   I 10 (.mv) [T 29]])
 (.seq (.region [I 30 (.mv) [T 0],
   I 31 (.mv) [T 1],
   I 32 (.callv) [F 95, T 30, T 31],
   I 33 (.nilCheck) [T 32],
   I 34 (.fieldAddr 1) [T 33],
   I 35 (.load1) [T 34],
   I 36 (.mv) [T 2],
   I 37 (.mv) [T 3],
   I 38 (.indexs 1) [T 35, T 36],
   J (.store 1) [T 38, T 37]])
 (.seq (.region [I 39 (.mv) [T 10],
   I 8 (.mv) [T 39],
   I 9 (.mv) [N 0]])
 (.ret)))))⟩
theorem t91 : trFn Try.prog Try.f91 = some c_ref13_Pool_Set := by kernel_rfl
/-- (*pantry/pantryref13.Pool).Hold -/
abbrev n_ref13_Pool_Hold : Nat := 92
/-- live: [2, 3, 9, 10] -/
def c_ref13_Pool_Hold_L0 : ACode :=
 .seq (.seq (.region [I 35 (.mv) [T 10],
   I 36 (.mv) [T 3],
   I 37 (.bin .lss) [T 35, T 36]])
 (.cond (T 37)
 (.skip)
 (.exit 0)))
 (.seq (.block 1 (.seq (.region [I 40 (.mv) [T 9],
   I 41 (.nilCheck) [T 40],
   I 42 (.fieldAddr 0) [T 41],
   I 43 (.load1) [T 42],
   I 44 (.mv) [T 10],
   I 45 (.callv) [F 71, T 43, T 44],
   I 46 (.bin .eql) [T 45, N 0]])
 (.cond (T 46)
 (.seq (.region [I 8 (.mv) [N 2]])
  (.ret))
 (.skip))))
 (.region [I 38 (.mv) [T 10],
   I 39 (.bin .add) [T 38, N 1],
   I 10 (.mv) [T 39]]))
def c_ref13_Pool_Hold : AFn := ⟨58, [.tmp 8],
 .seq (.region [I 8 (.mv) [N 0]])
 (.seq (.region [I 13 (.mv) [T 0],
   I 14 (.mv) [T 1],
   I 15 (.callv) [F 95, T 13, T 14],
   I 9 (.mv) [T 15]])
 (.seq (.seq (.region [I 16 (.mv) [T 9],
   I 17 (.eqv false .ptr) [T 16, .lit .nilptr]])
 (.cond (T 17)
 (.seq (.region [I 8 (.mv) [N 7]])
  (.ret))
 (.skip)))
 (.seq (.seq (.region [I 18 (.mv) [T 2],
   I 19 (.bin .lss) [T 18, N 0],
   I 20 (.mv) [T 19],
   IG 21 (.mv) [T 2] 20 false,
   IG 22 (.mv) [T 3] 20 false,
   IG 23 (.bin .geq) [T 21, T 22] 20 false,
   I 24 (.pick) [T 20, .lit (.bool true), T 23],
   I 25 (.mv) [T 24],
   IG 26 (.mv) [T 3] 25 false,
   IG 27 (.mv) [T 9] 25 false,
   IG 28 (.nilCheck) [T 27] 25 false,
   IG 29 (.fieldAddr 1) [T 28] 25 false,
   IG 30 (.load1) [T 29] 25 false,
   IG 31 (.lens) [T 30] 25 false,
   IG 32 (.bin .gtr) [T 26, T 31] 25 false,
   I 33 (.pick) [T 25, .lit (.bool true), T 32]])
 (.cond (T 33)
 (.seq (.region [I 8 (.mv) [N 2]])
  (.ret))
 (.skip)))
 (.seq (.seq (.region [I 34 (.mv) [T 2],
   I 10 (.mv) [T 34]])
 (.block 0 (.loop c_ref13_Pool_Hold_L0)))
 (.seq (.region [I 48 (.mv) [T 9],
   I 49 (.nilCheck) [T 48],
   I 50 (.fieldAddr 0) [T 49],
   I 51 (.load1) [T 50],
   I 52 (.mv) [T 2],
   I 53 (.mv) [T 3],
   I 54 (.callv) [F 67, T 51, T 52, T 53, N 1],
   I 47 (.mv) [T 54],
   I 55 (.extract 0) [T 47],
   I 56 (.extract 1) [T 47],
   I 11 (.mv) [T 55],
   I 12 (.mv) [T 56]])
 (.seq (.region [I 57 (.mv) [T 12],
   I 8 (.mv) [T 57]])
 (.ret)))))))⟩
theorem t92 : trFn Try.prog Try.f92 = some c_ref13_Pool_Hold := by kernel_rfl
/-- (*pantry/pantryref13.Pool).Drop -/
abbrev n_ref13_Pool_Drop : Nat := 93
/-- live: [0, 1, 10, 13, 50, 51, 52] -/
def c_ref13_Pool_Drop_L0 : ACode :=
 .seq (.region [I 53 (.bin .lss) [T 52, T 51]])
 (.seq (.cond (T 53)
 (.skip)
 (.exit 0))
 (.seq (.block 1 (.seq (.region [I 54 (.indexs 1) [T 50, T 52],
   I 55 (.load1) [T 54],
   I 15 (.mv) [T 55]])
 (.seq (.seq (.region [I 56 (.mv) [T 10],
   I 57 (.nilCheck) [T 56],
   I 58 (.fieldAddr 1) [T 57],
   I 59 (.load1) [T 58],
   I 60 (.mv) [T 15],
   I 61 (.indexs 1) [T 59, T 60],
   I 62 (.load1) [T 61],
   I 63 (.bin .neq) [T 62, N 0]])
 (.cond (T 63)
 (.region [I 64 (.mv) [T 13],
    I 65 (.mv) [T 10],
    I 66 (.nilCheck) [T 65],
    I 67 (.fieldAddr 1) [T 66],
    I 68 (.load1) [T 67],
    I 69 (.mv) [T 15],
    I 70 (.indexs 1) [T 68, T 69],
    I 71 (.load1) [T 70],
    I 72 (.bslice 3 1 1 (.vals [(.int .i64 0)]) [0]) [T 71],
    I 73 (.append 3 1 8 (.vals [(.int .i64 0)])) [T 64, T 72],
    I 13 (.mv) [T 73]])
 (.skip)))
 (.region [I 74 (.mv) [T 10],
   I 75 (.nilCheck) [T 74],
   I 76 (.fieldAddr 1) [T 75],
   I 77 (.load1) [T 76],
   I 78 (.mv) [T 15],
   I 79 (.indexs 1) [T 77, T 78],
   J (.store 1) [T 79, N 0]]))))
 (.region [I 80 (.bin .add) [T 52, N 1],
   I 52 (.mv) [T 80]])))
def c_ref13_Pool_Drop : AFn := ⟨95, [.tmp 8, .tmp 9],
 .seq (.region [I 8 (.mv) [.lit .nilsl],
   I 9 (.mv) [N 0]])
 (.seq (.region [I 16 (.mv) [T 0],
   I 17 (.mv) [T 1],
   I 18 (.callv) [F 95, T 16, T 17],
   I 10 (.mv) [T 18]])
 (.seq (.seq (.region [I 19 (.mv) [T 10],
   I 20 (.eqv false .ptr) [T 19, .lit .nilptr]])
 (.cond (T 20)
 (.seq (.region [I 8 (.mv) [.lit .nilsl],
    I 9 (.mv) [N 7]])
  (.ret))
 (.skip)))
 (.seq (.seq (.region [I 21 (.mv) [T 2],
   I 22 (.bin .lss) [T 21, N 0],
   I 23 (.mv) [T 22],
   IG 24 (.mv) [T 2] 23 false,
   IG 25 (.mv) [T 3] 23 false,
   IG 26 (.bin .geq) [T 24, T 25] 23 false,
   I 27 (.pick) [T 23, .lit (.bool true), T 26],
   I 28 (.mv) [T 27],
   IG 29 (.mv) [T 3] 28 false,
   IG 30 (.mv) [T 10] 28 false,
   IG 31 (.nilCheck) [T 30] 28 false,
   IG 32 (.fieldAddr 1) [T 31] 28 false,
   IG 33 (.load1) [T 32] 28 false,
   IG 34 (.lens) [T 33] 28 false,
   IG 35 (.bin .gtr) [T 29, T 34] 28 false,
   I 36 (.pick) [T 28, .lit (.bool true), T 35]])
 (.cond (T 36)
 (.seq (.region [I 8 (.mv) [.lit .nilsl],
    I 9 (.mv) [N 2]])
  (.ret))
 (.skip)))
 (.seq (.region [I 38 (.mv) [T 10],
   I 39 (.nilCheck) [T 38],
   I 40 (.fieldAddr 0) [T 39],
   I 41 (.load1) [T 40],
   I 42 (.mv) [T 2],
   I 43 (.mv) [T 3],
   I 44 (.callv) [F 67, T 41, T 42, T 43, N (-1)],
   I 37 (.mv) [T 44],
   I 45 (.extract 0) [T 37],
   I 46 (.extract 1) [T 37],
   I 11 (.mv) [T 45],
   I 12 (.mv) [T 46]])
 (.seq (.seq (.region [I 47 (.mv) [T 12],
   I 48 (.bin .neq) [T 47, N 0]])
 (.cond (T 48)
 (.seq (.region [I 49 (.mv) [T 12],
    I 8 (.mv) [.lit .nilsl],
    I 9 (.mv) [T 49]])
  (.ret))
 (.skip)))
 (.seq (.region [I 13 (.mv) [.lit .nilsl]])
 (.seq (.seq (.region [I 50 (.mv) [T 11],
   I 51 (.lens) [T 50],
   I 52 (.mv) [N 0]])
 (.block 0 (.loop c_ref13_Pool_Drop_L0)))
 (.seq (.seq (.region [I 81 (.mv) [T 10],
   I 82 (.nilCheck) [T 81],
   I 83 (.fieldAddr 0) [T 82],
   I 84 (.load1) [T 83],
   I 85 (.callv) [F 73, T 84],
   I 86 (.bin .eql) [T 85, N 0]])
 (.cond (T 86)
 (.region [I 87 (.mv) [T 0],
    I 88 (.nilCheck) [T 87],
    I 89 (.fieldAddr 1) [T 88],
    I 90 (.load1) [T 89],
    I 91 (.mv) [T 1],
    I 92 (.bin .sub) [T 91, N 1],
    I 93 (.indexs 1) [T 90, T 92],
    J (.store 1) [T 93, .lit .nilptr]])
 (.skip)))
 (.seq (.region [I 94 (.mv) [T 13],
   I 8 (.mv) [T 94],
   I 9 (.mv) [N 0]])
 (.ret))))))))))⟩
theorem t93 : trFn Try.prog Try.f93 = some c_ref13_Pool_Drop := by kernel_rfl
/-- (*pantry/pantryref13.Pool).Copy -/
abbrev n_ref13_Pool_Copy : Nat := 94
end Go.Proofs.Ytjdemlagmamlbaa

namespace Go.Proofs.Ytjdemlagmamlbaa
/-- live: [0, 2, 3, 11, 12, 14, 15] -/
def c_ref13_Pool_Copy_L0 : ACode :=
 .seq (.seq (.region [I 49 (.mv) [T 15],
   I 50 (.mv) [T 3],
   I 51 (.bin .lss) [T 49, T 50]])
 (.cond (T 51)
 (.skip)
 (.exit 0)))
 (.seq (.block 1 (.seq (.draw [[⟨0, I 54 (.mv) [T 0], [], false⟩,
   ⟨1, I 55 (.mv) [T 12], [], false⟩,
   ⟨6, I 60 (.mv) [T 15], [], false⟩,
   ⟨7, I 61 (.mv) [T 2], [], false⟩,
   ⟨8, I 62 (.bin .sub) [T 60, T 61], [], false⟩,
   ⟨9, I 63 (.mv) [T 11], [], false⟩,
   ⟨10, I 64 (.nilCheck) [T 63], [], false⟩,
   ⟨11, I 65 (.fieldAddr 1) [T 64], [], false⟩,
   ⟨12, I 66 (.load1) [T 65], [], false⟩,
   ⟨13, I 67 (.mv) [T 15], [], false⟩,
   ⟨14, I 68 (.indexs 1) [T 66, T 67], [], false⟩,
   ⟨15, I 69 (.load1) [T 68], [], false⟩,
   ⟨2, I 56 (.callv) [F 95, T 54, T 55], [(12, I 66 (.load1) [T 65]), (15, I 69 (.load1) [T 68])], false⟩,
   ⟨3, I 57 (.nilCheck) [T 56], [], false⟩,
   ⟨4, I 58 (.fieldAddr 1) [T 57], [], false⟩,
   ⟨5, I 59 (.load1) [T 58], [], false⟩,
   ⟨16, I 70 (.indexs 1) [T 59, T 62], [], false⟩,
   ⟨17, J (.store 1) [T 70, T 69], [], false⟩]])
 (.seq (.region [I 71 (.mv) [T 11],
   I 72 (.nilCheck) [T 71],
   I 73 (.fieldAddr 1) [T 72],
   I 74 (.load1) [T 73],
   I 75 (.mv) [T 15],
   I 76 (.indexs 1) [T 74, T 75],
   I 77 (.load1) [T 76],
   I 78 (.bin .neq) [T 77, N 0]])
 (.cond (T 78)
 (.region [I 79 (.mv) [T 14],
    I 80 (.mv) [T 11],
    I 81 (.nilCheck) [T 80],
    I 82 (.fieldAddr 1) [T 81],
    I 83 (.load1) [T 82],
    I 84 (.mv) [T 15],
    I 85 (.indexs 1) [T 83, T 84],
    I 86 (.load1) [T 85],
    I 87 (.bslice 3 1 1 (.vals [(.int .i64 0)]) [0]) [T 86],
    I 88 (.append 3 1 8 (.vals [(.int .i64 0)])) [T 79, T 87],
    I 14 (.mv) [T 88]])
 (.skip)))))
 (.region [I 52 (.mv) [T 15],
   I 53 (.bin .add) [T 52, N 1],
   I 15 (.mv) [T 53]]))
def c_ref13_Pool_Copy : AFn := ⟨91, [.tmp 8, .tmp 9, .tmp 10],
 .seq (.region [I 8 (.mv) [N 0],
   I 9 (.mv) [.lit .nilsl],
   I 10 (.mv) [N 0]])
 (.seq (.region [I 16 (.mv) [T 0],
   I 17 (.mv) [T 1],
   I 18 (.callv) [F 95, T 16, T 17],
   I 11 (.mv) [T 18]])
 (.seq (.seq (.region [I 19 (.mv) [T 11],
   I 20 (.eqv false .ptr) [T 19, .lit .nilptr]])
 (.cond (T 20)
 (.seq (.region [I 8 (.mv) [N 0],
    I 9 (.mv) [.lit .nilsl],
    I 10 (.mv) [N 7]])
  (.ret))
 (.skip)))
 (.seq (.seq (.region [I 21 (.mv) [T 2],
   I 22 (.bin .lss) [T 21, N 0],
   I 23 (.mv) [T 22],
   IG 24 (.mv) [T 2] 23 false,
   IG 25 (.mv) [T 3] 23 false,
   IG 26 (.bin .geq) [T 24, T 25] 23 false,
   I 27 (.pick) [T 23, .lit (.bool true), T 26],
   I 28 (.mv) [T 27],
   IG 29 (.mv) [T 3] 28 false,
   IG 30 (.mv) [T 11] 28 false,
   IG 31 (.nilCheck) [T 30] 28 false,
   IG 32 (.fieldAddr 1) [T 31] 28 false,
   IG 33 (.load1) [T 32] 28 false,
   IG 34 (.lens) [T 33] 28 false,
   IG 35 (.bin .gtr) [T 29, T 34] 28 false,
   I 36 (.pick) [T 28, .lit (.bool true), T 35]])
 (.cond (T 36)
 (.seq (.region [I 8 (.mv) [N 0],
    I 9 (.mv) [.lit .nilsl],
    I 10 (.mv) [N 2]])
  (.ret))
 (.skip)))
 (.seq (.region [I 38 (.mv) [T 0],
   I 39 (.mv) [T 3],
   I 40 (.mv) [T 2],
   I 41 (.bin .sub) [T 39, T 40],
   I 42 (.callv) [F 90, T 38, T 41],
   I 37 (.mv) [T 42],
   I 43 (.extract 0) [T 37],
   I 44 (.extract 1) [T 37],
   I 12 (.mv) [T 43],
   I 13 (.mv) [T 44]])
 (.seq (.seq (.region [I 45 (.mv) [T 13],
   I 46 (.bin .neq) [T 45, N 0]])
 (.cond (T 46)
 (.seq (.region [I 47 (.mv) [T 13],
    I 8 (.mv) [N 0],
    I 9 (.mv) [.lit .nilsl],
    I 10 (.mv) [T 47]])
  (.ret))
 (.skip)))
 (.seq (.region [I 14 (.mv) [.lit .nilsl]])
 (.seq (.seq (.region [I 48 (.mv) [T 2],
   I 15 (.mv) [T 48]])
 (.block 0 (.loop c_ref13_Pool_Copy_L0)))
 (.seq (.region [I 89 (.mv) [T 12],
   I 90 (.mv) [T 14],
   I 8 (.mv) [T 89],
   I 9 (.mv) [T 90],
   I 10 (.mv) [N 0]])
 (.ret)))))))))⟩
theorem t94 : trFn Try.prog Try.f94 = some c_ref13_Pool_Copy := by kernel_rfl
/-- (*pantry/pantryref13.Pool).Of -/
abbrev n_ref13_Pool_Of : Nat := 95
def c_ref13_Pool_Of : AFn := ⟨24, [.tmp 4],
 .seq (.region [I 4 (.mv) [.lit .nilptr]])
 (.seq (.seq (.region [I 5 (.mv) [T 1],
   I 6 (.bin .lss) [T 5, N 1],
   I 7 (.mv) [T 6],
   IG 8 (.mv) [T 1] 7 false,
   IG 9 (.mv) [T 0] 7 false,
   IG 10 (.nilCheck) [T 9] 7 false,
   IG 11 (.fieldAddr 1) [T 10] 7 false,
   IG 12 (.load1) [T 11] 7 false,
   IG 13 (.lens) [T 12] 7 false,
   IG 14 (.bin .gtr) [T 8, T 13] 7 false,
   I 15 (.pick) [T 7, .lit (.bool true), T 14]])
 (.cond (T 15)
 (.seq (.region [I 4 (.mv) [.lit .nilptr]])
  (.ret))
 (.skip)))
 (.seq (.region [I 16 (.mv) [T 0],
   I 17 (.nilCheck) [T 16],
   I 18 (.fieldAddr 1) [T 17],
   I 19 (.load1) [T 18],
   I 20 (.mv) [T 1],
   I 21 (.bin .sub) [T 20, N 1],
   I 22 (.indexs 1) [T 19, T 21],
   I 23 (.load1) [T 22],
   I 4 (.mv) [T 23]])
 (.ret)))⟩
theorem t95 : trFn Try.prog Try.f95 = some c_ref13_Pool_Of := by kernel_rfl
/-- (*pantry/pantryref13.Pool).Slots -/
abbrev n_ref13_Pool_Slots : Nat := 96
def c_ref13_Pool_Slots : AFn := ⟨16, [.tmp 4],
 .seq (.region [I 4 (.mv) [N 0]])
 (.seq (.seq (.region [I 6 (.mv) [T 0],
   I 7 (.mv) [T 1],
   I 8 (.callv) [F 95, T 6, T 7],
   I 5 (.mv) [T 8]])
 (.seq (.region [I 9 (.mv) [T 5],
   I 10 (.eqv true .ptr) [T 9, .lit .nilptr]])
 (.cond (T 10)
 (.seq (.region [I 11 (.mv) [T 5],
    I 12 (.nilCheck) [T 11],
    I 13 (.fieldAddr 1) [T 12],
    I 14 (.load1) [T 13],
    I 15 (.lens) [T 14],
    I 4 (.mv) [T 15]])
  (.ret))
 (.skip))))
 (.seq (.region [I 4 (.mv) [N 0]])
 (.ret)))⟩
theorem t96 : trFn Try.prog Try.f96 = some c_ref13_Pool_Slots := by kernel_rfl
/-- (*pantry/pantryref13.Pool).Cover -/
abbrev n_ref13_Pool_Cover : Nat := 97
def c_ref13_Pool_Cover : AFn := ⟨28, [.tmp 6],
 .seq (.region [I 6 (.mv) [N 0]])
 (.seq (.region [I 8 (.mv) [T 0],
   I 9 (.mv) [T 1],
   I 10 (.callv) [F 95, T 8, T 9],
   I 7 (.mv) [T 10]])
 (.seq (.seq (.region [I 11 (.mv) [T 7],
   I 12 (.eqv false .ptr) [T 11, .lit .nilptr],
   I 13 (.mv) [T 12],
   IG 14 (.mv) [T 7] 13 false,
   IG 15 (.nilCheck) [T 14] 13 false,
   IG 16 (.fieldAddr 0) [T 15] 13 false,
   IG 17 (.load1) [T 16] 13 false,
   IG 18 (.mv) [T 2] 13 false,
   IG 19 (.callv) [F 71, T 17, T 18] 13 false,
   IG 20 (.bin .lss) [T 19, N 0] 13 false,
   I 21 (.pick) [T 13, .lit (.bool true), T 20]])
 (.cond (T 21)
 (.seq (.region [I 6 (.mv) [N 0]])
  (.ret))
 (.skip)))
 (.seq (.region [I 22 (.mv) [T 7],
   I 23 (.nilCheck) [T 22],
   I 24 (.fieldAddr 0) [T 23],
   I 25 (.load1) [T 24],
   I 26 (.mv) [T 2],
   I 27 (.callv) [F 71, T 25, T 26],
   I 6 (.mv) [T 27]])
 (.ret))))⟩
theorem t97 : trFn Try.prog Try.f97 = some c_ref13_Pool_Cover := by kernel_rfl
/-- (*pantry/pantryref13.Pool).Get -/
abbrev n_ref13_Pool_Get : Nat := 98
def c_ref13_Pool_Get : AFn := ⟨25, [.tmp 6],
 .seq (.region [I 6 (.mv) [N 0]])
 (.seq (.seq (.region [I 7 (.mv) [T 2],
   I 8 (.bin .lss) [T 7, N 0],
   I 9 (.mv) [T 8],
   IG 10 (.mv) [T 2] 9 false,
   IG 11 (.mv) [T 0] 9 false,
   IG 12 (.mv) [T 1] 9 false,
   IG 13 (.callv) [F 96, T 11, T 12] 9 false,
   IG 14 (.bin .geq) [T 10, T 13] 9 false,
   I 15 (.pick) [T 9, .lit (.bool true), T 14]])
 (.cond (T 15)
 (.seq (.region [I 6 (.mv) [N 0]])
  (.ret))
 (.skip)))
 (.seq (.region [I 16 (.mv) [T 0],
   I 17 (.mv) [T 1],
   I 18 (.callv) [F 95, T 16, T 17],
   I 19 (.nilCheck) [T 18],
   I 20 (.fieldAddr 1) [T 19],
   I 21 (.load1) [T 20],
   I 22 (.mv) [T 2],
   I 23 (.indexs 1) [T 21, T 22],
   I 24 (.load1) [T 23],
   I 6 (.mv) [T 24]])
 (.ret)))⟩
theorem t98 : trFn Try.prog Try.f98 = some c_ref13_Pool_Get := by kernel_rfl
/-- (*pantry/pantryref13.Pool).Ids -/
abbrev n_ref13_Pool_Ids : Nat := 99
/-- live: [3, 9, 10, 11] -/
def c_ref13_Pool_Ids_L0 : ACode :=
 .seq (.region [I 12 (.bin .lss) [T 11, T 10]])
 (.seq (.cond (T 12)
 (.skip)
 (.exit 0))
 (.seq (.block 1 (.seq (.region [I 13 (.mv) [T 11],
   I 14 (.indexs 1) [T 9, T 11],
   I 15 (.load1) [T 14],
   I 4 (.mv) [T 13],
   I 5 (.mv) [T 15]])
 (.seq (.region [I 16 (.mv) [T 5],
   I 17 (.eqv true .ptr) [T 16, .lit .nilptr]])
 (.cond (T 17)
 (.region [I 18 (.mv) [T 3],
    I 19 (.mv) [T 4],
    I 20 (.bin .add) [T 19, N 1],
    I 21 (.bslice 3 1 1 (.vals [(.int .i64 0)]) [0]) [T 20],
    I 22 (.append 3 1 8 (.vals [(.int .i64 0)])) [T 18, T 21],
    I 3 (.mv) [T 22]])
 (.skip)))))
 (.region [I 23 (.bin .add) [T 11, N 1],
   I 11 (.mv) [T 23]])))
def c_ref13_Pool_Ids : AFn := ⟨25, [.tmp 2],
 .seq (.region [I 2 (.mv) [.lit .nilsl]])
 (.seq (.region [I 3 (.mv) [.lit .nilsl]])
 (.seq (.seq (.region [I 6 (.mv) [T 0],
   I 7 (.nilCheck) [T 6],
   I 8 (.fieldAddr 1) [T 7],
   I 9 (.load1) [T 8],
   I 10 (.lens) [T 9],
   I 11 (.mv) [N 0]])
 (.block 0 (.loop c_ref13_Pool_Ids_L0)))
 (.seq (.region [I 24 (.mv) [T 3],
   I 2 (.mv) [T 24]])
 (.ret))))⟩
theorem t99 : trFn Try.prog Try.f99 = some c_ref13_Pool_Ids := by kernel_rfl
/-- pantry/pantrylaw13.used -/
abbrev n_law13_used : Nat := 100
/-- live: [5, 8] -/
def c_law13_used_A0 : ACode :=
 .seq (.region [I 9 (.mv) [T 18]])
 (.region [I 10 (.mv) [T 19]])
def c_law13_used_B0 : ACode :=
 .block 1 (.seq (.seq (.region [I 20 (.load1) [T 5],
   I 21 (.bin .geq) [T 20, N 0],
   I 22 (.mv) [T 21],
   IG 23 (.load1) [T 8] 22 true,
   IG 24 (.lens) [T 23] 22 true,
   IG 25 (.load1) [T 5] 22 true,
   IG 26 (.bin .mul) [N 2, T 25] 22 true,
   IG 27 (.bin .geq) [T 24, T 26] 22 true,
   I 28 (.pick) [T 22, T 27, .lit (.bool false)]])
 (.cond (T 28)
 (.exit 0)
 (.skip)))
 (.region [I 29 (.load1) [T 8],
   I 30 (.mv) [T 9],
   I 31 (.mv) [T 10],
   I 32 (.bslice 3 1 2 (.vals [(.int .i64 0)]) [0, 1]) [T 30, T 31],
   I 33 (.append 3 1 8 (.vals [(.int .i64 0)])) [T 29, T 32],
   J (.store 1) [T 8, T 33]]))
def c_law13_used : AFn := ⟨35, [.tmp 6],
 .seq (.region [I 5 (.box 3 1) [T 2],
   I 6 (.mv) [.lit .nilsl]])
 (.seq (.region [I 11 (.mv) [T 0],
   I 12 (.mv) [T 1],
   I 13 (.callv) [F 122, T 11, T 12],
   I 7 (.mv) [T 13]])
 (.seq (.seq (.region [I 14 (.mv) [T 7],
   I 15 (.eqv false .func) [T 14, .lit .nilfunc]])
 (.cond (T 15)
 (.seq (.region [I 16 (.bslice 3 1 1 (.vals [(.int .i64 0)]) [0]) [N (-1)],
    I 6 (.mv) [T 16]])
  (.ret))
 (.skip)))
 (.seq (.region [I 8 (.alloc 77 1 (.vals [.nilsl])) []])
 (.seq (.seq (.region [I 17 (.mv) [T 7]])
 (.block 0 (.rfun (T 17) [18, 19] c_law13_used_A0 c_law13_used_B0)))
 (.seq (.region [I 34 (.load1) [T 8],
   I 6 (.mv) [T 34]])
 (.ret))))))⟩
theorem t100 : trFn Try.prog Try.f100 = some c_law13_used := by kernel_rfl
/-- (*pantry/swap.Device).may -/
abbrev n_swap_Device_may : Nat := 101
def c_swap_Device_may : AFn := ⟨26, [.tmp 6],
 .seq (.region [I 6 (.mv) [N 0]])
 (.seq (.block 0 (.seq (.region [I 8 (.mv) [T 0],
   I 9 (.callv) [F 103, T 8],
   I 10 (.un .not) [T 9],
   I 7 (.mv) [T 10]])
 (.cond (T 7)
 (.seq (.region [I 6 (.mv) [N 1]])
  (.ret))
 (.seq (.region [I 12 (.mv) [T 1],
    I 13 (.bin .lss) [T 12, N 0],
    I 14 (.mv) [T 13],
    IG 15 (.mv) [T 1] 14 false,
    IG 16 (.mv) [T 0] 14 false,
    IG 17 (.nilCheck) [T 16] 14 false,
    IG 18 (.fieldAddr 0) [T 17] 14 false,
    IG 19 (.load1) [T 18] 14 false,
    IG 20 (.bin .geq) [T 15, T 19] 14 false,
    I 21 (.pick) [T 14, .lit (.bool true), T 20],
    I 22 (.mv) [T 21],
    IG 23 (.mv) [T 2] 22 false,
    IG 24 (.un .not) [T 23] 22 false,
    I 25 (.pick) [T 22, .lit (.bool true), T 24],
    I 11 (.mv) [T 25]])
  (.cond (T 11)
  (.seq (.region [I 6 (.mv) [N 2]])
   (.ret))
  (.skip))))))
 (.seq (.region [I 6 (.mv) [N 0]])
 (.ret)))⟩
theorem t101 : trFn Try.prog Try.f101 = some c_swap_Device_may := by kernel_rfl
/-- (*pantry/swap.plan).fails -/
abbrev n_swap_plan_fails : Nat := 102
def c_swap_plan_fails : AFn := ⟨27, [.tmp 2],
 .seq (.region [I 2 (.mv) [.lit (.bool false)]])
 (.seq (.region [I 3 (.mv) [T 0],
   I 4 (.nilCheck) [T 3],
   I 5 (.fieldAddr 0) [T 4],
   I 6 (.load1) [T 5],
   I 7 (.bin .add) [T 6, N 1],
   I 8 (.nilCheck) [T 3],
   I 9 (.fieldAddr 0) [T 8],
   J (.store 1) [T 9, T 7]])
 (.seq (.seq (.region [I 10 (.mv) [T 0],
   I 11 (.nilCheck) [T 10],
   I 12 (.fieldAddr 1) [T 11],
   I 13 (.load1) [T 12],
   I 14 (.bin .eql) [T 13, N 0]])
 (.cond (T 14)
 (.seq (.region [I 2 (.mv) [.lit (.bool false)]])
  (.ret))
 (.skip)))
 (.seq (.region [I 15 (.mv) [T 0],
   I 16 (.nilCheck) [T 15],
   I 17 (.fieldAddr 1) [T 16],
   I 18 (.load1) [T 17],
   I 19 (.bin .sub) [T 18, N 1],
   I 20 (.nilCheck) [T 15],
   I 21 (.fieldAddr 1) [T 20],
   J (.store 1) [T 21, T 19]])
 (.seq (.region [I 22 (.mv) [T 0],
   I 23 (.nilCheck) [T 22],
   I 24 (.fieldAddr 1) [T 23],
   I 25 (.load1) [T 24],
   I 26 (.bin .eql) [T 25, N 0],
   I 2 (.mv) [T 26]])
 (.ret)))))⟩
theorem t102 : trFn Try.prog Try.f102 = some c_swap_plan_fails := by kernel_rfl
/-- (*pantry/swap.Device).made -/
abbrev n_swap_Device_made : Nat := 103
def c_swap_Device_made : AFn := ⟨11, [.tmp 2],
 .seq (.region [I 2 (.mv) [.lit (.bool false)]])
 (.seq (.region [I 3 (.mv) [T 0],
   I 4 (.eqv true .ptr) [T 3, .lit .nilptr],
   I 5 (.mv) [T 4],
   IG 6 (.mv) [T 0] 5 true,
   IG 7 (.nilCheck) [T 6] 5 true,
   IG 8 (.fieldAddr 1) [T 7] 5 true,
   IG 9 (.load1) [T 8] 5 true,
   I 10 (.pick) [T 5, T 9, .lit (.bool false)],
   I 2 (.mv) [T 10]])
 (.ret))⟩
theorem t103 : trFn Try.prog Try.f103 = some c_swap_Device_made := by kernel_rfl
/-- (*pantry/spread.Counts).made -/
abbrev n_spread_Counts_made : Nat := 112
def c_spread_Counts_made : AFn := ⟨11, [.tmp 2],
 .seq (.region [I 2 (.mv) [.lit (.bool false)]])
 (.seq (.region [I 3 (.mv) [T 0],
   I 4 (.eqv true .ptr) [T 3, .lit .nilptr],
   I 5 (.mv) [T 4],
   IG 6 (.mv) [T 0] 5 true,
   IG 7 (.nilCheck) [T 6] 5 true,
   IG 8 (.fieldAddr 2) [T 7] 5 true,
   IG 9 (.load1) [T 8] 5 true,
   I 10 (.pick) [T 5, T 9, .lit (.bool false)],
   I 2 (.mv) [T 10]])
 (.ret))⟩
theorem t112 : trFn Try.prog Try.f112 = some c_spread_Counts_made := by kernel_rfl
/-- pantry/spread.join -/
abbrev n_spread_join : Nat := 113
/-- live: [3, 7, 8, 9] -/
def c_spread_join_L0 : ACode :=
 .seq (.region [I 10 (.bin .lss) [T 9, T 8]])
 (.seq (.cond (T 10)
 (.skip)
 (.exit 0))
 (.seq (.block 1 (.seq (.region [I 11 (.indexs 3) [T 7, T 9],
   I 12 (.loadn 3) [T 11],
   I 5 (.alloc 121 3 (.vals [(.int .i64 0), (.int .i64 0), (.int .i64 0)])) [],
   J (.store 3) [T 5, T 12]])
 (.seq (.region [I 13 (.mv) [T 3],
   I 14 (.lens) [T 13],
   I 15 (.bin .sub) [T 14, N 1],
   I 6 (.mv) [T 15]])
 (.seq (.draw [[⟨0, I 16 (.mv) [T 6], [], false⟩,
   ⟨1, I 17 (.bin .geq) [T 16, N 0], [], false⟩,
   ⟨2, I 18 (.mv) [T 17], [], false⟩,
   ⟨3, IG 19 (.mv) [T 3] 18 true, [], false⟩,
   ⟨4, IG 20 (.mv) [T 6] 18 true, [], false⟩,
   ⟨5, IG 21 (.indexs 3) [T 19, T 20] 18 true, [], false⟩,
   ⟨6, IG 22 (.fieldAddr 2) [T 21] 18 true, [], false⟩,
   ⟨7, IG 23 (.load1) [T 22] 18 true, [], false⟩,
   ⟨8, IG 24 (.fieldAddr 2) [T 5] 18 true, [], false⟩,
   ⟨9, IG 25 (.load1) [T 24] 18 true, [], false⟩,
   ⟨10, IG 26 (.bin .eql) [T 23, T 25] 18 true, [], false⟩,
   ⟨11, I 27 (.pick) [T 18, T 26, .lit (.bool false)], [], false⟩]])
 (.cond (T 27)
 (.region [I 28 (.mv) [T 3],
    I 29 (.mv) [T 6],
    I 30 (.fieldAddr 1) [T 5],
    I 31 (.load1) [T 30],
    I 32 (.indexs 3) [T 28, T 29],
    I 33 (.fieldAddr 1) [T 32],
    J (.store 1) [T 33, T 31]])
 (.region [I 34 (.mv) [T 3],
    I 35 (.loadn 3) [T 5],
    I 36 (.bslice 121 3 1 (.vals [(.int .i64 0), (.int .i64 0), (.int .i64 0)]) [0]) [T 35],
    I 37 (.append 121 3 24 (.vals [(.int .i64 0), (.int .i64 0), (.int .i64 0)])) [T 34, T 36],
    I 3 (.mv) [T 37]]))))))
 (.region [I 38 (.bin .add) [T 9, N 1],
   I 9 (.mv) [T 38]])))
def c_spread_join : AFn := ⟨40, [.tmp 2],
 .seq (.region [I 2 (.mv) [.lit .nilsl]])
 (.seq (.region [I 3 (.mv) [.lit .nilsl]])
 (.seq (.seq (.region [I 7 (.mv) [T 0],
   I 8 (.lens) [T 7],
   I 9 (.mv) [N 0]])
 (.block 0 (.loop c_spread_join_L0)))
 (.seq (.region [I 39 (.mv) [T 3],
   I 2 (.mv) [T 39]])
 (.ret))))⟩
theorem t113 : trFn Try.prog Try.f113 = some c_spread_join := by kernel_rfl
/-- slices.Clone[[]pantry/api.Run,pantry/api.Run] -/
abbrev n_slices_Clone_api_Run_api_Run : Nat := 114
def c_slices_Clone_api_Run_api_Run : AFn := ⟨8, [.tmp 2],
 .seq (.region [I 2 (.mv) [.lit .nilsl]])
 (.seq (.seq (.region [I 3 (.mv) [T 0],
   I 4 (.eqv false .slice) [T 3, .lit .nilsl]])
 (.cond (T 4)
 (.seq (.region [I 2 (.mv) [.lit .nilsl]])
  (.ret))
 (.skip)))
 (.seq (.region [I 5 (.bslice 121 3 0 (.vals [(.int .i64 0), (.int .i64 0), (.int .i64 0)]) []) [],
   I 6 (.mv) [T 0],
   I 7 (.append 121 3 24 (.vals [(.int .i64 0), (.int .i64 0), (.int .i64 0)])) [T 5, T 6],
   I 2 (.mv) [T 7]])
 (.ret)))⟩
theorem t114 : trFn Try.prog Try.f114 = some c_slices_Clone_api_Run_api_Run := by kernel_rfl
/-- (*pantry/spread.Counts).parts -/
abbrev n_spread_Counts_parts : Nat := 115
def c_spread_Counts_parts : AFn := ⟨8, [.tmp 6],
 .seq (.region [I 3 (.box 103 1) [T 0],
   I 4 (.box 3 1) [T 1],
   I 5 (.box 3 1) [T 2],
   I 6 (.mv) [.lit .nilfunc]])
 (.seq (.region [I 7 (.mkfunc 123 0) [T 3, T 4, T 5],
   I 6 (.mv) [T 7]])
 (.ret))⟩
theorem t115 : trFn Try.prog Try.f115 = some c_spread_Counts_parts := by kernel_rfl
/-- pantry/spread.split -/
abbrev n_spread_split : Nat := 116
def c_spread_split : AFn := ⟨39, [.tmp 4],
 .seq (.region [I 3 (.box 3 1) [T 1],
   I 4 (.mv) [.lit .nilsl]])
 (.seq (.region [I 8 (.mv) [T 0],
   I 9 (.mkfunc 125 0) [T 3],
   I 10 (.callv) [F 124, T 8, T 9],
   I 5 (.mv) [T 10]])
 (.seq (.seq (.region [I 11 (.mv) [T 5],
   I 12 (.bin .lss) [T 11, N 0]])
 (.cond (T 12)
 (.seq (.region [I 13 (.mv) [T 0],
    I 4 (.mv) [T 13]])
  (.ret))
 (.skip)))
 (.seq (.draw [[⟨0, I 14 (.mv) [T 0], [], false⟩,
   ⟨1, I 15 (.mv) [T 5], [], false⟩,
   ⟨2, I 16 (.indexs 3) [T 14, T 15], [], false⟩,
   ⟨3, I 17 (.loadn 3) [T 16], [], false⟩,
   ⟨4, I 18 (.mv) [T 0], [], false⟩,
   ⟨5, I 19 (.mv) [T 5], [], false⟩,
   ⟨6, I 20 (.indexs 3) [T 18, T 19], [], false⟩,
   ⟨7, I 21 (.loadn 3) [T 20], [], false⟩,
   ⟨8, I 6 (.alloc 121 3 (.vals [(.int .i64 0), (.int .i64 0), (.int .i64 0)])) [], [(3, I 17 (.loadn 3) [T 16]), (7, I 21 (.loadn 3) [T 20])], false⟩,
   ⟨9, I 7 (.alloc 121 3 (.vals [(.int .i64 0), (.int .i64 0), (.int .i64 0)])) [], [(3, I 17 (.loadn 3) [T 16]), (7, I 21 (.loadn 3) [T 20])], false⟩,
   ⟨10, J (.store 3) [T 6, T 17], [(7, I 21 (.loadn 3) [T 20])], false⟩,
   ⟨11, J (.store 3) [T 7, T 21], [], false⟩],
[⟨0, I 14 (.mv) [T 0], [], false⟩,
   ⟨1, I 15 (.mv) [T 5], [], false⟩,
   ⟨2, I 16 (.indexs 3) [T 14, T 15], [], false⟩,
   ⟨3, I 17 (.loadn 3) [T 16], [], false⟩,
   ⟨4, I 18 (.mv) [T 0], [], false⟩,
   ⟨5, I 19 (.mv) [T 5], [], false⟩,
   ⟨6, I 20 (.indexs 3) [T 18, T 19], [], false⟩,
   ⟨7, I 21 (.loadn 3) [T 20], [], false⟩,
   ⟨9, I 7 (.alloc 121 3 (.vals [(.int .i64 0), (.int .i64 0), (.int .i64 0)])) [], [(3, I 17 (.loadn 3) [T 16]), (7, I 21 (.loadn 3) [T 20])], false⟩,
   ⟨8, I 6 (.alloc 121 3 (.vals [(.int .i64 0), (.int .i64 0), (.int .i64 0)])) [], [(3, I 17 (.loadn 3) [T 16]), (7, I 21 (.loadn 3) [T 20])], false⟩,
   ⟨10, J (.store 3) [T 6, T 17], [(7, I 21 (.loadn 3) [T 20])], false⟩,
   ⟨11, J (.store 3) [T 7, T 21], [], false⟩]])
 (.seq (.draw [[⟨0, I 22 (.load1) [T 3], [], false⟩,
   ⟨1, I 23 (.load1) [T 3], [], false⟩,
   ⟨2, I 24 (.fieldAddr 1) [T 6], [], false⟩,
   ⟨3, J (.store 1) [T 24, T 22], [(1, I 23 (.load1) [T 3])], false⟩,
   ⟨4, I 25 (.fieldAddr 0) [T 7], [], false⟩,
   ⟨5, J (.store 1) [T 25, T 23], [], false⟩]])
 (.seq (.draw [[⟨0, I 26 (.mv) [T 0], [], false⟩,
   ⟨1, I 27 (.mv) [T 5], [], false⟩,
   ⟨2, I 28 (.mv) [T 5], [], false⟩,
   ⟨3, I 29 (.slice 3 false true true) [T 26, T 27, T 28], [], false⟩,
   ⟨4, I 30 (.loadn 3) [T 6], [], false⟩,
   ⟨5, I 31 (.loadn 3) [T 7], [], false⟩,
   ⟨7, I 33 (.mv) [T 0], [], false⟩,
   ⟨8, I 34 (.mv) [T 5], [], false⟩,
   ⟨9, I 35 (.bin .add) [T 34, N 1], [], false⟩,
   ⟨10, I 36 (.slice 3 true false false) [T 33, T 35], [], false⟩,
   ⟨6, I 32 (.bslice 121 3 2 (.vals [(.int .i64 0), (.int .i64 0), (.int .i64 0)]) [0, 1]) [T 30, T 31], [], false⟩,
   ⟨11, I 37 (.bslice 117 1 3 (.vals [.nilsl]) [0, 1, 2]) [T 29, T 32, T 36], [], false⟩,
   ⟨12, I 38 (.callv) [F 126, T 37], [], false⟩,
   ⟨13, I 4 (.mv) [T 38], [], false⟩]])
 (.ret))))))⟩
theorem t116 : trFn Try.prog Try.f116 = some c_spread_split := by kernel_rfl
/-- (*pantry/amap.Pool).made -/
abbrev n_amap_Pool_made : Nat := 117
def c_amap_Pool_made : AFn := ⟨11, [.tmp 2],
 .seq (.region [I 2 (.mv) [.lit (.bool false)]])
 (.seq (.region [I 3 (.mv) [T 0],
   I 4 (.eqv true .ptr) [T 3, .lit .nilptr],
   I 5 (.mv) [T 4],
   IG 6 (.mv) [T 0] 5 true,
   IG 7 (.nilCheck) [T 6] 5 true,
   IG 8 (.fieldAddr 1) [T 7] 5 true,
   IG 9 (.load1) [T 8] 5 true,
   I 10 (.pick) [T 5, T 9, .lit (.bool false)],
   I 2 (.mv) [T 10]])
 (.ret))⟩
theorem t117 : trFn Try.prog Try.f117 = some c_amap_Pool_made := by kernel_rfl
/-- slices.Index[[]*pantry/amap.one,*pantry/amap.one] -/
abbrev n_slices_Index_amap_one_amap_one : Nat := 118
/-- live: [0, 1, 7, 8] -/
def c_slices_Index_amap_one_amap_one_L0 : ACode :=
 .seq (.region [I 9 (.bin .lss) [T 8, T 7]])
 (.seq (.cond (T 9)
 (.skip)
 (.exit 0))
 (.seq (.block 1 (.seq (.region [I 10 (.mv) [T 8],
   I 5 (.mv) [T 10]])
 (.seq (.region [I 11 (.mv) [T 1],
   I 12 (.mv) [T 0],
   I 13 (.mv) [T 5],
   I 14 (.indexs 1) [T 12, T 13],
   I 15 (.load1) [T 14],
   I 16 (.eqv false .ptr) [T 11, T 15]])
 (.cond (T 16)
 (.seq (.region [I 17 (.mv) [T 5],
    I 4 (.mv) [T 17]])
  (.ret))
 (.skip)))))
 (.region [I 18 (.bin .add) [T 8, N 1],
   I 8 (.mv) [T 18]])))
def c_slices_Index_amap_one_amap_one : AFn := ⟨19, [.tmp 4],
 .seq (.region [I 4 (.mv) [N 0]])
 (.seq (.seq (.region [I 6 (.mv) [T 0],
   I 7 (.lens) [T 6],
   I 8 (.mv) [N 0]])
 (.block 0 (.loop c_slices_Index_amap_one_amap_one_L0)))
 (.seq (.region [I 4 (.mv) [N (-1)]])
 (.ret)))⟩
theorem t118 : trFn Try.prog Try.f118 = some c_slices_Index_amap_one_amap_one := by kernel_rfl
/-- (*pantry/amap.Pool).known -/
abbrev n_amap_Pool_known : Nat := 119
def c_amap_Pool_known : AFn := ⟨16, [.tmp 4, .tmp 5],
 .seq (.region [I 4 (.mv) [.lit .nilptr],
   I 5 (.mv) [N 0]])
 (.seq (.seq (.region [I 7 (.mv) [T 0],
   I 8 (.callv) [F 117, T 7],
   I 9 (.un .not) [T 8]])
 (.cond (T 9)
 (.seq (.region [I 4 (.mv) [.lit .nilptr],
    I 5 (.mv) [N 1]])
  (.ret))
 (.skip)))
 (.seq (.region [I 10 (.mv) [T 0],
   I 11 (.mv) [T 1],
   I 12 (.callv) [F 121, T 10, T 11],
   I 6 (.mv) [T 12]])
 (.seq (.seq (.region [I 13 (.mv) [T 6],
   I 14 (.eqv false .ptr) [T 13, .lit .nilptr]])
 (.cond (T 14)
 (.seq (.region [I 4 (.mv) [.lit .nilptr],
    I 5 (.mv) [N 7]])
  (.ret))
 (.skip)))
 (.seq (.region [I 15 (.mv) [T 6],
   I 4 (.mv) [T 15],
   I 5 (.mv) [N 0]])
 (.ret)))))⟩
theorem t119 : trFn Try.prog Try.f119 = some c_amap_Pool_known := by kernel_rfl
/-- (*pantry/amap.one).within -/
abbrev n_amap_one_within : Nat := 120
def c_amap_one_within : AFn := ⟨23, [.tmp 6],
 .seq (.region [I 6 (.mv) [.lit (.bool false)]])
 (.seq (.region [I 7 (.mv) [T 1],
   I 8 (.bin .geq) [T 7, N 0],
   I 9 (.mv) [T 8],
   IG 10 (.mv) [T 1] 9 true,
   IG 11 (.mv) [T 2] 9 true,
   IG 12 (.bin .lss) [T 10, T 11] 9 true,
   I 13 (.pick) [T 9, T 12, .lit (.bool false)],
   I 14 (.mv) [T 13],
   IG 15 (.mv) [T 2] 14 true,
   IG 16 (.mv) [T 0] 14 true,
   IG 17 (.nilCheck) [T 16] 14 true,
   IG 18 (.fieldAddr 1) [T 17] 14 true,
   IG 19 (.load1) [T 18] 14 true,
   IG 20 (.lens) [T 19] 14 true,
   IG 21 (.bin .leq) [T 15, T 20] 14 true,
   I 22 (.pick) [T 14, T 21, .lit (.bool false)],
   I 6 (.mv) [T 22]])
 (.ret))⟩
theorem t120 : trFn Try.prog Try.f120 = some c_amap_one_within := by kernel_rfl
/-- (*pantry/amap.Pool).of -/
abbrev n_amap_Pool_of : Nat := 121
def c_amap_Pool_of : AFn := ⟨29, [.tmp 4],
 .seq (.region [I 4 (.mv) [.lit .nilptr]])
 (.seq (.seq (.region [I 5 (.mv) [T 0],
   I 6 (.callv) [F 117, T 5],
   I 7 (.un .not) [T 6],
   I 8 (.mv) [T 7],
   IG 9 (.mv) [T 1] 8 false,
   IG 10 (.bin .lss) [T 9, N 1] 8 false,
   I 11 (.pick) [T 8, .lit (.bool true), T 10],
   I 12 (.mv) [T 11],
   IG 13 (.mv) [T 1] 12 false,
   IG 14 (.mv) [T 0] 12 false,
   IG 15 (.nilCheck) [T 14] 12 false,
   IG 16 (.fieldAddr 2) [T 15] 12 false,
   IG 17 (.load1) [T 16] 12 false,
   IG 18 (.lens) [T 17] 12 false,
   IG 19 (.bin .gtr) [T 13, T 18] 12 false,
   I 20 (.pick) [T 12, .lit (.bool true), T 19]])
 (.cond (T 20)
 (.seq (.region [I 4 (.mv) [.lit .nilptr]])
  (.ret))
 (.skip)))
 (.seq (.region [I 21 (.mv) [T 0],
   I 22 (.nilCheck) [T 21],
   I 23 (.fieldAddr 2) [T 22],
   I 24 (.load1) [T 23],
   I 25 (.mv) [T 1],
   I 26 (.bin .sub) [T 25, N 1],
   I 27 (.indexs 1) [T 24, T 26],
   I 28 (.load1) [T 27],
   I 4 (.mv) [T 28]])
 (.ret)))⟩
theorem t121 : trFn Try.prog Try.f121 = some c_amap_Pool_of := by kernel_rfl
/-- (*pantry/amap.Pool).Used -/
abbrev n_amap_Pool_Used : Nat := 122
def c_amap_Pool_Used : AFn := ⟨6, [.tmp 4],
 .seq (.region [I 2 (.box 129 1) [T 0],
   I 3 (.box 3 1) [T 1],
   I 4 (.mv) [.lit .nilfunc]])
 (.seq (.region [I 5 (.mkfunc 127 0) [T 2, T 3],
   I 4 (.mv) [T 5]])
 (.ret))⟩
theorem t122 : trFn Try.prog Try.f122 = some c_amap_Pool_Used := by kernel_rfl
/-- (*pantry/spread.Counts).parts$1 -/
abbrev n_spread_Counts_parts_1 : Nat := 123
/-- live: [0, 2, 3, 13, 14, 15] -/
def c_spread_Counts_parts_1_L0 : ACode :=
 .seq (.region [I 16 (.bin .lss) [T 15, T 14]])
 (.seq (.cond (T 16)
 (.skip)
 (.exit 0))
 (.seq (.block 1 (.seq (.region [I 17 (.indexs 3) [T 13, T 15],
   I 18 (.loadn 3) [T 17],
   I 6 (.alloc 121 3 (.vals [(.int .i64 0), (.int .i64 0), (.int .i64 0)])) [],
   J (.store 3) [T 6, T 18]])
 (.seq (.draw [[⟨0, I 19 (.fieldAddr 0) [T 6], [], false⟩,
   ⟨1, I 20 (.load1) [T 19], [], false⟩,
   ⟨2, I 21 (.load1) [T 2], [], false⟩,
   ⟨3, I 22 (.max) [T 20, T 21], [], false⟩,
   ⟨4, I 23 (.fieldAddr 1) [T 6], [], false⟩,
   ⟨5, I 24 (.load1) [T 23], [], false⟩,
   ⟨6, I 25 (.load1) [T 3], [], false⟩,
   ⟨7, I 26 (.min) [T 24, T 25], [], false⟩,
   ⟨8, I 27 (.fieldAddr 0) [T 6], [], false⟩,
   ⟨9, J (.store 1) [T 27, T 22], [(6, I 25 (.load1) [T 3])], false⟩,
   ⟨10, I 28 (.fieldAddr 1) [T 6], [], false⟩,
   ⟨11, J (.store 1) [T 28, T 26], [], false⟩]])
 (.seq (.region [I 29 (.fieldAddr 0) [T 6],
   I 30 (.load1) [T 29],
   I 31 (.fieldAddr 1) [T 6],
   I 32 (.load1) [T 31],
   I 33 (.bin .lss) [T 30, T 32],
   I 34 (.mv) [T 33],
   IG 35 (.mv) [T 0] 34 true,
   IG 36 (.loadn 3) [T 6] 34 true,
   IG 37 (.callv) [T 35, T 36] 34 true,
   IG 38 (.un .not) [T 37] 34 true,
   I 39 (.pick) [T 34, T 38, .lit (.bool false)]])
 (.cond (T 39)
 (.ret)
 (.skip))))))
 (.region [I 40 (.bin .add) [T 15, N 1],
   I 15 (.mv) [T 40]])))
def c_spread_Counts_parts_1 : AFn := ⟨41, [],
 .seq (.seq (.region [I 7 (.load1) [T 1],
   I 8 (.callv) [F 112, T 7],
   I 9 (.un .not) [T 8]])
 (.cond (T 9)
 (.ret)
 (.skip)))
 (.seq (.region [I 10 (.load1) [T 1],
   I 11 (.nilCheck) [T 10],
   I 12 (.fieldAddr 0) [T 11],
   I 13 (.load1) [T 12],
   I 14 (.lens) [T 13],
   I 15 (.mv) [N 0]])
 (.block 0 (.loop c_spread_Counts_parts_1_L0)))⟩
theorem t123 : trFn Try.prog Try.f123 = some c_spread_Counts_parts_1 := by kernel_rfl
/-- slices.IndexFunc[[]pantry/api.Run,pantry/api.Run] -/
abbrev n_slices_IndexFunc_api_Run_api_Run : Nat := 124
/-- live: [0, 1, 7, 8] -/
def c_slices_IndexFunc_api_Run_api_Run_L0 : ACode :=
 .seq (.region [I 9 (.bin .lss) [T 8, T 7]])
 (.seq (.cond (T 9)
 (.skip)
 (.exit 0))
 (.seq (.block 1 (.seq (.region [I 10 (.mv) [T 8],
   I 5 (.mv) [T 10]])
 (.seq (.region [I 11 (.mv) [T 1],
   I 12 (.mv) [T 0],
   I 13 (.mv) [T 5],
   I 14 (.indexs 3) [T 12, T 13],
   I 15 (.loadn 3) [T 14],
   I 16 (.callv) [T 11, T 15]])
 (.cond (T 16)
 (.seq (.region [I 17 (.mv) [T 5],
    I 4 (.mv) [T 17]])
  (.ret))
 (.skip)))))
 (.region [I 18 (.bin .add) [T 8, N 1],
   I 8 (.mv) [T 18]])))
def c_slices_IndexFunc_api_Run_api_Run : AFn := ⟨19, [.tmp 4],
 .seq (.region [I 4 (.mv) [N 0]])
 (.seq (.seq (.region [I 6 (.mv) [T 0],
   I 7 (.lens) [T 6],
   I 8 (.mv) [N 0]])
 (.block 0 (.loop c_slices_IndexFunc_api_Run_api_Run_L0)))
 (.seq (.region [I 4 (.mv) [N (-1)]])
 (.ret)))⟩
theorem t124 : trFn Try.prog Try.f124 = some c_slices_IndexFunc_api_Run_api_Run := by kernel_rfl
/-- pantry/spread.split$1 -/
abbrev n_spread_split_1 : Nat := 125
def c_spread_split_1 : AFn := ⟨14, [.tmp 3],
 .seq (.region [I 2 (.box 121 3) [T 0],
   I 3 (.mv) [.lit (.bool false)]])
 (.seq (.region [I 4 (.fieldAddr 0) [T 2],
   I 5 (.load1) [T 4],
   I 6 (.load1) [T 1],
   I 7 (.bin .lss) [T 5, T 6],
   I 8 (.mv) [T 7],
   IG 9 (.load1) [T 1] 8 true,
   IG 10 (.fieldAddr 1) [T 2] 8 true,
   IG 11 (.load1) [T 10] 8 true,
   IG 12 (.bin .lss) [T 9, T 11] 8 true,
   I 13 (.pick) [T 8, T 12, .lit (.bool false)],
   I 3 (.mv) [T 13]])
 (.ret))⟩
theorem t125 : trFn Try.prog Try.f125 = some c_spread_split_1 := by kernel_rfl
/-- slices.Concat[[]pantry/api.Run,pantry/api.Run] -/
abbrev n_slices_Concat_api_Run_api_Run : Nat := 126
/-- live: [0, 3, 9, 10, 11] -/
def c_slices_Concat_api_Run_api_Run_L0 : ACode :=
 .seq (.region [I 12 (.bin .lss) [T 11, T 10]])
 (.seq (.cond (T 12)
 (.skip)
 (.exit 0))
 (.seq (.block 1 (.seq (.region [I 13 (.indexs 1) [T 9, T 11],
   I 14 (.load1) [T 13],
   I 5 (.mv) [T 14]])
 (.seq (.region [I 15 (.mv) [T 3],
   I 16 (.mv) [T 5],
   I 17 (.lens) [T 16],
   I 18 (.bin .add) [T 15, T 17],
   I 3 (.mv) [T 18]])
 (.seq (.region [I 19 (.mv) [T 3],
   I 20 (.bin .lss) [T 19, N 0]])
 (.cond (T 20)
 (.region [I 21 (.bad) [.lit (.str ⟨#[108, 101, 110, 32, 111, 117, 116, 32, 111, 102, 32, 114, 97, 110, 103, 101]⟩)],
    J (.bad) [T 21]])
 (.skip))))))
 (.region [I 22 (.bin .add) [T 11, N 1],
   I 11 (.mv) [T 22]])))
/-- live: [6, 25, 26, 27] -/
def c_slices_Concat_api_Run_api_Run_L1 : ACode :=
 .seq (.region [I 28 (.bin .lss) [T 27, T 26]])
 (.seq (.cond (T 28)
 (.skip)
 (.exit 2))
 (.seq (.block 3 (.seq (.region [I 29 (.indexs 1) [T 25, T 27],
   I 30 (.load1) [T 29],
   I 8 (.mv) [T 30]])
 (.region [I 31 (.mv) [T 6],
   I 32 (.mv) [T 8],
   I 33 (.append 121 3 24 (.vals [(.int .i64 0), (.int .i64 0), (.int .i64 0)])) [T 31, T 32],
   I 6 (.mv) [T 33]])))
 (.region [I 34 (.bin .add) [T 27, N 1],
   I 27 (.mv) [T 34]])))
def c_slices_Concat_api_Run_api_Run : AFn := ⟨36, [.tmp 2],
 .seq (.region [I 2 (.mv) [.lit .nilsl]])
 (.seq (.region [I 3 (.mv) [N 0]])
 (.seq (.seq (.region [I 9 (.mv) [T 0],
   I 10 (.lens) [T 9],
   I 11 (.mv) [N 0]])
 (.block 0 (.loop c_slices_Concat_api_Run_api_Run_L0)))
 (.seq (.region [I 23 (.mv) [T 3],
   I 24 (.callv) [F 129, .lit .nilsl, T 23],
   I 6 (.mv) [T 24]])
 (.seq (.seq (.region [I 25 (.mv) [T 0],
   I 26 (.lens) [T 25],
   I 27 (.mv) [N 0]])
 (.block 2 (.loop c_slices_Concat_api_Run_api_Run_L1)))
 (.seq (.region [I 35 (.mv) [T 6],
   I 2 (.mv) [T 35]])
 (.ret))))))⟩
theorem t126 : trFn Try.prog Try.f126 = some c_slices_Concat_api_Run_api_Run := by kernel_rfl
/-- (*pantry/amap.Pool).Used$1 -/
abbrev n_amap_Pool_Used_1 : Nat := 127
/-- live: [0, 16, 17, 18] -/
def c_amap_Pool_Used_1_L0 : ACode :=
 .seq (.region [I 19 (.bin .lss) [T 18, T 17]])
 (.seq (.cond (T 19)
 (.skip)
 (.exit 0))
 (.seq (.block 1 (.seq (.region [I 20 (.mv) [T 18],
   I 21 (.indexs 1) [T 16, T 18],
   I 22 (.load1) [T 21],
   I 5 (.mv) [T 20],
   I 6 (.mv) [T 22]])
 (.seq (.region [I 23 (.mv) [T 6],
   I 24 (.bin .gtr) [T 23, N 0],
   I 25 (.mv) [T 24],
   IG 26 (.mv) [T 0] 25 true,
   IG 27 (.mv) [T 5] 25 true,
   IG 28 (.mv) [T 6] 25 true,
   IG 29 (.callv) [T 26, T 27, T 28] 25 true,
   IG 30 (.un .not) [T 29] 25 true,
   I 31 (.pick) [T 25, T 30, .lit (.bool false)]])
 (.cond (T 31)
 (.ret)
 (.skip)))))
 (.region [I 32 (.bin .add) [T 18, N 1],
   I 18 (.mv) [T 32]])))
def c_amap_Pool_Used_1 : AFn := ⟨33, [],
 .seq (.region [I 7 (.load1) [T 1],
   I 8 (.load1) [T 2],
   I 9 (.callv) [F 121, T 7, T 8],
   I 4 (.mv) [T 9]])
 (.seq (.seq (.region [I 10 (.mv) [T 4],
   I 11 (.eqv false .ptr) [T 10, .lit .nilptr]])
 (.cond (T 11)
 (.ret)
 (.skip)))
 (.seq (.region [I 12 (.mv) [T 4],
   I 13 (.nilCheck) [T 12],
   I 14 (.fieldAddr 1) [T 13],
   I 15 (.load1) [T 14],
   I 16 (.callv) [F 128, T 15],
   I 17 (.lens) [T 16],
   I 18 (.mv) [N 0]])
 (.block 0 (.loop c_amap_Pool_Used_1_L0))))⟩
theorem t127 : trFn Try.prog Try.f127 = some c_amap_Pool_Used_1 := by kernel_rfl
/-- slices.Clone[[]int,int] -/
abbrev n_slices_Clone_int_int : Nat := 128
def c_slices_Clone_int_int : AFn := ⟨8, [.tmp 2],
 .seq (.region [I 2 (.mv) [.lit .nilsl]])
 (.seq (.seq (.region [I 3 (.mv) [T 0],
   I 4 (.eqv false .slice) [T 3, .lit .nilsl]])
 (.cond (T 4)
 (.seq (.region [I 2 (.mv) [.lit .nilsl]])
  (.ret))
 (.skip)))
 (.seq (.region [I 5 (.bslice 3 1 0 (.vals [(.int .i64 0)]) []) [],
   I 6 (.mv) [T 0],
   I 7 (.append 3 1 8 (.vals [(.int .i64 0)])) [T 5, T 6],
   I 2 (.mv) [T 7]])
 (.ret)))⟩
theorem t128 : trFn Try.prog Try.f128 = some c_slices_Clone_int_int := by kernel_rfl
/-- slices.Grow[[]pantry/api.Run,pantry/api.Run] -/
abbrev n_slices_Grow_api_Run_api_Run : Nat := 129
def c_slices_Grow_api_Run_api_Run : AFn := ⟨27, [.tmp 4],
 .seq (.region [I 4 (.mv) [.lit .nilsl]])
 (.seq (.seq (.region [I 5 (.mv) [T 1],
   I 6 (.bin .lss) [T 5, N 0]])
 (.cond (T 6)
 (.region [I 7 (.bad) [.lit (.str ⟨#[99, 97, 110, 110, 111, 116, 32, 98, 101, 32, 110, 101, 103, 97, 116, 105, 118, 101]⟩)],
    J (.bad) [T 7]])
 (.skip)))
 (.seq (.seq (.region [I 8 (.mv) [T 1],
   I 9 (.mv) [T 0],
   I 10 (.cap) [T 9],
   I 11 (.mv) [T 0],
   I 12 (.lens) [T 11],
   I 13 (.bin .sub) [T 10, T 12],
   I 14 (.bin .sub) [T 8, T 13],
   I 1 (.mv) [T 14]])
 (.seq (.region [I 15 (.mv) [T 1],
   I 16 (.bin .gtr) [T 15, N 0]])
 (.cond (T 16)
 (.region [I 17 (.mv) [T 0],
    I 18 (.mv) [T 0],
    I 19 (.cap) [T 18],
    I 20 (.slice 3 false true false) [T 17, T 19],
    I 21 (.mv) [T 1],
    I 22 (.appendz 121 3 24 (.vals [(.int .i64 0), (.int .i64 0), (.int .i64 0)])) [T 20, T 21],
    I 23 (.mv) [T 0],
    I 24 (.lens) [T 23],
    I 25 (.slice 3 false true false) [T 22, T 24],
    I 0 (.mv) [T 25]])
 (.skip))))
 (.seq (.region [I 26 (.mv) [T 0],
   I 4 (.mv) [T 26]])
 (.ret))))⟩
theorem t129 : trFn Try.prog Try.f129 = some c_slices_Grow_api_Run_api_Run := by kernel_rfl
def tab : BT := (.node (.node (.node (.node (.node (.node (.node .leaf 2 c_gosem_cut_init .leaf) 3 c_law09_SwapKeeps .leaf) 4 c_law09_SwapPlans (.node .leaf 22 c_law13_AmapActs .leaf)) 24 c_swap_New (.node (.node .leaf 26 c_law09_lives .leaf) 27 c_law09_page (.node .leaf 28 c_swap_Device_Write .leaf))) 30 c_swap_Device_Plan (.node (.node (.node .leaf 61 c_spread_New .leaf) 62 c_ref11_New (.node .leaf 64 c_spread_Counts_Grow .leaf)) 66 c_spread_Counts_Add (.node (.node .leaf 67 c_ref11_Counts_Add .leaf) 68 c_ref01_Ints (.node .leaf 69 c_spread_Counts_Len .leaf)))) 70 c_spread_Counts_At (.node (.node (.node (.node .leaf 71 c_ref11_Counts_At .leaf) 72 c_spread_Counts_Sum (.node .leaf 73 c_ref11_Counts_Sum .leaf)) 75 c_spread_Counts_Runs (.node (.node .leaf 78 c_amap_New .leaf) 79 c_amap_Pool_Make (.node .leaf 80 c_amap_Pool_Set .leaf))) 81 c_amap_Pool_Drop (.node (.node (.node .leaf 82 c_amap_Pool_Slots .leaf) 83 c_amap_Pool_Get (.node .leaf 84 c_law13_lives .leaf)) 85 c_amap_Pool_Hold (.node (.node .leaf 86 c_amap_Pool_Ids .leaf) 87 c_amap_Pool_Cover (.node .leaf 88 c_amap_Pool_Copy .leaf))))) 89 c_ref13_New (.node (.node (.node (.node (.node (.node .leaf 90 c_ref13_Pool_Make .leaf) 91 c_ref13_Pool_Set .leaf) 92 c_ref13_Pool_Hold (.node .leaf 93 c_ref13_Pool_Drop .leaf)) 94 c_ref13_Pool_Copy (.node (.node .leaf 95 c_ref13_Pool_Of .leaf) 96 c_ref13_Pool_Slots (.node .leaf 97 c_ref13_Pool_Cover .leaf))) 98 c_ref13_Pool_Get (.node (.node (.node .leaf 99 c_ref13_Pool_Ids .leaf) 100 c_law13_used (.node .leaf 101 c_swap_Device_may .leaf)) 102 c_swap_plan_fails (.node (.node .leaf 103 c_swap_Device_made .leaf) 112 c_spread_Counts_made (.node .leaf 113 c_spread_join .leaf)))) 114 c_slices_Clone_api_Run_api_Run (.node (.node (.node (.node .leaf 115 c_spread_Counts_parts .leaf) 116 c_spread_split (.node .leaf 117 c_amap_Pool_made .leaf)) 118 c_slices_Index_amap_one_amap_one (.node (.node .leaf 119 c_amap_Pool_known .leaf) 120 c_amap_one_within (.node .leaf 121 c_amap_Pool_of .leaf))) 122 c_amap_Pool_Used (.node (.node (.node .leaf 123 c_spread_Counts_parts_1 .leaf) 124 c_slices_IndexFunc_api_Run_api_Run (.node .leaf 125 c_spread_split_1 .leaf)) 126 c_slices_Concat_api_Run_api_Run (.node (.node .leaf 127 c_amap_Pool_Used_1 .leaf) 128 c_slices_Clone_int_int (.node .leaf 129 c_slices_Grow_api_Run_api_Run .leaf))))))
theorem i2 : Is Try.prog 2 c_gosem_cut_init := ⟨Try.f2, Try.func2, t2, Try.call2⟩
theorem i3 : Is Try.prog 3 c_law09_SwapKeeps := ⟨Try.f3, Try.func3, t3, Try.call3⟩
theorem i4 : Is Try.prog 4 c_law09_SwapPlans := ⟨Try.f4, Try.func4, t4, Try.call4⟩
theorem i22 : Is Try.prog 22 c_law13_AmapActs := ⟨Try.f22, Try.func22, t22, Try.call22⟩
theorem i24 : Is Try.prog 24 c_swap_New := ⟨Try.f24, Try.func24, t24, Try.call24⟩
theorem i26 : Is Try.prog 26 c_law09_lives := ⟨Try.f26, Try.func26, t26, Try.call26⟩
theorem i27 : Is Try.prog 27 c_law09_page := ⟨Try.f27, Try.func27, t27, Try.call27⟩
theorem i28 : Is Try.prog 28 c_swap_Device_Write := ⟨Try.f28, Try.func28, t28, Try.call28⟩
theorem i30 : Is Try.prog 30 c_swap_Device_Plan := ⟨Try.f30, Try.func30, t30, Try.call30⟩
theorem i61 : Is Try.prog 61 c_spread_New := ⟨Try.f61, Try.func61, t61, Try.call61⟩
theorem i62 : Is Try.prog 62 c_ref11_New := ⟨Try.f62, Try.func62, t62, Try.call62⟩
theorem i64 : Is Try.prog 64 c_spread_Counts_Grow := ⟨Try.f64, Try.func64, t64, Try.call64⟩
theorem i66 : Is Try.prog 66 c_spread_Counts_Add := ⟨Try.f66, Try.func66, t66, Try.call66⟩
theorem i67 : Is Try.prog 67 c_ref11_Counts_Add := ⟨Try.f67, Try.func67, t67, Try.call67⟩
theorem i68 : Is Try.prog 68 c_ref01_Ints := ⟨Try.f68, Try.func68, t68, Try.call68⟩
theorem i69 : Is Try.prog 69 c_spread_Counts_Len := ⟨Try.f69, Try.func69, t69, Try.call69⟩
theorem i70 : Is Try.prog 70 c_spread_Counts_At := ⟨Try.f70, Try.func70, t70, Try.call70⟩
theorem i71 : Is Try.prog 71 c_ref11_Counts_At := ⟨Try.f71, Try.func71, t71, Try.call71⟩
theorem i72 : Is Try.prog 72 c_spread_Counts_Sum := ⟨Try.f72, Try.func72, t72, Try.call72⟩
theorem i73 : Is Try.prog 73 c_ref11_Counts_Sum := ⟨Try.f73, Try.func73, t73, Try.call73⟩
theorem i75 : Is Try.prog 75 c_spread_Counts_Runs := ⟨Try.f75, Try.func75, t75, Try.call75⟩
theorem i78 : Is Try.prog 78 c_amap_New := ⟨Try.f78, Try.func78, t78, Try.call78⟩
theorem i79 : Is Try.prog 79 c_amap_Pool_Make := ⟨Try.f79, Try.func79, t79, Try.call79⟩
theorem i80 : Is Try.prog 80 c_amap_Pool_Set := ⟨Try.f80, Try.func80, t80, Try.call80⟩
theorem i81 : Is Try.prog 81 c_amap_Pool_Drop := ⟨Try.f81, Try.func81, t81, Try.call81⟩
theorem i82 : Is Try.prog 82 c_amap_Pool_Slots := ⟨Try.f82, Try.func82, t82, Try.call82⟩
theorem i83 : Is Try.prog 83 c_amap_Pool_Get := ⟨Try.f83, Try.func83, t83, Try.call83⟩
theorem i84 : Is Try.prog 84 c_law13_lives := ⟨Try.f84, Try.func84, t84, Try.call84⟩
theorem i85 : Is Try.prog 85 c_amap_Pool_Hold := ⟨Try.f85, Try.func85, t85, Try.call85⟩
theorem i86 : Is Try.prog 86 c_amap_Pool_Ids := ⟨Try.f86, Try.func86, t86, Try.call86⟩
theorem i87 : Is Try.prog 87 c_amap_Pool_Cover := ⟨Try.f87, Try.func87, t87, Try.call87⟩
theorem i88 : Is Try.prog 88 c_amap_Pool_Copy := ⟨Try.f88, Try.func88, t88, Try.call88⟩
theorem i89 : Is Try.prog 89 c_ref13_New := ⟨Try.f89, Try.func89, t89, Try.call89⟩
theorem i90 : Is Try.prog 90 c_ref13_Pool_Make := ⟨Try.f90, Try.func90, t90, Try.call90⟩
theorem i91 : Is Try.prog 91 c_ref13_Pool_Set := ⟨Try.f91, Try.func91, t91, Try.call91⟩
theorem i92 : Is Try.prog 92 c_ref13_Pool_Hold := ⟨Try.f92, Try.func92, t92, Try.call92⟩
theorem i93 : Is Try.prog 93 c_ref13_Pool_Drop := ⟨Try.f93, Try.func93, t93, Try.call93⟩
theorem i94 : Is Try.prog 94 c_ref13_Pool_Copy := ⟨Try.f94, Try.func94, t94, Try.call94⟩
theorem i95 : Is Try.prog 95 c_ref13_Pool_Of := ⟨Try.f95, Try.func95, t95, Try.call95⟩
theorem i96 : Is Try.prog 96 c_ref13_Pool_Slots := ⟨Try.f96, Try.func96, t96, Try.call96⟩
theorem i97 : Is Try.prog 97 c_ref13_Pool_Cover := ⟨Try.f97, Try.func97, t97, Try.call97⟩
theorem i98 : Is Try.prog 98 c_ref13_Pool_Get := ⟨Try.f98, Try.func98, t98, Try.call98⟩
theorem i99 : Is Try.prog 99 c_ref13_Pool_Ids := ⟨Try.f99, Try.func99, t99, Try.call99⟩
theorem i100 : Is Try.prog 100 c_law13_used := ⟨Try.f100, Try.func100, t100, Try.call100⟩
theorem i101 : Is Try.prog 101 c_swap_Device_may := ⟨Try.f101, Try.func101, t101, Try.call101⟩
theorem i102 : Is Try.prog 102 c_swap_plan_fails := ⟨Try.f102, Try.func102, t102, Try.call102⟩
theorem i103 : Is Try.prog 103 c_swap_Device_made := ⟨Try.f103, Try.func103, t103, Try.call103⟩
theorem i112 : Is Try.prog 112 c_spread_Counts_made := ⟨Try.f112, Try.func112, t112, Try.call112⟩
theorem i113 : Is Try.prog 113 c_spread_join := ⟨Try.f113, Try.func113, t113, Try.call113⟩
theorem i114 : Is Try.prog 114 c_slices_Clone_api_Run_api_Run := ⟨Try.f114, Try.func114, t114, Try.call114⟩
theorem i115 : Is Try.prog 115 c_spread_Counts_parts := ⟨Try.f115, Try.func115, t115, Try.call115⟩
theorem i116 : Is Try.prog 116 c_spread_split := ⟨Try.f116, Try.func116, t116, Try.call116⟩
theorem i117 : Is Try.prog 117 c_amap_Pool_made := ⟨Try.f117, Try.func117, t117, Try.call117⟩
theorem i118 : Is Try.prog 118 c_slices_Index_amap_one_amap_one := ⟨Try.f118, Try.func118, t118, Try.call118⟩
theorem i119 : Is Try.prog 119 c_amap_Pool_known := ⟨Try.f119, Try.func119, t119, Try.call119⟩
theorem i120 : Is Try.prog 120 c_amap_one_within := ⟨Try.f120, Try.func120, t120, Try.call120⟩
theorem i121 : Is Try.prog 121 c_amap_Pool_of := ⟨Try.f121, Try.func121, t121, Try.call121⟩
theorem i122 : Is Try.prog 122 c_amap_Pool_Used := ⟨Try.f122, Try.func122, t122, Try.call122⟩
theorem i123 : Is Try.prog 123 c_spread_Counts_parts_1 := ⟨Try.f123, Try.func123, t123, Try.call123⟩
theorem i124 : Is Try.prog 124 c_slices_IndexFunc_api_Run_api_Run := ⟨Try.f124, Try.func124, t124, Try.call124⟩
theorem i125 : Is Try.prog 125 c_spread_split_1 := ⟨Try.f125, Try.func125, t125, Try.call125⟩
theorem i126 : Is Try.prog 126 c_slices_Concat_api_Run_api_Run := ⟨Try.f126, Try.func126, t126, Try.call126⟩
theorem i127 : Is Try.prog 127 c_amap_Pool_Used_1 := ⟨Try.f127, Try.func127, t127, Try.call127⟩
theorem i128 : Is Try.prog 128 c_slices_Clone_int_int := ⟨Try.f128, Try.func128, t128, Try.call128⟩
theorem i129 : Is Try.prog 129 c_slices_Grow_api_Run_api_Run := ⟨Try.f129, Try.func129, t129, Try.call129⟩
theorem tabSound : AllB (Is Try.prog) tab := ⟨⟨⟨⟨⟨⟨⟨trivial, i2, trivial⟩, i3, trivial⟩, i4, ⟨trivial, i22, trivial⟩⟩, i24, ⟨⟨trivial, i26, trivial⟩, i27, ⟨trivial, i28, trivial⟩⟩⟩, i30, ⟨⟨⟨trivial, i61, trivial⟩, i62, ⟨trivial, i64, trivial⟩⟩, i66, ⟨⟨trivial, i67, trivial⟩, i68, ⟨trivial, i69, trivial⟩⟩⟩⟩, i70, ⟨⟨⟨⟨trivial, i71, trivial⟩, i72, ⟨trivial, i73, trivial⟩⟩, i75, ⟨⟨trivial, i78, trivial⟩, i79, ⟨trivial, i80, trivial⟩⟩⟩, i81, ⟨⟨⟨trivial, i82, trivial⟩, i83, ⟨trivial, i84, trivial⟩⟩, i85, ⟨⟨trivial, i86, trivial⟩, i87, ⟨trivial, i88, trivial⟩⟩⟩⟩⟩, i89, ⟨⟨⟨⟨⟨⟨trivial, i90, trivial⟩, i91, trivial⟩, i92, ⟨trivial, i93, trivial⟩⟩, i94, ⟨⟨trivial, i95, trivial⟩, i96, ⟨trivial, i97, trivial⟩⟩⟩, i98, ⟨⟨⟨trivial, i99, trivial⟩, i100, ⟨trivial, i101, trivial⟩⟩, i102, ⟨⟨trivial, i103, trivial⟩, i112, ⟨trivial, i113, trivial⟩⟩⟩⟩, i114, ⟨⟨⟨⟨trivial, i115, trivial⟩, i116, ⟨trivial, i117, trivial⟩⟩, i118, ⟨⟨trivial, i119, trivial⟩, i120, ⟨trivial, i121, trivial⟩⟩⟩, i122, ⟨⟨⟨trivial, i123, trivial⟩, i124, ⟨trivial, i125, trivial⟩⟩, i126, ⟨⟨trivial, i127, trivial⟩, i128, ⟨trivial, i129, trivial⟩⟩⟩⟩⟩⟩
end Go.Proofs.Ytjdemlagmamlbaa

namespace Go.Proofs.Ytjdemlagmamlbaa
/-- what a slice of k elements is, with which parts of the heap: its cells are d; may it be written -/
def SlIs (v : AV) (e es k : Nat) (d : Dat) (w : Bool) (cs : List Chunk) : Prop :=
  (v = .nilsl ∧ k = 0 ∧ d.len = 0 ∧ cs = []) ∨ (v = .esl ∧ k = 0 ∧ d.len = 0 ∧ cs = [] ∧ w = false) ∨
  (∃ id off cap D e' es' sf, v = .sl id off k cap ∧ cs = [.pt id (.row e' es' sf (!w) D)] ∧ D.take off (k * es) = some d ∧ k ≤ cap ∧ (w = true → off + cap * es ≤ D.len)) ∨
  (∃ id idx D, v = .ssl id idx es k ∧ cs = [.pt id (.row e es true false D)] ∧ D.take (idx * es) (k * es) = some d ∧ w = true ∧ (idx + k) * es = D.len)
theorem wrap_id {k : IntKind} {n : Int} (h1 : k.min ≤ n) (h2 : n ≤ k.max) : k.wrap n = n := by
  cases k <;> simp only [IntKind.min, IntKind.max, IntKind.signed, IntKind.bits, IntKind.wrap] at * <;> (simp at h1 h2 ⊢) <;> (try split) <;> omega
theorem wrap64 {n : Int} (h1 : -9223372036854775808 ≤ n) (h2 : n ≤ 9223372036854775807) : IntKind.i64.wrap n = n := wrap_id h1 h2
theorem d_add {a b : Int} {h : AHeap} (h1 : -9223372036854775808 ≤ a + b) (h2 : a + b ≤ 9223372036854775807) : Does (.bin .add) [.int .i64 a, .int .i64 b] h (.int .i64 (a + b)) h := ⟨rfl, by
  simp only [aop, binInt, ne_eq, not_true, if_false, Option.map_some, wrap64 h1 h2]⟩
theorem d_sub {a b : Int} {h : AHeap} (h1 : -9223372036854775808 ≤ a - b) (h2 : a - b ≤ 9223372036854775807) : Does (.bin .sub) [.int .i64 a, .int .i64 b] h (.int .i64 (a - b)) h := ⟨rfl, by
  simp only [aop, binInt, ne_eq, not_true, if_false, Option.map_some, wrap64 h1 h2]⟩
/-- a slice, as a part -/
abbrev SlC (v : AV) (e es k : Nat) (d : Dat) (w : Bool) : Chunk := pk 10 v (SlIs v e es k d w)
/-- the address of an element -/
def elemPtr (es : Nat) (v : AV) (i : Nat) : AV :=
  match v with
  | .sl id off _ _ => .ptr id (off + i * es)
  | .ssl id idx _ _ => .ptr id ((idx + i) * es)
  | _ => .junk
section
variable {h : AHeap} {L R : List Chunk} {v : AV} {e es k : Nat} {d : Dat} {w : Bool}
theorem SlIs.len {cs : List Chunk} (x : SlIs v e es k d w cs) : sliceLen v = some k := by
  rcases x with ⟨rfl, rfl, _⟩ | ⟨rfl, rfl, _⟩ | ⟨id, off, cap, D, e', es', sf, rfl, _⟩ | ⟨id, idx, D, rfl, _⟩ <;> rfl
theorem SlIs.dlen {cs : List Chunk} (x : SlIs v e es k d w cs) : d.len = k * es := by
  rcases x with ⟨rfl, rfl, h, _⟩ | ⟨rfl, rfl, h, _⟩ | ⟨id, off, cap, D, e', es', sf, rfl, _, h, _⟩ | ⟨id, idx, D, rfl, _, h, _⟩
  · simpa using h
  · simpa using h
  · exact (Dat.take_spec h).1
  · exact (Dat.take_spec h).1
theorem SlIs.nj {cs : List Chunk} (x : SlIs v e es k d w cs) : v.notJunk = some v := by
  rcases x with ⟨rfl, _⟩ | ⟨rfl, _⟩ | ⟨id, off, cap, D, e', es', sf, rfl, _⟩ | ⟨id, idx, D, rfl, _⟩ <;> rfl
/-- what a slice is, without its parts -/
theorem St.slc (st : St h L) (t : Take L (SlC v e es k d w) R) : sliceLen v = some k ∧ v.notJunk = some v ∧ d.len = k * es := by
  obtain ⟨cs, x, _⟩ := (st.take t).unpack
  exact ⟨x.len, x.nj, x.dlen⟩
theorem d_lens {k : Nat} {v : AV} (hk : sliceLen v = some k) : Does .lens [v] h (.int .i64 k) h := ⟨rfl, by simp only [aop, hk]; rfl⟩
theorem elemPtr_nj (x : sliceLen v = some k) {i : Nat} (hi : i < k) : (elemPtr es v i).notJunk = some (elemPtr es v i) := by
  cases v <;> simp [sliceLen] at x <;> first | rfl | omega
theorem d_indexs {i : Int} {kk : IntKind} (st : St h L) (t : Take L (SlC v e es k d w) R) (h0 : 0 ≤ i) (h1 : i < k) : Does (.indexs es) [v, .int kk i] h (elemPtr es v i.toNat) h := by
  obtain ⟨cs, x, _⟩ := (st.take t).unpack
  refine ⟨rfl, ?_⟩
  rcases x with ⟨rfl, rfl, _⟩ | ⟨rfl, rfl, _⟩ | ⟨id, off, cap, D, e', es', sf, rfl, _⟩ | ⟨id, idx, D, rfl, _⟩
  · omega
  · omega
  · simp only [aop, elemPtr]; rw [if_pos ⟨h0, h1⟩]
  · simp only [aop, elemPtr]; rw [if_pos ⟨h0, h1, trivial⟩]
theorem Dat.take_get {D d : Dat} {off n i : Nat} (h : D.take off n = some d) (hi : i < n) : D.get (off + i) = d.get i := ((Dat.take_spec h).2.2 i hi).symm
theorem d_loadE {i : Nat} {x : AV} (st : St h L) (t : Take L (SlC v e 1 k d w) R) (hi : i < k) (hx : d.get i = some x) : Does .load1 [elemPtr 1 v i] h x h := by
  obtain ⟨cs, y, st'⟩ := (st.take t).unpack
  rcases y with ⟨rfl, rfl, _⟩ | ⟨rfl, rfl, _⟩ | ⟨id, off, cap, D, e', es', sf, rfl, rfl, h3, _⟩ | ⟨id, idx, D, rfl, rfl, h3, _⟩
  · omega
  · omega
  · exact d_load1 st'.get (by rw [Nat.mul_one, Dat.take_get h3 (by omega)]; exact hx)
  · refine d_load1 st'.get ?_
    rw [Nat.mul_one] at *
    rw [Dat.take_get h3 (by omega)]; exact hx
theorem Dat.take_sub {D d : Dat} {off n i m : Nat} (h : D.take off n = some d) (hi : i + m ≤ n) : D.sub (off + i) m = d.sub i m := by
  unfold Dat.take at h
  unfold Dat.sub
  cases D with
  | vals cs =>
    simp only at h
    split at h
    · cases h
      simp only [List.length_take, List.length_drop]
      rw [if_pos (by omega), if_pos (by omega), List.drop_take, List.drop_drop, List.take_take, Nat.min_eq_left (by omega)]
    · cases h
  | bytes l n0 =>
    simp only at h
    split at h
    · cases h
      simp only
      rw [if_pos (by omega), if_pos (by omega)]
      congr 2
      unfold bsub
      apply Nat.eq_of_testBit_eq
      intro j
      rw [Nat.testBit_mod_two_pow, Nat.testBit_mod_two_pow, Nat.testBit_shiftRight, Nat.testBit_shiftRight, Nat.testBit_mod_two_pow, Nat.testBit_shiftRight]
      by_cases hj : j < 8 * m
      · have : 8 * i + j < 8 * n := by omega
        simp only [hj, this, decide_true, Bool.true_and]
        congr 1; omega
      · simp [hj]
    · cases h
theorem d_loadEn {i n : Nat} {x : AV} (st : St h L) (t : Take L (SlC v e es k d w) R) (hn : n = es) (hi : i < k) (hx : d.sub (i * es) es = some x) : Does (.loadn n) [elemPtr es v i] h x h := by
  subst hn
  obtain ⟨cs, y, st'⟩ := (st.take t).unpack
  have hle : i * n + n ≤ k * n := by rw [← Nat.succ_mul]; exact Nat.mul_le_mul_right n hi
  rcases y with ⟨rfl, rfl, _⟩ | ⟨rfl, rfl, _⟩ | ⟨id, off, cap, D, e', es', sf, rfl, rfl, h3, _⟩ | ⟨id, idx, D, rfl, rfl, h3, _⟩
  · omega
  · omega
  · exact d_loadn st'.get (by rw [Dat.take_sub h3 hle]; exact hx)
  · refine d_loadn st'.get ?_
    rw [Nat.add_mul, Dat.take_sub h3 hle]; exact hx
/-- a new row as a slice -/
theorem St.slice {id n cap e' es' : Nat} {sf : Bool} {D : Dat} (st : St h (.pt id (.row e' es' sf false D) :: L)) (h1 : D.take 0 (n * es) = some d) (h2 : n ≤ cap) (h3 : cap * es ≤ D.len) : St h (SlC (.sl id 0 n cap) e es n d true :: L) :=
  St.pack (cs := [.pt id (.row e' es' sf false D)]) st (.inr (.inr (.inl ⟨id, 0, cap, D, e', es', sf, rfl, rfl, h1, h2, fun _ => by omega⟩)))
/-- no slice at all -/
theorem St.nilslice (st : St h L) (e es : Nat) (w : Bool) : St h (SlC .nilsl e es 0 (.vals []) w :: L) := St.pack (cs := []) st (.inl ⟨rfl, rfl, rfl, rfl⟩)
end
end Go.Proofs.Ytjdemlagmamlbaa

namespace Go.Proofs.Ytjdemlagmamlbaa
theorem d_indexa {h : AHeap} {n es id off : Nat} {kk : IntKind} {i : Int} (h0 : 0 ≤ i) (h1 : i < n) : Does (.indexa n es) [.ptr id off, .int kk i] h (.ptr id (off + i.toNat * es)) h := ⟨rfl, by
  simp only [aop]; rw [if_pos ⟨h0, h1⟩]⟩
theorem Tk {L R : List Chunk} {c : Chunk} (h : Take L c R := by repeat (first | exact Take.here | apply Take.there)) : Take L c R := h
theorem Pks {L R cs : List Chunk} (h : Pick L cs R := by repeat (first | exact Take.here | exact Pick.nil | apply Pick.cons | apply Take.there)) : Pick L cs R := h
theorem Sbs {P : Prop} (h : P := by repeat (first | exact trivial | refine ⟨by first | rfl | assumption, ?_⟩)) : P := h
theorem Njs {P : Prop} (h : P := by repeat (first | exact trivial | refine ⟨by first | rfl | assumption, ?_⟩)) : P := h
/-- what is still to be walked -/
inductive KI where
  | code (c : ACode)
  | ins (is : List AIn)
  | dis (ds : List DI)
  | ag (rs : List (Nat × AIn))
  | blk (id : Nat)
  /-- a loop's round ends here: what is to be shown -/
  | lp (J : Env → AHeap → Prop)
mutual
def okSame : AV → Bool
  | .bool _ => true
  | .int _ _ => true
  | .ptr _ _ => true
  | .nilptr => true
  | .sl _ _ _ _ => true
  | .ssl _ _ _ _ => true
  | .nilsl => true
  | .esl => true
  | .map _ => true
  | .nilmap => true
  | .func _ a b => okSameL a && okSameL b
  | .nilfunc => true
  | .yield _ => true
  | .agg a => okSameL a
  | .bytes _ _ => true
  | .tuple a => okSameL a
  | _ => false
def okSameL : List AV → Bool
  | [] => true
  | a :: l => okSame a && okSameL l
end
mutual
theorem same_self : ∀ (v : AV), okSame v = true → AV.same v v = true := by
  intro v h
  cases v with
  | func f a b =>
    simp only [okSame, Bool.and_eq_true] at h
    simp only [AV.same, beq_self_eq_true, Bool.and_eq_true]
    exact ⟨⟨trivial, same_selfL _ h.1⟩, same_selfL _ h.2⟩
  | agg a =>
    simp only [okSame] at h
    simp only [AV.same]
    exact same_selfL _ h
  | tuple a =>
    simp only [okSame] at h
    simp only [AV.same]
    exact same_selfL _ h
  | _ => simp [okSame, AV.same] at h ⊢
theorem same_selfL : ∀ (v : List AV), okSameL v = true → AV.sameL v v = true := by
  intro v h
  cases v with
  | nil => simp [AV.sameL]
  | cons a l =>
    simp only [okSameL, Bool.and_eq_true] at h
    simp only [AV.sameL, Bool.and_eq_true]
    exact ⟨same_self a h.1, same_selfL l h.2⟩
end
/-- what is looked at again tells the same -/
inductive Ag (s : Env) (h : AHeap) : List (Nat × AIn) → Prop where
  | nil : Ag s h []
  | ld {j t : Nat} {os : List Opd} {rs : List (Nat × AIn)} {id off e es : Nat} {soft ro' : Bool} {D : Dat} {v : AV} {L R : List Chunk} : evalLS s os = some [.ptr id off] → look s t = some v → St h L → Take L (.pt id (.row e es soft ro' D)) R → D.get off = some v → okSame v = true → Ag s h rs →
      Ag s h ((j, ⟨some t, .load1, os, none⟩) :: rs)
  | ldn {j t n : Nat} {os : List Opd} {rs : List (Nat × AIn)} {id off e es : Nat} {soft ro' : Bool} {D : Dat} {v : AV} {L R : List Chunk} : evalLS s os = some [.ptr id off] → look s t = some v → St h L → Take L (.pt id (.row e es soft ro' D)) R → D.sub off n = some v → okSame v = true → Ag s h rs →
      Ag s h ((j, ⟨some t, .loadn n, os, none⟩) :: rs)
  | gd {j : Nat} {d : Option Nat} {op : AOp} {os : List Opd} {g : Nat × Bool} {b : Bool} {rs : List (Nat × AIn)} : wantS s (some g) = some b → Ag s h (bif b then (j, ⟨d, op, os, none⟩) :: rs else rs) → Ag s h ((j, ⟨d, op, os, some g⟩) :: rs)
  | dz {j t : Nat} {op : AOp} {os : List Opd} {rs : List (Nat × AIn)} {vs : List AV} {v : AV} : evalLS s os = some vs → look s t = some v → Does op vs h v h → okSame v = true → Ag s h rs → Ag s h ((j, ⟨some t, op, os, none⟩) :: rs)
theorem Ag.ok {s : Env} {h : AHeap} {rs : List (Nat × AIn)} (a : Ag s h rs) : Again s h rs := by
  induction a with
  | nil => trivial
  | ld h1 h2 h3 h4 h5 h6 _ ih => exact ⟨.inr ⟨rfl, _, _, h, h1, (d_load1 (h3.get' h4) h5).run, fun t' e => (by cases e; exact h2), same_self _ h6⟩, ih⟩
  | ldn h1 h2 h3 h4 h5 h6 _ ih => exact ⟨.inr ⟨rfl, _, _, h, h1, (d_loadn (h3.get' h4) h5).run, fun t' e => (by cases e; exact h2), same_self _ h6⟩, ih⟩
  | dz h1 h2 h3 h4 _ ih => exact ⟨.inr ⟨rfl, _, _, h, h1, h3.run, fun t' e => (by cases e; exact h2), same_self _ h4⟩, ih⟩
  | @gd _ _ _ _ _ b _ h1 _ ih =>
    cases b with
    | false => exact ⟨.inl h1, ih⟩
    | true =>
      obtain ⟨h2, h3⟩ := ih
      refine ⟨?_, h3⟩
      rcases h2 with h2 | ⟨_, h2⟩
      · cases h2
      · exact .inr ⟨h1, h2⟩
/-- a choice -/
structure Pk (c : Bool) (a b v : AV) : Prop where
  is : (bif c then a else b) = v
theorem Pk.t {c : Bool} {a b : AV} (h : c = true := by first | rfl | assumption | exact d_t (by omega) | exact q_t (by omega) | exact nq_t (by omega) | exact nd_t (by omega)) : Pk c a b a := ⟨by subst h; rfl⟩
theorem Pk.f {c : Bool} {a b : AV} (h : c = false := by first | rfl | assumption | exact d_f (by omega) | exact q_f (by omega) | exact nq_f (by omega) | exact nd_f (by omega)) : Pk c a b b := ⟨by subst h; rfl⟩
/-- what a step of the walk wants, but the walk behind it -/
theorem Sd {P : Prop} (h : P := by first | (show (_ : Int) ≤ _; omega) | exact rfl | assumption | ((repeat (first | exact Take.here | apply Take.there)); done) | (show Ag _ _ _; (repeat (first | assumption | exact rfl | exact Ag.nil | exact Take.here | apply Take.there | (show Ag _ _ _; constructor))); done) | exact Pk.t | exact Pk.f) : P := h
section
variable (C : SemW) (ro : Option Nat) (N : Nat)
/-- what holds behind what is still to be walked -/
def postK : List KI → (AExit → List AV → AHeap → Prop) → AExit → List AV → AHeap → Prop
  | [], Q => Q
  | .code c :: k, Q => fun x e h => match x with
    | .normal => execW C ro c e h (postK k Q)
    | .exit i => postK k Q (.exit i) e h
    | .ret => postK k Q .ret e h
  | .ins is :: k, Q => fun x e h => match x with
    | .normal => runInsW C is e h (postK k Q .normal)
    | .exit i => postK k Q (.exit i) e h
    | .ret => postK k Q .ret e h
  | .dis ds :: k, Q => fun x e h => match x with
    | .normal => runDrawW C ds e h (postK k Q .normal)
    | .exit i => postK k Q (.exit i) e h
    | .ret => postK k Q .ret e h
  | .ag rs :: k, Q => fun x e h => match x with
    | .normal => rs.all (fun r => again r.2 e h) = true ∧ postK k Q .normal e h
    | .exit i => postK k Q (.exit i) e h
    | .ret => postK k Q .ret e h
  | .blk id :: k, Q => fun x e h => match x with
    | .normal => postK k Q .normal e h
    | .exit i => if i = id then postK k Q .normal e h else postK k Q (.exit i) e h
    | .ret => postK k Q .ret e h
  | .lp J :: k, Q => fun x e h => match x with
    | .normal => ∃ s, e.length = N ∧ Cov s e ∧ J s h
    | .exit i => postK k Q (.exit i) e h
    | .ret => postK k Q .ret e h
end
/-- THE (repeat (first | (show W _ _ _ _ _ _ (.code (cond _ _ _) :: _) _ _; first | refine W.ct ?_ | refine W.cf ?_) | (show W _ _ _ _ _ _ (.ins (cond _ _ _ :: _) :: _) _ _; first | refine W.gt ?_ | refine W.gf ?_) | (show W _ _ _ _ _ _ [] _ _; refine W.of (.done ?_)) | (apply W.of; constructor <;> first | (show W _ _ _ _ _ _ _ _ _) | (intro (al : Nat) h st; show W _ _ _ _ _ _ _ _ _) | (intro _ h st; show W _ _ _ _ _ _ _ _ _) | exact Sd))): what is known of the slots, the heap; how it stands; what is still to be walked; what is to hold behind it. -/
structure W (O : Nat → Option FSpec) (T : BT) (ro : Option Nat) (N : Nat) (Q : AExit → Env → AHeap → Prop) (x : AExit) (k : List KI) (s : Env) (h : AHeap) : Prop where
  run : ∀ e, e.length = N → Cov s e → postK (progI O T) ro N k (fun x e h => ∃ s', e.length = N ∧ Cov s' e ∧ Q x s' h) x e h
section
variable {O : Nat → Option FSpec} {T : BT} {ro : Option Nat} {N : Nat} {Q : AExit → Env → AHeap → Prop} {x : AExit} {k : List KI} {s : Env} {h : AHeap}
section ops
variable {d : Nat} {op : AOp} {os : List Opd} {g : Option (Nat × Bool)} {is : List AIn} {vs : List AV} {v : AV} {L R : List Chunk}
theorem W.dop (ha : evalLS s os = some vs) (ho : Does op vs h v h) (hj : v.notJunk = some v) (hd : Nat.blt d N = true) (w : W O T ro N Q .normal (.ins is :: k) ((d, v) :: s) h) : W O T ro N Q .normal (.ins (⟨some d, op, os, none⟩ :: is) :: k) s h :=
  ⟨fun e hl hc => by
    simp only [postK, runInsW]
    exact runIn_eff hc rfl ha (ho.do (w.run _ (by simpa [setDst] using hl) (hc.set (by rw [hl]; exact blt_of hd) hj)))⟩
theorem W.eff {K : AV → AHeap → Prop} (ho : Eff (progI O T) op vs h K) (ha : evalLS s os = some vs) (hd : Nat.blt d N = true) (w : ∀ v h', K v h' → v.notJunk = some v ∧ W O T ro N Q .normal (.ins is :: k) ((d, v) :: s) h') : W O T ro N Q .normal (.ins (⟨some d, op, os, none⟩ :: is) :: k) s h :=
  ⟨fun e hl hc => by
    simp only [postK, runInsW]
    exact runIn_eff hc rfl ha (doOpW_mono (fun _ _ _ _ x => x) progI_mono (fun v h1 q => (w v h1 q).2.run _ (by simpa [setDst] using hl) (hc.set (by rw [hl]; exact blt_of hd) (w v h1 q).1)) ho.run)⟩
theorem W.eff0 {K : AV → AHeap → Prop} (ho : Eff (progI O T) op vs h K) (ha : evalLS s os = some vs) (w : ∀ v h', K v h' → W O T ro N Q .normal (.ins is :: k) s h') : W O T ro N Q .normal (.ins (⟨none, op, os, none⟩ :: is) :: k) s h :=
  ⟨fun e hl hc => by
    simp only [postK, runInsW]
    exact runIn_eff hc rfl ha (doOpW_mono (fun _ _ _ _ x => x) progI_mono (fun v h1 q => (w v h1 q).run _ hl hc) ho.run)⟩
end ops
end
/-- one step of the walk -/
inductive Stp (O : Nat → Option FSpec) (T : BT) (ro : Option Nat) (N : Nat) (Q : AExit → Env → AHeap → Prop) : AExit → List KI → Env → AHeap → Prop where
  | done {x : AExit} {s : Env} {h : AHeap} : Q x s h → Stp O T ro N Q x [] s h
  | seq {k : List KI} {s : Env} {h : AHeap} {a b : ACode} : W O T ro N Q .normal (.code a :: .code b :: k) s h → Stp O T ro N Q .normal (.code (.seq a b) :: k) s h
  | region {k : List KI} {s : Env} {h : AHeap} {is : List AIn} : W O T ro N Q .normal (.ins is :: k) s h → Stp O T ro N Q .normal (.code (.region is) :: k) s h
  | draw1 {k : List KI} {s : Env} {h : AHeap} {ds : List DI} : W O T ro N Q .normal (.dis ds :: k) s h → Stp O T ro N Q .normal (.code (.draw [ds]) :: k) s h
  | block {k : List KI} {s : Env} {h : AHeap} {id : Nat} {b : ACode} : W O T ro N Q .normal (.code b :: .blk id :: k) s h → Stp O T ro N Q .normal (.code (.block id b) :: k) s h
  | blk {k : List KI} {s : Env} {h : AHeap} {id : Nat} : W O T ro N Q .normal k s h → Stp O T ro N Q .normal (.blk id :: k) s h
  | cond {k : List KI} {s : Env} {h : AHeap} {o : Opd} {q : Bool} {a b : ACode} : evalS s o = some (.bool q) → W O T ro N Q .normal (.code (bif q then a else b) :: k) s h → Stp O T ro N Q .normal (.code (.cond o a b) :: k) s h
  | skip {k : List KI} {s : Env} {h : AHeap} : W O T ro N Q .normal k s h → Stp O T ro N Q .normal (.code .skip :: k) s h
  | ret {k : List KI} {s : Env} {h : AHeap} : W O T ro N Q .ret k s h → Stp O T ro N Q .normal (.code .ret :: k) s h
  | exit {k : List KI} {s : Env} {h : AHeap} {id : Nat} : W O T ro N Q (.exit id) k s h → Stp O T ro N Q .normal (.code (.exit id) :: k) s h
  | rcode {k : List KI} {s : Env} {h : AHeap} {c : ACode} : W O T ro N Q .ret k s h → Stp O T ro N Q .ret (.code c :: k) s h
  | rblk {k : List KI} {s : Env} {h : AHeap} {id : Nat} : W O T ro N Q .ret k s h → Stp O T ro N Q .ret (.blk id :: k) s h
  | rlp {k : List KI} {s : Env} {h : AHeap} {J : Env → AHeap → Prop} : W O T ro N Q .ret k s h → Stp O T ro N Q .ret (.lp J :: k) s h
  | xcode {k : List KI} {s : Env} {h : AHeap} {c : ACode} {i : Nat} : W O T ro N Q (.exit i) k s h → Stp O T ro N Q (.exit i) (.code c :: k) s h
  | xblk {k : List KI} {s : Env} {h : AHeap} {i id : Nat} : W O T ro N Q (bif Nat.beq i id then .normal else .exit i) k s h → Stp O T ro N Q (.exit i) (.blk id :: k) s h
  | xlp {k : List KI} {s : Env} {h : AHeap} {i : Nat} {J : Env → AHeap → Prop} : W O T ro N Q (.exit i) k s h → Stp O T ro N Q (.exit i) (.lp J :: k) s h
  | lp {k : List KI} {s : Env} {h : AHeap} {J : Env → AHeap → Prop} : J s h → Stp O T ro N Q .normal (.lp J :: k) s h
  | inil {k : List KI} {s : Env} {h : AHeap} : W O T ro N Q .normal k s h → Stp O T ro N Q .normal (.ins [] :: k) s h
  | dnil {k : List KI} {s : Env} {h : AHeap} : W O T ro N Q .normal k s h → Stp O T ro N Q .normal (.dis [] :: k) s h
  | dcons {k : List KI} {s : Env} {h : AHeap} {j : Nat} {i : AIn} {rs : List (Nat × AIn)} {fin : Bool} {ds : List DI} : W O T ro N Q .normal (.ins [i] :: .ag rs :: .dis ds :: k) s h → Stp O T ro N Q .normal (.dis (⟨j, i, rs, fin⟩ :: ds) :: k) s h
  | ag {k : List KI} {s : Env} {h : AHeap} {rs : List (Nat × AIn)} : Ag s h rs → W O T ro N Q .normal k s h → Stp O T ro N Q .normal (.ag rs :: k) s h
  | guard {k : List KI} {s : Env} {h : AHeap} {d : Option Nat} {op : AOp} {os : List Opd} {g : Nat × Bool} {b : Bool} {is : List AIn} : wantS s (some g) = some b → W O T ro N Q .normal (.ins ((bif b then ⟨d, op, os, none⟩ else ⟨d, .mv, [.lit (.tuple [])], none⟩) :: is) :: k) s h → Stp O T ro N Q .normal (.ins (⟨d, op, os, some g⟩ :: is) :: k) s h
  | mv {k : List KI} {s : Env} {h : AHeap} {d : Nat} {os : List Opd} {is : List AIn} {v : AV} : evalLS s os = some [v] → AV.notJunk v = some v → Nat.blt d N = true → W O T ro N Q .normal (.ins is :: k) ((d, v) :: s) h → Stp O T ro N Q .normal (.ins (⟨some d, .mv, os, none⟩ :: is) :: k) s h
  | load1 {k : List KI} {s : Env} {h : AHeap} {d : Nat} {os : List Opd} {is : List AIn} {id off e es : Nat} {soft ro' : Bool} {D : Dat} {L R : List Chunk} {v : AV} : evalLS s os = some [.ptr id off] → St h L → Take L (.pt id (.row e es soft ro' D)) R → D.get off = some v → AV.notJunk v = some v → Nat.blt d N = true → W O T ro N Q .normal (.ins is :: k) ((d, v) :: s) h → Stp O T ro N Q .normal (.ins (⟨some d, .load1, os, none⟩ :: is) :: k) s h
  | loadn {k : List KI} {s : Env} {h : AHeap} {d : Nat} {os : List Opd} {is : List AIn} {id off e es : Nat} {soft ro' : Bool} {D : Dat} {L R : List Chunk} {v : AV} {n : Nat} : evalLS s os = some [.ptr id off] → St h L → Take L (.pt id (.row e es soft ro' D)) R → D.sub off n = some v → AV.notJunk v = some v → Nat.blt d N = true → W O T ro N Q .normal (.ins is :: k) ((d, v) :: s) h → Stp O T ro N Q .normal (.ins (⟨some d, (.loadn n), os, none⟩ :: is) :: k) s h
  | pick {k : List KI} {s : Env} {h : AHeap} {d : Nat} {os : List Opd} {is : List AIn} {c : Bool} {a b v : AV} : evalLS s os = some [.bool c, a, b] → Pk c a b v → AV.notJunk v = some v → Nat.blt d N = true → W O T ro N Q .normal (.ins is :: k) ((d, v) :: s) h → Stp O T ro N Q .normal (.ins (⟨some d, .pick, os, none⟩ :: is) :: k) s h
  | lens {k : List KI} {s : Env} {h : AHeap} {d : Nat} {os : List Opd} {is : List AIn} {v : AV} {n : Nat} : evalLS s os = some [v] → sliceLen v = some n → AV.notJunk (.int .i64 n) = some (.int .i64 n) → Nat.blt d N = true → W O T ro N Q .normal (.ins is :: k) ((d, (.int .i64 n)) :: s) h → Stp O T ro N Q .normal (.ins (⟨some d, .lens, os, none⟩ :: is) :: k) s h
  | add {k : List KI} {s : Env} {h : AHeap} {d : Nat} {os : List Opd} {is : List AIn} {a b : Int} : evalLS s os = some [.int .i64 a, .int .i64 b] → -9223372036854775808 ≤ a + b → a + b ≤ 9223372036854775807 → AV.notJunk (.int .i64 (a + b)) = some (.int .i64 (a + b)) → Nat.blt d N = true → W O T ro N Q .normal (.ins is :: k) ((d, (.int .i64 (a + b))) :: s) h → Stp O T ro N Q .normal (.ins (⟨some d, (.bin .add), os, none⟩ :: is) :: k) s h
  | sub {k : List KI} {s : Env} {h : AHeap} {d : Nat} {os : List Opd} {is : List AIn} {a b : Int} : evalLS s os = some [.int .i64 a, .int .i64 b] → -9223372036854775808 ≤ a - b → a - b ≤ 9223372036854775807 → AV.notJunk (.int .i64 (a - b)) = some (.int .i64 (a - b)) → Nat.blt d N = true → W O T ro N Q .normal (.ins is :: k) ((d, (.int .i64 (a - b))) :: s) h → Stp O T ro N Q .normal (.ins (⟨some d, (.bin .sub), os, none⟩ :: is) :: k) s h
  | indexa {k : List KI} {s : Env} {h : AHeap} {d : Nat} {os : List Opd} {is : List AIn} {n es id off : Nat} {kk : IntKind} {i : Int} : evalLS s os = some [.ptr id off, .int kk i] → 0 ≤ i → i < n → AV.notJunk (.ptr id (off + i.toNat * es)) = some (.ptr id (off + i.toNat * es)) → Nat.blt d N = true → W O T ro N Q .normal (.ins is :: k) ((d, (.ptr id (off + i.toNat * es))) :: s) h → Stp O T ro N Q .normal (.ins (⟨some d, (.indexa n es), os, none⟩ :: is) :: k) s h
  | nilCheck {k : List KI} {s : Env} {h : AHeap} {d : Nat} {os : List Opd} {is : List AIn} {vs : List AV} {v : AV} : evalLS s os = some vs → aop .nilCheck vs h = some (v, h) → AV.notJunk v = some v → Nat.blt d N = true → W O T ro N Q .normal (.ins is :: k) ((d, v) :: s) h → Stp O T ro N Q .normal (.ins (⟨some d, .nilCheck, os, none⟩ :: is) :: k) s h
  | eqvS {k : List KI} {s : Env} {h : AHeap} {d : Nat} {os : List Opd} {is : List AIn} {vs : List AV} {v : AV} {n : Bool} {q : Sc} : evalLS s os = some vs → aop (.eqv n (.scal q)) vs h = some (v, h) → AV.notJunk v = some v → Nat.blt d N = true → W O T ro N Q .normal (.ins is :: k) ((d, v) :: s) h → Stp O T ro N Q .normal (.ins (⟨some d, (.eqv n (.scal q)), os, none⟩ :: is) :: k) s h
  | eqvP {k : List KI} {s : Env} {h : AHeap} {d : Nat} {os : List Opd} {is : List AIn} {vs : List AV} {v : AV} {n : Bool} : evalLS s os = some vs → aop (.eqv n .ptr) vs h = some (v, h) → AV.notJunk v = some v → Nat.blt d N = true → W O T ro N Q .normal (.ins is :: k) ((d, v) :: s) h → Stp O T ro N Q .normal (.ins (⟨some d, (.eqv n .ptr), os, none⟩ :: is) :: k) s h
  | eqvL {k : List KI} {s : Env} {h : AHeap} {d : Nat} {os : List Opd} {is : List AIn} {vs : List AV} {v : AV} {n : Bool} : evalLS s os = some vs → aop (.eqv n .slice) vs h = some (v, h) → AV.notJunk v = some v → Nat.blt d N = true → W O T ro N Q .normal (.ins is :: k) ((d, v) :: s) h → Stp O T ro N Q .normal (.ins (⟨some d, (.eqv n .slice), os, none⟩ :: is) :: k) s h
  | eqvM {k : List KI} {s : Env} {h : AHeap} {d : Nat} {os : List Opd} {is : List AIn} {vs : List AV} {v : AV} {n : Bool} : evalLS s os = some vs → aop (.eqv n .map) vs h = some (v, h) → AV.notJunk v = some v → Nat.blt d N = true → W O T ro N Q .normal (.ins is :: k) ((d, v) :: s) h → Stp O T ro N Q .normal (.ins (⟨some d, (.eqv n .map), os, none⟩ :: is) :: k) s h
  | eqvF {k : List KI} {s : Env} {h : AHeap} {d : Nat} {os : List Opd} {is : List AIn} {vs : List AV} {v : AV} {n : Bool} : evalLS s os = some vs → aop (.eqv n .func) vs h = some (v, h) → AV.notJunk v = some v → Nat.blt d N = true → W O T ro N Q .normal (.ins is :: k) ((d, v) :: s) h → Stp O T ro N Q .normal (.ins (⟨some d, (.eqv n .func), os, none⟩ :: is) :: k) s h
  | eqvA {k : List KI} {s : Env} {h : AHeap} {d : Nat} {os : List Opd} {is : List AIn} {vs : List AV} {v : AV} {n : Bool} {q : List Sc} : evalLS s os = some vs → aop (.eqv n (.flat q)) vs h = some (v, h) → AV.notJunk v = some v → Nat.blt d N = true → W O T ro N Q .normal (.ins is :: k) ((d, v) :: s) h → Stp O T ro N Q .normal (.ins (⟨some d, (.eqv n (.flat q)), os, none⟩ :: is) :: k) s h
  | un {k : List KI} {s : Env} {h : AHeap} {d : Nat} {os : List Opd} {is : List AIn} {vs : List AV} {v : AV} {u : UnOp} : evalLS s os = some vs → aop (.un u) vs h = some (v, h) → AV.notJunk v = some v → Nat.blt d N = true → W O T ro N Q .normal (.ins is :: k) ((d, v) :: s) h → Stp O T ro N Q .normal (.ins (⟨some d, (.un u), os, none⟩ :: is) :: k) s h
  | conv {k : List KI} {s : Env} {h : AHeap} {d : Nat} {os : List Opd} {is : List AIn} {vs : List AV} {v : AV} {q : IntKind} : evalLS s os = some vs → aop (.conv q) vs h = some (v, h) → AV.notJunk v = some v → Nat.blt d N = true → W O T ro N Q .normal (.ins is :: k) ((d, v) :: s) h → Stp O T ro N Q .normal (.ins (⟨some d, (.conv q), os, none⟩ :: is) :: k) s h
  | sl2arr {k : List KI} {s : Env} {h : AHeap} {d : Nat} {os : List Opd} {is : List AIn} {vs : List AV} {v : AV} {n : Nat} : evalLS s os = some vs → aop (.sl2arr n) vs h = some (v, h) → AV.notJunk v = some v → Nat.blt d N = true → W O T ro N Q .normal (.ins is :: k) ((d, v) :: s) h → Stp O T ro N Q .normal (.ins (⟨some d, (.sl2arr n), os, none⟩ :: is) :: k) s h
  | mkfunc {k : List KI} {s : Env} {h : AHeap} {d : Nat} {os : List Opd} {is : List AIn} {vs : List AV} {v : AV} {f n : Nat} : evalLS s os = some vs → aop (.mkfunc f n) vs h = some (v, h) → AV.notJunk v = some v → Nat.blt d N = true → W O T ro N Q .normal (.ins is :: k) ((d, v) :: s) h → Stp O T ro N Q .normal (.ins (⟨some d, (.mkfunc f n), os, none⟩ :: is) :: k) s h
  | slice {k : List KI} {s : Env} {h : AHeap} {d : Nat} {os : List Opd} {is : List AIn} {vs : List AV} {v : AV} {es : Nat} {a b c : Bool} : evalLS s os = some vs → aop (.slice es a b c) vs h = some (v, h) → AV.notJunk v = some v → Nat.blt d N = true → W O T ro N Q .normal (.ins is :: k) ((d, v) :: s) h → Stp O T ro N Q .normal (.ins (⟨some d, (.slice es a b c), os, none⟩ :: is) :: k) s h
  | slicea {k : List KI} {s : Env} {h : AHeap} {d : Nat} {os : List Opd} {is : List AIn} {vs : List AV} {v : AV} {n es : Nat} {a b c : Bool} : evalLS s os = some vs → aop (.slicea n es a b c) vs h = some (v, h) → AV.notJunk v = some v → Nat.blt d N = true → W O T ro N Q .normal (.ins is :: k) ((d, v) :: s) h → Stp O T ro N Q .normal (.ins (⟨some d, (.slicea n es a b c), os, none⟩ :: is) :: k) s h
  | fieldAddr {k : List KI} {s : Env} {h : AHeap} {d : Nat} {os : List Opd} {is : List AIn} {vs : List AV} {v : AV} {n : Nat} : evalLS s os = some vs → aop (.fieldAddr n) vs h = some (v, h) → AV.notJunk v = some v → Nat.blt d N = true → W O T ro N Q .normal (.ins is :: k) ((d, v) :: s) h → Stp O T ro N Q .normal (.ins (⟨some d, (.fieldAddr n), os, none⟩ :: is) :: k) s h
  | field {k : List KI} {s : Env} {h : AHeap} {d : Nat} {os : List Opd} {is : List AIn} {vs : List AV} {v : AV} {a b : Nat} {c : Bool} : evalLS s os = some vs → aop (.field a b c) vs h = some (v, h) → AV.notJunk v = some v → Nat.blt d N = true → W O T ro N Q .normal (.ins is :: k) ((d, v) :: s) h → Stp O T ro N Q .normal (.ins (⟨some d, (.field a b c), os, none⟩ :: is) :: k) s h
  | indexv {k : List KI} {s : Env} {h : AHeap} {d : Nat} {os : List Opd} {is : List AIn} {vs : List AV} {v : AV} {a b : Nat} {c : Bool} : evalLS s os = some vs → aop (.indexv a b c) vs h = some (v, h) → AV.notJunk v = some v → Nat.blt d N = true → W O T ro N Q .normal (.ins is :: k) ((d, v) :: s) h → Stp O T ro N Q .normal (.ins (⟨some d, (.indexv a b c), os, none⟩ :: is) :: k) s h
  | extract {k : List KI} {s : Env} {h : AHeap} {d : Nat} {os : List Opd} {is : List AIn} {vs : List AV} {v : AV} {i : Nat} : evalLS s os = some vs → aop (.extract i) vs h = some (v, h) → AV.notJunk v = some v → Nat.blt d N = true → W O T ro N Q .normal (.ins is :: k) ((d, v) :: s) h → Stp O T ro N Q .normal (.ins (⟨some d, (.extract i), os, none⟩ :: is) :: k) s h
  | lenc {k : List KI} {s : Env} {h : AHeap} {d : Nat} {os : List Opd} {is : List AIn} {vs : List AV} {v : AV} {n : Nat} : evalLS s os = some vs → aop (.lenc n) vs h = some (v, h) → AV.notJunk v = some v → Nat.blt d N = true → W O T ro N Q .normal (.ins is :: k) ((d, v) :: s) h → Stp O T ro N Q .normal (.ins (⟨some d, (.lenc n), os, none⟩ :: is) :: k) s h
  | cap {k : List KI} {s : Env} {h : AHeap} {d : Nat} {os : List Opd} {is : List AIn} {vs : List AV} {v : AV} : evalLS s os = some vs → aop .cap vs h = some (v, h) → AV.notJunk v = some v → Nat.blt d N = true → W O T ro N Q .normal (.ins is :: k) ((d, v) :: s) h → Stp O T ro N Q .normal (.ins (⟨some d, .cap, os, none⟩ :: is) :: k) s h
  | lenstr {k : List KI} {s : Env} {h : AHeap} {d : Nat} {os : List Opd} {is : List AIn} {vs : List AV} {v : AV} : evalLS s os = some vs → aop .lenstr vs h = some (v, h) → AV.notJunk v = some v → Nat.blt d N = true → W O T ro N Q .normal (.ins is :: k) ((d, v) :: s) h → Stp O T ro N Q .normal (.ins (⟨some d, .lenstr, os, none⟩ :: is) :: k) s h
  | min {k : List KI} {s : Env} {h : AHeap} {d : Nat} {os : List Opd} {is : List AIn} {vs : List AV} {v : AV} : evalLS s os = some vs → aop .min vs h = some (v, h) → AV.notJunk v = some v → Nat.blt d N = true → W O T ro N Q .normal (.ins is :: k) ((d, v) :: s) h → Stp O T ro N Q .normal (.ins (⟨some d, .min, os, none⟩ :: is) :: k) s h
  | max {k : List KI} {s : Env} {h : AHeap} {d : Nat} {os : List Opd} {is : List AIn} {vs : List AV} {v : AV} : evalLS s os = some vs → aop .max vs h = some (v, h) → AV.notJunk v = some v → Nat.blt d N = true → W O T ro N Q .normal (.ins is :: k) ((d, v) :: s) h → Stp O T ro N Q .normal (.ins (⟨some d, .max, os, none⟩ :: is) :: k) s h
  | build {k : List KI} {s : Env} {h : AHeap} {d : Nat} {os : List Opd} {is : List AIn} {vs : List AV} {v : AV} {z : AV} {ps : List (Nat × Nat)} : evalLS s os = some vs → aop (.build z ps) vs h = some (v, h) → AV.notJunk v = some v → Nat.blt d N = true → W O T ro N Q .normal (.ins is :: k) ((d, v) :: s) h → Stp O T ro N Q .normal (.ins (⟨some d, (.build z ps), os, none⟩ :: is) :: k) s h
  | lss {k : List KI} {s : Env} {h : AHeap} {d : Nat} {os : List Opd} {is : List AIn} {vs : List AV} {v : AV} : evalLS s os = some vs → aop (.bin .lss) vs h = some (v, h) → AV.notJunk v = some v → Nat.blt d N = true → W O T ro N Q .normal (.ins is :: k) ((d, v) :: s) h → Stp O T ro N Q .normal (.ins (⟨some d, (.bin .lss), os, none⟩ :: is) :: k) s h
  | leq {k : List KI} {s : Env} {h : AHeap} {d : Nat} {os : List Opd} {is : List AIn} {vs : List AV} {v : AV} : evalLS s os = some vs → aop (.bin .leq) vs h = some (v, h) → AV.notJunk v = some v → Nat.blt d N = true → W O T ro N Q .normal (.ins is :: k) ((d, v) :: s) h → Stp O T ro N Q .normal (.ins (⟨some d, (.bin .leq), os, none⟩ :: is) :: k) s h
  | gtr {k : List KI} {s : Env} {h : AHeap} {d : Nat} {os : List Opd} {is : List AIn} {vs : List AV} {v : AV} : evalLS s os = some vs → aop (.bin .gtr) vs h = some (v, h) → AV.notJunk v = some v → Nat.blt d N = true → W O T ro N Q .normal (.ins is :: k) ((d, v) :: s) h → Stp O T ro N Q .normal (.ins (⟨some d, (.bin .gtr), os, none⟩ :: is) :: k) s h
  | geq {k : List KI} {s : Env} {h : AHeap} {d : Nat} {os : List Opd} {is : List AIn} {vs : List AV} {v : AV} : evalLS s os = some vs → aop (.bin .geq) vs h = some (v, h) → AV.notJunk v = some v → Nat.blt d N = true → W O T ro N Q .normal (.ins is :: k) ((d, v) :: s) h → Stp O T ro N Q .normal (.ins (⟨some d, (.bin .geq), os, none⟩ :: is) :: k) s h
  | eql {k : List KI} {s : Env} {h : AHeap} {d : Nat} {os : List Opd} {is : List AIn} {vs : List AV} {v : AV} : evalLS s os = some vs → aop (.bin .eql) vs h = some (v, h) → AV.notJunk v = some v → Nat.blt d N = true → W O T ro N Q .normal (.ins is :: k) ((d, v) :: s) h → Stp O T ro N Q .normal (.ins (⟨some d, (.bin .eql), os, none⟩ :: is) :: k) s h
  | neq {k : List KI} {s : Env} {h : AHeap} {d : Nat} {os : List Opd} {is : List AIn} {vs : List AV} {v : AV} : evalLS s os = some vs → aop (.bin .neq) vs h = some (v, h) → AV.notJunk v = some v → Nat.blt d N = true → W O T ro N Q .normal (.ins is :: k) ((d, v) :: s) h → Stp O T ro N Q .normal (.ins (⟨some d, (.bin .neq), os, none⟩ :: is) :: k) s h
  | mul {k : List KI} {s : Env} {h : AHeap} {d : Nat} {os : List Opd} {is : List AIn} {vs : List AV} {v : AV} : evalLS s os = some vs → aop (.bin .mul) vs h = some (v, h) → AV.notJunk v = some v → Nat.blt d N = true → W O T ro N Q .normal (.ins is :: k) ((d, v) :: s) h → Stp O T ro N Q .normal (.ins (⟨some d, (.bin .mul), os, none⟩ :: is) :: k) s h
  | quo {k : List KI} {s : Env} {h : AHeap} {d : Nat} {os : List Opd} {is : List AIn} {vs : List AV} {v : AV} : evalLS s os = some vs → aop (.bin .quo) vs h = some (v, h) → AV.notJunk v = some v → Nat.blt d N = true → W O T ro N Q .normal (.ins is :: k) ((d, v) :: s) h → Stp O T ro N Q .normal (.ins (⟨some d, (.bin .quo), os, none⟩ :: is) :: k) s h
  | rem {k : List KI} {s : Env} {h : AHeap} {d : Nat} {os : List Opd} {is : List AIn} {vs : List AV} {v : AV} : evalLS s os = some vs → aop (.bin .rem) vs h = some (v, h) → AV.notJunk v = some v → Nat.blt d N = true → W O T ro N Q .normal (.ins is :: k) ((d, v) :: s) h → Stp O T ro N Q .normal (.ins (⟨some d, (.bin .rem), os, none⟩ :: is) :: k) s h
  | band {k : List KI} {s : Env} {h : AHeap} {d : Nat} {os : List Opd} {is : List AIn} {vs : List AV} {v : AV} : evalLS s os = some vs → aop (.bin .and) vs h = some (v, h) → AV.notJunk v = some v → Nat.blt d N = true → W O T ro N Q .normal (.ins is :: k) ((d, v) :: s) h → Stp O T ro N Q .normal (.ins (⟨some d, (.bin .and), os, none⟩ :: is) :: k) s h
  | bor {k : List KI} {s : Env} {h : AHeap} {d : Nat} {os : List Opd} {is : List AIn} {vs : List AV} {v : AV} : evalLS s os = some vs → aop (.bin .or) vs h = some (v, h) → AV.notJunk v = some v → Nat.blt d N = true → W O T ro N Q .normal (.ins is :: k) ((d, v) :: s) h → Stp O T ro N Q .normal (.ins (⟨some d, (.bin .or), os, none⟩ :: is) :: k) s h
  | shl {k : List KI} {s : Env} {h : AHeap} {d : Nat} {os : List Opd} {is : List AIn} {vs : List AV} {v : AV} : evalLS s os = some vs → aop (.bin .shl) vs h = some (v, h) → AV.notJunk v = some v → Nat.blt d N = true → W O T ro N Q .normal (.ins is :: k) ((d, v) :: s) h → Stp O T ro N Q .normal (.ins (⟨some d, (.bin .shl), os, none⟩ :: is) :: k) s h
  | shr {k : List KI} {s : Env} {h : AHeap} {d : Nat} {os : List Opd} {is : List AIn} {vs : List AV} {v : AV} : evalLS s os = some vs → aop (.bin .shr) vs h = some (v, h) → AV.notJunk v = some v → Nat.blt d N = true → W O T ro N Q .normal (.ins is :: k) ((d, v) :: s) h → Stp O T ro N Q .normal (.ins (⟨some d, (.bin .shr), os, none⟩ :: is) :: k) s h
  | bandn {k : List KI} {s : Env} {h : AHeap} {d : Nat} {os : List Opd} {is : List AIn} {vs : List AV} {v : AV} : evalLS s os = some vs → aop (.bin .andNot) vs h = some (v, h) → AV.notJunk v = some v → Nat.blt d N = true → W O T ro N Q .normal (.ins is :: k) ((d, v) :: s) h → Stp O T ro N Q .normal (.ins (⟨some d, (.bin .andNot), os, none⟩ :: is) :: k) s h
  | alloc {k : List KI} {s : Env} {h : AHeap} {d : Nat} {os : List Opd} {is : List AIn} {L : List Chunk} {e es : Nat} {z : Dat} : evalLS s os = some [] → St h L → z.len = es → Nat.blt 0 es = true → Nat.blt d N = true → (∀ p h', St h' (.pt p (.row e es false false z) :: L) → W O T ro N Q .normal (.ins is :: k) ((d, .ptr p 0) :: s) h') → Stp O T ro N Q .normal (.ins (⟨some d, (.alloc e es z), os, none⟩ :: is) :: k) s h
  | box {k : List KI} {s : Env} {h : AHeap} {d : Nat} {os : List Opd} {is : List AIn} {L : List Chunk} {e es : Nat} {v : AV} : evalLS s os = some [v] → St h L → v.dat.len = es → Nat.blt 0 es = true → Nat.blt d N = true → (∀ p h', St h' (.pt p (.row e es false false v.dat) :: L) → W O T ro N Q .normal (.ins is :: k) ((d, .ptr p 0) :: s) h') → Stp O T ro N Q .normal (.ins (⟨some d, (.box e es), os, none⟩ :: is) :: k) s h
  | bslice {k : List KI} {s : Env} {h : AHeap} {d : Nat} {os : List Opd} {is : List AIn} {L : List Chunk} {e es len : Nat} {z dd : Dat} {parts : List Nat} {args : List AV} : evalLS s os = some args → St h L → fills (parts.map fun i => (i * es, es)) args (z.rep len) = some dd → dd.len = len * es → Nat.blt 0 es = true → Nat.blt d N = true → (∀ p h', St h' (.pt p (.row e es false false dd) :: L) → W O T ro N Q .normal (.ins is :: k) ((d, .sl p 0 len len) :: s) h') → Stp O T ro N Q .normal (.ins (⟨some d, (.bslice e es len z parts), os, none⟩ :: is) :: k) s h
  | store {k : List KI} {s : Env} {h : AHeap} {os : List Opd} {is : List AIn} {L R : List Chunk} {id off e es n : Nat} {soft : Bool} {D D' : Dat} {v : AV} : evalLS s os = some [.ptr id off, v] → St h L → Take L (.pt id (.row e es soft false D)) R → v.dat.len = n → Nat.blt 0 n = true → D.put off v.dat = some D' → (∀ (_ : Unit) h', St h' (.pt id (.row e es soft false D') :: R) → W O T ro N Q .normal (.ins is :: k) s h') → Stp O T ro N Q .normal (.ins (⟨none, .store n, os, none⟩ :: is) :: k) s h
  | skip0 {k : List KI} {s : Env} {h : AHeap} {os : List Opd} {is : List AIn} {v : AV} : evalLS s os = some [v] → W O T ro N Q .normal (.ins is :: k) s h → Stp O T ro N Q .normal (.ins (⟨none, .mv, os, none⟩ :: is) :: k) s h
section
variable {O : Nat → Option FSpec} {T : BT} {ro : Option Nat} {N : Nat} {Q : AExit → Env → AHeap → Prop} {x : AExit} {k : List KI} {s : Env} {h : AHeap} {L R : List Chunk}
theorem W.of (p : Stp O T ro N Q x k s h) : W O T ro N Q x k s h := by
  cases p with
  | done q => exact ⟨fun e hl hc => ⟨_, hl, hc, q⟩⟩
  | seq w => exact ⟨fun e hl hc => by
      refine execW_mono (fun _ _ _ _ x => x) progI_mono (fun y e h q => ?_) (w.run e hl hc)
      cases y <;> exact q⟩
  | region w => exact ⟨fun e hl hc => w.run e hl hc⟩
  | draw1 w => exact ⟨fun e hl hc ds hd => by rw [List.mem_singleton.1 hd]; exact w.run e hl hc⟩
  | block w => exact ⟨fun e hl hc => by
      refine execW_mono (fun _ _ _ _ x => x) progI_mono (fun y e h q => ?_) (w.run e hl hc)
      cases y <;> exact q⟩
  | blk w => exact ⟨fun e hl hc => w.run e hl hc⟩
  | cond ho w => exact ⟨fun e hl hc => by
      have := w.run e hl hc
      simp only [postK, execW, hc.eval ho] at this ⊢
      rename_i q _ _
      cases q <;> exact this⟩
  | skip w => exact ⟨fun e hl hc => w.run e hl hc⟩
  | ret w => exact ⟨fun e hl hc => w.run e hl hc⟩
  | exit w => exact ⟨fun e hl hc => w.run e hl hc⟩
  | rcode w => exact ⟨fun e hl hc => w.run e hl hc⟩
  | rblk w => exact ⟨fun e hl hc => w.run e hl hc⟩
  | rlp w => exact ⟨fun e hl hc => w.run e hl hc⟩
  | xcode w => exact ⟨fun e hl hc => w.run e hl hc⟩
  | xblk w => exact ⟨fun e hl hc => by
      have := w.run e hl hc
      simp only [postK]
      rename_i i id
      cases hb : Nat.beq i id with
      | true => rw [hb] at this; rw [if_pos (Nat.eq_of_beq_eq_true hb)]; exact this
      | false => rw [hb] at this; rw [if_neg (Nat.ne_of_beq_eq_false hb)]; exact this⟩
  | xlp w => exact ⟨fun e hl hc => w.run e hl hc⟩
  | lp j => exact ⟨fun e hl hc => ⟨_, hl, hc, j⟩⟩
  | inil w => exact ⟨fun e hl hc => w.run e hl hc⟩
  | dnil w => exact ⟨fun e hl hc => w.run e hl hc⟩
  | dcons w => exact ⟨fun e hl hc => w.run e hl hc⟩
  | ag a w => exact ⟨fun e hl hc => ⟨again_ok hc a.ok, w.run e hl hc⟩⟩
  | guard hw w => exact ⟨fun e hl hc => by
      have := w.run e hl hc
      simp only [postK, runInsW, runInW, hc.want hw] at this ⊢
      rename_i b _
      cases b with
      | true => exact this
      | false => simpa only [cond_false, wantedA, evalL, Opd.eval, doOpW, aop] using this⟩
  | mv ha  hj hd w => exact W.dop ha (⟨rfl, rfl⟩) hj hd w
  | load1 ha p0 p1 p2 hj hd w => exact W.dop ha (d_load1 (p0.get' p1) p2) hj hd w
  | loadn ha p0 p1 p2 hj hd w => exact W.dop ha (d_loadn (p0.get' p1) p2) hj hd w
  | pick ha p0 hj hd w => exact W.dop ha (⟨rfl, by obtain ⟨rfl⟩ := p0; cases ‹Bool› <;> rfl⟩) hj hd w
  | lens ha p0 hj hd w => exact W.dop ha (d_lens p0) hj hd w
  | add ha p0 p1 hj hd w => exact W.dop ha (d_add p0 p1) hj hd w
  | sub ha p0 p1 hj hd w => exact W.dop ha (d_sub p0 p1) hj hd w
  | indexa ha p0 p1 hj hd w => exact W.dop ha (d_indexa p0 p1) hj hd w
  | nilCheck ha p0 hj hd w => exact W.dop ha (⟨rfl, p0⟩) hj hd w
  | eqvS ha p0 hj hd w => exact W.dop ha (⟨rfl, p0⟩) hj hd w
  | eqvP ha p0 hj hd w => exact W.dop ha (⟨rfl, p0⟩) hj hd w
  | eqvL ha p0 hj hd w => exact W.dop ha (⟨rfl, p0⟩) hj hd w
  | eqvM ha p0 hj hd w => exact W.dop ha (⟨rfl, p0⟩) hj hd w
  | eqvF ha p0 hj hd w => exact W.dop ha (⟨rfl, p0⟩) hj hd w
  | eqvA ha p0 hj hd w => exact W.dop ha (⟨rfl, p0⟩) hj hd w
  | un ha p0 hj hd w => exact W.dop ha (⟨rfl, p0⟩) hj hd w
  | conv ha p0 hj hd w => exact W.dop ha (⟨rfl, p0⟩) hj hd w
  | sl2arr ha p0 hj hd w => exact W.dop ha (⟨rfl, p0⟩) hj hd w
  | mkfunc ha p0 hj hd w => exact W.dop ha (⟨rfl, p0⟩) hj hd w
  | slice ha p0 hj hd w => exact W.dop ha (⟨rfl, p0⟩) hj hd w
  | slicea ha p0 hj hd w => exact W.dop ha (⟨rfl, p0⟩) hj hd w
  | fieldAddr ha p0 hj hd w => exact W.dop ha (⟨rfl, p0⟩) hj hd w
  | field ha p0 hj hd w => exact W.dop ha (⟨rfl, p0⟩) hj hd w
  | indexv ha p0 hj hd w => exact W.dop ha (⟨rfl, p0⟩) hj hd w
  | extract ha p0 hj hd w => exact W.dop ha (⟨rfl, p0⟩) hj hd w
  | lenc ha p0 hj hd w => exact W.dop ha (⟨rfl, p0⟩) hj hd w
  | cap ha p0 hj hd w => exact W.dop ha (⟨rfl, p0⟩) hj hd w
  | lenstr ha p0 hj hd w => exact W.dop ha (⟨rfl, p0⟩) hj hd w
  | min ha p0 hj hd w => exact W.dop ha (⟨rfl, p0⟩) hj hd w
  | max ha p0 hj hd w => exact W.dop ha (⟨rfl, p0⟩) hj hd w
  | build ha p0 hj hd w => exact W.dop ha (⟨rfl, p0⟩) hj hd w
  | lss ha p0 hj hd w => exact W.dop ha (⟨rfl, p0⟩) hj hd w
  | leq ha p0 hj hd w => exact W.dop ha (⟨rfl, p0⟩) hj hd w
  | gtr ha p0 hj hd w => exact W.dop ha (⟨rfl, p0⟩) hj hd w
  | geq ha p0 hj hd w => exact W.dop ha (⟨rfl, p0⟩) hj hd w
  | eql ha p0 hj hd w => exact W.dop ha (⟨rfl, p0⟩) hj hd w
  | neq ha p0 hj hd w => exact W.dop ha (⟨rfl, p0⟩) hj hd w
  | mul ha p0 hj hd w => exact W.dop ha (⟨rfl, p0⟩) hj hd w
  | quo ha p0 hj hd w => exact W.dop ha (⟨rfl, p0⟩) hj hd w
  | rem ha p0 hj hd w => exact W.dop ha (⟨rfl, p0⟩) hj hd w
  | band ha p0 hj hd w => exact W.dop ha (⟨rfl, p0⟩) hj hd w
  | bor ha p0 hj hd w => exact W.dop ha (⟨rfl, p0⟩) hj hd w
  | shl ha p0 hj hd w => exact W.dop ha (⟨rfl, p0⟩) hj hd w
  | shr ha p0 hj hd w => exact W.dop ha (⟨rfl, p0⟩) hj hd w
  | bandn ha p0 hj hd w => exact W.dop ha (⟨rfl, p0⟩) hj hd w
  | alloc ha st p0 p1 hd w => exact W.eff (e_alloc st p0 p1) ha hd fun _ h' ⟨p, e, st'⟩ => by subst e; exact ⟨rfl, w p h' st'⟩
  | box ha st p0 p1 hd w => exact W.eff (e_box st p0 p1) ha hd fun _ h' ⟨p, e, st'⟩ => by subst e; exact ⟨rfl, w p h' st'⟩
  | bslice ha st p0 p1 p2 hd w => exact W.eff (e_bslice st p0 p1 p2) ha hd fun _ h' ⟨p, e, st'⟩ => by subst e; exact ⟨rfl, w p h' st'⟩
  | store ha st t h1 h2 h3 w => exact W.eff0 (e_store st t h1 h2 h3) ha fun _ h' ⟨_, st'⟩ => w () h' st'
  | skip0 ha w => exact W.eff0 (K := fun _ h' => h' = h) ⟨by simp only [doOpW, aop]⟩ ha fun _ h' e => by subst e; exact w
theorem be_t {q : Bool} (h : q = true) : (q == true) = true := by subst h; rfl
theorem be_f {q : Bool} (h : q = false) : (q == true) = false := by subst h; rfl
theorem bo_t {q : Bool} (h : q = false) : (q == false) = true := by subst h; rfl
theorem bo_f {q : Bool} (h : q = true) : (q == false) = false := by subst h; rfl
/-- a branch whose way is known -/
theorem W.ct {q : Bool} {a b : ACode} (w : W O T ro N Q .normal (.code a :: k) s h) (hq : q = true := by first | assumption | exact d_t (by omega) | exact q_t (by omega) | exact nq_t (by omega) | exact nd_t (by omega)) : W O T ro N Q .normal (.code (bif q then a else b) :: k) s h := by subst hq; exact w
theorem W.cf {q : Bool} {a b : ACode} (w : W O T ro N Q .normal (.code b :: k) s h) (hq : q = false := by first | assumption | exact d_f (by omega) | exact q_f (by omega) | exact nq_f (by omega) | exact nd_f (by omega)) : W O T ro N Q .normal (.code (bif q then a else b) :: k) s h := by subst hq; exact w
theorem W.gt {q : Bool} {a b : AIn} {is : List AIn} (w : W O T ro N Q .normal (.ins (a :: is) :: k) s h) (hq : q = true := by first | exact be_t (by first | assumption | exact d_t (by omega) | exact q_t (by omega) | exact nq_t (by omega) | exact nd_t (by omega)) | exact bo_t (by first | assumption | exact d_f (by omega) | exact q_f (by omega) | exact nq_f (by omega) | exact nd_f (by omega))) : W O T ro N Q .normal (.ins ((bif q then a else b) :: is) :: k) s h := by subst hq; exact w
theorem W.gf {q : Bool} {a b : AIn} {is : List AIn} (w : W O T ro N Q .normal (.ins (b :: is) :: k) s h) (hq : q = false := by first | exact be_f (by first | assumption | exact d_f (by omega) | exact q_f (by omega) | exact nq_f (by omega) | exact nd_f (by omega)) | exact bo_f (by first | assumption | exact d_t (by omega) | exact q_t (by omega) | exact nq_t (by omega) | exact nd_t (by omega))) : W O T ro N Q .normal (.ins ((bif q then a else b) :: is) :: k) s h := by subst hq; exact w
/-- a call, by what is known of the function -/
theorem W.call {d f : Nat} {os : List Opd} {is : List AIn} {first captured rest args : List AV} {Ps : List Chunk} {post : AV → List Chunk → Prop} (ha : evalLS s os = some (.func f first captured :: rest) := by rfl) (hx : first ++ rest ++ captured = args := by rfl) (hs : Spec (progI O T) (.f f) args Ps post)
    (st : St h L := by assumption) (hp : Pick L Ps R := by repeat (first | exact Take.here | exact Pick.nil | apply Pick.cons | apply Take.there)) (hd : Nat.blt d N = true := by rfl) (w : ∀ v Rs, post v Rs → ∀ h', St h' (Rs ++ R) → v.notJunk = some v ∧ W O T ro N Q .normal (.ins is :: k) ((d, v) :: s) h') : W O T ro N Q .normal (.ins (⟨some d, .callv, os, none⟩ :: is) :: k) s h :=
  W.eff (e_call progI_mono hs hx st hp) ha hd fun v h' ⟨Rs, y, z⟩ => w v Rs y h' z
theorem W.ef {d : Nat} {op : AOp} {os : List Opd} {is : List AIn} {vs : List AV} {K : AV → AHeap → Prop} (ha : evalLS s os = some vs := by rfl) (ho : Eff (progI O T) op vs h K) (hd : Nat.blt d N = true := by rfl) (w : ∀ v h', K v h' → v.notJunk = some v ∧ W O T ro N Q .normal (.ins is :: k) ((d, v) :: s) h') :
    W O T ro N Q .normal (.ins (⟨some d, op, os, none⟩ :: is) :: k) s h := W.eff ho ha hd w
theorem W.ef0 {op : AOp} {os : List Opd} {is : List AIn} {vs : List AV} {K : AV → AHeap → Prop} (ha : evalLS s os = some vs := by rfl) (ho : Eff (progI O T) op vs h K) (w : ∀ v h', K v h' → W O T ro N Q .normal (.ins is :: k) s h') :
    W O T ro N Q .normal (.ins (⟨none, op, os, none⟩ :: is) :: k) s h := W.eff0 ho ha w
theorem W.do {d : Nat} {op : AOp} {os : List Opd} {is : List AIn} {vs : List AV} {v : AV} (ha : evalLS s os = some vs := by rfl) (ho : Does op vs h v h) (hj : v.notJunk = some v := by first | rfl | assumption) (hd : Nat.blt d N = true := by rfl) (w : W O T ro N Q .normal (.ins is :: k) ((d, v) :: s) h) :
    W O T ro N Q .normal (.ins (⟨some d, op, os, none⟩ :: is) :: k) s h := W.dop ha ho hj hd w
theorem nj {v : AV} {A : Prop} (k : A) (hj : v.notJunk = some v := by first | rfl | assumption) : v.notJunk = some v ∧ A := ⟨hj, k⟩
theorem W.sub {s' : Env} (hs : Sub s' s) (w : W O T ro N Q x k s' h) : W O T ro N Q x k s h := ⟨fun e hl hc => w.run e hl (hc.sub hs)⟩
/-- every order of a region whose order is open -/
theorem W.draw2 {ds ds' : List DI} (w : W O T ro N Q .normal (.dis ds :: k) s h) (w' : W O T ro N Q .normal (.dis ds' :: k) s h) : W O T ro N Q .normal (.code (.draw [ds, ds']) :: k) s h := ⟨fun e hl hc _ hd => by
  rcases List.mem_cons.1 hd with rfl | hd
  · exact w.run e hl hc
  · rw [List.mem_singleton.1 hd]; exact w'.run e hl hc⟩
theorem small_rounds {n : Nat} (h : n < 1000000) : n < rounds := by unfold rounds; omega
/-- A LOOP: a state, the slots and the parts of the heap by it, and what gets less. -/
theorem W.loop {σ : Type} {b : ACode} (E : σ → Env) (G : σ → List Chunk) (φ : σ → Prop) (m : σ → Nat) (x0 : σ) (hm : m x0 < rounds) (hs : Sub (E x0) s) (st : St h (G x0)) (h0 : φ x0)
    (hb : ∀ y h, φ y → St h (G y) → W O T ro N Q .normal (.code b :: .lp (fun s' h' => ∃ z, m z < m y ∧ φ z ∧ Sub (E z) s' ∧ St h' (G z)) :: k) (E y) h) : W O T ro N Q .normal (.code (.loop b) :: k) s h := by
  have key : ∀ (n : Nat) (y : σ) (h : AHeap), m y < n → φ y → St h (G y) → ∀ e, e.length = N → Cov (E y) e → iterW (execW (progI O T) ro b) n e h (postK (progI O T) ro N k fun x e h => ∃ s', e.length = N ∧ Cov s' e ∧ Q x s' h) := by
    intro n
    induction n with
    | zero => intro y h hy; omega
    | succ n ih =>
      intro y h hy hφ st e hl hc
      refine execW_mono (fun _ _ _ _ x => x) progI_mono (fun z e' h' q => ?_) ((hb y h hφ st).run e hl hc)
      cases z with
      | normal =>
        obtain ⟨s', p1, p2, z, hz, hφ', hsub, st'⟩ := q
        exact ih z h' (by omega) hφ' st' e' p1 (p2.sub hsub)
      | exit i => exact q
      | ret => exact q
  exact ⟨fun e hl hc => key rounds x0 h hm h0 st e hl (hc.sub hs)⟩
/-- a contract: what is known of the parts ahead of the walk -/
theorem spec_in {C : SemW} {f : Fn} {args : List AV} {Ps : List Chunk} {post : AV → List Chunk → Prop} (k : ∀ h F, St h (Ps ++ F) → Spec C f args Ps post) : Spec C f args Ps post := fun h F st => k h F st h F st
/-- a function's contract, by a walk over its code -/
theorem spec_w {n : Nat} {f : AFn} {args : List AV} {Ps : List Chunk} {post : AV → List Chunk → Prop} (u : ∀ args h Q, callW (progI O T) f args h Q → progI O T (.f n) args h Q) (hj : NoJunk args) (hl : Nat.ble args.length f.ntmps = true)
    (k : ∀ h F, St h (Ps ++ F) → W O T none f.ntmps (fnQ f.res fun v h' => ∃ Rs, post v Rs ∧ St h' (Rs ++ F)) .normal [.code f.body] (argS 0 args) h) : Spec (progI O T) (.f n) args Ps post :=
  fun h F st => u _ _ _ (call_walk progI_mono hj hl ⟨fun e hl hc => execW_mono (fun _ _ _ _ x => x) progI_mono (fun y e h q => by cases y <;> exact q) ((k h F st).run e hl hc)⟩)
end
end Go.Proofs.Ytjdemlagmamlbaa

namespace Go.Proofs.Ytjdemlagmamlbaa
section
variable {α β : Type} [DecidableEq α]
def alook : List (α × β) → α → Option β
  | [], _ => none
  | (k, v) :: l, a => if k = a then some v else alook l a
def aput : List (α × β) → α → β → List (α × β)
  | [], a, b => [(a, b)]
  | (k, v) :: l, a, b => if k = a then (a, b) :: l else (k, v) :: aput l a b
theorem alook_aput (l : List (α × β)) (a : α) (b : β) (x : α) : alook (aput l a b) x = if a = x then some b else alook l x := by
  induction l with
  | nil => simp [aput, alook]
  | cons p l ih =>
    obtain ⟨k, v⟩ := p
    simp only [aput]
    by_cases h : k = a
    · subst h
      rw [if_pos rfl]
      simp only [alook]
      split <;> rfl
    · rw [if_neg h]
      simp only [alook, ih]
      by_cases hk : k = x
      · subst hk
        rw [if_pos rfl, if_pos rfl, if_neg (fun e => h e.symm)]
      · rw [if_neg hk, if_neg hk]
/-- stamps rise, below the next one -/
def Stamps : List (AV × AV × Nat) → Nat → Prop
  | [], _ => True
  | (_, _, b) :: es, clock => b < clock ∧ (∀ e, e ∈ es → b < e.2.2) ∧ Stamps es clock
theorem Stamps.lt : ∀ {es : List (AV × AV × Nat)} {clock : Nat}, Stamps es clock → ∀ e, e ∈ es → e.2.2 < clock
  | (_, _, b) :: es, clock, h, e, he => by
    rcases List.mem_cons.1 he with rfl | he
    · exact h.1
    · exact Stamps.lt h.2.2 e he
theorem Stamps.mono : ∀ {es : List (AV × AV × Nat)} {c c' : Nat}, Stamps es c → c ≤ c' → Stamps es c'
  | [], _, _, _, _ => trivial
  | (_, _, _) :: _, _, _, h, hc => ⟨Nat.lt_of_lt_of_le h.1 hc, h.2.1, Stamps.mono h.2.2 hc⟩
theorem Stamps.snoc : ∀ {es : List (AV × AV × Nat)} {c : Nat} {k v : AV}, Stamps es c → Stamps (es ++ [(k, v, c)]) (c + 1)
  | [], c, _, _, _ => ⟨by omega, by simp, trivial⟩
  | (_, _, b) :: es, c, k, v, h => by
    refine ⟨by have := h.1; omega, fun e he => ?_, Stamps.snoc h.2.2⟩
    rcases List.mem_append.1 he with he | he
    · exact h.2.1 e he
    · rw [List.mem_singleton.1 he]; exact h.1
theorem Stamps.modify {f : AV × AV × Nat → AV × AV × Nat} (hf : ∀ e, (f e).2.2 = e.2.2) : ∀ {es : List (AV × AV × Nat)} {c : Nat} (i : Nat), Stamps es c → Stamps (es.modify i f) c ∧ ∀ e, e ∈ es.modify i f → ∃ e', e' ∈ es ∧ e'.2.2 = e.2.2
  | [], _, i, h => by cases i <;> simp [h]
  | (k, v, b) :: es, c, i, h => by
    cases i with
    | zero =>
      simp only [List.modify_zero_cons]
      have hb := hf (k, v, b)
      cases hfe : f (k, v, b) with
      | mk k' vb =>
      obtain ⟨v', b'⟩ := vb
      rw [hfe] at hb
      simp only at hb
      subst hb
      refine ⟨⟨h.1, h.2.1, h.2.2⟩, fun e he => ?_⟩
      rcases List.mem_cons.1 he with rfl | he
      · exact ⟨_, List.mem_cons_self, rfl⟩
      · exact ⟨e, List.mem_cons_of_mem _ he, rfl⟩
    | succ i =>
      simp only [List.modify_succ_cons]
      obtain ⟨h1, h2⟩ := Stamps.modify hf i h.2.2
      refine ⟨⟨h.1, fun e he => ?_, h1⟩, fun e he => ?_⟩
      · obtain ⟨e', he', hb⟩ := h2 e he
        rw [← hb]; exact h.2.1 e' he'
      · rcases List.mem_cons.1 he with rfl | he
        · exact ⟨_, List.mem_cons_self, rfl⟩
        · obtain ⟨e', he', hb⟩ := h2 e he
          exact ⟨e', List.mem_cons_of_mem _ he', hb⟩
theorem Stamps.erase : ∀ {es : List (AV × AV × Nat)} {c : Nat} (i : Nat), Stamps es c → Stamps (es.eraseIdx i) c
  | [], _, i, h => by cases i <;> simp [h]
  | (k, v, b) :: es, c, i, h => by
    cases i with
    | zero => exact h.2.2
    | succ i =>
      simp only [List.eraseIdx_cons_succ]
      exact ⟨h.1, fun e he => h.2.1 e (List.mem_of_mem_eraseIdx he), Stamps.erase i h.2.2⟩
end
end Go.Proofs.Ytjdemlagmamlbaa

namespace Go.Proofs.Ytjdemlagmamlbaa
theorem bsub_testBit (n off l i : Nat) : (bsub n off l).testBit i = (decide (i < 8 * l) && n.testBit (8 * off + i)) := by
  unfold bsub
  rw [Nat.testBit_mod_two_pow, Nat.testBit_shiftRight]
/-- written behind a run: the run is longer -/
theorem Dat.put_take {D d d' d'' : Dat} {off n : Nat} (ht : D.take off n = some d) (ha : d.app d' = some d'') (hl : off + n + d'.len ≤ D.len) (hk : (∃ a b c, D = .vals a ∧ d = .vals b ∧ d' = .vals c) ∨ (∃ l a b c m e, D = .bytes l a ∧ d = .bytes b c ∧ d' = .bytes m e)) :
    ∃ D', D.put (off + n) d' = some D' ∧ D'.len = D.len ∧ D'.take off (n + d'.len) = some d'' := by
  rcases hk with ⟨a, b, c, rfl, rfl, rfl⟩ | ⟨l, a, b, c, m, e, rfl, rfl, rfl⟩
  · simp only [Dat.take] at ht
    split at ht
    · cases ht
      simp only [Dat.app, Option.some.injEq] at ha
      subst ha
      simp only [Dat.len] at hl
      refine ⟨.vals (a.take (off + n) ++ c ++ a.drop (off + n + c.length)), by simp only [Dat.put]; rw [if_pos hl], by simp [Dat.len]; omega, ?_⟩
      show Dat.take (.vals (a.take (off + n) ++ c ++ a.drop (off + n + c.length))) off (n + c.length) = _
      simp only [Dat.take]
      rw [if_pos (by simp; omega)]
      congr 2
      rw [List.take_add (l := a), List.append_assoc, List.append_assoc, List.drop_left' (by simp; omega), ← List.append_assoc, List.take_left' (by simp; omega)]
    · cases ht
  · simp only [Dat.take] at ht
    split at ht
    · cases ht
      simp only [Dat.app, Option.some.injEq] at ha
      subst ha
      simp only [Dat.len] at hl
      refine ⟨.bytes l (bput a (off + n) m e), by simp only [Dat.put]; rw [if_pos hl], rfl, ?_⟩
      show Dat.take (.bytes l (bput a (off + n) m e)) off (n + m) = _
      simp only [Dat.take]
      rw [if_pos (by omega)]
      congr 2
      apply Nat.eq_of_testBit_eq
      intro i
      rw [bsub_testBit, bput_testBit, bput_testBit, bsub_testBit, bsub_testBit]
      by_cases h1 : i < 8 * n
      · rw [if_pos (by omega), if_pos (by omega)]
        simp [show i < 8 * (n + m) by omega, h1]
      · by_cases h2 : i < 8 * (n + m)
        · rw [if_neg (by omega), if_pos (by omega), if_neg (by omega), if_pos (by omega)]
          simp only [h2, decide_true, Bool.true_and]; congr 1; omega
        · rw [if_neg (by omega), if_neg (by omega), if_neg (by omega), if_neg (by omega)]; simp [h1, h2]
    · cases ht
section
variable {h : AHeap} {L R R' : List Chunk} {s x v : AV} {e es b k m : Nat} {d d' d'' : Dat} {w : Bool} {C : SemW}
theorem SlIs.sliceDat {cs : List Chunk} (y : SlIs v e es k d w cs) (st : St h (cs ++ L)) : ∃ d0, sliceDat h es v = some d0 ∧ (k ≠ 0 → d0 = d) ∧ d0.len = k * es := by
  rcases y with ⟨rfl, rfl, hl, _⟩ | ⟨rfl, rfl, hl, _⟩ | ⟨id, off, cap, D, e', es', sf, rfl, rfl, h3, _⟩ | ⟨id, idx, D, rfl, rfl, h3, _⟩
  · exact ⟨_, rfl, fun h => absurd rfl h, by simp [Dat.len]⟩
  · exact ⟨_, rfl, fun h => absurd rfl h, by simp [Dat.len]⟩
  · exact ⟨d, by simp only [Go.Proofs.Ytjdemlagmamlbaa.sliceDat, st.get, h3], fun _ => rfl, (Dat.take_spec h3).1⟩
  · exact ⟨d, by simp only [Go.Proofs.Ytjdemlagmamlbaa.sliceDat, st.get, h3, if_true], fun _ => rfl, (Dat.take_spec h3).1⟩
def Alike (d d' : Dat) : Prop := (∃ a b, d = .vals a ∧ d' = .vals b) ∨ (∃ a b c e, d = .bytes a b ∧ d' = .bytes c e)
theorem Dat.take_alike {D d : Dat} {off n : Nat} (h : D.take off n = some d) : Alike D d := by
  unfold Dat.take at h
  split at h
  · split at h
    · cases h; exact .inl ⟨_, _, rfl, rfl⟩
    · cases h
  · split at h
    · cases h; exact .inr ⟨_, _, _, _, rfl, rfl⟩
    · cases h
section
variable {h : AHeap} {e es b k : Nat} {new : Dat}
theorem ap_sl0 {id off len cap : Nat} (hc : len ≤ cap) : appendTo h e es b (.sl id off len cap) new 0 = some (.sl id off len cap, h) := by
  show (if len ≤ cap then _ else _) = _
  rw [if_pos hc]
theorem ap_nil (hk : k ≠ 0) : appendTo h e es b .nilsl new k = if k * b ≤ 2 ^ 40 ∧ k ≤ 2 ^ 40 ∧ new.len = k * es then (newRow' h e es true new).map fun h' => (.ssl h.next 0 es k, h') else none := by
  unfold appendTo; rw [if_neg hk]
theorem ap_sl {id off len cap elem' es' : Nat} {soft ro : Bool} {d : Dat} (hk : k ≠ 0) (hg : h.get id = some (.row elem' es' soft ro d)) : appendTo h e es b (.sl id off len cap) new k = if len + k ≤ cap then
        if ro then none else (d.put (off + len * es) new).map fun d' => (.sl id off (len + k) cap, h.put id (.row elem' es' soft ro d'))
      else if (len + k) * b ≤ 2 ^ 40 ∧ len + k ≤ 2 ^ 40 ∧ new.len = k * es then
        (d.take off (len * es)).bind fun old => (old.app new).bind fun all =>
          (newRow' h e es true all).map fun h' => (.ssl h.next 0 es (len + k), h')
      else none := by
  unfold appendTo; rw [if_neg hk]; simp only [hg]
theorem ap_ssl {id idx len elem' es' es'' : Nat} {d : Dat} (hk : k ≠ 0) (hg : h.get id = some (.row elem' es'' true false d)) : appendTo h e es b (.ssl id idx es' len) new k = if es' = es ∧ es'' = es ∧ elem' = e ∧ 0 < es then
        if (idx + len + k) * es ≤ d.len then
          (d.put ((idx + len) * es) new).map fun d' => (.ssl id idx es (len + k), h.put id (.row elem' es'' true false d'))
        else if (idx + len) * es = d.len ∧ (len + k) * b ≤ 2 ^ 40 ∧ len + k ≤ 2 ^ 40 ∧ new.len = k * es then
          (d.take (idx * es) (len * es)).bind fun old => (old.app new).bind fun all =>
            (newRow' (h.kill id) e es true all).map fun h' => (.ssl h.next 0 es (len + k), h')
        else none
      else none := by
  unfold appendTo; rw [if_neg hk]; simp only [hg]
end
/-- APPEND: the slice is used up. -/
theorem d_append {z : Dat} (st : St h L) (t : Take L (SlC s e es k d true) R) (t' : Take R (SlC x e es m d' w) R') (ha : d.app d' = some d'') (hal : Alike d d') (h0 : m = 0 → d'' = d) (hnil : k = 0 → d'.take 0 (m * es) = some d'')
    (hfull : d''.take 0 ((k + m) * es) = some d'') (hb : (k + m) * b ≤ 2 ^ 40) (hk : k + m ≤ 2 ^ 40) (hes : Nat.blt 0 es = true) :
    ∃ v h', Does (.append e es b z) [s, x] h v h' ∧ v.notJunk = some v ∧ sliceLen v = some (k + m) ∧ St h' (SlC v e es (k + m) d'' true :: SlC x e es m d' w :: R') := by
  have hlt := blt_of hes
  have hx := (st.take t).perm (List.Perm.cons _ t'.perm)
  have hlx := (((st.take t).drop).slc t').1
  have hsx : ∃ d0, sliceDat h es x = some d0 ∧ (m ≠ 0 → d0 = d') ∧ d0.len = m * es := by
    obtain ⟨cs, y, st'⟩ := (((st.take t).drop).take t').unpack
    exact y.sliceDat st'
  obtain ⟨d0, hd0, hdm, hl0⟩ := hsx
  obtain ⟨cs, y, st'⟩ := hx.unpack
  have hd' : d'.len = m * es := (((st.take t).drop).slc t').2.2
  by_cases hm : m = 0
  · subst hm
    have e0 := h0 rfl
    subst e0
    refine ⟨s, h, ⟨rfl, ?_⟩, y.nj, y.len, St.pack st' y⟩
    simp only [aop, hlx, hd0]
    rcases y with ⟨rfl, _⟩ | ⟨rfl, _⟩ | ⟨id, off, cap, D, e', es', sf, rfl, _, _, hc, _⟩ | ⟨id, idx, D, rfl, _⟩
    · rfl
    · rfl
    · exact ap_sl0 hc
    · rfl
  · have e0 := hdm hm
    subst e0
    have hlen : d''.len = (k + m) * es := (Dat.take_spec hfull).1
    rcases y with ⟨rfl, rfl, hl, rfl⟩ | ⟨rfl, rfl, _, _, hw⟩ | ⟨id, off, cap, D, e', es', sf, rfl, rfl, h3, hc, hw⟩ | ⟨id, idx, D, rfl, rfl, h3, hw, hfl⟩
    · have hn := hnil rfl
      refine ⟨.ssl h.next 0 es m, h.new (.row e es true false d0), ⟨rfl, ?_⟩, rfl, by simp [sliceLen], ?_⟩
      · simp only [aop, hlx, hd0, ap_nil hm, newRow']
        rw [if_pos ⟨by simpa using hb, by simpa using hk, hd'⟩, if_pos hlt]; rfl
      · refine St.pack (cs := [.pt h.next (.row e es true false d0)]) (st'.new _) (.inr (.inr (.inr ⟨h.next, 0, d0, by simp, rfl, by simpa using hn, rfl, by simp [hd']⟩)))
    · cases hw
    · have hw' := hw rfl
      by_cases hcap : k + m ≤ cap
      · have hkk : k * es + m * es ≤ cap * es := by rw [← Nat.add_mul]; exact Nat.mul_le_mul_right _ hcap
        obtain ⟨D', p1, p2, p3⟩ := Dat.put_take h3 ha (by rw [hd']; omega) (by
          rcases hal with ⟨a, b, rfl, rfl⟩ | ⟨a, b, c, g, rfl, rfl⟩
          · rcases Dat.take_alike h3 with ⟨a', b', rfl, h⟩ | ⟨_, _, _, _, _, h⟩
            · exact .inl ⟨_, _, _, rfl, rfl, rfl⟩
            · cases h
          · rcases Dat.take_alike h3 with ⟨_, _, _, h⟩ | ⟨_, _, _, _, rfl, h⟩
            · cases h
            · exact .inr ⟨_, _, _, _, _, _, rfl, rfl, rfl⟩)
        refine ⟨.sl id off (k + m) cap, h.put id (.row e' es' sf false D'), ⟨rfl, ?_⟩, rfl, rfl, ?_⟩
        · simp only [aop, hlx, hd0, ap_sl hm st'.get]
          rw [if_pos hcap]
          simp only [Bool.not_true, Bool.false_eq_true, if_false, p1, Option.map_some]
        · refine St.pack (cs := [.pt id (.row e' es' sf false D')]) (st'.put _) (.inr (.inr (.inl ⟨id, off, cap, D', e', es', sf, rfl, rfl, ?_, hcap, fun _ => by rw [p2]; exact hw'⟩)))
          rw [Nat.add_mul, ← hd']; exact p3
      · refine ⟨.ssl h.next 0 es (k + m), h.new (.row e es true false d''), ⟨rfl, ?_⟩, rfl, rfl, ?_⟩
        · simp only [aop, hlx, hd0, ap_sl hm st'.get]
          rw [if_neg hcap, if_pos ⟨hb, hk, hd'⟩]
          simp only [h3, Option.bind_some, ha, newRow']
          rw [if_pos hlt]; rfl
        · refine St.pack (cs := [.pt h.next (.row e es true false d'')]) (st'.drop.new _) (.inr (.inr (.inr ⟨h.next, 0, d'', rfl, rfl, by simpa using hfull, rfl, by simp [hlen]⟩)))
    · refine ⟨.ssl h.next 0 es (k + m), (h.kill id).new (.row e es true false d''), ⟨rfl, ?_⟩, rfl, rfl, ?_⟩
      · simp only [aop, hlx, hd0, ap_ssl hm st'.get]
        have hmm : es ≤ m * es := Nat.le_mul_of_pos_left _ (by omega)
        rw [if_pos ⟨trivial, trivial, trivial, hlt⟩, if_neg (by rw [Nat.add_mul, hfl]; omega), if_pos ⟨hfl, hb, hk, hd'⟩]
        simp only [h3, Option.bind_some, ha, newRow']
        rw [if_pos hlt]; rfl
      · exact St.pack (cs := [.pt h.next (.row e es true false d'')]) (St.new (st'.kill) _) (.inr (.inr (.inr ⟨h.next, 0, d'', rfl, rfl, by simpa using hfull, rfl, by simp [hlen]⟩)))
theorem e_append {z : Dat} (st : St h L) (t : Take L (SlC s e es k d true) R) (t' : Take R (SlC x e es m d' w) R') (ha : d.app d' = some d'') (hal : Alike d d') (h0 : m = 0 → d'' = d) (hnil : k = 0 → d'.take 0 (m * es) = some d'')
    (hfull : d''.take 0 ((k + m) * es) = some d'') (hb : (k + m) * b ≤ 2 ^ 40) (hk : k + m ≤ 2 ^ 40) (hes : Nat.blt 0 es = true) :
    Eff C (.append e es b z) [s, x] h fun v h' => v.notJunk = some v ∧ sliceLen v = some (k + m) ∧ St h' (SlC v e es (k + m) d'' true :: SlC x e es m d' w :: R') := .mk (by
  obtain ⟨v, h', h1, h2⟩ := d_append (z := z) st t t' ha hal h0 hnil hfull hb hk hes
  exact h1.do h2)
end
end Go.Proofs.Ytjdemlagmamlbaa

namespace Go.Proofs.Ytjdemlagmamlbaa
/-- a slice of k bytes, packed -/
def ByIs (v : AV) (k n : Nat) (w : Bool) (cs : List Chunk) : Prop := SlIs v 5 1 k (.bytes k n) w cs ∧ n < 2 ^ (8 * k)
abbrev ByC (v : AV) (k n : Nat) (w : Bool) : Chunk := pk 12 v (ByIs v k n w)
/-- a list out of another one: in its order, what is not wanted left away -/
inductive Sel : List Chunk → List Chunk → Prop where
  | nil {L : List Chunk} : Sel L L
  | cons {L L' R : List Chunk} {c : Chunk} : Take L c L' → Sel L' R → Sel L (c :: R)
  | skip {L R : List Chunk} {c : Chunk} : Sel L R → Sel (c :: L) R
theorem Sels {L R : List Chunk} (h : Sel L R := by repeat (first | exact Sel.nil | exact Take.here | apply Sel.cons | apply Take.there | apply Sel.skip)) : Sel L R := h
theorem semL_sel {L L' : List Chunk} (s : Sel L L') : ∀ {m : Hp}, semL L m → ∃ m', (∀ i o, m' i = some o → m i = some o) ∧ semL L' m' := by
  induction s with
  | nil => exact fun {m} h => ⟨m, fun _ _ e => e, h⟩
  | cons t _ ih =>
    intro m h
    obtain ⟨a, b, h2, h3, h4, h5⟩ := semL_perm t.perm h
    obtain ⟨b', g1, g2⟩ := ih h5
    have key : ∀ i, b' i = none ∨ b' i = b i := fun i => by
      cases hb : b' i with
      | none => exact .inl rfl
      | some o => exact .inr (g1 i o hb).symm
    refine ⟨cup a b', fun i o e => ?_, a, b', fun i => ?_, fun _ => rfl, h4, g2⟩
    · have e : (a i).or (b' i) = some o := e
      rw [h3]
      rcases key i with h | h
      · rw [h, Option.or_none] at e; rw [e]; rfl
      · rw [h] at e; exact e
    · rcases key i with h | h
      · exact .inr (.inl h)
      · have := h2 i; rw [← h] at this; exact this
  | skip _ ih =>
    intro m h
    obtain ⟨a, b, h2, h3, h4, h5⟩ := h
    obtain ⟨b', g1, g2⟩ := ih h5
    exact ⟨b', fun i o e => by rw [h3, C1.comm (h2 i), g1 i o e]; rfl, g2⟩
theorem St.sel {h : AHeap} {L L' : List Chunk} (st : St h L) (s : Sel L L') : St h L' := by
  obtain ⟨m, h1, h2⟩ := st.has
  obtain ⟨m', g1, g2⟩ := semL_sel s h2
  exact ⟨st.wf, m', fun i o e => h1 i o (g1 i o e), g2⟩
/-- parts put together, wherever they are -/
theorem St.packP {h : AHeap} {L R : List Chunk} {t : Nat} {k : AV} {P : List Chunk → Prop} {cs : List Chunk} (st : St h L) (hp : P cs) (p : Pick L cs R) : St h (pk t k P :: R) := St.pack (st.pick p) hp
section
variable {h : AHeap} {L R R' : List Chunk} {v v' : AV} {k n m x : Nat} {w w' : Bool} {C : SemW}
theorem St.by (st : St h L) (t : Take L (ByC v k n w) R) : sliceLen v = some k ∧ v.notJunk = some v ∧ n < 2 ^ (8 * k) := by
  obtain ⟨cs, x, _⟩ := (st.take t).unpack
  exact ⟨x.1.len, x.1.nj, x.2⟩
/-- what a function returns, read at its end -/
theorem res_cell {s : Env} {t : Nat} {o : AOp} {rs : List ARes} {a y : AV} {vs : List AV} (h1 : look s t = some a) (d : Does o [a] h y h) (h2 : resS s h rs = some vs) : resS s h (.cell t o :: rs) = some (y :: vs) := by
  simp only [resS, h1, d.2, h2]
theorem sl_dat {x : AV} {k : Nat} (h : sliceLen x = some k) : x.dat = .vals [x] := by
  cases x <;> first | rfl | (simp [sliceLen] at h)
/-- a store at a place that is reckoned -/
theorem e_storeV {id off i e es : Nat} {sf : Bool} {l : List AV} {x : AV} (st : St h L) (t : Take L (.pt id (.row e es sf false (.vals l))) R) (ho : off = i) (hi : i < l.length) (hx : x.dat = .vals [x]) :
    Eff C (.store 1) [.ptr id off, x] h fun q h' => q = .tuple [] ∧ St h' (.pt id (.row e es sf false (.vals (l.set i x))) :: R) := by
  subst ho
  refine e_store st t (by rw [hx]; rfl) rfl ?_
  rw [hx]
  simp only [Dat.put, List.length_cons, List.length_nil]
  rw [if_pos (by omega), List.set_eq_take_append_cons_drop, if_pos hi]
  simp
theorem d_loadV {id off i e es : Nat} {sf ro : Bool} {l : List AV} {x : AV} (st : St h L) (t : Take L (.pt id (.row e es sf ro (.vals l))) R) (ho : off = i) (hx : l[i]? = some x) : Does .load1 [.ptr id off] h x h := by
  subst ho; exact d_load1 (st.get' t) hx
end
end Go.Proofs.Ytjdemlagmamlbaa

namespace Go.Proofs.Ytjdemlagmamlbaa
/-- the examples are known; of all else the code -/
def over : Nat → Option FSpec := fun n => bif Nat.beq n n_law09_lives then some (constF (.bool true)) else none
/-- the program -/
abbrev R : SemW := progI over tab
abbrev ikey (n : Int) : AV := .int .i64 n
/-- a device -/
structure DevS where
  n : Int
  pg : List (Int × Nat)
  wc : Int
  wl : Int
  rc : Int
  rl : Int
def DevS.row (s : DevS) (M : Nat) : AObj := .row ty_swap_Device 7 false false (.vals [.int .i64 s.n, .bool true, .map M, .int .i64 s.wc, .int .i64 s.wl, .int .i64 s.rc, .int .i64 s.rl])
def left (l : Int) : Int := if l = 0 then 0 else IntKind.i64.wrap (l - 1)
def DevS.rd (s : DevS) : DevS := { s with rc := IntKind.i64.wrap (s.rc + 1), rl := left s.rl }
variable {D : Nat} {s : DevS}
end Go.Proofs.Ytjdemlagmamlbaa

namespace Go.Proofs.Ytjdemlagmamlbaa
variable {D : Nat} {s : DevS}
/-- the page of a place -/
def DevS.at (s : DevS) (p : Int) : Nat := (alook s.pg p).getD 0
structure Got1 where
  s : DevS
  e : Int
  k : Nat
  n : Nat
/-- what Peek tells -/
def DevS.pk (s : DevS) (p : Int) : Nat × Nat := if 0 ≤ p ∧ p < s.n then (4096, s.at p) else (0, 0)
end Go.Proofs.Ytjdemlagmamlbaa

namespace Go.Proofs.Ytjdemlagmamlbaa
section
variable {h : AHeap} {L R : List Chunk}
/-- what is not written, of the heap that is there -/
theorem St.addRo {id : Nat} {o : AObj} (st : St h L) (hg : h.get id = some o) (hro : o.rw = false) : St h (.pt id o :: L) := by
  obtain ⟨m, h1, h2⟩ := st.has
  refine ⟨st.wf, fun i => if i = id then some o else m i, fun i x e => ?_, fun i => if i = id then some o else none, m, fun i => ?_, fun i => ?_, ⟨by simp, fun j hj => by simp [hj]⟩, h2⟩
  · simp only at e
    split at e
    · rename_i e1; subst e1; cases e; exact hg
    · exact h1 i x e
  · by_cases e : i = id
    · subst e
      cases hm : m i with
      | none => exact .inr (.inl rfl)
      | some x =>
        have := h1 i x hm
        rw [hg] at this; cases this
        exact .inr (.inr ⟨by simp, fun o' e => by simp at e; subst e; exact hro⟩)
    · exact .inl (by simp [e])
  · by_cases e : i = id <;> simp [e]
end
/-- a law, by a contract of its function -/
theorem Spec.law {C : SemW} (hM : MonoW C) {f : Fn} {args : List AV} {Ps : List Chunk} {post : AV → List Chunk → Prop} {h : AHeap} (hs : Spec C f args Ps post) (st : St h Ps) (hp : ∀ v Rs, post v Rs → v = .bool true) : C f args h fun v _ => v = .bool true :=
  hM _ _ _ _ _ (fun v _ ⟨Rs, h1, _⟩ => hp v Rs h1) (hs h [] (by rw [List.append_nil]; exact st))
end Go.Proofs.Ytjdemlagmamlbaa

namespace Go.Proofs.Ytjdemlagmamlbaa
variable {D : Nat} {s : DevS}
theorem mod_lt {i m : Int} (h0 : 0 ≤ i) (hm : 0 < m) (hm2 : m ≤ 100) : 0 ≤ IntKind.i64.wrap (i.tmod m) ∧ IntKind.i64.wrap (i.tmod m) < m := by
  have h1 := Int.tmod_lt_of_pos i hm
  have h2 := Int.tmod_nonneg m h0
  rw [wrap64 (by omega) (by omega)]
  exact ⟨h2, h1⟩
end Go.Proofs.Ytjdemlagmamlbaa

namespace Go.Proofs.Ytjdemlagmamlbaa
section
variable {α : Type} {h : AHeap} {L R : List Chunk} {key : AV} {G : α → List Chunk} {l : List α} {a : α} {i : Nat}
/-- for each of a list its parts -/
abbrev SepC (key : AV) (G : α → List Chunk) (l : List α) : Chunk := pk 14 key (fun cs => cs = l.flatMap G)
theorem perm_out : ∀ {l : List α} {i : Nat} {a : α}, l[i]? = some a → l.Perm (a :: l.eraseIdx i)
  | [], i, a, h => by simp at h
  | b :: l, 0, a, h => by simp at h; subst h; exact List.Perm.refl _
  | b :: l, i + 1, a, h => by
    simp only [List.getElem?_cons_succ] at h
    exact ((perm_out h).cons b).trans (List.Perm.swap _ _ _)
theorem perm_set : ∀ {l : List α} {i : Nat} {a : α}, i < l.length → (l.set i a).Perm (a :: l.eraseIdx i)
  | [], i, a, h => by simp at h
  | b :: l, 0, a, _ => List.Perm.refl _
  | b :: l, i + 1, a, h => by
    simp only [List.length_cons] at h
    exact ((perm_set (show i < l.length by omega)).cons b).trans (List.Perm.swap _ _ _)
theorem St.sepOut (st : St h L) (t : Take L (SepC key G l) R) (hi : l[i]? = some a) : St h (G a ++ SepC key G (l.eraseIdx i) :: R) := by
  obtain ⟨cs, rfl, st'⟩ := (st.take t).unpack
  have p : (l.flatMap G).Perm (G a ++ (l.eraseIdx i).flatMap G) := (perm_out hi).flatMap_right G
  have st2 := st'.perm (p.append_right R)
  rw [List.append_assoc] at st2
  have st3 : St h ((l.eraseIdx i).flatMap G ++ (R ++ G a)) := st2.perm ((List.perm_append_comm).trans (by rw [List.append_assoc]))
  exact (St.pack (t := 14) (k := key) (P := fun cs => cs = (l.eraseIdx i).flatMap G) st3 rfl).perm ((List.perm_append_comm (l₁ := _ :: R) (l₂ := G a)))
theorem St.sepIn (st : St h (G a ++ SepC key G (l.eraseIdx i) :: R)) (hi : i < l.length) : St h (SepC key G (l.set i a) :: R) := by
  have s1 := st.perm (List.perm_append_comm (l₁ := G a) (l₂ := SepC key G (l.eraseIdx i) :: R))
  obtain ⟨cs, rfl, s2⟩ := St.unpack (L := R ++ G a) s1
  refine St.pack (cs := (l.set i a).flatMap G) (s2.perm ?_) rfl
  refine List.Perm.trans ?_ ((((perm_set (a := a) hi).flatMap_right G).append_right R).symm)
  simp only [List.flatMap_cons]
  rw [← List.append_assoc]
  refine List.perm_append_comm.trans ?_
  rw [List.append_assoc]
theorem set_same' : ∀ {l : List α} {i : Nat} {a : α}, l[i]? = some a → l.set i a = l
  | [], i, a, h => by simp at h
  | b :: l, 0, a, h => by simp at h; subst h; rfl
  | b :: l, i + 1, a, h => by
    simp only [List.getElem?_cons_succ] at h
    rw [List.set_cons_succ, set_same' h]
theorem St.sepBack (st : St h (G a ++ SepC key G (l.eraseIdx i) :: R)) (hi : l[i]? = some a) : St h (SepC key G l :: R) := by
  have := st.sepIn (List.getElem?_eq_some_iff.1 hi).1
  rwa [set_same' hi] at this
theorem St.sepNil (st : St h L) (key : AV) (G : α → List Chunk) : St h (SepC key G [] :: L) := St.pack (cs := []) st rfl
theorem St.sepSnoc (st : St h L) {R' : List Chunk} (t : Take L (SepC key G l) R) (p : Pick R (G a) R') : St h (SepC key G (l ++ [a]) :: R') := by
  have s1 := (st.take t).perm ((p.perm).cons _)
  obtain ⟨cs, rfl, s2⟩ := s1.unpack
  refine St.pack (cs := (l ++ [a]).flatMap G) (s2.perm ?_) rfl
  rw [List.flatMap_append, List.flatMap_cons, List.flatMap_nil, List.append_nil, List.append_assoc]
/-- parts that are not written -/
def RoL (cs : List Chunk) : Prop := ∀ m, semL cs m → ∀ i o, m i = some o → o.rw = false
theorem RoL.nil : RoL [] := fun m hm i o e => by rw [hm i] at e; cases e
theorem RoL.cons {c : Chunk} {cs : List Chunk} (h1 : RoL [c]) (h2 : RoL cs) : RoL (c :: cs) := by
  rintro m ⟨x, y, g1, g2, g3, g4⟩ i o e
  rw [g2] at e
  cases hx : x i with
  | none => rw [hx] at e; exact h2 y g4 i o (by simpa using e)
  | some o' => rw [hx] at e; cases e; exact h1 x ⟨x, fun _ => none, fun _ => .inr (.inl rfl), fun i => by simp, g3, fun _ => rfl⟩ i _ hx
theorem RoL.pk {t : Nat} {k : AV} {P : List Chunk → Prop} (hp : ∀ cs, P cs → RoL cs) : RoL [pk t k P] := by
  intro m hm i o e
  obtain ⟨cs, h1, h2⟩ := semL_own.1 hm
  rw [List.append_nil] at h2
  exact hp cs h1 m h2 i o e
theorem RoL.row {id e es : Nat} {sf : Bool} {d : Dat} : RoL [.pt id (.row e es sf true d)] := by
  rintro m ⟨x, y, g1, g2, ⟨g3, g4⟩, g5⟩ i o e
  rw [g2, g5 i, Option.or_none] at e
  by_cases hi : i = id
  · subst hi; rw [g3] at e; cases e; rfl
  · rw [g4 i hi] at e; cases e
theorem RoL.sl {v : AV} {e es k : Nat} {d : Dat} {cs : List Chunk} (y : SlIs v e es k d false cs) : RoL cs := by
  rcases y with ⟨rfl, rfl, hl, rfl⟩ | ⟨rfl, rfl, hl, rfl, hw⟩ | ⟨id, off, cap, D, e', es', sf, rfl, rfl, h3, h4, h5⟩ | ⟨id, idx, D, rfl, rfl, h3, h4, h5⟩
  · exact .nil
  · exact .nil
  · exact .row
  · cases h4
theorem RoL.by {v : AV} {k n : Nat} : RoL [ByC v k n false] := .pk fun _ x => .sl x.1
theorem RoL.slc {v : AV} {e es k : Nat} {d : Dat} : RoL [SlC v e es k d false] := .pk fun _ x => .sl x
theorem RoL.append {A B : List Chunk} (h1 : RoL A) (h2 : RoL B) : RoL (A ++ B) := by
  intro m hm i o e
  obtain ⟨x, y, g1, g2, g3, g4⟩ := semL_append.1 hm
  rw [g2] at e
  cases hx : x i with
  | none => rw [hx] at e; exact h2 y g4 i o (by simpa using e)
  | some o' => rw [hx] at e; cases e; exact h1 x g3 i _ hx
/-- a list that is an argument: its elements' cells, and what is behind them -/
def ArIs (v : AV) (es : Nat) (cells : α → List AV) (G : α → List Chunk) (l : List α) (cs : List Chunk) : Prop :=
  cs = SlC v 0 es l.length (.vals (l.flatMap cells)) false :: l.flatMap G ∧ ∀ a, a ∈ l → (cells a).length = es ∧ RoL (G a)
abbrev ArC (v : AV) (es : Nat) (cells : α → List AV) (G : α → List Chunk) (l : List α) : Chunk := pk 15 v (ArIs v es cells G l)
variable {v : AV} {es : Nat} {cells : α → List AV}
theorem St.ar (st : St h L) (t : Take L (ArC v es cells G l) R) : sliceLen v = some l.length ∧ v.notJunk = some v := by
  obtain ⟨cs, ⟨rfl, _⟩, st'⟩ := (st.take t).unpack
  have := St.slc st' Take.here
  exact ⟨this.1, this.2.1⟩
theorem flat_at {es : Nat} : ∀ {l : List α} {i : Nat} {a : α}, (∀ a, a ∈ l → (cells a).length = es) → l[i]? = some a → ((l.flatMap cells).drop (i * es)).take es = cells a ∧ i * es + es ≤ (l.flatMap cells).length
  | [], i, a, _, h => by simp at h
  | b :: l, 0, a, hl, h => by
    simp at h; subst h
    have := hl b List.mem_cons_self
    simp only [List.flatMap_cons, Nat.zero_mul, List.drop_zero, List.length_append]
    exact ⟨by rw [List.take_append_of_le_length (by omega), List.take_of_length_le (by omega)], by omega⟩
  | b :: l, i + 1, a, hl, h => by
    have hb := hl b List.mem_cons_self
    simp only [List.getElem?_cons_succ] at h
    obtain ⟨h1, h2⟩ := flat_at (fun a ha => hl a (List.mem_cons_of_mem _ ha)) h
    simp only [List.flatMap_cons, List.length_append]
    refine ⟨?_, by rw [Nat.add_mul]; omega⟩
    rw [show (i + 1) * es = (cells b).length + i * es by rw [Nat.add_mul]; omega, ← List.drop_drop, List.drop_left' rfl]
    exact h1
theorem d_indexar {kk : IntKind} {i : Int} (st : St h L) (t : Take L (ArC v es cells G l) R) (h0 : 0 ≤ i) (h1 : i < l.length) : Does (.indexs es) [v, .int kk i] h (elemPtr es v i.toNat) h := by
  obtain ⟨cs, ⟨rfl, _⟩, st'⟩ := (st.take t).unpack
  exact d_indexs st' Take.here h0 h1
/-- the element's address, by a number -/
theorem d_arIdx {kk : IntKind} {i : Nat} (st : St h L) (t : Take L (ArC v es cells G l) R) (h1 : i < l.length) : Does (.indexs es) [v, .int kk i] h (elemPtr es v i) h ∧ (elemPtr es v i).notJunk = some (elemPtr es v i) :=
  ⟨d_indexar (i := (i : Int)) st t (by omega) (by omega), elemPtr_nj (st.ar t).1 h1⟩
theorem d_loadar (st : St h L) (t : Take L (ArC v es cells G l) R) (hi : l[i]? = some a) : Does (.loadn es) [elemPtr es v i] h (.agg (cells a)) h := by
  obtain ⟨cs, ⟨rfl, hr⟩, st'⟩ := (st.take t).unpack
  obtain ⟨h1, h2⟩ := flat_at (fun b hb => (hr b hb).1) hi
  refine d_loadEn st' Take.here rfl (List.getElem?_eq_some_iff.1 hi).1 ?_
  simp only [Dat.sub]
  rw [if_pos h2, h1]
/-- an argument that is a list -/
theorem St.argL {s : Sh} (st : St h L) (ha : AD h (.slice s) [v]) (each : ∀ x, AD h s x → ∃ a : α, x = cells a ∧ RoL (G a) ∧ ∀ L, St h L → St h (G a ++ L)) :
    ∃ l : List α, l.length ≤ maxLen ∧ St h (ArC v s.size cells G l :: L) := by
  simp only [AD, List.cons.injEq, and_true] at ha
  rcases ha with rfl | rfl | ⟨id, len, cap, e, elems, rfl, h0, h1, h2, hg, hl, hx⟩
  · exact ⟨[], Nat.zero_le _, St.pack (cs := [_]) (St.pack (t := 10) (k := .nilsl) (P := SlIs .nilsl 0 s.size 0 (.vals []) false) (cs := []) st (.inl ⟨rfl, rfl, rfl, rfl⟩)) ⟨rfl, by simp⟩⟩
  · exact ⟨[], Nat.zero_le _, St.pack (cs := [_]) (St.pack (t := 10) (k := .esl) (P := SlIs .esl 0 s.size 0 (.vals []) false) (cs := []) st (.inr (.inl ⟨rfl, rfl, rfl, rfl, rfl⟩))) ⟨rfl, by simp⟩⟩
  · have key : ∀ elems : List (List AV), (∀ x, x ∈ elems → AD h s x) → ∃ l : List α, elems = l.map cells ∧ (∀ a, a ∈ l → (cells a).length = s.size ∧ RoL (G a)) ∧ ∀ L, St h L → St h (l.flatMap G ++ L) := by
      intro elems
      induction elems with
      | nil => exact fun _ => ⟨[], rfl, by simp, fun L st => st⟩
      | cons x xs ih =>
        intro hx
        obtain ⟨a, e1, hr, k⟩ := each x (hx x List.mem_cons_self)
        obtain ⟨l, e2, h3, k2⟩ := ih fun y hy => hx y (List.mem_cons_of_mem _ hy)
        refine ⟨a :: l, by rw [e1, e2]; rfl, fun b hb => ?_, fun L st => ?_⟩
        · rcases List.mem_cons.1 hb with rfl | hb
          · exact ⟨by rw [← e1]; exact AD.length s x (hx x List.mem_cons_self), hr⟩
          · exact h3 b hb
        · rw [List.flatMap_cons, List.append_assoc]; exact k _ (k2 L st)
    obtain ⟨l, rfl, hr, k⟩ := key elems hx
    rw [List.length_map] at hl
    subst hl
    refine ⟨l, by omega, St.pack (cs := SlC (.sl id 0 l.length cap) 0 s.size l.length (.vals (l.flatMap cells)) false :: l.flatMap G) ?_ ⟨rfl, hr⟩⟩
    rw [List.cons_append]
    have hlen : (l.flatMap cells).length = l.length * s.size := by
      clear h0 h1 h2 hg k hx key
      induction l with
      | nil => simp
      | cons a l ih =>
        rw [List.flatMap_cons, List.length_append, (hr a List.mem_cons_self).1, ih fun b hb => hr b (List.mem_cons_of_mem _ hb), List.length_cons, Nat.add_mul]; omega
    refine St.pack (cs := [.pt id (.row e s.size false true (.vals (l.flatMap cells)))]) ((k L st).addRo (by rw [List.flatMap_def]; exact hg) rfl) (.inr (.inr (.inl ⟨id, 0, cap, _, e, s.size, false, rfl, rfl, ?_, h1, fun e => (by cases e)⟩)))
    simp only [Dat.take, Nat.zero_add]
    rw [if_pos (by omega), List.drop_zero, List.take_of_length_le (by omega)]
end
end Go.Proofs.Ytjdemlagmamlbaa

namespace Go.Proofs.Ytjdemlagmamlbaa
variable {D : Nat} {s : DevS}
/-- an act -/
structure ActV where
  kind : Int
  n : Int
  v : AV
  k : Nat
  c : Nat
  raw : Bool
def ActV.cells (a : ActV) : List AV := [.int .i64 a.kind, .int .i64 a.n, a.v, .bool a.raw]
def ActV.G (a : ActV) : List Chunk := [ByC a.v a.k a.c false]
/-- what the law has of a place -/
structure HasV where
  v : AV
  w : Bool
  n : Nat
abbrev HasV.G (r : HasV) : List Chunk := [ByC r.v 4096 r.n r.w]
def HasOk (s : DevS) (hs : List HasV) : Prop := hs.length = 4 ∧ s.n = 4 ∧ ∀ i r, hs[i]? = some r → r.n = s.at (i : Nat)
theorem HasOk.same {s' : DevS} {hs : List HasV} (h : HasOk s hs) (h1 : s'.n = s.n) (h2 : s'.pg = s.pg) : HasOk s' hs :=
  ⟨h.1, by rw [h1]; exact h.2.1, fun i r hr => by unfold DevS.at; rw [h2]; exact h.2.2 i r hr⟩
theorem HasOk.put {s' : DevS} {hs : List HasV} {p : Int} {n : Nat} {r : HasV} (h : HasOk s hs) (h0 : 0 ≤ p) (h1 : s'.n = s.n) (h2 : s'.pg = aput s.pg p n) (hr : r.n = n) : HasOk s' (hs.set p.toNat r) :=
  ⟨by rw [List.length_set]; exact h.1, by rw [h1]; exact h.2.1, fun i q hq => by
    unfold DevS.at; rw [h2, alook_aput]
    rw [List.getElem?_set] at hq
    by_cases e : p.toNat = i
    · rw [if_pos e] at hq
      rw [if_pos (by omega)]
      split at hq
      · cases hq; exact hr
      · cases hq
    · rw [if_neg e] at hq
      rw [if_neg (by omega)]
      exact h.2.2 i q hq⟩
structure KeepS where
  i : Nat
  s : DevS
  hs : List HasV
end Go.Proofs.Ytjdemlagmamlbaa
