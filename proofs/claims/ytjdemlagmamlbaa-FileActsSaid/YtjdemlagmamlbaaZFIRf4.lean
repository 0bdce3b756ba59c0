/- BY PROGRAM (wip/tool/shake.py): own texts, one behind the other, without what is not needed. -/
import Derived.Control
import Derived.Calls
import Derived.KernelRfl
import Derived.Laws.Sem
import Derived.Laws.Cells
import Derived.Laws.World
import GoSem.Dispatch
import Derived.Laws.StructEq
import Derived.IntWalk
import Derived.WideKeyRuns
import Derived.Laws.BytesArg
import Derived.Orders
import Derived.ChangeArms
import Derived.OpenShut
import Derived.ChangeShapes
import Derived.ProofKit
import Derived.Test.YtjdemlagmamlbaaProg
import Derived.Test.YtjdemlagmamlbaaZFIRf3

namespace Go.Proofs.Ytjdemlagmamlbaa
abbrev ty_swap_Device : Nat := 62
abbrev ty_ref10_Store : Nat := 89
abbrev ty_file_Store : Nat := 99
/-- gosem.cut.init -/
abbrev n_gosem_cut_init : Nat := 2
def c_gosem_cut_init : AFn := ⟨1, [],
 .region [I 0 (.callv) [F 1]]⟩
theorem t2 : trFn Try.prog Try.f2 = some c_gosem_cut_init := by kernel_rfl
/-- pantry/pantrylaw09.SwapKeeps -/
abbrev n_law09_SwapKeeps : Nat := 3
/-- live: [0, 3, 4, 26] -/
def c_law09_SwapKeeps_L0 : ACode :=
 .seq (.region [I 27 (.bin .lss) [T 26, N 4]])
 (.seq (.cond (T 27)
 (.skip)
 (.exit 0))
 (.seq (.block 1 (.seq (.region [I 28 (.mv) [T 26],
   I 5 (.mv) [T 28]])
 (.region [I 29 (.mv) [T 5],
   I 30 (.callv) [F 27, .lit .nilsl],
   I 31 (.indexa 4 1) [T 4, T 29],
   J (.store 1) [T 31, T 30]])))
 (.region [I 32 (.bin .add) [T 26, N 1],
   I 26 (.mv) [T 32]])))
/-- live: [3, 4, 33, 34, 35] -/
def c_law09_SwapKeeps_L1 : ACode :=
 .seq (.region [I 36 (.bin .lss) [T 35, T 34]])
 (.seq (.cond (T 36)
 (.skip)
 (.exit 2))
 (.seq (.block 3 (.seq (.region [I 37 (.indexs 4) [T 33, T 35],
   I 38 (.loadn 4) [T 37],
   I 7 (.alloc 31 4 (.vals [(.int .i64 0), (.int .i64 0), .nilsl, (.bool false)])) [],
   J (.store 4) [T 7, T 38]])
 (.seq (.region [I 39 (.fieldAddr 0) [T 7],
   I 40 (.load1) [T 39]])
 (.block 4 (.seq (.region [I 42 (.bin .eql) [T 40, N 0],
   I 41 (.mv) [T 42]])
 (.cond (T 41)
 (.seq (.draw [[⟨0, I 43 (.mv) [T 3], [], false⟩,
    ⟨1, I 44 (.fieldAddr 1) [T 7], [], false⟩,
    ⟨2, I 45 (.load1) [T 44], [], false⟩,
    ⟨3, I 46 (.loadn 4) [T 7], [], false⟩,
    ⟨4, I 47 (.callv) [F 29, T 46], [(2, I 45 (.load1) [T 44])], false⟩,
    ⟨5, I 48 (.callv) [F 28, T 43, T 45, T 47], [], false⟩,
    ⟨6, I 49 (.bin .eql) [T 48, N 0], [], false⟩]])
  (.cond (T 49)
  (.seq (.seq (.region [I 50 (.fieldAddr 1) [T 7],
     I 51 (.load1) [T 50],
     I 52 (.bin .lss) [T 51, N 0],
     I 53 (.mv) [T 52],
     IG 54 (.fieldAddr 1) [T 7] 53 false,
     IG 55 (.load1) [T 54] 53 false,
     IG 56 (.bin .geq) [T 55, N 4] 53 false,
     I 57 (.pick) [T 53, .lit (.bool true), T 56]])
   (.cond (T 57)
   (.seq (.region [I 2 (.mv) [.lit (.bool false)]])
    (.ret))
   (.skip)))
   (.draw [[⟨0, I 58 (.fieldAddr 1) [T 7], [], false⟩,
     ⟨1, I 59 (.load1) [T 58], [], false⟩,
     ⟨2, I 60 (.loadn 4) [T 7], [], false⟩,
     ⟨3, I 61 (.callv) [F 29, T 60], [(1, I 59 (.load1) [T 58])], false⟩,
     ⟨4, I 62 (.indexa 4 1) [T 4, T 59], [], false⟩,
     ⟨5, J (.store 1) [T 62, T 61], [], false⟩]]))
  (.skip)))
 (.seq (.region [I 64 (.bin .eql) [T 40, N 2],
    I 63 (.mv) [T 64]])
  (.cond (T 63)
  (.region [I 65 (.mv) [T 3],
     I 66 (.fieldAddr 3) [T 7],
     I 67 (.load1) [T 66],
     I 68 (.fieldAddr 1) [T 7],
     I 69 (.load1) [T 68],
     I 70 (.callv) [F 30, T 65, T 67, T 69]])
  (.skip)))))))))
 (.region [I 71 (.bin .add) [T 35, N 1],
   I 35 (.mv) [T 71]])))
/-- live: [3, 4, 74] -/
def c_law09_SwapKeeps_L2 : ACode :=
 .seq (.region [I 75 (.bin .lss) [T 74, N 4]])
 (.seq (.cond (T 75)
 (.skip)
 (.exit 5))
 (.seq (.block 6 (.seq (.region [I 76 (.mv) [T 74],
   I 8 (.mv) [T 76]])
 (.seq (.region [I 78 (.mv) [T 3],
   I 79 (.mv) [T 8],
   I 80 (.callv) [F 31, T 78, T 79],
   I 77 (.mv) [T 80],
   I 81 (.extract 0) [T 77],
   I 82 (.extract 1) [T 77],
   I 9 (.mv) [T 81],
   I 10 (.mv) [T 82]])
 (.seq (.seq (.region [I 83 (.mv) [T 10],
   I 84 (.bin .neq) [T 83, N 0],
   I 85 (.mv) [T 84],
   IG 86 (.mv) [T 9] 85 false,
   IG 87 (.mv) [T 8] 85 false,
   IG 88 (.indexa 4 1) [T 4, T 87] 85 false,
   IG 89 (.load1) [T 88] 85 false,
   IG 90 (.callv) [F 32, T 86, T 89] 85 false,
   IG 91 (.un .not) [T 90] 85 false,
   I 92 (.pick) [T 85, .lit (.bool true), T 91]])
 (.cond (T 92)
 (.seq (.region [I 2 (.mv) [.lit (.bool false)]])
  (.ret))
 (.skip)))
 (.seq (.seq (.region [I 93 (.mv) [T 9],
   I 94 (.lens) [T 93],
   I 95 (.bin .eql) [T 94, N 0]])
 (.cond (T 95)
 (.seq (.region [I 2 (.mv) [.lit (.bool false)]])
  (.ret))
 (.skip)))
 (.seq (.region [I 96 (.mv) [T 9],
   I 97 (.indexs 1) [T 96, N 0],
   I 98 (.load1) [T 97],
   I 99 (.bin .add) [T 98, .lit (.int .u8 1)],
   I 100 (.indexs 1) [T 96, N 0],
   J (.store 1) [T 100, T 99]])
 (.seq (.region [I 102 (.mv) [T 3],
   I 103 (.mv) [T 8],
   I 104 (.callv) [F 31, T 102, T 103],
   I 101 (.mv) [T 104],
   I 105 (.extract 0) [T 101],
   I 106 (.extract 1) [T 101],
   I 11 (.mv) [T 105],
   I 12 (.mv) [T 106]])
 (.seq (.region [I 107 (.mv) [T 11],
   I 108 (.mv) [T 8],
   I 109 (.indexa 4 1) [T 4, T 108],
   I 110 (.load1) [T 109],
   I 111 (.callv) [F 32, T 107, T 110],
   I 112 (.un .not) [T 111]])
 (.cond (T 112)
 (.seq (.region [I 2 (.mv) [.lit (.bool false)]])
  (.ret))
 (.skip))))))))))
 (.region [I 113 (.bin .add) [T 74, N 1],
   I 74 (.mv) [T 113]])))
def c_law09_SwapKeeps : AFn := ⟨115, [.tmp 2],
 .seq (.region [I 2 (.mv) [.lit (.bool false)]])
 (.seq (.region [I 13 (.callv) [F 24, N 4],
   I 3 (.mv) [T 13]])
 (.seq (.seq (.region [I 14 (.mv) [T 3],
   I 15 (.eqv false .ptr) [T 14, .lit .nilptr],
   I 16 (.mv) [T 15],
   IG 17 (.mv) [T 0] 16 false,
   IG 18 (.callv) [F 25, T 17] 16 false,
   IG 19 (.un .not) [T 18] 16 false,
   I 20 (.pick) [T 16, .lit (.bool true), T 19]])
 (.cond (T 20)
 (.seq (.region [I 21 (.mv) [T 3],
    I 22 (.eqv true .ptr) [T 21, .lit .nilptr],
    I 23 (.mv) [T 22],
    IG 24 (.callv) [F 26] 23 true,
    I 25 (.pick) [T 23, T 24, .lit (.bool false)],
    I 2 (.mv) [T 25]])
  (.ret))
 (.skip)))
 (.seq (.region [I 4 (.alloc 28 4 (.vals [.nilsl, .nilsl, .nilsl, .nilsl])) []])
 (.seq (.seq (.region [I 26 (.mv) [N 0]])
 (.block 0 (.loop c_law09_SwapKeeps_L0)))
 (.seq (.seq (.region [I 33 (.mv) [T 0],
   I 34 (.lens) [T 33],
   I 35 (.mv) [N 0]])
 (.block 2 (.loop c_law09_SwapKeeps_L1)))
 (.seq (.region [I 72 (.mv) [T 3],
   I 73 (.callv) [F 30, T 72, .lit (.bool false), N 0]])
 (.seq (.seq (.region [I 74 (.mv) [N 0]])
 (.block 5 (.loop c_law09_SwapKeeps_L2)))
 (.seq (.region [I 114 (.callv) [F 26],
   I 2 (.mv) [T 114]])
 (.ret)))))))))⟩
theorem t3 : trFn Try.prog Try.f3 = some c_law09_SwapKeeps := by kernel_rfl
/-- pantry/pantrylaw09.SwapPlans -/
abbrev n_law09_SwapPlans : Nat := 4
/-- live: [7, 8, 9, 10, 11] -/
def c_law09_SwapPlans_L0 : ACode :=
 .seq (.seq (.region [I 37 (.mv) [T 11],
   I 38 (.mv) [T 10],
   I 39 (.bin .leq) [T 37, T 38]])
 (.cond (T 39)
 (.skip)
 (.exit 0)))
 (.seq (.block 1 (.seq (.region [I 42 (.mv) [T 7],
   I 43 (.callv) [F 27, .lit .nilsl],
   I 44 (.callv) [F 28, T 42, N 0, T 43],
   I 12 (.mv) [T 44]])
 (.seq (.region [I 46 (.mv) [T 7],
   I 47 (.callv) [F 31, T 46, N 0],
   I 45 (.mv) [T 47],
   I 48 (.extract 0) [T 45],
   I 49 (.extract 1) [T 45],
   I 13 (.mv) [T 48],
   I 14 (.mv) [T 49]])
 (.seq (.region (I 50 (.mv) [T 12] ::
   I 51 (.bin .eql) [T 50, N 6] ::
   I 52 (.mv) [T 11] ::
   I 53 (.mv) [T 8] ::
   I 54 (.bin .eql) [T 52, T 53] ::
   I 55 (.eqv true (.scal .bool)) [T 51, T 54] ::
   I 56 (.mv) [T 55] ::
   IG 57 (.mv) [T 14] 56 false ::
   IG 58 (.bin .eql) [T 57, N 6] 56 false ::
   IG 59 (.mv) [T 11] 56 false ::
   IG 60 (.mv) [T 9] 56 false ::
   IG 61 (.bin .eql) [T 59, T 60] 56 false ::
   IG 62 (.eqv true (.scal .bool)) [T 58, T 61] 56 false ::
   I 63 (.pick) [T 56, .lit (.bool true), T 62] ::
   I 64 (.mv) [T 63] ::
   IG 65 (.mv) [T 12] 64 false ::
   IG 66 (.bin .neq) [T 65, N 0] 64 false ::
   IG 67 (.mv) [T 66] 64 false ::
   IG 68 (.mv) [T 12] 67 true ::
   IG 69 (.bin .neq) [T 68, N 6] 67 true ::
   IG 70 (.pick) [T 67, T 69, .lit (.bool false)] 64 false ::
   I 71 (.pick) [T 64, .lit (.bool true), T 70] ::
   I 72 (.mv) [T 71] ::
   IG 73 (.mv) [T 14] 72 false ::
   IG 74 (.bin .neq) [T 73, N 0] 72 false ::
   IG 75 (.mv) [T 74] 72 false ::
   IG 76 (.mv) [T 14] 75 true ::
   IG 77 (.bin .neq) [T 76, N 6] 75 true ::
   IG 78 (.pick) [T 75, T 77, .lit (.bool false)] 72 false ::
   I 79 (.pick) [T 72, .lit (.bool true), T 78] ::
   []))
 (.cond (T 79)
 (.seq (.region [I 6 (.mv) [.lit (.bool false)]])
  (.ret))
 (.skip))))))
 (.region [I 40 (.mv) [T 11],
   I 41 (.bin .add) [T 40, N 1],
   I 11 (.mv) [T 41]]))
def c_law09_SwapPlans : AFn := ⟨102, [.tmp 6],
 .seq (.region [I 6 (.mv) [.lit (.bool false)]])
 (.seq (.region [I 17 (.callv) [F 24, N 1],
   I 7 (.mv) [T 17]])
 (.seq (.region [I 18 (.mv) [T 0],
   I 19 (.bin .rem) [T 18, .lit (.int .u64 20)],
   I 20 (.conv .i64) [T 19],
   I 21 (.mv) [T 1],
   I 22 (.bin .rem) [T 21, .lit (.int .u64 20)],
   I 23 (.conv .i64) [T 22],
   I 24 (.mv) [T 2],
   I 25 (.bin .rem) [T 24, .lit (.int .u64 30)],
   I 26 (.conv .i64) [T 25],
   I 8 (.mv) [T 20],
   I 9 (.mv) [T 23],
   I 10 (.mv) [T 26]])
 (.seq (.seq (.region [I 27 (.mv) [T 7],
   I 28 (.mv) [T 8],
   I 29 (.callv) [F 30, T 27, .lit (.bool true), T 28],
   I 30 (.bin .neq) [T 29, N 0],
   I 31 (.mv) [T 30],
   IG 32 (.mv) [T 7] 31 false,
   IG 33 (.mv) [T 9] 31 false,
   IG 34 (.callv) [F 30, T 32, .lit (.bool false), T 33] 31 false,
   IG 35 (.bin .neq) [T 34, N 0] 31 false,
   I 36 (.pick) [T 31, .lit (.bool true), T 35]])
 (.cond (T 36)
 (.seq (.region [I 6 (.mv) [.lit (.bool false)]])
  (.ret))
 (.skip)))
 (.seq (.seq (.region [I 11 (.mv) [N 1]])
 (.block 0 (.loop c_law09_SwapPlans_L0)))
 (.seq (.region [I 81 (.mv) [T 7],
   I 82 (.callv) [F 33, T 81],
   I 80 (.mv) [T 82],
   I 83 (.extract 0) [T 80],
   I 84 (.extract 1) [T 80],
   I 15 (.mv) [T 83],
   I 16 (.mv) [T 84]])
 (.seq (.region [I 85 (.mv) [T 15],
   I 86 (.mv) [T 10],
   I 87 (.bin .eql) [T 85, T 86],
   I 88 (.mv) [T 87],
   IG 89 (.mv) [T 16] 88 true,
   IG 90 (.mv) [T 10] 88 true,
   IG 91 (.bin .eql) [T 89, T 90] 88 true,
   I 92 (.pick) [T 88, T 91, .lit (.bool false)],
   I 93 (.mv) [T 92],
   IG 94 (.mv) [T 7] 93 true,
   IG 95 (.callv) [F 27, .lit .nilsl] 93 true,
   IG 96 (.callv) [F 28, T 94, N 1, T 95] 93 true,
   IG 97 (.bin .eql) [T 96, N 2] 93 true,
   I 98 (.pick) [T 93, T 97, .lit (.bool false)],
   I 99 (.mv) [T 98],
   IG 100 (.callv) [F 26] 99 true,
   I 101 (.pick) [T 99, T 100, .lit (.bool false)],
   I 6 (.mv) [T 101]])
 (.ret)))))))⟩
theorem t4 : trFn Try.prog Try.f4 = some c_law09_SwapPlans := by kernel_rfl
/-- pantry/pantrylaw10.FileActs -/
abbrev n_law10_FileActs : Nat := 12
/-- live: [3, 4, 29, 30, 31] -/
def c_law10_FileActs_L0 : ACode :=
 .seq (.region [I 32 (.bin .lss) [T 31, T 30]])
 (.seq (.cond (T 32)
 (.skip)
 (.exit 0))
 (.seq (.block 1 (.seq (.region [I 33 (.indexs 5) [T 29, T 31],
   I 34 (.loadn 5) [T 33],
   I 6 (.alloc 91 5 (.vals [(.int .i64 0), (.int .i64 0), (.int .i64 0), .nilsl, (.bool false)])) [],
   J (.store 5) [T 6, T 34]])
 (.seq (.region [I 7 (.mv) [.lit (.bool true)]])
 (.seq (.seq (.region [I 35 (.fieldAddr 0) [T 6],
   I 36 (.load1) [T 35]])
 (.block 2 (.seq (.region [I 38 (.bin .eql) [T 36, N 0],
   I 37 (.mv) [T 38]])
 (.cond (T 37)
 (.seq (.region [I 40 (.mv) [T 3],
    I 41 (.fieldAddr 2) [T 6],
    I 42 (.load1) [T 41],
    I 43 (.callv) [F 43, T 40, T 42],
    I 39 (.mv) [T 43],
    I 44 (.extract 0) [T 39],
    I 45 (.extract 1) [T 39],
    I 8 (.mv) [T 44],
    I 9 (.mv) [T 45]])
  (.seq (.region [I 47 (.mv) [T 4],
    I 48 (.fieldAddr 2) [T 6],
    I 49 (.load1) [T 48],
    I 50 (.callv) [F 53, T 47, T 49],
    I 46 (.mv) [T 50],
    I 51 (.extract 0) [T 46],
    I 52 (.extract 1) [T 46],
    I 10 (.mv) [T 51],
    I 11 (.mv) [T 52]])
  (.region [I 53 (.mv) [T 8],
    I 54 (.mv) [T 10],
    I 55 (.bin .eql) [T 53, T 54],
    I 56 (.mv) [T 55],
    IG 57 (.mv) [T 9] 56 true,
    IG 58 (.mv) [T 11] 56 true,
    IG 59 (.bin .eql) [T 57, T 58] 56 true,
    I 60 (.pick) [T 56, T 59, .lit (.bool false)],
    I 7 (.mv) [T 60]])))
 (.seq (.region [I 62 (.bin .eql) [T 36, N 1],
    I 61 (.mv) [T 62]])
  (.cond (T 61)
  (.draw [[⟨0, I 63 (.mv) [T 3], [], false⟩,
     ⟨1, I 64 (.fieldAddr 1) [T 6], [], false⟩,
     ⟨2, I 65 (.load1) [T 64], [], false⟩,
     ⟨3, I 66 (.fieldAddr 2) [T 6], [], false⟩,
     ⟨4, I 67 (.load1) [T 66], [], false⟩,
     ⟨6, I 69 (.mv) [T 4], [], false⟩,
     ⟨7, I 70 (.fieldAddr 1) [T 6], [], false⟩,
     ⟨8, I 71 (.load1) [T 70], [], false⟩,
     ⟨9, I 72 (.fieldAddr 2) [T 6], [], false⟩,
     ⟨10, I 73 (.load1) [T 72], [], false⟩,
     ⟨5, I 68 (.callv) [F 46, T 63, T 65, T 67], [(8, I 71 (.load1) [T 70]), (10, I 73 (.load1) [T 72])], false⟩,
     ⟨11, I 74 (.callv) [F 54, T 69, T 71, T 73], [], false⟩,
     ⟨12, I 75 (.bin .eql) [T 68, T 74], [], false⟩,
     ⟨13, I 7 (.mv) [T 75], [], false⟩]])
  (.seq (.region [I 77 (.bin .eql) [T 36, N 2],
     I 76 (.mv) [T 77]])
   (.cond (T 76)
   (.seq (.region [I 79 (.mv) [T 3],
      I 80 (.fieldAddr 1) [T 6],
      I 81 (.load1) [T 80],
      I 82 (.fieldAddr 2) [T 6],
      I 83 (.load1) [T 82],
      I 84 (.callv) [F 47, T 79, T 81, T 83],
      I 78 (.mv) [T 84],
      I 85 (.extract 0) [T 78],
      I 86 (.extract 1) [T 78],
      I 12 (.mv) [T 85],
      I 13 (.mv) [T 86]])
    (.seq (.region [I 88 (.mv) [T 4],
      I 89 (.fieldAddr 1) [T 6],
      I 90 (.load1) [T 89],
      I 91 (.fieldAddr 2) [T 6],
      I 92 (.load1) [T 91],
      I 93 (.callv) [F 55, T 88, T 90, T 92],
      I 87 (.mv) [T 93],
      I 94 (.extract 0) [T 87],
      I 95 (.extract 1) [T 87],
      I 14 (.mv) [T 94],
      I 15 (.mv) [T 95]])
    (.region [I 96 (.mv) [T 12],
      I 97 (.mv) [T 14],
      I 98 (.callv) [F 32, T 96, T 97],
      I 99 (.mv) [T 98],
      IG 100 (.mv) [T 13] 99 true,
      IG 101 (.mv) [T 15] 99 true,
      IG 102 (.bin .eql) [T 100, T 101] 99 true,
      I 103 (.pick) [T 99, T 102, .lit (.bool false)],
      I 7 (.mv) [T 103]])))
   (.seq (.region [I 105 (.bin .eql) [T 36, N 3],
      I 104 (.mv) [T 105]])
    (.cond (T 104)
    (.draw [[⟨0, I 106 (.mv) [T 3], [], false⟩,
       ⟨1, I 107 (.fieldAddr 1) [T 6], [], false⟩,
       ⟨2, I 108 (.load1) [T 107], [], false⟩,
       ⟨3, I 109 (.fieldAddr 2) [T 6], [], false⟩,
       ⟨4, I 110 (.load1) [T 109], [], false⟩,
       ⟨5, I 111 (.loadn 5) [T 6], [], false⟩,
       ⟨8, I 114 (.mv) [T 4], [], false⟩,
       ⟨9, I 115 (.fieldAddr 1) [T 6], [], false⟩,
       ⟨10, I 116 (.load1) [T 115], [], false⟩,
       ⟨11, I 117 (.fieldAddr 2) [T 6], [], false⟩,
       ⟨12, I 118 (.load1) [T 117], [], false⟩,
       ⟨13, I 119 (.loadn 5) [T 6], [], false⟩,
       ⟨6, I 112 (.callv) [F 56, T 111], [(2, I 108 (.load1) [T 107]), (4, I 110 (.load1) [T 109]), (10, I 116 (.load1) [T 115]), (12, I 118 (.load1) [T 117]), (13, I 119 (.loadn 5) [T 6])], false⟩,
       ⟨7, I 113 (.callv) [F 44, T 106, T 108, T 110, T 112], [(10, I 116 (.load1) [T 115]), (12, I 118 (.load1) [T 117]), (13, I 119 (.loadn 5) [T 6])], false⟩,
       ⟨14, I 120 (.callv) [F 56, T 119], [(10, I 116 (.load1) [T 115]), (12, I 118 (.load1) [T 117])], false⟩,
       ⟨15, I 121 (.callv) [F 57, T 114, T 116, T 118, T 120], [], false⟩,
       ⟨16, I 122 (.bin .eql) [T 113, T 121], [], false⟩,
       ⟨17, I 7 (.mv) [T 122], [], false⟩]])
    (.seq (.region [I 124 (.bin .eql) [T 36, N 4],
       I 123 (.mv) [T 124]])
     (.cond (T 123)
     (.draw [[⟨0, I 125 (.mv) [T 3], [], false⟩,
        ⟨1, I 126 (.fieldAddr 2) [T 6], [], false⟩,
        ⟨2, I 127 (.load1) [T 126], [], false⟩,
        ⟨4, I 129 (.mv) [T 4], [], false⟩,
        ⟨5, I 130 (.fieldAddr 2) [T 6], [], false⟩,
        ⟨6, I 131 (.load1) [T 130], [], false⟩,
        ⟨3, I 128 (.callv) [F 48, T 125, T 127], [(6, I 131 (.load1) [T 130])], false⟩,
        ⟨7, I 132 (.callv) [F 58, T 129, T 131], [], false⟩,
        ⟨8, I 133 (.bin .eql) [T 128, T 132], [], false⟩,
        ⟨9, I 7 (.mv) [T 133], [], false⟩]])
     (.skip)))))))))))))
 (.seq (.region [I 135 (.mv) [T 3],
   I 136 (.fieldAddr 1) [T 6],
   I 137 (.load1) [T 136],
   I 138 (.callv) [F 49, T 135, T 137],
   I 134 (.mv) [T 138],
   I 139 (.extract 0) [T 134],
   I 140 (.extract 1) [T 134],
   I 16 (.mv) [T 139],
   I 17 (.mv) [T 140]])
 (.seq (.region [I 142 (.mv) [T 4],
   I 143 (.fieldAddr 1) [T 6],
   I 144 (.load1) [T 143],
   I 145 (.callv) [F 59, T 142, T 144],
   I 141 (.mv) [T 145],
   I 146 (.extract 0) [T 141],
   I 147 (.extract 1) [T 141],
   I 18 (.mv) [T 146],
   I 19 (.mv) [T 147]])
 (.seq (.draw [(⟨0, I 148 (.mv) [T 7], [], false⟩ ::
   ⟨1, I 149 (.un .not) [T 148], [], false⟩ ::
   ⟨2, I 150 (.mv) [T 149], [], false⟩ ::
   ⟨3, IG 151 (.mv) [T 3] 150 false, [], false⟩ ::
   ⟨4, IG 152 (.fieldAddr 1) [T 6] 150 false, [], false⟩ ::
   ⟨5, IG 153 (.load1) [T 152] 150 false, [], false⟩ ::
   ⟨6, IG 154 (.fieldAddr 2) [T 6] 150 false, [], false⟩ ::
   ⟨7, IG 155 (.load1) [T 154] 150 false, [], false⟩ ::
   ⟨9, IG 157 (.mv) [T 4] 150 false, [], false⟩ ::
   ⟨10, IG 158 (.fieldAddr 1) [T 6] 150 false, [], false⟩ ::
   ⟨11, IG 159 (.load1) [T 158] 150 false, [], false⟩ ::
   ⟨12, IG 160 (.fieldAddr 2) [T 6] 150 false, [], false⟩ ::
   ⟨13, IG 161 (.load1) [T 160] 150 false, [], false⟩ ::
   ⟨8, IG 156 (.callv) [F 51, T 151, T 153, T 155] 150 false, [(11, IG 159 (.load1) [T 158] 150 false), (13, IG 161 (.load1) [T 160] 150 false)], false⟩ ::
   ⟨14, IG 162 (.callv) [F 60, T 157, T 159, T 161] 150 false, [], false⟩ ::
   ⟨15, IG 163 (.callv) [F 32, T 156, T 162] 150 false, [], false⟩ ::
   ⟨16, IG 164 (.un .not) [T 163] 150 false, [], false⟩ ::
   ⟨17, I 165 (.pick) [T 150, .lit (.bool true), T 164], [], false⟩ ::
   ⟨18, I 166 (.mv) [T 165], [], false⟩ ::
   ⟨19, IG 167 (.mv) [T 16] 166 false, [], false⟩ ::
   ⟨20, IG 168 (.mv) [T 18] 166 false, [], false⟩ ::
   ⟨21, IG 169 (.bin .neq) [T 167, T 168] 166 false, [], false⟩ ::
   ⟨22, I 170 (.pick) [T 166, .lit (.bool true), T 169], [], false⟩ ::
   ⟨23, I 171 (.mv) [T 170], [], false⟩ ::
   ⟨24, IG 172 (.mv) [T 17] 171 false, [], false⟩ ::
   ⟨25, IG 173 (.mv) [T 19] 171 false, [], false⟩ ::
   ⟨26, IG 174 (.eqv true (.scal .bool)) [T 172, T 173] 171 false, [], false⟩ ::
   ⟨27, I 175 (.pick) [T 171, .lit (.bool true), T 174], [], false⟩ ::
   ⟨28, I 176 (.mv) [T 175], [], false⟩ ::
   ⟨29, IG 177 (.mv) [T 3] 176 false, [], false⟩ ::
   ⟨32, IG 180 (.mv) [T 4] 176 false, [], false⟩ ::
   ⟨33, IG 181 (.nilCheck) [T 180] 176 false, [], false⟩ ::
   ⟨34, IG 182 (.fieldAddr 0) [T 181] 176 false, [], false⟩ ::
   ⟨35, IG 183 (.load1) [T 182] 176 false, [], false⟩ ::
   ⟨36, IG 184 (.lens) [T 183] 176 false, [], false⟩ ::
   ⟨30, IG 178 (.callv) [F 50, T 177] 176 false, [(35, IG 183 (.load1) [T 182] 176 false)], false⟩ ::
   ⟨31, IG 179 (.lens) [T 178] 176 false, [], false⟩ ::
   ⟨37, IG 185 (.bin .neq) [T 179, T 184] 176 false, [], false⟩ ::
   ⟨38, I 186 (.pick) [T 176, .lit (.bool true), T 185], [], false⟩ ::
   [])])
 (.cond (T 186)
 (.seq (.region [I 2 (.mv) [.lit (.bool false)]])
  (.ret))
 (.skip)))))))))
 (.region [I 187 (.bin .add) [T 31, N 1],
   I 31 (.mv) [T 187]])))
/-- live: [189, 190, 191] -/
def c_law10_FileActs_L1 : ACode :=
 .seq (.region [I 192 (.bin .lss) [T 191, T 190]])
 (.seq (.cond (T 192)
 (.skip)
 (.exit 3))
 (.seq (.block 4 (.seq (.region [I 193 (.mv) [T 191],
   I 194 (.indexs 1) [T 189, T 191],
   I 195 (.load1) [T 194],
   I 20 (.mv) [T 193],
   I 21 (.mv) [T 195]])
 (.seq (.region [I 196 (.mv) [T 21],
   I 197 (.mv) [T 20],
   I 198 (.bin .add) [T 197, N 1],
   I 199 (.bin .neq) [T 196, T 198]])
 (.cond (T 199)
 (.seq (.region [I 2 (.mv) [.lit (.bool false)]])
  (.ret))
 (.skip)))))
 (.region [I 200 (.bin .add) [T 191, N 1],
   I 191 (.mv) [T 200]])))
def c_law10_FileActs : AFn := ⟨202, [.tmp 2],
 .seq (.region [I 2 (.mv) [.lit (.bool false)]])
 (.seq (.seq (.region [I 22 (.mv) [T 0],
   I 23 (.callv) [F 52, T 22],
   I 24 (.un .not) [T 23]])
 (.cond (T 24)
 (.seq (.region [I 25 (.callv) [F 41],
    I 2 (.mv) [T 25]])
  (.ret))
 (.skip)))
 (.seq (.region [I 26 (.callv) [F 42],
   I 27 (.build (.agg [.nilsl, .nilsl, (.int .i64 0)]) []) [],
   I 28 (.box 89 3) [T 27],
   I 3 (.mv) [T 26],
   I 4 (.mv) [T 28]])
 (.seq (.seq (.region [I 29 (.mv) [T 0],
   I 30 (.lens) [T 29],
   I 31 (.mv) [N 0]])
 (.block 0 (.loop c_law10_FileActs_L0)))
 (.seq (.seq (.region [I 188 (.mv) [T 3],
   I 189 (.callv) [F 50, T 188],
   I 190 (.lens) [T 189],
   I 191 (.mv) [N 0]])
 (.block 3 (.loop c_law10_FileActs_L1)))
 (.seq (.region [I 201 (.callv) [F 41],
   I 2 (.mv) [T 201]])
 (.ret))))))⟩
theorem t12 : trFn Try.prog Try.f12 = some c_law10_FileActs := by kernel_rfl
/-- pantry/swap.New -/
abbrev n_swap_New : Nat := 24
def c_swap_New : AFn := ⟨13, [.tmp 2],
 .seq (.region [I 2 (.mv) [.lit .nilptr]])
 (.seq (.seq (.region [I 3 (.mv) [T 0],
   I 4 (.bin .lss) [T 3, N 0],
   I 5 (.mv) [T 4],
   IG 6 (.mv) [T 0] 5 false,
   IG 7 (.bin .gtr) [T 6, N 256] 5 false,
   I 8 (.pick) [T 5, .lit (.bool true), T 7]])
 (.cond (T 8)
 (.seq (.region [I 2 (.mv) [.lit .nilptr]])
  (.ret))
 (.skip)))
 (.seq (.region [I 9 (.mv) [T 0],
   I 10 (.mkmap) [],
   I 11 (.build (.agg [(.int .i64 0), (.bool false), .nilmap, (.int .i64 0), (.int .i64 0), (.int .i64 0), (.int .i64 0)]) [(0, 1), (1, 1), (2, 1)]) [T 9, .lit (.bool true), T 10],
   I 12 (.box 62 7) [T 11],
   I 2 (.mv) [T 12]])
 (.ret)))⟩
theorem t24 : trFn Try.prog Try.f24 = some c_swap_New := by kernel_rfl
/-- pantry/pantrylaw09.lives -/
abbrev n_law09_lives : Nat := 26
def c_law09_lives : AFn := ⟨27, [.tmp 0],
 .seq (.region [I 0 (.mv) [.lit (.bool false)]])
 (.seq (.region [I 2 (.callv) [F 24, N 2],
   I 1 (.mv) [T 2]])
 (.seq (.region (I 3 (.mv) [T 1] ::
   I 4 (.callv) [F 30, T 3, .lit (.bool true), N 2] ::
   I 5 (.bin .eql) [T 4, N 0] ::
   I 6 (.mv) [T 5] ::
   IG 7 (.mv) [T 1] 6 true ::
   IG 8 (.bslice 5 1 1 (.bytes 1 0) [0]) [.lit (.int .u8 1)] 6 true ::
   IG 9 (.callv) [F 27, T 8] 6 true ::
   IG 10 (.callv) [F 28, T 7, N 0, T 9] 6 true ::
   IG 11 (.bin .eql) [T 10, N 0] 6 true ::
   I 12 (.pick) [T 6, T 11, .lit (.bool false)] ::
   I 13 (.mv) [T 12] ::
   IG 14 (.mv) [T 1] 13 true ::
   IG 15 (.bslice 5 1 1 (.bytes 1 0) [0]) [.lit (.int .u8 2)] 13 true ::
   IG 16 (.callv) [F 27, T 15] 13 true ::
   IG 17 (.callv) [F 28, T 14, N 0, T 16] 13 true ::
   IG 18 (.bin .eql) [T 17, N 6] 13 true ::
   I 19 (.pick) [T 13, T 18, .lit (.bool false)] ::
   I 20 (.mv) [T 19] ::
   IG 21 (.mv) [T 1] 20 true ::
   IG 22 (.bslice 5 1 1 (.bytes 1 0) [0]) [.lit (.int .u8 3)] 20 true ::
   IG 23 (.callv) [F 27, T 22] 20 true ::
   IG 24 (.callv) [F 28, T 21, N 1, T 23] 20 true ::
   IG 25 (.bin .eql) [T 24, N 0] 20 true ::
   I 26 (.pick) [T 20, T 25, .lit (.bool false)] ::
   I 0 (.mv) [T 26] ::
   []))
 (.ret)))⟩
theorem t26 : trFn Try.prog Try.f26 = some c_law09_lives := by kernel_rfl
/-- pantry/pantrylaw09.page -/
abbrev n_law09_page : Nat := 27
def c_law09_page : AFn := ⟨9, [.tmp 2],
 .seq (.region [I 2 (.mv) [.lit .nilsl]])
 (.seq (.region [I 4 (.mkslice 5 1 1 (.bytes 1 0)) [N 4096, N 4096],
   I 3 (.mv) [T 4]])
 (.seq (.region [I 5 (.mv) [T 3],
   I 6 (.mv) [T 0],
   I 7 (.copy 1) [T 5, T 6]])
 (.seq (.region [I 8 (.mv) [T 3],
   I 2 (.mv) [T 8]])
 (.ret))))⟩
theorem t27 : trFn Try.prog Try.f27 = some c_law09_page := by kernel_rfl
/-- (*pantry/swap.Device).Write -/
abbrev n_swap_Device_Write : Nat := 28
def c_swap_Device_Write : AFn := ⟨29, [.tmp 6],
 .seq (.region [I 6 (.mv) [N 0]])
 (.seq (.seq (.region [I 8 (.mv) [T 0],
   I 9 (.mv) [T 1],
   I 10 (.mv) [T 2],
   I 11 (.lens) [T 10],
   I 12 (.bin .eql) [T 11, N 4096],
   I 13 (.callv) [F 101, T 8, T 9, T 12],
   I 7 (.mv) [T 13]])
 (.seq (.region [I 14 (.mv) [T 7],
   I 15 (.bin .neq) [T 14, N 0]])
 (.cond (T 15)
 (.seq (.region [I 16 (.mv) [T 7],
    I 6 (.mv) [T 16]])
  (.ret))
 (.skip))))
 (.seq (.seq (.region [I 17 (.mv) [T 0],
   I 18 (.nilCheck) [T 17],
   I 19 (.fieldAddr 3) [T 18],
   I 20 (.callv) [F 102, T 19]])
 (.cond (T 20)
 (.seq (.region [I 6 (.mv) [N 6]])
  (.ret))
 (.skip)))
 (.seq (.draw [[⟨0, I 21 (.mv) [T 0], [], false⟩,
   ⟨1, I 22 (.nilCheck) [T 21], [], false⟩,
   ⟨2, I 23 (.fieldAddr 2) [T 22], [], false⟩,
   ⟨3, I 24 (.load1) [T 23], [], false⟩,
   ⟨4, I 25 (.mv) [T 1], [], false⟩,
   ⟨5, I 26 (.mv) [T 2], [], false⟩,
   ⟨6, I 27 (.sl2arr 4096) [T 26], [], false⟩,
   ⟨7, I 28 (.loadn 4096) [T 27], [], false⟩,
   ⟨8, J (.mapput (.scal .int)) [T 24, T 25, T 28], [], false⟩]])
 (.seq (.region [I 6 (.mv) [N 0]])
 (.ret)))))⟩
theorem t28 : trFn Try.prog Try.f28 = some c_swap_Device_Write := by kernel_rfl
/-- (*pantry/swap.Device).Plan -/
abbrev n_swap_Device_Plan : Nat := 30
def c_swap_Device_Plan : AFn := ⟨26, [.tmp 6],
 .seq (.region [I 6 (.mv) [N 0]])
 (.seq (.block 0 (.seq (.region [I 13 (.mv) [T 0],
   I 14 (.callv) [F 103, T 13],
   I 15 (.un .not) [T 14],
   I 12 (.mv) [T 15]])
 (.cond (T 12)
 (.seq (.region [I 6 (.mv) [N 1]])
  (.ret))
 (.seq (.region [I 17 (.mv) [T 2],
    I 18 (.bin .lss) [T 17, N 0],
    I 16 (.mv) [T 18]])
  (.cond (T 16)
  (.seq (.region [I 6 (.mv) [N 2]])
   (.ret))
  (.seq (.region [I 20 (.mv) [T 1],
     I 19 (.mv) [T 20]])
   (.cond (T 19)
   (.region [I 21 (.mv) [T 0],
      I 22 (.mv) [T 2],
      I 23 (.nilCheck) [T 21],
      I 24 (.fieldAddr 3) [T 23],
      I 25 (.fieldAddr 1) [T 24],
      J (.store 1) [T 25, T 22]])
   (.region [I 7 (.mv) [T 0],
      I 8 (.mv) [T 2],
      I 9 (.nilCheck) [T 7],
      I 10 (.fieldAddr 5) [T 9],
      I 11 (.fieldAddr 1) [T 10],
      J (.store 1) [T 11, T 8]]))))))))
 (.seq (.region [I 6 (.mv) [N 0]])
 (.ret)))⟩
theorem t30 : trFn Try.prog Try.f30 = some c_swap_Device_Plan := by kernel_rfl
/-- pantry/pantryref01.Bytes -/
abbrev n_ref01_Bytes : Nat := 32
def c_ref01_Bytes : AFn := ⟨10, [.tmp 4],
 .seq (.region [I 4 (.mv) [.lit (.bool false)]])
 (.seq (.region [I 5 (.mv) [T 0],
   I 6 (.tostr) [T 5],
   I 7 (.mv) [T 1],
   I 8 (.tostr) [T 7],
   I 9 (.eqv false (.scal .str)) [T 6, T 8],
   I 4 (.mv) [T 9]])
 (.ret))⟩
theorem t32 : trFn Try.prog Try.f32 = some c_ref01_Bytes := by kernel_rfl
/-- pantry/pantrylaw10.lives -/
abbrev n_law10_lives : Nat := 41
def c_law10_lives : AFn := ⟨47, [.tmp 0],
 .seq (.region [I 0 (.mv) [.lit (.bool false)]])
 (.seq (.region [I 6 (.callv) [F 42],
   I 1 (.mv) [T 6]])
 (.seq (.region [I 8 (.mv) [T 1],
   I 9 (.callv) [F 43, T 8, N 2],
   I 7 (.mv) [T 9],
   I 10 (.extract 0) [T 7],
   I 11 (.extract 1) [T 7],
   I 2 (.mv) [T 10],
   I 3 (.mv) [T 11]])
 (.seq (.seq (.region [I 12 (.mv) [T 2],
   I 13 (.bin .neq) [T 12, N 1],
   I 14 (.mv) [T 13],
   IG 15 (.mv) [T 3] 14 false,
   IG 16 (.bin .neq) [T 15, N 0] 14 false,
   I 17 (.pick) [T 14, .lit (.bool true), T 16],
   I 18 (.mv) [T 17],
   IG 19 (.mv) [T 1] 18 false,
   IG 20 (.bslice 5 1 1 (.bytes 1 0) [0]) [.lit (.int .u8 7)] 18 false,
   IG 21 (.callv) [F 45, T 20] 18 false,
   IG 22 (.callv) [F 44, T 19, N 1, N 1, T 21] 18 false,
   IG 23 (.bin .neq) [T 22, N 0] 18 false,
   I 24 (.pick) [T 18, .lit (.bool true), T 23],
   I 25 (.mv) [T 24],
   IG 26 (.mv) [T 1] 25 false,
   IG 27 (.callv) [F 46, T 26, N 1, N 1] 25 false,
   IG 28 (.bin .neq) [T 27, N 0] 25 false,
   I 29 (.pick) [T 25, .lit (.bool true), T 28],
   I 30 (.mv) [T 29],
   IG 31 (.mv) [T 1] 30 false,
   IG 32 (.callv) [F 46, T 31, N 1, N 2] 30 false,
   IG 33 (.bin .neq) [T 32, N 0] 30 false,
   I 34 (.pick) [T 30, .lit (.bool true), T 33]])
 (.cond (T 34)
 (.seq (.region [I 0 (.mv) [.lit (.bool false)]])
  (.ret))
 (.skip)))
 (.seq (.region [I 36 (.mv) [T 1],
   I 37 (.callv) [F 47, T 36, N 1, N 1],
   I 35 (.mv) [T 37],
   I 38 (.extract 0) [T 35],
   I 39 (.extract 1) [T 35],
   I 4 (.mv) [T 38],
   I 5 (.mv) [T 39]])
 (.seq (.region [I 40 (.mv) [T 5],
   I 41 (.bin .eql) [T 40, N 0],
   I 42 (.mv) [T 41],
   IG 43 (.mv) [T 4] 42 true,
   IG 44 (.callv) [F 45, .lit .nilsl] 42 true,
   IG 45 (.callv) [F 32, T 43, T 44] 42 true,
   I 46 (.pick) [T 42, T 45, .lit (.bool false)],
   I 0 (.mv) [T 46]])
 (.ret))))))⟩
theorem t41 : trFn Try.prog Try.f41 = some c_law10_lives := by kernel_rfl
/-- pantry/file.New -/
abbrev n_file_New : Nat := 42
def c_file_New : AFn := ⟨4, [.tmp 0],
 .seq (.region [I 0 (.mv) [.lit .nilptr]])
 (.seq (.region [I 1 (.mkmap) [],
   I 2 (.build (.agg [(.bool false), .nilsl, .nilmap, (.int .i64 0)]) [(0, 1), (2, 1)]) [.lit (.bool true), T 1],
   I 3 (.box 99 4) [T 2],
   I 0 (.mv) [T 3]])
 (.ret))⟩
theorem t42 : trFn Try.prog Try.f42 = some c_file_New := by kernel_rfl
/-- (*pantry/file.Store).Make -/
abbrev n_file_Store_Make : Nat := 43
def c_file_Store_Make : AFn := ⟨39, [.tmp 4, .tmp 5],
 .seq (.region [I 4 (.mv) [N 0],
   I 5 (.mv) [N 0]])
 (.seq (.block 0 (.seq (.region [I 7 (.mv) [T 0],
   I 8 (.callv) [F 105, T 7],
   I 9 (.un .not) [T 8],
   I 6 (.mv) [T 9]])
 (.cond (T 6)
 (.seq (.region [I 4 (.mv) [N 0],
    I 5 (.mv) [N 1]])
  (.ret))
 (.seq (.region [I 11 (.mv) [T 1],
    I 12 (.bin .lss) [T 11, N 0],
    I 13 (.mv) [T 12],
    IG 14 (.mv) [T 1] 13 false,
    IG 15 (.bin .gtr) [T 14, N 4096] 13 false,
    I 16 (.pick) [T 13, .lit (.bool true), T 15],
    I 10 (.mv) [T 16]])
  (.cond (T 10)
  (.seq (.region [I 4 (.mv) [N 0],
     I 5 (.mv) [N 2]])
   (.ret))
  (.seq (.region [I 18 (.mv) [T 0],
     I 19 (.nilCheck) [T 18],
     I 20 (.fieldAddr 1) [T 19],
     I 21 (.load1) [T 20],
     I 22 (.lens) [T 21],
     I 23 (.bin .geq) [T 22, N 16],
     I 17 (.mv) [T 23]])
   (.cond (T 17)
   (.seq (.region [I 4 (.mv) [N 0],
      I 5 (.mv) [N 5]])
    (.ret))
   (.skip))))))))
 (.seq (.region [I 24 (.mv) [T 0],
   I 25 (.mv) [T 0],
   I 26 (.nilCheck) [T 25],
   I 27 (.fieldAddr 1) [T 26],
   I 28 (.load1) [T 27],
   I 29 (.mv) [T 1],
   I 30 (.bslice 3 1 1 (.vals [(.int .i64 0)]) [0]) [T 29],
   I 31 (.append 3 1 8 (.vals [(.int .i64 0)])) [T 28, T 30],
   I 32 (.nilCheck) [T 24],
   I 33 (.fieldAddr 1) [T 32],
   J (.store 1) [T 33, T 31]])
 (.seq (.region [I 34 (.mv) [T 0],
   I 35 (.nilCheck) [T 34],
   I 36 (.fieldAddr 1) [T 35],
   I 37 (.load1) [T 36],
   I 38 (.lens) [T 37],
   I 4 (.mv) [T 38],
   I 5 (.mv) [N 0]])
 (.ret))))⟩
theorem t43 : trFn Try.prog Try.f43 = some c_file_Store_Make := by kernel_rfl
/-- (*pantry/file.Store).Write -/
abbrev n_file_Store_Write : Nat := 44
def c_file_Store_Write : AFn := ⟨42, [.tmp 8],
 .seq (.region [I 8 (.mv) [N 0]])
 (.seq (.region [I 13 (.mv) [T 0],
   I 14 (.mv) [T 1],
   I 15 (.mv) [T 2],
   I 16 (.mv) [T 3],
   I 17 (.lens) [T 16],
   I 18 (.bin .eql) [T 17, N 4096],
   I 19 (.callv) [F 106, T 13, T 14, T 15, T 18],
   I 12 (.mv) [T 19],
   I 20 (.extract 0) [T 12],
   I 21 (.extract 1) [T 12],
   I 9 (.alloc 164 2 (.vals [(.int .i64 0), (.int .i64 0)])) [],
   J (.store 2) [T 9, T 20],
   I 10 (.mv) [T 21]])
 (.seq (.seq (.region [I 22 (.mv) [T 10],
   I 23 (.bin .neq) [T 22, N 0]])
 (.cond (T 23)
 (.seq (.region [I 24 (.mv) [T 10],
    I 8 (.mv) [T 24]])
  (.ret))
 (.skip)))
 (.seq (.region [I 25 (.mv) [T 3],
   I 26 (.sl2arr 4096) [T 25],
   I 27 (.loadn 4096) [T 26],
   I 11 (.alloc 160 4096 (.bytes 4096 0)) [],
   J (.store 4096) [T 11, T 27]])
 (.seq (.seq (.region [I 28 (.loadn 4096) [T 11],
   I 29 (.build (.bytes 4096 0) []) [],
   I 30 (.eqv false (.bytes 4096)) [T 28, T 29]])
 (.cond (T 30)
 (.draw [[⟨0, I 31 (.mv) [T 0], [], false⟩,
    ⟨1, I 32 (.nilCheck) [T 31], [], false⟩,
    ⟨2, I 33 (.fieldAddr 2) [T 32], [], false⟩,
    ⟨3, I 34 (.load1) [T 33], [], false⟩,
    ⟨4, I 35 (.loadn 2) [T 9], [], false⟩,
    ⟨5, J (.delete (.flat [.int, .int])) [T 34, T 35], [], false⟩]])
 (.draw [[⟨0, I 36 (.mv) [T 0], [], false⟩,
    ⟨1, I 37 (.nilCheck) [T 36], [], false⟩,
    ⟨2, I 38 (.fieldAddr 2) [T 37], [], false⟩,
    ⟨3, I 39 (.load1) [T 38], [], false⟩,
    ⟨4, I 40 (.loadn 2) [T 9], [], false⟩,
    ⟨5, I 41 (.loadn 4096) [T 11], [], false⟩,
    ⟨6, J (.mapput (.flat [.int, .int])) [T 39, T 40, T 41], [], false⟩]])))
 (.seq (.region [I 8 (.mv) [N 0]])
 (.ret))))))⟩
theorem t44 : trFn Try.prog Try.f44 = some c_file_Store_Write := by kernel_rfl
/-- pantry/pantrylaw10.page -/
abbrev n_law10_page : Nat := 45
def c_law10_page : AFn := ⟨9, [.tmp 2],
 .seq (.region [I 2 (.mv) [.lit .nilsl]])
 (.seq (.region [I 4 (.mkslice 5 1 1 (.bytes 1 0)) [N 4096, N 4096],
   I 3 (.mv) [T 4]])
 (.seq (.region [I 5 (.mv) [T 3],
   I 6 (.mv) [T 0],
   I 7 (.copy 1) [T 5, T 6]])
 (.seq (.region [I 8 (.mv) [T 3],
   I 2 (.mv) [T 8]])
 (.ret))))⟩
theorem t45 : trFn Try.prog Try.f45 = some c_law10_page := by kernel_rfl
/-- (*pantry/file.Store).Resize -/
abbrev n_file_Store_Resize : Nat := 46
def c_file_Store_Resize : AFn := ⟨38, [.tmp 6],
 .seq (.region [I 4 (.box 3 1) [T 1],
   I 5 (.box 3 1) [T 2],
   I 6 (.mv) [N 0]])
 (.seq (.seq (.region [I 10 (.mv) [T 0],
   I 11 (.load1) [T 4],
   I 12 (.callv) [F 107, T 10, T 11],
   I 9 (.mv) [T 12],
   I 13 (.extract 0) [T 9],
   I 14 (.extract 1) [T 9],
   I 7 (.mv) [T 13],
   I 8 (.mv) [T 14]])
 (.seq (.region [I 15 (.mv) [T 8],
   I 16 (.bin .neq) [T 15, N 0]])
 (.cond (T 16)
 (.seq (.region [I 17 (.mv) [T 8],
    I 6 (.mv) [T 17]])
  (.ret))
 (.skip))))
 (.seq (.seq (.region [I 18 (.load1) [T 5],
   I 19 (.bin .lss) [T 18, N 0],
   I 20 (.mv) [T 19],
   IG 21 (.load1) [T 5] 20 false,
   IG 22 (.bin .gtr) [T 21, N 4096] 20 false,
   I 23 (.pick) [T 20, .lit (.bool true), T 22]])
 (.cond (T 23)
 (.seq (.region [I 6 (.mv) [N 2]])
  (.ret))
 (.skip)))
 (.seq (.draw [[⟨0, I 24 (.mv) [T 0], [], false⟩,
   ⟨1, I 25 (.nilCheck) [T 24], [], false⟩,
   ⟨2, I 26 (.fieldAddr 1) [T 25], [], false⟩,
   ⟨3, I 27 (.load1) [T 26], [], false⟩,
   ⟨4, I 28 (.load1) [T 4], [], false⟩,
   ⟨5, I 29 (.bin .sub) [T 28, N 1], [], false⟩,
   ⟨6, I 30 (.load1) [T 5], [], false⟩,
   ⟨7, I 31 (.indexs 1) [T 27, T 29], [], false⟩,
   ⟨8, J (.store 1) [T 31, T 30], [], false⟩]])
 (.seq (.region [I 32 (.mv) [T 0],
   I 33 (.nilCheck) [T 32],
   I 34 (.fieldAddr 2) [T 33],
   I 35 (.load1) [T 34],
   I 36 (.mkfunc 109 0) [T 4, T 5],
   I 37 (.callv) [F 108, T 35, T 36]])
 (.seq (.region [I 6 (.mv) [N 0]])
 (.ret))))))⟩
theorem t46 : trFn Try.prog Try.f46 = some c_file_Store_Resize := by kernel_rfl
/-- (*pantry/file.Store).Read -/
abbrev n_file_Store_Read : Nat := 47
def c_file_Store_Read : AFn := ⟨28, [.tmp 6, .tmp 7],
 .seq (.region [I 6 (.mv) [.lit .nilsl],
   I 7 (.mv) [N 0]])
 (.seq (.region [I 12 (.mv) [T 0],
   I 13 (.mv) [T 1],
   I 14 (.mv) [T 2],
   I 15 (.callv) [F 106, T 12, T 13, T 14, .lit (.bool true)],
   I 11 (.mv) [T 15],
   I 16 (.extract 0) [T 11],
   I 17 (.extract 1) [T 11],
   I 8 (.alloc 164 2 (.vals [(.int .i64 0), (.int .i64 0)])) [],
   J (.store 2) [T 8, T 16],
   I 9 (.mv) [T 17]])
 (.seq (.seq (.region [I 18 (.mv) [T 9],
   I 19 (.bin .neq) [T 18, N 0]])
 (.cond (T 19)
 (.seq (.region [I 20 (.mv) [T 9],
    I 6 (.mv) [.lit .nilsl],
    I 7 (.mv) [T 20]])
  (.ret))
 (.skip)))
 (.seq (.draw [[⟨0, I 21 (.mv) [T 0], [], false⟩,
   ⟨1, I 22 (.nilCheck) [T 21], [], false⟩,
   ⟨2, I 23 (.fieldAddr 2) [T 22], [], false⟩,
   ⟨3, I 24 (.load1) [T 23], [], false⟩,
   ⟨4, I 25 (.loadn 2) [T 8], [], false⟩,
   ⟨5, I 26 (.lookup (.flat [.int, .int]) (.bytes 4096 0) false) [T 24, T 25], [], false⟩,
   ⟨6, I 10 (.alloc 160 4096 (.bytes 4096 0)) [], [(3, I 24 (.load1) [T 23]), (4, I 25 (.loadn 2) [T 8]), (5, I 26 (.lookup (.flat [.int, .int]) (.bytes 4096 0) false) [T 24, T 25])], false⟩,
   ⟨7, J (.store 4096) [T 10, T 26], [], false⟩]])
 (.seq (.region [I 27 (.slicea 4096 1 false false false) [T 10],
   I 6 (.mv) [T 27],
   I 7 (.mv) [N 0]])
 (.ret)))))⟩
theorem t47 : trFn Try.prog Try.f47 = some c_file_Store_Read := by kernel_rfl
/-- (*pantry/file.Store).Plan -/
abbrev n_file_Store_Plan : Nat := 48
def c_file_Store_Plan : AFn := ⟨16, [.tmp 4],
 .seq (.region [I 4 (.mv) [N 0]])
 (.seq (.block 0 (.seq (.region [I 6 (.mv) [T 0],
   I 7 (.callv) [F 105, T 6],
   I 8 (.un .not) [T 7],
   I 5 (.mv) [T 8]])
 (.cond (T 5)
 (.seq (.region [I 4 (.mv) [N 1]])
  (.ret))
 (.seq (.region [I 10 (.mv) [T 1],
    I 11 (.bin .lss) [T 10, N 0],
    I 9 (.mv) [T 11]])
  (.cond (T 9)
  (.seq (.region [I 4 (.mv) [N 2]])
   (.ret))
  (.skip))))))
 (.seq (.region [I 12 (.mv) [T 0],
   I 13 (.mv) [T 1],
   I 14 (.nilCheck) [T 12],
   I 15 (.fieldAddr 3) [T 14],
   J (.store 1) [T 15, T 13]])
 (.seq (.region [I 4 (.mv) [N 0]])
 (.ret))))⟩
theorem t48 : trFn Try.prog Try.f48 = some c_file_Store_Plan := by kernel_rfl
/-- (*pantry/file.Store).Size -/
abbrev n_file_Store_Size : Nat := 49
def c_file_Store_Size : AFn := ⟨30, [.tmp 4, .tmp 5],
 .seq (.region [I 4 (.mv) [N 0],
   I 5 (.mv) [.lit (.bool false)]])
 (.seq (.seq (.region [I 6 (.mv) [T 0],
   I 7 (.callv) [F 105, T 6],
   I 8 (.un .not) [T 7],
   I 9 (.mv) [T 8],
   IG 10 (.mv) [T 1] 9 false,
   IG 11 (.bin .lss) [T 10, N 1] 9 false,
   I 12 (.pick) [T 9, .lit (.bool true), T 11],
   I 13 (.mv) [T 12],
   IG 14 (.mv) [T 1] 13 false,
   IG 15 (.mv) [T 0] 13 false,
   IG 16 (.nilCheck) [T 15] 13 false,
   IG 17 (.fieldAddr 1) [T 16] 13 false,
   IG 18 (.load1) [T 17] 13 false,
   IG 19 (.lens) [T 18] 13 false,
   IG 20 (.bin .gtr) [T 14, T 19] 13 false,
   I 21 (.pick) [T 13, .lit (.bool true), T 20]])
 (.cond (T 21)
 (.seq (.region [I 4 (.mv) [N 0],
    I 5 (.mv) [.lit (.bool false)]])
  (.ret))
 (.skip)))
 (.seq (.region [I 22 (.mv) [T 0],
   I 23 (.nilCheck) [T 22],
   I 24 (.fieldAddr 1) [T 23],
   I 25 (.load1) [T 24],
   I 26 (.mv) [T 1],
   I 27 (.bin .sub) [T 26, N 1],
   I 28 (.indexs 1) [T 25, T 27],
   I 29 (.load1) [T 28],
   I 4 (.mv) [T 29],
   I 5 (.mv) [.lit (.bool true)]])
 (.ret)))⟩
theorem t49 : trFn Try.prog Try.f49 = some c_file_Store_Size := by kernel_rfl
/-- (*pantry/file.Store).Ids -/
abbrev n_file_Store_Ids : Nat := 50
/-- live: [3, 12, 13] -/
def c_file_Store_Ids_L0 : ACode :=
 .seq (.region [I 14 (.bin .lss) [T 13, T 12]])
 (.seq (.cond (T 14)
 (.skip)
 (.exit 0))
 (.seq (.block 1 (.seq (.region [I 15 (.mv) [T 13],
   I 4 (.mv) [T 15]])
 (.region [I 16 (.mv) [T 3],
   I 17 (.mv) [T 4],
   I 18 (.bin .add) [T 17, N 1],
   I 19 (.bslice 3 1 1 (.vals [(.int .i64 0)]) [0]) [T 18],
   I 20 (.append 3 1 8 (.vals [(.int .i64 0)])) [T 16, T 19],
   I 3 (.mv) [T 20]])))
 (.region [I 21 (.bin .add) [T 13, N 1],
   I 13 (.mv) [T 21]])))
def c_file_Store_Ids : AFn := ⟨23, [.tmp 2],
 .seq (.region [I 2 (.mv) [.lit .nilsl]])
 (.seq (.seq (.region [I 5 (.mv) [T 0],
   I 6 (.callv) [F 105, T 5],
   I 7 (.un .not) [T 6]])
 (.cond (T 7)
 (.seq (.region [I 2 (.mv) [.lit .nilsl]])
  (.ret))
 (.skip)))
 (.seq (.region [I 3 (.mv) [.lit .nilsl]])
 (.seq (.seq (.region [I 8 (.mv) [T 0],
   I 9 (.nilCheck) [T 8],
   I 10 (.fieldAddr 1) [T 9],
   I 11 (.load1) [T 10],
   I 12 (.lens) [T 11],
   I 13 (.mv) [N 0]])
 (.block 0 (.loop c_file_Store_Ids_L0)))
 (.seq (.region [I 22 (.mv) [T 3],
   I 2 (.mv) [T 22]])
 (.ret)))))⟩
theorem t50 : trFn Try.prog Try.f50 = some c_file_Store_Ids := by kernel_rfl
/-- (*pantry/file.Store).Peek -/
abbrev n_file_Store_Peek : Nat := 51
def c_file_Store_Peek : AFn := ⟨36, [.tmp 6],
 .seq (.region [I 6 (.mv) [.lit .nilsl]])
 (.seq (.region [I 11 (.mv) [T 0],
   I 12 (.mv) [T 1],
   I 13 (.callv) [F 49, T 11, T 12],
   I 10 (.mv) [T 13],
   I 14 (.extract 0) [T 10],
   I 15 (.extract 1) [T 10],
   I 7 (.mv) [T 14],
   I 8 (.mv) [T 15]])
 (.seq (.seq (.region [I 16 (.mv) [T 8],
   I 17 (.un .not) [T 16],
   I 18 (.mv) [T 17],
   IG 19 (.mv) [T 2] 18 false,
   IG 20 (.bin .lss) [T 19, N 0] 18 false,
   I 21 (.pick) [T 18, .lit (.bool true), T 20],
   I 22 (.mv) [T 21],
   IG 23 (.mv) [T 2] 22 false,
   IG 24 (.mv) [T 7] 22 false,
   IG 25 (.bin .geq) [T 23, T 24] 22 false,
   I 26 (.pick) [T 22, .lit (.bool true), T 25]])
 (.cond (T 26)
 (.seq (.region [I 6 (.mv) [.lit .nilsl]])
  (.ret))
 (.skip)))
 (.seq (.region [I 27 (.mv) [T 0],
   I 28 (.nilCheck) [T 27],
   I 29 (.fieldAddr 2) [T 28],
   I 30 (.load1) [T 29],
   I 31 (.mv) [T 1],
   I 32 (.mv) [T 2],
   I 33 (.build (.agg [(.int .i64 0), (.int .i64 0)]) [(0, 1), (1, 1)]) [T 31, T 32],
   I 34 (.lookup (.flat [.int, .int]) (.bytes 4096 0) false) [T 30, T 33],
   I 9 (.alloc 160 4096 (.bytes 4096 0)) [],
   J (.store 4096) [T 9, T 34]])
 (.seq (.region [I 35 (.slicea 4096 1 false false false) [T 9],
   I 6 (.mv) [T 35]])
 (.ret)))))⟩
theorem t51 : trFn Try.prog Try.f51 = some c_file_Store_Peek := by kernel_rfl
/-- pantry/pantrylaw10.light -/
abbrev n_law10_light : Nat := 52
/-- live: [8, 9, 10] -/
def c_law10_light_L0 : ACode :=
 .seq (.region [I 11 (.bin .lss) [T 10, T 9]])
 (.seq (.cond (T 11)
 (.skip)
 (.exit 0))
 (.seq (.block 1 (.seq (.region [I 12 (.indexs 5) [T 8, T 10],
   I 13 (.loadn 5) [T 12],
   I 4 (.alloc 91 5 (.vals [(.int .i64 0), (.int .i64 0), (.int .i64 0), .nilsl, (.bool false)])) [],
   J (.store 5) [T 4, T 13]])
 (.seq (.region [I 14 (.fieldAddr 3) [T 4],
   I 15 (.load1) [T 14],
   I 16 (.lens) [T 15],
   I 17 (.bin .gtr) [T 16, N 5000]])
 (.cond (T 17)
 (.seq (.region [I 2 (.mv) [.lit (.bool false)]])
  (.ret))
 (.skip)))))
 (.region [I 18 (.bin .add) [T 10, N 1],
   I 10 (.mv) [T 18]])))
def c_law10_light : AFn := ⟨19, [.tmp 2],
 .seq (.region [I 2 (.mv) [.lit (.bool false)]])
 (.seq (.seq (.region [I 5 (.mv) [T 0],
   I 6 (.lens) [T 5],
   I 7 (.bin .gtr) [T 6, N 60]])
 (.cond (T 7)
 (.seq (.region [I 2 (.mv) [.lit (.bool false)]])
  (.ret))
 (.skip)))
 (.seq (.seq (.region [I 8 (.mv) [T 0],
   I 9 (.lens) [T 8],
   I 10 (.mv) [N 0]])
 (.block 0 (.loop c_law10_light_L0)))
 (.seq (.region [I 2 (.mv) [.lit (.bool true)]])
 (.ret))))⟩
theorem t52 : trFn Try.prog Try.f52 = some c_law10_light := by kernel_rfl
/-- (*pantry/pantryref10.Store).Make -/
abbrev n_ref10_Store_Make : Nat := 53
def c_ref10_Store_Make : AFn := ⟨35, [.tmp 4, .tmp 5],
 .seq (.region [I 4 (.mv) [N 0],
   I 5 (.mv) [N 0]])
 (.seq (.seq (.region [I 6 (.mv) [T 1],
   I 7 (.bin .lss) [T 6, N 0],
   I 8 (.mv) [T 7],
   IG 9 (.mv) [T 1] 8 false,
   IG 10 (.bin .gtr) [T 9, N 4096] 8 false,
   I 11 (.pick) [T 8, .lit (.bool true), T 10]])
 (.cond (T 11)
 (.seq (.region [I 4 (.mv) [N 0],
    I 5 (.mv) [N 2]])
  (.ret))
 (.skip)))
 (.seq (.seq (.region [I 12 (.mv) [T 0],
   I 13 (.nilCheck) [T 12],
   I 14 (.fieldAddr 0) [T 13],
   I 15 (.load1) [T 14],
   I 16 (.lens) [T 15],
   I 17 (.bin .geq) [T 16, N 16]])
 (.cond (T 17)
 (.seq (.region [I 4 (.mv) [N 0],
    I 5 (.mv) [N 5]])
  (.ret))
 (.skip)))
 (.seq (.region [I 18 (.mv) [T 0],
   I 19 (.bslice 3 1 0 (.vals [(.int .i64 0)]) []) [],
   I 20 (.mv) [T 0],
   I 21 (.nilCheck) [T 20],
   I 22 (.fieldAddr 0) [T 21],
   I 23 (.load1) [T 22],
   I 24 (.append 3 1 8 (.vals [(.int .i64 0)])) [T 19, T 23],
   I 25 (.mv) [T 1],
   I 26 (.bslice 3 1 1 (.vals [(.int .i64 0)]) [0]) [T 25],
   I 27 (.append 3 1 8 (.vals [(.int .i64 0)])) [T 24, T 26],
   I 28 (.nilCheck) [T 18],
   I 29 (.fieldAddr 0) [T 28],
   J (.store 1) [T 29, T 27]])
 (.seq (.region [I 30 (.mv) [T 0],
   I 31 (.nilCheck) [T 30],
   I 32 (.fieldAddr 0) [T 31],
   I 33 (.load1) [T 32],
   I 34 (.lens) [T 33],
   I 4 (.mv) [T 34],
   I 5 (.mv) [N 0]])
 (.ret)))))⟩
theorem t53 : trFn Try.prog Try.f53 = some c_ref10_Store_Make := by kernel_rfl
/-- (*pantry/pantryref10.Store).Resize -/
abbrev n_ref10_Store_Resize : Nat := 54
def c_ref10_Store_Resize : AFn := ⟨47, [.tmp 6],
 .seq (.region [I 6 (.mv) [N 0]])
 (.seq (.seq (.region [I 10 (.mv) [T 0],
   I 11 (.mv) [T 1],
   I 12 (.callv) [F 59, T 10, T 11],
   I 9 (.mv) [T 12],
   I 13 (.extract 0) [T 9],
   I 14 (.extract 1) [T 9],
   I 7 (.mv) [T 13],
   I 8 (.mv) [T 14]])
 (.seq (.region [I 15 (.mv) [T 8],
   I 16 (.un .not) [T 15]])
 (.cond (T 16)
 (.seq (.region [I 6 (.mv) [N 7]])
  (.ret))
 (.skip))))
 (.seq (.seq (.region [I 17 (.mv) [T 2],
   I 18 (.bin .lss) [T 17, N 0],
   I 19 (.mv) [T 18],
   IG 20 (.mv) [T 2] 19 false,
   IG 21 (.bin .gtr) [T 20, N 4096] 19 false,
   I 22 (.pick) [T 19, .lit (.bool true), T 21]])
 (.cond (T 22)
 (.seq (.region [I 6 (.mv) [N 2]])
  (.ret))
 (.skip)))
 (.seq (.region [I 23 (.mv) [T 0],
   I 24 (.mv) [T 0],
   I 25 (.mv) [T 1],
   I 26 (.mv) [T 2],
   I 27 (.callv) [F 110, T 24, T 25, T 26, .lit (.bool true)],
   I 28 (.nilCheck) [T 23],
   I 29 (.fieldAddr 1) [T 28],
   J (.store 1) [T 29, T 27]])
 (.seq (.region [I 30 (.mv) [T 0],
   I 31 (.bslice 3 1 0 (.vals [(.int .i64 0)]) []) [],
   I 32 (.mv) [T 0],
   I 33 (.nilCheck) [T 32],
   I 34 (.fieldAddr 0) [T 33],
   I 35 (.load1) [T 34],
   I 36 (.append 3 1 8 (.vals [(.int .i64 0)])) [T 31, T 35],
   I 37 (.nilCheck) [T 30],
   I 38 (.fieldAddr 0) [T 37],
   J (.store 1) [T 38, T 36]])
 (.seq (.region [I 39 (.mv) [T 0],
   I 40 (.nilCheck) [T 39],
   I 41 (.fieldAddr 0) [T 40],
   I 42 (.load1) [T 41],
   I 43 (.mv) [T 1],
   I 44 (.bin .sub) [T 43, N 1],
   I 45 (.mv) [T 2],
   I 46 (.indexs 1) [T 42, T 44],
   J (.store 1) [T 46, T 45]])
 (.seq (.region [I 6 (.mv) [N 0]])
 (.ret)))))))⟩
theorem t54 : trFn Try.prog Try.f54 = some c_ref10_Store_Resize := by kernel_rfl
/-- (*pantry/pantryref10.Store).Read -/
abbrev n_ref10_Store_Read : Nat := 55
/-- live: [1, 2, 35, 36, 37] -/
def c_ref10_Store_Read_L0 : ACode :=
 .seq (.region [I 38 (.bin .lss) [T 37, T 36]])
 (.seq (.cond (T 38)
 (.skip)
 (.exit 1))
 (.seq (.block 2 (.seq (.region [I 39 (.indexs 3) [T 35, T 37],
   I 40 (.loadn 3) [T 39],
   I 11 (.alloc 171 3 (.vals [(.int .i64 0), (.int .i64 0), .nilsl])) [],
   J (.store 3) [T 11, T 40]])
 (.seq (.region [I 41 (.fieldAddr 0) [T 11],
   I 42 (.load1) [T 41],
   I 43 (.mv) [T 1],
   I 44 (.bin .eql) [T 42, T 43],
   I 45 (.mv) [T 44],
   IG 46 (.fieldAddr 1) [T 11] 45 true,
   IG 47 (.load1) [T 46] 45 true,
   IG 48 (.mv) [T 2] 45 true,
   IG 49 (.bin .eql) [T 47, T 48] 45 true,
   I 50 (.pick) [T 45, T 49, .lit (.bool false)]])
 (.cond (T 50)
 (.seq (.region [I 51 (.bslice 5 1 0 (.bytes 1 0) []) [],
    I 52 (.fieldAddr 2) [T 11],
    I 53 (.load1) [T 52],
    I 54 (.append 5 1 1 (.bytes 1 0)) [T 51, T 53],
    I 6 (.mv) [T 54],
    I 7 (.mv) [N 0]])
  (.ret))
 (.skip)))))
 (.region [I 55 (.bin .add) [T 37, N 1],
   I 37 (.mv) [T 55]])))
def c_ref10_Store_Read : AFn := ⟨57, [.tmp 6, .tmp 7],
 .seq (.region [I 6 (.mv) [.lit .nilsl],
   I 7 (.mv) [N 0]])
 (.seq (.region [I 13 (.mv) [T 0],
   I 14 (.mv) [T 1],
   I 15 (.callv) [F 59, T 13, T 14],
   I 12 (.mv) [T 15],
   I 16 (.extract 0) [T 12],
   I 17 (.extract 1) [T 12],
   I 8 (.mv) [T 16],
   I 9 (.mv) [T 17]])
 (.seq (.block 0 (.seq (.region [I 19 (.mv) [T 9],
   I 20 (.un .not) [T 19],
   I 18 (.mv) [T 20]])
 (.cond (T 18)
 (.seq (.region [I 6 (.mv) [.lit .nilsl],
    I 7 (.mv) [N 7]])
  (.ret))
 (.seq (.region [I 22 (.mv) [T 2],
    I 23 (.bin .lss) [T 22, N 0],
    I 24 (.mv) [T 23],
    IG 25 (.mv) [T 2] 24 false,
    IG 26 (.mv) [T 8] 24 false,
    IG 27 (.bin .geq) [T 25, T 26] 24 false,
    I 28 (.pick) [T 24, .lit (.bool true), T 27],
    I 21 (.mv) [T 28]])
  (.cond (T 21)
  (.seq (.region [I 6 (.mv) [.lit .nilsl],
     I 7 (.mv) [N 2]])
   (.ret))
  (.seq (.region [I 30 (.mv) [T 0],
     I 31 (.callv) [F 111, T 30],
     I 29 (.mv) [T 31]])
   (.cond (T 29)
   (.seq (.region [I 6 (.mv) [.lit .nilsl],
      I 7 (.mv) [N 6]])
    (.ret))
   (.skip))))))))
 (.seq (.seq (.region [I 32 (.mv) [T 0],
   I 33 (.nilCheck) [T 32],
   I 34 (.fieldAddr 1) [T 33],
   I 35 (.load1) [T 34],
   I 36 (.lens) [T 35],
   I 37 (.mv) [N 0]])
 (.block 1 (.loop c_ref10_Store_Read_L0)))
 (.seq (.region [I 56 (.mkslice 5 1 1 (.bytes 1 0)) [N 4096, N 4096],
   I 6 (.mv) [T 56],
   I 7 (.mv) [N 0]])
 (.ret)))))⟩
theorem t55 : trFn Try.prog Try.f55 = some c_ref10_Store_Read := by kernel_rfl
/-- (pantry/pantrylaw10.Act).bytes -/
abbrev n_law10_Act_bytes : Nat := 56
def c_law10_Act_bytes : AFn := ⟨10, [.tmp 2],
 .seq (.region [I 1 (.box 91 5) [T 0],
   I 2 (.mv) [.lit .nilsl]])
 (.seq (.seq (.region [I 3 (.fieldAddr 4) [T 1],
   I 4 (.load1) [T 3]])
 (.cond (T 4)
 (.seq (.region [I 5 (.fieldAddr 3) [T 1],
    I 6 (.load1) [T 5],
    I 2 (.mv) [T 6]])
  (.ret))
 (.skip)))
 (.seq (.region [I 7 (.fieldAddr 3) [T 1],
   I 8 (.load1) [T 7],
   I 9 (.callv) [F 45, T 8],
   I 2 (.mv) [T 9]])
 (.ret)))⟩
theorem t56 : trFn Try.prog Try.f56 = some c_law10_Act_bytes := by kernel_rfl
/-- (*pantry/pantryref10.Store).Write -/
abbrev n_ref10_Store_Write : Nat := 57
def c_ref10_Store_Write : AFn := ⟨51, [.tmp 8],
 .seq (.region [I 8 (.mv) [N 0]])
 (.seq (.region [I 12 (.mv) [T 0],
   I 13 (.mv) [T 1],
   I 14 (.callv) [F 59, T 12, T 13],
   I 11 (.mv) [T 14],
   I 15 (.extract 0) [T 11],
   I 16 (.extract 1) [T 11],
   I 9 (.mv) [T 15],
   I 10 (.mv) [T 16]])
 (.seq (.block 0 (.seq (.region [I 18 (.mv) [T 10],
   I 19 (.un .not) [T 18],
   I 17 (.mv) [T 19]])
 (.cond (T 17)
 (.seq (.region [I 8 (.mv) [N 7]])
  (.ret))
 (.seq (.region [I 21 (.mv) [T 2],
    I 22 (.bin .lss) [T 21, N 0],
    I 23 (.mv) [T 22],
    IG 24 (.mv) [T 2] 23 false,
    IG 25 (.mv) [T 9] 23 false,
    IG 26 (.bin .geq) [T 24, T 25] 23 false,
    I 27 (.pick) [T 23, .lit (.bool true), T 26],
    I 28 (.mv) [T 27],
    IG 29 (.mv) [T 3] 28 false,
    IG 30 (.lens) [T 29] 28 false,
    IG 31 (.bin .neq) [T 30, N 4096] 28 false,
    I 32 (.pick) [T 28, .lit (.bool true), T 31],
    I 20 (.mv) [T 32]])
  (.cond (T 20)
  (.seq (.region [I 8 (.mv) [N 2]])
   (.ret))
  (.seq (.region [I 34 (.mv) [T 0],
     I 35 (.callv) [F 111, T 34],
     I 33 (.mv) [T 35]])
   (.cond (T 33)
   (.seq (.region [I 8 (.mv) [N 6]])
    (.ret))
   (.skip))))))))
 (.seq (.region [I 36 (.mv) [T 0],
   I 37 (.mv) [T 0],
   I 38 (.mv) [T 1],
   I 39 (.mv) [T 2],
   I 40 (.callv) [F 110, T 37, T 38, T 39, .lit (.bool false)],
   I 41 (.mv) [T 1],
   I 42 (.mv) [T 2],
   I 43 (.bslice 5 1 0 (.bytes 1 0) []) [],
   I 44 (.mv) [T 3],
   I 45 (.append 5 1 1 (.bytes 1 0)) [T 43, T 44],
   I 46 (.build (.agg [(.int .i64 0), (.int .i64 0), .nilsl]) [(0, 1), (1, 1), (2, 1)]) [T 41, T 42, T 45],
   I 47 (.bslice 171 3 1 (.vals [(.int .i64 0), (.int .i64 0), .nilsl]) [0]) [T 46],
   I 48 (.append 171 3 40 (.vals [(.int .i64 0), (.int .i64 0), .nilsl])) [T 40, T 47],
   I 49 (.nilCheck) [T 36],
   I 50 (.fieldAddr 1) [T 49],
   J (.store 1) [T 50, T 48]])
 (.seq (.region [I 8 (.mv) [N 0]])
 (.ret)))))⟩
theorem t57 : trFn Try.prog Try.f57 = some c_ref10_Store_Write := by kernel_rfl
/-- (*pantry/pantryref10.Store).Plan -/
abbrev n_ref10_Store_Plan : Nat := 58
def c_ref10_Store_Plan : AFn := ⟨11, [.tmp 4],
 .seq (.region [I 4 (.mv) [N 0]])
 (.seq (.seq (.region [I 5 (.mv) [T 1],
   I 6 (.bin .lss) [T 5, N 0]])
 (.cond (T 6)
 (.seq (.region [I 4 (.mv) [N 2]])
  (.ret))
 (.skip)))
 (.seq (.region [I 7 (.mv) [T 0],
   I 8 (.mv) [T 1],
   I 9 (.nilCheck) [T 7],
   I 10 (.fieldAddr 2) [T 9],
   J (.store 1) [T 10, T 8]])
 (.seq (.region [I 4 (.mv) [N 0]])
 (.ret))))⟩
theorem t58 : trFn Try.prog Try.f58 = some c_ref10_Store_Plan := by kernel_rfl
/-- (*pantry/pantryref10.Store).Size -/
abbrev n_ref10_Store_Size : Nat := 59
def c_ref10_Store_Size : AFn := ⟨25, [.tmp 4, .tmp 5],
 .seq (.region [I 4 (.mv) [N 0],
   I 5 (.mv) [.lit (.bool false)]])
 (.seq (.seq (.region [I 6 (.mv) [T 1],
   I 7 (.bin .lss) [T 6, N 1],
   I 8 (.mv) [T 7],
   IG 9 (.mv) [T 1] 8 false,
   IG 10 (.mv) [T 0] 8 false,
   IG 11 (.nilCheck) [T 10] 8 false,
   IG 12 (.fieldAddr 0) [T 11] 8 false,
   IG 13 (.load1) [T 12] 8 false,
   IG 14 (.lens) [T 13] 8 false,
   IG 15 (.bin .gtr) [T 9, T 14] 8 false,
   I 16 (.pick) [T 8, .lit (.bool true), T 15]])
 (.cond (T 16)
 (.seq (.region [I 4 (.mv) [N 0],
    I 5 (.mv) [.lit (.bool false)]])
  (.ret))
 (.skip)))
 (.seq (.region [I 17 (.mv) [T 0],
   I 18 (.nilCheck) [T 17],
   I 19 (.fieldAddr 0) [T 18],
   I 20 (.load1) [T 19],
   I 21 (.mv) [T 1],
   I 22 (.bin .sub) [T 21, N 1],
   I 23 (.indexs 1) [T 20, T 22],
   I 24 (.load1) [T 23],
   I 4 (.mv) [T 24],
   I 5 (.mv) [.lit (.bool true)]])
 (.ret)))⟩
theorem t59 : trFn Try.prog Try.f59 = some c_ref10_Store_Size := by kernel_rfl
/-- (*pantry/pantryref10.Store).Peek -/
abbrev n_ref10_Store_Peek : Nat := 60
/-- live: [1, 2, 31, 32, 33] -/
def c_ref10_Store_Peek_L0 : ACode :=
 .seq (.region [I 34 (.bin .lss) [T 33, T 32]])
 (.seq (.cond (T 34)
 (.skip)
 (.exit 0))
 (.seq (.block 1 (.seq (.region [I 35 (.indexs 3) [T 31, T 33],
   I 36 (.loadn 3) [T 35],
   I 10 (.alloc 171 3 (.vals [(.int .i64 0), (.int .i64 0), .nilsl])) [],
   J (.store 3) [T 10, T 36]])
 (.seq (.region [I 37 (.fieldAddr 0) [T 10],
   I 38 (.load1) [T 37],
   I 39 (.mv) [T 1],
   I 40 (.bin .eql) [T 38, T 39],
   I 41 (.mv) [T 40],
   IG 42 (.fieldAddr 1) [T 10] 41 true,
   IG 43 (.load1) [T 42] 41 true,
   IG 44 (.mv) [T 2] 41 true,
   IG 45 (.bin .eql) [T 43, T 44] 41 true,
   I 46 (.pick) [T 41, T 45, .lit (.bool false)]])
 (.cond (T 46)
 (.seq (.region [I 47 (.bslice 5 1 0 (.bytes 1 0) []) [],
    I 48 (.fieldAddr 2) [T 10],
    I 49 (.load1) [T 48],
    I 50 (.append 5 1 1 (.bytes 1 0)) [T 47, T 49],
    I 6 (.mv) [T 50]])
  (.ret))
 (.skip)))))
 (.region [I 51 (.bin .add) [T 33, N 1],
   I 33 (.mv) [T 51]])))
def c_ref10_Store_Peek : AFn := ⟨53, [.tmp 6],
 .seq (.region [I 6 (.mv) [.lit .nilsl]])
 (.seq (.region [I 12 (.mv) [T 0],
   I 13 (.mv) [T 1],
   I 14 (.callv) [F 59, T 12, T 13],
   I 11 (.mv) [T 14],
   I 15 (.extract 0) [T 11],
   I 16 (.extract 1) [T 11],
   I 7 (.mv) [T 15],
   I 8 (.mv) [T 16]])
 (.seq (.seq (.region [I 17 (.mv) [T 8],
   I 18 (.un .not) [T 17],
   I 19 (.mv) [T 18],
   IG 20 (.mv) [T 2] 19 false,
   IG 21 (.bin .lss) [T 20, N 0] 19 false,
   I 22 (.pick) [T 19, .lit (.bool true), T 21],
   I 23 (.mv) [T 22],
   IG 24 (.mv) [T 2] 23 false,
   IG 25 (.mv) [T 7] 23 false,
   IG 26 (.bin .geq) [T 24, T 25] 23 false,
   I 27 (.pick) [T 23, .lit (.bool true), T 26]])
 (.cond (T 27)
 (.seq (.region [I 6 (.mv) [.lit .nilsl]])
  (.ret))
 (.skip)))
 (.seq (.seq (.region [I 28 (.mv) [T 0],
   I 29 (.nilCheck) [T 28],
   I 30 (.fieldAddr 1) [T 29],
   I 31 (.load1) [T 30],
   I 32 (.lens) [T 31],
   I 33 (.mv) [N 0]])
 (.block 0 (.loop c_ref10_Store_Peek_L0)))
 (.seq (.region [I 52 (.mkslice 5 1 1 (.bytes 1 0)) [N 4096, N 4096],
   I 6 (.mv) [T 52]])
 (.ret)))))⟩
theorem t60 : trFn Try.prog Try.f60 = some c_ref10_Store_Peek := by kernel_rfl
/-- (*pantry/spread.Counts).Grow -/
abbrev n_spread_Counts_Grow : Nat := 64
def c_spread_Counts_Grow : AFn := ⟨47, [.tmp 4],
 .seq (.region [I 4 (.mv) [N 0]])
 (.seq (.block 0 (.seq (.region [I 6 (.mv) [T 0],
   I 7 (.callv) [F 112, T 6],
   I 8 (.un .not) [T 7],
   I 5 (.mv) [T 8]])
 (.cond (T 5)
 (.seq (.region [I 4 (.mv) [N 1]])
  (.ret))
 (.seq (.region [I 10 (.mv) [T 1],
    I 11 (.mv) [T 0],
    I 12 (.nilCheck) [T 11],
    I 13 (.fieldAddr 1) [T 12],
    I 14 (.load1) [T 13],
    I 15 (.bin .lss) [T 10, T 14],
    I 16 (.mv) [T 15],
    IG 17 (.mv) [T 1] 16 false,
    IG 18 (.bin .gtr) [T 17, N 4096] 16 false,
    I 19 (.pick) [T 16, .lit (.bool true), T 18],
    I 9 (.mv) [T 19]])
  (.cond (T 9)
  (.seq (.region [I 4 (.mv) [N 2]])
   (.ret))
  (.skip))))))
 (.seq (.seq (.region [I 20 (.mv) [T 1],
   I 21 (.mv) [T 0],
   I 22 (.nilCheck) [T 21],
   I 23 (.fieldAddr 1) [T 22],
   I 24 (.load1) [T 23],
   I 25 (.bin .gtr) [T 20, T 24]])
 (.cond (T 25)
 (.draw [[⟨0, I 26 (.mv) [T 0], [], false⟩,
    ⟨1, I 27 (.mv) [T 0], [], false⟩,
    ⟨2, I 28 (.nilCheck) [T 27], [], false⟩,
    ⟨3, I 29 (.fieldAddr 0) [T 28], [], false⟩,
    ⟨4, I 30 (.load1) [T 29], [], false⟩,
    ⟨6, I 32 (.mv) [T 0], [], false⟩,
    ⟨7, I 33 (.nilCheck) [T 32], [], false⟩,
    ⟨8, I 34 (.fieldAddr 1) [T 33], [], false⟩,
    ⟨9, I 35 (.load1) [T 34], [], false⟩,
    ⟨10, I 36 (.mv) [T 1], [], false⟩,
    ⟨11, I 37 (.build (.agg [(.int .i64 0), (.int .i64 0), (.int .i64 0)]) [(0, 1), (1, 1)]) [T 35, T 36], [], false⟩,
    ⟨5, I 31 (.callv) [F 114, T 30], [(9, I 35 (.load1) [T 34])], false⟩,
    ⟨12, I 38 (.bslice 121 3 1 (.vals [(.int .i64 0), (.int .i64 0), (.int .i64 0)]) [0]) [T 37], [(4, I 30 (.load1) [T 29])], false⟩,
    ⟨13, I 39 (.append 121 3 24 (.vals [(.int .i64 0), (.int .i64 0), (.int .i64 0)])) [T 31, T 38], [], false⟩,
    ⟨14, I 40 (.callv) [F 113, T 39], [], false⟩,
    ⟨15, I 41 (.nilCheck) [T 26], [], false⟩,
    ⟨16, I 42 (.fieldAddr 0) [T 41], [], false⟩,
    ⟨17, J (.store 1) [T 42, T 40], [], false⟩],
[⟨0, I 26 (.mv) [T 0], [], false⟩,
    ⟨1, I 27 (.mv) [T 0], [], false⟩,
    ⟨2, I 28 (.nilCheck) [T 27], [], false⟩,
    ⟨3, I 29 (.fieldAddr 0) [T 28], [], false⟩,
    ⟨4, I 30 (.load1) [T 29], [], false⟩,
    ⟨6, I 32 (.mv) [T 0], [], false⟩,
    ⟨7, I 33 (.nilCheck) [T 32], [], false⟩,
    ⟨8, I 34 (.fieldAddr 1) [T 33], [], false⟩,
    ⟨9, I 35 (.load1) [T 34], [], false⟩,
    ⟨10, I 36 (.mv) [T 1], [], false⟩,
    ⟨11, I 37 (.build (.agg [(.int .i64 0), (.int .i64 0), (.int .i64 0)]) [(0, 1), (1, 1)]) [T 35, T 36], [], false⟩,
    ⟨12, I 38 (.bslice 121 3 1 (.vals [(.int .i64 0), (.int .i64 0), (.int .i64 0)]) [0]) [T 37], [(4, I 30 (.load1) [T 29])], false⟩,
    ⟨5, I 31 (.callv) [F 114, T 30], [(9, I 35 (.load1) [T 34])], false⟩,
    ⟨13, I 39 (.append 121 3 24 (.vals [(.int .i64 0), (.int .i64 0), (.int .i64 0)])) [T 31, T 38], [], false⟩,
    ⟨14, I 40 (.callv) [F 113, T 39], [], false⟩,
    ⟨15, I 41 (.nilCheck) [T 26], [], false⟩,
    ⟨16, I 42 (.fieldAddr 0) [T 41], [], false⟩,
    ⟨17, J (.store 1) [T 42, T 40], [], false⟩]])
 (.skip)))
 (.seq (.region [I 43 (.mv) [T 0],
   I 44 (.mv) [T 1],
   I 45 (.nilCheck) [T 43],
   I 46 (.fieldAddr 1) [T 45],
   J (.store 1) [T 46, T 44]])
 (.seq (.region [I 4 (.mv) [N 0]])
 (.ret)))))⟩
theorem t64 : trFn Try.prog Try.f64 = some c_spread_Counts_Grow := by kernel_rfl
end Go.Proofs.Ytjdemlagmamlbaa

namespace Go.Proofs.Ytjdemlagmamlbaa
/-- (*pantry/swap.Device).may -/
abbrev n_swap_Device_may : Nat := 101
def c_swap_Device_may : AFn := ⟨26, [.tmp 6],
 .seq (.region [I 6 (.mv) [N 0]])
 (.seq (.block 0 (.seq (.region [I 8 (.mv) [T 0],
   I 9 (.callv) [F 103, T 8],
   I 10 (.un .not) [T 9],
   I 7 (.mv) [T 10]])
 (.cond (T 7)
 (.seq (.region [I 6 (.mv) [N 1]])
  (.ret))
 (.seq (.region [I 12 (.mv) [T 1],
    I 13 (.bin .lss) [T 12, N 0],
    I 14 (.mv) [T 13],
    IG 15 (.mv) [T 1] 14 false,
    IG 16 (.mv) [T 0] 14 false,
    IG 17 (.nilCheck) [T 16] 14 false,
    IG 18 (.fieldAddr 0) [T 17] 14 false,
    IG 19 (.load1) [T 18] 14 false,
    IG 20 (.bin .geq) [T 15, T 19] 14 false,
    I 21 (.pick) [T 14, .lit (.bool true), T 20],
    I 22 (.mv) [T 21],
    IG 23 (.mv) [T 2] 22 false,
    IG 24 (.un .not) [T 23] 22 false,
    I 25 (.pick) [T 22, .lit (.bool true), T 24],
    I 11 (.mv) [T 25]])
  (.cond (T 11)
  (.seq (.region [I 6 (.mv) [N 2]])
   (.ret))
  (.skip))))))
 (.seq (.region [I 6 (.mv) [N 0]])
 (.ret)))⟩
theorem t101 : trFn Try.prog Try.f101 = some c_swap_Device_may := by kernel_rfl
/-- (*pantry/swap.plan).fails -/
abbrev n_swap_plan_fails : Nat := 102
def c_swap_plan_fails : AFn := ⟨27, [.tmp 2],
 .seq (.region [I 2 (.mv) [.lit (.bool false)]])
 (.seq (.region [I 3 (.mv) [T 0],
   I 4 (.nilCheck) [T 3],
   I 5 (.fieldAddr 0) [T 4],
   I 6 (.load1) [T 5],
   I 7 (.bin .add) [T 6, N 1],
   I 8 (.nilCheck) [T 3],
   I 9 (.fieldAddr 0) [T 8],
   J (.store 1) [T 9, T 7]])
 (.seq (.seq (.region [I 10 (.mv) [T 0],
   I 11 (.nilCheck) [T 10],
   I 12 (.fieldAddr 1) [T 11],
   I 13 (.load1) [T 12],
   I 14 (.bin .eql) [T 13, N 0]])
 (.cond (T 14)
 (.seq (.region [I 2 (.mv) [.lit (.bool false)]])
  (.ret))
 (.skip)))
 (.seq (.region [I 15 (.mv) [T 0],
   I 16 (.nilCheck) [T 15],
   I 17 (.fieldAddr 1) [T 16],
   I 18 (.load1) [T 17],
   I 19 (.bin .sub) [T 18, N 1],
   I 20 (.nilCheck) [T 15],
   I 21 (.fieldAddr 1) [T 20],
   J (.store 1) [T 21, T 19]])
 (.seq (.region [I 22 (.mv) [T 0],
   I 23 (.nilCheck) [T 22],
   I 24 (.fieldAddr 1) [T 23],
   I 25 (.load1) [T 24],
   I 26 (.bin .eql) [T 25, N 0],
   I 2 (.mv) [T 26]])
 (.ret)))))⟩
theorem t102 : trFn Try.prog Try.f102 = some c_swap_plan_fails := by kernel_rfl
/-- (*pantry/swap.Device).made -/
abbrev n_swap_Device_made : Nat := 103
def c_swap_Device_made : AFn := ⟨11, [.tmp 2],
 .seq (.region [I 2 (.mv) [.lit (.bool false)]])
 (.seq (.region [I 3 (.mv) [T 0],
   I 4 (.eqv true .ptr) [T 3, .lit .nilptr],
   I 5 (.mv) [T 4],
   IG 6 (.mv) [T 0] 5 true,
   IG 7 (.nilCheck) [T 6] 5 true,
   IG 8 (.fieldAddr 1) [T 7] 5 true,
   IG 9 (.load1) [T 8] 5 true,
   I 10 (.pick) [T 5, T 9, .lit (.bool false)],
   I 2 (.mv) [T 10]])
 (.ret))⟩
theorem t103 : trFn Try.prog Try.f103 = some c_swap_Device_made := by kernel_rfl
/-- (*pantry/file.Store).made -/
abbrev n_file_Store_made : Nat := 105
def c_file_Store_made : AFn := ⟨11, [.tmp 2],
 .seq (.region [I 2 (.mv) [.lit (.bool false)]])
 (.seq (.region [I 3 (.mv) [T 0],
   I 4 (.eqv true .ptr) [T 3, .lit .nilptr],
   I 5 (.mv) [T 4],
   IG 6 (.mv) [T 0] 5 true,
   IG 7 (.nilCheck) [T 6] 5 true,
   IG 8 (.fieldAddr 0) [T 7] 5 true,
   IG 9 (.load1) [T 8] 5 true,
   I 10 (.pick) [T 5, T 9, .lit (.bool false)],
   I 2 (.mv) [T 10]])
 (.ret))⟩
theorem t105 : trFn Try.prog Try.f105 = some c_file_Store_made := by kernel_rfl
/-- (*pantry/file.Store).at -/
abbrev n_file_Store_at : Nat := 106
def c_file_Store_at : AFn := ⟨57, [.cell 8 (.loadn 2), .tmp 9],
 .seq (.region [I 8 (.alloc 164 2 (.vals [(.int .i64 0), (.int .i64 0)])) [],
   I 9 (.mv) [N 0]])
 (.seq (.region [I 13 (.mv) [T 0],
   I 14 (.mv) [T 1],
   I 15 (.callv) [F 107, T 13, T 14],
   I 12 (.mv) [T 15],
   I 16 (.extract 0) [T 12],
   I 17 (.extract 1) [T 12],
   I 10 (.mv) [T 16],
   I 11 (.mv) [T 17]])
 (.seq (.block 0 (.seq (.region [I 19 (.mv) [T 11],
   I 20 (.bin .neq) [T 19, N 0],
   I 18 (.mv) [T 20]])
 (.cond (T 18)
 (.seq (.region [I 21 (.build (.agg [(.int .i64 0), (.int .i64 0)]) []) [],
    I 22 (.mv) [T 11],
    J (.store 2) [T 8, T 21],
    I 9 (.mv) [T 22]])
  (.ret))
 (.seq (.region [I 24 (.mv) [T 2],
    I 25 (.bin .lss) [T 24, N 0],
    I 26 (.mv) [T 25],
    IG 27 (.mv) [T 2] 26 false,
    IG 28 (.mv) [T 10] 26 false,
    IG 29 (.bin .geq) [T 27, T 28] 26 false,
    I 30 (.pick) [T 26, .lit (.bool true), T 29],
    I 31 (.mv) [T 30],
    IG 32 (.mv) [T 3] 31 false,
    IG 33 (.un .not) [T 32] 31 false,
    I 34 (.pick) [T 31, .lit (.bool true), T 33],
    I 23 (.mv) [T 34]])
  (.cond (T 23)
  (.seq (.region [I 35 (.build (.agg [(.int .i64 0), (.int .i64 0)]) []) [],
     J (.store 2) [T 8, T 35],
     I 9 (.mv) [N 2]])
   (.ret))
  (.skip))))))
 (.seq (.seq (.region [I 36 (.mv) [T 0],
   I 37 (.nilCheck) [T 36],
   I 38 (.fieldAddr 3) [T 37],
   I 39 (.load1) [T 38],
   I 40 (.bin .gtr) [T 39, N 0]])
 (.cond (T 40)
 (.seq (.region [I 41 (.mv) [T 0],
    I 42 (.nilCheck) [T 41],
    I 43 (.fieldAddr 3) [T 42],
    I 44 (.load1) [T 43],
    I 45 (.bin .sub) [T 44, N 1],
    I 46 (.nilCheck) [T 41],
    I 47 (.fieldAddr 3) [T 46],
    J (.store 1) [T 47, T 45]])
  (.seq (.region [I 48 (.mv) [T 0],
    I 49 (.nilCheck) [T 48],
    I 50 (.fieldAddr 3) [T 49],
    I 51 (.load1) [T 50],
    I 52 (.bin .eql) [T 51, N 0]])
  (.cond (T 52)
  (.seq (.region [I 53 (.build (.agg [(.int .i64 0), (.int .i64 0)]) []) [],
     J (.store 2) [T 8, T 53],
     I 9 (.mv) [N 6]])
   (.ret))
  (.skip))))
 (.skip)))
 (.seq (.region [I 54 (.mv) [T 1],
   I 55 (.mv) [T 2],
   I 56 (.build (.agg [(.int .i64 0), (.int .i64 0)]) [(0, 1), (1, 1)]) [T 54, T 55],
   J (.store 2) [T 8, T 56],
   I 9 (.mv) [N 0]])
 (.ret)))))⟩
theorem t106 : trFn Try.prog Try.f106 = some c_file_Store_at := by kernel_rfl
/-- (*pantry/file.Store).known -/
abbrev n_file_Store_known : Nat := 107
def c_file_Store_known : AFn := ⟨20, [.tmp 4, .tmp 5],
 .seq (.region [I 4 (.mv) [N 0],
   I 5 (.mv) [N 0]])
 (.seq (.seq (.region [I 8 (.mv) [T 0],
   I 9 (.callv) [F 105, T 8],
   I 10 (.un .not) [T 9]])
 (.cond (T 10)
 (.seq (.region [I 4 (.mv) [N 0],
    I 5 (.mv) [N 1]])
  (.ret))
 (.skip)))
 (.seq (.region [I 12 (.mv) [T 0],
   I 13 (.mv) [T 1],
   I 14 (.callv) [F 49, T 12, T 13],
   I 11 (.mv) [T 14],
   I 15 (.extract 0) [T 11],
   I 16 (.extract 1) [T 11],
   I 6 (.mv) [T 15],
   I 7 (.mv) [T 16]])
 (.seq (.seq (.region [I 17 (.mv) [T 7],
   I 18 (.un .not) [T 17]])
 (.cond (T 18)
 (.seq (.region [I 4 (.mv) [N 0],
    I 5 (.mv) [N 7]])
  (.ret))
 (.skip)))
 (.seq (.region [I 19 (.mv) [T 6],
   I 4 (.mv) [T 19],
   I 5 (.mv) [N 0]])
 (.ret)))))⟩
theorem t107 : trFn Try.prog Try.f107 = some c_file_Store_known := by kernel_rfl
/-- maps.DeleteFunc[map[pantry/file.place][4096]byte,pantry/file.place,[4096]byte] -/
abbrev n_maps_DeleteFunc_map_file_place_4096_byte_file_place_4096_byte : Nat := 108
/-- live: [0, 1, 7] -/
def c_maps_DeleteFunc_map_file_place_4096_byte_file_place_4096_byte_L0 : ACode :=
 .seq (.region [I 8 (.next) [T 7],
   I 9 (.extract 0) [T 8]])
 (.seq (.cond (T 9)
 (.skip)
 (.exit 0))
 (.block 1 (.seq (.region [I 10 (.entry) [T 7],
   I 11 (.extract 0) [T 10],
   I 12 (.extract 1) [T 10],
   I 4 (.alloc 164 2 (.vals [(.int .i64 0), (.int .i64 0)])) [],
   I 5 (.alloc 160 4096 (.bytes 4096 0)) [],
   J (.store 2) [T 4, T 11],
   J (.store 4096) [T 5, T 12]])
 (.seq (.region [I 13 (.mv) [T 1],
   I 14 (.loadn 2) [T 4],
   I 15 (.loadn 4096) [T 5],
   I 16 (.callv) [T 13, T 14, T 15]])
 (.cond (T 16)
 (.region [I 17 (.mv) [T 0],
    I 18 (.loadn 2) [T 4],
    J (.delete (.flat [.int, .int])) [T 17, T 18]])
 (.skip))))))
def c_maps_DeleteFunc_map_file_place_4096_byte_file_place_4096_byte : AFn := ⟨19, [],
 .seq (.region [I 6 (.mv) [T 0],
   I 7 (.range) [T 6]])
 (.block 0 (.loop c_maps_DeleteFunc_map_file_place_4096_byte_file_place_4096_byte_L0))⟩
theorem t108 : trFn Try.prog Try.f108 = some c_maps_DeleteFunc_map_file_place_4096_byte_file_place_4096_byte := by kernel_rfl
/-- (*pantry/file.Store).Resize$1 -/
abbrev n_file_Store_Resize_1 : Nat := 109
def c_file_Store_Resize_1 : AFn := ⟨17, [.tmp 6],
 .seq (.region [I 4 (.box 164 2) [T 0],
   I 5 (.box 160 4096) [T 1],
   I 6 (.mv) [.lit (.bool false)]])
 (.seq (.region [I 7 (.fieldAddr 0) [T 4],
   I 8 (.load1) [T 7],
   I 9 (.load1) [T 2],
   I 10 (.bin .eql) [T 8, T 9],
   I 11 (.mv) [T 10],
   IG 12 (.fieldAddr 1) [T 4] 11 true,
   IG 13 (.load1) [T 12] 11 true,
   IG 14 (.load1) [T 3] 11 true,
   IG 15 (.bin .geq) [T 13, T 14] 11 true,
   I 16 (.pick) [T 11, T 15, .lit (.bool false)],
   I 6 (.mv) [T 16]])
 (.ret))⟩
theorem t109 : trFn Try.prog Try.f109 = some c_file_Store_Resize_1 := by kernel_rfl
/-- (*pantry/pantryref10.Store).without -/
abbrev n_ref10_Store_without : Nat := 110
/-- live: [1, 2, 3, 9, 15, 16, 17] -/
def c_ref10_Store_without_L0 : ACode :=
 .seq (.region [I 18 (.bin .lss) [T 17, T 16]])
 (.seq (.cond (T 18)
 (.skip)
 (.exit 0))
 (.seq (.block 1 (.seq (.region [I 19 (.indexs 3) [T 15, T 17],
   I 20 (.loadn 3) [T 19],
   I 11 (.alloc 171 3 (.vals [(.int .i64 0), (.int .i64 0), .nilsl])) [],
   J (.store 3) [T 11, T 20]])
 (.seq (.region [I 21 (.fieldAddr 0) [T 11],
   I 22 (.load1) [T 21],
   I 23 (.mv) [T 1],
   I 24 (.bin .eql) [T 22, T 23],
   I 25 (.mv) [T 24],
   IG 26 (.fieldAddr 1) [T 11] 25 true,
   IG 27 (.load1) [T 26] 25 true,
   IG 28 (.mv) [T 2] 25 true,
   IG 29 (.bin .eql) [T 27, T 28] 25 true,
   IG 30 (.mv) [T 29] 25 true,
   IG 31 (.mv) [T 3] 30 false,
   IG 32 (.mv) [T 31] 30 false,
   IG 33 (.fieldAddr 1) [T 11] 32 true,
   IG 34 (.load1) [T 33] 32 true,
   IG 35 (.mv) [T 2] 32 true,
   IG 36 (.bin .geq) [T 34, T 35] 32 true,
   IG 37 (.pick) [T 32, T 36, .lit (.bool false)] 30 false,
   IG 38 (.pick) [T 30, .lit (.bool true), T 37] 25 true,
   I 39 (.pick) [T 25, T 38, .lit (.bool false)],
   I 40 (.un .not) [T 39]])
 (.cond (T 40)
 (.region [I 41 (.mv) [T 9],
    I 42 (.loadn 3) [T 11],
    I 43 (.bslice 171 3 1 (.vals [(.int .i64 0), (.int .i64 0), .nilsl]) [0]) [T 42],
    I 44 (.append 171 3 40 (.vals [(.int .i64 0), (.int .i64 0), .nilsl])) [T 41, T 43],
    I 9 (.mv) [T 44]])
 (.skip)))))
 (.region [I 45 (.bin .add) [T 17, N 1],
   I 17 (.mv) [T 45]])))
def c_ref10_Store_without : AFn := ⟨47, [.tmp 8],
 .seq (.region [I 8 (.mv) [.lit .nilsl]])
 (.seq (.region [I 9 (.mv) [.lit .nilsl]])
 (.seq (.seq (.region [I 12 (.mv) [T 0],
   I 13 (.nilCheck) [T 12],
   I 14 (.fieldAddr 1) [T 13],
   I 15 (.load1) [T 14],
   I 16 (.lens) [T 15],
   I 17 (.mv) [N 0]])
 (.block 0 (.loop c_ref10_Store_without_L0)))
 (.seq (.region [I 46 (.mv) [T 9],
   I 8 (.mv) [T 46]])
 (.ret))))⟩
theorem t110 : trFn Try.prog Try.f110 = some c_ref10_Store_without := by kernel_rfl
/-- (*pantry/pantryref10.Store).fails -/
abbrev n_ref10_Store_fails : Nat := 111
def c_ref10_Store_fails : AFn := ⟨20, [.tmp 2],
 .seq (.region [I 2 (.mv) [.lit (.bool false)]])
 (.seq (.seq (.region [I 3 (.mv) [T 0],
   I 4 (.nilCheck) [T 3],
   I 5 (.fieldAddr 2) [T 4],
   I 6 (.load1) [T 5],
   I 7 (.bin .eql) [T 6, N 0]])
 (.cond (T 7)
 (.seq (.region [I 2 (.mv) [.lit (.bool false)]])
  (.ret))
 (.skip)))
 (.seq (.region [I 8 (.mv) [T 0],
   I 9 (.nilCheck) [T 8],
   I 10 (.fieldAddr 2) [T 9],
   I 11 (.load1) [T 10],
   I 12 (.bin .sub) [T 11, N 1],
   I 13 (.nilCheck) [T 8],
   I 14 (.fieldAddr 2) [T 13],
   J (.store 1) [T 14, T 12]])
 (.seq (.region [I 15 (.mv) [T 0],
   I 16 (.nilCheck) [T 15],
   I 17 (.fieldAddr 2) [T 16],
   I 18 (.load1) [T 17],
   I 19 (.bin .eql) [T 18, N 0],
   I 2 (.mv) [T 19]])
 (.ret))))⟩
theorem t111 : trFn Try.prog Try.f111 = some c_ref10_Store_fails := by kernel_rfl
def tab : BT := (.node (.node (.node (.node (.node (.node .leaf 2 c_gosem_cut_init .leaf) 3 c_law09_SwapKeeps .leaf) 4 c_law09_SwapPlans (.node (.node .leaf 12 c_law10_FileActs .leaf) 24 c_swap_New .leaf)) 26 c_law09_lives (.node (.node (.node .leaf 27 c_law09_page .leaf) 28 c_swap_Device_Write .leaf) 30 c_swap_Device_Plan (.node .leaf 32 c_ref01_Bytes .leaf))) 41 c_law10_lives (.node (.node (.node (.node .leaf 42 c_file_New .leaf) 43 c_file_Store_Make .leaf) 44 c_file_Store_Write (.node .leaf 45 c_law10_page .leaf)) 46 c_file_Store_Resize (.node (.node (.node .leaf 47 c_file_Store_Read .leaf) 48 c_file_Store_Plan .leaf) 49 c_file_Store_Size (.node .leaf 50 c_file_Store_Ids .leaf)))) 51 c_file_Store_Peek (.node (.node (.node (.node (.node .leaf 52 c_law10_light .leaf) 53 c_ref10_Store_Make .leaf) 54 c_ref10_Store_Resize (.node (.node .leaf 55 c_ref10_Store_Read .leaf) 56 c_law10_Act_bytes .leaf)) 57 c_ref10_Store_Write (.node (.node (.node .leaf 58 c_ref10_Store_Plan .leaf) 59 c_ref10_Store_Size .leaf) 60 c_ref10_Store_Peek (.node .leaf 64 c_spread_Counts_Grow .leaf))) 101 c_swap_Device_may (.node (.node (.node (.node .leaf 102 c_swap_plan_fails .leaf) 103 c_swap_Device_made .leaf) 105 c_file_Store_made (.node .leaf 106 c_file_Store_at .leaf)) 107 c_file_Store_known (.node (.node (.node .leaf 108 c_maps_DeleteFunc_map_file_place_4096_byte_file_place_4096_byte .leaf) 109 c_file_Store_Resize_1 .leaf) 110 c_ref10_Store_without (.node .leaf 111 c_ref10_Store_fails .leaf)))))
theorem i2 : Is Try.prog 2 c_gosem_cut_init := ⟨Try.f2, Try.func2, t2, Try.call2⟩
theorem i3 : Is Try.prog 3 c_law09_SwapKeeps := ⟨Try.f3, Try.func3, t3, Try.call3⟩
theorem i4 : Is Try.prog 4 c_law09_SwapPlans := ⟨Try.f4, Try.func4, t4, Try.call4⟩
theorem i12 : Is Try.prog 12 c_law10_FileActs := ⟨Try.f12, Try.func12, t12, Try.call12⟩
theorem i24 : Is Try.prog 24 c_swap_New := ⟨Try.f24, Try.func24, t24, Try.call24⟩
theorem i26 : Is Try.prog 26 c_law09_lives := ⟨Try.f26, Try.func26, t26, Try.call26⟩
theorem i27 : Is Try.prog 27 c_law09_page := ⟨Try.f27, Try.func27, t27, Try.call27⟩
theorem i28 : Is Try.prog 28 c_swap_Device_Write := ⟨Try.f28, Try.func28, t28, Try.call28⟩
theorem i30 : Is Try.prog 30 c_swap_Device_Plan := ⟨Try.f30, Try.func30, t30, Try.call30⟩
theorem i32 : Is Try.prog 32 c_ref01_Bytes := ⟨Try.f32, Try.func32, t32, Try.call32⟩
theorem i41 : Is Try.prog 41 c_law10_lives := ⟨Try.f41, Try.func41, t41, Try.call41⟩
theorem i42 : Is Try.prog 42 c_file_New := ⟨Try.f42, Try.func42, t42, Try.call42⟩
theorem i43 : Is Try.prog 43 c_file_Store_Make := ⟨Try.f43, Try.func43, t43, Try.call43⟩
theorem i44 : Is Try.prog 44 c_file_Store_Write := ⟨Try.f44, Try.func44, t44, Try.call44⟩
theorem i45 : Is Try.prog 45 c_law10_page := ⟨Try.f45, Try.func45, t45, Try.call45⟩
theorem i46 : Is Try.prog 46 c_file_Store_Resize := ⟨Try.f46, Try.func46, t46, Try.call46⟩
theorem i47 : Is Try.prog 47 c_file_Store_Read := ⟨Try.f47, Try.func47, t47, Try.call47⟩
theorem i48 : Is Try.prog 48 c_file_Store_Plan := ⟨Try.f48, Try.func48, t48, Try.call48⟩
theorem i49 : Is Try.prog 49 c_file_Store_Size := ⟨Try.f49, Try.func49, t49, Try.call49⟩
theorem i50 : Is Try.prog 50 c_file_Store_Ids := ⟨Try.f50, Try.func50, t50, Try.call50⟩
theorem i51 : Is Try.prog 51 c_file_Store_Peek := ⟨Try.f51, Try.func51, t51, Try.call51⟩
theorem i52 : Is Try.prog 52 c_law10_light := ⟨Try.f52, Try.func52, t52, Try.call52⟩
theorem i53 : Is Try.prog 53 c_ref10_Store_Make := ⟨Try.f53, Try.func53, t53, Try.call53⟩
theorem i54 : Is Try.prog 54 c_ref10_Store_Resize := ⟨Try.f54, Try.func54, t54, Try.call54⟩
theorem i55 : Is Try.prog 55 c_ref10_Store_Read := ⟨Try.f55, Try.func55, t55, Try.call55⟩
theorem i56 : Is Try.prog 56 c_law10_Act_bytes := ⟨Try.f56, Try.func56, t56, Try.call56⟩
theorem i57 : Is Try.prog 57 c_ref10_Store_Write := ⟨Try.f57, Try.func57, t57, Try.call57⟩
theorem i58 : Is Try.prog 58 c_ref10_Store_Plan := ⟨Try.f58, Try.func58, t58, Try.call58⟩
theorem i59 : Is Try.prog 59 c_ref10_Store_Size := ⟨Try.f59, Try.func59, t59, Try.call59⟩
theorem i60 : Is Try.prog 60 c_ref10_Store_Peek := ⟨Try.f60, Try.func60, t60, Try.call60⟩
theorem i64 : Is Try.prog 64 c_spread_Counts_Grow := ⟨Try.f64, Try.func64, t64, Try.call64⟩
theorem i101 : Is Try.prog 101 c_swap_Device_may := ⟨Try.f101, Try.func101, t101, Try.call101⟩
theorem i102 : Is Try.prog 102 c_swap_plan_fails := ⟨Try.f102, Try.func102, t102, Try.call102⟩
theorem i103 : Is Try.prog 103 c_swap_Device_made := ⟨Try.f103, Try.func103, t103, Try.call103⟩
theorem i105 : Is Try.prog 105 c_file_Store_made := ⟨Try.f105, Try.func105, t105, Try.call105⟩
theorem i106 : Is Try.prog 106 c_file_Store_at := ⟨Try.f106, Try.func106, t106, Try.call106⟩
theorem i107 : Is Try.prog 107 c_file_Store_known := ⟨Try.f107, Try.func107, t107, Try.call107⟩
theorem i108 : Is Try.prog 108 c_maps_DeleteFunc_map_file_place_4096_byte_file_place_4096_byte := ⟨Try.f108, Try.func108, t108, Try.call108⟩
theorem i109 : Is Try.prog 109 c_file_Store_Resize_1 := ⟨Try.f109, Try.func109, t109, Try.call109⟩
theorem i110 : Is Try.prog 110 c_ref10_Store_without := ⟨Try.f110, Try.func110, t110, Try.call110⟩
theorem i111 : Is Try.prog 111 c_ref10_Store_fails := ⟨Try.f111, Try.func111, t111, Try.call111⟩
theorem tabSound : AllB (Is Try.prog) tab := ⟨⟨⟨⟨⟨⟨trivial, i2, trivial⟩, i3, trivial⟩, i4, ⟨⟨trivial, i12, trivial⟩, i24, trivial⟩⟩, i26, ⟨⟨⟨trivial, i27, trivial⟩, i28, trivial⟩, i30, ⟨trivial, i32, trivial⟩⟩⟩, i41, ⟨⟨⟨⟨trivial, i42, trivial⟩, i43, trivial⟩, i44, ⟨trivial, i45, trivial⟩⟩, i46, ⟨⟨⟨trivial, i47, trivial⟩, i48, trivial⟩, i49, ⟨trivial, i50, trivial⟩⟩⟩⟩, i51, ⟨⟨⟨⟨⟨trivial, i52, trivial⟩, i53, trivial⟩, i54, ⟨⟨trivial, i55, trivial⟩, i56, trivial⟩⟩, i57, ⟨⟨⟨trivial, i58, trivial⟩, i59, trivial⟩, i60, ⟨trivial, i64, trivial⟩⟩⟩, i101, ⟨⟨⟨⟨trivial, i102, trivial⟩, i103, trivial⟩, i105, ⟨trivial, i106, trivial⟩⟩, i107, ⟨⟨⟨trivial, i108, trivial⟩, i109, trivial⟩, i110, ⟨trivial, i111, trivial⟩⟩⟩⟩⟩
end Go.Proofs.Ytjdemlagmamlbaa

namespace Go.Proofs.Ytjdemlagmamlbaa
/-- what a slice of k elements is, with which parts of the heap: its cells are d; may it be written -/
def SlIs (v : AV) (e es k : Nat) (d : Dat) (w : Bool) (cs : List Chunk) : Prop :=
  (v = .nilsl ∧ k = 0 ∧ d.len = 0 ∧ cs = []) ∨ (v = .esl ∧ k = 0 ∧ d.len = 0 ∧ cs = [] ∧ w = false) ∨
  (∃ id off cap D e' es' sf, v = .sl id off k cap ∧ cs = [.pt id (.row e' es' sf (!w) D)] ∧ D.take off (k * es) = some d ∧ k ≤ cap ∧ (w = true → off + cap * es ≤ D.len)) ∨
  (∃ id idx D, v = .ssl id idx es k ∧ cs = [.pt id (.row e es true false D)] ∧ D.take (idx * es) (k * es) = some d ∧ w = true ∧ (idx + k) * es = D.len)
theorem wrap_id {k : IntKind} {n : Int} (h1 : k.min ≤ n) (h2 : n ≤ k.max) : k.wrap n = n := by
  cases k <;> simp only [IntKind.min, IntKind.max, IntKind.signed, IntKind.bits, IntKind.wrap] at * <;> (simp at h1 h2 ⊢) <;> (try split) <;> omega
theorem wrap64 {n : Int} (h1 : -9223372036854775808 ≤ n) (h2 : n ≤ 9223372036854775807) : IntKind.i64.wrap n = n := wrap_id h1 h2
theorem d_add {a b : Int} {h : AHeap} (h1 : -9223372036854775808 ≤ a + b) (h2 : a + b ≤ 9223372036854775807) : Does (.bin .add) [.int .i64 a, .int .i64 b] h (.int .i64 (a + b)) h := ⟨rfl, by
  simp only [aop, binInt, ne_eq, not_true, if_false, Option.map_some, wrap64 h1 h2]⟩
theorem d_sub {a b : Int} {h : AHeap} (h1 : -9223372036854775808 ≤ a - b) (h2 : a - b ≤ 9223372036854775807) : Does (.bin .sub) [.int .i64 a, .int .i64 b] h (.int .i64 (a - b)) h := ⟨rfl, by
  simp only [aop, binInt, ne_eq, not_true, if_false, Option.map_some, wrap64 h1 h2]⟩
/-- a slice, as a part -/
abbrev SlC (v : AV) (e es k : Nat) (d : Dat) (w : Bool) : Chunk := pk 10 v (SlIs v e es k d w)
/-- the address of an element -/
def elemPtr (es : Nat) (v : AV) (i : Nat) : AV :=
  match v with
  | .sl id off _ _ => .ptr id (off + i * es)
  | .ssl id idx _ _ => .ptr id ((idx + i) * es)
  | _ => .junk
section
variable {h : AHeap} {L R : List Chunk} {v : AV} {e es k : Nat} {d : Dat} {w : Bool}
theorem SlIs.len {cs : List Chunk} (x : SlIs v e es k d w cs) : sliceLen v = some k := by
  rcases x with ⟨rfl, rfl, _⟩ | ⟨rfl, rfl, _⟩ | ⟨id, off, cap, D, e', es', sf, rfl, _⟩ | ⟨id, idx, D, rfl, _⟩ <;> rfl
theorem SlIs.dlen {cs : List Chunk} (x : SlIs v e es k d w cs) : d.len = k * es := by
  rcases x with ⟨rfl, rfl, h, _⟩ | ⟨rfl, rfl, h, _⟩ | ⟨id, off, cap, D, e', es', sf, rfl, _, h, _⟩ | ⟨id, idx, D, rfl, _, h, _⟩
  · simpa using h
  · simpa using h
  · exact (Dat.take_spec h).1
  · exact (Dat.take_spec h).1
theorem SlIs.nj {cs : List Chunk} (x : SlIs v e es k d w cs) : v.notJunk = some v := by
  rcases x with ⟨rfl, _⟩ | ⟨rfl, _⟩ | ⟨id, off, cap, D, e', es', sf, rfl, _⟩ | ⟨id, idx, D, rfl, _⟩ <;> rfl
/-- what a slice is, without its parts -/
theorem St.slc (st : St h L) (t : Take L (SlC v e es k d w) R) : sliceLen v = some k ∧ v.notJunk = some v ∧ d.len = k * es := by
  obtain ⟨cs, x, _⟩ := (st.take t).unpack
  exact ⟨x.len, x.nj, x.dlen⟩
theorem d_lens {k : Nat} {v : AV} (hk : sliceLen v = some k) : Does .lens [v] h (.int .i64 k) h := ⟨rfl, by simp only [aop, hk]; rfl⟩
theorem elemPtr_nj (x : sliceLen v = some k) {i : Nat} (hi : i < k) : (elemPtr es v i).notJunk = some (elemPtr es v i) := by
  cases v <;> simp [sliceLen] at x <;> first | rfl | omega
theorem d_indexs {i : Int} {kk : IntKind} (st : St h L) (t : Take L (SlC v e es k d w) R) (h0 : 0 ≤ i) (h1 : i < k) : Does (.indexs es) [v, .int kk i] h (elemPtr es v i.toNat) h := by
  obtain ⟨cs, x, _⟩ := (st.take t).unpack
  refine ⟨rfl, ?_⟩
  rcases x with ⟨rfl, rfl, _⟩ | ⟨rfl, rfl, _⟩ | ⟨id, off, cap, D, e', es', sf, rfl, _⟩ | ⟨id, idx, D, rfl, _⟩
  · omega
  · omega
  · simp only [aop, elemPtr]; rw [if_pos ⟨h0, h1⟩]
  · simp only [aop, elemPtr]; rw [if_pos ⟨h0, h1, trivial⟩]
theorem Dat.take_get {D d : Dat} {off n i : Nat} (h : D.take off n = some d) (hi : i < n) : D.get (off + i) = d.get i := ((Dat.take_spec h).2.2 i hi).symm
theorem d_loadE {i : Nat} {x : AV} (st : St h L) (t : Take L (SlC v e 1 k d w) R) (hi : i < k) (hx : d.get i = some x) : Does .load1 [elemPtr 1 v i] h x h := by
  obtain ⟨cs, y, st'⟩ := (st.take t).unpack
  rcases y with ⟨rfl, rfl, _⟩ | ⟨rfl, rfl, _⟩ | ⟨id, off, cap, D, e', es', sf, rfl, rfl, h3, _⟩ | ⟨id, idx, D, rfl, rfl, h3, _⟩
  · omega
  · omega
  · exact d_load1 st'.get (by rw [Nat.mul_one, Dat.take_get h3 (by omega)]; exact hx)
  · refine d_load1 st'.get ?_
    rw [Nat.mul_one] at *
    rw [Dat.take_get h3 (by omega)]; exact hx
theorem Dat.take_sub {D d : Dat} {off n i m : Nat} (h : D.take off n = some d) (hi : i + m ≤ n) : D.sub (off + i) m = d.sub i m := by
  unfold Dat.take at h
  unfold Dat.sub
  cases D with
  | vals cs =>
    simp only at h
    split at h
    · cases h
      simp only [List.length_take, List.length_drop]
      rw [if_pos (by omega), if_pos (by omega), List.drop_take, List.drop_drop, List.take_take, Nat.min_eq_left (by omega)]
    · cases h
  | bytes l n0 =>
    simp only at h
    split at h
    · cases h
      simp only
      rw [if_pos (by omega), if_pos (by omega)]
      congr 2
      unfold bsub
      apply Nat.eq_of_testBit_eq
      intro j
      rw [Nat.testBit_mod_two_pow, Nat.testBit_mod_two_pow, Nat.testBit_shiftRight, Nat.testBit_shiftRight, Nat.testBit_mod_two_pow, Nat.testBit_shiftRight]
      by_cases hj : j < 8 * m
      · have : 8 * i + j < 8 * n := by omega
        simp only [hj, this, decide_true, Bool.true_and]
        congr 1; omega
      · simp [hj]
    · cases h
theorem d_loadEn {i n : Nat} {x : AV} (st : St h L) (t : Take L (SlC v e es k d w) R) (hn : n = es) (hi : i < k) (hx : d.sub (i * es) es = some x) : Does (.loadn n) [elemPtr es v i] h x h := by
  subst hn
  obtain ⟨cs, y, st'⟩ := (st.take t).unpack
  have hle : i * n + n ≤ k * n := by rw [← Nat.succ_mul]; exact Nat.mul_le_mul_right n hi
  rcases y with ⟨rfl, rfl, _⟩ | ⟨rfl, rfl, _⟩ | ⟨id, off, cap, D, e', es', sf, rfl, rfl, h3, _⟩ | ⟨id, idx, D, rfl, rfl, h3, _⟩
  · omega
  · omega
  · exact d_loadn st'.get (by rw [Dat.take_sub h3 hle]; exact hx)
  · refine d_loadn st'.get ?_
    rw [Nat.add_mul, Dat.take_sub h3 hle]; exact hx
/-- a new row as a slice -/
theorem St.slice {id n cap e' es' : Nat} {sf : Bool} {D : Dat} (st : St h (.pt id (.row e' es' sf false D) :: L)) (h1 : D.take 0 (n * es) = some d) (h2 : n ≤ cap) (h3 : cap * es ≤ D.len) : St h (SlC (.sl id 0 n cap) e es n d true :: L) :=
  St.pack (cs := [.pt id (.row e' es' sf false D)]) st (.inr (.inr (.inl ⟨id, 0, cap, D, e', es', sf, rfl, rfl, h1, h2, fun _ => by omega⟩)))
/-- no slice at all -/
theorem St.nilslice (st : St h L) (e es : Nat) (w : Bool) : St h (SlC .nilsl e es 0 (.vals []) w :: L) := St.pack (cs := []) st (.inl ⟨rfl, rfl, rfl, rfl⟩)
end
theorem bsub_self {n k : Nat} (h : n < 2 ^ (8 * k)) : bsub n 0 k = n := by
  simp only [bsub, Nat.mul_zero, Nat.shiftRight_zero, Nat.mod_eq_of_lt h]
theorem bput_all {n k v : Nat} (hv : v < 2 ^ (8 * k)) (hn : n < 2 ^ (8 * k)) : bput n 0 k v = v := by
  apply Nat.eq_of_testBit_eq
  intro j
  rw [bput_testBit]
  by_cases hj : j < 8 * (0 + k)
  · rw [if_neg (by omega), if_pos hj]; simp
  · rw [if_neg (by omega), if_neg hj]
    have h1 : n < 2 ^ j := Nat.lt_of_lt_of_le hn (Nat.pow_le_pow_right (by decide) (by omega))
    have h2 : v < 2 ^ j := Nat.lt_of_lt_of_le hv (Nat.pow_le_pow_right (by decide) (by omega))
    rw [Nat.testBit_lt_two_pow h1, Nat.testBit_lt_two_pow h2]
theorem byteAt_ext {a b k : Nat} (ha : a < 2 ^ (8 * k)) (hb : b < 2 ^ (8 * k)) (h : ∀ i, i < k → byteAt a i = byteAt b i) : a = b := by
  have := bytes_ext a b k h
  rwa [Nat.mod_eq_of_lt ha, Nat.mod_eq_of_lt hb] at this
end Go.Proofs.Ytjdemlagmamlbaa

namespace Go.Proofs.Ytjdemlagmamlbaa
theorem d_indexa {h : AHeap} {n es id off : Nat} {kk : IntKind} {i : Int} (h0 : 0 ≤ i) (h1 : i < n) : Does (.indexa n es) [.ptr id off, .int kk i] h (.ptr id (off + i.toNat * es)) h := ⟨rfl, by
  simp only [aop]; rw [if_pos ⟨h0, h1⟩]⟩
theorem Tk {L R : List Chunk} {c : Chunk} (h : Take L c R := by repeat (first | exact Take.here | apply Take.there)) : Take L c R := h
theorem Pks {L R cs : List Chunk} (h : Pick L cs R := by repeat (first | exact Take.here | exact Pick.nil | apply Pick.cons | apply Take.there)) : Pick L cs R := h
theorem Sbs {P : Prop} (h : P := by repeat (first | exact trivial | refine ⟨by first | rfl | assumption, ?_⟩)) : P := h
theorem Njs {P : Prop} (h : P := by repeat (first | exact trivial | refine ⟨by first | rfl | assumption, ?_⟩)) : P := h
/-- what is still to be walked -/
inductive KI where
  | code (c : ACode)
  | ins (is : List AIn)
  | dis (ds : List DI)
  | ag (rs : List (Nat × AIn))
  | blk (id : Nat)
  /-- a loop's round ends here: what is to be shown -/
  | lp (J : Env → AHeap → Prop)
mutual
def okSame : AV → Bool
  | .bool _ => true
  | .int _ _ => true
  | .ptr _ _ => true
  | .nilptr => true
  | .sl _ _ _ _ => true
  | .ssl _ _ _ _ => true
  | .nilsl => true
  | .esl => true
  | .map _ => true
  | .nilmap => true
  | .func _ a b => okSameL a && okSameL b
  | .nilfunc => true
  | .yield _ => true
  | .agg a => okSameL a
  | .bytes _ _ => true
  | .tuple a => okSameL a
  | _ => false
def okSameL : List AV → Bool
  | [] => true
  | a :: l => okSame a && okSameL l
end
mutual
theorem same_self : ∀ (v : AV), okSame v = true → AV.same v v = true := by
  intro v h
  cases v with
  | func f a b =>
    simp only [okSame, Bool.and_eq_true] at h
    simp only [AV.same, beq_self_eq_true, Bool.and_eq_true]
    exact ⟨⟨trivial, same_selfL _ h.1⟩, same_selfL _ h.2⟩
  | agg a =>
    simp only [okSame] at h
    simp only [AV.same]
    exact same_selfL _ h
  | tuple a =>
    simp only [okSame] at h
    simp only [AV.same]
    exact same_selfL _ h
  | _ => simp [okSame, AV.same] at h ⊢
theorem same_selfL : ∀ (v : List AV), okSameL v = true → AV.sameL v v = true := by
  intro v h
  cases v with
  | nil => simp [AV.sameL]
  | cons a l =>
    simp only [okSameL, Bool.and_eq_true] at h
    simp only [AV.sameL, Bool.and_eq_true]
    exact ⟨same_self a h.1, same_selfL l h.2⟩
end
/-- what is looked at again tells the same -/
inductive Ag (s : Env) (h : AHeap) : List (Nat × AIn) → Prop where
  | nil : Ag s h []
  | ld {j t : Nat} {os : List Opd} {rs : List (Nat × AIn)} {id off e es : Nat} {soft ro' : Bool} {D : Dat} {v : AV} {L R : List Chunk} : evalLS s os = some [.ptr id off] → look s t = some v → St h L → Take L (.pt id (.row e es soft ro' D)) R → D.get off = some v → okSame v = true → Ag s h rs →
      Ag s h ((j, ⟨some t, .load1, os, none⟩) :: rs)
  | ldn {j t n : Nat} {os : List Opd} {rs : List (Nat × AIn)} {id off e es : Nat} {soft ro' : Bool} {D : Dat} {v : AV} {L R : List Chunk} : evalLS s os = some [.ptr id off] → look s t = some v → St h L → Take L (.pt id (.row e es soft ro' D)) R → D.sub off n = some v → okSame v = true → Ag s h rs →
      Ag s h ((j, ⟨some t, .loadn n, os, none⟩) :: rs)
  | gd {j : Nat} {d : Option Nat} {op : AOp} {os : List Opd} {g : Nat × Bool} {b : Bool} {rs : List (Nat × AIn)} : wantS s (some g) = some b → Ag s h (bif b then (j, ⟨d, op, os, none⟩) :: rs else rs) → Ag s h ((j, ⟨d, op, os, some g⟩) :: rs)
  | dz {j t : Nat} {op : AOp} {os : List Opd} {rs : List (Nat × AIn)} {vs : List AV} {v : AV} : evalLS s os = some vs → look s t = some v → Does op vs h v h → okSame v = true → Ag s h rs → Ag s h ((j, ⟨some t, op, os, none⟩) :: rs)
theorem Ag.ok {s : Env} {h : AHeap} {rs : List (Nat × AIn)} (a : Ag s h rs) : Again s h rs := by
  induction a with
  | nil => trivial
  | ld h1 h2 h3 h4 h5 h6 _ ih => exact ⟨.inr ⟨rfl, _, _, h, h1, (d_load1 (h3.get' h4) h5).run, fun t' e => (by cases e; exact h2), same_self _ h6⟩, ih⟩
  | ldn h1 h2 h3 h4 h5 h6 _ ih => exact ⟨.inr ⟨rfl, _, _, h, h1, (d_loadn (h3.get' h4) h5).run, fun t' e => (by cases e; exact h2), same_self _ h6⟩, ih⟩
  | dz h1 h2 h3 h4 _ ih => exact ⟨.inr ⟨rfl, _, _, h, h1, h3.run, fun t' e => (by cases e; exact h2), same_self _ h4⟩, ih⟩
  | @gd _ _ _ _ _ b _ h1 _ ih =>
    cases b with
    | false => exact ⟨.inl h1, ih⟩
    | true =>
      obtain ⟨h2, h3⟩ := ih
      refine ⟨?_, h3⟩
      rcases h2 with h2 | ⟨_, h2⟩
      · cases h2
      · exact .inr ⟨h1, h2⟩
/-- a choice -/
structure Pk (c : Bool) (a b v : AV) : Prop where
  is : (bif c then a else b) = v
theorem Pk.t {c : Bool} {a b : AV} (h : c = true := by first | rfl | assumption | exact d_t (by omega) | exact q_t (by omega) | exact nq_t (by omega) | exact nd_t (by omega)) : Pk c a b a := ⟨by subst h; rfl⟩
theorem Pk.f {c : Bool} {a b : AV} (h : c = false := by first | rfl | assumption | exact d_f (by omega) | exact q_f (by omega) | exact nq_f (by omega) | exact nd_f (by omega)) : Pk c a b b := ⟨by subst h; rfl⟩
/-- what a step of the walk wants, but the walk behind it -/
theorem Sd {P : Prop} (h : P := by first | (show (_ : Int) ≤ _; omega) | exact rfl | assumption | ((repeat (first | exact Take.here | apply Take.there)); done) | (show Ag _ _ _; (repeat (first | assumption | exact rfl | exact Ag.nil | exact Take.here | apply Take.there | (show Ag _ _ _; constructor))); done) | exact Pk.t | exact Pk.f) : P := h
section
variable (C : SemW) (ro : Option Nat) (N : Nat)
/-- what holds behind what is still to be walked -/
def postK : List KI → (AExit → List AV → AHeap → Prop) → AExit → List AV → AHeap → Prop
  | [], Q => Q
  | .code c :: k, Q => fun x e h => match x with
    | .normal => execW C ro c e h (postK k Q)
    | .exit i => postK k Q (.exit i) e h
    | .ret => postK k Q .ret e h
  | .ins is :: k, Q => fun x e h => match x with
    | .normal => runInsW C is e h (postK k Q .normal)
    | .exit i => postK k Q (.exit i) e h
    | .ret => postK k Q .ret e h
  | .dis ds :: k, Q => fun x e h => match x with
    | .normal => runDrawW C ds e h (postK k Q .normal)
    | .exit i => postK k Q (.exit i) e h
    | .ret => postK k Q .ret e h
  | .ag rs :: k, Q => fun x e h => match x with
    | .normal => rs.all (fun r => again r.2 e h) = true ∧ postK k Q .normal e h
    | .exit i => postK k Q (.exit i) e h
    | .ret => postK k Q .ret e h
  | .blk id :: k, Q => fun x e h => match x with
    | .normal => postK k Q .normal e h
    | .exit i => if i = id then postK k Q .normal e h else postK k Q (.exit i) e h
    | .ret => postK k Q .ret e h
  | .lp J :: k, Q => fun x e h => match x with
    | .normal => ∃ s, e.length = N ∧ Cov s e ∧ J s h
    | .exit i => postK k Q (.exit i) e h
    | .ret => postK k Q .ret e h
end
/-- THE (repeat (first | (show W _ _ _ _ _ _ (.code (cond _ _ _) :: _) _ _; first | refine W.ct ?_ | refine W.cf ?_) | (show W _ _ _ _ _ _ (.ins (cond _ _ _ :: _) :: _) _ _; first | refine W.gt ?_ | refine W.gf ?_) | (show W _ _ _ _ _ _ [] _ _; refine W.of (.done ?_)) | (apply W.of; constructor <;> first | (show W _ _ _ _ _ _ _ _ _) | (intro (al : Nat) h st; show W _ _ _ _ _ _ _ _ _) | (intro _ h st; show W _ _ _ _ _ _ _ _ _) | exact Sd))): what is known of the slots, the heap; how it stands; what is still to be walked; what is to hold behind it. -/
structure W (O : Nat → Option FSpec) (T : BT) (ro : Option Nat) (N : Nat) (Q : AExit → Env → AHeap → Prop) (x : AExit) (k : List KI) (s : Env) (h : AHeap) : Prop where
  run : ∀ e, e.length = N → Cov s e → postK (progI O T) ro N k (fun x e h => ∃ s', e.length = N ∧ Cov s' e ∧ Q x s' h) x e h
section
variable {O : Nat → Option FSpec} {T : BT} {ro : Option Nat} {N : Nat} {Q : AExit → Env → AHeap → Prop} {x : AExit} {k : List KI} {s : Env} {h : AHeap}
section ops
variable {d : Nat} {op : AOp} {os : List Opd} {g : Option (Nat × Bool)} {is : List AIn} {vs : List AV} {v : AV} {L R : List Chunk}
theorem W.dop (ha : evalLS s os = some vs) (ho : Does op vs h v h) (hj : v.notJunk = some v) (hd : Nat.blt d N = true) (w : W O T ro N Q .normal (.ins is :: k) ((d, v) :: s) h) : W O T ro N Q .normal (.ins (⟨some d, op, os, none⟩ :: is) :: k) s h :=
  ⟨fun e hl hc => by
    simp only [postK, runInsW]
    exact runIn_eff hc rfl ha (ho.do (w.run _ (by simpa [setDst] using hl) (hc.set (by rw [hl]; exact blt_of hd) hj)))⟩
theorem W.eff {K : AV → AHeap → Prop} (ho : Eff (progI O T) op vs h K) (ha : evalLS s os = some vs) (hd : Nat.blt d N = true) (w : ∀ v h', K v h' → v.notJunk = some v ∧ W O T ro N Q .normal (.ins is :: k) ((d, v) :: s) h') : W O T ro N Q .normal (.ins (⟨some d, op, os, none⟩ :: is) :: k) s h :=
  ⟨fun e hl hc => by
    simp only [postK, runInsW]
    exact runIn_eff hc rfl ha (doOpW_mono (fun _ _ _ _ x => x) progI_mono (fun v h1 q => (w v h1 q).2.run _ (by simpa [setDst] using hl) (hc.set (by rw [hl]; exact blt_of hd) (w v h1 q).1)) ho.run)⟩
theorem W.eff0 {K : AV → AHeap → Prop} (ho : Eff (progI O T) op vs h K) (ha : evalLS s os = some vs) (w : ∀ v h', K v h' → W O T ro N Q .normal (.ins is :: k) s h') : W O T ro N Q .normal (.ins (⟨none, op, os, none⟩ :: is) :: k) s h :=
  ⟨fun e hl hc => by
    simp only [postK, runInsW]
    exact runIn_eff hc rfl ha (doOpW_mono (fun _ _ _ _ x => x) progI_mono (fun v h1 q => (w v h1 q).run _ hl hc) ho.run)⟩
end ops
end
/-- one step of the walk -/
inductive Stp (O : Nat → Option FSpec) (T : BT) (ro : Option Nat) (N : Nat) (Q : AExit → Env → AHeap → Prop) : AExit → List KI → Env → AHeap → Prop where
  | done {x : AExit} {s : Env} {h : AHeap} : Q x s h → Stp O T ro N Q x [] s h
  | seq {k : List KI} {s : Env} {h : AHeap} {a b : ACode} : W O T ro N Q .normal (.code a :: .code b :: k) s h → Stp O T ro N Q .normal (.code (.seq a b) :: k) s h
  | region {k : List KI} {s : Env} {h : AHeap} {is : List AIn} : W O T ro N Q .normal (.ins is :: k) s h → Stp O T ro N Q .normal (.code (.region is) :: k) s h
  | draw1 {k : List KI} {s : Env} {h : AHeap} {ds : List DI} : W O T ro N Q .normal (.dis ds :: k) s h → Stp O T ro N Q .normal (.code (.draw [ds]) :: k) s h
  | block {k : List KI} {s : Env} {h : AHeap} {id : Nat} {b : ACode} : W O T ro N Q .normal (.code b :: .blk id :: k) s h → Stp O T ro N Q .normal (.code (.block id b) :: k) s h
  | blk {k : List KI} {s : Env} {h : AHeap} {id : Nat} : W O T ro N Q .normal k s h → Stp O T ro N Q .normal (.blk id :: k) s h
  | cond {k : List KI} {s : Env} {h : AHeap} {o : Opd} {q : Bool} {a b : ACode} : evalS s o = some (.bool q) → W O T ro N Q .normal (.code (bif q then a else b) :: k) s h → Stp O T ro N Q .normal (.code (.cond o a b) :: k) s h
  | skip {k : List KI} {s : Env} {h : AHeap} : W O T ro N Q .normal k s h → Stp O T ro N Q .normal (.code .skip :: k) s h
  | ret {k : List KI} {s : Env} {h : AHeap} : W O T ro N Q .ret k s h → Stp O T ro N Q .normal (.code .ret :: k) s h
  | exit {k : List KI} {s : Env} {h : AHeap} {id : Nat} : W O T ro N Q (.exit id) k s h → Stp O T ro N Q .normal (.code (.exit id) :: k) s h
  | rcode {k : List KI} {s : Env} {h : AHeap} {c : ACode} : W O T ro N Q .ret k s h → Stp O T ro N Q .ret (.code c :: k) s h
  | rblk {k : List KI} {s : Env} {h : AHeap} {id : Nat} : W O T ro N Q .ret k s h → Stp O T ro N Q .ret (.blk id :: k) s h
  | rlp {k : List KI} {s : Env} {h : AHeap} {J : Env → AHeap → Prop} : W O T ro N Q .ret k s h → Stp O T ro N Q .ret (.lp J :: k) s h
  | xcode {k : List KI} {s : Env} {h : AHeap} {c : ACode} {i : Nat} : W O T ro N Q (.exit i) k s h → Stp O T ro N Q (.exit i) (.code c :: k) s h
  | xblk {k : List KI} {s : Env} {h : AHeap} {i id : Nat} : W O T ro N Q (bif Nat.beq i id then .normal else .exit i) k s h → Stp O T ro N Q (.exit i) (.blk id :: k) s h
  | xlp {k : List KI} {s : Env} {h : AHeap} {i : Nat} {J : Env → AHeap → Prop} : W O T ro N Q (.exit i) k s h → Stp O T ro N Q (.exit i) (.lp J :: k) s h
  | lp {k : List KI} {s : Env} {h : AHeap} {J : Env → AHeap → Prop} : J s h → Stp O T ro N Q .normal (.lp J :: k) s h
  | inil {k : List KI} {s : Env} {h : AHeap} : W O T ro N Q .normal k s h → Stp O T ro N Q .normal (.ins [] :: k) s h
  | dnil {k : List KI} {s : Env} {h : AHeap} : W O T ro N Q .normal k s h → Stp O T ro N Q .normal (.dis [] :: k) s h
  | dcons {k : List KI} {s : Env} {h : AHeap} {j : Nat} {i : AIn} {rs : List (Nat × AIn)} {fin : Bool} {ds : List DI} : W O T ro N Q .normal (.ins [i] :: .ag rs :: .dis ds :: k) s h → Stp O T ro N Q .normal (.dis (⟨j, i, rs, fin⟩ :: ds) :: k) s h
  | ag {k : List KI} {s : Env} {h : AHeap} {rs : List (Nat × AIn)} : Ag s h rs → W O T ro N Q .normal k s h → Stp O T ro N Q .normal (.ag rs :: k) s h
  | guard {k : List KI} {s : Env} {h : AHeap} {d : Option Nat} {op : AOp} {os : List Opd} {g : Nat × Bool} {b : Bool} {is : List AIn} : wantS s (some g) = some b → W O T ro N Q .normal (.ins ((bif b then ⟨d, op, os, none⟩ else ⟨d, .mv, [.lit (.tuple [])], none⟩) :: is) :: k) s h → Stp O T ro N Q .normal (.ins (⟨d, op, os, some g⟩ :: is) :: k) s h
  | mv {k : List KI} {s : Env} {h : AHeap} {d : Nat} {os : List Opd} {is : List AIn} {v : AV} : evalLS s os = some [v] → AV.notJunk v = some v → Nat.blt d N = true → W O T ro N Q .normal (.ins is :: k) ((d, v) :: s) h → Stp O T ro N Q .normal (.ins (⟨some d, .mv, os, none⟩ :: is) :: k) s h
  | load1 {k : List KI} {s : Env} {h : AHeap} {d : Nat} {os : List Opd} {is : List AIn} {id off e es : Nat} {soft ro' : Bool} {D : Dat} {L R : List Chunk} {v : AV} : evalLS s os = some [.ptr id off] → St h L → Take L (.pt id (.row e es soft ro' D)) R → D.get off = some v → AV.notJunk v = some v → Nat.blt d N = true → W O T ro N Q .normal (.ins is :: k) ((d, v) :: s) h → Stp O T ro N Q .normal (.ins (⟨some d, .load1, os, none⟩ :: is) :: k) s h
  | loadn {k : List KI} {s : Env} {h : AHeap} {d : Nat} {os : List Opd} {is : List AIn} {id off e es : Nat} {soft ro' : Bool} {D : Dat} {L R : List Chunk} {v : AV} {n : Nat} : evalLS s os = some [.ptr id off] → St h L → Take L (.pt id (.row e es soft ro' D)) R → D.sub off n = some v → AV.notJunk v = some v → Nat.blt d N = true → W O T ro N Q .normal (.ins is :: k) ((d, v) :: s) h → Stp O T ro N Q .normal (.ins (⟨some d, (.loadn n), os, none⟩ :: is) :: k) s h
  | pick {k : List KI} {s : Env} {h : AHeap} {d : Nat} {os : List Opd} {is : List AIn} {c : Bool} {a b v : AV} : evalLS s os = some [.bool c, a, b] → Pk c a b v → AV.notJunk v = some v → Nat.blt d N = true → W O T ro N Q .normal (.ins is :: k) ((d, v) :: s) h → Stp O T ro N Q .normal (.ins (⟨some d, .pick, os, none⟩ :: is) :: k) s h
  | lens {k : List KI} {s : Env} {h : AHeap} {d : Nat} {os : List Opd} {is : List AIn} {v : AV} {n : Nat} : evalLS s os = some [v] → sliceLen v = some n → AV.notJunk (.int .i64 n) = some (.int .i64 n) → Nat.blt d N = true → W O T ro N Q .normal (.ins is :: k) ((d, (.int .i64 n)) :: s) h → Stp O T ro N Q .normal (.ins (⟨some d, .lens, os, none⟩ :: is) :: k) s h
  | add {k : List KI} {s : Env} {h : AHeap} {d : Nat} {os : List Opd} {is : List AIn} {a b : Int} : evalLS s os = some [.int .i64 a, .int .i64 b] → -9223372036854775808 ≤ a + b → a + b ≤ 9223372036854775807 → AV.notJunk (.int .i64 (a + b)) = some (.int .i64 (a + b)) → Nat.blt d N = true → W O T ro N Q .normal (.ins is :: k) ((d, (.int .i64 (a + b))) :: s) h → Stp O T ro N Q .normal (.ins (⟨some d, (.bin .add), os, none⟩ :: is) :: k) s h
  | sub {k : List KI} {s : Env} {h : AHeap} {d : Nat} {os : List Opd} {is : List AIn} {a b : Int} : evalLS s os = some [.int .i64 a, .int .i64 b] → -9223372036854775808 ≤ a - b → a - b ≤ 9223372036854775807 → AV.notJunk (.int .i64 (a - b)) = some (.int .i64 (a - b)) → Nat.blt d N = true → W O T ro N Q .normal (.ins is :: k) ((d, (.int .i64 (a - b))) :: s) h → Stp O T ro N Q .normal (.ins (⟨some d, (.bin .sub), os, none⟩ :: is) :: k) s h
  | indexa {k : List KI} {s : Env} {h : AHeap} {d : Nat} {os : List Opd} {is : List AIn} {n es id off : Nat} {kk : IntKind} {i : Int} : evalLS s os = some [.ptr id off, .int kk i] → 0 ≤ i → i < n → AV.notJunk (.ptr id (off + i.toNat * es)) = some (.ptr id (off + i.toNat * es)) → Nat.blt d N = true → W O T ro N Q .normal (.ins is :: k) ((d, (.ptr id (off + i.toNat * es))) :: s) h → Stp O T ro N Q .normal (.ins (⟨some d, (.indexa n es), os, none⟩ :: is) :: k) s h
  | nilCheck {k : List KI} {s : Env} {h : AHeap} {d : Nat} {os : List Opd} {is : List AIn} {vs : List AV} {v : AV} : evalLS s os = some vs → aop .nilCheck vs h = some (v, h) → AV.notJunk v = some v → Nat.blt d N = true → W O T ro N Q .normal (.ins is :: k) ((d, v) :: s) h → Stp O T ro N Q .normal (.ins (⟨some d, .nilCheck, os, none⟩ :: is) :: k) s h
  | eqvS {k : List KI} {s : Env} {h : AHeap} {d : Nat} {os : List Opd} {is : List AIn} {vs : List AV} {v : AV} {n : Bool} {q : Sc} : evalLS s os = some vs → aop (.eqv n (.scal q)) vs h = some (v, h) → AV.notJunk v = some v → Nat.blt d N = true → W O T ro N Q .normal (.ins is :: k) ((d, v) :: s) h → Stp O T ro N Q .normal (.ins (⟨some d, (.eqv n (.scal q)), os, none⟩ :: is) :: k) s h
  | eqvP {k : List KI} {s : Env} {h : AHeap} {d : Nat} {os : List Opd} {is : List AIn} {vs : List AV} {v : AV} {n : Bool} : evalLS s os = some vs → aop (.eqv n .ptr) vs h = some (v, h) → AV.notJunk v = some v → Nat.blt d N = true → W O T ro N Q .normal (.ins is :: k) ((d, v) :: s) h → Stp O T ro N Q .normal (.ins (⟨some d, (.eqv n .ptr), os, none⟩ :: is) :: k) s h
  | eqvL {k : List KI} {s : Env} {h : AHeap} {d : Nat} {os : List Opd} {is : List AIn} {vs : List AV} {v : AV} {n : Bool} : evalLS s os = some vs → aop (.eqv n .slice) vs h = some (v, h) → AV.notJunk v = some v → Nat.blt d N = true → W O T ro N Q .normal (.ins is :: k) ((d, v) :: s) h → Stp O T ro N Q .normal (.ins (⟨some d, (.eqv n .slice), os, none⟩ :: is) :: k) s h
  | eqvM {k : List KI} {s : Env} {h : AHeap} {d : Nat} {os : List Opd} {is : List AIn} {vs : List AV} {v : AV} {n : Bool} : evalLS s os = some vs → aop (.eqv n .map) vs h = some (v, h) → AV.notJunk v = some v → Nat.blt d N = true → W O T ro N Q .normal (.ins is :: k) ((d, v) :: s) h → Stp O T ro N Q .normal (.ins (⟨some d, (.eqv n .map), os, none⟩ :: is) :: k) s h
  | eqvF {k : List KI} {s : Env} {h : AHeap} {d : Nat} {os : List Opd} {is : List AIn} {vs : List AV} {v : AV} {n : Bool} : evalLS s os = some vs → aop (.eqv n .func) vs h = some (v, h) → AV.notJunk v = some v → Nat.blt d N = true → W O T ro N Q .normal (.ins is :: k) ((d, v) :: s) h → Stp O T ro N Q .normal (.ins (⟨some d, (.eqv n .func), os, none⟩ :: is) :: k) s h
  | eqvA {k : List KI} {s : Env} {h : AHeap} {d : Nat} {os : List Opd} {is : List AIn} {vs : List AV} {v : AV} {n : Bool} {q : List Sc} : evalLS s os = some vs → aop (.eqv n (.flat q)) vs h = some (v, h) → AV.notJunk v = some v → Nat.blt d N = true → W O T ro N Q .normal (.ins is :: k) ((d, v) :: s) h → Stp O T ro N Q .normal (.ins (⟨some d, (.eqv n (.flat q)), os, none⟩ :: is) :: k) s h
  | un {k : List KI} {s : Env} {h : AHeap} {d : Nat} {os : List Opd} {is : List AIn} {vs : List AV} {v : AV} {u : UnOp} : evalLS s os = some vs → aop (.un u) vs h = some (v, h) → AV.notJunk v = some v → Nat.blt d N = true → W O T ro N Q .normal (.ins is :: k) ((d, v) :: s) h → Stp O T ro N Q .normal (.ins (⟨some d, (.un u), os, none⟩ :: is) :: k) s h
  | conv {k : List KI} {s : Env} {h : AHeap} {d : Nat} {os : List Opd} {is : List AIn} {vs : List AV} {v : AV} {q : IntKind} : evalLS s os = some vs → aop (.conv q) vs h = some (v, h) → AV.notJunk v = some v → Nat.blt d N = true → W O T ro N Q .normal (.ins is :: k) ((d, v) :: s) h → Stp O T ro N Q .normal (.ins (⟨some d, (.conv q), os, none⟩ :: is) :: k) s h
  | sl2arr {k : List KI} {s : Env} {h : AHeap} {d : Nat} {os : List Opd} {is : List AIn} {vs : List AV} {v : AV} {n : Nat} : evalLS s os = some vs → aop (.sl2arr n) vs h = some (v, h) → AV.notJunk v = some v → Nat.blt d N = true → W O T ro N Q .normal (.ins is :: k) ((d, v) :: s) h → Stp O T ro N Q .normal (.ins (⟨some d, (.sl2arr n), os, none⟩ :: is) :: k) s h
  | mkfunc {k : List KI} {s : Env} {h : AHeap} {d : Nat} {os : List Opd} {is : List AIn} {vs : List AV} {v : AV} {f n : Nat} : evalLS s os = some vs → aop (.mkfunc f n) vs h = some (v, h) → AV.notJunk v = some v → Nat.blt d N = true → W O T ro N Q .normal (.ins is :: k) ((d, v) :: s) h → Stp O T ro N Q .normal (.ins (⟨some d, (.mkfunc f n), os, none⟩ :: is) :: k) s h
  | slice {k : List KI} {s : Env} {h : AHeap} {d : Nat} {os : List Opd} {is : List AIn} {vs : List AV} {v : AV} {es : Nat} {a b c : Bool} : evalLS s os = some vs → aop (.slice es a b c) vs h = some (v, h) → AV.notJunk v = some v → Nat.blt d N = true → W O T ro N Q .normal (.ins is :: k) ((d, v) :: s) h → Stp O T ro N Q .normal (.ins (⟨some d, (.slice es a b c), os, none⟩ :: is) :: k) s h
  | slicea {k : List KI} {s : Env} {h : AHeap} {d : Nat} {os : List Opd} {is : List AIn} {vs : List AV} {v : AV} {n es : Nat} {a b c : Bool} : evalLS s os = some vs → aop (.slicea n es a b c) vs h = some (v, h) → AV.notJunk v = some v → Nat.blt d N = true → W O T ro N Q .normal (.ins is :: k) ((d, v) :: s) h → Stp O T ro N Q .normal (.ins (⟨some d, (.slicea n es a b c), os, none⟩ :: is) :: k) s h
  | fieldAddr {k : List KI} {s : Env} {h : AHeap} {d : Nat} {os : List Opd} {is : List AIn} {vs : List AV} {v : AV} {n : Nat} : evalLS s os = some vs → aop (.fieldAddr n) vs h = some (v, h) → AV.notJunk v = some v → Nat.blt d N = true → W O T ro N Q .normal (.ins is :: k) ((d, v) :: s) h → Stp O T ro N Q .normal (.ins (⟨some d, (.fieldAddr n), os, none⟩ :: is) :: k) s h
  | field {k : List KI} {s : Env} {h : AHeap} {d : Nat} {os : List Opd} {is : List AIn} {vs : List AV} {v : AV} {a b : Nat} {c : Bool} : evalLS s os = some vs → aop (.field a b c) vs h = some (v, h) → AV.notJunk v = some v → Nat.blt d N = true → W O T ro N Q .normal (.ins is :: k) ((d, v) :: s) h → Stp O T ro N Q .normal (.ins (⟨some d, (.field a b c), os, none⟩ :: is) :: k) s h
  | indexv {k : List KI} {s : Env} {h : AHeap} {d : Nat} {os : List Opd} {is : List AIn} {vs : List AV} {v : AV} {a b : Nat} {c : Bool} : evalLS s os = some vs → aop (.indexv a b c) vs h = some (v, h) → AV.notJunk v = some v → Nat.blt d N = true → W O T ro N Q .normal (.ins is :: k) ((d, v) :: s) h → Stp O T ro N Q .normal (.ins (⟨some d, (.indexv a b c), os, none⟩ :: is) :: k) s h
  | extract {k : List KI} {s : Env} {h : AHeap} {d : Nat} {os : List Opd} {is : List AIn} {vs : List AV} {v : AV} {i : Nat} : evalLS s os = some vs → aop (.extract i) vs h = some (v, h) → AV.notJunk v = some v → Nat.blt d N = true → W O T ro N Q .normal (.ins is :: k) ((d, v) :: s) h → Stp O T ro N Q .normal (.ins (⟨some d, (.extract i), os, none⟩ :: is) :: k) s h
  | lenc {k : List KI} {s : Env} {h : AHeap} {d : Nat} {os : List Opd} {is : List AIn} {vs : List AV} {v : AV} {n : Nat} : evalLS s os = some vs → aop (.lenc n) vs h = some (v, h) → AV.notJunk v = some v → Nat.blt d N = true → W O T ro N Q .normal (.ins is :: k) ((d, v) :: s) h → Stp O T ro N Q .normal (.ins (⟨some d, (.lenc n), os, none⟩ :: is) :: k) s h
  | cap {k : List KI} {s : Env} {h : AHeap} {d : Nat} {os : List Opd} {is : List AIn} {vs : List AV} {v : AV} : evalLS s os = some vs → aop .cap vs h = some (v, h) → AV.notJunk v = some v → Nat.blt d N = true → W O T ro N Q .normal (.ins is :: k) ((d, v) :: s) h → Stp O T ro N Q .normal (.ins (⟨some d, .cap, os, none⟩ :: is) :: k) s h
  | lenstr {k : List KI} {s : Env} {h : AHeap} {d : Nat} {os : List Opd} {is : List AIn} {vs : List AV} {v : AV} : evalLS s os = some vs → aop .lenstr vs h = some (v, h) → AV.notJunk v = some v → Nat.blt d N = true → W O T ro N Q .normal (.ins is :: k) ((d, v) :: s) h → Stp O T ro N Q .normal (.ins (⟨some d, .lenstr, os, none⟩ :: is) :: k) s h
  | min {k : List KI} {s : Env} {h : AHeap} {d : Nat} {os : List Opd} {is : List AIn} {vs : List AV} {v : AV} : evalLS s os = some vs → aop .min vs h = some (v, h) → AV.notJunk v = some v → Nat.blt d N = true → W O T ro N Q .normal (.ins is :: k) ((d, v) :: s) h → Stp O T ro N Q .normal (.ins (⟨some d, .min, os, none⟩ :: is) :: k) s h
  | max {k : List KI} {s : Env} {h : AHeap} {d : Nat} {os : List Opd} {is : List AIn} {vs : List AV} {v : AV} : evalLS s os = some vs → aop .max vs h = some (v, h) → AV.notJunk v = some v → Nat.blt d N = true → W O T ro N Q .normal (.ins is :: k) ((d, v) :: s) h → Stp O T ro N Q .normal (.ins (⟨some d, .max, os, none⟩ :: is) :: k) s h
  | build {k : List KI} {s : Env} {h : AHeap} {d : Nat} {os : List Opd} {is : List AIn} {vs : List AV} {v : AV} {z : AV} {ps : List (Nat × Nat)} : evalLS s os = some vs → aop (.build z ps) vs h = some (v, h) → AV.notJunk v = some v → Nat.blt d N = true → W O T ro N Q .normal (.ins is :: k) ((d, v) :: s) h → Stp O T ro N Q .normal (.ins (⟨some d, (.build z ps), os, none⟩ :: is) :: k) s h
  | lss {k : List KI} {s : Env} {h : AHeap} {d : Nat} {os : List Opd} {is : List AIn} {vs : List AV} {v : AV} : evalLS s os = some vs → aop (.bin .lss) vs h = some (v, h) → AV.notJunk v = some v → Nat.blt d N = true → W O T ro N Q .normal (.ins is :: k) ((d, v) :: s) h → Stp O T ro N Q .normal (.ins (⟨some d, (.bin .lss), os, none⟩ :: is) :: k) s h
  | leq {k : List KI} {s : Env} {h : AHeap} {d : Nat} {os : List Opd} {is : List AIn} {vs : List AV} {v : AV} : evalLS s os = some vs → aop (.bin .leq) vs h = some (v, h) → AV.notJunk v = some v → Nat.blt d N = true → W O T ro N Q .normal (.ins is :: k) ((d, v) :: s) h → Stp O T ro N Q .normal (.ins (⟨some d, (.bin .leq), os, none⟩ :: is) :: k) s h
  | gtr {k : List KI} {s : Env} {h : AHeap} {d : Nat} {os : List Opd} {is : List AIn} {vs : List AV} {v : AV} : evalLS s os = some vs → aop (.bin .gtr) vs h = some (v, h) → AV.notJunk v = some v → Nat.blt d N = true → W O T ro N Q .normal (.ins is :: k) ((d, v) :: s) h → Stp O T ro N Q .normal (.ins (⟨some d, (.bin .gtr), os, none⟩ :: is) :: k) s h
  | geq {k : List KI} {s : Env} {h : AHeap} {d : Nat} {os : List Opd} {is : List AIn} {vs : List AV} {v : AV} : evalLS s os = some vs → aop (.bin .geq) vs h = some (v, h) → AV.notJunk v = some v → Nat.blt d N = true → W O T ro N Q .normal (.ins is :: k) ((d, v) :: s) h → Stp O T ro N Q .normal (.ins (⟨some d, (.bin .geq), os, none⟩ :: is) :: k) s h
  | eql {k : List KI} {s : Env} {h : AHeap} {d : Nat} {os : List Opd} {is : List AIn} {vs : List AV} {v : AV} : evalLS s os = some vs → aop (.bin .eql) vs h = some (v, h) → AV.notJunk v = some v → Nat.blt d N = true → W O T ro N Q .normal (.ins is :: k) ((d, v) :: s) h → Stp O T ro N Q .normal (.ins (⟨some d, (.bin .eql), os, none⟩ :: is) :: k) s h
  | neq {k : List KI} {s : Env} {h : AHeap} {d : Nat} {os : List Opd} {is : List AIn} {vs : List AV} {v : AV} : evalLS s os = some vs → aop (.bin .neq) vs h = some (v, h) → AV.notJunk v = some v → Nat.blt d N = true → W O T ro N Q .normal (.ins is :: k) ((d, v) :: s) h → Stp O T ro N Q .normal (.ins (⟨some d, (.bin .neq), os, none⟩ :: is) :: k) s h
  | mul {k : List KI} {s : Env} {h : AHeap} {d : Nat} {os : List Opd} {is : List AIn} {vs : List AV} {v : AV} : evalLS s os = some vs → aop (.bin .mul) vs h = some (v, h) → AV.notJunk v = some v → Nat.blt d N = true → W O T ro N Q .normal (.ins is :: k) ((d, v) :: s) h → Stp O T ro N Q .normal (.ins (⟨some d, (.bin .mul), os, none⟩ :: is) :: k) s h
  | quo {k : List KI} {s : Env} {h : AHeap} {d : Nat} {os : List Opd} {is : List AIn} {vs : List AV} {v : AV} : evalLS s os = some vs → aop (.bin .quo) vs h = some (v, h) → AV.notJunk v = some v → Nat.blt d N = true → W O T ro N Q .normal (.ins is :: k) ((d, v) :: s) h → Stp O T ro N Q .normal (.ins (⟨some d, (.bin .quo), os, none⟩ :: is) :: k) s h
  | rem {k : List KI} {s : Env} {h : AHeap} {d : Nat} {os : List Opd} {is : List AIn} {vs : List AV} {v : AV} : evalLS s os = some vs → aop (.bin .rem) vs h = some (v, h) → AV.notJunk v = some v → Nat.blt d N = true → W O T ro N Q .normal (.ins is :: k) ((d, v) :: s) h → Stp O T ro N Q .normal (.ins (⟨some d, (.bin .rem), os, none⟩ :: is) :: k) s h
  | band {k : List KI} {s : Env} {h : AHeap} {d : Nat} {os : List Opd} {is : List AIn} {vs : List AV} {v : AV} : evalLS s os = some vs → aop (.bin .and) vs h = some (v, h) → AV.notJunk v = some v → Nat.blt d N = true → W O T ro N Q .normal (.ins is :: k) ((d, v) :: s) h → Stp O T ro N Q .normal (.ins (⟨some d, (.bin .and), os, none⟩ :: is) :: k) s h
  | bor {k : List KI} {s : Env} {h : AHeap} {d : Nat} {os : List Opd} {is : List AIn} {vs : List AV} {v : AV} : evalLS s os = some vs → aop (.bin .or) vs h = some (v, h) → AV.notJunk v = some v → Nat.blt d N = true → W O T ro N Q .normal (.ins is :: k) ((d, v) :: s) h → Stp O T ro N Q .normal (.ins (⟨some d, (.bin .or), os, none⟩ :: is) :: k) s h
  | shl {k : List KI} {s : Env} {h : AHeap} {d : Nat} {os : List Opd} {is : List AIn} {vs : List AV} {v : AV} : evalLS s os = some vs → aop (.bin .shl) vs h = some (v, h) → AV.notJunk v = some v → Nat.blt d N = true → W O T ro N Q .normal (.ins is :: k) ((d, v) :: s) h → Stp O T ro N Q .normal (.ins (⟨some d, (.bin .shl), os, none⟩ :: is) :: k) s h
  | shr {k : List KI} {s : Env} {h : AHeap} {d : Nat} {os : List Opd} {is : List AIn} {vs : List AV} {v : AV} : evalLS s os = some vs → aop (.bin .shr) vs h = some (v, h) → AV.notJunk v = some v → Nat.blt d N = true → W O T ro N Q .normal (.ins is :: k) ((d, v) :: s) h → Stp O T ro N Q .normal (.ins (⟨some d, (.bin .shr), os, none⟩ :: is) :: k) s h
  | bandn {k : List KI} {s : Env} {h : AHeap} {d : Nat} {os : List Opd} {is : List AIn} {vs : List AV} {v : AV} : evalLS s os = some vs → aop (.bin .andNot) vs h = some (v, h) → AV.notJunk v = some v → Nat.blt d N = true → W O T ro N Q .normal (.ins is :: k) ((d, v) :: s) h → Stp O T ro N Q .normal (.ins (⟨some d, (.bin .andNot), os, none⟩ :: is) :: k) s h
  | alloc {k : List KI} {s : Env} {h : AHeap} {d : Nat} {os : List Opd} {is : List AIn} {L : List Chunk} {e es : Nat} {z : Dat} : evalLS s os = some [] → St h L → z.len = es → Nat.blt 0 es = true → Nat.blt d N = true → (∀ p h', St h' (.pt p (.row e es false false z) :: L) → W O T ro N Q .normal (.ins is :: k) ((d, .ptr p 0) :: s) h') → Stp O T ro N Q .normal (.ins (⟨some d, (.alloc e es z), os, none⟩ :: is) :: k) s h
  | box {k : List KI} {s : Env} {h : AHeap} {d : Nat} {os : List Opd} {is : List AIn} {L : List Chunk} {e es : Nat} {v : AV} : evalLS s os = some [v] → St h L → v.dat.len = es → Nat.blt 0 es = true → Nat.blt d N = true → (∀ p h', St h' (.pt p (.row e es false false v.dat) :: L) → W O T ro N Q .normal (.ins is :: k) ((d, .ptr p 0) :: s) h') → Stp O T ro N Q .normal (.ins (⟨some d, (.box e es), os, none⟩ :: is) :: k) s h
  | bslice {k : List KI} {s : Env} {h : AHeap} {d : Nat} {os : List Opd} {is : List AIn} {L : List Chunk} {e es len : Nat} {z dd : Dat} {parts : List Nat} {args : List AV} : evalLS s os = some args → St h L → fills (parts.map fun i => (i * es, es)) args (z.rep len) = some dd → dd.len = len * es → Nat.blt 0 es = true → Nat.blt d N = true → (∀ p h', St h' (.pt p (.row e es false false dd) :: L) → W O T ro N Q .normal (.ins is :: k) ((d, .sl p 0 len len) :: s) h') → Stp O T ro N Q .normal (.ins (⟨some d, (.bslice e es len z parts), os, none⟩ :: is) :: k) s h
  | store {k : List KI} {s : Env} {h : AHeap} {os : List Opd} {is : List AIn} {L R : List Chunk} {id off e es n : Nat} {soft : Bool} {D D' : Dat} {v : AV} : evalLS s os = some [.ptr id off, v] → St h L → Take L (.pt id (.row e es soft false D)) R → v.dat.len = n → Nat.blt 0 n = true → D.put off v.dat = some D' → (∀ (_ : Unit) h', St h' (.pt id (.row e es soft false D') :: R) → W O T ro N Q .normal (.ins is :: k) s h') → Stp O T ro N Q .normal (.ins (⟨none, .store n, os, none⟩ :: is) :: k) s h
  | skip0 {k : List KI} {s : Env} {h : AHeap} {os : List Opd} {is : List AIn} {v : AV} : evalLS s os = some [v] → W O T ro N Q .normal (.ins is :: k) s h → Stp O T ro N Q .normal (.ins (⟨none, .mv, os, none⟩ :: is) :: k) s h
section
variable {O : Nat → Option FSpec} {T : BT} {ro : Option Nat} {N : Nat} {Q : AExit → Env → AHeap → Prop} {x : AExit} {k : List KI} {s : Env} {h : AHeap} {L R : List Chunk}
theorem W.of (p : Stp O T ro N Q x k s h) : W O T ro N Q x k s h := by
  cases p with
  | done q => exact ⟨fun e hl hc => ⟨_, hl, hc, q⟩⟩
  | seq w => exact ⟨fun e hl hc => by
      refine execW_mono (fun _ _ _ _ x => x) progI_mono (fun y e h q => ?_) (w.run e hl hc)
      cases y <;> exact q⟩
  | region w => exact ⟨fun e hl hc => w.run e hl hc⟩
  | draw1 w => exact ⟨fun e hl hc ds hd => by rw [List.mem_singleton.1 hd]; exact w.run e hl hc⟩
  | block w => exact ⟨fun e hl hc => by
      refine execW_mono (fun _ _ _ _ x => x) progI_mono (fun y e h q => ?_) (w.run e hl hc)
      cases y <;> exact q⟩
  | blk w => exact ⟨fun e hl hc => w.run e hl hc⟩
  | cond ho w => exact ⟨fun e hl hc => by
      have := w.run e hl hc
      simp only [postK, execW, hc.eval ho] at this ⊢
      rename_i q _ _
      cases q <;> exact this⟩
  | skip w => exact ⟨fun e hl hc => w.run e hl hc⟩
  | ret w => exact ⟨fun e hl hc => w.run e hl hc⟩
  | exit w => exact ⟨fun e hl hc => w.run e hl hc⟩
  | rcode w => exact ⟨fun e hl hc => w.run e hl hc⟩
  | rblk w => exact ⟨fun e hl hc => w.run e hl hc⟩
  | rlp w => exact ⟨fun e hl hc => w.run e hl hc⟩
  | xcode w => exact ⟨fun e hl hc => w.run e hl hc⟩
  | xblk w => exact ⟨fun e hl hc => by
      have := w.run e hl hc
      simp only [postK]
      rename_i i id
      cases hb : Nat.beq i id with
      | true => rw [hb] at this; rw [if_pos (Nat.eq_of_beq_eq_true hb)]; exact this
      | false => rw [hb] at this; rw [if_neg (Nat.ne_of_beq_eq_false hb)]; exact this⟩
  | xlp w => exact ⟨fun e hl hc => w.run e hl hc⟩
  | lp j => exact ⟨fun e hl hc => ⟨_, hl, hc, j⟩⟩
  | inil w => exact ⟨fun e hl hc => w.run e hl hc⟩
  | dnil w => exact ⟨fun e hl hc => w.run e hl hc⟩
  | dcons w => exact ⟨fun e hl hc => w.run e hl hc⟩
  | ag a w => exact ⟨fun e hl hc => ⟨again_ok hc a.ok, w.run e hl hc⟩⟩
  | guard hw w => exact ⟨fun e hl hc => by
      have := w.run e hl hc
      simp only [postK, runInsW, runInW, hc.want hw] at this ⊢
      rename_i b _
      cases b with
      | true => exact this
      | false => simpa only [cond_false, wantedA, evalL, Opd.eval, doOpW, aop] using this⟩
  | mv ha  hj hd w => exact W.dop ha (⟨rfl, rfl⟩) hj hd w
  | load1 ha p0 p1 p2 hj hd w => exact W.dop ha (d_load1 (p0.get' p1) p2) hj hd w
  | loadn ha p0 p1 p2 hj hd w => exact W.dop ha (d_loadn (p0.get' p1) p2) hj hd w
  | pick ha p0 hj hd w => exact W.dop ha (⟨rfl, by obtain ⟨rfl⟩ := p0; cases ‹Bool› <;> rfl⟩) hj hd w
  | lens ha p0 hj hd w => exact W.dop ha (d_lens p0) hj hd w
  | add ha p0 p1 hj hd w => exact W.dop ha (d_add p0 p1) hj hd w
  | sub ha p0 p1 hj hd w => exact W.dop ha (d_sub p0 p1) hj hd w
  | indexa ha p0 p1 hj hd w => exact W.dop ha (d_indexa p0 p1) hj hd w
  | nilCheck ha p0 hj hd w => exact W.dop ha (⟨rfl, p0⟩) hj hd w
  | eqvS ha p0 hj hd w => exact W.dop ha (⟨rfl, p0⟩) hj hd w
  | eqvP ha p0 hj hd w => exact W.dop ha (⟨rfl, p0⟩) hj hd w
  | eqvL ha p0 hj hd w => exact W.dop ha (⟨rfl, p0⟩) hj hd w
  | eqvM ha p0 hj hd w => exact W.dop ha (⟨rfl, p0⟩) hj hd w
  | eqvF ha p0 hj hd w => exact W.dop ha (⟨rfl, p0⟩) hj hd w
  | eqvA ha p0 hj hd w => exact W.dop ha (⟨rfl, p0⟩) hj hd w
  | un ha p0 hj hd w => exact W.dop ha (⟨rfl, p0⟩) hj hd w
  | conv ha p0 hj hd w => exact W.dop ha (⟨rfl, p0⟩) hj hd w
  | sl2arr ha p0 hj hd w => exact W.dop ha (⟨rfl, p0⟩) hj hd w
  | mkfunc ha p0 hj hd w => exact W.dop ha (⟨rfl, p0⟩) hj hd w
  | slice ha p0 hj hd w => exact W.dop ha (⟨rfl, p0⟩) hj hd w
  | slicea ha p0 hj hd w => exact W.dop ha (⟨rfl, p0⟩) hj hd w
  | fieldAddr ha p0 hj hd w => exact W.dop ha (⟨rfl, p0⟩) hj hd w
  | field ha p0 hj hd w => exact W.dop ha (⟨rfl, p0⟩) hj hd w
  | indexv ha p0 hj hd w => exact W.dop ha (⟨rfl, p0⟩) hj hd w
  | extract ha p0 hj hd w => exact W.dop ha (⟨rfl, p0⟩) hj hd w
  | lenc ha p0 hj hd w => exact W.dop ha (⟨rfl, p0⟩) hj hd w
  | cap ha p0 hj hd w => exact W.dop ha (⟨rfl, p0⟩) hj hd w
  | lenstr ha p0 hj hd w => exact W.dop ha (⟨rfl, p0⟩) hj hd w
  | min ha p0 hj hd w => exact W.dop ha (⟨rfl, p0⟩) hj hd w
  | max ha p0 hj hd w => exact W.dop ha (⟨rfl, p0⟩) hj hd w
  | build ha p0 hj hd w => exact W.dop ha (⟨rfl, p0⟩) hj hd w
  | lss ha p0 hj hd w => exact W.dop ha (⟨rfl, p0⟩) hj hd w
  | leq ha p0 hj hd w => exact W.dop ha (⟨rfl, p0⟩) hj hd w
  | gtr ha p0 hj hd w => exact W.dop ha (⟨rfl, p0⟩) hj hd w
  | geq ha p0 hj hd w => exact W.dop ha (⟨rfl, p0⟩) hj hd w
  | eql ha p0 hj hd w => exact W.dop ha (⟨rfl, p0⟩) hj hd w
  | neq ha p0 hj hd w => exact W.dop ha (⟨rfl, p0⟩) hj hd w
  | mul ha p0 hj hd w => exact W.dop ha (⟨rfl, p0⟩) hj hd w
  | quo ha p0 hj hd w => exact W.dop ha (⟨rfl, p0⟩) hj hd w
  | rem ha p0 hj hd w => exact W.dop ha (⟨rfl, p0⟩) hj hd w
  | band ha p0 hj hd w => exact W.dop ha (⟨rfl, p0⟩) hj hd w
  | bor ha p0 hj hd w => exact W.dop ha (⟨rfl, p0⟩) hj hd w
  | shl ha p0 hj hd w => exact W.dop ha (⟨rfl, p0⟩) hj hd w
  | shr ha p0 hj hd w => exact W.dop ha (⟨rfl, p0⟩) hj hd w
  | bandn ha p0 hj hd w => exact W.dop ha (⟨rfl, p0⟩) hj hd w
  | alloc ha st p0 p1 hd w => exact W.eff (e_alloc st p0 p1) ha hd fun _ h' ⟨p, e, st'⟩ => by subst e; exact ⟨rfl, w p h' st'⟩
  | box ha st p0 p1 hd w => exact W.eff (e_box st p0 p1) ha hd fun _ h' ⟨p, e, st'⟩ => by subst e; exact ⟨rfl, w p h' st'⟩
  | bslice ha st p0 p1 p2 hd w => exact W.eff (e_bslice st p0 p1 p2) ha hd fun _ h' ⟨p, e, st'⟩ => by subst e; exact ⟨rfl, w p h' st'⟩
  | store ha st t h1 h2 h3 w => exact W.eff0 (e_store st t h1 h2 h3) ha fun _ h' ⟨_, st'⟩ => w () h' st'
  | skip0 ha w => exact W.eff0 (K := fun _ h' => h' = h) ⟨by simp only [doOpW, aop]⟩ ha fun _ h' e => by subst e; exact w
theorem be_t {q : Bool} (h : q = true) : (q == true) = true := by subst h; rfl
theorem be_f {q : Bool} (h : q = false) : (q == true) = false := by subst h; rfl
theorem bo_t {q : Bool} (h : q = false) : (q == false) = true := by subst h; rfl
theorem bo_f {q : Bool} (h : q = true) : (q == false) = false := by subst h; rfl
/-- a branch whose way is known -/
theorem W.ct {q : Bool} {a b : ACode} (w : W O T ro N Q .normal (.code a :: k) s h) (hq : q = true := by first | assumption | exact d_t (by omega) | exact q_t (by omega) | exact nq_t (by omega) | exact nd_t (by omega)) : W O T ro N Q .normal (.code (bif q then a else b) :: k) s h := by subst hq; exact w
theorem W.cf {q : Bool} {a b : ACode} (w : W O T ro N Q .normal (.code b :: k) s h) (hq : q = false := by first | assumption | exact d_f (by omega) | exact q_f (by omega) | exact nq_f (by omega) | exact nd_f (by omega)) : W O T ro N Q .normal (.code (bif q then a else b) :: k) s h := by subst hq; exact w
theorem W.gt {q : Bool} {a b : AIn} {is : List AIn} (w : W O T ro N Q .normal (.ins (a :: is) :: k) s h) (hq : q = true := by first | exact be_t (by first | assumption | exact d_t (by omega) | exact q_t (by omega) | exact nq_t (by omega) | exact nd_t (by omega)) | exact bo_t (by first | assumption | exact d_f (by omega) | exact q_f (by omega) | exact nq_f (by omega) | exact nd_f (by omega))) : W O T ro N Q .normal (.ins ((bif q then a else b) :: is) :: k) s h := by subst hq; exact w
theorem W.gf {q : Bool} {a b : AIn} {is : List AIn} (w : W O T ro N Q .normal (.ins (b :: is) :: k) s h) (hq : q = false := by first | exact be_f (by first | assumption | exact d_f (by omega) | exact q_f (by omega) | exact nq_f (by omega) | exact nd_f (by omega)) | exact bo_f (by first | assumption | exact d_t (by omega) | exact q_t (by omega) | exact nq_t (by omega) | exact nd_t (by omega))) : W O T ro N Q .normal (.ins ((bif q then a else b) :: is) :: k) s h := by subst hq; exact w
/-- a call, by what is known of the function -/
theorem W.call {d f : Nat} {os : List Opd} {is : List AIn} {first captured rest args : List AV} {Ps : List Chunk} {post : AV → List Chunk → Prop} (ha : evalLS s os = some (.func f first captured :: rest) := by rfl) (hx : first ++ rest ++ captured = args := by rfl) (hs : Spec (progI O T) (.f f) args Ps post)
    (st : St h L := by assumption) (hp : Pick L Ps R := by repeat (first | exact Take.here | exact Pick.nil | apply Pick.cons | apply Take.there)) (hd : Nat.blt d N = true := by rfl) (w : ∀ v Rs, post v Rs → ∀ h', St h' (Rs ++ R) → v.notJunk = some v ∧ W O T ro N Q .normal (.ins is :: k) ((d, v) :: s) h') : W O T ro N Q .normal (.ins (⟨some d, .callv, os, none⟩ :: is) :: k) s h :=
  W.eff (e_call progI_mono hs hx st hp) ha hd fun v h' ⟨Rs, y, z⟩ => w v Rs y h' z
theorem W.ef {d : Nat} {op : AOp} {os : List Opd} {is : List AIn} {vs : List AV} {K : AV → AHeap → Prop} (ha : evalLS s os = some vs := by rfl) (ho : Eff (progI O T) op vs h K) (hd : Nat.blt d N = true := by rfl) (w : ∀ v h', K v h' → v.notJunk = some v ∧ W O T ro N Q .normal (.ins is :: k) ((d, v) :: s) h') :
    W O T ro N Q .normal (.ins (⟨some d, op, os, none⟩ :: is) :: k) s h := W.eff ho ha hd w
theorem W.ef0 {op : AOp} {os : List Opd} {is : List AIn} {vs : List AV} {K : AV → AHeap → Prop} (ha : evalLS s os = some vs := by rfl) (ho : Eff (progI O T) op vs h K) (w : ∀ v h', K v h' → W O T ro N Q .normal (.ins is :: k) s h') :
    W O T ro N Q .normal (.ins (⟨none, op, os, none⟩ :: is) :: k) s h := W.eff0 ho ha w
theorem W.do {d : Nat} {op : AOp} {os : List Opd} {is : List AIn} {vs : List AV} {v : AV} (ha : evalLS s os = some vs := by rfl) (ho : Does op vs h v h) (hj : v.notJunk = some v := by first | rfl | assumption) (hd : Nat.blt d N = true := by rfl) (w : W O T ro N Q .normal (.ins is :: k) ((d, v) :: s) h) :
    W O T ro N Q .normal (.ins (⟨some d, op, os, none⟩ :: is) :: k) s h := W.dop ha ho hj hd w
theorem nj {v : AV} {A : Prop} (k : A) (hj : v.notJunk = some v := by first | rfl | assumption) : v.notJunk = some v ∧ A := ⟨hj, k⟩
theorem W.sub {s' : Env} (hs : Sub s' s) (w : W O T ro N Q x k s' h) : W O T ro N Q x k s h := ⟨fun e hl hc => w.run e hl (hc.sub hs)⟩
theorem small_rounds {n : Nat} (h : n < 1000000) : n < rounds := by unfold rounds; omega
/-- A LOOP: a state, the slots and the parts of the heap by it, and what gets less. -/
theorem W.loop {σ : Type} {b : ACode} (E : σ → Env) (G : σ → List Chunk) (φ : σ → Prop) (m : σ → Nat) (x0 : σ) (hm : m x0 < rounds) (hs : Sub (E x0) s) (st : St h (G x0)) (h0 : φ x0)
    (hb : ∀ y h, φ y → St h (G y) → W O T ro N Q .normal (.code b :: .lp (fun s' h' => ∃ z, m z < m y ∧ φ z ∧ Sub (E z) s' ∧ St h' (G z)) :: k) (E y) h) : W O T ro N Q .normal (.code (.loop b) :: k) s h := by
  have key : ∀ (n : Nat) (y : σ) (h : AHeap), m y < n → φ y → St h (G y) → ∀ e, e.length = N → Cov (E y) e → iterW (execW (progI O T) ro b) n e h (postK (progI O T) ro N k fun x e h => ∃ s', e.length = N ∧ Cov s' e ∧ Q x s' h) := by
    intro n
    induction n with
    | zero => intro y h hy; omega
    | succ n ih =>
      intro y h hy hφ st e hl hc
      refine execW_mono (fun _ _ _ _ x => x) progI_mono (fun z e' h' q => ?_) ((hb y h hφ st).run e hl hc)
      cases z with
      | normal =>
        obtain ⟨s', p1, p2, z, hz, hφ', hsub, st'⟩ := q
        exact ih z h' (by omega) hφ' st' e' p1 (p2.sub hsub)
      | exit i => exact q
      | ret => exact q
  exact ⟨fun e hl hc => key rounds x0 h hm h0 st e hl (hc.sub hs)⟩
/-- a contract: what is known of the parts ahead of the walk -/
theorem spec_in {C : SemW} {f : Fn} {args : List AV} {Ps : List Chunk} {post : AV → List Chunk → Prop} (k : ∀ h F, St h (Ps ++ F) → Spec C f args Ps post) : Spec C f args Ps post := fun h F st => k h F st h F st
/-- a function's contract, by a walk over its code -/
theorem spec_w {n : Nat} {f : AFn} {args : List AV} {Ps : List Chunk} {post : AV → List Chunk → Prop} (u : ∀ args h Q, callW (progI O T) f args h Q → progI O T (.f n) args h Q) (hj : NoJunk args) (hl : Nat.ble args.length f.ntmps = true)
    (k : ∀ h F, St h (Ps ++ F) → W O T none f.ntmps (fnQ f.res fun v h' => ∃ Rs, post v Rs ∧ St h' (Rs ++ F)) .normal [.code f.body] (argS 0 args) h) : Spec (progI O T) (.f n) args Ps post :=
  fun h F st => u _ _ _ (call_walk progI_mono hj hl ⟨fun e hl hc => execW_mono (fun _ _ _ _ x => x) progI_mono (fun y e h q => by cases y <;> exact q) ((k h F st).run e hl hc)⟩)
end
end Go.Proofs.Ytjdemlagmamlbaa

namespace Go.Proofs.Ytjdemlagmamlbaa
section
variable {α β : Type} [DecidableEq α]
def alook : List (α × β) → α → Option β
  | [], _ => none
  | (k, v) :: l, a => if k = a then some v else alook l a
def aput : List (α × β) → α → β → List (α × β)
  | [], a, b => [(a, b)]
  | (k, v) :: l, a, b => if k = a then (a, b) :: l else (k, v) :: aput l a b
def adel : List (α × β) → α → List (α × β)
  | [], _ => []
  | (k, v) :: l, a => if k = a then l else (k, v) :: adel l a
theorem alook_aput (l : List (α × β)) (a : α) (b : β) (x : α) : alook (aput l a b) x = if a = x then some b else alook l x := by
  induction l with
  | nil => simp [aput, alook]
  | cons p l ih =>
    obtain ⟨k, v⟩ := p
    simp only [aput]
    by_cases h : k = a
    · subst h
      rw [if_pos rfl]
      simp only [alook]
      split <;> rfl
    · rw [if_neg h]
      simp only [alook, ih]
      by_cases hk : k = x
      · subst hk
        rw [if_pos rfl, if_pos rfl, if_neg (fun e => h e.symm)]
      · rw [if_neg hk, if_neg hk]
def keys (l : List (α × β)) : List α := l.map Prod.fst
theorem mem_keys_aput {l : List (α × β)} {a : α} {b : β} {x : α} : x ∈ keys (aput l a b) ↔ x = a ∨ x ∈ keys l := by
  induction l with
  | nil => simp [aput, keys]
  | cons p l ih =>
    obtain ⟨k, v⟩ := p
    simp only [aput]
    by_cases h : k = a
    · subst h; rw [if_pos rfl]; simp [keys]
    · rw [if_neg h]
      simp only [keys, List.map_cons, List.mem_cons] at ih ⊢
      rw [ih]
      constructor
      · rintro (h1 | h1 | h1)
        · exact .inr (.inl h1)
        · exact .inl h1
        · exact .inr (.inr h1)
      · rintro (h1 | h1 | h1)
        · exact .inr (.inl h1)
        · exact .inl h1
        · exact .inr (.inr h1)
theorem nodup_aput {l : List (α × β)} {a : α} {b : β} (h : (keys l).Nodup) : (keys (aput l a b)).Nodup := by
  induction l with
  | nil => simp [aput, keys]
  | cons p l ih =>
    obtain ⟨k, v⟩ := p
    simp only [keys, List.map_cons, List.nodup_cons] at h ⊢
    simp only [aput]
    by_cases hk : k = a
    · subst hk; rw [if_pos rfl]; simpa [keys] using h
    · rw [if_neg hk]
      simp only [List.map_cons, List.nodup_cons]
      exact ⟨fun hm => by
        rcases mem_keys_aput.1 hm with h1 | h1
        · exact hk h1
        · exact h.1 h1, ih h.2⟩
theorem nodup_adel {l : List (α × β)} {a : α} (h : (keys l).Nodup) : (keys (adel l a)).Nodup ∧ ∀ x, x ∈ keys (adel l a) → x ∈ keys l := by
  induction l with
  | nil => simp [adel, keys]
  | cons p l ih =>
    obtain ⟨k, v⟩ := p
    simp only [keys, List.map_cons, List.nodup_cons] at h
    simp only [adel]
    by_cases hk : k = a
    · rw [if_pos hk]; exact ⟨h.2, fun x hx => List.mem_cons_of_mem _ hx⟩
    · rw [if_neg hk]
      obtain ⟨h1, h2⟩ := ih h.2
      refine ⟨?_, fun x hx => ?_⟩
      · simp only [keys, List.map_cons, List.nodup_cons]; exact ⟨fun hm => h.1 (h2 _ hm), h1⟩
      · rcases List.mem_cons.1 hx with rfl | hx
        · exact List.mem_cons_self
        · exact List.mem_cons_of_mem _ (h2 x hx)
theorem alook_none {l : List (α × β)} {a : α} : alook l a = none ↔ a ∉ keys l := by
  induction l with
  | nil => simp [alook, keys]
  | cons p l ih =>
    obtain ⟨k, v⟩ := p
    simp only [alook, keys, List.map_cons, List.mem_cons]
    by_cases h : k = a
    · rw [if_pos h]; simp [h]
    · rw [if_neg h, ih]
      constructor
      · intro g hh
        rcases hh with hh | hh
        · exact h hh.symm
        · exact g hh
      · exact fun g hh => g (.inr hh)
theorem alook_adel {l : List (α × β)} {a x : α} (h : (keys l).Nodup) : alook (adel l a) x = if a = x then none else alook l x := by
  induction l with
  | nil => simp [adel, alook]
  | cons p l ih =>
    obtain ⟨k, v⟩ := p
    simp only [keys, List.map_cons, List.nodup_cons] at h
    simp only [adel]
    by_cases hk : k = a
    · subst hk
      rw [if_pos rfl]
      simp only [alook]
      by_cases hx : k = x
      · subst hx; rw [if_pos rfl]; exact alook_none.2 h.1
      · rw [if_neg hx, if_neg hx]
    · rw [if_neg hk]
      simp only [alook, ih h.2]
      by_cases hx : k = x
      · subst hx; rw [if_pos rfl, if_neg (fun e => hk e.symm), if_pos rfl]
      · rw [if_neg hx, if_neg hx]
/-- keys that are equal just where what they are of is -/
def KeyOk (kk : EqK) (ke : α → AV) : Prop := ∀ a b, avEq kk (ke a) (ke b) = some (decide (a = b))
/-- stamps rise, below the next one -/
def Stamps : List (AV × AV × Nat) → Nat → Prop
  | [], _ => True
  | (_, _, b) :: es, clock => b < clock ∧ (∀ e, e ∈ es → b < e.2.2) ∧ Stamps es clock
theorem Stamps.lt : ∀ {es : List (AV × AV × Nat)} {clock : Nat}, Stamps es clock → ∀ e, e ∈ es → e.2.2 < clock
  | (_, _, b) :: es, clock, h, e, he => by
    rcases List.mem_cons.1 he with rfl | he
    · exact h.1
    · exact Stamps.lt h.2.2 e he
theorem Stamps.mono : ∀ {es : List (AV × AV × Nat)} {c c' : Nat}, Stamps es c → c ≤ c' → Stamps es c'
  | [], _, _, _, _ => trivial
  | (_, _, _) :: _, _, _, h, hc => ⟨Nat.lt_of_lt_of_le h.1 hc, h.2.1, Stamps.mono h.2.2 hc⟩
theorem Stamps.snoc : ∀ {es : List (AV × AV × Nat)} {c : Nat} {k v : AV}, Stamps es c → Stamps (es ++ [(k, v, c)]) (c + 1)
  | [], c, _, _, _ => ⟨by omega, by simp, trivial⟩
  | (_, _, b) :: es, c, k, v, h => by
    refine ⟨by have := h.1; omega, fun e he => ?_, Stamps.snoc h.2.2⟩
    rcases List.mem_append.1 he with he | he
    · exact h.2.1 e he
    · rw [List.mem_singleton.1 he]; exact h.1
/-- what a map is -/
def MpIs (ke : α → AV) (ve : β → AV) (M : Nat) (l : List (α × β)) (cs : List Chunk) : Prop :=
  ∃ es clock, cs = [.pt M (.map es clock)] ∧ es.map (fun e => (e.1, e.2.1)) = l.map (fun p => (ke p.1, ve p.2)) ∧ (keys l).Nodup ∧ Stamps es clock
abbrev MpC (M : Nat) (ke : α → AV) (ve : β → AV) (l : List (α × β)) : Chunk := pk 11 (.map M) (MpIs ke ve M l)
theorem findE_is {kk : EqK} {ke : α → AV} {ve : β → AV} (hk : KeyOk kk ke) (a : α) : ∀ {es : List (AV × AV × Nat)} {l : List (α × β)}, es.map (fun e => (e.1, e.2.1)) = l.map (fun p => (ke p.1, ve p.2)) →
    (alook l a = none ∧ findE kk (ke a) es = some none) ∨ (∃ i b s, alook l a = some b ∧ findE kk (ke a) es = some (some i) ∧ es[i]? = some (ke a, ve b, s))
  | [], [], _ => .inl ⟨rfl, rfl⟩
  | [], _ :: _, h => by simp at h
  | _ :: _, [], h => by simp at h
  | (k, v, s) :: es, (a', b') :: l, h => by
    simp only [List.map_cons, List.cons.injEq, Prod.mk.injEq] at h
    obtain ⟨⟨rfl, rfl⟩, h⟩ := h
    simp only [findE, hk a a', alook]
    by_cases e : a = a'
    · subst e
      exact .inr ⟨0, b', s, by simp, by simp, by simp⟩
    · rw [decide_eq_false e, if_neg (fun x => e x.symm)]
      rcases findE_is hk a h with ⟨h1, h2⟩ | ⟨i, b, s', h1, h2, h3⟩
      · exact .inl ⟨h1, by rw [h2]; rfl⟩
      · exact .inr ⟨i + 1, b, s', h1, by rw [h2]; rfl, by simpa using h3⟩
theorem modify_is {ke : α → AV} {ve : β → AV} {kk : EqK} (hk : KeyOk kk ke) (a : α) (b : β) : ∀ {es : List (AV × AV × Nat)} {l : List (α × β)} {i : Nat}, es.map (fun e => (e.1, e.2.1)) = l.map (fun p => (ke p.1, ve p.2)) → findE kk (ke a) es = some (some i) →
    (es.modify i fun e => (ke a, ve b, e.2.2)).map (fun e => (e.1, e.2.1)) = (aput l a b).map (fun p => (ke p.1, ve p.2))
  | [], [], _, _, hf => by simp [findE] at hf
  | [], _ :: _, _, h, _ => by simp at h
  | _ :: _, [], _, h, _ => by simp at h
  | (k, v, s) :: es, (a', b') :: l, i, h, hf => by
    simp only [List.map_cons, List.cons.injEq, Prod.mk.injEq] at h
    obtain ⟨⟨rfl, rfl⟩, h⟩ := h
    simp only [findE, hk a a'] at hf
    simp only [aput]
    by_cases e : a = a'
    · subst e
      simp at hf
      subst hf
      simp [h]
    · rw [decide_eq_false e] at hf
      simp only [Option.map_eq_some_iff] at hf
      obtain ⟨x, hx, hxi⟩ := hf
      rw [if_neg (fun x => e x.symm)]
      cases x with
      | none => simp at hxi
      | some j =>
        simp at hxi
        subst hxi
        simp [List.modify_succ_cons, modify_is hk a b h hx]
theorem aput_new {ke : α → AV} {ve : β → AV} {kk : EqK} (hk : KeyOk kk ke) (a : α) (b : β) : ∀ {es : List (AV × AV × Nat)} {l : List (α × β)}, es.map (fun e => (e.1, e.2.1)) = l.map (fun p => (ke p.1, ve p.2)) → findE kk (ke a) es = some none → aput l a b = l ++ [(a, b)]
  | [], [], _, _ => rfl
  | [], _ :: _, h, _ => by simp at h
  | _ :: _, [], h, _ => by simp at h
  | (k, v, s) :: es, (a', b') :: l, h, hf => by
    simp only [List.map_cons, List.cons.injEq, Prod.mk.injEq] at h
    obtain ⟨⟨rfl, rfl⟩, h⟩ := h
    simp only [findE, hk a a'] at hf
    simp only [aput]
    by_cases e : a = a'
    · subst e; simp at hf
    · rw [decide_eq_false e] at hf
      simp only [Option.map_eq_some_iff] at hf
      obtain ⟨x, hx, hxi⟩ := hf
      rw [if_neg (fun x => e x.symm)]
      cases x with
      | none => rw [aput_new hk a b h hx]; rfl
      | some j => simp at hxi
theorem erase_is {ke : α → AV} {ve : β → AV} {kk : EqK} (hk : KeyOk kk ke) (a : α) : ∀ {es : List (AV × AV × Nat)} {l : List (α × β)} {i : Nat}, es.map (fun e => (e.1, e.2.1)) = l.map (fun p => (ke p.1, ve p.2)) → findE kk (ke a) es = some (some i) →
    (es.eraseIdx i).map (fun e => (e.1, e.2.1)) = (adel l a).map (fun p => (ke p.1, ve p.2))
  | [], [], _, _, hf => by simp [findE] at hf
  | [], _ :: _, _, h, _ => by simp at h
  | _ :: _, [], _, h, _ => by simp at h
  | (k, v, s) :: es, (a', b') :: l, i, h, hf => by
    simp only [List.map_cons, List.cons.injEq, Prod.mk.injEq] at h
    obtain ⟨⟨rfl, rfl⟩, h⟩ := h
    simp only [findE, hk a a'] at hf
    simp only [adel]
    by_cases e : a = a'
    · subst e
      simp at hf
      subst hf
      simp [h]
    · rw [decide_eq_false e] at hf
      simp only [Option.map_eq_some_iff] at hf
      obtain ⟨x, hx, hxi⟩ := hf
      rw [if_neg (fun x => e x.symm)]
      cases x with
      | none => simp at hxi
      | some j =>
        simp at hxi
        subst hxi
        simp [erase_is hk a h hx]
theorem Stamps.modify {f : AV × AV × Nat → AV × AV × Nat} (hf : ∀ e, (f e).2.2 = e.2.2) : ∀ {es : List (AV × AV × Nat)} {c : Nat} (i : Nat), Stamps es c → Stamps (es.modify i f) c ∧ ∀ e, e ∈ es.modify i f → ∃ e', e' ∈ es ∧ e'.2.2 = e.2.2
  | [], _, i, h => by cases i <;> simp [h]
  | (k, v, b) :: es, c, i, h => by
    cases i with
    | zero =>
      simp only [List.modify_zero_cons]
      have hb := hf (k, v, b)
      cases hfe : f (k, v, b) with
      | mk k' vb =>
      obtain ⟨v', b'⟩ := vb
      rw [hfe] at hb
      simp only at hb
      subst hb
      refine ⟨⟨h.1, h.2.1, h.2.2⟩, fun e he => ?_⟩
      rcases List.mem_cons.1 he with rfl | he
      · exact ⟨_, List.mem_cons_self, rfl⟩
      · exact ⟨e, List.mem_cons_of_mem _ he, rfl⟩
    | succ i =>
      simp only [List.modify_succ_cons]
      obtain ⟨h1, h2⟩ := Stamps.modify hf i h.2.2
      refine ⟨⟨h.1, fun e he => ?_, h1⟩, fun e he => ?_⟩
      · obtain ⟨e', he', hb⟩ := h2 e he
        rw [← hb]; exact h.2.1 e' he'
      · rcases List.mem_cons.1 he with rfl | he
        · exact ⟨_, List.mem_cons_self, rfl⟩
        · obtain ⟨e', he', hb⟩ := h2 e he
          exact ⟨e', List.mem_cons_of_mem _ he', hb⟩
theorem Stamps.erase : ∀ {es : List (AV × AV × Nat)} {c : Nat} (i : Nat), Stamps es c → Stamps (es.eraseIdx i) c
  | [], _, i, h => by cases i <;> simp [h]
  | (k, v, b) :: es, c, i, h => by
    cases i with
    | zero => exact h.2.2
    | succ i =>
      simp only [List.eraseIdx_cons_succ]
      exact ⟨h.1, fun e he => h.2.1 e (List.mem_of_mem_eraseIdx he), Stamps.erase i h.2.2⟩
section ops
variable {h : AHeap} {L R : List Chunk} {ke : α → AV} {ve : β → AV} {kk : EqK} {M : Nat} {l : List (α × β)} {C : SemW}
theorem d_lookup (st : St h L) (t : Take L (MpC M ke ve l) R) (hk : KeyOk kk ke) (z : AV) (a : α) : Does (.lookup kk z false) [.map M, ke a] h ((alook l a).elim z ve) h := by
  obtain ⟨cs, ⟨es, clock, rfl, h1, h2, h3⟩, st'⟩ := (st.take t).unpack
  refine ⟨rfl, ?_⟩
  simp only [aop, hk a a, Option.isSome_some, Bool.true_eq_false, if_false, st'.get]
  rcases findE_is hk a h1 with ⟨g1, g2⟩ | ⟨i, b, s, g1, g2, g3⟩
  · rw [g1, g2]; rfl
  · rw [g1, g2]; simp only [g3]; rfl
theorem e_mapput (st : St h L) (t : Take L (MpC M ke ve l) R) (hk : KeyOk kk ke) (a : α) (b : β) : Eff C (.mapput kk) [.map M, ke a, ve b] h fun x h' => x = .tuple [] ∧ St h' (MpC M ke ve (aput l a b) :: R) := .mk (by
  obtain ⟨cs, ⟨es, clock, rfl, h1, h2, h3⟩, st'⟩ := (st.take t).unpack
  rcases findE_is hk a h1 with ⟨g1, g2⟩ | ⟨i, b', s, g1, g2, g3⟩
  · refine Does.do (v := .tuple []) (h1 := h.put M (.map (es ++ [(ke a, ve b, clock)]) (clock + 1))) ⟨rfl, ?_⟩ ⟨rfl, ?_⟩
    · simp only [aop, hk a a, Option.isSome_some, Bool.true_eq_false, if_false, st'.get, g2]
    · refine St.pack (cs := [_]) (st'.put _) ⟨_, _, rfl, ?_, nodup_aput h2, h3.snoc⟩
      rw [aput_new hk a b h1 g2]
      simp [h1]
  · refine Does.do (v := .tuple []) (h1 := h.put M (.map (es.modify i fun e => (ke a, ve b, e.2.2)) clock)) ⟨rfl, ?_⟩ ⟨rfl, ?_⟩
    · simp only [aop, hk a a, Option.isSome_some, Bool.true_eq_false, if_false, st'.get, g2]
    · exact St.pack (cs := [_]) (st'.put _) ⟨_, _, rfl, modify_is hk a b h1 g2, nodup_aput h2, (Stamps.modify (f := fun e => (ke a, ve b, e.2.2)) (fun _ => rfl) i h3).1⟩)
theorem adel_none {l : List (α × β)} {a : α} (h : alook l a = none) : adel l a = l := by
  induction l with
  | nil => rfl
  | cons p l ih =>
    obtain ⟨k, v⟩ := p
    simp only [alook] at h
    simp only [adel]
    by_cases e : k = a
    · rw [if_pos e] at h; cases h
    · rw [if_neg e] at h ⊢; rw [ih h]
theorem e_delete (st : St h L) (t : Take L (MpC M ke ve l) R) (hk : KeyOk kk ke) (a : α) : Eff C (.delete kk) [.map M, ke a] h fun x h' => x = .tuple [] ∧ St h' (MpC M ke ve (adel l a) :: R) := .mk (by
  obtain ⟨cs, ⟨es, clock, rfl, h1, h2, h3⟩, st'⟩ := (st.take t).unpack
  rcases findE_is hk a h1 with ⟨g1, g2⟩ | ⟨i, b', s, g1, g2, g3⟩
  · refine Does.do (v := .tuple []) (h1 := h) ⟨rfl, ?_⟩ ⟨rfl, ?_⟩
    · simp only [aop, hk a a, Option.isSome_some, Bool.true_eq_false, if_false, st'.get, g2]
    · rw [adel_none g1]
      exact St.pack (cs := [_]) st' ⟨_, _, rfl, h1, h2, h3⟩
  · refine Does.do (v := .tuple []) (h1 := h.put M (.map (es.eraseIdx i) clock)) ⟨rfl, ?_⟩ ⟨rfl, ?_⟩
    · simp only [aop, hk a a, Option.isSome_some, Bool.true_eq_false, if_false, st'.get, g2]
    · exact St.pack (cs := [_]) (st'.put _) ⟨_, _, rfl, erase_is hk a h1 g2, (nodup_adel h2).1, h3.erase i⟩)
omit [DecidableEq α] in
theorem e_newmap (st : St h L) (ke : α → AV) (ve : β → AV) : Eff C .mkmap [] h fun x h' => ∃ M, x = .map M ∧ St h' (MpC M ke ve ([] : List (α × β)) :: L) := .mk
  (Does.do (v := .map h.next) (h1 := h.new (.map [] 0)) ⟨rfl, rfl⟩ ⟨h.next, rfl, St.pack (cs := [_]) (st.new _) ⟨[], 0, rfl, rfl, List.nodup_nil, trivial⟩⟩)
end ops
end
end Go.Proofs.Ytjdemlagmamlbaa

namespace Go.Proofs.Ytjdemlagmamlbaa
theorem bput_lt {n off m v l : Nat} (hn : n < 2 ^ (8 * l)) (h : off + m ≤ l) : bput n off m v < 2 ^ (8 * l) := by
  apply Nat.lt_pow_two_of_testBit
  intro i hi
  rw [bput_testBit, if_neg (by omega), if_neg (by omega)]
  exact Nat.testBit_lt_two_pow (Nat.lt_of_lt_of_le hn (Nat.pow_le_pow_right (by decide) hi))
theorem bsub_testBit (n off l i : Nat) : (bsub n off l).testBit i = (decide (i < 8 * l) && n.testBit (8 * off + i)) := by
  unfold bsub
  rw [Nat.testBit_mod_two_pow, Nat.testBit_shiftRight]
/-- written behind a run: the run is longer -/
theorem Dat.put_take {D d d' d'' : Dat} {off n : Nat} (ht : D.take off n = some d) (ha : d.app d' = some d'') (hl : off + n + d'.len ≤ D.len) (hk : (∃ a b c, D = .vals a ∧ d = .vals b ∧ d' = .vals c) ∨ (∃ l a b c m e, D = .bytes l a ∧ d = .bytes b c ∧ d' = .bytes m e)) :
    ∃ D', D.put (off + n) d' = some D' ∧ D'.len = D.len ∧ D'.take off (n + d'.len) = some d'' := by
  rcases hk with ⟨a, b, c, rfl, rfl, rfl⟩ | ⟨l, a, b, c, m, e, rfl, rfl, rfl⟩
  · simp only [Dat.take] at ht
    split at ht
    · cases ht
      simp only [Dat.app, Option.some.injEq] at ha
      subst ha
      simp only [Dat.len] at hl
      refine ⟨.vals (a.take (off + n) ++ c ++ a.drop (off + n + c.length)), by simp only [Dat.put]; rw [if_pos hl], by simp [Dat.len]; omega, ?_⟩
      show Dat.take (.vals (a.take (off + n) ++ c ++ a.drop (off + n + c.length))) off (n + c.length) = _
      simp only [Dat.take]
      rw [if_pos (by simp; omega)]
      congr 2
      rw [List.take_add (l := a), List.append_assoc, List.append_assoc, List.drop_left' (by simp; omega), ← List.append_assoc, List.take_left' (by simp; omega)]
    · cases ht
  · simp only [Dat.take] at ht
    split at ht
    · cases ht
      simp only [Dat.app, Option.some.injEq] at ha
      subst ha
      simp only [Dat.len] at hl
      refine ⟨.bytes l (bput a (off + n) m e), by simp only [Dat.put]; rw [if_pos hl], rfl, ?_⟩
      show Dat.take (.bytes l (bput a (off + n) m e)) off (n + m) = _
      simp only [Dat.take]
      rw [if_pos (by omega)]
      congr 2
      apply Nat.eq_of_testBit_eq
      intro i
      rw [bsub_testBit, bput_testBit, bput_testBit, bsub_testBit, bsub_testBit]
      by_cases h1 : i < 8 * n
      · rw [if_pos (by omega), if_pos (by omega)]
        simp [show i < 8 * (n + m) by omega, h1]
      · by_cases h2 : i < 8 * (n + m)
        · rw [if_neg (by omega), if_pos (by omega), if_neg (by omega), if_pos (by omega)]
          simp only [h2, decide_true, Bool.true_and]; congr 1; omega
        · rw [if_neg (by omega), if_neg (by omega), if_neg (by omega), if_neg (by omega)]; simp [h1, h2]
    · cases ht
section
variable {h : AHeap} {L R R' : List Chunk} {s x v : AV} {e es b k m : Nat} {d d' d'' : Dat} {w : Bool} {C : SemW}
theorem SlIs.sliceDat {cs : List Chunk} (y : SlIs v e es k d w cs) (st : St h (cs ++ L)) : ∃ d0, sliceDat h es v = some d0 ∧ (k ≠ 0 → d0 = d) ∧ d0.len = k * es := by
  rcases y with ⟨rfl, rfl, hl, _⟩ | ⟨rfl, rfl, hl, _⟩ | ⟨id, off, cap, D, e', es', sf, rfl, rfl, h3, _⟩ | ⟨id, idx, D, rfl, rfl, h3, _⟩
  · exact ⟨_, rfl, fun h => absurd rfl h, by simp [Dat.len]⟩
  · exact ⟨_, rfl, fun h => absurd rfl h, by simp [Dat.len]⟩
  · exact ⟨d, by simp only [Go.Proofs.Ytjdemlagmamlbaa.sliceDat, st.get, h3], fun _ => rfl, (Dat.take_spec h3).1⟩
  · exact ⟨d, by simp only [Go.Proofs.Ytjdemlagmamlbaa.sliceDat, st.get, h3, if_true], fun _ => rfl, (Dat.take_spec h3).1⟩
def Alike (d d' : Dat) : Prop := (∃ a b, d = .vals a ∧ d' = .vals b) ∨ (∃ a b c e, d = .bytes a b ∧ d' = .bytes c e)
theorem Dat.take_alike {D d : Dat} {off n : Nat} (h : D.take off n = some d) : Alike D d := by
  unfold Dat.take at h
  split at h
  · split at h
    · cases h; exact .inl ⟨_, _, rfl, rfl⟩
    · cases h
  · split at h
    · cases h; exact .inr ⟨_, _, _, _, rfl, rfl⟩
    · cases h
section
variable {h : AHeap} {e es b k : Nat} {new : Dat}
theorem ap_sl0 {id off len cap : Nat} (hc : len ≤ cap) : appendTo h e es b (.sl id off len cap) new 0 = some (.sl id off len cap, h) := by
  show (if len ≤ cap then _ else _) = _
  rw [if_pos hc]
theorem ap_nil (hk : k ≠ 0) : appendTo h e es b .nilsl new k = if k * b ≤ 2 ^ 40 ∧ k ≤ 2 ^ 40 ∧ new.len = k * es then (newRow' h e es true new).map fun h' => (.ssl h.next 0 es k, h') else none := by
  unfold appendTo; rw [if_neg hk]
theorem ap_sl {id off len cap elem' es' : Nat} {soft ro : Bool} {d : Dat} (hk : k ≠ 0) (hg : h.get id = some (.row elem' es' soft ro d)) : appendTo h e es b (.sl id off len cap) new k = if len + k ≤ cap then
        if ro then none else (d.put (off + len * es) new).map fun d' => (.sl id off (len + k) cap, h.put id (.row elem' es' soft ro d'))
      else if (len + k) * b ≤ 2 ^ 40 ∧ len + k ≤ 2 ^ 40 ∧ new.len = k * es then
        (d.take off (len * es)).bind fun old => (old.app new).bind fun all =>
          (newRow' h e es true all).map fun h' => (.ssl h.next 0 es (len + k), h')
      else none := by
  unfold appendTo; rw [if_neg hk]; simp only [hg]
theorem ap_ssl {id idx len elem' es' es'' : Nat} {d : Dat} (hk : k ≠ 0) (hg : h.get id = some (.row elem' es'' true false d)) : appendTo h e es b (.ssl id idx es' len) new k = if es' = es ∧ es'' = es ∧ elem' = e ∧ 0 < es then
        if (idx + len + k) * es ≤ d.len then
          (d.put ((idx + len) * es) new).map fun d' => (.ssl id idx es (len + k), h.put id (.row elem' es'' true false d'))
        else if (idx + len) * es = d.len ∧ (len + k) * b ≤ 2 ^ 40 ∧ len + k ≤ 2 ^ 40 ∧ new.len = k * es then
          (d.take (idx * es) (len * es)).bind fun old => (old.app new).bind fun all =>
            (newRow' (h.kill id) e es true all).map fun h' => (.ssl h.next 0 es (len + k), h')
        else none
      else none := by
  unfold appendTo; rw [if_neg hk]; simp only [hg]
end
/-- APPEND: the slice is used up. -/
theorem d_append {z : Dat} (st : St h L) (t : Take L (SlC s e es k d true) R) (t' : Take R (SlC x e es m d' w) R') (ha : d.app d' = some d'') (hal : Alike d d') (h0 : m = 0 → d'' = d) (hnil : k = 0 → d'.take 0 (m * es) = some d'')
    (hfull : d''.take 0 ((k + m) * es) = some d'') (hb : (k + m) * b ≤ 2 ^ 40) (hk : k + m ≤ 2 ^ 40) (hes : Nat.blt 0 es = true) :
    ∃ v h', Does (.append e es b z) [s, x] h v h' ∧ v.notJunk = some v ∧ sliceLen v = some (k + m) ∧ St h' (SlC v e es (k + m) d'' true :: SlC x e es m d' w :: R') := by
  have hlt := blt_of hes
  have hx := (st.take t).perm (List.Perm.cons _ t'.perm)
  have hlx := (((st.take t).drop).slc t').1
  have hsx : ∃ d0, sliceDat h es x = some d0 ∧ (m ≠ 0 → d0 = d') ∧ d0.len = m * es := by
    obtain ⟨cs, y, st'⟩ := (((st.take t).drop).take t').unpack
    exact y.sliceDat st'
  obtain ⟨d0, hd0, hdm, hl0⟩ := hsx
  obtain ⟨cs, y, st'⟩ := hx.unpack
  have hd' : d'.len = m * es := (((st.take t).drop).slc t').2.2
  by_cases hm : m = 0
  · subst hm
    have e0 := h0 rfl
    subst e0
    refine ⟨s, h, ⟨rfl, ?_⟩, y.nj, y.len, St.pack st' y⟩
    simp only [aop, hlx, hd0]
    rcases y with ⟨rfl, _⟩ | ⟨rfl, _⟩ | ⟨id, off, cap, D, e', es', sf, rfl, _, _, hc, _⟩ | ⟨id, idx, D, rfl, _⟩
    · rfl
    · rfl
    · exact ap_sl0 hc
    · rfl
  · have e0 := hdm hm
    subst e0
    have hlen : d''.len = (k + m) * es := (Dat.take_spec hfull).1
    rcases y with ⟨rfl, rfl, hl, rfl⟩ | ⟨rfl, rfl, _, _, hw⟩ | ⟨id, off, cap, D, e', es', sf, rfl, rfl, h3, hc, hw⟩ | ⟨id, idx, D, rfl, rfl, h3, hw, hfl⟩
    · have hn := hnil rfl
      refine ⟨.ssl h.next 0 es m, h.new (.row e es true false d0), ⟨rfl, ?_⟩, rfl, by simp [sliceLen], ?_⟩
      · simp only [aop, hlx, hd0, ap_nil hm, newRow']
        rw [if_pos ⟨by simpa using hb, by simpa using hk, hd'⟩, if_pos hlt]; rfl
      · refine St.pack (cs := [.pt h.next (.row e es true false d0)]) (st'.new _) (.inr (.inr (.inr ⟨h.next, 0, d0, by simp, rfl, by simpa using hn, rfl, by simp [hd']⟩)))
    · cases hw
    · have hw' := hw rfl
      by_cases hcap : k + m ≤ cap
      · have hkk : k * es + m * es ≤ cap * es := by rw [← Nat.add_mul]; exact Nat.mul_le_mul_right _ hcap
        obtain ⟨D', p1, p2, p3⟩ := Dat.put_take h3 ha (by rw [hd']; omega) (by
          rcases hal with ⟨a, b, rfl, rfl⟩ | ⟨a, b, c, g, rfl, rfl⟩
          · rcases Dat.take_alike h3 with ⟨a', b', rfl, h⟩ | ⟨_, _, _, _, _, h⟩
            · exact .inl ⟨_, _, _, rfl, rfl, rfl⟩
            · cases h
          · rcases Dat.take_alike h3 with ⟨_, _, _, h⟩ | ⟨_, _, _, _, rfl, h⟩
            · cases h
            · exact .inr ⟨_, _, _, _, _, _, rfl, rfl, rfl⟩)
        refine ⟨.sl id off (k + m) cap, h.put id (.row e' es' sf false D'), ⟨rfl, ?_⟩, rfl, rfl, ?_⟩
        · simp only [aop, hlx, hd0, ap_sl hm st'.get]
          rw [if_pos hcap]
          simp only [Bool.not_true, Bool.false_eq_true, if_false, p1, Option.map_some]
        · refine St.pack (cs := [.pt id (.row e' es' sf false D')]) (st'.put _) (.inr (.inr (.inl ⟨id, off, cap, D', e', es', sf, rfl, rfl, ?_, hcap, fun _ => by rw [p2]; exact hw'⟩)))
          rw [Nat.add_mul, ← hd']; exact p3
      · refine ⟨.ssl h.next 0 es (k + m), h.new (.row e es true false d''), ⟨rfl, ?_⟩, rfl, rfl, ?_⟩
        · simp only [aop, hlx, hd0, ap_sl hm st'.get]
          rw [if_neg hcap, if_pos ⟨hb, hk, hd'⟩]
          simp only [h3, Option.bind_some, ha, newRow']
          rw [if_pos hlt]; rfl
        · refine St.pack (cs := [.pt h.next (.row e es true false d'')]) (st'.drop.new _) (.inr (.inr (.inr ⟨h.next, 0, d'', rfl, rfl, by simpa using hfull, rfl, by simp [hlen]⟩)))
    · refine ⟨.ssl h.next 0 es (k + m), (h.kill id).new (.row e es true false d''), ⟨rfl, ?_⟩, rfl, rfl, ?_⟩
      · simp only [aop, hlx, hd0, ap_ssl hm st'.get]
        have hmm : es ≤ m * es := Nat.le_mul_of_pos_left _ (by omega)
        rw [if_pos ⟨trivial, trivial, trivial, hlt⟩, if_neg (by rw [Nat.add_mul, hfl]; omega), if_pos ⟨hfl, hb, hk, hd'⟩]
        simp only [h3, Option.bind_some, ha, newRow']
        rw [if_pos hlt]; rfl
      · exact St.pack (cs := [.pt h.next (.row e es true false d'')]) (St.new (st'.kill) _) (.inr (.inr (.inr ⟨h.next, 0, d'', rfl, rfl, by simpa using hfull, rfl, by simp [hlen]⟩)))
theorem e_append {z : Dat} (st : St h L) (t : Take L (SlC s e es k d true) R) (t' : Take R (SlC x e es m d' w) R') (ha : d.app d' = some d'') (hal : Alike d d') (h0 : m = 0 → d'' = d) (hnil : k = 0 → d'.take 0 (m * es) = some d'')
    (hfull : d''.take 0 ((k + m) * es) = some d'') (hb : (k + m) * b ≤ 2 ^ 40) (hk : k + m ≤ 2 ^ 40) (hes : Nat.blt 0 es = true) :
    Eff C (.append e es b z) [s, x] h fun v h' => v.notJunk = some v ∧ sliceLen v = some (k + m) ∧ St h' (SlC v e es (k + m) d'' true :: SlC x e es m d' w :: R') := .mk (by
  obtain ⟨v, h', h1, h2⟩ := d_append (z := z) st t t' ha hal h0 hnil hfull hb hk hes
  exact h1.do h2)
end
end Go.Proofs.Ytjdemlagmamlbaa

namespace Go.Proofs.Ytjdemlagmamlbaa
/-- a slice of k bytes, packed -/
def ByIs (v : AV) (k n : Nat) (w : Bool) (cs : List Chunk) : Prop := SlIs v 5 1 k (.bytes k n) w cs ∧ n < 2 ^ (8 * k)
abbrev ByC (v : AV) (k n : Nat) (w : Bool) : Chunk := pk 12 v (ByIs v k n w)
theorem bsub_whole {k n : Nat} (h : n < 2 ^ (8 * k)) : bsub n 0 k = n := bsub_self h
theorem take_bytes {k n : Nat} (h : n < 2 ^ (8 * k)) : Dat.take (.bytes k n) 0 k = some (.bytes k n) := by
  simp only [Dat.take, Nat.zero_add]; rw [if_pos (Nat.le_refl _), bsub_self h]
theorem byteAt_packStr {l n i : Nat} (h : i < l) : (packStr l n).data[i]? = some (UInt8.ofNat (byteAt n i)) := by
  unfold packStr
  simp [h]
theorem packStr_eq_iff {k n m x : Nat} (hn : n < 2 ^ (8 * k)) (hx : x < 2 ^ (8 * m)) : packStr k n = packStr m x ↔ k = m ∧ n = x := by
  constructor
  · intro e
    have hs : k = m := by
      have := congrArg ByteArray.size e
      simpa [packStr, ByteArray.size] using this
    subst hs
    refine ⟨rfl, byteAt_ext hn hx fun i hi => ?_⟩
    have h1 := byteAt_packStr (n := n) hi
    rw [e, byteAt_packStr hi] at h1
    simp only [Option.some.injEq] at h1
    have := congrArg UInt8.toNat h1
    simp only [UInt8.toNat_ofNat'] at this
    have l1 := byteAt_lt n i
    have l2 := byteAt_lt x i
    omega
  · rintro ⟨rfl, rfl⟩; rfl
theorem beqStr (a b : ByteArray) : (a == b) = true ↔ a = b := by
  cases a; cases b
  simp only [ByteArray.mk.injEq]
  rw [← beq_iff_eq (α := Array UInt8)]
  exact Iff.rfl
theorem packStr_beq {k n m x : Nat} (hn : n < 2 ^ (8 * k)) (hx : x < 2 ^ (8 * m)) : (packStr k n == packStr m x) = decide (k = m ∧ n = x) := by
  rw [Bool.eq_iff_iff, beqStr, decide_eq_true_eq]
  exact packStr_eq_iff hn hx
/-- a list out of another one: in its order, what is not wanted left away -/
inductive Sel : List Chunk → List Chunk → Prop where
  | nil {L : List Chunk} : Sel L L
  | cons {L L' R : List Chunk} {c : Chunk} : Take L c L' → Sel L' R → Sel L (c :: R)
  | skip {L R : List Chunk} {c : Chunk} : Sel L R → Sel (c :: L) R
theorem Sels {L R : List Chunk} (h : Sel L R := by repeat (first | exact Sel.nil | exact Take.here | apply Sel.cons | apply Take.there | apply Sel.skip)) : Sel L R := h
theorem semL_sel {L L' : List Chunk} (s : Sel L L') : ∀ {m : Hp}, semL L m → ∃ m', (∀ i o, m' i = some o → m i = some o) ∧ semL L' m' := by
  induction s with
  | nil => exact fun {m} h => ⟨m, fun _ _ e => e, h⟩
  | cons t _ ih =>
    intro m h
    obtain ⟨a, b, h2, h3, h4, h5⟩ := semL_perm t.perm h
    obtain ⟨b', g1, g2⟩ := ih h5
    have key : ∀ i, b' i = none ∨ b' i = b i := fun i => by
      cases hb : b' i with
      | none => exact .inl rfl
      | some o => exact .inr (g1 i o hb).symm
    refine ⟨cup a b', fun i o e => ?_, a, b', fun i => ?_, fun _ => rfl, h4, g2⟩
    · have e : (a i).or (b' i) = some o := e
      rw [h3]
      rcases key i with h | h
      · rw [h, Option.or_none] at e; rw [e]; rfl
      · rw [h] at e; exact e
    · rcases key i with h | h
      · exact .inr (.inl h)
      · have := h2 i; rw [← h] at this; exact this
  | skip _ ih =>
    intro m h
    obtain ⟨a, b, h2, h3, h4, h5⟩ := h
    obtain ⟨b', g1, g2⟩ := ih h5
    exact ⟨b', fun i o e => by rw [h3, C1.comm (h2 i), g1 i o e]; rfl, g2⟩
theorem St.sel {h : AHeap} {L L' : List Chunk} (st : St h L) (s : Sel L L') : St h L' := by
  obtain ⟨m, h1, h2⟩ := st.has
  obtain ⟨m', g1, g2⟩ := semL_sel s h2
  exact ⟨st.wf, m', fun i o e => h1 i o (g1 i o e), g2⟩
/-- parts put together, wherever they are -/
theorem St.packP {h : AHeap} {L R : List Chunk} {t : Nat} {k : AV} {P : List Chunk → Prop} {cs : List Chunk} (st : St h L) (hp : P cs) (p : Pick L cs R) : St h (pk t k P :: R) := St.pack (st.pick p) hp
section
variable {h : AHeap} {L R R' : List Chunk} {v v' : AV} {k n m x : Nat} {w w' : Bool} {C : SemW}
theorem St.by (st : St h L) (t : Take L (ByC v k n w) R) : sliceLen v = some k ∧ v.notJunk = some v ∧ n < 2 ^ (8 * k) := by
  obtain ⟨cs, x, _⟩ := (st.take t).unpack
  exact ⟨x.1.len, x.1.nj, x.2⟩
theorem St.by2 (st : St h L) (t : Take L (ByC v k n w) R) : sliceLen v = some k ∧ v.notJunk = some v := ⟨(st.by t).1, (st.by t).2.1⟩
/-- out of the packet: a slice -/
theorem St.byS (st : St h L) (t : Take L (ByC v k n w) R) : St h (SlC v 5 1 k (.bytes k n) w :: R) ∧ n < 2 ^ (8 * k) := by
  obtain ⟨cs, x, st'⟩ := (st.take t).unpack
  exact ⟨St.pack st' x.1, x.2⟩
theorem St.byP (st : St h (SlC v 5 1 k (.bytes k n) w :: R)) (hn : n < 2 ^ (8 * k)) : St h (ByC v k n w :: R) := by
  obtain ⟨cs, x, st'⟩ := st.unpack
  exact St.pack st' ⟨x, hn⟩
theorem St.byRow {id e' es' : Nat} {sf : Bool} (st : St h (.pt id (.row e' es' sf false (.bytes k n)) :: L)) (hn : n < 2 ^ (8 * k)) : St h (ByC (.sl id 0 k k) k n true :: L) :=
  St.pack (cs := [.pt id (.row e' es' sf false (.bytes k n))]) st ⟨.inr (.inr (.inl ⟨id, 0, k, .bytes k n, e', es', sf, rfl, rfl, by rw [Nat.mul_one]; exact take_bytes hn, Nat.le_refl _, fun _ => by simp [Dat.len]⟩)), hn⟩
theorem St.byRow' {id e' es' : Nat} {sf : Bool} (st : St h L) (t : Take L (.pt id (.row e' es' sf false (.bytes k n))) R) (hn : n < 2 ^ (8 * k)) : St h (ByC (.sl id 0 k k) k n true :: R) := (st.take t).byRow hn
theorem e_mkbytes {e : Nat} {kk kk' : IntKind} (st : St h L) (hk : k ≤ 2 ^ 40) : Eff C (.mkslice e 1 1 (.bytes 1 0)) [.int kk (k : Nat), .int kk' (k : Nat)] h fun x h' => ∃ id, x = .sl id 0 k k ∧ St h' (ByC x k 0 true :: L) := .mk (by
  have h1 : Dat.rep (.bytes 1 0) k = .bytes k 0 := by simp [Dat.rep]
  refine Does.do (v := .sl h.next 0 k k) (h1 := h.new (.row e 1 false false (.bytes k 0))) ⟨rfl, ?_⟩ ⟨h.next, rfl, (st.new _).byRow (Nat.two_pow_pos _)⟩
  simp only [aop, Int.toNat_natCast, h1]
  rw [if_pos ⟨by omega, by omega, by omega, by omega, rfl, by simp [Dat.len]⟩]
  rfl)
/-- what a function returns, read at its end -/
theorem res_cell {s : Env} {t : Nat} {o : AOp} {rs : List ARes} {a y : AV} {vs : List AV} (h1 : look s t = some a) (d : Does o [a] h y h) (h2 : resS s h rs = some vs) : resS s h (.cell t o :: rs) = some (y :: vs) := by
  simp only [resS, h1, d.2, h2]
theorem sl_dat {x : AV} {k : Nat} (h : sliceLen x = some k) : x.dat = .vals [x] := by
  cases x <;> first | rfl | (simp [sliceLen] at h)
/-- a store at a place that is reckoned -/
theorem e_storeV {id off i e es : Nat} {sf : Bool} {l : List AV} {x : AV} (st : St h L) (t : Take L (.pt id (.row e es sf false (.vals l))) R) (ho : off = i) (hi : i < l.length) (hx : x.dat = .vals [x]) :
    Eff C (.store 1) [.ptr id off, x] h fun q h' => q = .tuple [] ∧ St h' (.pt id (.row e es sf false (.vals (l.set i x))) :: R) := by
  subst ho
  refine e_store st t (by rw [hx]; rfl) rfl ?_
  rw [hx]
  simp only [Dat.put, List.length_cons, List.length_nil]
  rw [if_pos (by omega), List.set_eq_take_append_cons_drop, if_pos hi]
  simp
/-- no bytes -/
theorem St.byNil (st : St h L) (w : Bool) : St h (ByC .nilsl 0 0 w :: L) := St.pack (cs := []) st ⟨.inl ⟨rfl, rfl, rfl, rfl⟩, by decide⟩
theorem d_tostr (st : St h L) (t : Take L (ByC v k n w) R) : Does .tostr [v] h (.str (packStr k n)) h := by
  obtain ⟨cs, ⟨y, hn⟩, st'⟩ := (st.take t).unpack
  refine ⟨rfl, ?_⟩
  obtain ⟨d0, h1, h2, h3⟩ := y.sliceDat st'
  by_cases hk : k = 0
  · subst hk
    have e0 : packStr 0 n = ByteArray.empty := rfl
    rw [e0]
    simp only [aop, h1]
    cases d0 with
    | vals cs =>
      have : cs = [] := List.length_eq_zero_iff.1 (by simpa [Dat.len] using h3)
      subst this; rfl
    | bytes l q =>
      have : l = 0 := by simpa [Dat.len] using h3
      subst this; rfl
  · rw [h2 hk] at h1
    simp only [aop, h1]
theorem sub_of_take {D : Dat} {off k n m : Nat} (h : D.take off k = some (.bytes k n)) (hm : m ≤ k) : D.sub off m = some (.bytes m (bsub n 0 m)) := by
  cases D with
  | vals cs => simp only [Dat.take] at h; split at h <;> cases h
  | bytes l q =>
    simp only [Dat.take] at h
    split at h
    · rename_i hl
      simp only [Option.some.injEq, Dat.bytes.injEq, true_and] at h
      subst h
      simp only [Dat.sub]
      rw [if_pos (by omega)]
      congr 2
      apply Nat.eq_of_testBit_eq
      intro j
      simp only [bsub_testBit]
      by_cases hj : j < 8 * m
      · simp [hj, show j < 8 * k by omega]
      · simp [hj]
    · cases h
/-- the bytes as an array's -/
theorem d_page {m : Nat} (st : St h L) (t : Take L (ByC v k n w) R) (hm : m ≤ k) (hk : 0 < m) : ∃ p, Does (.sl2arr m) [v] h p h ∧ p.notJunk = some p ∧ Does (.loadn m) [p] h (.bytes m (bsub n 0 m)) h := by
  obtain ⟨cs, ⟨y, hn⟩, st'⟩ := (st.take t).unpack
  rcases y with ⟨rfl, rfl, _⟩ | ⟨rfl, rfl, _⟩ | ⟨id, off, cap, D, e', es', sf, rfl, rfl, h3, _⟩ | ⟨id, idx, D, rfl, rfl, h3, _⟩
  · omega
  · omega
  · refine ⟨.ptr id off, ⟨rfl, ?_⟩, rfl, d_loadn st'.get ?_⟩
    · simp only [aop]; rw [if_pos hm]
    · rw [Nat.mul_one] at h3; exact sub_of_take h3 hm
  · refine ⟨.ptr id (idx * 1), ⟨rfl, ?_⟩, rfl, d_loadn st'.get ?_⟩
    · simp only [aop]; rw [if_pos hm]
    · rw [Nat.mul_one k] at h3; exact sub_of_take h3 hm
theorem put_take_bytes {D d : Dat} {off k i m x n : Nat} (ht : D.take off k = some (.bytes k n)) (hd : d = .bytes m x) (hi : i + m ≤ k) : ∃ D', D.put (off + i) d = some D' ∧ D'.len = D.len ∧ D'.take off k = some (.bytes k (bput n i m x)) := by
  subst hd
  cases D with
  | vals cs => simp only [Dat.take] at ht; split at ht <;> cases ht
  | bytes l q =>
    simp only [Dat.take] at ht
    split at ht
    · rename_i hl
      simp only [Option.some.injEq, Dat.bytes.injEq, true_and] at ht
      subst ht
      refine ⟨.bytes l (bput q (off + i) m x), by simp only [Dat.put]; rw [if_pos (by omega)], rfl, ?_⟩
      simp only [Dat.take]
      rw [if_pos hl]
      congr 2
      apply Nat.eq_of_testBit_eq
      intro j
      rw [bsub_testBit, bput_testBit, bput_testBit, bsub_testBit]
      by_cases hj : j < 8 * k
      · simp only [hj, decide_true, Bool.true_and]
        by_cases h1 : j < 8 * i
        · rw [if_pos (by omega), if_pos h1]
        · by_cases h2 : j < 8 * (i + m)
          · rw [if_neg (by omega), if_pos (by omega), if_neg h1, if_pos h2]; congr 1; omega
          · rw [if_neg (by omega), if_neg (by omega), if_neg h1, if_neg h2]
      · simp only [hj, decide_false, Bool.false_and]
        rw [if_neg (by omega), if_neg (by omega)]
    · cases ht
/-- copy -/
theorem e_copyb (st : St h L) (t : Take L (ByC v k n true) R) (t' : Take R (ByC v' m x w') R') : Eff C (.copy 1) [v, v'] h fun q h' => q = .int .i64 (Nat.min m k) ∧ St h' (ByC v k (bput n 0 (Nat.min m k) x) true :: ByC v' m x w' :: R') := .mk (by
  have hs := (st.take t).perm (List.Perm.cons _ t'.perm)
  have hl' := (((st.take t).drop).by t').1
  obtain ⟨cs', ⟨y', hx⟩, st2⟩ := (((st.take t).drop).take t').unpack
  obtain ⟨d0, hd0, hd1, hd2⟩ := y'.sliceDat st2
  obtain ⟨cs, ⟨y, hn⟩, st'⟩ := hs.unpack
  have hl := y.len
  by_cases hz : Nat.min m k = 0
  · refine Does.do (v := .int .i64 (Nat.min m k)) (h1 := h) ⟨rfl, ?_⟩ ⟨rfl, St.pack st' ⟨?_, ?_⟩⟩
    · simp only [aop, hl, hl', hz, if_true]; rfl
    · have : bput n 0 (Nat.min m k) x = n := by
        rw [hz]; apply Nat.eq_of_testBit_eq; intro j; rw [bput_testBit]; simp
      rw [this]; exact y
    · exact bput_lt hn (by rw [hz]; omega)
  · have hm0 : m ≠ 0 := fun e => hz (by simp [e])
    have hk0 : k ≠ 0 := fun e => hz (by simp [e])
    rw [hd1 hm0] at hd0
    have hmin : Nat.min m k ≤ k := Nat.min_le_right _ _
    have hmin' : Nat.min m k ≤ m := Nat.min_le_left _ _
    have hlt : bput n 0 (Nat.min m k) x < 2 ^ (8 * k) := bput_lt hn (by omega)
    have hsrc : Dat.take (.bytes m x) 0 (Nat.min m k) = some (.bytes (Nat.min m k) (bsub x 0 (Nat.min m k))) := by
      simp only [Dat.take]; rw [if_pos (by omega)]
    have hb : bput n 0 (Nat.min m k) (bsub x 0 (Nat.min m k)) = bput n 0 (Nat.min m k) x := by
      apply Nat.eq_of_testBit_eq; intro j
      rw [bput_testBit, bput_testBit, bsub_testBit]
      by_cases h1 : j < 8 * (0 + Nat.min m k)
      · simp [show j < 8 * Nat.min m k by omega]
      · rw [if_neg h1, if_neg h1]
    rcases y with ⟨rfl, rfl, _⟩ | ⟨rfl, rfl, _⟩ | ⟨id, off, cap, D, e', es', sf, rfl, rfl, h3, h4, h5⟩ | ⟨id, idx, D, rfl, rfl, h3, h4, h5⟩
    · omega
    · omega
    · rw [Nat.mul_one] at h3
      obtain ⟨D', p1, p2, p3⟩ := put_take_bytes h3 (rfl : Dat.bytes (Nat.min m k) (bsub x 0 (Nat.min m k)) = _) (show 0 + Nat.min m k ≤ k by omega)
      refine Does.do (v := .int .i64 (Nat.min m k)) (h1 := h.put id (.row e' es' sf false D')) ⟨rfl, ?_⟩ ⟨rfl, St.pack (cs := [.pt id (.row e' es' sf false D')]) (st'.put _) ⟨.inr (.inr (.inl ⟨id, off, cap, D', e', es', sf, rfl, rfl, by rw [Nat.mul_one, ← hb]; exact p3, h4, fun _ => by rw [p2]; exact h5 rfl⟩)), hlt⟩⟩
      simp only [aop, hl, hl', if_neg hz, hd0, Nat.mul_one, hsrc, Option.bind_some, st'.get, Bool.not_true]
      rw [Nat.add_zero] at p1
      rw [p1]; rfl
    · rw [Nat.mul_one k] at h3
      obtain ⟨D', p1, p2, p3⟩ := put_take_bytes h3 (rfl : Dat.bytes (Nat.min m k) (bsub x 0 (Nat.min m k)) = _) (show 0 + Nat.min m k ≤ k by omega)
      refine Does.do (v := .int .i64 (Nat.min m k)) (h1 := h.put id (.row 5 1 true false D')) ⟨rfl, ?_⟩ ⟨rfl, St.pack (cs := [.pt id (.row 5 1 true false D')]) (st'.put _) ⟨.inr (.inr (.inr ⟨id, idx, D', rfl, rfl, by rw [Nat.mul_one k, ← hb]; exact p3, rfl, by rw [p2]; exact h5⟩)), hlt⟩⟩
      simp only [aop, hl, hl', if_neg hz, hd0]
      rw [Nat.mul_one (Nat.min m k), hsrc]
      simp only [Option.bind_some, st'.get, if_true]
      rw [Nat.add_zero] at p1
      rw [p1]; rfl)
/-- append to no bytes: new ones, the very same -/
theorem e_appb0 {v0 : AV} {z : Dat} (st : St h L) (t : Take L (ByC v0 0 0 true) R) (t' : Take R (ByC v m x w) R') (hm : m ≤ 2 ^ 40) : Eff C (.append 5 1 1 z) [v0, v] h fun q h' => q.notJunk = some q ∧ sliceLen q = some m ∧ St h' (ByC q m x true :: ByC v m x w :: R') := .mk (by
  obtain ⟨s1, _⟩ := st.byS t
  have hs : Take (SlC v0 5 1 0 (.bytes 0 0) true :: R) (ByC v m x w) (SlC v0 5 1 0 (.bytes 0 0) true :: R') := .there t'
  obtain ⟨s2, hx⟩ := s1.byS hs
  have hb : bput (bsub 0 0 0) 0 m x = x := by
    apply Nat.eq_of_testBit_eq; intro j
    rw [bput_testBit]
    by_cases hj : j < 8 * m
    · rw [if_neg (by omega), if_pos (by omega)]; simp
    · rw [if_neg (by omega), if_neg (by omega)]
      rw [Nat.testBit_lt_two_pow (Nat.lt_of_lt_of_le hx (Nat.pow_le_pow_right (by decide) (by omega)))]
      simp [bsub]
  have ha : Dat.app (.bytes 0 0) (.bytes m x) = some (.bytes m x) := by simp only [Dat.app, hb, Nat.zero_add]
  have h0 : m = 0 → Dat.bytes m x = Dat.bytes 0 0 := by
    intro e; subst e
    have : x = 0 := by simpa using hx
    rw [this]
  obtain ⟨q, h', p1, q1, q2, q3⟩ := d_append (z := z) (b := 1) s2 (Take.there Take.here) Take.here ha (.inr ⟨_, _, _, _, rfl, rfl⟩) h0 (fun _ => by rw [Nat.mul_one]; exact take_bytes hx)
    (by rw [Nat.zero_add, Nat.mul_one]; exact take_bytes hx) (by omega) (by omega) rfl
  rw [Nat.zero_add] at q2 q3
  have q4 := (q3.byP hx).perm (List.Perm.swap _ _ _)
  exact p1.do ⟨q1, q2, (q4.byP hx).perm (List.Perm.swap _ _ _)⟩)
end
end Go.Proofs.Ytjdemlagmamlbaa

namespace Go.Proofs.Ytjdemlagmamlbaa
/-- the examples are known; of all else the code -/
def over : Nat → Option FSpec := fun n => bif Nat.beq n n_law09_lives then some (constF (.bool true)) else none
/-- the program -/
abbrev R : SemW := progI over tab
abbrev ikey (n : Int) : AV := .int .i64 n
abbrev pageV (n : Nat) : AV := .bytes 4096 n
/-- a device -/
structure DevS where
  n : Int
  pg : List (Int × Nat)
  wc : Int
  wl : Int
  rc : Int
  rl : Int
def DevS.row (s : DevS) (M : Nat) : AObj := .row ty_swap_Device 7 false false (.vals [.int .i64 s.n, .bool true, .map M, .int .i64 s.wc, .int .i64 s.wl, .int .i64 s.rc, .int .i64 s.rl])
def left (l : Int) : Int := if l = 0 then 0 else IntKind.i64.wrap (l - 1)
def fails (l : Int) : Bool := decide (l ≠ 0 ∧ IntKind.i64.wrap (l - 1) = 0)
def DevS.rd (s : DevS) : DevS := { s with rc := IntKind.i64.wrap (s.rc + 1), rl := left s.rl }
def DevS.wr (s : DevS) : DevS := { s with wc := IntKind.i64.wrap (s.wc + 1), wl := left s.wl }
variable {D : Nat} {s : DevS}
end Go.Proofs.Ytjdemlagmamlbaa

namespace Go.Proofs.Ytjdemlagmamlbaa
variable {D : Nat} {s : DevS}
/-- what Write does -/
def DevS.write (s : DevS) (p : Int) (k n : Nat) : DevS × Int :=
  if 0 ≤ p ∧ p < s.n ∧ k = 4096 then (if fails s.wl = true then (s.wr, 6) else ({ s.wr with pg := aput s.pg p n }, 0)) else (s, 2)
/-- the page of a place -/
def DevS.at (s : DevS) (p : Int) : Nat := (alook s.pg p).getD 0
theorem pos2 (n : Nat) : 0 < 2 ^ (8 * n) := Nat.two_pow_pos (8 * n)
theorem page_pos : 0 < 2 ^ (8 * 4096) := pos2 4096
structure Got1 where
  s : DevS
  e : Int
  k : Nat
  n : Nat
theorem bput_new {n : Nat} (hn : n < 2 ^ (8 * 4096)) : bput 0 0 4096 n = n := bput_all hn page_pos
/-- what Peek tells -/
def DevS.pk (s : DevS) (p : Int) : Nat × Nat := if 0 ≤ p ∧ p < s.n then (4096, s.at p) else (0, 0)
/-- a page that begins with some bytes -/
def pageN (k n : Nat) : Nat := bput 0 0 (Nat.min k 4096) n
/-- the same bytes? -/
theorem ref01_Bytes {a b : AV} {k n m x : Nat} {w w' : Bool} : Spec R (.f n_ref01_Bytes) [a, b] [ByC a k n w, ByC b m x w'] fun v Rs => v = .bool (decide (k = m ∧ n = x)) ∧ Rs = [ByC a k n w, ByC b m x w'] := by
  refine spec_in fun h F st => ?_
  obtain ⟨hl, hj, hn⟩ := st.by Tk
  obtain ⟨hl', hj', hx⟩ := (St.perm st (List.Perm.swap _ _ _)).by Tk
  clear st h F; refine spec_w (fun _ _ _ x => progI_call rfl rfl x) Njs rfl (fun h F st => ?_); dsimp only [List.cons_append, List.nil_append] at st
  (repeat (first | (show W _ _ _ _ _ _ (.code (cond _ _ _) :: _) _ _; first | refine W.ct ?_ | refine W.cf ?_) | (show W _ _ _ _ _ _ (.ins (cond _ _ _ :: _) :: _) _ _; first | refine W.gt ?_ | refine W.gf ?_) | (show W _ _ _ _ _ _ [] _ _; refine W.of (.done ?_)) | (apply W.of; constructor <;> first | (show W _ _ _ _ _ _ _ _ _) | (intro (al : Nat) h st; show W _ _ _ _ _ _ _ _ _) | (intro _ h st; show W _ _ _ _ _ _ _ _ _) | exact Sd)))
  (repeat (first | (show W _ _ _ _ _ _ (.code (cond _ _ _) :: _) _ _; first | refine W.ct ?_ | refine W.cf ?_) | (show W _ _ _ _ _ _ (.ins (cond _ _ _ :: _) :: _) _ _; first | refine W.gt ?_ | refine W.gf ?_) | (show W _ _ _ _ _ _ [] _ _; refine W.of (.done ?_)) | (apply W.of; constructor <;> first | (show W _ _ _ _ _ _ _ _ _) | (intro (al : Nat) h st; show W _ _ _ _ _ _ _ _ _) | (intro _ h st; show W _ _ _ _ _ _ _ _ _) | exact Sd))); refine W.do (ho := (d_tostr (v := a) st Tk)) (w := ?_)
  (repeat (first | (show W _ _ _ _ _ _ (.code (cond _ _ _) :: _) _ _; first | refine W.ct ?_ | refine W.cf ?_) | (show W _ _ _ _ _ _ (.ins (cond _ _ _ :: _) :: _) _ _; first | refine W.gt ?_ | refine W.gf ?_) | (show W _ _ _ _ _ _ [] _ _; refine W.of (.done ?_)) | (apply W.of; constructor <;> first | (show W _ _ _ _ _ _ _ _ _) | (intro (al : Nat) h st; show W _ _ _ _ _ _ _ _ _) | (intro _ h st; show W _ _ _ _ _ _ _ _ _) | exact Sd)))
  (repeat (first | (show W _ _ _ _ _ _ (.code (cond _ _ _) :: _) _ _; first | refine W.ct ?_ | refine W.cf ?_) | (show W _ _ _ _ _ _ (.ins (cond _ _ _ :: _) :: _) _ _; first | refine W.gt ?_ | refine W.gf ?_) | (show W _ _ _ _ _ _ [] _ _; refine W.of (.done ?_)) | (apply W.of; constructor <;> first | (show W _ _ _ _ _ _ _ _ _) | (intro (al : Nat) h st; show W _ _ _ _ _ _ _ _ _) | (intro _ h st; show W _ _ _ _ _ _ _ _ _) | exact Sd))); refine W.do (ho := (d_tostr (v := b) st Tk)) (w := ?_)
  (repeat (first | (show W _ _ _ _ _ _ (.code (cond _ _ _) :: _) _ _; first | refine W.ct ?_ | refine W.cf ?_) | (show W _ _ _ _ _ _ (.ins (cond _ _ _ :: _) :: _) _ _; first | refine W.gt ?_ | refine W.gf ?_) | (show W _ _ _ _ _ _ [] _ _; refine W.of (.done ?_)) | (apply W.of; constructor <;> first | (show W _ _ _ _ _ _ _ _ _) | (intro (al : Nat) h st; show W _ _ _ _ _ _ _ _ _) | (intro _ h st; show W _ _ _ _ _ _ _ _ _) | exact Sd)))
  exact ⟨_, rfl, _, ⟨by rw [← packStr_beq hn hx]; rfl, rfl⟩, st⟩
theorem Bytes_t {a b : AV} {k n : Nat} {w w' : Bool} : Spec R (.f n_ref01_Bytes) [a, b] [ByC a k n w, ByC b k n w'] fun v Rs => v = .bool true ∧ Rs = [ByC a k n w, ByC b k n w'] :=
  ref01_Bytes.mono progI_mono fun _ _ ⟨h1, h2⟩ => ⟨by rw [h1, decide_eq_true ⟨rfl, rfl⟩], h2⟩
end Go.Proofs.Ytjdemlagmamlbaa

namespace Go.Proofs.Ytjdemlagmamlbaa
section
variable {h : AHeap} {L R : List Chunk}
/-- what is not written, of the heap that is there -/
theorem St.addRo {id : Nat} {o : AObj} (st : St h L) (hg : h.get id = some o) (hro : o.rw = false) : St h (.pt id o :: L) := by
  obtain ⟨m, h1, h2⟩ := st.has
  refine ⟨st.wf, fun i => if i = id then some o else m i, fun i x e => ?_, fun i => if i = id then some o else none, m, fun i => ?_, fun i => ?_, ⟨by simp, fun j hj => by simp [hj]⟩, h2⟩
  · simp only at e
    split at e
    · rename_i e1; subst e1; cases e; exact hg
    · exact h1 i x e
  · by_cases e : i = id
    · subst e
      cases hm : m i with
      | none => exact .inr (.inl rfl)
      | some x =>
        have := h1 i x hm
        rw [hg] at this; cases this
        exact .inr (.inr ⟨by simp, fun o' e => by simp at e; subst e; exact hro⟩)
    · exact .inl (by simp [e])
  · by_cases e : i = id <;> simp [e]
/-- a part that is not written may be known twice -/
theorem St.dupB {v : AV} {k n : Nat} (st : St h (ByC v k n false :: L)) : St h (ByC v k n false :: ByC v k n false :: L) := by
  obtain ⟨cs, ⟨y, hn⟩, st'⟩ := st.unpack
  rcases y with ⟨rfl, rfl, hl, rfl⟩ | ⟨rfl, rfl, hl, rfl, hw⟩ | ⟨id, off, cap, D, e', es', sf, rfl, rfl, h3, h4, h5⟩ | ⟨id, idx, D, rfl, rfl, h3, h4, h5⟩
  · exact St.pack (cs := []) st ⟨.inl ⟨rfl, rfl, hl, rfl⟩, hn⟩
  · exact St.pack (cs := []) st ⟨.inr (.inl ⟨rfl, rfl, hl, rfl, hw⟩), hn⟩
  · have s1 := st'.dup rfl
    have s2 := St.pack (t := 12) (k := .sl id off k cap) (P := ByIs (.sl id off k cap) k n false) (cs := [_]) s1 ⟨.inr (.inr (.inl ⟨id, off, cap, D, e', es', sf, rfl, rfl, h3, h4, h5⟩)), hn⟩
    exact St.pack (cs := [_]) (s2.perm (List.Perm.swap _ _ _)) ⟨.inr (.inr (.inl ⟨id, off, cap, D, e', es', sf, rfl, rfl, h3, h4, h5⟩)), hn⟩
  · cases h4
theorem St.copyB {v : AV} {k n : Nat} (st : St h L) (t : Take L (ByC v k n false) R) : St h (ByC v k n false :: L) :=
  ((st.take t).dupB).perm (List.Perm.cons _ t.perm.symm)
/-- bytes that are an argument -/
theorem argB {v : AV} (ha : AD h .bytes [v]) : ∃ k n, k ≤ maxLen ∧ ∀ L, St h L → St h (ByC v k n false :: L) := by
  simp only [AD, List.cons.injEq, and_true] at ha
  rcases ha with rfl | rfl | ⟨id, len, cap, n, e, rfl, h0, h1, h2, h3, hg⟩
  · exact ⟨0, 0, Nat.zero_le _, fun L st => st.byNil false⟩
  · exact ⟨0, 0, Nat.zero_le _, fun L st => St.pack (cs := []) st ⟨.inr (.inl ⟨rfl, rfl, rfl, rfl, rfl⟩), by decide⟩⟩
  · refine ⟨len, n, by omega, fun L st => St.pack (cs := [.pt id (.row e 1 false true (.bytes len n))]) (st.addRo hg rfl) ⟨.inr (.inr (.inl ⟨id, 0, cap, .bytes len n, e, 1, false, rfl, rfl, ?_, h1, fun e => (by cases e)⟩)), h3⟩⟩
    rw [Nat.mul_one]; exact take_bytes h3
theorem St.argB {v : AV} (st : St h L) (ha : AD h .bytes [v]) : ∃ k n, k ≤ maxLen ∧ St h (ByC v k n false :: L) := by
  obtain ⟨k, n, h1, h2⟩ := Go.Proofs.Ytjdemlagmamlbaa.argB ha
  exact ⟨k, n, h1, h2 L st⟩
end
/-- a law, by a contract of its function -/
theorem Spec.law {C : SemW} (hM : MonoW C) {f : Fn} {args : List AV} {Ps : List Chunk} {post : AV → List Chunk → Prop} {h : AHeap} (hs : Spec C f args Ps post) (st : St h Ps) (hp : ∀ v Rs, post v Rs → v = .bool true) : C f args h fun v _ => v = .bool true :=
  hM _ _ _ _ _ (fun v _ ⟨Rs, h1, _⟩ => hp v Rs h1) (hs h [] (by rw [List.append_nil]; exact st))
end Go.Proofs.Ytjdemlagmamlbaa

namespace Go.Proofs.Ytjdemlagmamlbaa
variable {D : Nat} {s : DevS}
theorem mod_lt {i m : Int} (h0 : 0 ≤ i) (hm : 0 < m) (hm2 : m ≤ 100) : 0 ≤ IntKind.i64.wrap (i.tmod m) ∧ IntKind.i64.wrap (i.tmod m) < m := by
  have h1 := Int.tmod_lt_of_pos i hm
  have h2 := Int.tmod_nonneg m h0
  rw [wrap64 (by omega) (by omega)]
  exact ⟨h2, h1⟩
end Go.Proofs.Ytjdemlagmamlbaa

namespace Go.Proofs.Ytjdemlagmamlbaa
section
variable {α : Type} {h : AHeap} {L R : List Chunk} {key : AV} {G : α → List Chunk} {l : List α} {a : α} {i : Nat}
/-- for each of a list its parts -/
abbrev SepC (key : AV) (G : α → List Chunk) (l : List α) : Chunk := pk 14 key (fun cs => cs = l.flatMap G)
theorem perm_out : ∀ {l : List α} {i : Nat} {a : α}, l[i]? = some a → l.Perm (a :: l.eraseIdx i)
  | [], i, a, h => by simp at h
  | b :: l, 0, a, h => by simp at h; subst h; exact List.Perm.refl _
  | b :: l, i + 1, a, h => by
    simp only [List.getElem?_cons_succ] at h
    exact ((perm_out h).cons b).trans (List.Perm.swap _ _ _)
theorem perm_set : ∀ {l : List α} {i : Nat} {a : α}, i < l.length → (l.set i a).Perm (a :: l.eraseIdx i)
  | [], i, a, h => by simp at h
  | b :: l, 0, a, _ => List.Perm.refl _
  | b :: l, i + 1, a, h => by
    simp only [List.length_cons] at h
    exact ((perm_set (show i < l.length by omega)).cons b).trans (List.Perm.swap _ _ _)
theorem St.sepOut (st : St h L) (t : Take L (SepC key G l) R) (hi : l[i]? = some a) : St h (G a ++ SepC key G (l.eraseIdx i) :: R) := by
  obtain ⟨cs, rfl, st'⟩ := (st.take t).unpack
  have p : (l.flatMap G).Perm (G a ++ (l.eraseIdx i).flatMap G) := (perm_out hi).flatMap_right G
  have st2 := st'.perm (p.append_right R)
  rw [List.append_assoc] at st2
  have st3 : St h ((l.eraseIdx i).flatMap G ++ (R ++ G a)) := st2.perm ((List.perm_append_comm).trans (by rw [List.append_assoc]))
  exact (St.pack (t := 14) (k := key) (P := fun cs => cs = (l.eraseIdx i).flatMap G) st3 rfl).perm ((List.perm_append_comm (l₁ := _ :: R) (l₂ := G a)))
theorem St.sepIn (st : St h (G a ++ SepC key G (l.eraseIdx i) :: R)) (hi : i < l.length) : St h (SepC key G (l.set i a) :: R) := by
  have s1 := st.perm (List.perm_append_comm (l₁ := G a) (l₂ := SepC key G (l.eraseIdx i) :: R))
  obtain ⟨cs, rfl, s2⟩ := St.unpack (L := R ++ G a) s1
  refine St.pack (cs := (l.set i a).flatMap G) (s2.perm ?_) rfl
  refine List.Perm.trans ?_ ((((perm_set (a := a) hi).flatMap_right G).append_right R).symm)
  simp only [List.flatMap_cons]
  rw [← List.append_assoc]
  refine List.perm_append_comm.trans ?_
  rw [List.append_assoc]
theorem set_same' : ∀ {l : List α} {i : Nat} {a : α}, l[i]? = some a → l.set i a = l
  | [], i, a, h => by simp at h
  | b :: l, 0, a, h => by simp at h; subst h; rfl
  | b :: l, i + 1, a, h => by
    simp only [List.getElem?_cons_succ] at h
    rw [List.set_cons_succ, set_same' h]
theorem St.sepBack (st : St h (G a ++ SepC key G (l.eraseIdx i) :: R)) (hi : l[i]? = some a) : St h (SepC key G l :: R) := by
  have := st.sepIn (List.getElem?_eq_some_iff.1 hi).1
  rwa [set_same' hi] at this
theorem St.sepNil (st : St h L) (key : AV) (G : α → List Chunk) : St h (SepC key G [] :: L) := St.pack (cs := []) st rfl
theorem St.sepSnoc (st : St h L) {R' : List Chunk} (t : Take L (SepC key G l) R) (p : Pick R (G a) R') : St h (SepC key G (l ++ [a]) :: R') := by
  have s1 := (st.take t).perm ((p.perm).cons _)
  obtain ⟨cs, rfl, s2⟩ := s1.unpack
  refine St.pack (cs := (l ++ [a]).flatMap G) (s2.perm ?_) rfl
  rw [List.flatMap_append, List.flatMap_cons, List.flatMap_nil, List.append_nil, List.append_assoc]
/-- parts that are not written -/
def RoL (cs : List Chunk) : Prop := ∀ m, semL cs m → ∀ i o, m i = some o → o.rw = false
theorem St.dupL {A : List Chunk} (st : St h (A ++ L)) (hA : RoL A) : St h (A ++ (A ++ L)) := by
  obtain ⟨m, h1, h2⟩ := st.has
  obtain ⟨x, y, g1, g2, g3, g4⟩ := semL_append.1 h2
  refine ⟨st.wf, m, h1, semL_append.2 ⟨x, m, fun i => ?_, fun i => ?_, g3, h2⟩⟩
  · cases hx : x i with
    | none => exact .inl rfl
    | some o => exact .inr (.inr ⟨by rw [g2, hx]; rfl, fun o' e => by cases e; exact hA x g3 i _ hx⟩)
  · rw [g2]; cases x i <;> simp
theorem RoL.nil : RoL [] := fun m hm i o e => by rw [hm i] at e; cases e
theorem RoL.cons {c : Chunk} {cs : List Chunk} (h1 : RoL [c]) (h2 : RoL cs) : RoL (c :: cs) := by
  rintro m ⟨x, y, g1, g2, g3, g4⟩ i o e
  rw [g2] at e
  cases hx : x i with
  | none => rw [hx] at e; exact h2 y g4 i o (by simpa using e)
  | some o' => rw [hx] at e; cases e; exact h1 x ⟨x, fun _ => none, fun _ => .inr (.inl rfl), fun i => by simp, g3, fun _ => rfl⟩ i _ hx
theorem RoL.pk {t : Nat} {k : AV} {P : List Chunk → Prop} (hp : ∀ cs, P cs → RoL cs) : RoL [pk t k P] := by
  intro m hm i o e
  obtain ⟨cs, h1, h2⟩ := semL_own.1 hm
  rw [List.append_nil] at h2
  exact hp cs h1 m h2 i o e
theorem RoL.row {id e es : Nat} {sf : Bool} {d : Dat} : RoL [.pt id (.row e es sf true d)] := by
  rintro m ⟨x, y, g1, g2, ⟨g3, g4⟩, g5⟩ i o e
  rw [g2, g5 i, Option.or_none] at e
  by_cases hi : i = id
  · subst hi; rw [g3] at e; cases e; rfl
  · rw [g4 i hi] at e; cases e
theorem RoL.sl {v : AV} {e es k : Nat} {d : Dat} {cs : List Chunk} (y : SlIs v e es k d false cs) : RoL cs := by
  rcases y with ⟨rfl, rfl, hl, rfl⟩ | ⟨rfl, rfl, hl, rfl, hw⟩ | ⟨id, off, cap, D, e', es', sf, rfl, rfl, h3, h4, h5⟩ | ⟨id, idx, D, rfl, rfl, h3, h4, h5⟩
  · exact .nil
  · exact .nil
  · exact .row
  · cases h4
theorem RoL.by {v : AV} {k n : Nat} : RoL [ByC v k n false] := .pk fun _ x => .sl x.1
theorem RoL.slc {v : AV} {e es k : Nat} {d : Dat} : RoL [SlC v e es k d false] := .pk fun _ x => .sl x
theorem RoL.append {A B : List Chunk} (h1 : RoL A) (h2 : RoL B) : RoL (A ++ B) := by
  intro m hm i o e
  obtain ⟨x, y, g1, g2, g3, g4⟩ := semL_append.1 hm
  rw [g2] at e
  cases hx : x i with
  | none => rw [hx] at e; exact h2 y g4 i o (by simpa using e)
  | some o' => rw [hx] at e; cases e; exact h1 x g3 i _ hx
/-- a list that is an argument: its elements' cells, and what is behind them -/
def ArIs (v : AV) (es : Nat) (cells : α → List AV) (G : α → List Chunk) (l : List α) (cs : List Chunk) : Prop :=
  cs = SlC v 0 es l.length (.vals (l.flatMap cells)) false :: l.flatMap G ∧ ∀ a, a ∈ l → (cells a).length = es ∧ RoL (G a)
abbrev ArC (v : AV) (es : Nat) (cells : α → List AV) (G : α → List Chunk) (l : List α) : Chunk := pk 15 v (ArIs v es cells G l)
variable {v : AV} {es : Nat} {cells : α → List AV}
theorem St.ar (st : St h L) (t : Take L (ArC v es cells G l) R) : sliceLen v = some l.length ∧ v.notJunk = some v := by
  obtain ⟨cs, ⟨rfl, _⟩, st'⟩ := (st.take t).unpack
  have := St.slc st' Take.here
  exact ⟨this.1, this.2.1⟩
theorem roL_flat (hr : ∀ a, a ∈ l → RoL (G a)) : RoL (l.flatMap G) := by
  induction l with
  | nil => exact .nil
  | cons a l ih => rw [List.flatMap_cons]; exact .append (hr a List.mem_cons_self) (ih fun b hb => hr b (List.mem_cons_of_mem _ hb))
/-- what is behind one of them -/
theorem St.arAt (st : St h L) (t : Take L (ArC v es cells G l) R) (hi : l[i]? = some a) : St h (G a ++ L) := by
  obtain ⟨cs, ⟨rfl, hr⟩, st'⟩ := (st.take t).unpack
  have hro : RoL (SlC v 0 es l.length (.vals (l.flatMap cells)) false :: l.flatMap G) := .cons .slc (roL_flat fun b hb => (hr b hb).2)
  have s1 := st'.dupL hro
  have s2 : St h (ArC v es cells G l :: ((SlC v 0 es l.length (.vals (l.flatMap cells)) false :: l.flatMap G) ++ R)) := St.pack s1 ⟨rfl, hr⟩
  have p : (l.flatMap G).Perm (G a ++ (l.eraseIdx i).flatMap G) := (perm_out hi).flatMap_right G
  have s3 : St h (G a ++ ((l.eraseIdx i).flatMap G ++ SlC v 0 es l.length (.vals (l.flatMap cells)) false :: (ArC v es cells G l :: R))) := by
    refine s2.perm ?_
    refine List.Perm.trans (List.perm_middle (l₁ := SlC v 0 es l.length (.vals (l.flatMap cells)) false :: l.flatMap G) (a := ArC v es cells G l)).symm ?_
    rw [List.cons_append]
    refine List.Perm.trans ((p.append_right (ArC v es cells G l :: R)).cons _) ?_
    rw [List.append_assoc]
    exact (List.perm_middle (l₁ := G a ++ (l.eraseIdx i).flatMap G) (a := SlC v 0 es l.length (.vals (l.flatMap cells)) false)).symm.trans (by rw [List.append_assoc]) |> fun q => (by rw [List.append_assoc] at q; exact q)
  have s4 : St h (G a ++ (ArC v es cells G l :: R)) := by
    have q : Sel (G a ++ ((l.eraseIdx i).flatMap G ++ SlC v 0 es l.length (.vals (l.flatMap cells)) false :: (ArC v es cells G l :: R))) (G a ++ (ArC v es cells G l :: R)) := by
      generalize ArC v es cells G l :: R = X
      generalize SlC v 0 es l.length (.vals (l.flatMap cells)) false = c
      generalize (l.eraseIdx i).flatMap G = B
      generalize G a = A
      induction A with
      | nil =>
        induction B with
        | nil => exact .skip .nil
        | cons b B ih => exact .skip ih
      | cons b A ih => exact .cons .here ih
    exact s3.sel q
  exact s4.perm (List.Perm.append_left _ t.perm.symm)
theorem flat_at {es : Nat} : ∀ {l : List α} {i : Nat} {a : α}, (∀ a, a ∈ l → (cells a).length = es) → l[i]? = some a → ((l.flatMap cells).drop (i * es)).take es = cells a ∧ i * es + es ≤ (l.flatMap cells).length
  | [], i, a, _, h => by simp at h
  | b :: l, 0, a, hl, h => by
    simp at h; subst h
    have := hl b List.mem_cons_self
    simp only [List.flatMap_cons, Nat.zero_mul, List.drop_zero, List.length_append]
    exact ⟨by rw [List.take_append_of_le_length (by omega), List.take_of_length_le (by omega)], by omega⟩
  | b :: l, i + 1, a, hl, h => by
    have hb := hl b List.mem_cons_self
    simp only [List.getElem?_cons_succ] at h
    obtain ⟨h1, h2⟩ := flat_at (fun a ha => hl a (List.mem_cons_of_mem _ ha)) h
    simp only [List.flatMap_cons, List.length_append]
    refine ⟨?_, by rw [Nat.add_mul]; omega⟩
    rw [show (i + 1) * es = (cells b).length + i * es by rw [Nat.add_mul]; omega, ← List.drop_drop, List.drop_left' rfl]
    exact h1
theorem d_indexar {kk : IntKind} {i : Int} (st : St h L) (t : Take L (ArC v es cells G l) R) (h0 : 0 ≤ i) (h1 : i < l.length) : Does (.indexs es) [v, .int kk i] h (elemPtr es v i.toNat) h := by
  obtain ⟨cs, ⟨rfl, _⟩, st'⟩ := (st.take t).unpack
  exact d_indexs st' Take.here h0 h1
/-- the element's address, by a number -/
theorem d_arIdx {kk : IntKind} {i : Nat} (st : St h L) (t : Take L (ArC v es cells G l) R) (h1 : i < l.length) : Does (.indexs es) [v, .int kk i] h (elemPtr es v i) h ∧ (elemPtr es v i).notJunk = some (elemPtr es v i) :=
  ⟨d_indexar (i := (i : Int)) st t (by omega) (by omega), elemPtr_nj (st.ar t).1 h1⟩
theorem d_loadar (st : St h L) (t : Take L (ArC v es cells G l) R) (hi : l[i]? = some a) : Does (.loadn es) [elemPtr es v i] h (.agg (cells a)) h := by
  obtain ⟨cs, ⟨rfl, hr⟩, st'⟩ := (st.take t).unpack
  obtain ⟨h1, h2⟩ := flat_at (fun b hb => (hr b hb).1) hi
  refine d_loadEn st' Take.here rfl (List.getElem?_eq_some_iff.1 hi).1 ?_
  simp only [Dat.sub]
  rw [if_pos h2, h1]
/-- an argument that is a list -/
theorem St.argL {s : Sh} (st : St h L) (ha : AD h (.slice s) [v]) (each : ∀ x, AD h s x → ∃ a : α, x = cells a ∧ RoL (G a) ∧ ∀ L, St h L → St h (G a ++ L)) :
    ∃ l : List α, l.length ≤ maxLen ∧ St h (ArC v s.size cells G l :: L) := by
  simp only [AD, List.cons.injEq, and_true] at ha
  rcases ha with rfl | rfl | ⟨id, len, cap, e, elems, rfl, h0, h1, h2, hg, hl, hx⟩
  · exact ⟨[], Nat.zero_le _, St.pack (cs := [_]) (St.pack (t := 10) (k := .nilsl) (P := SlIs .nilsl 0 s.size 0 (.vals []) false) (cs := []) st (.inl ⟨rfl, rfl, rfl, rfl⟩)) ⟨rfl, by simp⟩⟩
  · exact ⟨[], Nat.zero_le _, St.pack (cs := [_]) (St.pack (t := 10) (k := .esl) (P := SlIs .esl 0 s.size 0 (.vals []) false) (cs := []) st (.inr (.inl ⟨rfl, rfl, rfl, rfl, rfl⟩))) ⟨rfl, by simp⟩⟩
  · have key : ∀ elems : List (List AV), (∀ x, x ∈ elems → AD h s x) → ∃ l : List α, elems = l.map cells ∧ (∀ a, a ∈ l → (cells a).length = s.size ∧ RoL (G a)) ∧ ∀ L, St h L → St h (l.flatMap G ++ L) := by
      intro elems
      induction elems with
      | nil => exact fun _ => ⟨[], rfl, by simp, fun L st => st⟩
      | cons x xs ih =>
        intro hx
        obtain ⟨a, e1, hr, k⟩ := each x (hx x List.mem_cons_self)
        obtain ⟨l, e2, h3, k2⟩ := ih fun y hy => hx y (List.mem_cons_of_mem _ hy)
        refine ⟨a :: l, by rw [e1, e2]; rfl, fun b hb => ?_, fun L st => ?_⟩
        · rcases List.mem_cons.1 hb with rfl | hb
          · exact ⟨by rw [← e1]; exact AD.length s x (hx x List.mem_cons_self), hr⟩
          · exact h3 b hb
        · rw [List.flatMap_cons, List.append_assoc]; exact k _ (k2 L st)
    obtain ⟨l, rfl, hr, k⟩ := key elems hx
    rw [List.length_map] at hl
    subst hl
    refine ⟨l, by omega, St.pack (cs := SlC (.sl id 0 l.length cap) 0 s.size l.length (.vals (l.flatMap cells)) false :: l.flatMap G) ?_ ⟨rfl, hr⟩⟩
    rw [List.cons_append]
    have hlen : (l.flatMap cells).length = l.length * s.size := by
      clear h0 h1 h2 hg k hx key
      induction l with
      | nil => simp
      | cons a l ih =>
        rw [List.flatMap_cons, List.length_append, (hr a List.mem_cons_self).1, ih fun b hb => hr b (List.mem_cons_of_mem _ hb), List.length_cons, Nat.add_mul]; omega
    refine St.pack (cs := [.pt id (.row e s.size false true (.vals (l.flatMap cells)))]) ((k L st).addRo (by rw [List.flatMap_def]; exact hg) rfl) (.inr (.inr (.inl ⟨id, 0, cap, _, e, s.size, false, rfl, rfl, ?_, h1, fun e => (by cases e)⟩)))
    simp only [Dat.take, Nat.zero_add]
    rw [if_pos (by omega), List.drop_zero, List.take_of_length_le (by omega)]
end
end Go.Proofs.Ytjdemlagmamlbaa

namespace Go.Proofs.Ytjdemlagmamlbaa
variable {D : Nat} {s : DevS}
/-- an act -/
structure ActV where
  kind : Int
  n : Int
  v : AV
  k : Nat
  c : Nat
  raw : Bool
def ActV.cells (a : ActV) : List AV := [.int .i64 a.kind, .int .i64 a.n, a.v, .bool a.raw]
def ActV.G (a : ActV) : List Chunk := [ByC a.v a.k a.c false]
/-- an act's bytes -/
def ActV.bk (a : ActV) : Nat := if a.raw then a.k else 4096
def ActV.bn (a : ActV) : Nat := if a.raw then a.c else pageN a.k a.c
/-- what the law has of a place -/
structure HasV where
  v : AV
  w : Bool
  n : Nat
abbrev HasV.G (r : HasV) : List Chunk := [ByC r.v 4096 r.n r.w]
def HasOk (s : DevS) (hs : List HasV) : Prop := hs.length = 4 ∧ s.n = 4 ∧ ∀ i r, hs[i]? = some r → r.n = s.at (i : Nat)
theorem HasOk.same {s' : DevS} {hs : List HasV} (h : HasOk s hs) (h1 : s'.n = s.n) (h2 : s'.pg = s.pg) : HasOk s' hs :=
  ⟨h.1, by rw [h1]; exact h.2.1, fun i r hr => by unfold DevS.at; rw [h2]; exact h.2.2 i r hr⟩
theorem HasOk.put {s' : DevS} {hs : List HasV} {p : Int} {n : Nat} {r : HasV} (h : HasOk s hs) (h0 : 0 ≤ p) (h1 : s'.n = s.n) (h2 : s'.pg = aput s.pg p n) (hr : r.n = n) : HasOk s' (hs.set p.toNat r) :=
  ⟨by rw [List.length_set]; exact h.1, by rw [h1]; exact h.2.1, fun i q hq => by
    unfold DevS.at; rw [h2, alook_aput]
    rw [List.getElem?_set] at hq
    by_cases e : p.toNat = i
    · rw [if_pos e] at hq
      rw [if_pos (by omega)]
      split at hq
      · cases hq; exact hr
      · cases hq
    · rw [if_neg e] at hq
      rw [if_neg (by omega)]
      exact h.2.2 i q hq⟩
structure KeepS where
  i : Nat
  s : DevS
  hs : List HasV
end Go.Proofs.Ytjdemlagmamlbaa
