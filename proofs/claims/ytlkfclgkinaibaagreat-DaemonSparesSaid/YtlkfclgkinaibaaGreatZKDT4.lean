/- BY PROGRAM (wip/tool/shake.py): own texts, one behind the other, without what is not needed. -/
import Derived.Control
import Derived.Calls
import Derived.KernelRfl
import Derived.Laws.Sem
import Derived.Laws.Cells
import Derived.Laws.World
import GoSem.Dispatch
import Derived.Laws.StructEq
import Derived.IntWalk
import Derived.WideKeyRuns
import Derived.Laws.BytesArg
import Derived.Orders
import Derived.ChangeArms
import Derived.OpenShut
import Derived.ChangeShapes
import Derived.ProofKit
import Derived.Test.YtlkfclgkinaibaaGreatProg
import Derived.Test.YtlkfclgkinaibaaGreatZKDT3

namespace Go.Proofs.YtlkfclgkinaibaaGreat
abbrev ty_frames_Frame : Nat := 80
abbrev ty_int : Nat := 3
abbrev ty_api_PTE : Nat := 204
abbrev n_gosem_cut_init : Nat := 2
def c_gosem_cut_init : AFn := ⟨1, [],
 .region [I 0 (.callv) [F 1]]⟩
theorem t2 : trFn Tryz.prog Tryz.f2 = some c_gosem_cut_init := by kernel_rfl
abbrev n_law18_KernCopies : Nat := 3
def c_law18_KernCopies_L0 : ACode :=
 .seq (.seq (.region [I 34 (.mv) [T 8],
   I 35 (.mv) [T 5],
   I 36 (.bin .lss) [T 34, T 35]])
 (.cond (T 36)
 (.skip)
 (.exit 0)))
 (.seq (.block 1 (.seq (.region [I 39 (.mv) [T 6],
   I 40 (.mv) [T 8],
   I 41 (.mv) [T 8],
   I 42 (.build (.agg [(.int .i64 0), (.int .i64 0), (.int .i64 0), (.int .i64 0), (.int .i64 0), (.bool false), (.int .i64 0), (.int .i64 0), (.bool false), (.int .i64 0), (.int .i64 0), (.int .i64 0), (.int .i64 0), (.int .i64 0)]) [(0, 1), (1, 1), (2, 1), (10, 1), (11, 1)]) [N 9, N 1, T 40, N 1, T 41],
   I 43 (.callv) [F 8, T 39, T 42],
   I 44 (.field 0 1 false) [T 43],
   I 45 (.bin .neq) [T 44, N 0]])
 (.cond (T 45)
 (.seq (.region [I 4 (.mv) [.lit (.bool false)]])
  (.ret))
 (.skip))))
 (.region [I 37 (.mv) [T 8],
   I 38 (.bin .add) [T 37, N 1],
   I 8 (.mv) [T 38]]))
def c_law18_KernCopies_L1 : ACode :=
 .seq (.seq (.region [I 59 (.mv) [T 10],
   I 60 (.mv) [T 5],
   I 61 (.bin .lss) [T 59, T 60]])
 (.cond (T 61)
 (.skip)
 (.exit 2)))
 (.seq (.block 3 (.seq (.region [I 64 (.mv) [T 6],
   I 65 (.mv) [T 10],
   I 66 (.build (.agg [(.int .i64 0), (.int .i64 0), (.int .i64 0), (.int .i64 0), (.int .i64 0), (.bool false), (.int .i64 0), (.int .i64 0), (.bool false), (.int .i64 0), (.int .i64 0), (.int .i64 0), (.int .i64 0), (.int .i64 0)]) [(0, 1), (1, 1), (2, 1), (10, 1)]) [N 8, N 2, T 65, N 1],
   I 67 (.callv) [F 8, T 64, T 66],
   I 11 (.alloc 30 2 (.vals [(.int .i64 0), (.int .i64 0)])) [],
   J (.store 2) [T 11, T 67]])
 (.seq (.region [I 68 (.fieldAddr 0) [T 11],
   I 69 (.load1) [T 68],
   I 70 (.bin .neq) [T 69, N 0],
   I 71 (.mv) [T 70],
   IG 72 (.fieldAddr 1) [T 11] 71 false,
   IG 73 (.load1) [T 72] 71 false,
   IG 74 (.mv) [T 10] 71 false,
   IG 75 (.bin .neq) [T 73, T 74] 71 false,
   I 76 (.pick) [T 71, .lit (.bool true), T 75]])
 (.cond (T 76)
 (.seq (.region [I 4 (.mv) [.lit (.bool false)]])
  (.ret))
 (.skip)))))
 (.region [I 62 (.mv) [T 10],
   I 63 (.bin .add) [T 62, N 1],
   I 10 (.mv) [T 63]]))
def c_law18_KernCopies : AFn := ⟨127, [.tmp 4],
 .seq (.region [I 4 (.mv) [.lit (.bool false)]])
 (.seq (.region [I 15 (.mv) [T 0],
   I 16 (.bin .rem) [T 15, .lit (.int .u64 12)],
   I 17 (.conv .i64) [T 16],
   I 18 (.bin .add) [N 1, T 17],
   I 5 (.mv) [T 18]])
 (.seq (.region [I 20 (.build (.agg [(.int .i64 0), (.int .i64 0), (.int .i64 0), (.int .i64 0)]) [(0, 1), (2, 1), (3, 1)]) [N 60, N 20, N 5],
   I 21 (.callv) [F 7, T 20, .lit .nilsl],
   I 19 (.mv) [T 21],
   I 22 (.extract 0) [T 19],
   I 23 (.extract 1) [T 19],
   I 6 (.mv) [T 22],
   I 7 (.mv) [T 23]])
 (.seq (.seq (.region [I 24 (.mv) [T 7],
   I 25 (.bin .neq) [T 24, N 0],
   I 26 (.mv) [T 25],
   IG 27 (.mv) [T 6] 26 false,
   IG 28 (.mv) [T 5] 26 false,
   IG 29 (.build (.agg [(.int .i64 0), (.int .i64 0), (.int .i64 0), (.int .i64 0), (.int .i64 0), (.bool false), (.int .i64 0), (.int .i64 0), (.bool false), (.int .i64 0), (.int .i64 0), (.int .i64 0), (.int .i64 0), (.int .i64 0)]) [(0, 1), (1, 1), (2, 1), (3, 1), (4, 1), (8, 1)]) [N 1, N 1, N 0, T 28, N 3, .lit (.bool true)] 26 false,
   IG 30 (.callv) [F 8, T 27, T 29] 26 false,
   IG 31 (.field 0 1 false) [T 30] 26 false,
   IG 32 (.bin .neq) [T 31, N 0] 26 false,
   I 33 (.pick) [T 26, .lit (.bool true), T 32]])
 (.cond (T 33)
 (.seq (.region [I 4 (.mv) [.lit (.bool false)]])
  (.ret))
 (.skip)))
 (.seq (.seq (.region [I 8 (.mv) [N 0]])
 (.block 0 (.loop c_law18_KernCopies_L0)))
 (.seq (.region [I 46 (.mv) [T 6],
   I 47 (.callv) [F 9, T 46],
   I 48 (.lens) [T 47],
   I 9 (.mv) [T 48]])
 (.seq (.seq (.region [I 49 (.mv) [T 9],
   I 50 (.mv) [T 5],
   I 51 (.bin .neq) [T 49, T 50],
   I 52 (.mv) [T 51],
   IG 53 (.mv) [T 6] 52 false,
   IG 54 (.build (.agg [(.int .i64 0), (.int .i64 0), (.int .i64 0), (.int .i64 0), (.int .i64 0), (.bool false), (.int .i64 0), (.int .i64 0), (.bool false), (.int .i64 0), (.int .i64 0), (.int .i64 0), (.int .i64 0), (.int .i64 0)]) [(0, 1), (1, 1)]) [N 10, N 1] 52 false,
   IG 55 (.callv) [F 8, T 53, T 54] 52 false,
   IG 56 (.field 1 1 false) [T 55] 52 false,
   IG 57 (.bin .neq) [T 56, N 2] 52 false,
   I 58 (.pick) [T 52, .lit (.bool true), T 57]])
 (.cond (T 58)
 (.seq (.region [I 4 (.mv) [.lit (.bool false)]])
  (.ret))
 (.skip)))
 (.seq (.seq (.region [I 10 (.mv) [N 0]])
 (.block 2 (.loop c_law18_KernCopies_L1)))
 (.seq (.seq (.region [I 77 (.mv) [T 6],
   I 78 (.callv) [F 9, T 77],
   I 79 (.lens) [T 78],
   I 80 (.mv) [T 5],
   I 81 (.bin .neq) [T 79, T 80]])
 (.cond (T 81)
 (.seq (.region [I 4 (.mv) [.lit (.bool false)]])
  (.ret))
 (.skip)))
 (.seq (.region [I 82 (.mv) [T 1],
   I 83 (.mv) [T 5],
   I 84 (.conv .u64) [T 83],
   I 85 (.bin .rem) [T 82, T 84],
   I 86 (.conv .i64) [T 85],
   I 12 (.mv) [T 86]])
 (.seq (.region [I 87 (.mv) [T 6],
   I 88 (.mv) [T 12],
   I 89 (.build (.agg [(.int .i64 0), (.int .i64 0), (.int .i64 0), (.int .i64 0), (.int .i64 0), (.bool false), (.int .i64 0), (.int .i64 0), (.bool false), (.int .i64 0), (.int .i64 0), (.int .i64 0), (.int .i64 0), (.int .i64 0)]) [(0, 1), (1, 1), (2, 1), (10, 1), (11, 1)]) [N 9, N 2, T 88, N 1, N 99],
   I 90 (.callv) [F 8, T 87, T 89],
   I 13 (.alloc 30 2 (.vals [(.int .i64 0), (.int .i64 0)])) [],
   J (.store 2) [T 13, T 90]])
 (.seq (.region [I 91 (.mv) [T 6],
   I 92 (.mv) [T 12],
   I 93 (.build (.agg [(.int .i64 0), (.int .i64 0), (.int .i64 0), (.int .i64 0), (.int .i64 0), (.bool false), (.int .i64 0), (.int .i64 0), (.bool false), (.int .i64 0), (.int .i64 0), (.int .i64 0), (.int .i64 0), (.int .i64 0)]) [(0, 1), (1, 1), (2, 1), (10, 1)]) [N 8, N 1, T 92, N 1],
   I 94 (.callv) [F 8, T 91, T 93],
   I 14 (.alloc 30 2 (.vals [(.int .i64 0), (.int .i64 0)])) [],
   J (.store 2) [T 14, T 94]])
 (.seq (.seq (.region [I 95 (.fieldAddr 0) [T 13],
   I 96 (.load1) [T 95],
   I 97 (.bin .neq) [T 96, N 0],
   I 98 (.mv) [T 97],
   IG 99 (.fieldAddr 1) [T 14] 98 false,
   IG 100 (.load1) [T 99] 98 false,
   IG 101 (.mv) [T 12] 98 false,
   IG 102 (.bin .neq) [T 100, T 101] 98 false,
   I 103 (.pick) [T 98, .lit (.bool true), T 102],
   I 104 (.mv) [T 103],
   IG 105 (.mv) [T 6] 104 false,
   IG 106 (.callv) [F 9, T 105] 104 false,
   IG 107 (.lens) [T 106] 104 false,
   IG 108 (.mv) [T 5] 104 false,
   IG 109 (.bin .add) [T 108, N 1] 104 false,
   IG 110 (.bin .neq) [T 107, T 109] 104 false,
   I 111 (.pick) [T 104, .lit (.bool true), T 110]])
 (.cond (T 111)
 (.seq (.region [I 4 (.mv) [.lit (.bool false)]])
  (.ret))
 (.skip)))
 (.seq (.region [I 112 (.mv) [T 6],
   I 113 (.build (.agg [(.int .i64 0), (.int .i64 0), (.int .i64 0), (.int .i64 0), (.int .i64 0), (.bool false), (.int .i64 0), (.int .i64 0), (.bool false), (.int .i64 0), (.int .i64 0), (.int .i64 0), (.int .i64 0), (.int .i64 0)]) [(0, 1), (1, 1)]) [N 11, N 2],
   I 114 (.callv) [F 8, T 112, T 113],
   I 115 (.field 0 1 false) [T 114],
   I 116 (.bin .eql) [T 115, N 0],
   I 117 (.mv) [T 116],
   IG 118 (.mv) [T 6] 117 true,
   IG 119 (.callv) [F 9, T 118] 117 true,
   IG 120 (.lens) [T 119] 117 true,
   IG 121 (.mv) [T 5] 117 true,
   IG 122 (.bin .eql) [T 120, T 121] 117 true,
   I 123 (.pick) [T 117, T 122, .lit (.bool false)],
   I 124 (.mv) [T 123],
   IG 125 (.callv) [F 10] 124 true,
   I 126 (.pick) [T 124, T 125, .lit (.bool false)],
   I 4 (.mv) [T 126]])
 (.ret))))))))))))))⟩
theorem t3 : trFn Tryz.prog Tryz.f3 = some c_law18_KernCopies := by kernel_rfl
abbrev n_law19_LoanMany : Nat := 4
def c_law19_LoanMany_L0 : ACode :=
 .seq (.seq (.region [I 46 (.mv) [T 9],
   I 47 (.mv) [T 5],
   I 48 (.bin .leq) [T 46, T 47]])
 (.cond (T 48)
 (.skip)
 (.exit 0)))
 (.seq (.block 1 (.seq (.region [I 52 (.mv) [T 8],
   I 53 (.mv) [T 9],
   I 54 (.bin .rem) [T 53, N 2],
   I 55 (.callv) [F 12, T 52, N 1, T 54],
   I 51 (.mv) [T 55],
   I 56 (.extract 0) [T 51],
   I 57 (.extract 1) [T 51],
   I 10 (.mv) [T 56],
   I 11 (.mv) [T 57]])
 (.seq (.region [I 58 (.mv) [T 10],
   I 59 (.mv) [T 9],
   I 60 (.bin .neq) [T 58, T 59],
   I 61 (.mv) [T 60],
   IG 62 (.mv) [T 11] 61 false,
   IG 63 (.bin .neq) [T 62, N 0] 61 false,
   I 64 (.pick) [T 61, .lit (.bool true), T 63]])
 (.cond (T 64)
 (.seq (.region [I 4 (.mv) [.lit (.bool false)]])
  (.ret))
 (.skip)))))
 (.region [I 49 (.mv) [T 9],
   I 50 (.bin .add) [T 49, N 1],
   I 9 (.mv) [T 50]]))
def c_law19_LoanMany : AFn := ⟨124, [.tmp 4],
 .seq (.region [I 4 (.mv) [.lit (.bool false)]])
 (.seq (.region [I 21 (.mv) [T 0],
   I 22 (.bin .rem) [T 21, .lit (.int .u64 30)],
   I 23 (.conv .i64) [T 22],
   I 24 (.bin .add) [N 1, T 23],
   I 5 (.mv) [T 24]])
 (.seq (.region [I 26 (.build (.agg [(.int .i64 0), (.int .i64 0), (.int .i64 0), (.int .i64 0)]) [(0, 1), (2, 1)]) [N 20, N 4],
   I 27 (.callv) [F 7, T 26, .lit .nilsl],
   I 25 (.mv) [T 27],
   I 28 (.extract 0) [T 25],
   I 29 (.extract 1) [T 25],
   I 6 (.mv) [T 28],
   I 7 (.mv) [T 29]])
 (.seq (.region [I 30 (.mv) [T 6],
   I 31 (.mv) [T 5],
   I 32 (.callv) [F 11, T 30, T 31],
   I 8 (.mv) [T 32]])
 (.seq (.seq (.region [I 33 (.mv) [T 7],
   I 34 (.bin .neq) [T 33, N 0],
   I 35 (.mv) [T 34],
   IG 36 (.mv) [T 8] 35 false,
   IG 37 (.eqv false .ptr) [T 36, .lit .nilptr] 35 false,
   I 38 (.pick) [T 35, .lit (.bool true), T 37],
   I 39 (.mv) [T 38],
   IG 40 (.mv) [T 6] 39 false,
   IG 41 (.build (.agg [(.int .i64 0), (.int .i64 0), (.int .i64 0), (.int .i64 0), (.int .i64 0), (.bool false), (.int .i64 0), (.int .i64 0), (.bool false), (.int .i64 0), (.int .i64 0), (.int .i64 0), (.int .i64 0), (.int .i64 0)]) [(0, 1), (1, 1), (2, 1), (3, 1), (4, 1)]) [N 1, N 1, N (-1), N 2, N 1] 39 false,
   IG 42 (.callv) [F 8, T 40, T 41] 39 false,
   IG 43 (.field 0 1 false) [T 42] 39 false,
   IG 44 (.bin .neq) [T 43, N 0] 39 false,
   I 45 (.pick) [T 39, .lit (.bool true), T 44]])
 (.cond (T 45)
 (.seq (.region [I 4 (.mv) [.lit (.bool false)]])
  (.ret))
 (.skip)))
 (.seq (.seq (.region [I 9 (.mv) [N 1]])
 (.block 0 (.loop c_law19_LoanMany_L0)))
 (.seq (.region [I 66 (.mv) [T 8],
   I 67 (.callv) [F 12, T 66, N 1, N 0],
   I 65 (.mv) [T 67],
   I 68 (.extract 0) [T 65],
   I 69 (.extract 1) [T 65],
   I 12 (.mv) [T 68],
   I 13 (.mv) [T 69]])
 (.seq (.region [I 71 (.mv) [T 8],
   I 72 (.callv) [F 12, T 71, N 1, N 5],
   I 70 (.mv) [T 72],
   I 73 (.extract 0) [T 70],
   I 74 (.extract 1) [T 70],
   I 14 (.mv) [T 73],
   I 15 (.mv) [T 74]])
 (.seq (.region [I 76 (.mv) [T 8],
   I 77 (.callv) [F 12, T 76, N 9, N 0],
   I 75 (.mv) [T 77],
   I 78 (.extract 0) [T 75],
   I 79 (.extract 1) [T 75],
   I 16 (.mv) [T 78],
   I 17 (.mv) [T 79]])
 (.seq (.region [I 80 (.mv) [T 1],
   I 81 (.mv) [T 5],
   I 82 (.conv .u64) [T 81],
   I 83 (.bin .rem) [T 80, T 82],
   I 84 (.conv .i64) [T 83],
   I 85 (.bin .add) [N 1, T 84],
   I 18 (.mv) [T 85]])
 (.seq (.seq (.region [I 86 (.mv) [T 13],
   I 87 (.bin .neq) [T 86, N 5],
   I 88 (.mv) [T 87],
   IG 89 (.mv) [T 15] 88 false,
   IG 90 (.bin .neq) [T 89, N 4] 88 false,
   I 91 (.pick) [T 88, .lit (.bool true), T 90],
   I 92 (.mv) [T 91],
   IG 93 (.mv) [T 17] 92 false,
   IG 94 (.bin .neq) [T 93, N 7] 92 false,
   I 95 (.pick) [T 92, .lit (.bool true), T 94],
   I 96 (.mv) [T 95],
   IG 97 (.mv) [T 8] 96 false,
   IG 98 (.mv) [T 18] 96 false,
   IG 99 (.callv) [F 13, T 97, T 98] 96 false,
   IG 100 (.bin .neq) [T 99, N 0] 96 false,
   I 101 (.pick) [T 96, .lit (.bool true), T 100]])
 (.cond (T 101)
 (.seq (.region [I 4 (.mv) [.lit (.bool false)]])
  (.ret))
 (.skip)))
 (.seq (.region [I 103 (.mv) [T 8],
   I 104 (.callv) [F 12, T 103, N 1, N 1],
   I 102 (.mv) [T 104],
   I 105 (.extract 0) [T 102],
   I 106 (.extract 1) [T 102],
   I 19 (.mv) [T 105],
   I 20 (.mv) [T 106]])
 (.seq (.region [I 107 (.mv) [T 19],
   I 108 (.mv) [T 18],
   I 109 (.bin .eql) [T 107, T 108],
   I 110 (.mv) [T 109],
   IG 111 (.mv) [T 20] 110 true,
   IG 112 (.bin .eql) [T 111, N 0] 110 true,
   I 113 (.pick) [T 110, T 112, .lit (.bool false)],
   I 114 (.mv) [T 113],
   IG 115 (.mv) [T 8] 114 true,
   IG 116 (.callv) [F 14, T 115] 114 true,
   IG 117 (.lens) [T 116] 114 true,
   IG 118 (.mv) [T 5] 114 true,
   IG 119 (.bin .eql) [T 117, T 118] 114 true,
   I 120 (.pick) [T 114, T 119, .lit (.bool false)],
   I 121 (.mv) [T 120],
   IG 122 (.callv) [F 15] 121 true,
   I 123 (.pick) [T 121, T 122, .lit (.bool false)],
   I 4 (.mv) [T 123]])
 (.ret)))))))))))))⟩
theorem t4 : trFn Tryz.prog Tryz.f4 = some c_law19_LoanMany := by kernel_rfl
abbrev n_law19_LoanShares : Nat := 5
def c_law19_LoanShares_L0 : ACode :=
 .seq (.seq (.region [I 54 (.mv) [T 11],
   I 55 (.mv) [T 8],
   I 56 (.bin .leq) [T 54, T 55]])
 (.cond (T 56)
 (.skip)
 (.exit 0)))
 (.seq (.block 1 (.seq (.region [I 60 (.mv) [T 7],
   I 61 (.callv) [F 12, T 60, N 1, N 0],
   I 59 (.mv) [T 61],
   I 62 (.extract 0) [T 59],
   I 63 (.extract 1) [T 59],
   I 12 (.mv) [T 62],
   I 13 (.mv) [T 63]])
 (.seq (.seq (.region [I 64 (.mv) [T 12],
   I 65 (.mv) [T 11],
   I 66 (.bin .neq) [T 64, T 65],
   I 67 (.mv) [T 66],
   IG 68 (.mv) [T 13] 67 false,
   IG 69 (.bin .neq) [T 68, N 0] 67 false,
   I 70 (.pick) [T 67, .lit (.bool true), T 69],
   I 71 (.mv) [T 70],
   IG 72 (.mv) [T 10] 71 false,
   IG 73 (.bin .geq) [T 72, N 0] 71 false,
   IG 74 (.mv) [T 73] 71 false,
   IG 75 (.mv) [T 7] 74 true,
   IG 76 (.mv) [T 12] 74 true,
   IG 77 (.callv) [F 17, T 75, T 76] 74 true,
   IG 78 (.mv) [T 10] 74 true,
   IG 79 (.bin .neq) [T 77, T 78] 74 true,
   IG 80 (.pick) [T 74, T 79, .lit (.bool false)] 71 false,
   I 81 (.pick) [T 71, .lit (.bool true), T 80]])
 (.cond (T 81)
 (.seq (.region [I 4 (.mv) [.lit (.bool false)]])
  (.ret))
 (.skip)))
 (.region [I 82 (.mv) [T 7],
   I 83 (.mv) [T 12],
   I 84 (.callv) [F 17, T 82, T 83],
   I 10 (.mv) [T 84]]))))
 (.region [I 57 (.mv) [T 11],
   I 58 (.bin .add) [T 57, N 1],
   I 11 (.mv) [T 58]]))
def c_law19_LoanShares_L1 : ACode :=
 .seq (.region [I 112 (.bin .lss) [T 111, T 110]])
 (.seq (.cond (T 112)
 (.skip)
 (.exit 2))
 (.seq (.block 3 (.seq (.region [I 113 (.indexs 1) [T 109, T 111],
   I 114 (.load1) [T 113],
   I 18 (.mv) [T 114]])
 (.seq (.region [I 115 (.mv) [T 7],
   I 116 (.mv) [T 18],
   I 117 (.callv) [F 13, T 115, T 116],
   I 118 (.bin .neq) [T 117, N 0]])
 (.cond (T 118)
 (.seq (.region [I 4 (.mv) [.lit (.bool false)]])
  (.ret))
 (.skip)))))
 (.region [I 119 (.bin .add) [T 111, N 1],
   I 111 (.mv) [T 119]])))
def c_law19_LoanShares : AFn := ⟨151, [.tmp 4],
 .seq (.region [I 4 (.mv) [.lit (.bool false)]])
 (.seq (.region [I 22 (.build (.agg [(.int .i64 0), (.int .i64 0), (.int .i64 0), (.int .i64 0)]) [(0, 1), (2, 1)]) [N 30, N 4],
   I 23 (.callv) [F 7, T 22, .lit .nilsl],
   I 21 (.mv) [T 23],
   I 24 (.extract 0) [T 21],
   I 25 (.extract 1) [T 21],
   I 5 (.mv) [T 24],
   I 6 (.mv) [T 25]])
 (.seq (.region [I 26 (.mv) [T 5],
   I 27 (.callv) [F 11, T 26, N 64],
   I 7 (.mv) [T 27]])
 (.seq (.region [I 28 (.mv) [T 0],
   I 29 (.bin .rem) [T 28, .lit (.int .u64 40)],
   I 30 (.conv .i64) [T 29],
   I 31 (.bin .add) [N 1, T 30],
   I 8 (.mv) [T 31]])
 (.seq (.seq (.region [I 32 (.mv) [T 6],
   I 33 (.bin .neq) [T 32, N 0],
   I 34 (.mv) [T 33],
   IG 35 (.mv) [T 7] 34 false,
   IG 36 (.eqv false .ptr) [T 35, .lit .nilptr] 34 false,
   I 37 (.pick) [T 34, .lit (.bool true), T 36],
   I 38 (.mv) [T 37],
   IG 39 (.mv) [T 5] 38 false,
   IG 40 (.build (.agg [(.int .i64 0), (.int .i64 0), (.int .i64 0), (.int .i64 0), (.int .i64 0), (.bool false), (.int .i64 0), (.int .i64 0), (.bool false), (.int .i64 0), (.int .i64 0), (.int .i64 0), (.int .i64 0), (.int .i64 0)]) [(0, 1), (1, 1), (2, 1), (3, 1), (4, 1), (8, 1)]) [N 1, N 1, N 0, N 1, N 3, .lit (.bool true)] 38 false,
   IG 41 (.callv) [F 8, T 39, T 40] 38 false,
   IG 42 (.field 0 1 false) [T 41] 38 false,
   IG 43 (.bin .neq) [T 42, N 0] 38 false,
   I 44 (.pick) [T 38, .lit (.bool true), T 43],
   I 45 (.mv) [T 44],
   IG 46 (.mv) [T 5] 45 false,
   IG 47 (.build (.agg [(.int .i64 0), (.int .i64 0), (.int .i64 0), (.int .i64 0), (.int .i64 0), (.bool false), (.int .i64 0), (.int .i64 0), (.bool false), (.int .i64 0), (.int .i64 0), (.int .i64 0), (.int .i64 0), (.int .i64 0)]) [(0, 1), (1, 1), (11, 1)]) [N 9, N 1, N 5] 45 false,
   IG 48 (.callv) [F 8, T 46, T 47] 45 false,
   IG 49 (.field 0 1 false) [T 48] 45 false,
   IG 50 (.bin .neq) [T 49, N 0] 45 false,
   I 51 (.pick) [T 45, .lit (.bool true), T 50]])
 (.cond (T 51)
 (.seq (.region [I 4 (.mv) [.lit (.bool false)]])
  (.ret))
 (.skip)))
 (.seq (.region [I 52 (.mv) [T 5],
   I 53 (.callv) [F 16, T 52],
   I 9 (.mv) [T 53]])
 (.seq (.region [I 10 (.mv) [N (-1)]])
 (.seq (.seq (.region [I 11 (.mv) [N 1]])
 (.block 0 (.loop c_law19_LoanShares_L0)))
 (.seq (.seq (.region [I 85 (.mv) [T 5],
   I 86 (.callv) [F 16, T 85],
   I 87 (.mv) [T 9],
   I 88 (.bin .lss) [T 86, T 87],
   I 89 (.mv) [T 88],
   IG 90 (.mv) [T 5] 89 false,
   IG 91 (.mv) [T 1] 89 false,
   IG 92 (.bin .rem) [T 91, .lit (.int .u64 256)] 89 false,
   IG 93 (.conv .i64) [T 92] 89 false,
   IG 94 (.build (.agg [(.int .i64 0), (.int .i64 0), (.int .i64 0), (.int .i64 0), (.int .i64 0), (.bool false), (.int .i64 0), (.int .i64 0), (.bool false), (.int .i64 0), (.int .i64 0), (.int .i64 0), (.int .i64 0), (.int .i64 0)]) [(0, 1), (1, 1), (11, 1)]) [N 9, N 1, T 93] 89 false,
   IG 95 (.callv) [F 8, T 90, T 94] 89 false,
   IG 96 (.field 0 1 false) [T 95] 89 false,
   IG 97 (.bin .neq) [T 96, N 0] 89 false,
   I 98 (.pick) [T 89, .lit (.bool true), T 97]])
 (.cond (T 98)
 (.seq (.region [I 4 (.mv) [.lit (.bool false)]])
  (.ret))
 (.skip)))
 (.seq (.region [I 100 (.mv) [T 7],
   I 101 (.mv) [T 8],
   I 102 (.callv) [F 18, T 100, T 101, N 0],
   I 99 (.mv) [T 102],
   I 103 (.extract 0) [T 99],
   I 104 (.extract 1) [T 99],
   I 14 (.mv) [T 103],
   I 15 (.mv) [T 104]])
 (.seq (.region [I 105 (.mv) [T 5],
   I 106 (.callv) [F 9, T 105],
   I 107 (.lens) [T 106],
   I 16 (.mv) [T 107]])
 (.seq (.seq (.region [I 108 (.mv) [T 7],
   I 109 (.callv) [F 14, T 108],
   I 110 (.lens) [T 109],
   I 111 (.mv) [N 0]])
 (.block 2 (.loop c_law19_LoanShares_L1)))
 (.seq (.region [I 121 (.mv) [T 5],
   I 122 (.callv) [F 19, T 121, N 1, N 0, N 0],
   I 120 (.mv) [T 122],
   I 123 (.extract 0) [T 120],
   I 124 (.extract 1) [T 120],
   I 19 (.mv) [T 123],
   I 20 (.mv) [T 124]])
 (.seq (.region (I 125 (.mv) [T 14] ::
   I 126 (.bin .eql) [T 125, N 5] ::
   I 127 (.mv) [T 126] ::
   IG 128 (.mv) [T 16] 127 true ::
   IG 129 (.bin .eql) [T 128, N 1] 127 true ::
   I 130 (.pick) [T 127, T 129, .lit (.bool false)] ::
   I 131 (.mv) [T 130] ::
   IG 132 (.mv) [T 19] 131 true ::
   IG 133 (.mv) [T 1] 131 true ::
   IG 134 (.bin .rem) [T 133, .lit (.int .u64 256)] 131 true ::
   IG 135 (.conv .i64) [T 134] 131 true ::
   IG 136 (.bin .eql) [T 132, T 135] 131 true ::
   I 137 (.pick) [T 131, T 136, .lit (.bool false)] ::
   I 138 (.mv) [T 137] ::
   IG 139 (.mv) [T 20] 138 true ::
   IG 140 (.bin .eql) [T 139, N 0] 138 true ::
   I 141 (.pick) [T 138, T 140, .lit (.bool false)] ::
   I 142 (.mv) [T 141] ::
   IG 143 (.mv) [T 5] 142 true ::
   IG 144 (.callv) [F 16, T 143] 142 true ::
   IG 145 (.mv) [T 9] 142 true ::
   IG 146 (.bin .eql) [T 144, T 145] 142 true ::
   I 147 (.pick) [T 142, T 146, .lit (.bool false)] ::
   I 148 (.mv) [T 147] ::
   IG 149 (.callv) [F 15] 148 true ::
   I 150 (.pick) [T 148, T 149, .lit (.bool false)] ::
   I 4 (.mv) [T 150] ::
   []))
 (.ret))))))))))))))⟩
theorem t5 : trFn Tryz.prog Tryz.f5 = some c_law19_LoanShares := by kernel_rfl
abbrev n_law20_DaemonSpares : Nat := 6
def c_law20_DaemonSpares_L0 : ACode :=
 .seq (.seq (.region [I 39 (.mv) [T 9],
   I 40 (.mv) [T 5],
   I 41 (.bin .lss) [T 39, T 40]])
 (.cond (T 41)
 (.skip)
 (.exit 0)))
 (.seq (.block 1 (.seq (.region [I 44 (.mv) [T 6],
   I 45 (.mv) [T 9],
   I 46 (.mv) [T 9],
   I 47 (.build (.agg [(.int .i64 0), (.int .i64 0), (.int .i64 0), (.int .i64 0), (.int .i64 0), (.bool false), (.int .i64 0), (.int .i64 0), (.bool false), (.int .i64 0), (.int .i64 0), (.int .i64 0), (.int .i64 0), (.int .i64 0)]) [(0, 1), (1, 1), (2, 1), (10, 1), (11, 1)]) [N 9, N 1, T 45, N 2, T 46],
   I 48 (.callv) [F 8, T 44, T 47],
   I 49 (.field 0 1 false) [T 48],
   I 50 (.bin .neq) [T 49, N 0]])
 (.cond (T 50)
 (.seq (.region [I 4 (.mv) [.lit (.bool false)]])
  (.ret))
 (.skip))))
 (.region [I 42 (.mv) [T 9],
   I 43 (.bin .add) [T 42, N 1],
   I 9 (.mv) [T 43]]))
def c_law20_DaemonSpares_L1 : ACode :=
 .seq (.seq (.region [I 56 (.mv) [T 12],
   I 57 (.mv) [T 5],
   I 58 (.bin .mul) [N 6, T 57],
   I 59 (.bin .lss) [T 56, T 58],
   I 60 (.mv) [T 59],
   IG 61 (.mv) [T 11] 60 true,
   IG 62 (.mv) [T 5] 60 true,
   IG 63 (.bin .sub) [T 62, N 1] 60 true,
   IG 64 (.bin .lss) [T 61, T 63] 60 true,
   I 65 (.pick) [T 60, T 64, .lit (.bool false)]])
 (.cond (T 65)
 (.skip)
 (.exit 2)))
 (.seq (.block 3 (.seq (.region [I 68 (.mv) [T 6],
   I 69 (.callv) [F 9, T 68],
   I 70 (.lens) [T 69],
   I 13 (.mv) [T 70]])
 (.seq (.seq (.region [I 71 (.mv) [T 6],
   I 72 (.mv) [T 10],
   I 73 (.build (.agg [(.int .i64 0), (.int .i64 0), (.int .i64 0), (.int .i64 0), (.int .i64 0), (.bool false), (.int .i64 0), (.int .i64 0), (.bool false), (.int .i64 0), (.int .i64 0), (.int .i64 0), (.int .i64 0), (.int .i64 0)]) [(0, 1), (1, 1), (2, 1), (10, 1)]) [N 8, N 1, T 72, N 2],
   I 74 (.callv) [F 8, T 71, T 73],
   I 75 (.field 1 1 false) [T 74],
   I 76 (.mv) [T 10],
   I 77 (.bin .neq) [T 75, T 76],
   I 78 (.mv) [T 77],
   IG 79 (.mv) [T 6] 78 false,
   IG 80 (.callv) [F 9, T 79] 78 false,
   IG 81 (.lens) [T 80] 78 false,
   IG 82 (.mv) [T 13] 78 false,
   IG 83 (.bin .neq) [T 81, T 82] 78 false,
   I 84 (.pick) [T 78, .lit (.bool true), T 83]])
 (.cond (T 84)
 (.seq (.region [I 4 (.mv) [.lit (.bool false)]])
  (.ret))
 (.skip)))
 (.region [I 85 (.mv) [T 11],
   I 86 (.mv) [T 8],
   I 87 (.callv) [F 21, T 86, N 1],
   I 88 (.bin .add) [T 85, T 87],
   I 11 (.mv) [T 88]]))))
 (.region [I 66 (.mv) [T 12],
   I 67 (.bin .add) [T 66, N 1],
   I 12 (.mv) [T 67]]))
def c_law20_DaemonSpares : AFn := ⟨102, [.tmp 4],
 .seq (.region [I 4 (.mv) [.lit (.bool false)]])
 (.seq (.region [I 14 (.mv) [T 0],
   I 15 (.bin .rem) [T 14, .lit (.int .u64 10)],
   I 16 (.conv .i64) [T 15],
   I 17 (.bin .add) [N 2, T 16],
   I 5 (.mv) [T 17]])
 (.seq (.region [I 19 (.build (.agg [(.int .i64 0), (.int .i64 0), (.int .i64 0), (.int .i64 0)]) [(0, 1), (2, 1)]) [N 40, N 40],
   I 20 (.callv) [F 7, T 19, .lit .nilsl],
   I 18 (.mv) [T 20],
   I 21 (.extract 0) [T 18],
   I 22 (.extract 1) [T 18],
   I 6 (.mv) [T 21],
   I 7 (.mv) [T 22]])
 (.seq (.region [I 23 (.mv) [T 6],
   I 24 (.callv) [F 20, T 23],
   I 8 (.mv) [T 24]])
 (.seq (.seq (.region [I 25 (.mv) [T 7],
   I 26 (.bin .neq) [T 25, N 0],
   I 27 (.mv) [T 26],
   IG 28 (.mv) [T 8] 27 false,
   IG 29 (.eqv false .ptr) [T 28, .lit .nilptr] 27 false,
   I 30 (.pick) [T 27, .lit (.bool true), T 29],
   I 31 (.mv) [T 30],
   IG 32 (.mv) [T 6] 31 false,
   IG 33 (.mv) [T 5] 31 false,
   IG 34 (.build (.agg [(.int .i64 0), (.int .i64 0), (.int .i64 0), (.int .i64 0), (.int .i64 0), (.bool false), (.int .i64 0), (.int .i64 0), (.bool false), (.int .i64 0), (.int .i64 0), (.int .i64 0), (.int .i64 0), (.int .i64 0)]) [(0, 1), (1, 1), (2, 1), (3, 1), (4, 1), (8, 1)]) [N 1, N 1, N 0, T 33, N 3, .lit (.bool true)] 31 false,
   IG 35 (.callv) [F 8, T 32, T 34] 31 false,
   IG 36 (.field 0 1 false) [T 35] 31 false,
   IG 37 (.bin .neq) [T 36, N 0] 31 false,
   I 38 (.pick) [T 31, .lit (.bool true), T 37]])
 (.cond (T 38)
 (.seq (.region [I 4 (.mv) [.lit (.bool false)]])
  (.ret))
 (.skip)))
 (.seq (.seq (.region [I 9 (.mv) [N 0]])
 (.block 0 (.loop c_law20_DaemonSpares_L0)))
 (.seq (.region [I 51 (.mv) [T 1],
   I 52 (.mv) [T 5],
   I 53 (.conv .u64) [T 52],
   I 54 (.bin .rem) [T 51, T 53],
   I 55 (.conv .i64) [T 54],
   I 10 (.mv) [T 55]])
 (.seq (.region [I 11 (.mv) [N 0]])
 (.seq (.seq (.region [I 12 (.mv) [N 0]])
 (.block 2 (.loop c_law20_DaemonSpares_L1)))
 (.seq (.region [I 89 (.mv) [T 11],
   I 90 (.mv) [T 5],
   I 91 (.bin .sub) [T 90, N 1],
   I 92 (.bin .eql) [T 89, T 91],
   I 93 (.mv) [T 92],
   IG 94 (.mv) [T 6] 93 true,
   IG 95 (.callv) [F 9, T 94] 93 true,
   IG 96 (.lens) [T 95] 93 true,
   IG 97 (.bin .eql) [T 96, N 1] 93 true,
   I 98 (.pick) [T 93, T 97, .lit (.bool false)],
   I 99 (.mv) [T 98],
   IG 100 (.callv) [F 22] 99 true,
   I 101 (.pick) [T 99, T 100, .lit (.bool false)],
   I 4 (.mv) [T 101]])
 (.ret))))))))))⟩
theorem t6 : trFn Tryz.prog Tryz.f6 = some c_law20_DaemonSpares := by kernel_rfl
abbrev n_kern_New : Nat := 7
def c_kern_New_L0 : ACode :=
 .seq (.region [I 42 (.bin .lss) [T 41, T 40]])
 (.seq (.cond (T 42)
 (.skip)
 (.exit 0))
 (.seq (.block 1 (.seq (.region [I 43 (.indexs 1) [T 39, T 41],
   I 44 (.load1) [T 43],
   I 8 (.mv) [T 44]])
 (.region [I 45 (.mv) [T 6],
   I 46 (.nilCheck) [T 45],
   I 47 (.fieldAddr 4) [T 46],
   I 48 (.load1) [T 47],
   I 49 (.mv) [T 8],
   I 50 (.callv) [F 33, T 48, T 49]])))
 (.region [I 51 (.bin .add) [T 41, N 1],
   I 41 (.mv) [T 51]])))
def c_kern_New : AFn := ⟨61, [.tmp 4, .tmp 5],
 .seq (.region [I 2 (.box 28 4) [T 0],
   I 4 (.mv) [.lit .nilptr],
   I 5 (.mv) [N 0]])
 (.seq (.seq (.region [I 11 (.loadn 4) [T 2],
   I 12 (.mv) [T 1],
   I 13 (.callv) [F 23, T 11, T 12],
   I 14 (.un .not) [T 13]])
 (.cond (T 14)
 (.seq (.region [I 4 (.mv) [.lit .nilptr],
    I 5 (.mv) [N 2]])
  (.ret))
 (.skip)))
 (.seq (.draw [(⟨0, I 15 (.fieldAddr 0) [T 2], [], false⟩ ::
   ⟨1, I 16 (.load1) [T 15], [], false⟩ ::
   ⟨3, I 18 (.fieldAddr 0) [T 2], [], false⟩ ::
   ⟨4, I 19 (.load1) [T 18], [], false⟩ ::
   ⟨5, I 20 (.fieldAddr 1) [T 2], [], false⟩ ::
   ⟨6, I 21 (.load1) [T 20], [], false⟩ ::
   ⟨8, I 23 (.fieldAddr 2) [T 2], [], false⟩ ::
   ⟨9, I 24 (.load1) [T 23], [], false⟩ ::
   ⟨11, I 26 (.fieldAddr 2) [T 2], [], false⟩ ::
   ⟨12, I 27 (.load1) [T 26], [], false⟩ ::
   ⟨18, I 33 (.fieldAddr 3) [T 2], [], false⟩ ::
   ⟨19, I 34 (.load1) [T 33], [], false⟩ ::
   ⟨2, I 17 (.callv) [F 24, T 16], [(4, I 19 (.load1) [T 18]), (6, I 21 (.load1) [T 20]), (9, I 24 (.load1) [T 23]), (12, I 27 (.load1) [T 26]), (19, I 34 (.load1) [T 33])], false⟩ ::
   ⟨7, I 22 (.callv) [F 25, T 19, T 21], [(9, I 24 (.load1) [T 23]), (12, I 27 (.load1) [T 26]), (19, I 34 (.load1) [T 33])], false⟩ ::
   ⟨10, I 25 (.callv) [F 26, T 24], [(12, I 27 (.load1) [T 26]), (19, I 34 (.load1) [T 33])], false⟩ ::
   ⟨13, I 28 (.callv) [F 27, T 27], [(19, I 34 (.load1) [T 33])], false⟩ ::
   ⟨14, I 29 (.callv) [F 28], [(19, I 34 (.load1) [T 33])], false⟩ ::
   ⟨15, I 30 (.callv) [F 29, N 4096], [(19, I 34 (.load1) [T 33])], false⟩ ::
   ⟨16, I 31 (.callv) [F 30, N 4096], [(19, I 34 (.load1) [T 33])], false⟩ ::
   ⟨17, I 32 (.callv) [F 31, N 4096], [(19, I 34 (.load1) [T 33])], false⟩ ::
   ⟨20, I 35 (.callv) [F 32, T 34], [], false⟩ ::
   ⟨21, I 36 (.mkmap) [], [(1, I 16 (.load1) [T 15]), (4, I 19 (.load1) [T 18]), (6, I 21 (.load1) [T 20]), (9, I 24 (.load1) [T 23]), (12, I 27 (.load1) [T 26]), (19, I 34 (.load1) [T 33])], false⟩ ::
   ⟨22, I 37 (.build (.agg [.nilptr, .nilptr, .nilptr, .nilptr, .nilptr, .nilptr, .nilptr, .nilptr, .nilptr, .nilmap, (.int .i64 0)]) [(0, 1), (1, 1), (2, 1), (3, 1), (4, 1), (5, 1), (6, 1), (7, 1), (8, 1), (9, 1), (10, 1)]) [T 17, T 22, T 25, T 28, T 29, T 30, T 31, T 32, T 35, T 36, N 1000], [], false⟩ ::
   ⟨23, I 38 (.box 69 11) [T 37], [], false⟩ ::
   ⟨24, I 6 (.mv) [T 38], [], false⟩ ::
   []),
(⟨0, I 15 (.fieldAddr 0) [T 2], [], false⟩ ::
   ⟨1, I 16 (.load1) [T 15], [], false⟩ ::
   ⟨3, I 18 (.fieldAddr 0) [T 2], [], false⟩ ::
   ⟨4, I 19 (.load1) [T 18], [], false⟩ ::
   ⟨5, I 20 (.fieldAddr 1) [T 2], [], false⟩ ::
   ⟨6, I 21 (.load1) [T 20], [], false⟩ ::
   ⟨8, I 23 (.fieldAddr 2) [T 2], [], false⟩ ::
   ⟨9, I 24 (.load1) [T 23], [], false⟩ ::
   ⟨11, I 26 (.fieldAddr 2) [T 2], [], false⟩ ::
   ⟨12, I 27 (.load1) [T 26], [], false⟩ ::
   ⟨18, I 33 (.fieldAddr 3) [T 2], [], false⟩ ::
   ⟨19, I 34 (.load1) [T 33], [], false⟩ ::
   ⟨2, I 17 (.callv) [F 24, T 16], [(4, I 19 (.load1) [T 18]), (6, I 21 (.load1) [T 20]), (9, I 24 (.load1) [T 23]), (12, I 27 (.load1) [T 26]), (19, I 34 (.load1) [T 33])], false⟩ ::
   ⟨7, I 22 (.callv) [F 25, T 19, T 21], [(9, I 24 (.load1) [T 23]), (12, I 27 (.load1) [T 26]), (19, I 34 (.load1) [T 33])], false⟩ ::
   ⟨10, I 25 (.callv) [F 26, T 24], [(12, I 27 (.load1) [T 26]), (19, I 34 (.load1) [T 33])], false⟩ ::
   ⟨13, I 28 (.callv) [F 27, T 27], [(19, I 34 (.load1) [T 33])], false⟩ ::
   ⟨14, I 29 (.callv) [F 28], [(19, I 34 (.load1) [T 33])], false⟩ ::
   ⟨15, I 30 (.callv) [F 29, N 4096], [(19, I 34 (.load1) [T 33])], false⟩ ::
   ⟨16, I 31 (.callv) [F 30, N 4096], [(19, I 34 (.load1) [T 33])], false⟩ ::
   ⟨17, I 32 (.callv) [F 31, N 4096], [(19, I 34 (.load1) [T 33])], false⟩ ::
   ⟨21, I 36 (.mkmap) [], [(1, I 16 (.load1) [T 15]), (4, I 19 (.load1) [T 18]), (6, I 21 (.load1) [T 20]), (9, I 24 (.load1) [T 23]), (12, I 27 (.load1) [T 26]), (19, I 34 (.load1) [T 33])], false⟩ ::
   ⟨20, I 35 (.callv) [F 32, T 34], [], false⟩ ::
   ⟨22, I 37 (.build (.agg [.nilptr, .nilptr, .nilptr, .nilptr, .nilptr, .nilptr, .nilptr, .nilptr, .nilptr, .nilmap, (.int .i64 0)]) [(0, 1), (1, 1), (2, 1), (3, 1), (4, 1), (5, 1), (6, 1), (7, 1), (8, 1), (9, 1), (10, 1)]) [T 17, T 22, T 25, T 28, T 29, T 30, T 31, T 32, T 35, T 36, N 1000], [], false⟩ ::
   ⟨23, I 38 (.box 69 11) [T 37], [], false⟩ ::
   ⟨24, I 6 (.mv) [T 38], [], false⟩ ::
   []),
(⟨0, I 15 (.fieldAddr 0) [T 2], [], false⟩ ::
   ⟨1, I 16 (.load1) [T 15], [], false⟩ ::
   ⟨3, I 18 (.fieldAddr 0) [T 2], [], false⟩ ::
   ⟨4, I 19 (.load1) [T 18], [], false⟩ ::
   ⟨5, I 20 (.fieldAddr 1) [T 2], [], false⟩ ::
   ⟨6, I 21 (.load1) [T 20], [], false⟩ ::
   ⟨8, I 23 (.fieldAddr 2) [T 2], [], false⟩ ::
   ⟨9, I 24 (.load1) [T 23], [], false⟩ ::
   ⟨11, I 26 (.fieldAddr 2) [T 2], [], false⟩ ::
   ⟨12, I 27 (.load1) [T 26], [], false⟩ ::
   ⟨18, I 33 (.fieldAddr 3) [T 2], [], false⟩ ::
   ⟨19, I 34 (.load1) [T 33], [], false⟩ ::
   ⟨2, I 17 (.callv) [F 24, T 16], [(4, I 19 (.load1) [T 18]), (6, I 21 (.load1) [T 20]), (9, I 24 (.load1) [T 23]), (12, I 27 (.load1) [T 26]), (19, I 34 (.load1) [T 33])], false⟩ ::
   ⟨7, I 22 (.callv) [F 25, T 19, T 21], [(9, I 24 (.load1) [T 23]), (12, I 27 (.load1) [T 26]), (19, I 34 (.load1) [T 33])], false⟩ ::
   ⟨10, I 25 (.callv) [F 26, T 24], [(12, I 27 (.load1) [T 26]), (19, I 34 (.load1) [T 33])], false⟩ ::
   ⟨13, I 28 (.callv) [F 27, T 27], [(19, I 34 (.load1) [T 33])], false⟩ ::
   ⟨14, I 29 (.callv) [F 28], [(19, I 34 (.load1) [T 33])], false⟩ ::
   ⟨15, I 30 (.callv) [F 29, N 4096], [(19, I 34 (.load1) [T 33])], false⟩ ::
   ⟨16, I 31 (.callv) [F 30, N 4096], [(19, I 34 (.load1) [T 33])], false⟩ ::
   ⟨21, I 36 (.mkmap) [], [(1, I 16 (.load1) [T 15]), (4, I 19 (.load1) [T 18]), (6, I 21 (.load1) [T 20]), (9, I 24 (.load1) [T 23]), (12, I 27 (.load1) [T 26]), (19, I 34 (.load1) [T 33])], false⟩ ::
   ⟨17, I 32 (.callv) [F 31, N 4096], [(19, I 34 (.load1) [T 33])], false⟩ ::
   ⟨20, I 35 (.callv) [F 32, T 34], [], false⟩ ::
   ⟨22, I 37 (.build (.agg [.nilptr, .nilptr, .nilptr, .nilptr, .nilptr, .nilptr, .nilptr, .nilptr, .nilptr, .nilmap, (.int .i64 0)]) [(0, 1), (1, 1), (2, 1), (3, 1), (4, 1), (5, 1), (6, 1), (7, 1), (8, 1), (9, 1), (10, 1)]) [T 17, T 22, T 25, T 28, T 29, T 30, T 31, T 32, T 35, T 36, N 1000], [], false⟩ ::
   ⟨23, I 38 (.box 69 11) [T 37], [], false⟩ ::
   ⟨24, I 6 (.mv) [T 38], [], false⟩ ::
   []),
(⟨0, I 15 (.fieldAddr 0) [T 2], [], false⟩ ::
   ⟨1, I 16 (.load1) [T 15], [], false⟩ ::
   ⟨3, I 18 (.fieldAddr 0) [T 2], [], false⟩ ::
   ⟨4, I 19 (.load1) [T 18], [], false⟩ ::
   ⟨5, I 20 (.fieldAddr 1) [T 2], [], false⟩ ::
   ⟨6, I 21 (.load1) [T 20], [], false⟩ ::
   ⟨8, I 23 (.fieldAddr 2) [T 2], [], false⟩ ::
   ⟨9, I 24 (.load1) [T 23], [], false⟩ ::
   ⟨11, I 26 (.fieldAddr 2) [T 2], [], false⟩ ::
   ⟨12, I 27 (.load1) [T 26], [], false⟩ ::
   ⟨18, I 33 (.fieldAddr 3) [T 2], [], false⟩ ::
   ⟨19, I 34 (.load1) [T 33], [], false⟩ ::
   ⟨2, I 17 (.callv) [F 24, T 16], [(4, I 19 (.load1) [T 18]), (6, I 21 (.load1) [T 20]), (9, I 24 (.load1) [T 23]), (12, I 27 (.load1) [T 26]), (19, I 34 (.load1) [T 33])], false⟩ ::
   ⟨7, I 22 (.callv) [F 25, T 19, T 21], [(9, I 24 (.load1) [T 23]), (12, I 27 (.load1) [T 26]), (19, I 34 (.load1) [T 33])], false⟩ ::
   ⟨10, I 25 (.callv) [F 26, T 24], [(12, I 27 (.load1) [T 26]), (19, I 34 (.load1) [T 33])], false⟩ ::
   ⟨13, I 28 (.callv) [F 27, T 27], [(19, I 34 (.load1) [T 33])], false⟩ ::
   ⟨14, I 29 (.callv) [F 28], [(19, I 34 (.load1) [T 33])], false⟩ ::
   ⟨15, I 30 (.callv) [F 29, N 4096], [(19, I 34 (.load1) [T 33])], false⟩ ::
   ⟨21, I 36 (.mkmap) [], [(1, I 16 (.load1) [T 15]), (4, I 19 (.load1) [T 18]), (6, I 21 (.load1) [T 20]), (9, I 24 (.load1) [T 23]), (12, I 27 (.load1) [T 26]), (19, I 34 (.load1) [T 33])], false⟩ ::
   ⟨16, I 31 (.callv) [F 30, N 4096], [(19, I 34 (.load1) [T 33])], false⟩ ::
   ⟨17, I 32 (.callv) [F 31, N 4096], [(19, I 34 (.load1) [T 33])], false⟩ ::
   ⟨20, I 35 (.callv) [F 32, T 34], [], false⟩ ::
   ⟨22, I 37 (.build (.agg [.nilptr, .nilptr, .nilptr, .nilptr, .nilptr, .nilptr, .nilptr, .nilptr, .nilptr, .nilmap, (.int .i64 0)]) [(0, 1), (1, 1), (2, 1), (3, 1), (4, 1), (5, 1), (6, 1), (7, 1), (8, 1), (9, 1), (10, 1)]) [T 17, T 22, T 25, T 28, T 29, T 30, T 31, T 32, T 35, T 36, N 1000], [], false⟩ ::
   ⟨23, I 38 (.box 69 11) [T 37], [], false⟩ ::
   ⟨24, I 6 (.mv) [T 38], [], false⟩ ::
   []),
(⟨0, I 15 (.fieldAddr 0) [T 2], [], false⟩ ::
   ⟨1, I 16 (.load1) [T 15], [], false⟩ ::
   ⟨3, I 18 (.fieldAddr 0) [T 2], [], false⟩ ::
   ⟨4, I 19 (.load1) [T 18], [], false⟩ ::
   ⟨5, I 20 (.fieldAddr 1) [T 2], [], false⟩ ::
   ⟨6, I 21 (.load1) [T 20], [], false⟩ ::
   ⟨8, I 23 (.fieldAddr 2) [T 2], [], false⟩ ::
   ⟨9, I 24 (.load1) [T 23], [], false⟩ ::
   ⟨11, I 26 (.fieldAddr 2) [T 2], [], false⟩ ::
   ⟨12, I 27 (.load1) [T 26], [], false⟩ ::
   ⟨18, I 33 (.fieldAddr 3) [T 2], [], false⟩ ::
   ⟨19, I 34 (.load1) [T 33], [], false⟩ ::
   ⟨2, I 17 (.callv) [F 24, T 16], [(4, I 19 (.load1) [T 18]), (6, I 21 (.load1) [T 20]), (9, I 24 (.load1) [T 23]), (12, I 27 (.load1) [T 26]), (19, I 34 (.load1) [T 33])], false⟩ ::
   ⟨7, I 22 (.callv) [F 25, T 19, T 21], [(9, I 24 (.load1) [T 23]), (12, I 27 (.load1) [T 26]), (19, I 34 (.load1) [T 33])], false⟩ ::
   ⟨10, I 25 (.callv) [F 26, T 24], [(12, I 27 (.load1) [T 26]), (19, I 34 (.load1) [T 33])], false⟩ ::
   ⟨13, I 28 (.callv) [F 27, T 27], [(19, I 34 (.load1) [T 33])], false⟩ ::
   ⟨14, I 29 (.callv) [F 28], [(19, I 34 (.load1) [T 33])], false⟩ ::
   ⟨21, I 36 (.mkmap) [], [(1, I 16 (.load1) [T 15]), (4, I 19 (.load1) [T 18]), (6, I 21 (.load1) [T 20]), (9, I 24 (.load1) [T 23]), (12, I 27 (.load1) [T 26]), (19, I 34 (.load1) [T 33])], false⟩ ::
   ⟨15, I 30 (.callv) [F 29, N 4096], [(19, I 34 (.load1) [T 33])], false⟩ ::
   ⟨16, I 31 (.callv) [F 30, N 4096], [(19, I 34 (.load1) [T 33])], false⟩ ::
   ⟨17, I 32 (.callv) [F 31, N 4096], [(19, I 34 (.load1) [T 33])], false⟩ ::
   ⟨20, I 35 (.callv) [F 32, T 34], [], false⟩ ::
   ⟨22, I 37 (.build (.agg [.nilptr, .nilptr, .nilptr, .nilptr, .nilptr, .nilptr, .nilptr, .nilptr, .nilptr, .nilmap, (.int .i64 0)]) [(0, 1), (1, 1), (2, 1), (3, 1), (4, 1), (5, 1), (6, 1), (7, 1), (8, 1), (9, 1), (10, 1)]) [T 17, T 22, T 25, T 28, T 29, T 30, T 31, T 32, T 35, T 36, N 1000], [], false⟩ ::
   ⟨23, I 38 (.box 69 11) [T 37], [], false⟩ ::
   ⟨24, I 6 (.mv) [T 38], [], false⟩ ::
   []),
(⟨0, I 15 (.fieldAddr 0) [T 2], [], false⟩ ::
   ⟨1, I 16 (.load1) [T 15], [], false⟩ ::
   ⟨3, I 18 (.fieldAddr 0) [T 2], [], false⟩ ::
   ⟨4, I 19 (.load1) [T 18], [], false⟩ ::
   ⟨5, I 20 (.fieldAddr 1) [T 2], [], false⟩ ::
   ⟨6, I 21 (.load1) [T 20], [], false⟩ ::
   ⟨8, I 23 (.fieldAddr 2) [T 2], [], false⟩ ::
   ⟨9, I 24 (.load1) [T 23], [], false⟩ ::
   ⟨11, I 26 (.fieldAddr 2) [T 2], [], false⟩ ::
   ⟨12, I 27 (.load1) [T 26], [], false⟩ ::
   ⟨18, I 33 (.fieldAddr 3) [T 2], [], false⟩ ::
   ⟨19, I 34 (.load1) [T 33], [], false⟩ ::
   ⟨2, I 17 (.callv) [F 24, T 16], [(4, I 19 (.load1) [T 18]), (6, I 21 (.load1) [T 20]), (9, I 24 (.load1) [T 23]), (12, I 27 (.load1) [T 26]), (19, I 34 (.load1) [T 33])], false⟩ ::
   ⟨7, I 22 (.callv) [F 25, T 19, T 21], [(9, I 24 (.load1) [T 23]), (12, I 27 (.load1) [T 26]), (19, I 34 (.load1) [T 33])], false⟩ ::
   ⟨10, I 25 (.callv) [F 26, T 24], [(12, I 27 (.load1) [T 26]), (19, I 34 (.load1) [T 33])], false⟩ ::
   ⟨13, I 28 (.callv) [F 27, T 27], [(19, I 34 (.load1) [T 33])], false⟩ ::
   ⟨21, I 36 (.mkmap) [], [(1, I 16 (.load1) [T 15]), (4, I 19 (.load1) [T 18]), (6, I 21 (.load1) [T 20]), (9, I 24 (.load1) [T 23]), (12, I 27 (.load1) [T 26]), (19, I 34 (.load1) [T 33])], false⟩ ::
   ⟨14, I 29 (.callv) [F 28], [(19, I 34 (.load1) [T 33])], false⟩ ::
   ⟨15, I 30 (.callv) [F 29, N 4096], [(19, I 34 (.load1) [T 33])], false⟩ ::
   ⟨16, I 31 (.callv) [F 30, N 4096], [(19, I 34 (.load1) [T 33])], false⟩ ::
   ⟨17, I 32 (.callv) [F 31, N 4096], [(19, I 34 (.load1) [T 33])], false⟩ ::
   ⟨20, I 35 (.callv) [F 32, T 34], [], false⟩ ::
   ⟨22, I 37 (.build (.agg [.nilptr, .nilptr, .nilptr, .nilptr, .nilptr, .nilptr, .nilptr, .nilptr, .nilptr, .nilmap, (.int .i64 0)]) [(0, 1), (1, 1), (2, 1), (3, 1), (4, 1), (5, 1), (6, 1), (7, 1), (8, 1), (9, 1), (10, 1)]) [T 17, T 22, T 25, T 28, T 29, T 30, T 31, T 32, T 35, T 36, N 1000], [], false⟩ ::
   ⟨23, I 38 (.box 69 11) [T 37], [], false⟩ ::
   ⟨24, I 6 (.mv) [T 38], [], false⟩ ::
   []),
(⟨0, I 15 (.fieldAddr 0) [T 2], [], false⟩ ::
   ⟨1, I 16 (.load1) [T 15], [], false⟩ ::
   ⟨3, I 18 (.fieldAddr 0) [T 2], [], false⟩ ::
   ⟨4, I 19 (.load1) [T 18], [], false⟩ ::
   ⟨5, I 20 (.fieldAddr 1) [T 2], [], false⟩ ::
   ⟨6, I 21 (.load1) [T 20], [], false⟩ ::
   ⟨8, I 23 (.fieldAddr 2) [T 2], [], false⟩ ::
   ⟨9, I 24 (.load1) [T 23], [], false⟩ ::
   ⟨11, I 26 (.fieldAddr 2) [T 2], [], false⟩ ::
   ⟨12, I 27 (.load1) [T 26], [], false⟩ ::
   ⟨18, I 33 (.fieldAddr 3) [T 2], [], false⟩ ::
   ⟨19, I 34 (.load1) [T 33], [], false⟩ ::
   ⟨2, I 17 (.callv) [F 24, T 16], [(4, I 19 (.load1) [T 18]), (6, I 21 (.load1) [T 20]), (9, I 24 (.load1) [T 23]), (12, I 27 (.load1) [T 26]), (19, I 34 (.load1) [T 33])], false⟩ ::
   ⟨7, I 22 (.callv) [F 25, T 19, T 21], [(9, I 24 (.load1) [T 23]), (12, I 27 (.load1) [T 26]), (19, I 34 (.load1) [T 33])], false⟩ ::
   ⟨10, I 25 (.callv) [F 26, T 24], [(12, I 27 (.load1) [T 26]), (19, I 34 (.load1) [T 33])], false⟩ ::
   ⟨21, I 36 (.mkmap) [], [(1, I 16 (.load1) [T 15]), (4, I 19 (.load1) [T 18]), (6, I 21 (.load1) [T 20]), (9, I 24 (.load1) [T 23]), (12, I 27 (.load1) [T 26]), (19, I 34 (.load1) [T 33])], false⟩ ::
   ⟨13, I 28 (.callv) [F 27, T 27], [(19, I 34 (.load1) [T 33])], false⟩ ::
   ⟨14, I 29 (.callv) [F 28], [(19, I 34 (.load1) [T 33])], false⟩ ::
   ⟨15, I 30 (.callv) [F 29, N 4096], [(19, I 34 (.load1) [T 33])], false⟩ ::
   ⟨16, I 31 (.callv) [F 30, N 4096], [(19, I 34 (.load1) [T 33])], false⟩ ::
   ⟨17, I 32 (.callv) [F 31, N 4096], [(19, I 34 (.load1) [T 33])], false⟩ ::
   ⟨20, I 35 (.callv) [F 32, T 34], [], false⟩ ::
   ⟨22, I 37 (.build (.agg [.nilptr, .nilptr, .nilptr, .nilptr, .nilptr, .nilptr, .nilptr, .nilptr, .nilptr, .nilmap, (.int .i64 0)]) [(0, 1), (1, 1), (2, 1), (3, 1), (4, 1), (5, 1), (6, 1), (7, 1), (8, 1), (9, 1), (10, 1)]) [T 17, T 22, T 25, T 28, T 29, T 30, T 31, T 32, T 35, T 36, N 1000], [], false⟩ ::
   ⟨23, I 38 (.box 69 11) [T 37], [], false⟩ ::
   ⟨24, I 6 (.mv) [T 38], [], false⟩ ::
   []),
(⟨0, I 15 (.fieldAddr 0) [T 2], [], false⟩ ::
   ⟨1, I 16 (.load1) [T 15], [], false⟩ ::
   ⟨3, I 18 (.fieldAddr 0) [T 2], [], false⟩ ::
   ⟨4, I 19 (.load1) [T 18], [], false⟩ ::
   ⟨5, I 20 (.fieldAddr 1) [T 2], [], false⟩ ::
   ⟨6, I 21 (.load1) [T 20], [], false⟩ ::
   ⟨8, I 23 (.fieldAddr 2) [T 2], [], false⟩ ::
   ⟨9, I 24 (.load1) [T 23], [], false⟩ ::
   ⟨11, I 26 (.fieldAddr 2) [T 2], [], false⟩ ::
   ⟨12, I 27 (.load1) [T 26], [], false⟩ ::
   ⟨18, I 33 (.fieldAddr 3) [T 2], [], false⟩ ::
   ⟨19, I 34 (.load1) [T 33], [], false⟩ ::
   ⟨2, I 17 (.callv) [F 24, T 16], [(4, I 19 (.load1) [T 18]), (6, I 21 (.load1) [T 20]), (9, I 24 (.load1) [T 23]), (12, I 27 (.load1) [T 26]), (19, I 34 (.load1) [T 33])], false⟩ ::
   ⟨7, I 22 (.callv) [F 25, T 19, T 21], [(9, I 24 (.load1) [T 23]), (12, I 27 (.load1) [T 26]), (19, I 34 (.load1) [T 33])], false⟩ ::
   ⟨21, I 36 (.mkmap) [], [(1, I 16 (.load1) [T 15]), (4, I 19 (.load1) [T 18]), (6, I 21 (.load1) [T 20]), (9, I 24 (.load1) [T 23]), (12, I 27 (.load1) [T 26]), (19, I 34 (.load1) [T 33])], false⟩ ::
   ⟨10, I 25 (.callv) [F 26, T 24], [(12, I 27 (.load1) [T 26]), (19, I 34 (.load1) [T 33])], false⟩ ::
   ⟨13, I 28 (.callv) [F 27, T 27], [(19, I 34 (.load1) [T 33])], false⟩ ::
   ⟨14, I 29 (.callv) [F 28], [(19, I 34 (.load1) [T 33])], false⟩ ::
   ⟨15, I 30 (.callv) [F 29, N 4096], [(19, I 34 (.load1) [T 33])], false⟩ ::
   ⟨16, I 31 (.callv) [F 30, N 4096], [(19, I 34 (.load1) [T 33])], false⟩ ::
   ⟨17, I 32 (.callv) [F 31, N 4096], [(19, I 34 (.load1) [T 33])], false⟩ ::
   ⟨20, I 35 (.callv) [F 32, T 34], [], false⟩ ::
   ⟨22, I 37 (.build (.agg [.nilptr, .nilptr, .nilptr, .nilptr, .nilptr, .nilptr, .nilptr, .nilptr, .nilptr, .nilmap, (.int .i64 0)]) [(0, 1), (1, 1), (2, 1), (3, 1), (4, 1), (5, 1), (6, 1), (7, 1), (8, 1), (9, 1), (10, 1)]) [T 17, T 22, T 25, T 28, T 29, T 30, T 31, T 32, T 35, T 36, N 1000], [], false⟩ ::
   ⟨23, I 38 (.box 69 11) [T 37], [], false⟩ ::
   ⟨24, I 6 (.mv) [T 38], [], false⟩ ::
   []),
(⟨0, I 15 (.fieldAddr 0) [T 2], [], false⟩ ::
   ⟨1, I 16 (.load1) [T 15], [], false⟩ ::
   ⟨3, I 18 (.fieldAddr 0) [T 2], [], false⟩ ::
   ⟨4, I 19 (.load1) [T 18], [], false⟩ ::
   ⟨5, I 20 (.fieldAddr 1) [T 2], [], false⟩ ::
   ⟨6, I 21 (.load1) [T 20], [], false⟩ ::
   ⟨8, I 23 (.fieldAddr 2) [T 2], [], false⟩ ::
   ⟨9, I 24 (.load1) [T 23], [], false⟩ ::
   ⟨11, I 26 (.fieldAddr 2) [T 2], [], false⟩ ::
   ⟨12, I 27 (.load1) [T 26], [], false⟩ ::
   ⟨18, I 33 (.fieldAddr 3) [T 2], [], false⟩ ::
   ⟨19, I 34 (.load1) [T 33], [], false⟩ ::
   ⟨2, I 17 (.callv) [F 24, T 16], [(4, I 19 (.load1) [T 18]), (6, I 21 (.load1) [T 20]), (9, I 24 (.load1) [T 23]), (12, I 27 (.load1) [T 26]), (19, I 34 (.load1) [T 33])], false⟩ ::
   ⟨21, I 36 (.mkmap) [], [(1, I 16 (.load1) [T 15]), (4, I 19 (.load1) [T 18]), (6, I 21 (.load1) [T 20]), (9, I 24 (.load1) [T 23]), (12, I 27 (.load1) [T 26]), (19, I 34 (.load1) [T 33])], false⟩ ::
   ⟨7, I 22 (.callv) [F 25, T 19, T 21], [(9, I 24 (.load1) [T 23]), (12, I 27 (.load1) [T 26]), (19, I 34 (.load1) [T 33])], false⟩ ::
   ⟨10, I 25 (.callv) [F 26, T 24], [(12, I 27 (.load1) [T 26]), (19, I 34 (.load1) [T 33])], false⟩ ::
   ⟨13, I 28 (.callv) [F 27, T 27], [(19, I 34 (.load1) [T 33])], false⟩ ::
   ⟨14, I 29 (.callv) [F 28], [(19, I 34 (.load1) [T 33])], false⟩ ::
   ⟨15, I 30 (.callv) [F 29, N 4096], [(19, I 34 (.load1) [T 33])], false⟩ ::
   ⟨16, I 31 (.callv) [F 30, N 4096], [(19, I 34 (.load1) [T 33])], false⟩ ::
   ⟨17, I 32 (.callv) [F 31, N 4096], [(19, I 34 (.load1) [T 33])], false⟩ ::
   ⟨20, I 35 (.callv) [F 32, T 34], [], false⟩ ::
   ⟨22, I 37 (.build (.agg [.nilptr, .nilptr, .nilptr, .nilptr, .nilptr, .nilptr, .nilptr, .nilptr, .nilptr, .nilmap, (.int .i64 0)]) [(0, 1), (1, 1), (2, 1), (3, 1), (4, 1), (5, 1), (6, 1), (7, 1), (8, 1), (9, 1), (10, 1)]) [T 17, T 22, T 25, T 28, T 29, T 30, T 31, T 32, T 35, T 36, N 1000], [], false⟩ ::
   ⟨23, I 38 (.box 69 11) [T 37], [], false⟩ ::
   ⟨24, I 6 (.mv) [T 38], [], false⟩ ::
   []),
(⟨0, I 15 (.fieldAddr 0) [T 2], [], false⟩ ::
   ⟨1, I 16 (.load1) [T 15], [], false⟩ ::
   ⟨3, I 18 (.fieldAddr 0) [T 2], [], false⟩ ::
   ⟨4, I 19 (.load1) [T 18], [], false⟩ ::
   ⟨5, I 20 (.fieldAddr 1) [T 2], [], false⟩ ::
   ⟨6, I 21 (.load1) [T 20], [], false⟩ ::
   ⟨8, I 23 (.fieldAddr 2) [T 2], [], false⟩ ::
   ⟨9, I 24 (.load1) [T 23], [], false⟩ ::
   ⟨11, I 26 (.fieldAddr 2) [T 2], [], false⟩ ::
   ⟨12, I 27 (.load1) [T 26], [], false⟩ ::
   ⟨18, I 33 (.fieldAddr 3) [T 2], [], false⟩ ::
   ⟨19, I 34 (.load1) [T 33], [], false⟩ ::
   ⟨21, I 36 (.mkmap) [], [(1, I 16 (.load1) [T 15]), (4, I 19 (.load1) [T 18]), (6, I 21 (.load1) [T 20]), (9, I 24 (.load1) [T 23]), (12, I 27 (.load1) [T 26]), (19, I 34 (.load1) [T 33])], false⟩ ::
   ⟨2, I 17 (.callv) [F 24, T 16], [(4, I 19 (.load1) [T 18]), (6, I 21 (.load1) [T 20]), (9, I 24 (.load1) [T 23]), (12, I 27 (.load1) [T 26]), (19, I 34 (.load1) [T 33])], false⟩ ::
   ⟨7, I 22 (.callv) [F 25, T 19, T 21], [(9, I 24 (.load1) [T 23]), (12, I 27 (.load1) [T 26]), (19, I 34 (.load1) [T 33])], false⟩ ::
   ⟨10, I 25 (.callv) [F 26, T 24], [(12, I 27 (.load1) [T 26]), (19, I 34 (.load1) [T 33])], false⟩ ::
   ⟨13, I 28 (.callv) [F 27, T 27], [(19, I 34 (.load1) [T 33])], false⟩ ::
   ⟨14, I 29 (.callv) [F 28], [(19, I 34 (.load1) [T 33])], false⟩ ::
   ⟨15, I 30 (.callv) [F 29, N 4096], [(19, I 34 (.load1) [T 33])], false⟩ ::
   ⟨16, I 31 (.callv) [F 30, N 4096], [(19, I 34 (.load1) [T 33])], false⟩ ::
   ⟨17, I 32 (.callv) [F 31, N 4096], [(19, I 34 (.load1) [T 33])], false⟩ ::
   ⟨20, I 35 (.callv) [F 32, T 34], [], false⟩ ::
   ⟨22, I 37 (.build (.agg [.nilptr, .nilptr, .nilptr, .nilptr, .nilptr, .nilptr, .nilptr, .nilptr, .nilptr, .nilmap, (.int .i64 0)]) [(0, 1), (1, 1), (2, 1), (3, 1), (4, 1), (5, 1), (6, 1), (7, 1), (8, 1), (9, 1), (10, 1)]) [T 17, T 22, T 25, T 28, T 29, T 30, T 31, T 32, T 35, T 36, N 1000], [], false⟩ ::
   ⟨23, I 38 (.box 69 11) [T 37], [], false⟩ ::
   ⟨24, I 6 (.mv) [T 38], [], false⟩ ::
   [])])
 (.seq (.seq (.region [I 39 (.mv) [T 1],
   I 40 (.lens) [T 39],
   I 41 (.mv) [N 0]])
 (.block 0 (.loop c_kern_New_L0)))
 (.seq (.seq (.region [I 53 (.mv) [T 6],
   I 54 (.callv) [F 34, T 53],
   I 52 (.mv) [T 54],
   I 55 (.extract 0) [T 52],
   I 56 (.extract 1) [T 52],
   I 9 (.mv) [T 55],
   I 10 (.mv) [T 56]])
 (.seq (.region [I 57 (.mv) [T 10],
   I 58 (.bin .neq) [T 57, N 0]])
 (.cond (T 58)
 (.seq (.region [I 59 (.mv) [T 10],
    I 4 (.mv) [.lit .nilptr],
    I 5 (.mv) [T 59]])
  (.ret))
 (.skip))))
 (.seq (.region [I 60 (.mv) [T 6],
   I 4 (.mv) [T 60],
   I 5 (.mv) [N 0]])
 (.ret))))))⟩
theorem t7 : trFn Tryz.prog Tryz.f7 = some c_kern_New := by kernel_rfl
abbrev n_kern_Kernel_Do : Nat := 8
def c_kern_Kernel_Do : AFn := ⟨81, [.cell 4 (.loadn 2)],
 .seq (.region [I 3 (.box 33 14) [T 1],
   I 4 (.alloc 30 2 (.vals [(.int .i64 0), (.int .i64 0)])) []])
 (.seq (.seq (.region [I 6 (.mv) [T 0],
   I 7 (.callv) [F 35, T 6],
   I 8 (.un .not) [T 7]])
 (.cond (T 8)
 (.seq (.region [I 9 (.callv) [F 36, N 1],
    J (.store 2) [T 4, T 9]])
  (.ret))
 (.skip)))
 (.seq (.seq (.region [I 10 (.fieldAddr 0) [T 3],
   I 11 (.load1) [T 10]])
 (.block 0 (.seq (.seq (.region [I 13 (.bin .eql) [T 11, N 15],
   I 12 (.mv) [T 13]])
 (.cond (T 12)
 (.skip)
 (.seq (.region [I 14 (.bin .eql) [T 11, N 16],
    I 12 (.mv) [T 14]])
  (.cond (T 12)
  (.skip)
  (.seq (.region [I 15 (.bin .eql) [T 11, N 17],
     I 12 (.mv) [T 15]])
   (.cond (T 12)
   (.skip)
   (.region [I 16 (.bin .eql) [T 11, N 18],
      I 12 (.mv) [T 16]])))))))
 (.cond (T 12)
 (.seq (.region [I 17 (.mv) [T 0],
    I 18 (.loadn 14) [T 3],
    I 19 (.callv) [F 37, T 17, T 18],
    J (.store 2) [T 4, T 19]])
  (.ret))
 (.skip)))))
 (.seq (.seq (.region [I 20 (.fieldAddr 0) [T 3],
   I 21 (.load1) [T 20],
   I 22 (.bin .lss) [T 21, N 1],
   I 23 (.mv) [T 22],
   IG 24 (.fieldAddr 0) [T 3] 23 false,
   IG 25 (.load1) [T 24] 23 false,
   IG 26 (.bin .gtr) [T 25, N 11] 23 false,
   IG 27 (.mv) [T 26] 23 false,
   IG 28 (.fieldAddr 0) [T 3] 27 true,
   IG 29 (.load1) [T 28] 27 true,
   IG 30 (.bin .neq) [T 29, N 20] 27 true,
   IG 31 (.pick) [T 27, T 30, .lit (.bool false)] 23 false,
   I 32 (.pick) [T 23, .lit (.bool true), T 31]])
 (.cond (T 32)
 (.seq (.region [I 33 (.callv) [F 36, N 2],
    J (.store 2) [T 4, T 33]])
  (.ret))
 (.skip)))
 (.seq (.draw [[⟨0, I 34 (.mv) [T 0], [], false⟩,
   ⟨1, I 35 (.nilCheck) [T 34], [], false⟩,
   ⟨2, I 36 (.fieldAddr 9) [T 35], [], false⟩,
   ⟨3, I 37 (.load1) [T 36], [], false⟩,
   ⟨4, I 38 (.fieldAddr 1) [T 3], [], false⟩,
   ⟨5, I 39 (.load1) [T 38], [], false⟩,
   ⟨6, I 40 (.lookup (.scal .int) .nilptr false) [T 37, T 39], [], false⟩,
   ⟨7, I 5 (.mv) [T 40], [], false⟩]])
 (.seq (.seq (.region [I 41 (.mv) [T 5],
   I 42 (.eqv false .ptr) [T 41, .lit .nilptr]])
 (.cond (T 42)
 (.seq (.region [I 43 (.callv) [F 36, N 7],
    J (.store 2) [T 4, T 43]])
  (.ret))
 (.skip)))
 (.seq (.seq (.region [I 44 (.fieldAddr 0) [T 3],
   I 45 (.load1) [T 44]])
 (.block 1 (.seq (.region [I 47 (.bin .eql) [T 45, N 1],
   I 46 (.mv) [T 47]])
 (.cond (T 46)
 (.seq (.region [I 48 (.mv) [T 0],
    I 49 (.mv) [T 5],
    I 50 (.loadn 14) [T 3],
    I 51 (.callv) [F 38, T 48, T 49, T 50],
    J (.store 2) [T 4, T 51]])
  (.ret))
 (.seq (.seq (.region [I 53 (.bin .eql) [T 45, N 8],
    I 52 (.mv) [T 53]])
  (.cond (T 52)
  (.skip)
  (.region [I 54 (.bin .eql) [T 45, N 9],
     I 52 (.mv) [T 54]])))
  (.cond (T 52)
  (.seq (.region [I 55 (.mv) [T 0],
     I 56 (.mv) [T 5],
     I 57 (.loadn 14) [T 3],
     I 58 (.callv) [F 39, T 55, T 56, T 57],
     J (.store 2) [T 4, T 58]])
   (.ret))
  (.seq (.region [I 60 (.bin .eql) [T 45, N 10],
     I 59 (.mv) [T 60]])
   (.cond (T 59)
   (.seq (.region [I 61 (.mv) [T 0],
      I 62 (.mv) [T 5],
      I 63 (.callv) [F 40, T 61, T 62],
      J (.store 2) [T 4, T 63]])
    (.ret))
   (.seq (.region [I 65 (.bin .eql) [T 45, N 11],
      I 64 (.mv) [T 65]])
    (.cond (T 64)
    (.seq (.region [I 66 (.mv) [T 0],
       I 67 (.mv) [T 5],
       I 68 (.callv) [F 41, T 66, T 67]])
     (.seq (.region [I 69 (.build (.agg [(.int .i64 0), (.int .i64 0)]) []) [],
       J (.store 2) [T 4, T 69]])
     (.ret)))
    (.seq (.region [I 71 (.bin .eql) [T 45, N 20],
       I 70 (.mv) [T 71]])
     (.cond (T 70)
     (.seq (.region [I 72 (.mv) [T 0],
        I 73 (.mv) [T 5],
        I 74 (.loadn 14) [T 3],
        I 75 (.callv) [F 42, T 72, T 73, T 74],
        J (.store 2) [T 4, T 75]])
      (.ret))
     (.skip)))))))))))))
 (.seq (.region [I 76 (.mv) [T 0],
   I 77 (.mv) [T 5],
   I 78 (.loadn 14) [T 3],
   I 79 (.callv) [F 43, T 76, T 77, T 78],
   I 80 (.callv) [F 36, T 79],
   J (.store 2) [T 4, T 80]])
 (.ret))))))))⟩
theorem t8 : trFn Tryz.prog Tryz.f8 = some c_kern_Kernel_Do := by kernel_rfl
abbrev n_kern_Kernel_Resident : Nat := 9
def c_kern_Kernel_Resident_L0 : ACode :=
 .seq (.region [I 16 (.bin .lss) [T 15, T 14]])
 (.seq (.cond (T 16)
 (.skip)
 (.exit 0))
 (.seq (.block 1 (.seq (.region [I 17 (.mv) [T 15],
   I 4 (.mv) [T 17]])
 (.seq (.region [I 19 (.mv) [T 0],
   I 20 (.nilCheck) [T 19],
   I 21 (.fieldAddr 1) [T 20],
   I 22 (.load1) [T 21],
   I 23 (.mv) [T 4],
   I 24 (.callv) [F 45, T 22, T 23],
   I 18 (.mv) [T 24],
   I 25 (.extract 0) [T 18],
   I 26 (.extract 1) [T 18],
   I 5 (.alloc 80 5 (.vals [(.int .i64 0), (.int .i64 0), (.int .i64 0), (.int .i64 0), (.int .i64 0)])) [],
   J (.store 5) [T 5, T 25],
   I 6 (.mv) [T 26]])
 (.seq (.region [I 27 (.fieldAddr 0) [T 5],
   I 28 (.load1) [T 27],
   I 29 (.bin .eql) [T 28, N 2],
   I 30 (.mv) [T 29],
   IG 31 (.fieldAddr 0) [T 5] 30 false,
   IG 32 (.load1) [T 31] 30 false,
   IG 33 (.bin .eql) [T 32, N 3] 30 false,
   I 34 (.pick) [T 30, .lit (.bool true), T 33]])
 (.cond (T 34)
 (.region [I 35 (.mv) [T 3],
    I 36 (.mv) [T 4],
    I 37 (.bslice 3 1 1 (.vals [(.int .i64 0)]) [0]) [T 36],
    I 38 (.append 3 1 8 (.vals [(.int .i64 0)])) [T 35, T 37],
    I 3 (.mv) [T 38]])
 (.skip))))))
 (.region [I 39 (.bin .add) [T 15, N 1],
   I 15 (.mv) [T 39]])))
def c_kern_Kernel_Resident : AFn := ⟨41, [.tmp 2],
 .seq (.region [I 2 (.mv) [.lit .nilsl]])
 (.seq (.seq (.region [I 7 (.mv) [T 0],
   I 8 (.callv) [F 35, T 7],
   I 9 (.un .not) [T 8]])
 (.cond (T 9)
 (.seq (.region [I 2 (.mv) [.lit .nilsl]])
  (.ret))
 (.skip)))
 (.seq (.region [I 3 (.mv) [.lit .nilsl]])
 (.seq (.seq (.region [I 10 (.mv) [T 0],
   I 11 (.nilCheck) [T 10],
   I 12 (.fieldAddr 0) [T 11],
   I 13 (.load1) [T 12],
   I 14 (.callv) [F 44, T 13],
   I 15 (.mv) [N 0]])
 (.block 0 (.loop c_kern_Kernel_Resident_L0)))
 (.seq (.region [I 40 (.mv) [T 3],
   I 2 (.mv) [T 40]])
 (.ret)))))⟩
theorem t9 : trFn Tryz.prog Tryz.f9 = some c_kern_Kernel_Resident := by kernel_rfl
abbrev n_law18_lives : Nat := 10
def c_law18_lives_L0 : ACode :=
 .seq (.seq (.region [I 23 (.mv) [T 3],
   I 24 (.bin .lss) [T 23, N 4]])
 (.cond (T 24)
 (.skip)
 (.exit 0)))
 (.seq (.block 1 (.seq (.region [I 27 (.mv) [T 1],
   I 28 (.mv) [T 3],
   I 29 (.mv) [T 3],
   I 30 (.bin .add) [N 10, T 29],
   I 31 (.build (.agg [(.int .i64 0), (.int .i64 0), (.int .i64 0), (.int .i64 0), (.int .i64 0), (.bool false), (.int .i64 0), (.int .i64 0), (.bool false), (.int .i64 0), (.int .i64 0), (.int .i64 0), (.int .i64 0), (.int .i64 0)]) [(0, 1), (1, 1), (2, 1), (10, 1), (11, 1)]) [N 9, N 1, T 28, N 1, T 30],
   I 32 (.callv) [F 8, T 27, T 31],
   I 33 (.field 0 1 false) [T 32],
   I 34 (.bin .neq) [T 33, N 0]])
 (.cond (T 34)
 (.seq (.region [I 0 (.mv) [.lit (.bool false)]])
  (.ret))
 (.skip))))
 (.region [I 25 (.mv) [T 3],
   I 26 (.bin .add) [T 25, N 1],
   I 3 (.mv) [T 26]]))
def c_law18_lives_L1 : ACode :=
 .seq (.seq (.region [I 63 (.mv) [T 6],
   I 64 (.bin .lss) [T 63, N 5]])
 (.cond (T 64)
 (.skip)
 (.exit 2)))
 (.seq (.block 3 (.seq (.region [I 68 (.mv) [T 1],
   I 69 (.mv) [T 6],
   I 70 (.callv) [F 19, T 68, N 1, T 69, N 1],
   I 67 (.mv) [T 70],
   I 71 (.extract 0) [T 67],
   I 72 (.extract 1) [T 67],
   I 7 (.mv) [T 71],
   I 8 (.mv) [T 72]])
 (.seq (.region [I 73 (.mv) [T 7],
   I 74 (.mv) [T 6],
   I 75 (.bin .add) [N 10, T 74],
   I 76 (.bin .neq) [T 73, T 75],
   I 77 (.mv) [T 76],
   IG 78 (.mv) [T 8] 77 false,
   IG 79 (.bin .neq) [T 78, N 0] 77 false,
   I 80 (.pick) [T 77, .lit (.bool true), T 79]])
 (.cond (T 80)
 (.seq (.region [I 0 (.mv) [.lit (.bool false)]])
  (.ret))
 (.skip)))))
 (.region [I 65 (.mv) [T 6],
   I 66 (.bin .add) [T 65, N 1],
   I 6 (.mv) [T 66]]))
def c_law18_lives : AFn := ⟨81, [.tmp 0],
 .seq (.region [I 0 (.mv) [.lit (.bool false)]])
 (.seq (.region [I 10 (.build (.agg [(.int .i64 0), (.int .i64 0), (.int .i64 0), (.int .i64 0)]) [(0, 1), (2, 1)]) [N 7, N 9],
   I 11 (.callv) [F 7, T 10, .lit .nilsl],
   I 9 (.mv) [T 11],
   I 12 (.extract 0) [T 9],
   I 13 (.extract 1) [T 9],
   I 1 (.mv) [T 12],
   I 2 (.mv) [T 13]])
 (.seq (.seq (.region [I 14 (.mv) [T 2],
   I 15 (.bin .neq) [T 14, N 0],
   I 16 (.mv) [T 15],
   IG 17 (.mv) [T 1] 16 false,
   IG 18 (.build (.agg [(.int .i64 0), (.int .i64 0), (.int .i64 0), (.int .i64 0), (.int .i64 0), (.bool false), (.int .i64 0), (.int .i64 0), (.bool false), (.int .i64 0), (.int .i64 0), (.int .i64 0), (.int .i64 0), (.int .i64 0)]) [(0, 1), (1, 1), (2, 1), (3, 1), (4, 1)]) [N 1, N 1, N (-1), N 9, N 3] 16 false,
   IG 19 (.callv) [F 8, T 17, T 18] 16 false,
   IG 20 (.field 0 1 false) [T 19] 16 false,
   IG 21 (.bin .neq) [T 20, N 0] 16 false,
   I 22 (.pick) [T 16, .lit (.bool true), T 21]])
 (.cond (T 22)
 (.seq (.region [I 0 (.mv) [.lit (.bool false)]])
  (.ret))
 (.skip)))
 (.seq (.seq (.region [I 3 (.mv) [N 0]])
 (.block 0 (.loop c_law18_lives_L0)))
 (.seq (.region [I 35 (.build (.agg [(.int .i64 0), (.int .i64 0), (.int .i64 0), (.int .i64 0), (.int .i64 0), (.bool false), (.int .i64 0), (.int .i64 0), (.bool false), (.int .i64 0), (.int .i64 0), (.int .i64 0), (.int .i64 0), (.int .i64 0)]) [(0, 1), (1, 1), (2, 1), (10, 1), (11, 1)]) [N 9, N 1, N 4, N 1, N 14],
   I 4 (.alloc 33 14 (.vals [(.int .i64 0), (.int .i64 0), (.int .i64 0), (.int .i64 0), (.int .i64 0), (.bool false), (.int .i64 0), (.int .i64 0), (.bool false), (.int .i64 0), (.int .i64 0), (.int .i64 0), (.int .i64 0), (.int .i64 0)])) [],
   J (.store 14) [T 4, T 35]])
 (.seq (.region [I 36 (.mv) [T 1],
   I 37 (.callv) [F 9, T 36],
   I 5 (.mv) [T 37]])
 (.seq (.seq (.region (I 38 (.mv) [T 1] ::
   I 39 (.loadn 14) [T 4] ::
   I 40 (.callv) [F 8, T 38, T 39] ::
   I 41 (.field 0 1 false) [T 40] ::
   I 42 (.bin .neq) [T 41, N 5] ::
   I 43 (.mv) [T 42] ::
   IG 44 (.mv) [T 5] 43 false ::
   IG 45 (.lens) [T 44] 43 false ::
   IG 46 (.bin .neq) [T 45, N 4] 43 false ::
   I 47 (.pick) [T 43, .lit (.bool true), T 46] ::
   I 48 (.mv) [T 47] ::
   IG 49 (.mv) [T 1] 48 false ::
   IG 50 (.mv) [T 5] 48 false ::
   IG 51 (.indexs 1) [T 50, N 0] 48 false ::
   IG 52 (.load1) [T 51] 48 false ::
   IG 53 (.callv) [F 46, T 49, T 52] 48 false ::
   IG 54 (.bin .neq) [T 53, N 0] 48 false ::
   I 55 (.pick) [T 48, .lit (.bool true), T 54] ::
   I 56 (.mv) [T 55] ::
   IG 57 (.mv) [T 1] 56 false ::
   IG 58 (.loadn 14) [T 4] 56 false ::
   IG 59 (.callv) [F 8, T 57, T 58] 56 false ::
   IG 60 (.field 0 1 false) [T 59] 56 false ::
   IG 61 (.bin .neq) [T 60, N 0] 56 false ::
   I 62 (.pick) [T 56, .lit (.bool true), T 61] ::
   []))
 (.cond (T 62)
 (.seq (.region [I 0 (.mv) [.lit (.bool false)]])
  (.ret))
 (.skip)))
 (.seq (.seq (.region [I 6 (.mv) [N 0]])
 (.block 2 (.loop c_law18_lives_L1)))
 (.seq (.region [I 0 (.mv) [.lit (.bool true)]])
 (.ret)))))))))⟩
theorem t10 : trFn Tryz.prog Tryz.f10 = some c_law18_lives := by kernel_rfl
abbrev n_law19_lives : Nat := 15
def c_law19_lives : AFn := ⟨71, [.tmp 0],
 .seq (.region [I 0 (.mv) [.lit (.bool false)]])
 (.seq (.region [I 9 (.build (.agg [(.int .i64 0), (.int .i64 0), (.int .i64 0), (.int .i64 0)]) [(0, 1), (2, 1)]) [N 20, N 4],
   I 10 (.callv) [F 7, T 9, .lit .nilsl],
   I 8 (.mv) [T 10],
   I 11 (.extract 0) [T 8],
   I 12 (.extract 1) [T 8],
   I 1 (.mv) [T 11],
   I 2 (.mv) [T 12]])
 (.seq (.region [I 13 (.mv) [T 1],
   I 14 (.callv) [F 11, T 13, N 4],
   I 3 (.mv) [T 14]])
 (.seq (.seq (.region [I 15 (.mv) [T 2],
   I 16 (.bin .neq) [T 15, N 0],
   I 17 (.mv) [T 16],
   IG 18 (.mv) [T 3] 17 false,
   IG 19 (.eqv false .ptr) [T 18, .lit .nilptr] 17 false,
   I 20 (.pick) [T 17, .lit (.bool true), T 19],
   I 21 (.mv) [T 20],
   IG 22 (.mv) [T 1] 21 false,
   IG 23 (.build (.agg [(.int .i64 0), (.int .i64 0), (.int .i64 0), (.int .i64 0), (.int .i64 0), (.bool false), (.int .i64 0), (.int .i64 0), (.bool false), (.int .i64 0), (.int .i64 0), (.int .i64 0), (.int .i64 0), (.int .i64 0)]) [(0, 1), (1, 1), (2, 1), (3, 1), (4, 1)]) [N 1, N 1, N (-1), N 1, N 3] 21 false,
   IG 24 (.callv) [F 8, T 22, T 23] 21 false,
   IG 25 (.field 0 1 false) [T 24] 21 false,
   IG 26 (.bin .neq) [T 25, N 0] 21 false,
   I 27 (.pick) [T 21, .lit (.bool true), T 26],
   I 28 (.mv) [T 27],
   IG 29 (.mv) [T 1] 28 false,
   IG 30 (.build (.agg [(.int .i64 0), (.int .i64 0), (.int .i64 0), (.int .i64 0), (.int .i64 0), (.bool false), (.int .i64 0), (.int .i64 0), (.bool false), (.int .i64 0), (.int .i64 0), (.int .i64 0), (.int .i64 0), (.int .i64 0)]) [(0, 1), (1, 1), (11, 1)]) [N 9, N 1, N 7] 28 false,
   IG 31 (.callv) [F 8, T 29, T 30] 28 false,
   IG 32 (.field 0 1 false) [T 31] 28 false,
   IG 33 (.bin .neq) [T 32, N 0] 28 false,
   I 34 (.pick) [T 28, .lit (.bool true), T 33]])
 (.cond (T 34)
 (.seq (.region [I 0 (.mv) [.lit (.bool false)]])
  (.ret))
 (.skip)))
 (.seq (.region [I 36 (.mv) [T 3],
   I 37 (.callv) [F 12, T 36, N 1, N 0],
   I 35 (.mv) [T 37],
   I 38 (.extract 0) [T 35],
   I 39 (.extract 1) [T 35],
   I 4 (.mv) [T 38],
   I 5 (.mv) [T 39]])
 (.seq (.seq (.region [I 40 (.mv) [T 4],
   I 41 (.bin .neq) [T 40, N 1],
   I 42 (.mv) [T 41],
   IG 43 (.mv) [T 5] 42 false,
   IG 44 (.bin .neq) [T 43, N 0] 42 false,
   I 45 (.pick) [T 42, .lit (.bool true), T 44],
   I 46 (.mv) [T 45],
   IG 47 (.mv) [T 1] 46 false,
   IG 48 (.build (.agg [(.int .i64 0), (.int .i64 0), (.int .i64 0), (.int .i64 0), (.int .i64 0), (.bool false), (.int .i64 0), (.int .i64 0), (.bool false), (.int .i64 0), (.int .i64 0), (.int .i64 0), (.int .i64 0), (.int .i64 0)]) [(0, 1), (1, 1), (11, 1)]) [N 9, N 1, N 8] 46 false,
   IG 49 (.callv) [F 8, T 47, T 48] 46 false,
   IG 50 (.field 0 1 false) [T 49] 46 false,
   IG 51 (.bin .neq) [T 50, N 0] 46 false,
   I 52 (.pick) [T 46, .lit (.bool true), T 51]])
 (.cond (T 52)
 (.seq (.region [I 0 (.mv) [.lit (.bool false)]])
  (.ret))
 (.skip)))
 (.seq (.region [I 54 (.mv) [T 3],
   I 55 (.callv) [F 18, T 54, N 1, N 0],
   I 53 (.mv) [T 55],
   I 56 (.extract 0) [T 53],
   I 57 (.extract 1) [T 53],
   I 6 (.mv) [T 56],
   I 7 (.mv) [T 57]])
 (.seq (.region [I 58 (.mv) [T 6],
   I 59 (.bin .eql) [T 58, N 7],
   I 60 (.mv) [T 59],
   IG 61 (.mv) [T 7] 60 true,
   IG 62 (.bin .eql) [T 61, N 0] 60 true,
   I 63 (.pick) [T 60, T 62, .lit (.bool false)],
   I 64 (.mv) [T 63],
   IG 65 (.mv) [T 1] 64 true,
   IG 66 (.build (.agg [(.int .i64 0), (.int .i64 0), (.int .i64 0), (.int .i64 0), (.int .i64 0), (.bool false), (.int .i64 0), (.int .i64 0), (.bool false), (.int .i64 0), (.int .i64 0), (.int .i64 0), (.int .i64 0), (.int .i64 0)]) [(0, 1), (1, 1)]) [N 8, N 1] 64 true,
   IG 67 (.callv) [F 8, T 65, T 66] 64 true,
   IG 68 (.field 1 1 false) [T 67] 64 true,
   IG 69 (.bin .eql) [T 68, N 8] 64 true,
   I 70 (.pick) [T 64, T 69, .lit (.bool false)],
   I 0 (.mv) [T 70]])
 (.ret))))))))⟩
theorem t15 : trFn Tryz.prog Tryz.f15 = some c_law19_lives := by kernel_rfl
abbrev n_daemon_New : Nat := 20
def c_daemon_New : AFn := ⟨9, [.tmp 2],
 .seq (.region [I 2 (.mv) [.lit .nilptr]])
 (.seq (.seq (.region [I 3 (.mv) [T 0],
   I 4 (.eqv false .ptr) [T 3, .lit .nilptr]])
 (.cond (T 4)
 (.seq (.region [I 2 (.mv) [.lit .nilptr]])
  (.ret))
 (.skip)))
 (.seq (.region [I 5 (.mv) [T 0],
   I 6 (.callv) [F 61, N 2],
   I 7 (.build (.agg [.nilptr, .nilptr]) [(0, 1), (1, 1)]) [T 5, T 6],
   I 8 (.box 113 2) [T 7],
   I 2 (.mv) [T 8]])
 (.ret)))⟩
theorem t20 : trFn Tryz.prog Tryz.f20 = some c_daemon_New := by kernel_rfl
abbrev n_daemon_Daemon_Tick : Nat := 21
def c_daemon_Daemon_Tick_L0 : ACode :=
 .seq (.region [I 17 (.bin .lss) [T 16, T 15]])
 (.seq (.cond (T 17)
 (.skip)
 (.exit 0))
 (.seq (.block 1 (.seq (.region [I 19 (.mv) [T 0],
   I 20 (.callv) [F 64, T 19],
   I 18 (.mv) [T 20],
   I 21 (.extract 0) [T 18],
   I 22 (.extract 1) [T 18],
   I 6 (.mv) [T 21],
   I 7 (.mv) [T 22]])
 (.seq (.seq (.region [I 23 (.mv) [T 7],
   I 24 (.un .not) [T 23]])
 (.cond (T 24)
 (.exit 0)
 (.skip)))
 (.seq (.region [I 25 (.mv) [T 6]])
 (.cond (T 25)
 (.region [I 26 (.mv) [T 5],
    I 27 (.bin .add) [T 26, N 1],
    I 5 (.mv) [T 27]])
 (.skip))))))
 (.region [I 28 (.bin .add) [T 16, N 1],
   I 16 (.mv) [T 28]])))
def c_daemon_Daemon_Tick : AFn := ⟨30, [.tmp 4],
 .seq (.region [I 4 (.mv) [N 0]])
 (.seq (.seq (.region [I 8 (.mv) [T 0],
   I 9 (.callv) [F 62, T 8],
   I 10 (.un .not) [T 9]])
 (.cond (T 10)
 (.seq (.region [I 4 (.mv) [N 0]])
  (.ret))
 (.skip)))
 (.seq (.region [I 11 (.mv) [T 0],
   I 12 (.callv) [F 63, T 11]])
 (.seq (.region [I 5 (.mv) [N 0]])
 (.seq (.seq (.region [I 13 (.mv) [T 1],
   I 14 (.max) [T 13, N 0],
   I 15 (.min) [T 14, N 4096],
   I 16 (.mv) [N 0]])
 (.block 0 (.loop c_daemon_Daemon_Tick_L0)))
 (.seq (.region [I 29 (.mv) [T 5],
   I 4 (.mv) [T 29]])
 (.ret))))))⟩
theorem t21 : trFn Tryz.prog Tryz.f21 = some c_daemon_Daemon_Tick := by kernel_rfl
abbrev n_law20_lives : Nat := 22
def c_law20_lives_L0 : ACode :=
 .seq (.region [I 44 (.bin .lss) [T 43, T 42]])
 (.seq (.cond (T 44)
 (.skip)
 (.exit 0))
 (.seq (.block 1 (.seq (.region [I 45 (.indexs 1) [T 41, T 43],
   I 46 (.load1) [T 45],
   I 5 (.mv) [T 46]])
 (.region [I 47 (.mv) [T 1],
   I 48 (.mv) [T 5],
   I 49 (.callv) [F 65, T 47, T 48]])))
 (.region [I 50 (.bin .add) [T 43, N 1],
   I 43 (.mv) [T 50]])))
def c_law20_lives : AFn := ⟨60, [.tmp 0],
 .seq (.region [I 0 (.mv) [.lit (.bool false)]])
 (.seq (.region [I 7 (.build (.agg [(.int .i64 0), (.int .i64 0), (.int .i64 0), (.int .i64 0)]) [(0, 1), (2, 1)]) [N 20, N 4],
   I 8 (.callv) [F 7, T 7, .lit .nilsl],
   I 6 (.mv) [T 8],
   I 9 (.extract 0) [T 6],
   I 10 (.extract 1) [T 6],
   I 1 (.mv) [T 9],
   I 2 (.mv) [T 10]])
 (.seq (.region [I 11 (.mv) [T 1],
   I 12 (.callv) [F 20, T 11],
   I 3 (.mv) [T 12]])
 (.seq (.seq (.region (I 13 (.mv) [T 2] ::
   I 14 (.bin .neq) [T 13, N 0] ::
   I 15 (.mv) [T 14] ::
   IG 16 (.mv) [T 3] 15 false ::
   IG 17 (.eqv false .ptr) [T 16, .lit .nilptr] 15 false ::
   I 18 (.pick) [T 15, .lit (.bool true), T 17] ::
   I 19 (.mv) [T 18] ::
   IG 20 (.mv) [T 1] 19 false ::
   IG 21 (.build (.agg [(.int .i64 0), (.int .i64 0), (.int .i64 0), (.int .i64 0), (.int .i64 0), (.bool false), (.int .i64 0), (.int .i64 0), (.bool false), (.int .i64 0), (.int .i64 0), (.int .i64 0), (.int .i64 0), (.int .i64 0)]) [(0, 1), (1, 1), (2, 1), (3, 1), (4, 1)]) [N 1, N 1, N (-1), N 2, N 3] 19 false ::
   IG 22 (.callv) [F 8, T 20, T 21] 19 false ::
   IG 23 (.field 0 1 false) [T 22] 19 false ::
   IG 24 (.bin .neq) [T 23, N 0] 19 false ::
   I 25 (.pick) [T 19, .lit (.bool true), T 24] ::
   I 26 (.mv) [T 25] ::
   IG 27 (.mv) [T 1] 26 false ::
   IG 28 (.build (.agg [(.int .i64 0), (.int .i64 0), (.int .i64 0), (.int .i64 0), (.int .i64 0), (.bool false), (.int .i64 0), (.int .i64 0), (.bool false), (.int .i64 0), (.int .i64 0), (.int .i64 0), (.int .i64 0), (.int .i64 0)]) [(0, 1), (1, 1), (11, 1)]) [N 9, N 1, N 7] 26 false ::
   IG 29 (.callv) [F 8, T 27, T 28] 26 false ::
   IG 30 (.field 0 1 false) [T 29] 26 false ::
   IG 31 (.bin .neq) [T 30, N 0] 26 false ::
   I 32 (.pick) [T 26, .lit (.bool true), T 31] ::
   I 33 (.mv) [T 32] ::
   IG 34 (.mv) [T 1] 33 false ::
   IG 35 (.build (.agg [(.int .i64 0), (.int .i64 0), (.int .i64 0), (.int .i64 0), (.int .i64 0), (.bool false), (.int .i64 0), (.int .i64 0), (.bool false), (.int .i64 0), (.int .i64 0), (.int .i64 0), (.int .i64 0), (.int .i64 0)]) [(0, 1), (1, 1), (2, 1), (11, 1)]) [N 9, N 1, N 1, N 7] 33 false ::
   IG 36 (.callv) [F 8, T 34, T 35] 33 false ::
   IG 37 (.field 0 1 false) [T 36] 33 false ::
   IG 38 (.bin .neq) [T 37, N 0] 33 false ::
   I 39 (.pick) [T 33, .lit (.bool true), T 38] ::
   []))
 (.cond (T 39)
 (.seq (.region [I 0 (.mv) [.lit (.bool false)]])
  (.ret))
 (.skip)))
 (.seq (.seq (.region [I 40 (.mv) [T 1],
   I 41 (.callv) [F 9, T 40],
   I 42 (.lens) [T 41],
   I 43 (.mv) [N 0]])
 (.block 0 (.loop c_law20_lives_L0)))
 (.seq (.region [I 51 (.mv) [T 3],
   I 52 (.callv) [F 21, T 51, N 4],
   I 53 (.bin .eql) [T 52, N 2],
   I 54 (.mv) [T 53],
   IG 55 (.mv) [T 1] 54 true,
   IG 56 (.callv) [F 9, T 55] 54 true,
   IG 57 (.lens) [T 56] 54 true,
   IG 58 (.bin .eql) [T 57, N 0] 54 true,
   I 59 (.pick) [T 54, T 58, .lit (.bool false)],
   I 0 (.mv) [T 59]])
 (.ret))))))⟩
theorem t22 : trFn Tryz.prog Tryz.f22 = some c_law20_lives := by kernel_rfl
abbrev n_kern_may : Nat := 23
def c_kern_may : AFn := ⟨55, [.tmp 4],
 .seq (.region [I 2 (.box 28 4) [T 0],
   I 4 (.mv) [.lit (.bool false)]])
 (.seq (.region [I 5 (.mv) [F 66]])
 (.seq (.seq (.region [I 6 (.fieldAddr 0) [T 2],
   I 7 (.load1) [T 6],
   I 8 (.bin .lss) [T 7, N 1],
   I 9 (.mv) [T 8],
   IG 10 (.fieldAddr 0) [T 2] 9 false,
   IG 11 (.load1) [T 10] 9 false,
   IG 12 (.bin .gtr) [T 11, N 256] 9 false,
   I 13 (.pick) [T 9, .lit (.bool true), T 12],
   I 14 (.mv) [T 13],
   IG 15 (.fieldAddr 1) [T 2] 14 false,
   IG 16 (.load1) [T 15] 14 false,
   IG 17 (.bin .lss) [T 16, N 0] 14 false,
   I 18 (.pick) [T 14, .lit (.bool true), T 17],
   I 19 (.mv) [T 18],
   IG 20 (.fieldAddr 1) [T 2] 19 false,
   IG 21 (.load1) [T 20] 19 false,
   IG 22 (.fieldAddr 0) [T 2] 19 false,
   IG 23 (.load1) [T 22] 19 false,
   IG 24 (.bin .gtr) [T 21, T 23] 19 false,
   I 25 (.pick) [T 19, .lit (.bool true), T 24]])
 (.cond (T 25)
 (.seq (.region [I 4 (.mv) [.lit (.bool false)]])
  (.ret))
 (.skip)))
 (.seq (.region (I 26 (.fieldAddr 2) [T 2] ::
   I 27 (.load1) [T 26] ::
   I 28 (.bin .geq) [T 27, N 0] ::
   I 29 (.mv) [T 28] ::
   IG 30 (.fieldAddr 2) [T 2] 29 true ::
   IG 31 (.load1) [T 30] 29 true ::
   IG 32 (.bin .leq) [T 31, N 256] 29 true ::
   I 33 (.pick) [T 29, T 32, .lit (.bool false)] ::
   I 34 (.mv) [T 33] ::
   IG 35 (.fieldAddr 3) [T 2] 34 true ::
   IG 36 (.load1) [T 35] 34 true ::
   IG 37 (.bin .geq) [T 36, N 0] 34 true ::
   I 38 (.pick) [T 34, T 37, .lit (.bool false)] ::
   I 39 (.mv) [T 38] ::
   IG 40 (.fieldAddr 3) [T 2] 39 true ::
   IG 41 (.load1) [T 40] 39 true ::
   IG 42 (.bin .leq) [T 41, N 1024] 39 true ::
   I 43 (.pick) [T 39, T 42, .lit (.bool false)] ::
   I 44 (.mv) [T 43] ::
   IG 45 (.mv) [T 1] 44 true ::
   IG 46 (.lens) [T 45] 44 true ::
   IG 47 (.bin .leq) [T 46, N 16] 44 true ::
   I 48 (.pick) [T 44, T 47, .lit (.bool false)] ::
   I 49 (.mv) [T 48] ::
   IG 50 (.mv) [T 1] 49 true ::
   IG 51 (.mv) [T 5] 49 true ::
   IG 52 (.callv) [F 67, T 50, T 51] 49 true ::
   IG 53 (.un .not) [T 52] 49 true ::
   I 54 (.pick) [T 49, T 53, .lit (.bool false)] ::
   I 4 (.mv) [T 54] ::
   []))
 (.ret))))⟩
theorem t23 : trFn Tryz.prog Tryz.f23 = some c_kern_may := by kernel_rfl
abbrev n_phys_New : Nat := 24
def c_phys_New : AFn := ⟨13, [.tmp 2],
 .seq (.region [I 2 (.mv) [.lit .nilptr]])
 (.seq (.seq (.region [I 3 (.mv) [T 0],
   I 4 (.bin .lss) [T 3, N 1],
   I 5 (.mv) [T 4],
   IG 6 (.mv) [T 0] 5 false,
   IG 7 (.bin .gtr) [T 6, N 256] 5 false,
   I 8 (.pick) [T 5, .lit (.bool true), T 7]])
 (.cond (T 8)
 (.seq (.region [I 2 (.mv) [.lit .nilptr]])
  (.ret))
 (.skip)))
 (.seq (.region [I 9 (.mv) [T 0],
   I 10 (.mkslice 302 4096 4096 (.bytes 4096 0)) [T 9, T 9],
   I 11 (.build (.agg [.nilsl]) [(0, 1)]) [T 10],
   I 12 (.box 120 1) [T 11],
   I 2 (.mv) [T 12]])
 (.ret)))⟩
theorem t24 : trFn Tryz.prog Tryz.f24 = some c_phys_New := by kernel_rfl
abbrev n_frames_New : Nat := 25
def c_frames_New : AFn := ⟨25, [.tmp 4],
 .seq (.region [I 4 (.mv) [.lit .nilptr]])
 (.seq (.seq (.region [I 5 (.mv) [T 0],
   I 6 (.bin .lss) [T 5, N 1],
   I 7 (.mv) [T 6],
   IG 8 (.mv) [T 0] 7 false,
   IG 9 (.bin .gtr) [T 8, N 256] 7 false,
   I 10 (.pick) [T 7, .lit (.bool true), T 9],
   I 11 (.mv) [T 10],
   IG 12 (.mv) [T 1] 11 false,
   IG 13 (.bin .lss) [T 12, N 0] 11 false,
   I 14 (.pick) [T 11, .lit (.bool true), T 13],
   I 15 (.mv) [T 14],
   IG 16 (.mv) [T 1] 15 false,
   IG 17 (.mv) [T 0] 15 false,
   IG 18 (.bin .gtr) [T 16, T 17] 15 false,
   I 19 (.pick) [T 15, .lit (.bool true), T 18]])
 (.cond (T 19)
 (.seq (.region [I 4 (.mv) [.lit .nilptr]])
  (.ret))
 (.skip)))
 (.seq (.region [I 20 (.mv) [T 0],
   I 21 (.mkslice 80 5 40 (.vals [(.int .i64 0), (.int .i64 0), (.int .i64 0), (.int .i64 0), (.int .i64 0)])) [T 20, T 20],
   I 22 (.mv) [T 1],
   I 23 (.build (.agg [.nilsl, (.int .i64 0)]) [(0, 1), (1, 1)]) [T 21, T 22],
   I 24 (.box 123 2) [T 23],
   I 4 (.mv) [T 24]])
 (.ret)))⟩
theorem t25 : trFn Tryz.prog Tryz.f25 = some c_frames_New := by kernel_rfl
abbrev n_swap_New : Nat := 26
def c_swap_New : AFn := ⟨13, [.tmp 2],
 .seq (.region [I 2 (.mv) [.lit .nilptr]])
 (.seq (.seq (.region [I 3 (.mv) [T 0],
   I 4 (.bin .lss) [T 3, N 0],
   I 5 (.mv) [T 4],
   IG 6 (.mv) [T 0] 5 false,
   IG 7 (.bin .gtr) [T 6, N 256] 5 false,
   I 8 (.pick) [T 5, .lit (.bool true), T 7]])
 (.cond (T 8)
 (.seq (.region [I 2 (.mv) [.lit .nilptr]])
  (.ret))
 (.skip)))
 (.seq (.region [I 9 (.mv) [T 0],
   I 10 (.mkmap) [],
   I 11 (.build (.agg [(.int .i64 0), (.bool false), .nilmap, (.int .i64 0), (.int .i64 0), (.int .i64 0), (.int .i64 0)]) [(0, 1), (1, 1), (2, 1)]) [T 9, .lit (.bool true), T 10],
   I 12 (.box 128 7) [T 11],
   I 2 (.mv) [T 12]])
 (.ret)))⟩
theorem t26 : trFn Tryz.prog Tryz.f26 = some c_swap_New := by kernel_rfl
abbrev n_slots_New : Nat := 27
def c_slots_New : AFn := ⟨21, [.tmp 2],
 .seq (.region [I 2 (.mv) [.lit .nilptr]])
 (.seq (.seq (.region [I 4 (.mv) [T 0],
   I 5 (.bin .lss) [T 4, N 0],
   I 6 (.mv) [T 5],
   IG 7 (.mv) [T 0] 6 false,
   IG 8 (.bin .gtr) [T 7, N 256] 6 false,
   I 9 (.pick) [T 6, .lit (.bool true), T 8]])
 (.cond (T 9)
 (.seq (.region [I 2 (.mv) [.lit .nilptr]])
  (.ret))
 (.skip)))
 (.seq (.region [I 10 (.mv) [T 0],
   I 11 (.bin .add) [T 10, N 64],
   I 12 (.bin .sub) [T 11, N 1],
   I 13 (.bin .quo) [T 12, N 64],
   I 3 (.mv) [T 13]])
 (.seq (.draw [[⟨0, I 14 (.mv) [T 0], [], false⟩,
   ⟨1, I 15 (.mv) [T 3], [], false⟩,
   ⟨3, I 17 (.mv) [T 3], [], false⟩,
   ⟨2, I 16 (.mkslice 300 1 8 (.vals [(.int .u64 0)])) [T 15, T 15], [], false⟩,
   ⟨4, I 18 (.mkslice 300 1 8 (.vals [(.int .u64 0)])) [T 17, T 17], [], false⟩,
   ⟨5, I 19 (.build (.agg [(.int .i64 0), .nilsl, .nilsl]) [(0, 1), (1, 1), (2, 1)]) [T 14, T 16, T 18], [], false⟩,
   ⟨6, I 20 (.box 131 3) [T 19], [], false⟩,
   ⟨7, I 2 (.mv) [T 20], [], false⟩],
[⟨0, I 14 (.mv) [T 0], [], false⟩,
   ⟨1, I 15 (.mv) [T 3], [], false⟩,
   ⟨3, I 17 (.mv) [T 3], [], false⟩,
   ⟨4, I 18 (.mkslice 300 1 8 (.vals [(.int .u64 0)])) [T 17, T 17], [], false⟩,
   ⟨2, I 16 (.mkslice 300 1 8 (.vals [(.int .u64 0)])) [T 15, T 15], [], false⟩,
   ⟨5, I 19 (.build (.agg [(.int .i64 0), .nilsl, .nilsl]) [(0, 1), (1, 1), (2, 1)]) [T 14, T 16, T 18], [], false⟩,
   ⟨6, I 20 (.box 131 3) [T 19], [], false⟩,
   ⟨7, I 2 (.mv) [T 20], [], false⟩]])
 (.ret))))⟩
theorem t27 : trFn Tryz.prog Tryz.f27 = some c_slots_New := by kernel_rfl
abbrev n_file_New : Nat := 28
def c_file_New : AFn := ⟨4, [.tmp 0],
 .seq (.region [I 0 (.mv) [.lit .nilptr]])
 (.seq (.region [I 1 (.mkmap) [],
   I 2 (.build (.agg [(.bool false), .nilsl, .nilmap, (.int .i64 0)]) [(0, 1), (2, 1)]) [.lit (.bool true), T 1],
   I 3 (.box 134 4) [T 2],
   I 0 (.mv) [T 3]])
 (.ret))⟩
theorem t28 : trFn Tryz.prog Tryz.f28 = some c_file_New := by kernel_rfl
abbrev n_anon_New : Nat := 29
def c_anon_New : AFn := ⟨13, [.tmp 2],
 .seq (.region [I 2 (.mv) [.lit .nilptr]])
 (.seq (.seq (.region [I 3 (.mv) [T 0],
   I 4 (.bin .lss) [T 3, N 0],
   I 5 (.mv) [T 4],
   IG 6 (.mv) [T 0] 5 false,
   IG 7 (.bin .gtr) [T 6, N 4096] 5 false,
   I 8 (.pick) [T 5, .lit (.bool true), T 7]])
 (.cond (T 8)
 (.seq (.region [I 2 (.mv) [.lit .nilptr]])
  (.ret))
 (.skip)))
 (.seq (.region [I 9 (.mv) [T 0],
   I 10 (.mkmap) [],
   I 11 (.build (.agg [(.int .i64 0), (.bool false), .nilmap, .nilsl, (.int .i64 0)]) [(0, 1), (1, 1), (2, 1)]) [T 9, .lit (.bool true), T 10],
   I 12 (.box 138 5) [T 11],
   I 2 (.mv) [T 12]])
 (.ret)))⟩
theorem t29 : trFn Tryz.prog Tryz.f29 = some c_anon_New := by kernel_rfl
abbrev n_amap_New : Nat := 30
def c_amap_New : AFn := ⟨12, [.tmp 2],
 .seq (.region [I 2 (.mv) [.lit .nilptr]])
 (.seq (.seq (.region [I 3 (.mv) [T 0],
   I 4 (.bin .lss) [T 3, N 0],
   I 5 (.mv) [T 4],
   IG 6 (.mv) [T 0] 5 false,
   IG 7 (.bin .gtr) [T 6, N 4096] 5 false,
   I 8 (.pick) [T 5, .lit (.bool true), T 7]])
 (.cond (T 8)
 (.seq (.region [I 2 (.mv) [.lit .nilptr]])
  (.ret))
 (.skip)))
 (.seq (.region [I 9 (.mv) [T 0],
   I 10 (.build (.agg [(.int .i64 0), (.bool false), .nilsl, (.int .i64 0)]) [(0, 1), (1, 1)]) [T 9, .lit (.bool true)],
   I 11 (.box 141 4) [T 10],
   I 2 (.mv) [T 11]])
 (.ret)))⟩
theorem t30 : trFn Tryz.prog Tryz.f30 = some c_amap_New := by kernel_rfl
abbrev n_object_New : Nat := 31
def c_object_New : AFn := ⟨13, [.tmp 2],
 .seq (.region [I 2 (.mv) [.lit .nilptr]])
 (.seq (.seq (.region [I 3 (.mv) [T 0],
   I 4 (.bin .lss) [T 3, N 0],
   I 5 (.mv) [T 4],
   IG 6 (.mv) [T 0] 5 false,
   IG 7 (.bin .gtr) [T 6, N 4096] 5 false,
   I 8 (.pick) [T 5, .lit (.bool true), T 7]])
 (.cond (T 8)
 (.seq (.region [I 2 (.mv) [.lit .nilptr]])
  (.ret))
 (.skip)))
 (.seq (.region [I 9 (.mv) [T 0],
   I 10 (.mkmap) [],
   I 11 (.build (.agg [(.int .i64 0), (.bool false), .nilmap]) [(0, 1), (1, 1), (2, 1)]) [T 9, .lit (.bool true), T 10],
   I 12 (.box 144 3) [T 11],
   I 2 (.mv) [T 12]])
 (.ret)))⟩
theorem t31 : trFn Tryz.prog Tryz.f31 = some c_object_New := by kernel_rfl
abbrev n_tlb_New : Nat := 32
def c_tlb_New : AFn := ⟨13, [.tmp 2],
 .seq (.region [I 2 (.mv) [.lit .nilptr]])
 (.seq (.seq (.region [I 3 (.mv) [T 0],
   I 4 (.bin .lss) [T 3, N 0],
   I 5 (.mv) [T 4],
   IG 6 (.mv) [T 0] 5 false,
   IG 7 (.bin .gtr) [T 6, N 1024] 5 false,
   I 8 (.pick) [T 5, .lit (.bool true), T 7]])
 (.cond (T 8)
 (.seq (.region [I 2 (.mv) [.lit .nilptr]])
  (.ret))
 (.skip)))
 (.seq (.region [I 9 (.mv) [T 0],
   I 10 (.mkmap) [],
   I 11 (.build (.agg [(.int .i64 0), .nilsl, .nilmap]) [(0, 1), (2, 1)]) [T 9, T 10],
   I 12 (.box 148 3) [T 11],
   I 2 (.mv) [T 12]])
 (.ret)))⟩
theorem t32 : trFn Tryz.prog Tryz.f32 = some c_tlb_New := by kernel_rfl
abbrev n_kern_Kernel_birth : Nat := 34
def c_kern_Kernel_birth_L0 : ACode :=
 .seq (.seq (.region [I 8 (.mv) [T 0],
   I 9 (.nilCheck) [T 8],
   I 10 (.fieldAddr 9) [T 9],
   I 11 (.load1) [T 10],
   I 12 (.mv) [T 4],
   I 13 (.lookup (.scal .int) .nilptr false) [T 11, T 12],
   I 14 (.eqv true .ptr) [T 13, .lit .nilptr]])
 (.cond (T 14)
 (.skip)
 (.exit 0)))
 (.block 1 (.region [I 15 (.mv) [T 4],
   I 16 (.bin .add) [T 15, N 1],
   I 4 (.mv) [T 16]]))
def c_kern_Kernel_birth : AFn := ⟨45, [.tmp 2, .tmp 3],
 .seq (.region [I 2 (.mv) [.lit .nilptr],
   I 3 (.mv) [N 0]])
 (.seq (.region [I 4 (.mv) [N 1]])
 (.seq (.block 0 (.loop c_kern_Kernel_birth_L0))
 (.seq (.draw [[⟨0, I 18 (.mv) [T 0], [], false⟩,
   ⟨1, I 19 (.nilCheck) [T 18], [], false⟩,
   ⟨2, I 20 (.fieldAddr 0) [T 19], [], false⟩,
   ⟨3, I 21 (.load1) [T 20], [], false⟩,
   ⟨4, I 22 (.mv) [T 0], [], false⟩,
   ⟨5, I 23 (.nilCheck) [T 22], [], false⟩,
   ⟨6, I 24 (.fieldAddr 1) [T 23], [], false⟩,
   ⟨7, I 25 (.load1) [T 24], [], false⟩,
   ⟨8, I 26 (.mv) [T 4], [], false⟩,
   ⟨9, I 27 (.callv) [F 69, T 21, T 25, T 26], [], false⟩,
   ⟨10, I 17 (.mv) [T 27], [], false⟩,
   ⟨11, I 28 (.extract 0) [T 17], [], false⟩,
   ⟨12, I 29 (.extract 1) [T 17], [], false⟩,
   ⟨13, I 5 (.mv) [T 28], [], false⟩,
   ⟨14, I 6 (.mv) [T 29], [], false⟩]])
 (.seq (.seq (.region [I 30 (.mv) [T 6],
   I 31 (.bin .neq) [T 30, N 0]])
 (.cond (T 31)
 (.seq (.region [I 32 (.mv) [T 6],
    I 2 (.mv) [.lit .nilptr],
    I 3 (.mv) [T 32]])
  (.ret))
 (.skip)))
 (.seq (.region [I 33 (.mv) [T 4],
   I 34 (.callv) [F 70],
   I 35 (.mv) [T 5],
   I 36 (.build (.agg [(.int .i64 0), .nilptr, .nilptr, .nilsl]) [(0, 1), (1, 1), (2, 1)]) [T 33, T 34, T 35],
   I 37 (.box 100 4) [T 36],
   I 7 (.mv) [T 37]])
 (.seq (.region [I 38 (.mv) [T 0],
   I 39 (.nilCheck) [T 38],
   I 40 (.fieldAddr 9) [T 39],
   I 41 (.load1) [T 40],
   I 42 (.mv) [T 4],
   I 43 (.mv) [T 7],
   J (.mapput (.scal .int)) [T 41, T 42, T 43]])
 (.seq (.region [I 44 (.mv) [T 7],
   I 2 (.mv) [T 44],
   I 3 (.mv) [N 0]])
 (.ret))))))))⟩
theorem t34 : trFn Tryz.prog Tryz.f34 = some c_kern_Kernel_birth := by kernel_rfl
abbrev n_kern_Kernel_made : Nat := 35
def c_kern_Kernel_made : AFn := ⟨12, [.tmp 2],
 .seq (.region [I 2 (.mv) [.lit (.bool false)]])
 (.seq (.region [I 3 (.mv) [T 0],
   I 4 (.eqv true .ptr) [T 3, .lit .nilptr],
   I 5 (.mv) [T 4],
   IG 6 (.mv) [T 0] 5 true,
   IG 7 (.nilCheck) [T 6] 5 true,
   IG 8 (.fieldAddr 9) [T 7] 5 true,
   IG 9 (.load1) [T 8] 5 true,
   IG 10 (.eqv true .map) [T 9, .lit .nilmap] 5 true,
   I 11 (.pick) [T 5, T 10, .lit (.bool false)],
   I 2 (.mv) [T 11]])
 (.ret))⟩
theorem t35 : trFn Tryz.prog Tryz.f35 = some c_kern_Kernel_made := by kernel_rfl
abbrev n_kern_Kernel_enter : Nat := 38
def c_kern_Kernel_enter_L0 : ACode :=
 .seq (.region [I 93 (.bin .lss) [T 92, T 91]])
 (.seq (.cond (T 93)
 (.skip)
 (.exit 1))
 (.seq (.block 2 (.seq (.region [I 94 (.indexs 10) [T 90, T 92],
   I 95 (.loadn 10) [T 94],
   I 12 (.alloc 94 10 (.vals [(.int .i64 0), (.int .i64 0), (.int .i64 0), (.int .i64 0), (.bool false), (.int .i64 0), (.int .i64 0), (.int .i64 0), (.int .i64 0), (.bool false)])) [],
   J (.store 10) [T 12, T 95]])
 (.region [I 96 (.mv) [T 0],
   I 97 (.mv) [T 1],
   I 98 (.fieldAddr 0) [T 12],
   I 99 (.load1) [T 98],
   I 100 (.fieldAddr 1) [T 12],
   I 101 (.load1) [T 100],
   I 102 (.callv) [F 81, T 96, T 97, T 99, T 101]])))
 (.region [I 103 (.bin .add) [T 92, N 1],
   I 92 (.mv) [T 103]])))
def c_kern_Kernel_enter : AFn := ⟨108, [.cell 6 (.loadn 2)],
 .seq (.region [I 5 (.box 33 14) [T 2],
   I 6 (.alloc 30 2 (.vals [(.int .i64 0), (.int .i64 0)])) []])
 (.seq (.block 0 (.seq (.region [I 14 (.fieldAddr 6) [T 5],
   I 15 (.load1) [T 14],
   I 16 (.bin .gtr) [T 15, N 0],
   I 17 (.mv) [T 16],
   IG 18 (.mv) [T 0] 17 true,
   IG 19 (.fieldAddr 6) [T 5] 17 true,
   IG 20 (.load1) [T 19] 17 true,
   IG 21 (.callv) [F 71, T 18, T 20] 17 true,
   IG 22 (.un .not) [T 21] 17 true,
   I 23 (.pick) [T 17, T 22, .lit (.bool false)],
   I 13 (.mv) [T 23]])
 (.cond (T 13)
 (.seq (.region [I 24 (.callv) [F 36, N 7],
    J (.store 2) [T 6, T 24]])
  (.ret))
 (.seq (.region [I 26 (.fieldAddr 6) [T 5],
    I 27 (.load1) [T 26],
    I 28 (.bin .eql) [T 27, N 0],
    I 29 (.mv) [T 28],
    IG 30 (.fieldAddr 7) [T 5] 29 true,
    IG 31 (.load1) [T 30] 29 true,
    IG 32 (.bin .neq) [T 31, N 0] 29 true,
    I 33 (.pick) [T 29, T 32, .lit (.bool false)],
    I 25 (.mv) [T 33]])
  (.cond (T 25)
  (.seq (.region [I 34 (.callv) [F 36, N 2],
     J (.store 2) [T 6, T 34]])
   (.ret))
  (.skip))))))
 (.seq (.region [I 35 (.fieldAddr 3) [T 5],
   I 36 (.load1) [T 35],
   I 37 (.fieldAddr 6) [T 5],
   I 38 (.load1) [T 37],
   I 39 (.fieldAddr 7) [T 5],
   I 40 (.load1) [T 39],
   I 41 (.fieldAddr 5) [T 5],
   I 42 (.load1) [T 41],
   I 43 (.fieldAddr 4) [T 5],
   I 44 (.load1) [T 43],
   I 45 (.build (.agg [(.int .i64 0), (.int .i64 0), (.int .i64 0), (.int .i64 0), (.bool false), (.int .i64 0), (.int .i64 0), (.int .i64 0), (.int .i64 0), (.bool false)]) [(1, 1), (2, 1), (3, 1), (4, 1), (5, 1), (6, 1)]) [T 36, T 38, T 40, T 42, T 44, N 7],
   I 7 (.alloc 94 10 (.vals [(.int .i64 0), (.int .i64 0), (.int .i64 0), (.int .i64 0), (.bool false), (.int .i64 0), (.int .i64 0), (.int .i64 0), (.int .i64 0), (.bool false)])) [],
   J (.store 10) [T 7, T 45]])
 (.seq (.seq (.region [I 46 (.fieldAddr 5) [T 5],
   I 47 (.load1) [T 46]])
 (.cond (T 47)
 (.region [I 48 (.fieldAddr 7) [T 7],
    J (.store 1) [T 48, N 1]])
 (.skip)))
 (.seq (.seq (.region [I 49 (.fieldAddr 5) [T 5],
   I 50 (.load1) [T 49],
   I 51 (.mv) [T 50],
   IG 52 (.fieldAddr 6) [T 5] 51 true,
   IG 53 (.load1) [T 52] 51 true,
   IG 54 (.bin .eql) [T 53, N 0] 51 true,
   I 55 (.pick) [T 51, T 54, .lit (.bool false)]])
 (.cond (T 55)
 (.region [I 56 (.mv) [T 0],
    I 57 (.nilCheck) [T 56],
    I 58 (.fieldAddr 10) [T 57],
    I 59 (.load1) [T 58],
    I 60 (.bin .add) [T 59, N 1],
    I 61 (.fieldAddr 2) [T 7],
    J (.store 1) [T 61, T 60]])
 (.skip)))
 (.seq (.draw [[⟨0, I 63 (.mv) [T 1], [], false⟩,
   ⟨1, I 64 (.nilCheck) [T 63], [], false⟩,
   ⟨2, I 65 (.fieldAddr 1) [T 64], [], false⟩,
   ⟨3, I 66 (.load1) [T 65], [], false⟩,
   ⟨4, I 67 (.fieldAddr 2) [T 5], [], false⟩,
   ⟨5, I 68 (.load1) [T 67], [], false⟩,
   ⟨6, I 69 (.loadn 10) [T 7], [], false⟩,
   ⟨7, I 70 (.fieldAddr 8) [T 5], [], false⟩,
   ⟨8, I 71 (.load1) [T 70], [], false⟩,
   ⟨9, I 72 (.callv) [F 80, T 66, T 68, T 69, T 71], [], false⟩,
   ⟨10, I 62 (.mv) [T 72], [], false⟩,
   ⟨11, I 73 (.extract 0) [T 62], [], false⟩,
   ⟨12, I 74 (.extract 1) [T 62], [], false⟩,
   ⟨13, I 75 (.extract 2) [T 62], [], false⟩,
   ⟨14, I 8 (.mv) [T 73], [], false⟩,
   ⟨15, I 9 (.mv) [T 74], [], false⟩,
   ⟨16, I 10 (.mv) [T 75], [], false⟩]])
 (.seq (.seq (.region [I 76 (.mv) [T 10],
   I 77 (.bin .neq) [T 76, N 0]])
 (.cond (T 77)
 (.seq (.region [I 78 (.mv) [T 10],
    I 79 (.callv) [F 36, T 78],
    J (.store 2) [T 6, T 79]])
  (.ret))
 (.skip)))
 (.seq (.draw [[⟨0, I 80 (.mv) [T 0], [], false⟩,
   ⟨1, I 81 (.mv) [T 0], [], false⟩,
   ⟨2, I 82 (.nilCheck) [T 81], [], false⟩,
   ⟨3, I 83 (.fieldAddr 10) [T 82], [], false⟩,
   ⟨4, I 84 (.load1) [T 83], [], false⟩,
   ⟨5, I 85 (.fieldAddr 2) [T 7], [], false⟩,
   ⟨6, I 86 (.load1) [T 85], [], false⟩,
   ⟨7, I 87 (.max) [T 84, T 86], [], false⟩,
   ⟨8, I 88 (.nilCheck) [T 80], [], false⟩,
   ⟨9, I 89 (.fieldAddr 10) [T 88], [], false⟩,
   ⟨10, J (.store 1) [T 89, T 87], [], false⟩]])
 (.seq (.seq (.region [I 90 (.mv) [T 9],
   I 91 (.lens) [T 90],
   I 92 (.mv) [N 0]])
 (.block 1 (.loop c_kern_Kernel_enter_L0)))
 (.seq (.region [I 104 (.mv) [T 0],
   I 105 (.callv) [F 82, T 104]])
 (.seq (.region [I 106 (.mv) [T 8],
   I 107 (.build (.agg [(.int .i64 0), (.int .i64 0)]) [(1, 1)]) [T 106],
   J (.store 2) [T 6, T 107]])
 (.ret)))))))))))⟩
theorem t38 : trFn Tryz.prog Tryz.f38 = some c_kern_Kernel_enter := by kernel_rfl
abbrev n_kern_Kernel_access : Nat := 39
def c_kern_Kernel_access : AFn := ⟨79, [.cell 6 (.loadn 2)],
 .seq (.region [I 5 (.box 33 14) [T 2],
   I 6 (.alloc 30 2 (.vals [(.int .i64 0), (.int .i64 0)])) []])
 (.seq (.region [I 7 (.mv) [N 1]])
 (.seq (.seq (.region [I 13 (.fieldAddr 0) [T 5],
   I 14 (.load1) [T 13],
   I 15 (.bin .eql) [T 14, N 9]])
 (.cond (T 15)
 (.seq (.region [I 7 (.mv) [N 2]])
  (.seq (.region [I 16 (.fieldAddr 11) [T 5],
    I 17 (.load1) [T 16],
    I 18 (.bin .lss) [T 17, N 0],
    I 19 (.mv) [T 18],
    IG 20 (.fieldAddr 11) [T 5] 19 false,
    IG 21 (.load1) [T 20] 19 false,
    IG 22 (.bin .gtr) [T 21, N 255] 19 false,
    I 23 (.pick) [T 19, .lit (.bool true), T 22]])
  (.cond (T 23)
  (.seq (.region [I 24 (.callv) [F 36, N 2],
     J (.store 2) [T 6, T 24]])
   (.ret))
  (.skip))))
 (.skip)))
 (.seq (.seq (.region [I 25 (.mv) [T 0],
   I 26 (.mv) [T 1],
   I 27 (.fieldAddr 2) [T 5],
   I 28 (.load1) [T 27],
   I 29 (.fieldAddr 10) [T 5],
   I 30 (.load1) [T 29],
   I 31 (.mv) [T 7],
   I 32 (.callv) [F 83, T 25, T 26, T 28, T 30, T 31],
   I 8 (.mv) [T 32]])
 (.seq (.region [I 33 (.mv) [T 8],
   I 34 (.bin .neq) [T 33, N 0]])
 (.cond (T 34)
 (.seq (.region [I 35 (.mv) [T 8],
    I 36 (.callv) [F 36, T 35],
    J (.store 2) [T 6, T 36]])
  (.ret))
 (.skip))))
 (.seq (.region [I 38 (.mv) [T 0],
   I 39 (.mv) [T 1],
   I 40 (.fieldAddr 2) [T 5],
   I 41 (.load1) [T 40],
   I 42 (.mv) [T 7],
   I 43 (.callv) [F 84, T 38, T 39, T 41, T 42],
   I 37 (.mv) [T 43],
   I 44 (.extract 0) [T 37],
   I 45 (.extract 1) [T 37],
   I 9 (.mv) [T 44],
   I 10 (.mv) [T 45]])
 (.seq (.seq (.region [I 46 (.mv) [T 10],
   I 47 (.bin .neq) [T 46, N 0]])
 (.cond (T 47)
 (.seq (.region [I 48 (.mv) [T 10],
    I 49 (.callv) [F 36, T 48],
    J (.store 2) [T 6, T 49]])
  (.ret))
 (.skip)))
 (.seq (.seq (.region [I 50 (.fieldAddr 0) [T 5],
   I 51 (.load1) [T 50],
   I 52 (.bin .eql) [T 51, N 9]])
 (.cond (T 52)
 (.seq (.draw [[⟨0, I 53 (.mv) [T 0], [], false⟩,
    ⟨1, I 54 (.nilCheck) [T 53], [], false⟩,
    ⟨2, I 55 (.fieldAddr 0) [T 54], [], false⟩,
    ⟨3, I 56 (.load1) [T 55], [], false⟩,
    ⟨4, I 57 (.mv) [T 9], [], false⟩,
    ⟨5, I 58 (.fieldAddr 10) [T 5], [], false⟩,
    ⟨6, I 59 (.load1) [T 58], [], false⟩,
    ⟨7, I 60 (.fieldAddr 11) [T 5], [], false⟩,
    ⟨8, I 61 (.load1) [T 60], [], false⟩,
    ⟨9, I 62 (.conv .u8) [T 61], [], false⟩,
    ⟨10, I 63 (.callv) [F 79, T 56, T 57, T 59, T 62], [], false⟩]])
  (.seq (.region [I 64 (.build (.agg [(.int .i64 0), (.int .i64 0)]) []) [],
    J (.store 2) [T 6, T 64]])
  (.ret)))
 (.skip)))
 (.seq (.draw [[⟨0, I 66 (.mv) [T 0], [], false⟩,
   ⟨1, I 67 (.nilCheck) [T 66], [], false⟩,
   ⟨2, I 68 (.fieldAddr 0) [T 67], [], false⟩,
   ⟨3, I 69 (.load1) [T 68], [], false⟩,
   ⟨4, I 70 (.mv) [T 9], [], false⟩,
   ⟨5, I 71 (.fieldAddr 10) [T 5], [], false⟩,
   ⟨6, I 72 (.load1) [T 71], [], false⟩,
   ⟨7, I 73 (.callv) [F 77, T 69, T 70, T 72], [], false⟩,
   ⟨8, I 65 (.mv) [T 73], [], false⟩,
   ⟨9, I 74 (.extract 0) [T 65], [], false⟩,
   ⟨10, I 75 (.extract 1) [T 65], [], false⟩,
   ⟨11, I 11 (.mv) [T 74], [], false⟩,
   ⟨12, I 12 (.mv) [T 75], [], false⟩]])
 (.seq (.region [I 76 (.mv) [T 11],
   I 77 (.conv .i64) [T 76],
   I 78 (.build (.agg [(.int .i64 0), (.int .i64 0)]) [(1, 1)]) [T 77],
   J (.store 2) [T 6, T 78]])
 (.ret)))))))))⟩
theorem t39 : trFn Tryz.prog Tryz.f39 = some c_kern_Kernel_access := by kernel_rfl
abbrev n_phys_Memory_Frames : Nat := 44
def c_phys_Memory_Frames : AFn := ⟨10, [.tmp 2],
 .seq (.region [I 2 (.mv) [N 0]])
 (.seq (.seq (.region [I 3 (.mv) [T 0],
   I 4 (.eqv false .ptr) [T 3, .lit .nilptr]])
 (.cond (T 4)
 (.seq (.region [I 2 (.mv) [N 0]])
  (.ret))
 (.skip)))
 (.seq (.region [I 5 (.mv) [T 0],
   I 6 (.nilCheck) [T 5],
   I 7 (.fieldAddr 0) [T 6],
   I 8 (.load1) [T 7],
   I 9 (.lens) [T 8],
   I 2 (.mv) [T 9]])
 (.ret)))⟩
theorem t44 : trFn Tryz.prog Tryz.f44 = some c_phys_Memory_Frames := by kernel_rfl
abbrev n_frames_Pool_Get : Nat := 45
def c_frames_Pool_Get : AFn := ⟨30, [.cell 4 (.loadn 5), .tmp 5],
 .seq (.region [I 4 (.alloc 80 5 (.vals [(.int .i64 0), (.int .i64 0), (.int .i64 0), (.int .i64 0), (.int .i64 0)])) [],
   I 5 (.mv) [.lit (.bool false)]])
 (.seq (.seq (.region [I 6 (.mv) [T 0],
   I 7 (.callv) [F 103, T 6],
   I 8 (.un .not) [T 7],
   I 9 (.mv) [T 8],
   IG 10 (.mv) [T 1] 9 false,
   IG 11 (.bin .lss) [T 10, N 0] 9 false,
   I 12 (.pick) [T 9, .lit (.bool true), T 11],
   I 13 (.mv) [T 12],
   IG 14 (.mv) [T 1] 13 false,
   IG 15 (.mv) [T 0] 13 false,
   IG 16 (.nilCheck) [T 15] 13 false,
   IG 17 (.fieldAddr 0) [T 16] 13 false,
   IG 18 (.load1) [T 17] 13 false,
   IG 19 (.lens) [T 18] 13 false,
   IG 20 (.bin .geq) [T 14, T 19] 13 false,
   I 21 (.pick) [T 13, .lit (.bool true), T 20]])
 (.cond (T 21)
 (.seq (.region [I 22 (.build (.agg [(.int .i64 0), (.int .i64 0), (.int .i64 0), (.int .i64 0), (.int .i64 0)]) []) [],
    J (.store 5) [T 4, T 22],
    I 5 (.mv) [.lit (.bool false)]])
  (.ret))
 (.skip)))
 (.seq (.region [I 23 (.mv) [T 0],
   I 24 (.nilCheck) [T 23],
   I 25 (.fieldAddr 0) [T 24],
   I 26 (.load1) [T 25],
   I 27 (.mv) [T 1],
   I 28 (.indexs 5) [T 26, T 27],
   I 29 (.loadn 5) [T 28],
   J (.store 5) [T 4, T 29],
   I 5 (.mv) [.lit (.bool true)]])
 (.ret)))⟩
theorem t45 : trFn Tryz.prog Tryz.f45 = some c_frames_Pool_Get := by kernel_rfl
abbrev n_kern_Kernel_Evict : Nat := 46
def c_kern_Kernel_Evict : AFn := ⟨139, [.tmp 4],
 .seq (.region [I 4 (.mv) [N 0]])
 (.seq (.seq (.region [I 13 (.mv) [T 0],
   I 14 (.callv) [F 35, T 13],
   I 15 (.un .not) [T 14]])
 (.cond (T 15)
 (.seq (.region [I 4 (.mv) [N 1]])
  (.ret))
 (.skip)))
 (.seq (.region [I 17 (.mv) [T 0],
   I 18 (.nilCheck) [T 17],
   I 19 (.fieldAddr 1) [T 18],
   I 20 (.load1) [T 19],
   I 21 (.mv) [T 1],
   I 22 (.callv) [F 45, T 20, T 21],
   I 16 (.mv) [T 22],
   I 23 (.extract 0) [T 16],
   I 24 (.extract 1) [T 16],
   I 5 (.alloc 80 5 (.vals [(.int .i64 0), (.int .i64 0), (.int .i64 0), (.int .i64 0), (.int .i64 0)])) [],
   J (.store 5) [T 5, T 23],
   I 6 (.mv) [T 24]])
 (.seq (.block 0 (.seq (.region [I 26 (.mv) [T 6],
   I 27 (.un .not) [T 26],
   I 28 (.mv) [T 27],
   IG 29 (.fieldAddr 0) [T 5] 28 false,
   IG 30 (.load1) [T 29] 28 false,
   IG 31 (.bin .neq) [T 30, N 2] 28 false,
   IG 32 (.mv) [T 31] 28 false,
   IG 33 (.fieldAddr 0) [T 5] 32 true,
   IG 34 (.load1) [T 33] 32 true,
   IG 35 (.bin .neq) [T 34, N 3] 32 true,
   IG 36 (.pick) [T 32, T 35, .lit (.bool false)] 28 false,
   I 37 (.pick) [T 28, .lit (.bool true), T 36],
   I 25 (.mv) [T 37]])
 (.cond (T 25)
 (.seq (.region [I 4 (.mv) [N 7]])
  (.ret))
 (.seq (.region [I 39 (.fieldAddr 4) [T 5],
    I 40 (.load1) [T 39],
    I 41 (.bin .gtr) [T 40, N 0],
    I 42 (.mv) [T 41],
    IG 43 (.mv) [T 0] 42 false,
    IG 44 (.loadn 5) [T 5] 42 false,
    IG 45 (.callv) [F 104, T 43, T 44] 42 false,
    I 46 (.pick) [T 42, .lit (.bool true), T 45],
    I 38 (.mv) [T 46]])
  (.cond (T 38)
  (.seq (.region [I 4 (.mv) [N 8]])
   (.ret))
  (.skip))))))
 (.seq (.region [I 7 (.mv) [N 0]])
 (.seq (.seq (.region [I 47 (.fieldAddr 0) [T 5],
   I 48 (.load1) [T 47],
   I 49 (.bin .eql) [T 48, N 3]])
 (.cond (T 49)
 (.draw [[⟨0, I 50 (.mv) [T 0], [], false⟩,
    ⟨1, I 51 (.nilCheck) [T 50], [], false⟩,
    ⟨2, I 52 (.fieldAddr 7) [T 51], [], false⟩,
    ⟨3, I 53 (.load1) [T 52], [], false⟩,
    ⟨4, I 54 (.fieldAddr 1) [T 5], [], false⟩,
    ⟨5, I 55 (.load1) [T 54], [], false⟩,
    ⟨6, I 56 (.callv) [F 105, T 53, T 55], [], false⟩,
    ⟨7, I 7 (.mv) [T 56], [], false⟩]])
 (.skip)))
 (.seq (.seq (.region [I 57 (.mv) [T 7],
   I 58 (.bin .gtr) [T 57, N 0],
   I 59 (.mv) [T 58],
   IG 60 (.mv) [T 7] 59 true,
   IG 61 (.bin .leq) [T 60, N 1000] 59 true,
   I 62 (.pick) [T 59, T 61, .lit (.bool false)]])
 (.cond (T 62)
 (.seq (.draw [[⟨0, I 64 (.mv) [T 0], [], false⟩,
    ⟨1, I 65 (.nilCheck) [T 64], [], false⟩,
    ⟨2, I 66 (.fieldAddr 7) [T 65], [], false⟩,
    ⟨3, I 67 (.load1) [T 66], [], false⟩,
    ⟨4, I 68 (.fieldAddr 1) [T 5], [], false⟩,
    ⟨5, I 69 (.load1) [T 68], [], false⟩,
    ⟨6, I 70 (.fieldAddr 2) [T 5], [], false⟩,
    ⟨7, I 71 (.load1) [T 70], [], false⟩,
    ⟨8, I 72 (.callv) [F 106, T 67, T 69, T 71], [], false⟩,
    ⟨9, I 63 (.mv) [T 72], [], false⟩,
    ⟨10, I 73 (.extract 0) [T 63], [], false⟩,
    ⟨11, I 74 (.extract 1) [T 63], [], false⟩,
    ⟨12, I 8 (.alloc 179 3 (.vals [(.int .i64 0), (.int .i64 0), (.bool false)])) [], [(3, I 67 (.load1) [T 66]), (5, I 69 (.load1) [T 68]), (7, I 71 (.load1) [T 70])], false⟩,
    ⟨13, J (.store 3) [T 8, T 73], [], false⟩,
    ⟨14, I 9 (.mv) [T 74], [], false⟩]])
  (.seq (.seq (.region [I 75 (.fieldAddr 2) [T 8],
    I 76 (.load1) [T 75]])
  (.cond (T 76)
  (.seq (.draw [[⟨0, I 77 (.mv) [T 0], [], false⟩,
     ⟨1, I 78 (.nilCheck) [T 77], [], false⟩,
     ⟨2, I 79 (.fieldAddr 4) [T 78], [], false⟩,
     ⟨3, I 80 (.load1) [T 79], [], false⟩,
     ⟨4, I 81 (.mv) [T 7], [], false⟩,
     ⟨5, I 82 (.fieldAddr 2) [T 5], [], false⟩,
     ⟨6, I 83 (.load1) [T 82], [], false⟩,
     ⟨7, I 84 (.mv) [T 0], [], false⟩,
     ⟨8, I 85 (.nilCheck) [T 84], [], false⟩,
     ⟨9, I 86 (.fieldAddr 0) [T 85], [], false⟩,
     ⟨10, I 87 (.load1) [T 86], [], false⟩,
     ⟨11, I 88 (.mv) [T 1], [], false⟩,
     ⟨12, I 89 (.callv) [F 108, T 87, T 88], [(3, I 80 (.load1) [T 79]), (6, I 83 (.load1) [T 82])], false⟩,
     ⟨13, I 90 (.callv) [F 107, T 80, T 81, T 83, T 89], [], false⟩,
     ⟨14, I 10 (.mv) [T 90], [], false⟩]])
   (.seq (.region [I 91 (.mv) [T 10],
     I 92 (.bin .neq) [T 91, N 0]])
   (.cond (T 92)
   (.seq (.region [I 93 (.mv) [T 10],
      I 4 (.mv) [T 93]])
    (.ret))
   (.skip))))
  (.skip)))
  (.seq (.region [I 94 (.mv) [T 0],
    I 95 (.mv) [T 1],
    I 96 (.callv) [F 109, T 94, T 95]])
  (.seq (.draw [[⟨0, I 97 (.mv) [T 0], [], false⟩,
    ⟨1, I 98 (.nilCheck) [T 97], [], false⟩,
    ⟨2, I 99 (.fieldAddr 7) [T 98], [], false⟩,
    ⟨3, I 100 (.load1) [T 99], [], false⟩,
    ⟨4, I 101 (.fieldAddr 1) [T 5], [], false⟩,
    ⟨5, I 102 (.load1) [T 101], [], false⟩,
    ⟨6, I 103 (.fieldAddr 2) [T 5], [], false⟩,
    ⟨7, I 104 (.load1) [T 103], [], false⟩,
    ⟨8, I 105 (.callv) [F 110, T 100, T 102, T 104], [], false⟩]])
  (.seq (.region [I 4 (.mv) [N 0]])
  (.ret))))))
 (.skip)))
 (.seq (.region [I 107 (.mv) [T 0],
   I 108 (.mv) [T 1],
   I 109 (.callv) [F 111, T 107, T 108],
   I 106 (.mv) [T 109],
   I 110 (.extract 0) [T 106],
   I 111 (.extract 1) [T 106],
   I 11 (.mv) [T 110],
   I 12 (.mv) [T 111]])
 (.seq (.seq (.region [I 112 (.mv) [T 12],
   I 113 (.bin .neq) [T 112, N 0]])
 (.cond (T 113)
 (.seq (.region [I 114 (.mv) [T 12],
    I 4 (.mv) [T 114]])
  (.ret))
 (.skip)))
 (.seq (.region [I 115 (.mv) [T 0],
   I 116 (.mv) [T 1],
   I 117 (.callv) [F 109, T 115, T 116]])
 (.seq (.seq (.region [I 118 (.mv) [T 7],
   I 119 (.bin .gtr) [T 118, N 0]])
 (.cond (T 119)
 (.draw [[⟨0, I 120 (.mv) [T 0], [], false⟩,
    ⟨1, I 121 (.nilCheck) [T 120], [], false⟩,
    ⟨2, I 122 (.fieldAddr 7) [T 121], [], false⟩,
    ⟨3, I 123 (.load1) [T 122], [], false⟩,
    ⟨4, I 124 (.fieldAddr 1) [T 5], [], false⟩,
    ⟨5, I 125 (.load1) [T 124], [], false⟩,
    ⟨6, I 126 (.fieldAddr 2) [T 5], [], false⟩,
    ⟨7, I 127 (.load1) [T 126], [], false⟩,
    ⟨8, I 128 (.mv) [T 11], [], false⟩,
    ⟨9, I 129 (.build (.agg [(.int .i64 0), (.int .i64 0), (.bool false)]) [(0, 1), (1, 1)]) [N (-1), T 128], [], false⟩,
    ⟨10, I 130 (.callv) [F 112, T 123, T 125, T 127, T 129], [], false⟩]])
 (.draw [[⟨0, I 131 (.mv) [T 0], [], false⟩,
    ⟨1, I 132 (.nilCheck) [T 131], [], false⟩,
    ⟨2, I 133 (.fieldAddr 5) [T 132], [], false⟩,
    ⟨3, I 134 (.load1) [T 133], [], false⟩,
    ⟨4, I 135 (.fieldAddr 1) [T 5], [], false⟩,
    ⟨5, I 136 (.load1) [T 135], [], false⟩,
    ⟨6, I 137 (.mv) [T 11], [], false⟩,
    ⟨7, I 138 (.callv) [F 113, T 134, T 136, N (-1), T 137], [], false⟩]])))
 (.seq (.region [I 4 (.mv) [N 0]])
 (.ret))))))))))))⟩
theorem t46 : trFn Tryz.prog Tryz.f46 = some c_kern_Kernel_Evict := by kernel_rfl
abbrev n_slices_Sorted_int : Nat := 51
def c_slices_Sorted_int : AFn := ⟨9, [.tmp 2],
 .seq (.region [I 2 (.mv) [.lit .nilsl]])
 (.seq (.region [I 4 (.mv) [T 0],
   I 5 (.callv) [F 118, T 4],
   I 3 (.mv) [T 5]])
 (.seq (.region [I 6 (.mv) [T 3],
   I 7 (.callv) [F 119, T 6]])
 (.seq (.region [I 8 (.mv) [T 3],
   I 2 (.mv) [T 8]])
 (.ret))))⟩
theorem t51 : trFn Tryz.prog Tryz.f51 = some c_slices_Sorted_int := by kernel_rfl
abbrev n_frames_Pool_Free : Nat := 53
def c_frames_Pool_Free : AFn := ⟨5, [.tmp 2],
 .seq (.region [I 2 (.mv) [N 0]])
 (.seq (.region [I 3 (.mv) [T 0],
   I 4 (.callv) [F 121, T 3, N 0],
   I 2 (.mv) [T 4]])
 (.ret))⟩
theorem t53 : trFn Tryz.prog Tryz.f53 = some c_frames_Pool_Free := by kernel_rfl
abbrev n_vmap_Map_At : Nat := 55
def c_vmap_Map_At : AFn := ⟨31, [.cell 4 (.loadn 10), .tmp 5],
 .seq (.region [I 4 (.alloc 94 10 (.vals [(.int .i64 0), (.int .i64 0), (.int .i64 0), (.int .i64 0), (.bool false), (.int .i64 0), (.int .i64 0), (.int .i64 0), (.int .i64 0), (.bool false)])) [],
   I 5 (.mv) [.lit (.bool false)]])
 (.seq (.seq (.region [I 8 (.mv) [T 0],
   I 9 (.callv) [F 122, T 8],
   I 10 (.un .not) [T 9]])
 (.cond (T 10)
 (.seq (.region [I 11 (.build (.agg [(.int .i64 0), (.int .i64 0), (.int .i64 0), (.int .i64 0), (.bool false), (.int .i64 0), (.int .i64 0), (.int .i64 0), (.int .i64 0), (.bool false)]) []) [],
    J (.store 10) [T 4, T 11],
    I 5 (.mv) [.lit (.bool false)]])
  (.ret))
 (.skip)))
 (.seq (.region [I 13 (.mv) [T 0],
   I 14 (.nilCheck) [T 13],
   I 15 (.fieldAddr 0) [T 14],
   I 16 (.load1) [T 15],
   I 17 (.mv) [T 1],
   I 18 (.callv) [F 123, T 16, T 17],
   I 12 (.mv) [T 18],
   I 19 (.extract 0) [T 12],
   I 20 (.extract 1) [T 12],
   I 6 (.mv) [T 19],
   I 7 (.mv) [T 20]])
 (.seq (.seq (.region [I 21 (.mv) [T 7],
   I 22 (.un .not) [T 21]])
 (.cond (T 22)
 (.seq (.region [I 23 (.build (.agg [(.int .i64 0), (.int .i64 0), (.int .i64 0), (.int .i64 0), (.bool false), (.int .i64 0), (.int .i64 0), (.int .i64 0), (.int .i64 0), (.bool false)]) []) [],
    J (.store 10) [T 4, T 23],
    I 5 (.mv) [.lit (.bool false)]])
  (.ret))
 (.skip)))
 (.seq (.region [I 24 (.mv) [T 0],
   I 25 (.nilCheck) [T 24],
   I 26 (.fieldAddr 0) [T 25],
   I 27 (.load1) [T 26],
   I 28 (.mv) [T 6],
   I 29 (.indexs 10) [T 27, T 28],
   I 30 (.loadn 10) [T 29],
   J (.store 10) [T 4, T 30],
   I 5 (.mv) [.lit (.bool true)]])
 (.ret)))))⟩
theorem t55 : trFn Tryz.prog Tryz.f55 = some c_vmap_Map_At := by kernel_rfl
abbrev n_kern_Kernel_anonAt : Nat := 57
def c_kern_Kernel_anonAt : AFn := ⟨33, [.tmp 6],
 .seq (.region [I 6 (.mv) [N 0]])
 (.seq (.region [I 8 (.mv) [T 1],
   I 9 (.mv) [T 2],
   I 10 (.callv) [F 125, T 8, T 9],
   I 7 (.mv) [T 10]])
 (.seq (.seq (.region [I 11 (.mv) [T 7],
   I 12 (.eqv false .ptr) [T 11, .lit .nilptr]])
 (.cond (T 12)
 (.seq (.region [I 6 (.mv) [N 0]])
  (.ret))
 (.skip)))
 (.seq (.draw [[⟨0, I 13 (.mv) [T 0], [], false⟩,
   ⟨1, I 14 (.nilCheck) [T 13], [], false⟩,
   ⟨2, I 15 (.fieldAddr 6) [T 14], [], false⟩,
   ⟨3, I 16 (.load1) [T 15], [], false⟩,
   ⟨4, I 17 (.mv) [T 7], [], false⟩,
   ⟨5, I 18 (.nilCheck) [T 17], [], false⟩,
   ⟨6, I 19 (.fieldAddr 2) [T 18], [], false⟩,
   ⟨7, I 20 (.load1) [T 19], [], false⟩,
   ⟨8, I 21 (.mv) [T 7], [], false⟩,
   ⟨9, I 22 (.nilCheck) [T 21], [], false⟩,
   ⟨10, I 23 (.fieldAddr 3) [T 22], [], false⟩,
   ⟨11, I 24 (.load1) [T 23], [], false⟩,
   ⟨12, I 25 (.mv) [T 2], [], false⟩,
   ⟨13, I 26 (.bin .add) [T 24, T 25], [], false⟩,
   ⟨14, I 27 (.mv) [T 7], [], false⟩,
   ⟨15, I 28 (.nilCheck) [T 27], [], false⟩,
   ⟨16, I 29 (.fieldAddr 0) [T 28], [], false⟩,
   ⟨17, I 30 (.load1) [T 29], [], false⟩,
   ⟨18, I 31 (.bin .sub) [T 26, T 30], [], false⟩,
   ⟨19, I 32 (.callv) [F 126, T 16, T 20, T 31], [], false⟩,
   ⟨20, I 6 (.mv) [T 32], [], false⟩]])
 (.ret))))⟩
theorem t57 : trFn Tryz.prog Tryz.f57 = some c_kern_Kernel_anonAt := by kernel_rfl
abbrev n_kern_Kernel_gone : Nat := 59
def c_kern_Kernel_gone : AFn := ⟨33, [.tmp 6],
 .seq (.region [I 6 (.mv) [.lit (.bool false)]])
 (.seq (.region [I 10 (.mv) [T 0],
   I 11 (.nilCheck) [T 10],
   I 12 (.fieldAddr 4) [T 11],
   I 13 (.load1) [T 12],
   I 14 (.mv) [T 1],
   I 15 (.callv) [F 128, T 13, T 14],
   I 9 (.mv) [T 15],
   I 16 (.extract 0) [T 9],
   I 17 (.extract 1) [T 9],
   I 7 (.mv) [T 16],
   I 8 (.mv) [T 17]])
 (.seq (.region [I 18 (.mv) [T 1],
   I 19 (.bin .gtr) [T 18, N 0],
   I 20 (.mv) [T 19],
   IG 21 (.mv) [T 1] 20 true,
   IG 22 (.bin .leq) [T 21, N 1000] 20 true,
   I 23 (.pick) [T 20, T 22, .lit (.bool false)],
   I 24 (.mv) [T 23],
   IG 25 (.mv) [T 2] 24 true,
   IG 26 (.bin .lss) [T 25, N 0] 24 true,
   IG 27 (.mv) [T 26] 24 true,
   IG 28 (.mv) [T 2] 27 false,
   IG 29 (.mv) [T 7] 27 false,
   IG 30 (.bin .geq) [T 28, T 29] 27 false,
   IG 31 (.pick) [T 27, .lit (.bool true), T 30] 24 true,
   I 32 (.pick) [T 24, T 31, .lit (.bool false)],
   I 6 (.mv) [T 32]])
 (.ret)))⟩
theorem t59 : trFn Tryz.prog Tryz.f59 = some c_kern_Kernel_gone := by kernel_rfl
abbrev n_ring_New_int : Nat := 61
def c_ring_New_int : AFn := ⟨14, [.tmp 2],
 .seq (.region [I 2 (.mv) [.lit .nilptr]])
 (.seq (.seq (.region [I 3 (.mv) [T 0],
   I 4 (.bin .lss) [T 3, N 1],
   I 5 (.mv) [T 4],
   IG 6 (.mv) [T 0] 5 false,
   IG 7 (.bin .gtr) [T 6, N 64] 5 false,
   I 8 (.pick) [T 5, .lit (.bool true), T 7]])
 (.cond (T 8)
 (.seq (.region [I 2 (.mv) [.lit .nilptr]])
  (.ret))
 (.skip)))
 (.seq (.region [I 9 (.mv) [T 0],
   I 10 (.mkslice 34 1 24 (.vals [.nilsl])) [T 9, T 9],
   I 11 (.mkmap) [],
   I 12 (.build (.agg [.nilsl, .nilmap]) [(0, 1), (1, 1)]) [T 10, T 11],
   I 13 (.box 197 2) [T 12],
   I 2 (.mv) [T 13]])
 (.ret)))⟩
theorem t61 : trFn Tryz.prog Tryz.f61 = some c_ring_New_int := by kernel_rfl
abbrev n_daemon_Daemon_made : Nat := 62
def c_daemon_Daemon_made : AFn := ⟨12, [.tmp 2],
 .seq (.region [I 2 (.mv) [.lit (.bool false)]])
 (.seq (.region [I 3 (.mv) [T 0],
   I 4 (.eqv true .ptr) [T 3, .lit .nilptr],
   I 5 (.mv) [T 4],
   IG 6 (.mv) [T 0] 5 true,
   IG 7 (.nilCheck) [T 6] 5 true,
   IG 8 (.fieldAddr 0) [T 7] 5 true,
   IG 9 (.load1) [T 8] 5 true,
   IG 10 (.eqv true .ptr) [T 9, .lit .nilptr] 5 true,
   I 11 (.pick) [T 5, T 10, .lit (.bool false)],
   I 2 (.mv) [T 11]])
 (.ret))⟩
theorem t62 : trFn Tryz.prog Tryz.f62 = some c_daemon_Daemon_made := by kernel_rfl
abbrev n_daemon_Daemon_gather : Nat := 63
def c_daemon_Daemon_gather_L0 : ACode :=
 .seq (.region [I 22 (.bin .lss) [T 21, T 20]])
 (.seq (.cond (T 22)
 (.skip)
 (.exit 0))
 (.seq (.block 1 (.seq (.region [I 23 (.indexs 1) [T 19, T 21],
   I 24 (.load1) [T 23],
   I 4 (.mv) [T 24]])
 (.seq (.region [I 25 (.mv) [T 2],
   I 26 (.mv) [T 4],
   I 27 (.callv) [F 133, T 25, T 26],
   I 28 (.un .not) [T 27]])
 (.cond (T 28)
 (.region [I 29 (.mv) [T 0],
    I 30 (.nilCheck) [T 29],
    I 31 (.fieldAddr 1) [T 30],
    I 32 (.load1) [T 31],
    I 33 (.mv) [T 4],
    I 34 (.callv) [F 134, T 32, T 33]])
 (.skip)))))
 (.region [I 35 (.bin .add) [T 21, N 1],
   I 21 (.mv) [T 35]])))
def c_daemon_Daemon_gather_L1 : ACode :=
 .seq (.region [I 39 (.bin .lss) [T 38, T 37]])
 (.seq (.cond (T 39)
 (.skip)
 (.exit 2))
 (.seq (.block 3 (.seq (.region [I 40 (.indexs 1) [T 36, T 38],
   I 41 (.load1) [T 40],
   I 6 (.mv) [T 41]])
 (.seq (.region [I 43 (.mv) [T 0],
   I 44 (.nilCheck) [T 43],
   I 45 (.fieldAddr 1) [T 44],
   I 46 (.load1) [T 45],
   I 47 (.mv) [T 6],
   I 48 (.callv) [F 135, T 46, T 47],
   I 42 (.mv) [T 48],
   I 49 (.extract 0) [T 42],
   I 50 (.extract 1) [T 42],
   I 7 (.mv) [T 49],
   I 8 (.mv) [T 50]])
 (.seq (.region [I 51 (.mv) [T 8],
   I 52 (.un .not) [T 51]])
 (.cond (T 52)
 (.region [I 53 (.mv) [T 0],
    I 54 (.nilCheck) [T 53],
    I 55 (.fieldAddr 1) [T 54],
    I 56 (.load1) [T 55],
    I 57 (.mv) [T 6],
    I 58 (.callv) [F 136, T 56, N 0, T 57]])
 (.skip))))))
 (.region [I 59 (.bin .add) [T 38, N 1],
   I 38 (.mv) [T 59]])))
def c_daemon_Daemon_gather : AFn := ⟨60, [],
 .seq (.region [I 9 (.mv) [T 0],
   I 10 (.nilCheck) [T 9],
   I 11 (.fieldAddr 0) [T 10],
   I 12 (.load1) [T 11],
   I 13 (.callv) [F 9, T 12],
   I 2 (.mv) [T 13]])
 (.seq (.seq (.region [I 14 (.mv) [T 0],
   I 15 (.callv) [F 131, T 14],
   I 16 (.mv) [T 0],
   I 17 (.callv) [F 132, T 16],
   I 18 (.bslice 34 1 2 (.vals [.nilsl]) [0, 1]) [T 15, T 17],
   I 19 (.callv) [F 130, T 18],
   I 20 (.lens) [T 19],
   I 21 (.mv) [N 0]])
 (.block 0 (.loop c_daemon_Daemon_gather_L0)))
 (.seq (.region [I 36 (.mv) [T 2],
   I 37 (.lens) [T 36],
   I 38 (.mv) [N 0]])
 (.block 2 (.loop c_daemon_Daemon_gather_L1))))⟩
theorem t63 : trFn Tryz.prog Tryz.f63 = some c_daemon_Daemon_gather := by kernel_rfl
abbrev n_daemon_Daemon_look : Nat := 64
def c_daemon_Daemon_look : AFn := ⟨34, [.tmp 2, .tmp 3],
 .seq (.region [I 2 (.mv) [.lit (.bool false)],
   I 3 (.mv) [.lit (.bool false)]])
 (.seq (.region [I 8 (.mv) [T 0],
   I 9 (.nilCheck) [T 8],
   I 10 (.fieldAddr 1) [T 9],
   I 11 (.load1) [T 10],
   I 12 (.callv) [F 137, T 11, N 1],
   I 7 (.mv) [T 12],
   I 13 (.extract 0) [T 7],
   I 14 (.extract 1) [T 7],
   I 4 (.mv) [T 13],
   I 5 (.mv) [T 14]])
 (.seq (.region [I 15 (.mv) [T 0],
   I 16 (.mkfunc 138 1) [T 15],
   I 6 (.mv) [T 16]])
 (.seq (.seq (.region [I 17 (.mv) [T 5],
   I 18 (.un .not) [T 17]])
 (.cond (T 18)
 (.seq (.seq (.region [I 20 (.mv) [T 0],
    I 21 (.nilCheck) [T 20],
    I 22 (.fieldAddr 1) [T 21],
    I 23 (.load1) [T 22],
    I 24 (.callv) [F 137, T 23, N 0],
    I 19 (.mv) [T 24],
    I 25 (.extract 0) [T 19],
    I 26 (.extract 1) [T 19],
    I 4 (.mv) [T 25],
    I 5 (.mv) [T 26]])
  (.seq (.region [I 27 (.mv) [T 5],
    I 28 (.un .not) [T 27]])
  (.cond (T 28)
  (.seq (.region [I 2 (.mv) [.lit (.bool false)],
     I 3 (.mv) [.lit (.bool false)]])
   (.ret))
  (.skip))))
  (.region [I 29 (.mv) [T 0],
    I 30 (.mkfunc 139 1) [T 29],
    I 6 (.mv) [T 30]]))
 (.skip)))
 (.seq (.region [I 31 (.mv) [T 6],
   I 32 (.mv) [T 4],
   I 33 (.callv) [T 31, T 32],
   I 2 (.mv) [T 33],
   I 3 (.mv) [.lit (.bool true)]])
 (.ret)))))⟩
theorem t64 : trFn Tryz.prog Tryz.f64 = some c_daemon_Daemon_look := by kernel_rfl
abbrev n_kern_Kernel_Seen : Nat := 65
def c_kern_Kernel_Seen_A1 : ACode :=
 .seq (.region [I 10 (.mv) [T 35]])
 (.region [I 11 (.alloc 204 2 (.vals [(.int .i64 0), (.int .i64 0)])) [],
   J (.store 2) [T 11, T 36]])
def c_kern_Kernel_Seen_B1 : ACode :=
 .block 3 (.seq (.region [I 37 (.fieldAddr 1) [T 11],
   I 38 (.load1) [T 37],
   I 39 (.load1) [T 3],
   I 40 (.bin .eql) [T 38, T 39],
   I 41 (.mv) [T 40],
   IG 42 (.fieldAddr 0) [T 11] 41 true,
   IG 43 (.load1) [T 42] 41 true,
   IG 44 (.bin .and) [T 43, N 64] 41 true,
   IG 45 (.bin .gtr) [T 44, N 0] 41 true,
   I 46 (.pick) [T 41, T 45, .lit (.bool false)]])
 (.cond (T 46)
 (.region [I 47 (.load1) [T 9],
    I 48 (.mv) [T 10],
    I 49 (.bslice 3 1 1 (.vals [(.int .i64 0)]) [0]) [T 48],
    I 50 (.append 3 1 8 (.vals [(.int .i64 0)])) [T 47, T 49],
    J (.store 1) [T 9, T 50]])
 (.skip)))
def c_kern_Kernel_Seen_L2 : ACode :=
 .seq (.region [I 54 (.bin .lss) [T 53, T 52]])
 (.seq (.cond (T 54)
 (.skip)
 (.exit 4))
 (.seq (.block 5 (.seq (.region [I 55 (.indexs 1) [T 51, T 53],
   I 56 (.load1) [T 55],
   I 13 (.mv) [T 56]])
 (.seq (.region [I 5 (.mv) [.lit (.bool true)]])
 (.seq (.region [I 57 (.mv) [T 8],
   I 58 (.nilCheck) [T 57],
   I 59 (.fieldAddr 2) [T 58],
   I 60 (.load1) [T 59],
   I 61 (.mv) [T 13],
   I 62 (.callv) [F 142, T 60, T 61, N 64]])
 (.region [I 63 (.mv) [T 0],
   I 64 (.nilCheck) [T 63],
   I 65 (.fieldAddr 8) [T 64],
   I 66 (.load1) [T 65],
   I 67 (.mv) [T 7],
   I 68 (.mv) [T 13],
   I 69 (.build (.agg [(.int .i64 0), (.int .i64 0)]) [(0, 1), (1, 1)]) [T 67, T 68],
   I 70 (.callv) [F 143, T 66, T 69]])))))
 (.region [I 71 (.bin .add) [T 53, N 1],
   I 53 (.mv) [T 71]])))
def c_kern_Kernel_Seen_L0 : ACode :=
 .seq (.region [I 21 (.bin .lss) [T 20, T 19]])
 (.seq (.cond (T 21)
 (.skip)
 (.exit 0))
 (.seq (.block 1 (.seq (.region [I 22 (.indexs 1) [T 18, T 20],
   I 23 (.load1) [T 22],
   I 7 (.mv) [T 23]])
 (.seq (.region [I 24 (.mv) [T 0],
   I 25 (.nilCheck) [T 24],
   I 26 (.fieldAddr 9) [T 25],
   I 27 (.load1) [T 26],
   I 28 (.mv) [T 7],
   I 29 (.lookup (.scal .int) .nilptr false) [T 27, T 28],
   I 8 (.mv) [T 29]])
 (.seq (.region [I 9 (.alloc 34 1 (.vals [.nilsl])) []])
 (.seq (.seq (.region [I 30 (.mv) [T 8],
   I 31 (.nilCheck) [T 30],
   I 32 (.fieldAddr 2) [T 31],
   I 33 (.load1) [T 32],
   I 34 (.callv) [F 141, T 33]])
 (.block 2 (.rfun (T 34) [35, 36] c_kern_Kernel_Seen_A1 c_kern_Kernel_Seen_B1)))
 (.seq (.region [I 51 (.load1) [T 9],
   I 52 (.lens) [T 51],
   I 53 (.mv) [N 0]])
 (.block 4 (.loop c_kern_Kernel_Seen_L2))))))))
 (.region [I 72 (.bin .add) [T 20, N 1],
   I 20 (.mv) [T 72]])))
def c_kern_Kernel_Seen : AFn := ⟨74, [.tmp 4],
 .seq (.region [I 3 (.box 3 1) [T 1],
   I 4 (.mv) [.lit (.bool false)]])
 (.seq (.seq (.region [I 14 (.mv) [T 0],
   I 15 (.callv) [F 35, T 14],
   I 16 (.un .not) [T 15]])
 (.cond (T 16)
 (.seq (.region [I 4 (.mv) [.lit (.bool false)]])
  (.ret))
 (.skip)))
 (.seq (.region [I 5 (.mv) [.lit (.bool false)]])
 (.seq (.seq (.region [I 17 (.mv) [T 0],
   I 18 (.callv) [F 140, T 17],
   I 19 (.lens) [T 18],
   I 20 (.mv) [N 0]])
 (.block 0 (.loop c_kern_Kernel_Seen_L0)))
 (.seq (.region [I 73 (.mv) [T 5],
   I 4 (.mv) [T 73]])
 (.ret)))))⟩
theorem t65 : trFn Tryz.prog Tryz.f65 = some c_kern_Kernel_Seen := by kernel_rfl
abbrev n_slices_ContainsFunc_int_int : Nat := 67
def c_slices_ContainsFunc_int_int : AFn := ⟨9, [.tmp 4],
 .seq (.region [I 4 (.mv) [.lit (.bool false)]])
 (.seq (.region [I 5 (.mv) [T 0],
   I 6 (.mv) [T 1],
   I 7 (.callv) [F 144, T 5, T 6],
   I 8 (.bin .geq) [T 7, N 0],
   I 4 (.mv) [T 8]])
 (.ret))⟩
theorem t67 : trFn Tryz.prog Tryz.f67 = some c_slices_ContainsFunc_int_int := by kernel_rfl
abbrev n_file_Store_made : Nat := 68
def c_file_Store_made : AFn := ⟨11, [.tmp 2],
 .seq (.region [I 2 (.mv) [.lit (.bool false)]])
 (.seq (.region [I 3 (.mv) [T 0],
   I 4 (.eqv true .ptr) [T 3, .lit .nilptr],
   I 5 (.mv) [T 4],
   IG 6 (.mv) [T 0] 5 true,
   IG 7 (.nilCheck) [T 6] 5 true,
   IG 8 (.fieldAddr 0) [T 7] 5 true,
   IG 9 (.load1) [T 8] 5 true,
   I 10 (.pick) [T 5, T 9, .lit (.bool false)],
   I 2 (.mv) [T 10]])
 (.ret))⟩
theorem t68 : trFn Tryz.prog Tryz.f68 = some c_file_Store_made := by kernel_rfl
abbrev n_pmap_New : Nat := 69
def c_pmap_New : AFn := ⟨31, [.tmp 6, .tmp 7],
 .seq (.region [I 6 (.mv) [.lit .nilptr],
   I 7 (.mv) [N 0]])
 (.seq (.seq (.region [I 10 (.mv) [T 0],
   I 11 (.callv) [F 44, T 10],
   I 12 (.bin .eql) [T 11, N 0]])
 (.cond (T 12)
 (.seq (.region [I 6 (.mv) [.lit .nilptr],
    I 7 (.mv) [N 1]])
  (.ret))
 (.skip)))
 (.seq (.region [I 14 (.mv) [T 1],
   I 15 (.mv) [T 2],
   I 16 (.callv) [F 145, T 14, N 1, T 15, N 0],
   I 13 (.mv) [T 16],
   I 17 (.extract 0) [T 13],
   I 18 (.extract 1) [T 13],
   I 8 (.mv) [T 17],
   I 9 (.mv) [T 18]])
 (.seq (.seq (.region [I 19 (.mv) [T 9],
   I 20 (.bin .neq) [T 19, N 0]])
 (.cond (T 20)
 (.seq (.region [I 21 (.mv) [T 9],
    I 6 (.mv) [.lit .nilptr],
    I 7 (.mv) [T 21]])
  (.ret))
 (.skip)))
 (.seq (.region [I 22 (.mv) [T 0],
   I 23 (.mv) [T 8],
   I 24 (.callv) [F 146, T 22, T 23]])
 (.seq (.region [I 25 (.mv) [T 0],
   I 26 (.mv) [T 1],
   I 27 (.mv) [T 2],
   I 28 (.mv) [T 8],
   I 29 (.build (.agg [.nilptr, .nilptr, (.int .i64 0), (.int .i64 0), (.int .i64 0)]) [(0, 1), (1, 1), (2, 1), (3, 1), (4, 1)]) [T 25, T 26, T 27, T 28, N 1],
   I 30 (.box 210 5) [T 29],
   I 6 (.mv) [T 30],
   I 7 (.mv) [N 0]])
 (.ret))))))⟩
theorem t69 : trFn Tryz.prog Tryz.f69 = some c_pmap_New := by kernel_rfl
abbrev n_vmap_New : Nat := 70
def c_vmap_New : AFn := ⟨3, [.tmp 0],
 .seq (.region [I 0 (.mv) [.lit .nilptr]])
 (.seq (.region [I 1 (.build (.agg [.nilsl, (.bool false)]) [(1, 1)]) [.lit (.bool true)],
   I 2 (.box 190 2) [T 1],
   I 0 (.mv) [T 2]])
 (.ret))⟩
theorem t70 : trFn Tryz.prog Tryz.f70 = some c_vmap_New := by kernel_rfl
abbrev n_phys_Memory_Byte : Nat := 77
def c_phys_Memory_Byte : AFn := ⟨27, [.tmp 6, .tmp 7],
 .seq (.region [I 6 (.mv) [.lit (.int .u8 0)],
   I 7 (.mv) [.lit (.bool false)]])
 (.seq (.region [I 9 (.mv) [T 0],
   I 10 (.mv) [T 1],
   I 11 (.callv) [F 159, T 9, T 10],
   I 8 (.mv) [T 11]])
 (.seq (.seq (.region [I 12 (.mv) [T 8],
   I 13 (.eqv false .ptr) [T 12, .lit .nilptr],
   I 14 (.mv) [T 13],
   IG 15 (.mv) [T 2] 14 false,
   IG 16 (.bin .lss) [T 15, N 0] 14 false,
   I 17 (.pick) [T 14, .lit (.bool true), T 16],
   I 18 (.mv) [T 17],
   IG 19 (.mv) [T 2] 18 false,
   IG 20 (.bin .geq) [T 19, N 4096] 18 false,
   I 21 (.pick) [T 18, .lit (.bool true), T 20]])
 (.cond (T 21)
 (.seq (.region [I 6 (.mv) [.lit (.int .u8 0)],
    I 7 (.mv) [.lit (.bool false)]])
  (.ret))
 (.skip)))
 (.seq (.region [I 22 (.mv) [T 8],
   I 23 (.mv) [T 2],
   I 24 (.nilCheck) [T 22],
   I 25 (.indexa 4096 1) [T 24, T 23],
   I 26 (.load1) [T 25],
   I 6 (.mv) [T 26],
   I 7 (.mv) [.lit (.bool true)]])
 (.ret))))⟩
theorem t77 : trFn Tryz.prog Tryz.f77 = some c_phys_Memory_Byte := by kernel_rfl
abbrev n_phys_Memory_SetByte : Nat := 79
def c_phys_Memory_SetByte : AFn := ⟨28, [.tmp 8],
 .seq (.region [I 8 (.mv) [.lit (.bool false)]])
 (.seq (.region [I 10 (.mv) [T 0],
   I 11 (.mv) [T 1],
   I 12 (.callv) [F 159, T 10, T 11],
   I 9 (.mv) [T 12]])
 (.seq (.seq (.region [I 13 (.mv) [T 9],
   I 14 (.eqv false .ptr) [T 13, .lit .nilptr],
   I 15 (.mv) [T 14],
   IG 16 (.mv) [T 2] 15 false,
   IG 17 (.bin .lss) [T 16, N 0] 15 false,
   I 18 (.pick) [T 15, .lit (.bool true), T 17],
   I 19 (.mv) [T 18],
   IG 20 (.mv) [T 2] 19 false,
   IG 21 (.bin .geq) [T 20, N 4096] 19 false,
   I 22 (.pick) [T 19, .lit (.bool true), T 21]])
 (.cond (T 22)
 (.seq (.region [I 8 (.mv) [.lit (.bool false)]])
  (.ret))
 (.skip)))
 (.seq (.region [I 23 (.mv) [T 9],
   I 24 (.mv) [T 2],
   I 25 (.mv) [T 3],
   I 26 (.nilCheck) [T 23],
   I 27 (.indexa 4096 1) [T 26, T 24],
   J (.store 1) [T 27, T 25]])
 (.seq (.region [I 8 (.mv) [.lit (.bool true)]])
 (.ret)))))⟩
theorem t79 : trFn Tryz.prog Tryz.f79 = some c_phys_Memory_SetByte := by kernel_rfl
abbrev n_vmap_Map_Map : Nat := 80
def c_vmap_Map_Map : AFn := ⟨100, [.tmp 8, .tmp 9, .tmp 10],
 .seq (.region [I 6 (.box 94 10) [T 2],
   I 8 (.mv) [N 0],
   I 9 (.mv) [.lit .nilsl],
   I 10 (.mv) [N 0]])
 (.seq (.seq (.region [I 16 (.mv) [T 0],
   I 17 (.callv) [F 122, T 16],
   I 18 (.un .not) [T 17]])
 (.cond (T 18)
 (.seq (.region [I 8 (.mv) [N 0],
    I 9 (.mv) [.lit .nilsl],
    I 10 (.mv) [N 1]])
  (.ret))
 (.skip)))
 (.seq (.seq (.region [I 19 (.fieldAddr 0) [T 6],
   I 20 (.load1) [T 19],
   I 21 (.bin .lss) [T 20, N 0],
   I 22 (.mv) [T 21],
   IG 23 (.fieldAddr 1) [T 6] 22 false,
   IG 24 (.load1) [T 23] 22 false,
   IG 25 (.fieldAddr 0) [T 6] 22 false,
   IG 26 (.load1) [T 25] 22 false,
   IG 27 (.bin .leq) [T 24, T 26] 22 false,
   I 28 (.pick) [T 22, .lit (.bool true), T 27],
   I 29 (.mv) [T 28],
   IG 30 (.fieldAddr 1) [T 6] 29 false,
   IG 31 (.load1) [T 30] 29 false,
   IG 32 (.fieldAddr 0) [T 6] 29 false,
   IG 33 (.load1) [T 32] 29 false,
   IG 34 (.bin .sub) [T 31, T 33] 29 false,
   IG 35 (.bin .gtr) [T 34, N 4096] 29 false,
   I 36 (.pick) [T 29, .lit (.bool true), T 35]])
 (.cond (T 36)
 (.seq (.region [I 8 (.mv) [N 0],
    I 9 (.mv) [.lit .nilsl],
    I 10 (.mv) [N 2]])
  (.ret))
 (.skip)))
 (.seq (.region [I 37 (.fieldAddr 1) [T 6],
   I 38 (.load1) [T 37],
   I 39 (.fieldAddr 0) [T 6],
   I 40 (.load1) [T 39],
   I 41 (.bin .sub) [T 38, T 40],
   I 11 (.mv) [T 41]])
 (.seq (.region [I 42 (.mv) [T 11],
   I 43 (.fieldAddr 0) [T 6],
   J (.store 1) [T 43, N 0],
   I 44 (.fieldAddr 1) [T 6],
   J (.store 1) [T 44, T 42]])
 (.seq (.seq (.region [I 45 (.loadn 10) [T 6],
   I 46 (.callv) [F 161, T 45],
   I 47 (.un .not) [T 46],
   I 48 (.mv) [T 47],
   IG 49 (.mv) [T 3] 48 false,
   IG 50 (.mv) [T 49] 48 false,
   IG 51 (.mv) [T 1] 50 true,
   IG 52 (.mv) [T 11] 50 true,
   IG 53 (.callv) [F 162, T 51, T 52] 50 true,
   IG 54 (.un .not) [T 53] 50 true,
   IG 55 (.pick) [T 50, T 54, .lit (.bool false)] 48 false,
   I 56 (.pick) [T 48, .lit (.bool true), T 55]])
 (.cond (T 56)
 (.seq (.region [I 8 (.mv) [N 0],
    I 9 (.mv) [.lit .nilsl],
    I 10 (.mv) [N 2]])
  (.ret))
 (.skip)))
 (.seq (.region [I 12 (.mv) [.lit .nilsl]])
 (.seq (.region [I 57 (.mv) [T 0],
   I 58 (.nilCheck) [T 57],
   I 59 (.fieldAddr 0) [T 58],
   I 60 (.load1) [T 59],
   I 13 (.mv) [T 60]])
 (.seq (.seq (.region [I 61 (.mv) [T 3]])
 (.cond (T 61)
 (.region [I 63 (.mv) [T 13],
    I 64 (.mv) [T 1],
    I 65 (.mv) [T 1],
    I 66 (.mv) [T 11],
    I 67 (.bin .add) [T 65, T 66],
    I 68 (.callv) [F 163, T 63, T 64, T 67],
    I 62 (.mv) [T 68],
    I 69 (.extract 0) [T 62],
    I 70 (.extract 1) [T 62],
    I 13 (.mv) [T 69],
    I 12 (.mv) [T 70]])
 (.seq (.region [I 72 (.mv) [T 13],
    I 73 (.mv) [T 1],
    I 74 (.mv) [T 11],
    I 75 (.callv) [F 164, T 72, T 73, T 74],
    I 71 (.mv) [T 75],
    I 76 (.extract 0) [T 71],
    I 77 (.extract 1) [T 71],
    I 14 (.mv) [T 76],
    I 15 (.mv) [T 77]])
  (.seq (.seq (.region [I 78 (.mv) [T 15],
    I 79 (.un .not) [T 78]])
  (.cond (T 79)
  (.seq (.region [I 8 (.mv) [N 0],
     I 9 (.mv) [.lit .nilsl],
     I 10 (.mv) [N 5]])
   (.ret))
  (.skip)))
  (.region [I 80 (.mv) [T 14],
    I 1 (.mv) [T 80]])))))
 (.seq (.region [I 81 (.mv) [T 1],
   I 82 (.mv) [T 1],
   I 83 (.mv) [T 11],
   I 84 (.bin .add) [T 82, T 83],
   I 85 (.fieldAddr 0) [T 6],
   J (.store 1) [T 85, T 81],
   I 86 (.fieldAddr 1) [T 6],
   J (.store 1) [T 86, T 84]])
 (.seq (.region [I 88 (.mv) [T 13],
   I 89 (.loadn 10) [T 6],
   I 90 (.callv) [F 165, T 88, T 89],
   I 87 (.mv) [T 90],
   I 91 (.extract 0) [T 87],
   I 92 (.extract 1) [T 87],
   I 13 (.mv) [T 91]])
 (.seq (.region [I 93 (.mv) [T 0],
   I 94 (.mv) [T 13],
   I 95 (.callv) [F 166, T 94],
   I 96 (.nilCheck) [T 93],
   I 97 (.fieldAddr 0) [T 96],
   J (.store 1) [T 97, T 95]])
 (.seq (.region [I 98 (.mv) [T 1],
   I 99 (.mv) [T 12],
   I 8 (.mv) [T 98],
   I 9 (.mv) [T 99],
   I 10 (.mv) [N 0]])
 (.ret)))))))))))))⟩
theorem t80 : trFn Tryz.prog Tryz.f80 = some c_vmap_Map_Map := by kernel_rfl
abbrev n_kern_Kernel_reap : Nat := 82
def c_kern_Kernel_reap_L1 : ACode :=
 .seq (.region [I 27 (.bin .lss) [T 26, T 25]])
 (.seq (.cond (T 27)
 (.skip)
 (.exit 2))
 (.seq (.block 3 (.seq (.region [I 28 (.indexs 10) [T 24, T 26],
   I 29 (.loadn 10) [T 28],
   I 6 (.alloc 94 10 (.vals [(.int .i64 0), (.int .i64 0), (.int .i64 0), (.int .i64 0), (.bool false), (.int .i64 0), (.int .i64 0), (.int .i64 0), (.int .i64 0), (.bool false)])) [],
   J (.store 10) [T 6, T 29]])
 (.region [I 30 (.mv) [T 2],
   I 31 (.fieldAddr 2) [T 6],
   I 32 (.load1) [T 31],
   J (.mapput (.scal .int)) [T 30, T 32, .lit (.bool true)]])))
 (.region [I 33 (.bin .add) [T 26, N 1],
   I 26 (.mv) [T 33]])))
def c_kern_Kernel_reap_L0 : ACode :=
 .seq (.region [I 16 (.next) [T 15],
   I 17 (.extract 0) [T 16]])
 (.seq (.cond (T 17)
 (.skip)
 (.exit 0))
 (.block 1 (.seq (.region [I 18 (.entry) [T 15],
   I 19 (.extract 1) [T 18],
   I 4 (.mv) [T 19]])
 (.seq (.region [I 20 (.mv) [T 4],
   I 21 (.nilCheck) [T 20],
   I 22 (.fieldAddr 1) [T 21],
   I 23 (.load1) [T 22],
   I 24 (.callv) [F 86, T 23],
   I 25 (.lens) [T 24],
   I 26 (.mv) [N 0]])
 (.block 2 (.loop c_kern_Kernel_reap_L1))))))
def c_kern_Kernel_reap_L2 : ACode :=
 .seq (.region [I 41 (.bin .lss) [T 40, T 39]])
 (.seq (.cond (T 41)
 (.skip)
 (.exit 4))
 (.seq (.block 5 (.seq (.region [I 42 (.indexs 1) [T 38, T 40],
   I 43 (.load1) [T 42],
   I 8 (.mv) [T 43]])
 (.seq (.region [I 44 (.mv) [T 0],
   I 45 (.nilCheck) [T 44],
   I 46 (.fieldAddr 7) [T 45],
   I 47 (.load1) [T 46],
   I 48 (.mv) [T 8],
   I 49 (.callv) [F 105, T 47, T 48],
   I 9 (.mv) [T 49]])
 (.seq (.region [I 50 (.mv) [T 9],
   I 51 (.bin .gtr) [T 50, N 1000],
   I 52 (.mv) [T 51],
   IG 53 (.mv) [T 2] 52 true,
   IG 54 (.mv) [T 9] 52 true,
   IG 55 (.lookup (.scal .int) (.bool false) false) [T 53, T 54] 52 true,
   IG 56 (.un .not) [T 55] 52 true,
   I 57 (.pick) [T 52, T 56, .lit (.bool false)]])
 (.cond (T 57)
 (.region [I 58 (.mv) [T 0],
    I 59 (.mv) [T 8],
    I 60 (.callv) [F 75, T 58, T 59, N 0]])
 (.skip))))))
 (.region [I 61 (.bin .add) [T 40, N 1],
   I 40 (.mv) [T 61]])))
def c_kern_Kernel_reap : AFn := ⟨62, [],
 .seq (.region [I 10 (.mkmap) [],
   I 2 (.mv) [T 10]])
 (.seq (.seq (.region [I 11 (.mv) [T 0],
   I 12 (.nilCheck) [T 11],
   I 13 (.fieldAddr 9) [T 12],
   I 14 (.load1) [T 13],
   I 15 (.range) [T 14]])
 (.block 0 (.loop c_kern_Kernel_reap_L0)))
 (.seq (.region [I 34 (.mv) [T 0],
   I 35 (.nilCheck) [T 34],
   I 36 (.fieldAddr 7) [T 35],
   I 37 (.load1) [T 36],
   I 38 (.callv) [F 151, T 37],
   I 39 (.lens) [T 38],
   I 40 (.mv) [N 0]])
 (.block 4 (.loop c_kern_Kernel_reap_L2))))⟩
theorem t82 : trFn Tryz.prog Tryz.f82 = some c_kern_Kernel_reap := by kernel_rfl
abbrev n_kern_Kernel_allowed : Nat := 83
def c_kern_Kernel_allowed : AFn := ⟨61, [.tmp 10],
 .seq (.region [I 10 (.mv) [N 0]])
 (.seq (.region [I 14 (.mv) [T 1],
   I 15 (.nilCheck) [T 14],
   I 16 (.fieldAddr 1) [T 15],
   I 17 (.load1) [T 16],
   I 18 (.mv) [T 2],
   I 19 (.callv) [F 55, T 17, T 18],
   I 13 (.mv) [T 19],
   I 20 (.extract 0) [T 13],
   I 21 (.extract 1) [T 13],
   I 11 (.alloc 94 10 (.vals [(.int .i64 0), (.int .i64 0), (.int .i64 0), (.int .i64 0), (.bool false), (.int .i64 0), (.int .i64 0), (.int .i64 0), (.int .i64 0), (.bool false)])) [],
   J (.store 10) [T 11, T 20],
   I 12 (.mv) [T 21]])
 (.seq (.block 0 (.seq (.region [I 23 (.mv) [T 3],
   I 24 (.bin .lss) [T 23, N 0],
   I 25 (.mv) [T 24],
   IG 26 (.mv) [T 3] 25 false,
   IG 27 (.bin .geq) [T 26, N 4096] 25 false,
   I 28 (.pick) [T 25, .lit (.bool true), T 27],
   I 22 (.mv) [T 28]])
 (.cond (T 22)
 (.seq (.region [I 10 (.mv) [N 2]])
  (.ret))
 (.seq (.region [I 30 (.mv) [T 12],
    I 31 (.un .not) [T 30],
    I 29 (.mv) [T 31]])
  (.cond (T 29)
  (.seq (.region [I 10 (.mv) [N 4]])
   (.ret))
  (.seq (.region [I 33 (.fieldAddr 5) [T 11],
     I 34 (.load1) [T 33],
     I 35 (.mv) [T 4],
     I 36 (.bin .and) [T 34, T 35],
     I 37 (.bin .eql) [T 36, N 0],
     I 32 (.mv) [T 37]])
   (.cond (T 32)
   (.seq (.region [I 10 (.mv) [N 3]])
    (.ret))
   (.seq (.region [I 39 (.fieldAddr 4) [T 11],
      I 40 (.load1) [T 39],
      I 41 (.mv) [T 40],
      IG 42 (.mv) [T 0] 41 false,
      IG 43 (.mv) [T 1] 41 false,
      IG 44 (.mv) [T 2] 41 false,
      IG 45 (.callv) [F 57, T 42, T 43, T 44] 41 false,
      IG 46 (.bin .eql) [T 45, N 0] 41 false,
      I 47 (.pick) [T 41, .lit (.bool true), T 46],
      I 48 (.mv) [T 47],
      IG 49 (.mv) [T 0] 48 true,
      IG 50 (.fieldAddr 2) [T 11] 48 true,
      IG 51 (.load1) [T 50] 48 true,
      IG 52 (.fieldAddr 3) [T 11] 48 true,
      IG 53 (.load1) [T 52] 48 true,
      IG 54 (.mv) [T 2] 48 true,
      IG 55 (.bin .add) [T 53, T 54] 48 true,
      IG 56 (.fieldAddr 0) [T 11] 48 true,
      IG 57 (.load1) [T 56] 48 true,
      IG 58 (.bin .sub) [T 55, T 57] 48 true,
      IG 59 (.callv) [F 59, T 49, T 51, T 58] 48 true,
      I 60 (.pick) [T 48, T 59, .lit (.bool false)],
      I 38 (.mv) [T 60]])
    (.cond (T 38)
    (.seq (.region [I 10 (.mv) [N 4]])
     (.ret))
    (.skip))))))))))
 (.seq (.region [I 10 (.mv) [N 0]])
 (.ret))))⟩
theorem t83 : trFn Tryz.prog Tryz.f83 = some c_kern_Kernel_allowed := by kernel_rfl
abbrev n_kern_Kernel_find : Nat := 84
def c_kern_Kernel_find_L0 : ACode :=
 .seq (.region [I 14 (.bin .lss) [T 13, N 3]])
 (.seq (.cond (T 14)
 (.skip)
 (.exit 0))
 (.seq (.block 1 (.seq (.seq (.region [I 16 (.mv) [T 0],
   I 17 (.mv) [T 1],
   I 18 (.mv) [T 2],
   I 19 (.mv) [T 3],
   I 20 (.callv) [F 170, T 16, T 17, T 18, T 19],
   I 15 (.mv) [T 20],
   I 21 (.extract 0) [T 15],
   I 22 (.extract 1) [T 15],
   I 10 (.mv) [T 21],
   I 11 (.mv) [T 22]])
 (.seq (.region [I 23 (.mv) [T 11]])
 (.cond (T 23)
 (.seq (.region [I 24 (.mv) [T 10],
    I 8 (.mv) [T 24],
    I 9 (.mv) [N 0]])
  (.ret))
 (.skip))))
 (.seq (.region [I 25 (.mv) [T 0],
   I 26 (.mv) [T 1],
   I 27 (.mv) [T 2],
   I 28 (.mv) [T 3],
   I 29 (.bin .eql) [T 28, N 2],
   I 30 (.callv) [F 171, T 25, T 26, T 27, T 29],
   I 12 (.mv) [T 30]])
 (.seq (.region [I 31 (.mv) [T 12],
   I 32 (.bin .neq) [T 31, N 0]])
 (.cond (T 32)
 (.seq (.region [I 33 (.mv) [T 12],
    I 8 (.mv) [N (-1)],
    I 9 (.mv) [T 33]])
  (.ret))
 (.skip))))))
 (.region [I 34 (.bin .add) [T 13, N 1],
   I 13 (.mv) [T 34]])))
def c_kern_Kernel_find : AFn := ⟨35, [.tmp 8, .tmp 9],
 .seq (.region [I 8 (.mv) [N 0],
   I 9 (.mv) [N 0]])
 (.seq (.seq (.region [I 13 (.mv) [N 0]])
 (.block 0 (.loop c_kern_Kernel_find_L0)))
 (.seq (.region [I 8 (.mv) [N (-1)],
   I 9 (.mv) [N 4]])
 (.ret)))⟩
theorem t84 : trFn Tryz.prog Tryz.f84 = some c_kern_Kernel_find := by kernel_rfl
abbrev n_vmap_Map_Entries : Nat := 86
def c_vmap_Map_Entries : AFn := ⟨11, [.tmp 2],
 .seq (.region [I 2 (.mv) [.lit .nilsl]])
 (.seq (.seq (.region [I 3 (.mv) [T 0],
   I 4 (.callv) [F 122, T 3],
   I 5 (.un .not) [T 4]])
 (.cond (T 5)
 (.seq (.region [I 2 (.mv) [.lit .nilsl]])
  (.ret))
 (.skip)))
 (.seq (.region [I 6 (.mv) [T 0],
   I 7 (.nilCheck) [T 6],
   I 8 (.fieldAddr 0) [T 7],
   I 9 (.load1) [T 8],
   I 10 (.callv) [F 172, T 9],
   I 2 (.mv) [T 10]])
 (.ret)))⟩
theorem t86 : trFn Tryz.prog Tryz.f86 = some c_vmap_Map_Entries := by kernel_rfl
abbrev n_amap_Pool_Make : Nat := 93
def c_amap_Pool_Make : AFn := ⟨79, [.tmp 4, .tmp 5],
 .seq (.region [I 4 (.mv) [N 0],
   I 5 (.mv) [N 0]])
 (.seq (.block 0 (.seq (.region [I 9 (.mv) [T 0],
   I 10 (.callv) [F 184, T 9],
   I 11 (.un .not) [T 10],
   I 8 (.mv) [T 11]])
 (.cond (T 8)
 (.seq (.region [I 4 (.mv) [N 0],
    I 5 (.mv) [N 1]])
  (.ret))
 (.seq (.region [I 13 (.mv) [T 1],
    I 14 (.bin .lss) [T 13, N 1],
    I 15 (.mv) [T 14],
    IG 16 (.mv) [T 1] 15 false,
    IG 17 (.bin .gtr) [T 16, N 4096] 15 false,
    I 18 (.pick) [T 15, .lit (.bool true), T 17],
    I 12 (.mv) [T 18]])
  (.cond (T 12)
  (.seq (.region [I 4 (.mv) [N 0],
     I 5 (.mv) [N 2]])
   (.ret))
  (.seq (.draw [[⟨0, I 20 (.mv) [T 0], [], false⟩,
     ⟨1, I 21 (.nilCheck) [T 20], [], false⟩,
     ⟨2, I 22 (.fieldAddr 3) [T 21], [], false⟩,
     ⟨3, I 23 (.load1) [T 22], [], false⟩,
     ⟨4, I 24 (.mv) [T 0], [], false⟩,
     ⟨5, I 25 (.nilCheck) [T 24], [], false⟩,
     ⟨6, I 26 (.fieldAddr 0) [T 25], [], false⟩,
     ⟨7, I 27 (.load1) [T 26], [], false⟩,
     ⟨8, I 28 (.bin .geq) [T 23, T 27], [], false⟩,
     ⟨9, I 19 (.mv) [T 28], [], false⟩]])
   (.cond (T 19)
   (.seq (.region [I 4 (.mv) [N 0],
      I 5 (.mv) [N 5]])
    (.ret))
   (.skip))))))))
 (.seq (.draw [[⟨0, I 29 (.mv) [T 1], [], false⟩,
   ⟨2, I 31 (.mv) [T 1], [], false⟩,
   ⟨1, I 30 (.callv) [F 185, T 29], [], false⟩,
   ⟨3, I 32 (.mkslice 3 1 8 (.vals [(.int .i64 0)])) [T 31, T 31], [], false⟩,
   ⟨4, I 33 (.build (.agg [.nilptr, .nilsl]) [(0, 1), (1, 1)]) [T 30, T 32], [], false⟩,
   ⟨5, I 34 (.box 250 2) [T 33], [], false⟩,
   ⟨6, I 6 (.mv) [T 34], [], false⟩],
[⟨0, I 29 (.mv) [T 1], [], false⟩,
   ⟨2, I 31 (.mv) [T 1], [], false⟩,
   ⟨3, I 32 (.mkslice 3 1 8 (.vals [(.int .i64 0)])) [T 31, T 31], [], false⟩,
   ⟨1, I 30 (.callv) [F 185, T 29], [], false⟩,
   ⟨4, I 33 (.build (.agg [.nilptr, .nilsl]) [(0, 1), (1, 1)]) [T 30, T 32], [], false⟩,
   ⟨5, I 34 (.box 250 2) [T 33], [], false⟩,
   ⟨6, I 6 (.mv) [T 34], [], false⟩]])
 (.seq (.region [I 35 (.mv) [T 6],
   I 36 (.nilCheck) [T 35],
   I 37 (.fieldAddr 0) [T 36],
   I 38 (.load1) [T 37],
   I 39 (.mv) [T 1],
   I 40 (.callv) [F 186, T 38, N 0, T 39, N 1]])
 (.seq (.region [I 41 (.mv) [T 0],
   I 42 (.nilCheck) [T 41],
   I 43 (.fieldAddr 3) [T 42],
   I 44 (.load1) [T 43],
   I 45 (.bin .add) [T 44, N 1],
   I 46 (.nilCheck) [T 41],
   I 47 (.fieldAddr 3) [T 46],
   J (.store 1) [T 47, T 45]])
 (.seq (.seq (.region [I 48 (.mv) [T 0],
   I 49 (.nilCheck) [T 48],
   I 50 (.fieldAddr 2) [T 49],
   I 51 (.load1) [T 50],
   I 52 (.callv) [F 187, T 51, .lit .nilptr],
   I 7 (.mv) [T 52]])
 (.seq (.region [I 53 (.mv) [T 7],
   I 54 (.bin .geq) [T 53, N 0]])
 (.cond (T 54)
 (.seq (.region [I 55 (.mv) [T 0],
    I 56 (.nilCheck) [T 55],
    I 57 (.fieldAddr 2) [T 56],
    I 58 (.load1) [T 57],
    I 59 (.mv) [T 7],
    I 60 (.mv) [T 6],
    I 61 (.indexs 1) [T 58, T 59],
    J (.store 1) [T 61, T 60]])
  (.seq (.region [I 62 (.mv) [T 7],
    I 63 (.bin .add) [T 62, N 1],
    I 4 (.mv) [T 63],
    I 5 (.mv) [N 0]])
  (.ret)))
 (.skip))))
 (.seq (.region [I 64 (.mv) [T 0],
   I 65 (.mv) [T 0],
   I 66 (.nilCheck) [T 65],
   I 67 (.fieldAddr 2) [T 66],
   I 68 (.load1) [T 67],
   I 69 (.mv) [T 6],
   I 70 (.bslice 246 1 1 (.vals [.nilptr]) [0]) [T 69],
   I 71 (.append 246 1 8 (.vals [.nilptr])) [T 68, T 70],
   I 72 (.nilCheck) [T 64],
   I 73 (.fieldAddr 2) [T 72],
   J (.store 1) [T 73, T 71]])
 (.seq (.region [I 74 (.mv) [T 0],
   I 75 (.nilCheck) [T 74],
   I 76 (.fieldAddr 2) [T 75],
   I 77 (.load1) [T 76],
   I 78 (.lens) [T 77],
   I 4 (.mv) [T 78],
   I 5 (.mv) [N 0]])
 (.ret))))))))⟩
theorem t93 : trFn Tryz.prog Tryz.f93 = some c_amap_Pool_Make := by kernel_rfl
abbrev n_kern_proc_insert : Nat := 96
def c_kern_proc_insert : AFn := ⟨29, [],
 .seq (.region [I 3 (.box 168 6) [T 1]])
 (.seq (.region [I 5 (.mv) [T 0],
   I 6 (.nilCheck) [T 5],
   I 7 (.fieldAddr 3) [T 6],
   I 8 (.load1) [T 7],
   I 9 (.mkfunc 195 0) [T 3],
   I 10 (.callv) [F 194, T 8, T 9],
   I 4 (.mv) [T 10]])
 (.seq (.seq (.region [I 11 (.mv) [T 4],
   I 12 (.bin .lss) [T 11, N 0]])
 (.cond (T 12)
 (.region [I 13 (.mv) [T 0],
    I 14 (.nilCheck) [T 13],
    I 15 (.fieldAddr 3) [T 14],
    I 16 (.load1) [T 15],
    I 17 (.lens) [T 16],
    I 4 (.mv) [T 17]])
 (.skip)))
 (.draw [[⟨0, I 18 (.mv) [T 0], [], false⟩,
   ⟨1, I 19 (.mv) [T 0], [], false⟩,
   ⟨2, I 20 (.nilCheck) [T 19], [], false⟩,
   ⟨3, I 21 (.fieldAddr 3) [T 20], [], false⟩,
   ⟨4, I 22 (.load1) [T 21], [], false⟩,
   ⟨5, I 23 (.mv) [T 4], [], false⟩,
   ⟨6, I 24 (.loadn 6) [T 3], [], false⟩,
   ⟨7, I 25 (.bslice 168 6 1 (.vals [(.int .i64 0), (.int .i64 0), (.int .i64 0), (.int .i64 0), (.bool false), (.bool false)]) [0]) [T 24], [(4, I 22 (.load1) [T 21])], false⟩,
   ⟨8, I 26 (.callv) [F 196, T 22, T 23, T 25], [], false⟩,
   ⟨9, I 27 (.nilCheck) [T 18], [], false⟩,
   ⟨10, I 28 (.fieldAddr 3) [T 27], [], false⟩,
   ⟨11, J (.store 1) [T 28, T 26], [], false⟩]])))⟩
theorem t96 : trFn Tryz.prog Tryz.f96 = some c_kern_proc_insert := by kernel_rfl
abbrev n_frames_Pool_made : Nat := 103
def c_frames_Pool_made : AFn := ⟨13, [.tmp 2],
 .seq (.region [I 2 (.mv) [.lit (.bool false)]])
 (.seq (.region [I 3 (.mv) [T 0],
   I 4 (.eqv true .ptr) [T 3, .lit .nilptr],
   I 5 (.mv) [T 4],
   IG 6 (.mv) [T 0] 5 true,
   IG 7 (.nilCheck) [T 6] 5 true,
   IG 8 (.fieldAddr 0) [T 7] 5 true,
   IG 9 (.load1) [T 8] 5 true,
   IG 10 (.lens) [T 9] 5 true,
   IG 11 (.bin .gtr) [T 10, N 0] 5 true,
   I 12 (.pick) [T 5, T 11, .lit (.bool false)],
   I 2 (.mv) [T 12]])
 (.ret))⟩
theorem t103 : trFn Tryz.prog Tryz.f103 = some c_frames_Pool_made := by kernel_rfl
abbrev n_kern_Kernel_wired : Nat := 104
def c_kern_Kernel_wired_L2 : ACode :=
 .seq (.seq (.region [I 31 (.fieldAddr 9) [T 8],
   I 32 (.load1) [T 31],
   I 33 (.mv) [T 32],
   IG 34 (.mv) [T 9] 33 true,
   IG 35 (.fieldAddr 1) [T 8] 33 true,
   IG 36 (.load1) [T 35] 33 true,
   IG 37 (.bin .lss) [T 34, T 36] 33 true,
   I 38 (.pick) [T 33, T 37, .lit (.bool false)]])
 (.cond (T 38)
 (.skip)
 (.exit 4)))
 (.seq (.block 5 (.seq (.region [I 41 (.mv) [T 0],
   I 42 (.mv) [T 6],
   I 43 (.loadn 10) [T 8],
   I 44 (.mv) [T 9],
   I 45 (.loadn 5) [T 3],
   I 46 (.callv) [F 207, T 41, T 42, T 43, T 44, T 45]])
 (.cond (T 46)
 (.seq (.region [I 4 (.mv) [.lit (.bool true)]])
  (.ret))
 (.skip))))
 (.region [I 39 (.mv) [T 9],
   I 40 (.bin .add) [T 39, N 1],
   I 9 (.mv) [T 40]]))
def c_kern_Kernel_wired_L1 : ACode :=
 .seq (.region [I 26 (.bin .lss) [T 25, T 24]])
 (.seq (.cond (T 26)
 (.skip)
 (.exit 2))
 (.seq (.block 3 (.seq (.region [I 27 (.indexs 10) [T 23, T 25],
   I 28 (.loadn 10) [T 27],
   I 8 (.alloc 94 10 (.vals [(.int .i64 0), (.int .i64 0), (.int .i64 0), (.int .i64 0), (.bool false), (.int .i64 0), (.int .i64 0), (.int .i64 0), (.int .i64 0), (.bool false)])) [],
   J (.store 10) [T 8, T 28]])
 (.seq (.region [I 29 (.fieldAddr 0) [T 8],
   I 30 (.load1) [T 29],
   I 9 (.mv) [T 30]])
 (.block 4 (.loop c_kern_Kernel_wired_L2)))))
 (.region [I 47 (.bin .add) [T 25, N 1],
   I 25 (.mv) [T 47]])))
def c_kern_Kernel_wired_L0 : ACode :=
 .seq (.region [I 15 (.next) [T 14],
   I 16 (.extract 0) [T 15]])
 (.seq (.cond (T 16)
 (.skip)
 (.exit 0))
 (.block 1 (.seq (.region [I 17 (.entry) [T 14],
   I 18 (.extract 1) [T 17],
   I 6 (.mv) [T 18]])
 (.seq (.region [I 19 (.mv) [T 6],
   I 20 (.nilCheck) [T 19],
   I 21 (.fieldAddr 1) [T 20],
   I 22 (.load1) [T 21],
   I 23 (.callv) [F 86, T 22],
   I 24 (.lens) [T 23],
   I 25 (.mv) [N 0]])
 (.block 2 (.loop c_kern_Kernel_wired_L1))))))
def c_kern_Kernel_wired : AFn := ⟨48, [.tmp 4],
 .seq (.region [I 3 (.box 80 5) [T 1],
   I 4 (.mv) [.lit (.bool false)]])
 (.seq (.seq (.region [I 10 (.mv) [T 0],
   I 11 (.nilCheck) [T 10],
   I 12 (.fieldAddr 9) [T 11],
   I 13 (.load1) [T 12],
   I 14 (.range) [T 13]])
 (.block 0 (.loop c_kern_Kernel_wired_L0)))
 (.seq (.region [I 4 (.mv) [.lit (.bool false)]])
 (.ret)))⟩
theorem t104 : trFn Tryz.prog Tryz.f104 = some c_kern_Kernel_wired := by kernel_rfl
abbrev n_phys_Memory_Page : Nat := 108
def c_phys_Memory_Page : AFn := ⟨15, [.tmp 4],
 .seq (.region [I 4 (.mv) [.lit .nilsl]])
 (.seq (.region [I 6 (.mv) [T 0],
   I 7 (.mv) [T 1],
   I 8 (.callv) [F 159, T 6, T 7],
   I 5 (.mv) [T 8]])
 (.seq (.seq (.region [I 9 (.mv) [T 5],
   I 10 (.eqv false .ptr) [T 9, .lit .nilptr]])
 (.cond (T 10)
 (.seq (.region [I 4 (.mv) [.lit .nilsl]])
  (.ret))
 (.skip)))
 (.seq (.region [I 11 (.mv) [T 5],
   I 12 (.nilCheck) [T 11],
   I 13 (.slicea 4096 1 false false false) [T 12],
   I 14 (.append 5 1 1 (.bytes 1 0)) [.lit .nilsl, T 13],
   I 4 (.mv) [T 14]])
 (.ret))))⟩
theorem t108 : trFn Tryz.prog Tryz.f108 = some c_phys_Memory_Page := by kernel_rfl
abbrev n_kern_Kernel_leave : Nat := 109
def c_kern_Kernel_leave : AFn := ⟨33, [],
 .seq (.region [I 6 (.mv) [T 0],
   I 7 (.mv) [T 1],
   I 8 (.callv) [F 116, T 6, T 7]])
 (.seq (.region [I 10 (.mv) [T 0],
   I 11 (.nilCheck) [T 10],
   I 12 (.fieldAddr 1) [T 11],
   I 13 (.load1) [T 12],
   I 14 (.mv) [T 1],
   I 15 (.callv) [F 45, T 13, T 14],
   I 9 (.mv) [T 15],
   I 16 (.extract 0) [T 9],
   I 17 (.extract 1) [T 9],
   I 4 (.alloc 80 5 (.vals [(.int .i64 0), (.int .i64 0), (.int .i64 0), (.int .i64 0), (.int .i64 0)])) [],
   J (.store 5) [T 4, T 16],
   I 5 (.mv) [T 17]])
 (.seq (.region [I 18 (.fieldAddr 4) [T 4],
   I 19 (.load1) [T 18],
   I 20 (.bin .gtr) [T 19, N 0]])
 (.cond (T 20)
 (.region [I 21 (.mv) [T 0],
    I 22 (.nilCheck) [T 21],
    I 23 (.fieldAddr 1) [T 22],
    I 24 (.load1) [T 23],
    I 25 (.mv) [T 1],
    I 26 (.callv) [F 191, T 24, T 25, N 4, N 0, N 0]])
 (.region [I 27 (.mv) [T 0],
    I 28 (.nilCheck) [T 27],
    I 29 (.fieldAddr 1) [T 28],
    I 30 (.load1) [T 29],
    I 31 (.mv) [T 1],
    I 32 (.callv) [F 117, T 30, T 31]]))))⟩
theorem t109 : trFn Tryz.prog Tryz.f109 = some c_kern_Kernel_leave := by kernel_rfl
end Go.Proofs.YtlkfclgkinaibaaGreat
