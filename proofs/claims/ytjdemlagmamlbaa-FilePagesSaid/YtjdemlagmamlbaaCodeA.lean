/- BY PROGRAM (wip/tool/print2.lean): the abstract machine's code of the program's functions. -/
import Derived.Test.YtjdemlagmamlbaaM24
import Derived.Test.YtjdemlagmamlbaaProg
namespace Go.Proofs.Ytjdemlagmamlbaa


abbrev ty_4_uint8 : Nat := 28
abbrev ty_law09_Act : Nat := 31
abbrev ty_2_uint : Nat := 43
abbrev ty_swap_Device : Nat := 62
abbrev ty_6_uint8 : Nat := 81
abbrev ty_uint8 : Nat := 5
abbrev ty_ref10_Store : Nat := 89
abbrev ty_law10_Act : Nat := 91
abbrev ty_file_Store : Nat := 99
abbrev ty_law11_Act : Nat := 108
abbrev ty_api_Run : Nat := 121
abbrev ty_int : Nat := 3
abbrev ty_spread_Counts : Nat := 126
abbrev ty_law13_Act : Nat := 135
abbrev ty_amap_Pool : Nat := 156
abbrev ty_swap_page : Nat := 161
abbrev ty_ref09_Device : Nat := 55
abbrev ty_uint8_27 : Nat := 27
abbrev ty_file_place : Nat := 164
abbrev ty_4096_uint8 : Nat := 160
abbrev ty_ref10_Page : Nat := 171
abbrev ty_ref11_Counts : Nat := 115
abbrev ty_int_77 : Nat := 77
abbrev ty_api_Errno : Nat := 32
abbrev ty_amap_one : Nat := 179
abbrev ty_p_amap_one : Nat := 177
abbrev ty_ref13_Pool : Nat := 190
abbrev ty_ref13_Amap : Nat := 151
abbrev ty_p_ref13_Amap : Nat := 148
abbrev ty_p_spread_Counts : Nat := 103
abbrev ty_api_Run_117 : Nat := 117
abbrev ty_p_amap_Pool : Nat := 129

/-- gosem.cut.init -/
abbrev n_gosem_cut_init : Nat := 2
def c_gosem_cut_init : AFn := ⟨1, [],
 .region [I 0 (.callv) [F 1]]⟩
theorem t2 : trFn Try.prog Try.f2 = some c_gosem_cut_init := by kernel_rfl

/-- pantry/pantrylaw09.SwapKeeps -/
abbrev n_law09_SwapKeeps : Nat := 3
/-- live: [0, 3, 4, 26] -/
def c_law09_SwapKeeps_L0 : ACode :=
 .seq (.region [I 27 (.bin .lss) [T 26, N 4]])
 (.seq (.cond (T 27)
 (.skip)
 (.exit 0))
 (.seq (.block 1 (.seq (.region [I 28 (.mv) [T 26],
   I 5 (.mv) [T 28]])
 (.region [I 29 (.mv) [T 5],
   I 30 (.callv) [F 27, .lit .nilsl],
   I 31 (.indexa 4 1) [T 4, T 29],
   J (.store 1) [T 31, T 30]])))
 (.region [I 32 (.bin .add) [T 26, N 1],
   I 26 (.mv) [T 32]])))
/-- live: [3, 4, 33, 34, 35] -/
def c_law09_SwapKeeps_L1 : ACode :=
 .seq (.region [I 36 (.bin .lss) [T 35, T 34]])
 (.seq (.cond (T 36)
 (.skip)
 (.exit 2))
 (.seq (.block 3 (.seq (.region [I 37 (.indexs 4) [T 33, T 35],
   I 38 (.loadn 4) [T 37],
   I 7 (.alloc 31 4 (.vals [(.int .i64 0), (.int .i64 0), .nilsl, (.bool false)])) [],
   J (.store 4) [T 7, T 38]])
 (.seq (.region [I 39 (.fieldAddr 0) [T 7],
   I 40 (.load1) [T 39]])
 (.block 4 (.seq (.region [I 42 (.bin .eql) [T 40, N 0],
   I 41 (.mv) [T 42]])
 (.cond (T 41)
 (.seq (.draw [[⟨0, I 43 (.mv) [T 3], [], false⟩,
    ⟨1, I 44 (.fieldAddr 1) [T 7], [], false⟩,
    ⟨2, I 45 (.load1) [T 44], [], false⟩,
    ⟨3, I 46 (.loadn 4) [T 7], [], false⟩,
    ⟨4, I 47 (.callv) [F 29, T 46], [(2, I 45 (.load1) [T 44])], false⟩,
    ⟨5, I 48 (.callv) [F 28, T 43, T 45, T 47], [], false⟩,
    ⟨6, I 49 (.bin .eql) [T 48, N 0], [], false⟩]])
  (.cond (T 49)
  (.seq (.seq (.region [I 50 (.fieldAddr 1) [T 7],
     I 51 (.load1) [T 50],
     I 52 (.bin .lss) [T 51, N 0],
     I 53 (.mv) [T 52],
     IG 54 (.fieldAddr 1) [T 7] 53 false,
     IG 55 (.load1) [T 54] 53 false,
     IG 56 (.bin .geq) [T 55, N 4] 53 false,
     I 57 (.pick) [T 53, .lit (.bool true), T 56]])
   (.cond (T 57)
   (.seq (.region [I 2 (.mv) [.lit (.bool false)]])
    (.ret))
   (.skip)))
   (.draw [[⟨0, I 58 (.fieldAddr 1) [T 7], [], false⟩,
     ⟨1, I 59 (.load1) [T 58], [], false⟩,
     ⟨2, I 60 (.loadn 4) [T 7], [], false⟩,
     ⟨3, I 61 (.callv) [F 29, T 60], [(1, I 59 (.load1) [T 58])], false⟩,
     ⟨4, I 62 (.indexa 4 1) [T 4, T 59], [], false⟩,
     ⟨5, J (.store 1) [T 62, T 61], [], false⟩]]))
  (.skip)))
 (.seq (.region [I 64 (.bin .eql) [T 40, N 2],
    I 63 (.mv) [T 64]])
  (.cond (T 63)
  (.region [I 65 (.mv) [T 3],
     I 66 (.fieldAddr 3) [T 7],
     I 67 (.load1) [T 66],
     I 68 (.fieldAddr 1) [T 7],
     I 69 (.load1) [T 68],
     I 70 (.callv) [F 30, T 65, T 67, T 69]])
  (.skip)))))))))
 (.region [I 71 (.bin .add) [T 35, N 1],
   I 35 (.mv) [T 71]])))
/-- live: [3, 4, 74] -/
def c_law09_SwapKeeps_L2 : ACode :=
 .seq (.region [I 75 (.bin .lss) [T 74, N 4]])
 (.seq (.cond (T 75)
 (.skip)
 (.exit 5))
 (.seq (.block 6 (.seq (.region [I 76 (.mv) [T 74],
   I 8 (.mv) [T 76]])
 (.seq (.region [I 78 (.mv) [T 3],
   I 79 (.mv) [T 8],
   I 80 (.callv) [F 31, T 78, T 79],
   I 77 (.mv) [T 80],
   I 81 (.extract 0) [T 77],
   I 82 (.extract 1) [T 77],
   I 9 (.mv) [T 81],
   I 10 (.mv) [T 82]])
 (.seq (.seq (.region [I 83 (.mv) [T 10],
   I 84 (.bin .neq) [T 83, N 0],
   I 85 (.mv) [T 84],
   IG 86 (.mv) [T 9] 85 false,
   IG 87 (.mv) [T 8] 85 false,
   IG 88 (.indexa 4 1) [T 4, T 87] 85 false,
   IG 89 (.load1) [T 88] 85 false,
   IG 90 (.callv) [F 32, T 86, T 89] 85 false,
   IG 91 (.un .not) [T 90] 85 false,
   I 92 (.pick) [T 85, .lit (.bool true), T 91]])
 (.cond (T 92)
 (.seq (.region [I 2 (.mv) [.lit (.bool false)]])
  (.ret))
 (.skip)))
 (.seq (.seq (.region [I 93 (.mv) [T 9],
   I 94 (.lens) [T 93],
   I 95 (.bin .eql) [T 94, N 0]])
 (.cond (T 95)
 (.seq (.region [I 2 (.mv) [.lit (.bool false)]])
  (.ret))
 (.skip)))
 (.seq (.region [I 96 (.mv) [T 9],
   I 97 (.indexs 1) [T 96, N 0],
   I 98 (.load1) [T 97],
   I 99 (.bin .add) [T 98, .lit (.int .u8 1)],
   I 100 (.indexs 1) [T 96, N 0],
   J (.store 1) [T 100, T 99]])
 (.seq (.region [I 102 (.mv) [T 3],
   I 103 (.mv) [T 8],
   I 104 (.callv) [F 31, T 102, T 103],
   I 101 (.mv) [T 104],
   I 105 (.extract 0) [T 101],
   I 106 (.extract 1) [T 101],
   I 11 (.mv) [T 105],
   I 12 (.mv) [T 106]])
 (.seq (.region [I 107 (.mv) [T 11],
   I 108 (.mv) [T 8],
   I 109 (.indexa 4 1) [T 4, T 108],
   I 110 (.load1) [T 109],
   I 111 (.callv) [F 32, T 107, T 110],
   I 112 (.un .not) [T 111]])
 (.cond (T 112)
 (.seq (.region [I 2 (.mv) [.lit (.bool false)]])
  (.ret))
 (.skip))))))))))
 (.region [I 113 (.bin .add) [T 74, N 1],
   I 74 (.mv) [T 113]])))
def c_law09_SwapKeeps : AFn := ⟨115, [.tmp 2],
 .seq (.region [I 2 (.mv) [.lit (.bool false)]])
 (.seq (.region [I 13 (.callv) [F 24, N 4],
   I 3 (.mv) [T 13]])
 (.seq (.seq (.region [I 14 (.mv) [T 3],
   I 15 (.eqv false .ptr) [T 14, .lit .nilptr],
   I 16 (.mv) [T 15],
   IG 17 (.mv) [T 0] 16 false,
   IG 18 (.callv) [F 25, T 17] 16 false,
   IG 19 (.un .not) [T 18] 16 false,
   I 20 (.pick) [T 16, .lit (.bool true), T 19]])
 (.cond (T 20)
 (.seq (.region [I 21 (.mv) [T 3],
    I 22 (.eqv true .ptr) [T 21, .lit .nilptr],
    I 23 (.mv) [T 22],
    IG 24 (.callv) [F 26] 23 true,
    I 25 (.pick) [T 23, T 24, .lit (.bool false)],
    I 2 (.mv) [T 25]])
  (.ret))
 (.skip)))
 (.seq (.region [I 4 (.alloc 28 4 (.vals [.nilsl, .nilsl, .nilsl, .nilsl])) []])
 (.seq (.seq (.region [I 26 (.mv) [N 0]])
 (.block 0 (.loop c_law09_SwapKeeps_L0)))
 (.seq (.seq (.region [I 33 (.mv) [T 0],
   I 34 (.lens) [T 33],
   I 35 (.mv) [N 0]])
 (.block 2 (.loop c_law09_SwapKeeps_L1)))
 (.seq (.region [I 72 (.mv) [T 3],
   I 73 (.callv) [F 30, T 72, .lit (.bool false), N 0]])
 (.seq (.seq (.region [I 74 (.mv) [N 0]])
 (.block 5 (.loop c_law09_SwapKeeps_L2)))
 (.seq (.region [I 114 (.callv) [F 26],
   I 2 (.mv) [T 114]])
 (.ret)))))))))⟩
theorem t3 : trFn Try.prog Try.f3 = some c_law09_SwapKeeps := by kernel_rfl

/-- pantry/pantrylaw09.SwapPlans -/
abbrev n_law09_SwapPlans : Nat := 4
/-- live: [7, 8, 9, 10, 11] -/
def c_law09_SwapPlans_L0 : ACode :=
 .seq (.seq (.region [I 37 (.mv) [T 11],
   I 38 (.mv) [T 10],
   I 39 (.bin .leq) [T 37, T 38]])
 (.cond (T 39)
 (.skip)
 (.exit 0)))
 (.seq (.block 1 (.seq (.region [I 42 (.mv) [T 7],
   I 43 (.callv) [F 27, .lit .nilsl],
   I 44 (.callv) [F 28, T 42, N 0, T 43],
   I 12 (.mv) [T 44]])
 (.seq (.region [I 46 (.mv) [T 7],
   I 47 (.callv) [F 31, T 46, N 0],
   I 45 (.mv) [T 47],
   I 48 (.extract 0) [T 45],
   I 49 (.extract 1) [T 45],
   I 13 (.mv) [T 48],
   I 14 (.mv) [T 49]])
 (.seq (.region (I 50 (.mv) [T 12] ::
   I 51 (.bin .eql) [T 50, N 6] ::
   I 52 (.mv) [T 11] ::
   I 53 (.mv) [T 8] ::
   I 54 (.bin .eql) [T 52, T 53] ::
   I 55 (.eqv true (.scal .bool)) [T 51, T 54] ::
   I 56 (.mv) [T 55] ::
   IG 57 (.mv) [T 14] 56 false ::
   IG 58 (.bin .eql) [T 57, N 6] 56 false ::
   IG 59 (.mv) [T 11] 56 false ::
   IG 60 (.mv) [T 9] 56 false ::
   IG 61 (.bin .eql) [T 59, T 60] 56 false ::
   IG 62 (.eqv true (.scal .bool)) [T 58, T 61] 56 false ::
   I 63 (.pick) [T 56, .lit (.bool true), T 62] ::
   I 64 (.mv) [T 63] ::
   IG 65 (.mv) [T 12] 64 false ::
   IG 66 (.bin .neq) [T 65, N 0] 64 false ::
   IG 67 (.mv) [T 66] 64 false ::
   IG 68 (.mv) [T 12] 67 true ::
   IG 69 (.bin .neq) [T 68, N 6] 67 true ::
   IG 70 (.pick) [T 67, T 69, .lit (.bool false)] 64 false ::
   I 71 (.pick) [T 64, .lit (.bool true), T 70] ::
   I 72 (.mv) [T 71] ::
   IG 73 (.mv) [T 14] 72 false ::
   IG 74 (.bin .neq) [T 73, N 0] 72 false ::
   IG 75 (.mv) [T 74] 72 false ::
   IG 76 (.mv) [T 14] 75 true ::
   IG 77 (.bin .neq) [T 76, N 6] 75 true ::
   IG 78 (.pick) [T 75, T 77, .lit (.bool false)] 72 false ::
   I 79 (.pick) [T 72, .lit (.bool true), T 78] ::
   []))
 (.cond (T 79)
 (.seq (.region [I 6 (.mv) [.lit (.bool false)]])
  (.ret))
 (.skip))))))
 (.region [I 40 (.mv) [T 11],
   I 41 (.bin .add) [T 40, N 1],
   I 11 (.mv) [T 41]]))
def c_law09_SwapPlans : AFn := ⟨102, [.tmp 6],
 .seq (.region [I 6 (.mv) [.lit (.bool false)]])
 (.seq (.region [I 17 (.callv) [F 24, N 1],
   I 7 (.mv) [T 17]])
 (.seq (.region [I 18 (.mv) [T 0],
   I 19 (.bin .rem) [T 18, .lit (.int .u64 20)],
   I 20 (.conv .i64) [T 19],
   I 21 (.mv) [T 1],
   I 22 (.bin .rem) [T 21, .lit (.int .u64 20)],
   I 23 (.conv .i64) [T 22],
   I 24 (.mv) [T 2],
   I 25 (.bin .rem) [T 24, .lit (.int .u64 30)],
   I 26 (.conv .i64) [T 25],
   I 8 (.mv) [T 20],
   I 9 (.mv) [T 23],
   I 10 (.mv) [T 26]])
 (.seq (.seq (.region [I 27 (.mv) [T 7],
   I 28 (.mv) [T 8],
   I 29 (.callv) [F 30, T 27, .lit (.bool true), T 28],
   I 30 (.bin .neq) [T 29, N 0],
   I 31 (.mv) [T 30],
   IG 32 (.mv) [T 7] 31 false,
   IG 33 (.mv) [T 9] 31 false,
   IG 34 (.callv) [F 30, T 32, .lit (.bool false), T 33] 31 false,
   IG 35 (.bin .neq) [T 34, N 0] 31 false,
   I 36 (.pick) [T 31, .lit (.bool true), T 35]])
 (.cond (T 36)
 (.seq (.region [I 6 (.mv) [.lit (.bool false)]])
  (.ret))
 (.skip)))
 (.seq (.seq (.region [I 11 (.mv) [N 1]])
 (.block 0 (.loop c_law09_SwapPlans_L0)))
 (.seq (.region [I 81 (.mv) [T 7],
   I 82 (.callv) [F 33, T 81],
   I 80 (.mv) [T 82],
   I 83 (.extract 0) [T 80],
   I 84 (.extract 1) [T 80],
   I 15 (.mv) [T 83],
   I 16 (.mv) [T 84]])
 (.seq (.region [I 85 (.mv) [T 15],
   I 86 (.mv) [T 10],
   I 87 (.bin .eql) [T 85, T 86],
   I 88 (.mv) [T 87],
   IG 89 (.mv) [T 16] 88 true,
   IG 90 (.mv) [T 10] 88 true,
   IG 91 (.bin .eql) [T 89, T 90] 88 true,
   I 92 (.pick) [T 88, T 91, .lit (.bool false)],
   I 93 (.mv) [T 92],
   IG 94 (.mv) [T 7] 93 true,
   IG 95 (.callv) [F 27, .lit .nilsl] 93 true,
   IG 96 (.callv) [F 28, T 94, N 1, T 95] 93 true,
   IG 97 (.bin .eql) [T 96, N 2] 93 true,
   I 98 (.pick) [T 93, T 97, .lit (.bool false)],
   I 99 (.mv) [T 98],
   IG 100 (.callv) [F 26] 99 true,
   I 101 (.pick) [T 99, T 100, .lit (.bool false)],
   I 6 (.mv) [T 101]])
 (.ret)))))))⟩
theorem t4 : trFn Try.prog Try.f4 = some c_law09_SwapPlans := by kernel_rfl

/-- pantry/pantrylaw09.SwapApart -/
abbrev n_law09_SwapApart : Nat := 5
/-- live: [0, 1, 7, 8, 9, 10] -/
def c_law09_SwapApart_L0 : ACode :=
 .seq (.seq (.region [I 53 (.mv) [T 10],
   I 54 (.bin .lss) [T 53, N 8]])
 (.cond (T 54)
 (.skip)
 (.exit 0)))
 (.seq (.block 1 (.seq (.region [I 57 (.callv) [F 27, .lit .nilsl],
   I 11 (.mv) [T 57]])
 (.seq (.seq (.region [I 58 (.mv) [T 10],
   I 59 (.mv) [T 8],
   I 60 (.bin .eql) [T 58, T 59]])
 (.cond (T 60)
 (.region [I 61 (.mv) [T 0],
    I 62 (.callv) [F 27, T 61],
    I 11 (.mv) [T 62]])
 (.skip)))
 (.seq (.seq (.region [I 63 (.mv) [T 10],
   I 64 (.mv) [T 9],
   I 65 (.bin .eql) [T 63, T 64]])
 (.cond (T 65)
 (.region [I 66 (.mv) [T 1],
    I 67 (.callv) [F 27, T 66],
    I 11 (.mv) [T 67]])
 (.skip)))
 (.seq (.region [I 68 (.mv) [T 7],
   I 69 (.mv) [T 10],
   I 70 (.callv) [F 34, T 68, T 69],
   I 71 (.mv) [T 11],
   I 72 (.callv) [F 32, T 70, T 71],
   I 73 (.un .not) [T 72]])
 (.cond (T 73)
 (.seq (.region [I 6 (.mv) [.lit (.bool false)]])
  (.ret))
 (.skip)))))))
 (.region [I 55 (.mv) [T 10],
   I 56 (.bin .add) [T 55, N 1],
   I 10 (.mv) [T 56]]))
def c_law09_SwapApart : AFn := ⟨97, [.tmp 6],
 .seq (.region [I 5 (.box 43 2) [T 2],
   I 6 (.mv) [.lit (.bool false)]])
 (.seq (.seq (.region [I 16 (.mv) [T 0],
   I 17 (.lens) [T 16],
   I 18 (.bin .gtr) [T 17, N 4096],
   I 19 (.mv) [T 18],
   IG 20 (.mv) [T 1] 19 false,
   IG 21 (.lens) [T 20] 19 false,
   IG 22 (.bin .gtr) [T 21, N 4096] 19 false,
   I 23 (.pick) [T 19, .lit (.bool true), T 22]])
 (.cond (T 23)
 (.seq (.region [I 24 (.callv) [F 26],
    I 6 (.mv) [T 24]])
  (.ret))
 (.skip)))
 (.seq (.region [I 25 (.callv) [F 24, N 8],
   I 7 (.mv) [T 25]])
 (.seq (.draw [[⟨0, I 26 (.indexa 2 1) [T 5, N 0], [], false⟩,
   ⟨1, I 27 (.load1) [T 26], [], false⟩,
   ⟨2, I 28 (.bin .rem) [T 27, .lit (.int .u64 8)], [], false⟩,
   ⟨3, I 29 (.conv .i64) [T 28], [], false⟩,
   ⟨4, I 30 (.indexa 2 1) [T 5, N 1], [], false⟩,
   ⟨5, I 31 (.load1) [T 30], [], false⟩,
   ⟨6, I 32 (.bin .rem) [T 31, .lit (.int .u64 8)], [], false⟩,
   ⟨7, I 33 (.conv .i64) [T 32], [], false⟩,
   ⟨8, I 8 (.mv) [T 29], [], false⟩,
   ⟨9, I 9 (.mv) [T 33], [], false⟩]])
 (.seq (.seq (.region [I 34 (.mv) [T 7],
   I 35 (.mv) [T 8],
   I 36 (.mv) [T 0],
   I 37 (.callv) [F 27, T 36],
   I 38 (.callv) [F 28, T 34, T 35, T 37],
   I 39 (.bin .neq) [T 38, N 0],
   I 40 (.mv) [T 39],
   IG 41 (.mv) [T 7] 40 false,
   IG 42 (.mv) [T 9] 40 false,
   IG 43 (.mv) [T 1] 40 false,
   IG 44 (.callv) [F 27, T 43] 40 false,
   IG 45 (.callv) [F 28, T 41, T 42, T 44] 40 false,
   IG 46 (.bin .neq) [T 45, N 0] 40 false,
   I 47 (.pick) [T 40, .lit (.bool true), T 46],
   I 48 (.mv) [T 47],
   IG 49 (.mv) [T 7] 48 false,
   IG 50 (.callv) [F 30, T 49, .lit (.bool false), N 1] 48 false,
   IG 51 (.bin .neq) [T 50, N 0] 48 false,
   I 52 (.pick) [T 48, .lit (.bool true), T 51]])
 (.cond (T 52)
 (.seq (.region [I 6 (.mv) [.lit (.bool false)]])
  (.ret))
 (.skip)))
 (.seq (.seq (.region [I 10 (.mv) [N 0]])
 (.block 0 (.loop c_law09_SwapApart_L0)))
 (.seq (.region [I 75 (.mv) [T 7],
   I 76 (.callv) [F 31, T 75, N 0],
   I 74 (.mv) [T 76],
   I 77 (.extract 0) [T 74],
   I 78 (.extract 1) [T 74],
   I 12 (.mv) [T 77],
   I 13 (.mv) [T 78]])
 (.seq (.region [I 80 (.mv) [T 7],
   I 81 (.callv) [F 33, T 80],
   I 79 (.mv) [T 81],
   I 82 (.extract 0) [T 79],
   I 83 (.extract 1) [T 79],
   I 14 (.mv) [T 82],
   I 15 (.mv) [T 83]])
 (.seq (.region [I 84 (.mv) [T 13],
   I 85 (.bin .eql) [T 84, N 6],
   I 86 (.mv) [T 85],
   IG 87 (.mv) [T 14] 86 true,
   IG 88 (.bin .eql) [T 87, N 2] 86 true,
   I 89 (.pick) [T 86, T 88, .lit (.bool false)],
   I 90 (.mv) [T 89],
   IG 91 (.mv) [T 15] 90 true,
   IG 92 (.bin .eql) [T 91, N 1] 90 true,
   I 93 (.pick) [T 90, T 92, .lit (.bool false)],
   I 94 (.mv) [T 93],
   IG 95 (.callv) [F 26] 94 true,
   I 96 (.pick) [T 94, T 95, .lit (.bool false)],
   I 6 (.mv) [T 96]])
 (.ret)))))))))⟩
theorem t5 : trFn Try.prog Try.f5 = some c_law09_SwapApart := by kernel_rfl

/-- pantry/pantrylaw09.SwapActs -/
abbrev n_law09_SwapActs : Nat := 6
/-- live: [5, 6, 32, 33, 34] -/
def c_law09_SwapActs_L0 : ACode :=
 .seq (.region [I 35 (.bin .lss) [T 34, T 33]])
 (.seq (.cond (T 35)
 (.skip)
 (.exit 0))
 (.seq (.block 1 (.seq (.region [I 36 (.indexs 4) [T 32, T 34],
   I 37 (.loadn 4) [T 36],
   I 8 (.alloc 31 4 (.vals [(.int .i64 0), (.int .i64 0), .nilsl, (.bool false)])) [],
   J (.store 4) [T 8, T 37]])
 (.seq (.region [I 9 (.mv) [.lit (.bool true)]])
 (.seq (.seq (.region [I 38 (.fieldAddr 0) [T 8],
   I 39 (.load1) [T 38]])
 (.block 2 (.seq (.region [I 41 (.bin .eql) [T 39, N 0],
   I 40 (.mv) [T 41]])
 (.cond (T 40)
 (.draw [[⟨0, I 42 (.mv) [T 5], [], false⟩,
    ⟨1, I 43 (.fieldAddr 1) [T 8], [], false⟩,
    ⟨2, I 44 (.load1) [T 43], [], false⟩,
    ⟨3, I 45 (.loadn 4) [T 8], [], false⟩,
    ⟨6, I 48 (.mv) [T 6], [], false⟩,
    ⟨7, I 49 (.fieldAddr 1) [T 8], [], false⟩,
    ⟨8, I 50 (.load1) [T 49], [], false⟩,
    ⟨9, I 51 (.loadn 4) [T 8], [], false⟩,
    ⟨4, I 46 (.callv) [F 29, T 45], [(2, I 44 (.load1) [T 43]), (8, I 50 (.load1) [T 49]), (9, I 51 (.loadn 4) [T 8])], false⟩,
    ⟨5, I 47 (.callv) [F 28, T 42, T 44, T 46], [(8, I 50 (.load1) [T 49]), (9, I 51 (.loadn 4) [T 8])], false⟩,
    ⟨10, I 52 (.callv) [F 29, T 51], [(8, I 50 (.load1) [T 49])], false⟩,
    ⟨11, I 53 (.callv) [F 36, T 48, T 50, T 52], [], false⟩,
    ⟨12, I 54 (.bin .eql) [T 47, T 53], [], false⟩,
    ⟨13, I 9 (.mv) [T 54], [], false⟩]])
 (.seq (.region [I 56 (.bin .eql) [T 39, N 1],
    I 55 (.mv) [T 56]])
  (.cond (T 55)
  (.seq (.region [I 58 (.mv) [T 5],
     I 59 (.fieldAddr 1) [T 8],
     I 60 (.load1) [T 59],
     I 61 (.callv) [F 31, T 58, T 60],
     I 57 (.mv) [T 61],
     I 62 (.extract 0) [T 57],
     I 63 (.extract 1) [T 57],
     I 10 (.mv) [T 62],
     I 11 (.mv) [T 63]])
   (.seq (.region [I 65 (.mv) [T 6],
     I 66 (.fieldAddr 1) [T 8],
     I 67 (.load1) [T 66],
     I 68 (.callv) [F 37, T 65, T 67],
     I 64 (.mv) [T 68],
     I 69 (.extract 0) [T 64],
     I 70 (.extract 1) [T 64],
     I 12 (.mv) [T 69],
     I 13 (.mv) [T 70]])
   (.region [I 71 (.mv) [T 10],
     I 72 (.mv) [T 12],
     I 73 (.callv) [F 32, T 71, T 72],
     I 74 (.mv) [T 73],
     IG 75 (.mv) [T 11] 74 true,
     IG 76 (.mv) [T 13] 74 true,
     IG 77 (.bin .eql) [T 75, T 76] 74 true,
     I 78 (.pick) [T 74, T 77, .lit (.bool false)],
     I 9 (.mv) [T 78]])))
  (.seq (.region [I 80 (.bin .eql) [T 39, N 2],
     I 79 (.mv) [T 80]])
   (.cond (T 79)
   (.draw [[⟨0, I 81 (.mv) [T 5], [], false⟩,
      ⟨1, I 82 (.fieldAddr 3) [T 8], [], false⟩,
      ⟨2, I 83 (.load1) [T 82], [], false⟩,
      ⟨3, I 84 (.fieldAddr 1) [T 8], [], false⟩,
      ⟨4, I 85 (.load1) [T 84], [], false⟩,
      ⟨6, I 87 (.mv) [T 6], [], false⟩,
      ⟨7, I 88 (.fieldAddr 3) [T 8], [], false⟩,
      ⟨8, I 89 (.load1) [T 88], [], false⟩,
      ⟨9, I 90 (.fieldAddr 1) [T 8], [], false⟩,
      ⟨10, I 91 (.load1) [T 90], [], false⟩,
      ⟨5, I 86 (.callv) [F 30, T 81, T 83, T 85], [(8, I 89 (.load1) [T 88]), (10, I 91 (.load1) [T 90])], false⟩,
      ⟨11, I 92 (.callv) [F 38, T 87, T 89, T 91], [], false⟩,
      ⟨12, I 93 (.bin .eql) [T 86, T 92], [], false⟩,
      ⟨13, I 9 (.mv) [T 93], [], false⟩]])
   (.skip)))))))))
 (.seq (.region [I 95 (.mv) [T 5],
   I 96 (.callv) [F 33, T 95],
   I 94 (.mv) [T 96],
   I 97 (.extract 0) [T 94],
   I 98 (.extract 1) [T 94],
   I 14 (.mv) [T 97],
   I 15 (.mv) [T 98]])
 (.seq (.draw [(⟨0, I 99 (.mv) [T 9], [], false⟩ ::
   ⟨1, I 100 (.un .not) [T 99], [], false⟩ ::
   ⟨2, I 101 (.mv) [T 100], [], false⟩ ::
   ⟨3, IG 102 (.mv) [T 5] 101 false, [], false⟩ ::
   ⟨4, IG 103 (.fieldAddr 1) [T 8] 101 false, [], false⟩ ::
   ⟨5, IG 104 (.load1) [T 103] 101 false, [], false⟩ ::
   ⟨7, IG 106 (.mv) [T 6] 101 false, [], false⟩ ::
   ⟨8, IG 107 (.fieldAddr 1) [T 8] 101 false, [], false⟩ ::
   ⟨9, IG 108 (.load1) [T 107] 101 false, [], false⟩ ::
   ⟨6, IG 105 (.callv) [F 34, T 102, T 104] 101 false, [(9, IG 108 (.load1) [T 107] 101 false)], false⟩ ::
   ⟨10, IG 109 (.callv) [F 39, T 106, T 108] 101 false, [], false⟩ ::
   ⟨11, IG 110 (.callv) [F 32, T 105, T 109] 101 false, [], false⟩ ::
   ⟨12, IG 111 (.un .not) [T 110] 101 false, [], false⟩ ::
   ⟨13, I 112 (.pick) [T 101, .lit (.bool true), T 111], [], false⟩ ::
   ⟨14, I 113 (.mv) [T 112], [], false⟩ ::
   ⟨15, IG 114 (.mv) [T 14] 113 false, [], false⟩ ::
   ⟨16, IG 115 (.mv) [T 6] 113 false, [], false⟩ ::
   ⟨17, IG 116 (.nilCheck) [T 115] 113 false, [], false⟩ ::
   ⟨18, IG 117 (.fieldAddr 3) [T 116] 113 false, [], false⟩ ::
   ⟨19, IG 118 (.indexa 2 1) [T 117, N 1] 113 false, [], false⟩ ::
   ⟨20, IG 119 (.load1) [T 118] 113 false, [], false⟩ ::
   ⟨21, IG 120 (.bin .neq) [T 114, T 119] 113 false, [], false⟩ ::
   ⟨22, I 121 (.pick) [T 113, .lit (.bool true), T 120], [], false⟩ ::
   ⟨23, I 122 (.mv) [T 121], [], false⟩ ::
   ⟨24, IG 123 (.mv) [T 15] 122 false, [], false⟩ ::
   ⟨25, IG 124 (.mv) [T 6] 122 false, [], false⟩ ::
   ⟨26, IG 125 (.nilCheck) [T 124] 122 false, [], false⟩ ::
   ⟨27, IG 126 (.fieldAddr 3) [T 125] 122 false, [], false⟩ ::
   ⟨28, IG 127 (.indexa 2 1) [T 126, N 0] 122 false, [], false⟩ ::
   ⟨29, IG 128 (.load1) [T 127] 122 false, [], false⟩ ::
   ⟨30, IG 129 (.bin .neq) [T 123, T 128] 122 false, [], false⟩ ::
   ⟨31, I 130 (.pick) [T 122, .lit (.bool true), T 129], [], false⟩ ::
   ⟨32, I 131 (.mv) [T 130], [], false⟩ ::
   ⟨33, IG 132 (.mv) [T 5] 131 false, [], false⟩ ::
   ⟨35, IG 134 (.mv) [T 6] 131 false, [], false⟩ ::
   ⟨36, IG 135 (.nilCheck) [T 134] 131 false, [], false⟩ ::
   ⟨37, IG 136 (.fieldAddr 0) [T 135] 131 false, [], false⟩ ::
   ⟨38, IG 137 (.load1) [T 136] 131 false, [], false⟩ ::
   ⟨39, IG 138 (.lens) [T 137] 131 false, [], false⟩ ::
   ⟨34, IG 133 (.callv) [F 40, T 132] 131 false, [(38, IG 137 (.load1) [T 136] 131 false)], false⟩ ::
   ⟨40, IG 139 (.bin .neq) [T 133, T 138] 131 false, [], false⟩ ::
   ⟨41, I 140 (.pick) [T 131, .lit (.bool true), T 139], [], false⟩ ::
   [])])
 (.cond (T 140)
 (.seq (.region [I 4 (.mv) [.lit (.bool false)]])
  (.ret))
 (.skip))))))))
 (.region [I 141 (.bin .add) [T 34, N 1],
   I 34 (.mv) [T 141]])))
def c_law09_SwapActs : AFn := ⟨143, [.tmp 4],
 .seq (.region [I 4 (.mv) [.lit (.bool false)]])
 (.seq (.seq (.region [I 16 (.mv) [T 1],
   I 17 (.callv) [F 25, T 16],
   I 18 (.un .not) [T 17]])
 (.cond (T 18)
 (.seq (.region [I 19 (.callv) [F 26],
    I 4 (.mv) [T 19]])
  (.ret))
 (.skip)))
 (.seq (.region [I 20 (.mv) [T 0],
   I 21 (.callv) [F 24, T 20],
   I 22 (.mv) [T 0],
   I 23 (.callv) [F 35, T 22],
   I 5 (.mv) [T 21],
   I 6 (.mv) [T 23]])
 (.seq (.seq (.region [I 24 (.mv) [T 5],
   I 25 (.eqv false .ptr) [T 24, .lit .nilptr],
   I 26 (.mv) [T 6],
   I 27 (.eqv false .ptr) [T 26, .lit .nilptr],
   I 28 (.eqv true (.scal .bool)) [T 25, T 27]])
 (.cond (T 28)
 (.seq (.region [I 4 (.mv) [.lit (.bool false)]])
  (.ret))
 (.skip)))
 (.seq (.seq (.region [I 29 (.mv) [T 6],
   I 30 (.eqv false .ptr) [T 29, .lit .nilptr]])
 (.cond (T 30)
 (.seq (.region [I 31 (.callv) [F 26],
    I 4 (.mv) [T 31]])
  (.ret))
 (.skip)))
 (.seq (.seq (.region [I 32 (.mv) [T 1],
   I 33 (.lens) [T 32],
   I 34 (.mv) [N 0]])
 (.block 0 (.loop c_law09_SwapActs_L0)))
 (.seq (.region [I 142 (.callv) [F 26],
   I 4 (.mv) [T 142]])
 (.ret)))))))⟩
theorem t6 : trFn Try.prog Try.f6 = some c_law09_SwapActs := by kernel_rfl

/-- pantry/pantrylaw09.SwapNone -/
abbrev n_law09_SwapNone : Nat := 7
/-- live: [1, 15, 16] -/
def c_law09_SwapNone_L0 : ACode :=
 .seq (.region [I 17 (.bin .lss) [T 16, N 2]])
 (.seq (.cond (T 17)
 (.skip)
 (.exit 0))
 (.seq (.block 1 (.seq (.region [I 18 (.indexv 2 1 false) [T 15, T 16],
   I 5 (.mv) [T 18]])
 (.seq (.region [I 20 (.mv) [T 5],
   I 21 (.fieldAddr 1) [T 1],
   I 22 (.load1) [T 21],
   I 23 (.callv) [F 31, T 20, T 22],
   I 19 (.mv) [T 23],
   I 24 (.extract 0) [T 19],
   I 25 (.extract 1) [T 19],
   I 6 (.mv) [T 24],
   I 7 (.mv) [T 25]])
 (.seq (.region [I 27 (.mv) [T 5],
   I 28 (.callv) [F 33, T 27],
   I 26 (.mv) [T 28],
   I 29 (.extract 0) [T 26],
   I 30 (.extract 1) [T 26],
   I 8 (.mv) [T 29],
   I 9 (.mv) [T 30]])
 (.seq (.draw [(⟨0, I 31 (.mv) [T 7], [], false⟩ ::
   ⟨1, I 32 (.bin .neq) [T 31, N 1], [], false⟩ ::
   ⟨2, I 33 (.mv) [T 32], [], false⟩ ::
   ⟨3, IG 34 (.mv) [T 5] 33 false, [], false⟩ ::
   ⟨4, IG 35 (.fieldAddr 1) [T 1] 33 false, [], false⟩ ::
   ⟨5, IG 36 (.load1) [T 35] 33 false, [], false⟩ ::
   ⟨6, IG 37 (.loadn 4) [T 1] 33 false, [], false⟩ ::
   ⟨7, IG 38 (.callv) [F 29, T 37] 33 false, [(5, IG 36 (.load1) [T 35] 33 false)], false⟩ ::
   ⟨8, IG 39 (.callv) [F 28, T 34, T 36, T 38] 33 false, [], false⟩ ::
   ⟨9, IG 40 (.bin .neq) [T 39, N 1] 33 false, [], false⟩ ::
   ⟨10, I 41 (.pick) [T 33, .lit (.bool true), T 40], [], false⟩ ::
   ⟨11, I 42 (.mv) [T 41], [], false⟩ ::
   ⟨12, IG 43 (.mv) [T 5] 42 false, [], false⟩ ::
   ⟨13, IG 44 (.fieldAddr 3) [T 1] 42 false, [], false⟩ ::
   ⟨14, IG 45 (.load1) [T 44] 42 false, [], false⟩ ::
   ⟨15, IG 46 (.fieldAddr 1) [T 1] 42 false, [], false⟩ ::
   ⟨16, IG 47 (.load1) [T 46] 42 false, [], false⟩ ::
   ⟨17, IG 48 (.callv) [F 30, T 43, T 45, T 47] 42 false, [], false⟩ ::
   ⟨18, IG 49 (.bin .neq) [T 48, N 1] 42 false, [], false⟩ ::
   ⟨19, I 50 (.pick) [T 42, .lit (.bool true), T 49], [], false⟩ ::
   ⟨20, I 51 (.mv) [T 50], [], false⟩ ::
   ⟨21, IG 52 (.mv) [T 8] 51 false, [], false⟩ ::
   ⟨22, IG 53 (.mv) [T 9] 51 false, [], false⟩ ::
   ⟨23, IG 54 (.bin .add) [T 52, T 53] 51 false, [], false⟩ ::
   ⟨24, IG 55 (.mv) [T 5] 51 false, [], false⟩ ::
   ⟨27, IG 58 (.mv) [T 5] 51 false, [], false⟩ ::
   ⟨28, IG 59 (.fieldAddr 1) [T 1] 51 false, [], false⟩ ::
   ⟨29, IG 60 (.load1) [T 59] 51 false, [], false⟩ ::
   ⟨25, IG 56 (.callv) [F 40, T 55] 51 false, [(29, IG 60 (.load1) [T 59] 51 false)], false⟩ ::
   ⟨26, IG 57 (.bin .add) [T 54, T 56] 51 false, [], false⟩ ::
   ⟨30, IG 61 (.callv) [F 34, T 58, T 60] 51 false, [], false⟩ ::
   ⟨31, IG 62 (.lens) [T 61] 51 false, [], false⟩ ::
   ⟨32, IG 63 (.bin .add) [T 57, T 62] 51 false, [], false⟩ ::
   ⟨33, IG 64 (.bin .neq) [T 63, N 0] 51 false, [], false⟩ ::
   ⟨34, I 65 (.pick) [T 51, .lit (.bool true), T 64], [], false⟩ ::
   [])])
 (.cond (T 65)
 (.seq (.region [I 2 (.mv) [.lit (.bool false)]])
  (.ret))
 (.skip)))))))
 (.region [I 66 (.bin .add) [T 16, N 1],
   I 16 (.mv) [T 66]])))
def c_law09_SwapNone : AFn := ⟨68, [.tmp 2],
 .seq (.region [I 1 (.box 31 4) [T 0],
   I 2 (.mv) [.lit (.bool false)]])
 (.seq (.seq (.region [I 10 (.loadn 4) [T 1],
   I 11 (.bslice 31 4 1 (.vals [(.int .i64 0), (.int .i64 0), .nilsl, (.bool false)]) [0]) [T 10],
   I 12 (.callv) [F 25, T 11],
   I 13 (.un .not) [T 12]])
 (.cond (T 13)
 (.seq (.region [I 14 (.callv) [F 26],
    I 2 (.mv) [T 14]])
  (.ret))
 (.skip)))
 (.seq (.region [I 3 (.alloc 62 7 (.vals [(.int .i64 0), (.bool false), .nilmap, (.int .i64 0), (.int .i64 0), (.int .i64 0), (.int .i64 0)])) []])
 (.seq (.seq (.region [I 15 (.build (.agg [.nilptr, .nilptr]) [(0, 1), (1, 1)]) [.lit .nilptr, T 3],
   I 16 (.mv) [N 0]])
 (.block 0 (.loop c_law09_SwapNone_L0)))
 (.seq (.region [I 67 (.callv) [F 26],
   I 2 (.mv) [T 67]])
 (.ret)))))⟩
theorem t7 : trFn Try.prog Try.f7 = some c_law09_SwapNone := by kernel_rfl

/-- pantry/pantrylaw10.FileCuts -/
abbrev n_law10_FileCuts : Nat := 8
/-- live: [2, 7, 8, 9, 10, 11, 13, 15] -/
def c_law10_FileCuts_L0 : ACode :=
 .seq (.seq (.region [I 54 (.mv) [T 15],
   I 55 (.mv) [T 10],
   I 56 (.bin .lss) [T 54, T 55]])
 (.cond (T 56)
 (.skip)
 (.exit 0)))
 (.seq (.block 1 (.seq (.region [I 59 (.mv) [T 9],
   I 60 (.mv) [T 11],
   I 61 (.mv) [T 15],
   I 62 (.mv) [T 2],
   I 63 (.callv) [F 45, T 62],
   I 64 (.callv) [F 44, T 59, T 60, T 61, T 63],
   I 65 (.bin .neq) [T 64, N 0],
   I 66 (.mv) [T 65],
   IG 67 (.mv) [T 9] 66 false,
   IG 68 (.mv) [T 13] 66 false,
   IG 69 (.mv) [T 15] 66 false,
   IG 70 (.mv) [T 2] 66 false,
   IG 71 (.callv) [F 45, T 70] 66 false,
   IG 72 (.callv) [F 44, T 67, T 68, T 69, T 71] 66 false,
   IG 73 (.bin .neq) [T 72, N 0] 66 false,
   I 74 (.pick) [T 66, .lit (.bool true), T 73]])
 (.cond (T 74)
 (.seq (.region [I 6 (.mv) [.lit (.bool false)]])
  (.ret))
 (.skip))))
 (.region [I 57 (.mv) [T 15],
   I 58 (.bin .add) [T 57, N 1],
   I 15 (.mv) [T 58]]))
def c_law10_FileCuts : AFn := ⟨138, [.tmp 6],
 .seq (.region [I 4 (.box 43 2) [T 1],
   I 6 (.mv) [.lit (.bool false)]])
 (.seq (.draw [[⟨0, I 23 (.indexa 2 1) [T 4, N 0], [], false⟩,
   ⟨1, I 24 (.load1) [T 23], [], false⟩,
   ⟨2, I 25 (.indexa 2 1) [T 4, N 1], [], false⟩,
   ⟨3, I 26 (.load1) [T 25], [], false⟩,
   ⟨4, I 7 (.mv) [T 24], [], false⟩,
   ⟨5, I 8 (.mv) [T 26], [], false⟩]])
 (.seq (.seq (.region [I 27 (.mv) [T 2],
   I 28 (.lens) [T 27],
   I 29 (.bin .gtr) [T 28, N 4096]])
 (.cond (T 29)
 (.seq (.region [I 30 (.callv) [F 41],
    I 6 (.mv) [T 30]])
  (.ret))
 (.skip)))
 (.seq (.region [I 31 (.callv) [F 42],
   I 9 (.mv) [T 31]])
 (.seq (.region [I 32 (.mv) [T 0],
   I 33 (.bin .rem) [T 32, .lit (.int .u64 30)],
   I 34 (.conv .i64) [T 33],
   I 35 (.bin .add) [N 1, T 34],
   I 10 (.mv) [T 35]])
 (.seq (.region [I 37 (.mv) [T 9],
   I 38 (.mv) [T 10],
   I 39 (.callv) [F 43, T 37, T 38],
   I 36 (.mv) [T 39],
   I 40 (.extract 0) [T 36],
   I 41 (.extract 1) [T 36],
   I 11 (.mv) [T 40],
   I 12 (.mv) [T 41]])
 (.seq (.region [I 43 (.mv) [T 9],
   I 44 (.mv) [T 10],
   I 45 (.callv) [F 43, T 43, T 44],
   I 42 (.mv) [T 45],
   I 46 (.extract 0) [T 42],
   I 47 (.extract 1) [T 42],
   I 13 (.mv) [T 46],
   I 14 (.mv) [T 47]])
 (.seq (.seq (.region [I 48 (.mv) [T 12],
   I 49 (.bin .neq) [T 48, N 0],
   I 50 (.mv) [T 49],
   IG 51 (.mv) [T 14] 50 false,
   IG 52 (.bin .neq) [T 51, N 0] 50 false,
   I 53 (.pick) [T 50, .lit (.bool true), T 52]])
 (.cond (T 53)
 (.seq (.region [I 6 (.mv) [.lit (.bool false)]])
  (.ret))
 (.skip)))
 (.seq (.seq (.region [I 15 (.mv) [N 0]])
 (.block 0 (.loop c_law10_FileCuts_L0)))
 (.seq (.region [I 75 (.mv) [T 7],
   I 76 (.mv) [T 10],
   I 77 (.bin .add) [T 76, N 1],
   I 78 (.conv .u64) [T 77],
   I 79 (.bin .rem) [T 75, T 78],
   I 80 (.conv .i64) [T 79],
   I 16 (.mv) [T 80]])
 (.seq (.seq (.region [I 81 (.mv) [T 9],
   I 82 (.mv) [T 11],
   I 83 (.mv) [T 16],
   I 84 (.callv) [F 46, T 81, T 82, T 83],
   I 85 (.bin .neq) [T 84, N 0],
   I 86 (.mv) [T 85],
   IG 87 (.mv) [T 9] 86 false,
   IG 88 (.mv) [T 11] 86 false,
   IG 89 (.mv) [T 10] 86 false,
   IG 90 (.callv) [F 46, T 87, T 88, T 89] 86 false,
   IG 91 (.bin .neq) [T 90, N 0] 86 false,
   I 92 (.pick) [T 86, .lit (.bool true), T 91]])
 (.cond (T 92)
 (.seq (.region [I 6 (.mv) [.lit (.bool false)]])
  (.ret))
 (.skip)))
 (.seq (.region [I 93 (.mv) [T 8],
   I 94 (.mv) [T 10],
   I 95 (.conv .u64) [T 94],
   I 96 (.bin .rem) [T 93, T 95],
   I 97 (.conv .i64) [T 96],
   I 17 (.mv) [T 97]])
 (.seq (.region [I 99 (.mv) [T 9],
   I 100 (.mv) [T 11],
   I 101 (.mv) [T 17],
   I 102 (.callv) [F 47, T 99, T 100, T 101],
   I 98 (.mv) [T 102],
   I 103 (.extract 0) [T 98],
   I 104 (.extract 1) [T 98],
   I 18 (.mv) [T 103],
   I 19 (.mv) [T 104]])
 (.seq (.region [I 106 (.mv) [T 9],
   I 107 (.mv) [T 13],
   I 108 (.mv) [T 17],
   I 109 (.callv) [F 47, T 106, T 107, T 108],
   I 105 (.mv) [T 109],
   I 110 (.extract 0) [T 105],
   I 111 (.extract 1) [T 105],
   I 20 (.mv) [T 110],
   I 21 (.mv) [T 111]])
 (.seq (.region [I 112 (.mv) [T 2],
   I 113 (.callv) [F 45, T 112],
   I 22 (.mv) [T 113]])
 (.seq (.seq (.region [I 114 (.mv) [T 17],
   I 115 (.mv) [T 16],
   I 116 (.bin .geq) [T 114, T 115]])
 (.cond (T 116)
 (.region [I 117 (.callv) [F 45, .lit .nilsl],
    I 22 (.mv) [T 117]])
 (.skip)))
 (.seq (.region [I 118 (.mv) [T 19],
   I 119 (.bin .eql) [T 118, N 0],
   I 120 (.mv) [T 119],
   IG 121 (.mv) [T 21] 120 true,
   IG 122 (.bin .eql) [T 121, N 0] 120 true,
   I 123 (.pick) [T 120, T 122, .lit (.bool false)],
   I 124 (.mv) [T 123],
   IG 125 (.mv) [T 18] 124 true,
   IG 126 (.mv) [T 22] 124 true,
   IG 127 (.callv) [F 32, T 125, T 126] 124 true,
   I 128 (.pick) [T 124, T 127, .lit (.bool false)],
   I 129 (.mv) [T 128],
   IG 130 (.mv) [T 20] 129 true,
   IG 131 (.mv) [T 2] 129 true,
   IG 132 (.callv) [F 45, T 131] 129 true,
   IG 133 (.callv) [F 32, T 130, T 132] 129 true,
   I 134 (.pick) [T 129, T 133, .lit (.bool false)],
   I 135 (.mv) [T 134],
   IG 136 (.callv) [F 41] 135 true,
   I 137 (.pick) [T 135, T 136, .lit (.bool false)],
   I 6 (.mv) [T 137]])
 (.ret)))))))))))))))))⟩
theorem t8 : trFn Try.prog Try.f8 = some c_law10_FileCuts := by kernel_rfl

/-- pantry/pantrylaw10.FileKeeps -/
abbrev n_law10_FileKeeps : Nat := 9
/-- live: [0, 1, 7, 8, 10, 11] -/
def c_law10_FileKeeps_L0 : ACode :=
 .seq (.seq (.region [I 49 (.mv) [T 11],
   I 50 (.mv) [T 10],
   I 51 (.bin .lss) [T 49, T 50]])
 (.cond (T 51)
 (.skip)
 (.exit 0)))
 (.seq (.block 1 (.seq (.region [I 55 (.mv) [T 7],
   I 56 (.mv) [T 8],
   I 57 (.callv) [F 47, T 55, T 56, N 0],
   I 54 (.mv) [T 57],
   I 58 (.extract 0) [T 54],
   I 59 (.extract 1) [T 54],
   I 12 (.mv) [T 58],
   I 13 (.mv) [T 59]])
 (.seq (.region [I 60 (.mv) [T 13],
   I 61 (.bin .neq) [T 60, N 0]])
 (.cond (T 61)
 (.seq (.region [I 6 (.mv) [.lit (.bool false)]])
  (.ret))
 (.skip)))))
 (.region [I 52 (.mv) [T 11],
   I 53 (.bin .add) [T 52, N 1],
   I 11 (.mv) [T 53]]))
def c_law10_FileKeeps : AFn := ⟨93, [.tmp 6],
 .seq (.region [I 6 (.mv) [.lit (.bool false)]])
 (.seq (.seq (.region [I 16 (.mv) [T 0],
   I 17 (.lens) [T 16],
   I 18 (.bin .gtr) [T 17, N 4096],
   I 19 (.mv) [T 18],
   IG 20 (.mv) [T 1] 19 false,
   IG 21 (.lens) [T 20] 19 false,
   IG 22 (.bin .gtr) [T 21, N 4096] 19 false,
   I 23 (.pick) [T 19, .lit (.bool true), T 22]])
 (.cond (T 23)
 (.seq (.region [I 24 (.callv) [F 41],
    I 6 (.mv) [T 24]])
  (.ret))
 (.skip)))
 (.seq (.region [I 25 (.callv) [F 42],
   I 7 (.mv) [T 25]])
 (.seq (.region [I 27 (.mv) [T 7],
   I 28 (.callv) [F 43, T 27, N 1],
   I 26 (.mv) [T 28],
   I 29 (.extract 0) [T 26],
   I 30 (.extract 1) [T 26],
   I 8 (.mv) [T 29],
   I 9 (.mv) [T 30]])
 (.seq (.seq (.region [I 31 (.mv) [T 9],
   I 32 (.bin .neq) [T 31, N 0],
   I 33 (.mv) [T 32],
   IG 34 (.mv) [T 7] 33 false,
   IG 35 (.mv) [T 8] 33 false,
   IG 36 (.mv) [T 0] 33 false,
   IG 37 (.callv) [F 45, T 36] 33 false,
   IG 38 (.callv) [F 44, T 34, T 35, N 0, T 37] 33 false,
   IG 39 (.bin .neq) [T 38, N 0] 33 false,
   I 40 (.pick) [T 33, .lit (.bool true), T 39]])
 (.cond (T 40)
 (.seq (.region [I 6 (.mv) [.lit (.bool false)]])
  (.ret))
 (.skip)))
 (.seq (.region [I 41 (.mv) [T 2],
   I 42 (.bin .rem) [T 41, .lit (.int .u64 9)],
   I 43 (.conv .i64) [T 42],
   I 44 (.bin .add) [N 1, T 43],
   I 10 (.mv) [T 44]])
 (.seq (.seq (.region [I 45 (.mv) [T 7],
   I 46 (.mv) [T 10],
   I 47 (.callv) [F 48, T 45, T 46],
   I 48 (.bin .neq) [T 47, N 0]])
 (.cond (T 48)
 (.seq (.region [I 6 (.mv) [.lit (.bool false)]])
  (.ret))
 (.skip)))
 (.seq (.seq (.region [I 11 (.mv) [N 1]])
 (.block 0 (.loop c_law10_FileKeeps_L0)))
 (.seq (.seq (.region [I 62 (.mv) [T 7],
   I 63 (.mv) [T 8],
   I 64 (.mv) [T 1],
   I 65 (.callv) [F 45, T 64],
   I 66 (.callv) [F 44, T 62, T 63, N 0, T 65],
   I 67 (.bin .neq) [T 66, N 6]])
 (.cond (T 67)
 (.seq (.region [I 6 (.mv) [.lit (.bool false)]])
  (.ret))
 (.skip)))
 (.seq (.region [I 69 (.mv) [T 7],
   I 70 (.mv) [T 8],
   I 71 (.callv) [F 47, T 69, T 70, N 0],
   I 68 (.mv) [T 71],
   I 72 (.extract 0) [T 68],
   I 73 (.extract 1) [T 68],
   I 14 (.mv) [T 72],
   I 15 (.mv) [T 73]])
 (.seq (.region [I 74 (.mv) [T 15],
   I 75 (.bin .eql) [T 74, N 0],
   I 76 (.mv) [T 75],
   IG 77 (.mv) [T 14] 76 true,
   IG 78 (.mv) [T 0] 76 true,
   IG 79 (.callv) [F 45, T 78] 76 true,
   IG 80 (.callv) [F 32, T 77, T 79] 76 true,
   I 81 (.pick) [T 76, T 80, .lit (.bool false)],
   I 82 (.mv) [T 81],
   IG 83 (.mv) [T 7] 82 true,
   IG 84 (.mv) [T 8] 82 true,
   IG 85 (.mv) [T 1] 82 true,
   IG 86 (.callv) [F 45, T 85] 82 true,
   IG 87 (.callv) [F 44, T 83, T 84, N 0, T 86] 82 true,
   IG 88 (.bin .eql) [T 87, N 0] 82 true,
   I 89 (.pick) [T 82, T 88, .lit (.bool false)],
   I 90 (.mv) [T 89],
   IG 91 (.callv) [F 41] 90 true,
   I 92 (.pick) [T 90, T 91, .lit (.bool false)],
   I 6 (.mv) [T 92]])
 (.ret)))))))))))⟩
theorem t9 : trFn Try.prog Try.f9 = some c_law10_FileKeeps := by kernel_rfl

/-- pantry/pantrylaw10.FileMany -/
abbrev n_law10_FileMany : Nat := 10
/-- live: [3, 4, 5] -/
def c_law10_FileMany_L0 : ACode :=
 .seq (.seq (.region [I 16 (.mv) [T 5],
   I 17 (.bin .leq) [T 16, N 16]])
 (.cond (T 17)
 (.skip)
 (.exit 0)))
 (.seq (.block 1 (.seq (.region [I 21 (.mv) [T 3],
   I 22 (.mv) [T 4],
   I 23 (.callv) [F 43, T 21, T 22],
   I 20 (.mv) [T 23],
   I 24 (.extract 0) [T 20],
   I 25 (.extract 1) [T 20],
   I 6 (.mv) [T 24],
   I 7 (.mv) [T 25]])
 (.seq (.region [I 26 (.mv) [T 6],
   I 27 (.mv) [T 5],
   I 28 (.bin .neq) [T 26, T 27],
   I 29 (.mv) [T 28],
   IG 30 (.mv) [T 7] 29 false,
   IG 31 (.bin .neq) [T 30, N 0] 29 false,
   I 32 (.pick) [T 29, .lit (.bool true), T 31]])
 (.cond (T 32)
 (.seq (.region [I 2 (.mv) [.lit (.bool false)]])
  (.ret))
 (.skip)))))
 (.region [I 18 (.mv) [T 5],
   I 19 (.bin .add) [T 18, N 1],
   I 5 (.mv) [T 19]]))
def c_law10_FileMany : AFn := ⟨63, [.tmp 2],
 .seq (.region [I 2 (.mv) [.lit (.bool false)]])
 (.seq (.region [I 12 (.callv) [F 42],
   I 3 (.mv) [T 12]])
 (.seq (.region [I 13 (.mv) [T 0],
   I 14 (.bin .rem) [T 13, .lit (.int .u64 4097)],
   I 15 (.conv .i64) [T 14],
   I 4 (.mv) [T 15]])
 (.seq (.seq (.region [I 5 (.mv) [N 1]])
 (.block 0 (.loop c_law10_FileMany_L0)))
 (.seq (.region [I 34 (.mv) [T 3],
   I 35 (.mv) [T 4],
   I 36 (.callv) [F 43, T 34, T 35],
   I 33 (.mv) [T 36],
   I 37 (.extract 0) [T 33],
   I 38 (.extract 1) [T 33],
   I 8 (.mv) [T 37],
   I 9 (.mv) [T 38]])
 (.seq (.region [I 40 (.mv) [T 3],
   I 41 (.callv) [F 49, T 40, N 16],
   I 39 (.mv) [T 41],
   I 42 (.extract 0) [T 39],
   I 43 (.extract 1) [T 39],
   I 10 (.mv) [T 42],
   I 11 (.mv) [T 43]])
 (.seq (.region [I 44 (.mv) [T 9],
   I 45 (.bin .eql) [T 44, N 5],
   I 46 (.mv) [T 45],
   IG 47 (.mv) [T 11] 46 true,
   I 48 (.pick) [T 46, T 47, .lit (.bool false)],
   I 49 (.mv) [T 48],
   IG 50 (.mv) [T 10] 49 true,
   IG 51 (.mv) [T 4] 49 true,
   IG 52 (.bin .eql) [T 50, T 51] 49 true,
   I 53 (.pick) [T 49, T 52, .lit (.bool false)],
   I 54 (.mv) [T 53],
   IG 55 (.mv) [T 3] 54 true,
   IG 56 (.callv) [F 50, T 55] 54 true,
   IG 57 (.lens) [T 56] 54 true,
   IG 58 (.bin .eql) [T 57, N 16] 54 true,
   I 59 (.pick) [T 54, T 58, .lit (.bool false)],
   I 60 (.mv) [T 59],
   IG 61 (.callv) [F 41] 60 true,
   I 62 (.pick) [T 60, T 61, .lit (.bool false)],
   I 2 (.mv) [T 62]])
 (.ret)))))))⟩
theorem t10 : trFn Try.prog Try.f10 = some c_law10_FileMany := by kernel_rfl

/-- pantry/pantrylaw10.FilePages -/
abbrev n_law10_FilePages : Nat := 11
/-- live: [3, 6, 33, 34, 35] -/
def c_law10_FilePages_L0 : ACode :=
 .seq (.region [I 36 (.bin .lss) [T 35, T 34]])
 (.seq (.cond (T 36)
 (.skip)
 (.exit 0))
 (.seq (.block 1 (.seq (.region [I 37 (.mv) [T 35],
   I 38 (.indexs 2) [T 33, T 35],
   I 39 (.loadn 2) [T 38],
   I 8 (.alloc 43 2 (.vals [(.int .u64 0), (.int .u64 0)])) [],
   I 7 (.mv) [T 37],
   J (.store 2) [T 8, T 39]])
 (.seq (.region [I 40 (.indexa 2 1) [T 8, N 0],
   I 41 (.load1) [T 40],
   I 42 (.bin .rem) [T 41, .lit (.int .u64 6)],
   I 9 (.mv) [T 42]])
 (.seq (.seq (.region [I 43 (.mv) [T 3],
   I 44 (.mv) [T 9],
   I 45 (.conv .i64) [T 44],
   I 46 (.indexa 2 1) [T 8, N 1],
   I 47 (.load1) [T 46],
   I 48 (.conv .u8) [T 47],
   I 49 (.mv) [T 7],
   I 50 (.conv .u8) [T 49],
   I 51 (.bslice 5 1 2 (.bytes 1 0) [0, 1]) [T 48, T 50],
   I 52 (.callv) [F 45, T 51],
   I 53 (.callv) [F 44, T 43, N 1, T 45, T 52],
   I 54 (.bin .neq) [T 53, N 0]])
 (.cond (T 54)
 (.seq (.region [I 2 (.mv) [.lit (.bool false)]])
  (.ret))
 (.skip)))
 (.region [I 55 (.mv) [T 9],
   I 56 (.indexa 2 1) [T 8, N 1],
   I 57 (.load1) [T 56],
   I 58 (.conv .u8) [T 57],
   I 59 (.indexa 6 1) [T 6, T 55],
   J (.store 1) [T 59, T 58]])))))
 (.region [I 60 (.bin .add) [T 35, N 1],
   I 35 (.mv) [T 60]])))
/-- live: [3, 64, 65] -/
def c_law10_FilePages_L1 : ACode :=
 .seq (.region [I 66 (.bin .lss) [T 65, N 6]])
 (.seq (.cond (T 66)
 (.skip)
 (.exit 2))
 (.seq (.block 3 (.seq (.region [I 67 (.mv) [T 65],
   I 68 (.indexv 6 1 false) [T 64, T 65],
   I 10 (.mv) [T 67],
   I 11 (.mv) [T 68]])
 (.seq (.region [I 69 (.mv) [T 3],
   I 70 (.mv) [T 10],
   I 71 (.callv) [F 51, T 69, N 1, T 70],
   I 12 (.mv) [T 71]])
 (.seq (.region [I 72 (.mv) [T 12],
   I 73 (.lens) [T 72],
   I 74 (.bin .neq) [T 73, N 4096],
   I 75 (.mv) [T 74],
   IG 76 (.mv) [T 12] 75 false,
   IG 77 (.indexs 1) [T 76, N 0] 75 false,
   IG 78 (.load1) [T 77] 75 false,
   IG 79 (.mv) [T 11] 75 false,
   IG 80 (.bin .neq) [T 78, T 79] 75 false,
   I 81 (.pick) [T 75, .lit (.bool true), T 80]])
 (.cond (T 81)
 (.seq (.region [I 2 (.mv) [.lit (.bool false)]])
  (.ret))
 (.skip))))))
 (.region [I 82 (.bin .add) [T 65, N 1],
   I 65 (.mv) [T 82]])))
def c_law10_FilePages : AFn := ⟨112, [.tmp 2],
 .seq (.region [I 2 (.mv) [.lit (.bool false)]])
 (.seq (.seq (.region [I 17 (.mv) [T 0],
   I 18 (.lens) [T 17],
   I 19 (.bin .gtr) [T 18, N 60]])
 (.cond (T 19)
 (.seq (.region [I 20 (.callv) [F 41],
    I 2 (.mv) [T 20]])
  (.ret))
 (.skip)))
 (.seq (.region [I 21 (.callv) [F 42],
   I 3 (.mv) [T 21]])
 (.seq (.seq (.region [I 23 (.mv) [T 3],
   I 24 (.callv) [F 43, T 23, N 6],
   I 22 (.mv) [T 24],
   I 25 (.extract 0) [T 22],
   I 26 (.extract 1) [T 22],
   I 4 (.mv) [T 25],
   I 5 (.mv) [T 26]])
 (.seq (.region [I 27 (.mv) [T 4],
   I 28 (.bin .neq) [T 27, N 1],
   I 29 (.mv) [T 28],
   IG 30 (.mv) [T 5] 29 false,
   IG 31 (.bin .neq) [T 30, N 0] 29 false,
   I 32 (.pick) [T 29, .lit (.bool true), T 31]])
 (.cond (T 32)
 (.seq (.region [I 2 (.mv) [.lit (.bool false)]])
  (.ret))
 (.skip))))
 (.seq (.region [I 6 (.alloc 81 6 (.bytes 6 0)) []])
 (.seq (.seq (.region [I 33 (.mv) [T 0],
   I 34 (.lens) [T 33],
   I 35 (.mv) [N 0]])
 (.block 0 (.loop c_law10_FilePages_L0)))
 (.seq (.seq (.region [I 61 (.mv) [T 3],
   I 62 (.callv) [F 48, T 61, N 1],
   I 63 (.bin .neq) [T 62, N 0]])
 (.cond (T 63)
 (.seq (.region [I 2 (.mv) [.lit (.bool false)]])
  (.ret))
 (.skip)))
 (.seq (.seq (.region [I 64 (.loadn 6) [T 6],
   I 65 (.mv) [N 0]])
 (.block 2 (.loop c_law10_FilePages_L1)))
 (.seq (.region [I 84 (.mv) [T 3],
   I 85 (.callv) [F 47, T 84, N 1, N 0],
   I 83 (.mv) [T 85],
   I 86 (.extract 0) [T 83],
   I 87 (.extract 1) [T 83],
   I 13 (.mv) [T 86],
   I 14 (.mv) [T 87]])
 (.seq (.region [I 89 (.mv) [T 3],
   I 90 (.callv) [F 47, T 89, N 1, N 6],
   I 88 (.mv) [T 90],
   I 91 (.extract 0) [T 88],
   I 92 (.extract 1) [T 88],
   I 15 (.mv) [T 91],
   I 16 (.mv) [T 92]])
 (.seq (.region [I 93 (.mv) [T 14],
   I 94 (.bin .eql) [T 93, N 6],
   I 95 (.mv) [T 94],
   IG 96 (.mv) [T 16] 95 true,
   IG 97 (.bin .eql) [T 96, N 2] 95 true,
   I 98 (.pick) [T 95, T 97, .lit (.bool false)],
   I 99 (.mv) [T 98],
   IG 100 (.mv) [T 3] 99 true,
   IG 101 (.callv) [F 51, T 100, N 1, N 6] 99 true,
   IG 102 (.lens) [T 101] 99 true,
   IG 103 (.mv) [T 3] 99 true,
   IG 104 (.callv) [F 51, T 103, N 2, N 0] 99 true,
   IG 105 (.lens) [T 104] 99 true,
   IG 106 (.bin .add) [T 102, T 105] 99 true,
   IG 107 (.bin .eql) [T 106, N 0] 99 true,
   I 108 (.pick) [T 99, T 107, .lit (.bool false)],
   I 109 (.mv) [T 108],
   IG 110 (.callv) [F 41] 109 true,
   I 111 (.pick) [T 109, T 110, .lit (.bool false)],
   I 2 (.mv) [T 111]])
 (.ret)))))))))))⟩
theorem t11 : trFn Try.prog Try.f11 = some c_law10_FilePages := by kernel_rfl

/-- pantry/pantrylaw10.FileActs -/
abbrev n_law10_FileActs : Nat := 12
/-- live: [3, 4, 29, 30, 31] -/
def c_law10_FileActs_L0 : ACode :=
 .seq (.region [I 32 (.bin .lss) [T 31, T 30]])
 (.seq (.cond (T 32)
 (.skip)
 (.exit 0))
 (.seq (.block 1 (.seq (.region [I 33 (.indexs 5) [T 29, T 31],
   I 34 (.loadn 5) [T 33],
   I 6 (.alloc 91 5 (.vals [(.int .i64 0), (.int .i64 0), (.int .i64 0), .nilsl, (.bool false)])) [],
   J (.store 5) [T 6, T 34]])
 (.seq (.region [I 7 (.mv) [.lit (.bool true)]])
 (.seq (.seq (.region [I 35 (.fieldAddr 0) [T 6],
   I 36 (.load1) [T 35]])
 (.block 2 (.seq (.region [I 38 (.bin .eql) [T 36, N 0],
   I 37 (.mv) [T 38]])
 (.cond (T 37)
 (.seq (.region [I 40 (.mv) [T 3],
    I 41 (.fieldAddr 2) [T 6],
    I 42 (.load1) [T 41],
    I 43 (.callv) [F 43, T 40, T 42],
    I 39 (.mv) [T 43],
    I 44 (.extract 0) [T 39],
    I 45 (.extract 1) [T 39],
    I 8 (.mv) [T 44],
    I 9 (.mv) [T 45]])
  (.seq (.region [I 47 (.mv) [T 4],
    I 48 (.fieldAddr 2) [T 6],
    I 49 (.load1) [T 48],
    I 50 (.callv) [F 53, T 47, T 49],
    I 46 (.mv) [T 50],
    I 51 (.extract 0) [T 46],
    I 52 (.extract 1) [T 46],
    I 10 (.mv) [T 51],
    I 11 (.mv) [T 52]])
  (.region [I 53 (.mv) [T 8],
    I 54 (.mv) [T 10],
    I 55 (.bin .eql) [T 53, T 54],
    I 56 (.mv) [T 55],
    IG 57 (.mv) [T 9] 56 true,
    IG 58 (.mv) [T 11] 56 true,
    IG 59 (.bin .eql) [T 57, T 58] 56 true,
    I 60 (.pick) [T 56, T 59, .lit (.bool false)],
    I 7 (.mv) [T 60]])))
 (.seq (.region [I 62 (.bin .eql) [T 36, N 1],
    I 61 (.mv) [T 62]])
  (.cond (T 61)
  (.draw [[⟨0, I 63 (.mv) [T 3], [], false⟩,
     ⟨1, I 64 (.fieldAddr 1) [T 6], [], false⟩,
     ⟨2, I 65 (.load1) [T 64], [], false⟩,
     ⟨3, I 66 (.fieldAddr 2) [T 6], [], false⟩,
     ⟨4, I 67 (.load1) [T 66], [], false⟩,
     ⟨6, I 69 (.mv) [T 4], [], false⟩,
     ⟨7, I 70 (.fieldAddr 1) [T 6], [], false⟩,
     ⟨8, I 71 (.load1) [T 70], [], false⟩,
     ⟨9, I 72 (.fieldAddr 2) [T 6], [], false⟩,
     ⟨10, I 73 (.load1) [T 72], [], false⟩,
     ⟨5, I 68 (.callv) [F 46, T 63, T 65, T 67], [(8, I 71 (.load1) [T 70]), (10, I 73 (.load1) [T 72])], false⟩,
     ⟨11, I 74 (.callv) [F 54, T 69, T 71, T 73], [], false⟩,
     ⟨12, I 75 (.bin .eql) [T 68, T 74], [], false⟩,
     ⟨13, I 7 (.mv) [T 75], [], false⟩]])
  (.seq (.region [I 77 (.bin .eql) [T 36, N 2],
     I 76 (.mv) [T 77]])
   (.cond (T 76)
   (.seq (.region [I 79 (.mv) [T 3],
      I 80 (.fieldAddr 1) [T 6],
      I 81 (.load1) [T 80],
      I 82 (.fieldAddr 2) [T 6],
      I 83 (.load1) [T 82],
      I 84 (.callv) [F 47, T 79, T 81, T 83],
      I 78 (.mv) [T 84],
      I 85 (.extract 0) [T 78],
      I 86 (.extract 1) [T 78],
      I 12 (.mv) [T 85],
      I 13 (.mv) [T 86]])
    (.seq (.region [I 88 (.mv) [T 4],
      I 89 (.fieldAddr 1) [T 6],
      I 90 (.load1) [T 89],
      I 91 (.fieldAddr 2) [T 6],
      I 92 (.load1) [T 91],
      I 93 (.callv) [F 55, T 88, T 90, T 92],
      I 87 (.mv) [T 93],
      I 94 (.extract 0) [T 87],
      I 95 (.extract 1) [T 87],
      I 14 (.mv) [T 94],
      I 15 (.mv) [T 95]])
    (.region [I 96 (.mv) [T 12],
      I 97 (.mv) [T 14],
      I 98 (.callv) [F 32, T 96, T 97],
      I 99 (.mv) [T 98],
      IG 100 (.mv) [T 13] 99 true,
      IG 101 (.mv) [T 15] 99 true,
      IG 102 (.bin .eql) [T 100, T 101] 99 true,
      I 103 (.pick) [T 99, T 102, .lit (.bool false)],
      I 7 (.mv) [T 103]])))
   (.seq (.region [I 105 (.bin .eql) [T 36, N 3],
      I 104 (.mv) [T 105]])
    (.cond (T 104)
    (.draw [[⟨0, I 106 (.mv) [T 3], [], false⟩,
       ⟨1, I 107 (.fieldAddr 1) [T 6], [], false⟩,
       ⟨2, I 108 (.load1) [T 107], [], false⟩,
       ⟨3, I 109 (.fieldAddr 2) [T 6], [], false⟩,
       ⟨4, I 110 (.load1) [T 109], [], false⟩,
       ⟨5, I 111 (.loadn 5) [T 6], [], false⟩,
       ⟨8, I 114 (.mv) [T 4], [], false⟩,
       ⟨9, I 115 (.fieldAddr 1) [T 6], [], false⟩,
       ⟨10, I 116 (.load1) [T 115], [], false⟩,
       ⟨11, I 117 (.fieldAddr 2) [T 6], [], false⟩,
       ⟨12, I 118 (.load1) [T 117], [], false⟩,
       ⟨13, I 119 (.loadn 5) [T 6], [], false⟩,
       ⟨6, I 112 (.callv) [F 56, T 111], [(2, I 108 (.load1) [T 107]), (4, I 110 (.load1) [T 109]), (10, I 116 (.load1) [T 115]), (12, I 118 (.load1) [T 117]), (13, I 119 (.loadn 5) [T 6])], false⟩,
       ⟨7, I 113 (.callv) [F 44, T 106, T 108, T 110, T 112], [(10, I 116 (.load1) [T 115]), (12, I 118 (.load1) [T 117]), (13, I 119 (.loadn 5) [T 6])], false⟩,
       ⟨14, I 120 (.callv) [F 56, T 119], [(10, I 116 (.load1) [T 115]), (12, I 118 (.load1) [T 117])], false⟩,
       ⟨15, I 121 (.callv) [F 57, T 114, T 116, T 118, T 120], [], false⟩,
       ⟨16, I 122 (.bin .eql) [T 113, T 121], [], false⟩,
       ⟨17, I 7 (.mv) [T 122], [], false⟩]])
    (.seq (.region [I 124 (.bin .eql) [T 36, N 4],
       I 123 (.mv) [T 124]])
     (.cond (T 123)
     (.draw [[⟨0, I 125 (.mv) [T 3], [], false⟩,
        ⟨1, I 126 (.fieldAddr 2) [T 6], [], false⟩,
        ⟨2, I 127 (.load1) [T 126], [], false⟩,
        ⟨4, I 129 (.mv) [T 4], [], false⟩,
        ⟨5, I 130 (.fieldAddr 2) [T 6], [], false⟩,
        ⟨6, I 131 (.load1) [T 130], [], false⟩,
        ⟨3, I 128 (.callv) [F 48, T 125, T 127], [(6, I 131 (.load1) [T 130])], false⟩,
        ⟨7, I 132 (.callv) [F 58, T 129, T 131], [], false⟩,
        ⟨8, I 133 (.bin .eql) [T 128, T 132], [], false⟩,
        ⟨9, I 7 (.mv) [T 133], [], false⟩]])
     (.skip)))))))))))))
 (.seq (.region [I 135 (.mv) [T 3],
   I 136 (.fieldAddr 1) [T 6],
   I 137 (.load1) [T 136],
   I 138 (.callv) [F 49, T 135, T 137],
   I 134 (.mv) [T 138],
   I 139 (.extract 0) [T 134],
   I 140 (.extract 1) [T 134],
   I 16 (.mv) [T 139],
   I 17 (.mv) [T 140]])
 (.seq (.region [I 142 (.mv) [T 4],
   I 143 (.fieldAddr 1) [T 6],
   I 144 (.load1) [T 143],
   I 145 (.callv) [F 59, T 142, T 144],
   I 141 (.mv) [T 145],
   I 146 (.extract 0) [T 141],
   I 147 (.extract 1) [T 141],
   I 18 (.mv) [T 146],
   I 19 (.mv) [T 147]])
 (.seq (.draw [(⟨0, I 148 (.mv) [T 7], [], false⟩ ::
   ⟨1, I 149 (.un .not) [T 148], [], false⟩ ::
   ⟨2, I 150 (.mv) [T 149], [], false⟩ ::
   ⟨3, IG 151 (.mv) [T 3] 150 false, [], false⟩ ::
   ⟨4, IG 152 (.fieldAddr 1) [T 6] 150 false, [], false⟩ ::
   ⟨5, IG 153 (.load1) [T 152] 150 false, [], false⟩ ::
   ⟨6, IG 154 (.fieldAddr 2) [T 6] 150 false, [], false⟩ ::
   ⟨7, IG 155 (.load1) [T 154] 150 false, [], false⟩ ::
   ⟨9, IG 157 (.mv) [T 4] 150 false, [], false⟩ ::
   ⟨10, IG 158 (.fieldAddr 1) [T 6] 150 false, [], false⟩ ::
   ⟨11, IG 159 (.load1) [T 158] 150 false, [], false⟩ ::
   ⟨12, IG 160 (.fieldAddr 2) [T 6] 150 false, [], false⟩ ::
   ⟨13, IG 161 (.load1) [T 160] 150 false, [], false⟩ ::
   ⟨8, IG 156 (.callv) [F 51, T 151, T 153, T 155] 150 false, [(11, IG 159 (.load1) [T 158] 150 false), (13, IG 161 (.load1) [T 160] 150 false)], false⟩ ::
   ⟨14, IG 162 (.callv) [F 60, T 157, T 159, T 161] 150 false, [], false⟩ ::
   ⟨15, IG 163 (.callv) [F 32, T 156, T 162] 150 false, [], false⟩ ::
   ⟨16, IG 164 (.un .not) [T 163] 150 false, [], false⟩ ::
   ⟨17, I 165 (.pick) [T 150, .lit (.bool true), T 164], [], false⟩ ::
   ⟨18, I 166 (.mv) [T 165], [], false⟩ ::
   ⟨19, IG 167 (.mv) [T 16] 166 false, [], false⟩ ::
   ⟨20, IG 168 (.mv) [T 18] 166 false, [], false⟩ ::
   ⟨21, IG 169 (.bin .neq) [T 167, T 168] 166 false, [], false⟩ ::
   ⟨22, I 170 (.pick) [T 166, .lit (.bool true), T 169], [], false⟩ ::
   ⟨23, I 171 (.mv) [T 170], [], false⟩ ::
   ⟨24, IG 172 (.mv) [T 17] 171 false, [], false⟩ ::
   ⟨25, IG 173 (.mv) [T 19] 171 false, [], false⟩ ::
   ⟨26, IG 174 (.eqv true (.scal .bool)) [T 172, T 173] 171 false, [], false⟩ ::
   ⟨27, I 175 (.pick) [T 171, .lit (.bool true), T 174], [], false⟩ ::
   ⟨28, I 176 (.mv) [T 175], [], false⟩ ::
   ⟨29, IG 177 (.mv) [T 3] 176 false, [], false⟩ ::
   ⟨32, IG 180 (.mv) [T 4] 176 false, [], false⟩ ::
   ⟨33, IG 181 (.nilCheck) [T 180] 176 false, [], false⟩ ::
   ⟨34, IG 182 (.fieldAddr 0) [T 181] 176 false, [], false⟩ ::
   ⟨35, IG 183 (.load1) [T 182] 176 false, [], false⟩ ::
   ⟨36, IG 184 (.lens) [T 183] 176 false, [], false⟩ ::
   ⟨30, IG 178 (.callv) [F 50, T 177] 176 false, [(35, IG 183 (.load1) [T 182] 176 false)], false⟩ ::
   ⟨31, IG 179 (.lens) [T 178] 176 false, [], false⟩ ::
   ⟨37, IG 185 (.bin .neq) [T 179, T 184] 176 false, [], false⟩ ::
   ⟨38, I 186 (.pick) [T 176, .lit (.bool true), T 185], [], false⟩ ::
   [])])
 (.cond (T 186)
 (.seq (.region [I 2 (.mv) [.lit (.bool false)]])
  (.ret))
 (.skip)))))))))
 (.region [I 187 (.bin .add) [T 31, N 1],
   I 31 (.mv) [T 187]])))
/-- live: [189, 190, 191] -/
def c_law10_FileActs_L1 : ACode :=
 .seq (.region [I 192 (.bin .lss) [T 191, T 190]])
 (.seq (.cond (T 192)
 (.skip)
 (.exit 3))
 (.seq (.block 4 (.seq (.region [I 193 (.mv) [T 191],
   I 194 (.indexs 1) [T 189, T 191],
   I 195 (.load1) [T 194],
   I 20 (.mv) [T 193],
   I 21 (.mv) [T 195]])
 (.seq (.region [I 196 (.mv) [T 21],
   I 197 (.mv) [T 20],
   I 198 (.bin .add) [T 197, N 1],
   I 199 (.bin .neq) [T 196, T 198]])
 (.cond (T 199)
 (.seq (.region [I 2 (.mv) [.lit (.bool false)]])
  (.ret))
 (.skip)))))
 (.region [I 200 (.bin .add) [T 191, N 1],
   I 191 (.mv) [T 200]])))
def c_law10_FileActs : AFn := ⟨202, [.tmp 2],
 .seq (.region [I 2 (.mv) [.lit (.bool false)]])
 (.seq (.seq (.region [I 22 (.mv) [T 0],
   I 23 (.callv) [F 52, T 22],
   I 24 (.un .not) [T 23]])
 (.cond (T 24)
 (.seq (.region [I 25 (.callv) [F 41],
    I 2 (.mv) [T 25]])
  (.ret))
 (.skip)))
 (.seq (.region [I 26 (.callv) [F 42],
   I 27 (.build (.agg [.nilsl, .nilsl, (.int .i64 0)]) []) [],
   I 28 (.box 89 3) [T 27],
   I 3 (.mv) [T 26],
   I 4 (.mv) [T 28]])
 (.seq (.seq (.region [I 29 (.mv) [T 0],
   I 30 (.lens) [T 29],
   I 31 (.mv) [N 0]])
 (.block 0 (.loop c_law10_FileActs_L0)))
 (.seq (.seq (.region [I 188 (.mv) [T 3],
   I 189 (.callv) [F 50, T 188],
   I 190 (.lens) [T 189],
   I 191 (.mv) [N 0]])
 (.block 3 (.loop c_law10_FileActs_L1)))
 (.seq (.region [I 201 (.callv) [F 41],
   I 2 (.mv) [T 201]])
 (.ret))))))⟩
theorem t12 : trFn Try.prog Try.f12 = some c_law10_FileActs := by kernel_rfl

/-- pantry/pantrylaw10.FileNone -/
abbrev n_law10_FileNone : Nat := 13
/-- live: [1, 17, 18] -/
def c_law10_FileNone_L0 : ACode :=
 .seq (.region [I 19 (.bin .lss) [T 18, N 2]])
 (.seq (.cond (T 19)
 (.skip)
 (.exit 0))
 (.seq (.block 1 (.seq (.region [I 20 (.indexv 2 1 false) [T 17, T 18],
   I 5 (.mv) [T 20]])
 (.seq (.region [I 22 (.mv) [T 5],
   I 23 (.fieldAddr 2) [T 1],
   I 24 (.load1) [T 23],
   I 25 (.callv) [F 43, T 22, T 24],
   I 21 (.mv) [T 25],
   I 26 (.extract 0) [T 21],
   I 27 (.extract 1) [T 21],
   I 6 (.mv) [T 26],
   I 7 (.mv) [T 27]])
 (.seq (.region [I 29 (.mv) [T 5],
   I 30 (.fieldAddr 1) [T 1],
   I 31 (.load1) [T 30],
   I 32 (.fieldAddr 2) [T 1],
   I 33 (.load1) [T 32],
   I 34 (.callv) [F 47, T 29, T 31, T 33],
   I 28 (.mv) [T 34],
   I 35 (.extract 0) [T 28],
   I 36 (.extract 1) [T 28],
   I 8 (.mv) [T 35],
   I 9 (.mv) [T 36]])
 (.seq (.region [I 38 (.mv) [T 5],
   I 39 (.fieldAddr 1) [T 1],
   I 40 (.load1) [T 39],
   I 41 (.callv) [F 49, T 38, T 40],
   I 37 (.mv) [T 41],
   I 42 (.extract 0) [T 37],
   I 43 (.extract 1) [T 37],
   I 10 (.mv) [T 42],
   I 11 (.mv) [T 43]])
 (.seq (.draw [(⟨0, I 44 (.mv) [T 7], [], false⟩ ::
   ⟨1, I 45 (.bin .neq) [T 44, N 1], [], false⟩ ::
   ⟨2, I 46 (.mv) [T 45], [], false⟩ ::
   ⟨3, IG 47 (.mv) [T 9] 46 false, [], false⟩ ::
   ⟨4, IG 48 (.bin .neq) [T 47, N 1] 46 false, [], false⟩ ::
   ⟨5, I 49 (.pick) [T 46, .lit (.bool true), T 48], [], false⟩ ::
   ⟨6, I 50 (.mv) [T 49], [], false⟩ ::
   ⟨7, IG 51 (.mv) [T 11] 50 false, [], false⟩ ::
   ⟨8, I 52 (.pick) [T 50, .lit (.bool true), T 51], [], false⟩ ::
   ⟨9, I 53 (.mv) [T 52], [], false⟩ ::
   ⟨10, IG 54 (.mv) [T 5] 53 false, [], false⟩ ::
   ⟨11, IG 55 (.fieldAddr 1) [T 1] 53 false, [], false⟩ ::
   ⟨12, IG 56 (.load1) [T 55] 53 false, [], false⟩ ::
   ⟨13, IG 57 (.fieldAddr 2) [T 1] 53 false, [], false⟩ ::
   ⟨14, IG 58 (.load1) [T 57] 53 false, [], false⟩ ::
   ⟨15, IG 59 (.loadn 5) [T 1] 53 false, [], false⟩ ::
   ⟨16, IG 60 (.callv) [F 56, T 59] 53 false, [(12, IG 56 (.load1) [T 55] 53 false), (14, IG 58 (.load1) [T 57] 53 false)], false⟩ ::
   ⟨17, IG 61 (.callv) [F 44, T 54, T 56, T 58, T 60] 53 false, [], false⟩ ::
   ⟨18, IG 62 (.bin .neq) [T 61, N 1] 53 false, [], false⟩ ::
   ⟨19, I 63 (.pick) [T 53, .lit (.bool true), T 62], [], false⟩ ::
   ⟨20, I 64 (.mv) [T 63], [], false⟩ ::
   ⟨21, IG 65 (.mv) [T 5] 64 false, [], false⟩ ::
   ⟨22, IG 66 (.fieldAddr 1) [T 1] 64 false, [], false⟩ ::
   ⟨23, IG 67 (.load1) [T 66] 64 false, [], false⟩ ::
   ⟨24, IG 68 (.fieldAddr 2) [T 1] 64 false, [], false⟩ ::
   ⟨25, IG 69 (.load1) [T 68] 64 false, [], false⟩ ::
   ⟨26, IG 70 (.callv) [F 46, T 65, T 67, T 69] 64 false, [], false⟩ ::
   ⟨27, IG 71 (.bin .neq) [T 70, N 1] 64 false, [], false⟩ ::
   ⟨28, I 72 (.pick) [T 64, .lit (.bool true), T 71], [], false⟩ ::
   ⟨29, I 73 (.mv) [T 72], [], false⟩ ::
   ⟨30, IG 74 (.mv) [T 5] 73 false, [], false⟩ ::
   ⟨31, IG 75 (.fieldAddr 2) [T 1] 73 false, [], false⟩ ::
   ⟨32, IG 76 (.load1) [T 75] 73 false, [], false⟩ ::
   ⟨33, IG 77 (.callv) [F 48, T 74, T 76] 73 false, [], false⟩ ::
   ⟨34, IG 78 (.bin .neq) [T 77, N 1] 73 false, [], false⟩ ::
   ⟨35, I 79 (.pick) [T 73, .lit (.bool true), T 78], [], false⟩ ::
   ⟨36, I 80 (.mv) [T 79], [], false⟩ ::
   ⟨37, IG 81 (.mv) [T 5] 80 false, [], false⟩ ::
   ⟨40, IG 84 (.mv) [T 5] 80 false, [], false⟩ ::
   ⟨41, IG 85 (.fieldAddr 1) [T 1] 80 false, [], false⟩ ::
   ⟨42, IG 86 (.load1) [T 85] 80 false, [], false⟩ ::
   ⟨43, IG 87 (.fieldAddr 2) [T 1] 80 false, [], false⟩ ::
   ⟨44, IG 88 (.load1) [T 87] 80 false, [], false⟩ ::
   ⟨38, IG 82 (.callv) [F 50, T 81] 80 false, [(42, IG 86 (.load1) [T 85] 80 false), (44, IG 88 (.load1) [T 87] 80 false)], false⟩ ::
   ⟨39, IG 83 (.lens) [T 82] 80 false, [], false⟩ ::
   ⟨45, IG 89 (.callv) [F 51, T 84, T 86, T 88] 80 false, [], false⟩ ::
   ⟨46, IG 90 (.lens) [T 89] 80 false, [], false⟩ ::
   ⟨47, IG 91 (.bin .add) [T 83, T 90] 80 false, [], false⟩ ::
   ⟨48, IG 92 (.bin .neq) [T 91, N 0] 80 false, [], false⟩ ::
   ⟨49, I 93 (.pick) [T 80, .lit (.bool true), T 92], [], false⟩ ::
   [])])
 (.cond (T 93)
 (.seq (.region [I 2 (.mv) [.lit (.bool false)]])
  (.ret))
 (.skip))))))))
 (.region [I 94 (.bin .add) [T 18, N 1],
   I 18 (.mv) [T 94]])))
def c_law10_FileNone : AFn := ⟨96, [.tmp 2],
 .seq (.region [I 1 (.box 91 5) [T 0],
   I 2 (.mv) [.lit (.bool false)]])
 (.seq (.seq (.region [I 12 (.loadn 5) [T 1],
   I 13 (.bslice 91 5 1 (.vals [(.int .i64 0), (.int .i64 0), (.int .i64 0), .nilsl, (.bool false)]) [0]) [T 12],
   I 14 (.callv) [F 52, T 13],
   I 15 (.un .not) [T 14]])
 (.cond (T 15)
 (.seq (.region [I 16 (.callv) [F 41],
    I 2 (.mv) [T 16]])
  (.ret))
 (.skip)))
 (.seq (.region [I 3 (.alloc 99 4 (.vals [(.bool false), .nilsl, .nilmap, (.int .i64 0)])) []])
 (.seq (.seq (.region [I 17 (.build (.agg [.nilptr, .nilptr]) [(0, 1), (1, 1)]) [.lit .nilptr, T 3],
   I 18 (.mv) [N 0]])
 (.block 0 (.loop c_law10_FileNone_L0)))
 (.seq (.region [I 95 (.callv) [F 41],
   I 2 (.mv) [T 95]])
 (.ret)))))⟩
theorem t13 : trFn Try.prog Try.f13 = some c_law10_FileNone := by kernel_rfl

/-- pantry/pantrylaw11.SpreadActs -/
abbrev n_law11_SpreadActs : Nat := 14
/-- live: [5, 6, 30, 31, 32] -/
def c_law11_SpreadActs_L0 : ACode :=
 .seq (.region [I 33 (.bin .lss) [T 32, T 31]])
 (.seq (.cond (T 33)
 (.skip)
 (.exit 0))
 (.seq (.block 1 (.seq (.region [I 34 (.indexs 4) [T 30, T 32],
   I 35 (.loadn 4) [T 34],
   I 8 (.alloc 108 4 (.vals [(.int .i64 0), (.int .i64 0), (.int .i64 0), (.bool false)])) [],
   J (.store 4) [T 8, T 35]])
 (.seq (.seq (.region [I 36 (.fieldAddr 3) [T 8],
   I 37 (.load1) [T 36]])
 (.cond (T 37)
 (.seq (.draw [[⟨0, I 38 (.mv) [T 5], [], false⟩,
    ⟨1, I 39 (.fieldAddr 1) [T 8], [], false⟩,
    ⟨2, I 40 (.load1) [T 39], [], false⟩,
    ⟨4, I 42 (.mv) [T 6], [], false⟩,
    ⟨5, I 43 (.fieldAddr 1) [T 8], [], false⟩,
    ⟨6, I 44 (.load1) [T 43], [], false⟩,
    ⟨3, I 41 (.callv) [F 64, T 38, T 40], [(6, I 44 (.load1) [T 43])], false⟩,
    ⟨7, I 45 (.callv) [F 65, T 42, T 44], [], false⟩,
    ⟨8, I 46 (.bin .neq) [T 41, T 45], [], false⟩]])
  (.cond (T 46)
  (.seq (.region [I 4 (.mv) [.lit (.bool false)]])
   (.ret))
  (.skip)))
 (.seq (.region [I 48 (.mv) [T 5],
    I 49 (.fieldAddr 0) [T 8],
    I 50 (.load1) [T 49],
    I 51 (.fieldAddr 1) [T 8],
    I 52 (.load1) [T 51],
    I 53 (.fieldAddr 2) [T 8],
    I 54 (.load1) [T 53],
    I 55 (.callv) [F 66, T 48, T 50, T 52, T 54],
    I 47 (.mv) [T 55],
    I 56 (.extract 0) [T 47],
    I 57 (.extract 1) [T 47],
    I 9 (.mv) [T 56],
    I 10 (.mv) [T 57]])
  (.seq (.region [I 59 (.mv) [T 6],
    I 60 (.fieldAddr 0) [T 8],
    I 61 (.load1) [T 60],
    I 62 (.fieldAddr 1) [T 8],
    I 63 (.load1) [T 62],
    I 64 (.fieldAddr 2) [T 8],
    I 65 (.load1) [T 64],
    I 66 (.callv) [F 67, T 59, T 61, T 63, T 65],
    I 58 (.mv) [T 66],
    I 67 (.extract 0) [T 58],
    I 68 (.extract 1) [T 58],
    I 11 (.mv) [T 67],
    I 12 (.mv) [T 68]])
  (.seq (.region [I 69 (.mv) [T 9],
    I 70 (.mv) [T 11],
    I 71 (.callv) [F 68, T 69, T 70],
    I 72 (.un .not) [T 71],
    I 73 (.mv) [T 72],
    IG 74 (.mv) [T 10] 73 false,
    IG 75 (.mv) [T 12] 73 false,
    IG 76 (.bin .neq) [T 74, T 75] 73 false,
    I 77 (.pick) [T 73, .lit (.bool true), T 76]])
  (.cond (T 77)
  (.seq (.region [I 4 (.mv) [.lit (.bool false)]])
   (.ret))
  (.skip)))))))
 (.seq (.draw [(⟨0, I 78 (.mv) [T 5], [], false⟩ ::
   ⟨2, I 80 (.mv) [T 6], [], false⟩ ::
   ⟨3, I 81 (.nilCheck) [T 80], [], false⟩ ::
   ⟨4, I 82 (.fieldAddr 0) [T 81], [], false⟩ ::
   ⟨5, I 83 (.load1) [T 82], [], false⟩ ::
   ⟨6, I 84 (.lens) [T 83], [], false⟩ ::
   ⟨1, I 79 (.callv) [F 69, T 78], [(5, I 83 (.load1) [T 82])], false⟩ ::
   ⟨7, I 85 (.bin .neq) [T 79, T 84], [], false⟩ ::
   ⟨8, I 86 (.mv) [T 85], [], false⟩ ::
   ⟨9, IG 87 (.mv) [T 5] 86 false, [], false⟩ ::
   ⟨10, IG 88 (.fieldAddr 0) [T 8] 86 false, [], false⟩ ::
   ⟨11, IG 89 (.load1) [T 88] 86 false, [], false⟩ ::
   ⟨13, IG 91 (.mv) [T 6] 86 false, [], false⟩ ::
   ⟨14, IG 92 (.fieldAddr 0) [T 8] 86 false, [], false⟩ ::
   ⟨15, IG 93 (.load1) [T 92] 86 false, [], false⟩ ::
   ⟨12, IG 90 (.callv) [F 70, T 87, T 89] 86 false, [(15, IG 93 (.load1) [T 92] 86 false)], false⟩ ::
   ⟨16, IG 94 (.callv) [F 71, T 91, T 93] 86 false, [], false⟩ ::
   ⟨17, IG 95 (.bin .neq) [T 90, T 94] 86 false, [], false⟩ ::
   ⟨18, I 96 (.pick) [T 86, .lit (.bool true), T 95], [], false⟩ ::
   ⟨19, I 97 (.mv) [T 96], [], false⟩ ::
   ⟨20, IG 98 (.mv) [T 5] 97 false, [], false⟩ ::
   ⟨22, IG 100 (.mv) [T 6] 97 false, [], false⟩ ::
   ⟨21, IG 99 (.callv) [F 72, T 98] 97 false, [], false⟩ ::
   ⟨23, IG 101 (.callv) [F 73, T 100] 97 false, [], false⟩ ::
   ⟨24, IG 102 (.bin .neq) [T 99, T 101] 97 false, [], false⟩ ::
   ⟨25, I 103 (.pick) [T 97, .lit (.bool true), T 102], [], false⟩ ::
   ⟨26, I 104 (.mv) [T 103], [], false⟩ ::
   ⟨27, IG 105 (.mv) [T 5] 104 false, [], false⟩ ::
   ⟨29, IG 107 (.mv) [T 6] 104 false, [], false⟩ ::
   ⟨28, IG 106 (.callv) [F 75, T 105] 104 false, [], false⟩ ::
   ⟨30, IG 108 (.callv) [F 76, T 107] 104 false, [], false⟩ ::
   ⟨31, IG 109 (.callv) [F 74, T 106, T 108] 104 false, [], false⟩ ::
   ⟨32, IG 110 (.un .not) [T 109] 104 false, [], false⟩ ::
   ⟨33, I 111 (.pick) [T 104, .lit (.bool true), T 110], [], false⟩ ::
   [])])
 (.cond (T 111)
 (.seq (.region [I 4 (.mv) [.lit (.bool false)]])
  (.ret))
 (.skip))))))
 (.region [I 112 (.bin .add) [T 32, N 1],
   I 32 (.mv) [T 112]])))
def c_law11_SpreadActs : AFn := ⟨114, [.tmp 4],
 .seq (.region [I 4 (.mv) [.lit (.bool false)]])
 (.seq (.region [I 13 (.mv) [T 0],
   I 14 (.callv) [F 61, T 13],
   I 15 (.mv) [T 0],
   I 16 (.callv) [F 62, T 15],
   I 5 (.mv) [T 14],
   I 6 (.mv) [T 16]])
 (.seq (.seq (.region [I 17 (.mv) [T 5],
   I 18 (.eqv false .ptr) [T 17, .lit .nilptr],
   I 19 (.mv) [T 6],
   I 20 (.eqv false .ptr) [T 19, .lit .nilptr],
   I 21 (.eqv true (.scal .bool)) [T 18, T 20]])
 (.cond (T 21)
 (.seq (.region [I 4 (.mv) [.lit (.bool false)]])
  (.ret))
 (.skip)))
 (.seq (.seq (.region [I 22 (.mv) [T 6],
   I 23 (.eqv false .ptr) [T 22, .lit .nilptr],
   I 24 (.mv) [T 23],
   IG 25 (.mv) [T 1] 24 false,
   IG 26 (.lens) [T 25] 24 false,
   IG 27 (.bin .gtr) [T 26, N 60] 24 false,
   I 28 (.pick) [T 24, .lit (.bool true), T 27]])
 (.cond (T 28)
 (.seq (.region [I 29 (.callv) [F 63],
    I 4 (.mv) [T 29]])
  (.ret))
 (.skip)))
 (.seq (.seq (.region [I 30 (.mv) [T 1],
   I 31 (.lens) [T 30],
   I 32 (.mv) [N 0]])
 (.block 0 (.loop c_law11_SpreadActs_L0)))
 (.seq (.region [I 113 (.callv) [F 63],
   I 4 (.mv) [T 113]])
 (.ret))))))⟩
theorem t14 : trFn Try.prog Try.f14 = some c_law11_SpreadActs := by kernel_rfl

/-- pantry/pantrylaw11.SpreadRuns -/
abbrev n_law11_SpreadRuns : Nat := 15
/-- live: [5, 6, 32, 33, 34] -/
def c_law11_SpreadRuns_L0 : ACode :=
 .seq (.region [I 35 (.bin .lss) [T 34, T 33]])
 (.seq (.cond (T 35)
 (.skip)
 (.exit 0))
 (.seq (.block 1 (.seq (.region [I 36 (.indexs 4) [T 32, T 34],
   I 37 (.loadn 4) [T 36],
   I 8 (.alloc 108 4 (.vals [(.int .i64 0), (.int .i64 0), (.int .i64 0), (.bool false)])) [],
   J (.store 4) [T 8, T 37]])
 (.region [I 38 (.mv) [T 6],
   I 39 (.fieldAddr 0) [T 8],
   I 40 (.load1) [T 39],
   I 41 (.fieldAddr 1) [T 8],
   I 42 (.load1) [T 41],
   I 43 (.fieldAddr 2) [T 8],
   I 44 (.load1) [T 43],
   I 45 (.callv) [F 66, T 38, T 40, T 42, T 44]])))
 (.region [I 46 (.bin .add) [T 34, N 1],
   I 34 (.mv) [T 46]])))
/-- live: [5, 6, 10, 11, 13, 14, 49, 50, 51] -/
def c_law11_SpreadRuns_L2 : ACode :=
 .seq (.seq (.region [I 95 (.mv) [T 14],
   I 96 (.fieldAddr 1) [T 13],
   I 97 (.load1) [T 96],
   I 98 (.bin .lss) [T 95, T 97]])
 (.cond (T 98)
 (.skip)
 (.exit 4)))
 (.seq (.block 5 (.seq (.draw [[⟨0, I 101 (.mv) [T 6], [], false⟩,
   ⟨1, I 102 (.mv) [T 14], [], false⟩,
   ⟨3, I 104 (.fieldAddr 2) [T 13], [], false⟩,
   ⟨4, I 105 (.load1) [T 104], [], false⟩,
   ⟨2, I 103 (.callv) [F 70, T 101, T 102], [(4, I 105 (.load1) [T 104])], false⟩,
   ⟨5, I 106 (.bin .neq) [T 103, T 105], [], false⟩]])
 (.cond (T 106)
 (.seq (.region [I 4 (.mv) [.lit (.bool false)]])
  (.ret))
 (.skip))))
 (.region [I 99 (.mv) [T 14],
   I 100 (.bin .add) [T 99, N 1],
   I 14 (.mv) [T 100]]))
/-- live: [5, 6, 9, 10, 11, 49, 50, 51] -/
def c_law11_SpreadRuns_L1 : ACode :=
 .seq (.region [I 52 (.bin .lss) [T 51, T 50]])
 (.seq (.cond (T 52)
 (.skip)
 (.exit 2))
 (.seq (.block 3 (.seq (.region [I 53 (.mv) [T 51],
   I 54 (.indexs 3) [T 49, T 51],
   I 55 (.loadn 3) [T 54],
   I 13 (.alloc 121 3 (.vals [(.int .i64 0), (.int .i64 0), (.int .i64 0)])) [],
   I 12 (.mv) [T 53],
   J (.store 3) [T 13, T 55]])
 (.seq (.seq (.draw [(⟨0, I 56 (.fieldAddr 0) [T 13], [], false⟩ ::
   ⟨1, I 57 (.load1) [T 56], [], false⟩ ::
   ⟨2, I 58 (.mv) [T 9], [], false⟩ ::
   ⟨3, I 59 (.bin .neq) [T 57, T 58], [], false⟩ ::
   ⟨4, I 60 (.mv) [T 59], [], false⟩ ::
   ⟨5, IG 61 (.fieldAddr 1) [T 13] 60 false, [], false⟩ ::
   ⟨6, IG 62 (.load1) [T 61] 60 false, [], false⟩ ::
   ⟨7, IG 63 (.fieldAddr 0) [T 13] 60 false, [], false⟩ ::
   ⟨8, IG 64 (.load1) [T 63] 60 false, [], false⟩ ::
   ⟨9, IG 65 (.bin .leq) [T 62, T 64] 60 false, [], false⟩ ::
   ⟨10, I 66 (.pick) [T 60, .lit (.bool true), T 65], [], false⟩ ::
   ⟨11, I 67 (.mv) [T 66], [], false⟩ ::
   ⟨12, IG 68 (.fieldAddr 1) [T 13] 67 false, [], false⟩ ::
   ⟨13, IG 69 (.load1) [T 68] 67 false, [], false⟩ ::
   ⟨14, IG 70 (.mv) [T 5] 67 false, [], false⟩ ::
   ⟨15, IG 71 (.bin .gtr) [T 69, T 70] 67 false, [], false⟩ ::
   ⟨16, I 72 (.pick) [T 67, .lit (.bool true), T 71], [], false⟩ ::
   ⟨17, I 73 (.mv) [T 72], [], false⟩ ::
   ⟨18, IG 74 (.fieldAddr 2) [T 13] 73 false, [], false⟩ ::
   ⟨19, IG 75 (.load1) [T 74] 73 false, [], false⟩ ::
   ⟨20, IG 76 (.bin .lss) [T 75, N 0] 73 false, [], false⟩ ::
   ⟨21, I 77 (.pick) [T 73, .lit (.bool true), T 76], [], false⟩ ::
   ⟨22, I 78 (.mv) [T 77], [], false⟩ ::
   ⟨23, IG 79 (.mv) [T 12] 78 false, [], false⟩ ::
   ⟨24, IG 80 (.bin .gtr) [T 79, N 0] 78 false, [], false⟩ ::
   ⟨25, IG 81 (.mv) [T 80] 78 false, [], false⟩ ::
   ⟨26, IG 82 (.mv) [T 11] 81 true, [], false⟩ ::
   ⟨27, IG 83 (.mv) [T 12] 81 true, [], false⟩ ::
   ⟨28, IG 84 (.bin .sub) [T 83, N 1] 81 true, [], false⟩ ::
   ⟨29, IG 85 (.indexs 3) [T 82, T 84] 81 true, [], false⟩ ::
   ⟨30, IG 86 (.fieldAddr 2) [T 85] 81 true, [], false⟩ ::
   ⟨31, IG 87 (.load1) [T 86] 81 true, [], false⟩ ::
   ⟨32, IG 88 (.fieldAddr 2) [T 13] 81 true, [], false⟩ ::
   ⟨33, IG 89 (.load1) [T 88] 81 true, [], false⟩ ::
   ⟨34, IG 90 (.bin .eql) [T 87, T 89] 81 true, [], false⟩ ::
   ⟨35, IG 91 (.pick) [T 81, T 90, .lit (.bool false)] 78 false, [], false⟩ ::
   ⟨36, I 92 (.pick) [T 78, .lit (.bool true), T 91], [], false⟩ ::
   [])])
 (.cond (T 92)
 (.seq (.region [I 4 (.mv) [.lit (.bool false)]])
  (.ret))
 (.skip)))
 (.seq (.seq (.region [I 93 (.fieldAddr 0) [T 13],
   I 94 (.load1) [T 93],
   I 14 (.mv) [T 94]])
 (.block 4 (.loop c_law11_SpreadRuns_L2)))
 (.seq (.region [I 107 (.fieldAddr 1) [T 13],
   I 108 (.load1) [T 107],
   I 9 (.mv) [T 108]])
 (.region [I 109 (.mv) [T 10],
   I 110 (.fieldAddr 2) [T 13],
   I 111 (.load1) [T 110],
   I 112 (.fieldAddr 1) [T 13],
   I 113 (.load1) [T 112],
   I 114 (.fieldAddr 0) [T 13],
   I 115 (.load1) [T 114],
   I 116 (.bin .sub) [T 113, T 115],
   I 117 (.bin .mul) [T 111, T 116],
   I 118 (.bin .add) [T 109, T 117],
   I 10 (.mv) [T 118]]))))))
 (.region [I 119 (.bin .add) [T 51, N 1],
   I 51 (.mv) [T 119]])))
def c_law11_SpreadRuns : AFn := ⟨143, [.tmp 4],
 .seq (.region [I 4 (.mv) [.lit (.bool false)]])
 (.seq (.region [I 15 (.mv) [T 0],
   I 16 (.bin .rem) [T 15, .lit (.int .u64 60)],
   I 17 (.conv .i64) [T 16],
   I 5 (.mv) [T 17]])
 (.seq (.region [I 18 (.mv) [T 5],
   I 19 (.callv) [F 61, T 18],
   I 6 (.mv) [T 19]])
 (.seq (.seq (.region [I 20 (.mv) [T 6],
   I 21 (.eqv false .ptr) [T 20, .lit .nilptr],
   I 22 (.mv) [T 21],
   IG 23 (.mv) [T 1] 22 false,
   IG 24 (.lens) [T 23] 22 false,
   IG 25 (.bin .gtr) [T 24, N 60] 22 false,
   I 26 (.pick) [T 22, .lit (.bool true), T 25]])
 (.cond (T 26)
 (.seq (.region [I 27 (.mv) [T 6],
    I 28 (.eqv true .ptr) [T 27, .lit .nilptr],
    I 29 (.mv) [T 28],
    IG 30 (.callv) [F 63] 29 true,
    I 31 (.pick) [T 29, T 30, .lit (.bool false)],
    I 4 (.mv) [T 31]])
  (.ret))
 (.skip)))
 (.seq (.seq (.region [I 32 (.mv) [T 1],
   I 33 (.lens) [T 32],
   I 34 (.mv) [N 0]])
 (.block 0 (.loop c_law11_SpreadRuns_L0)))
 (.seq (.region [I 9 (.mv) [N 0],
   I 10 (.mv) [N 0]])
 (.seq (.region [I 47 (.mv) [T 6],
   I 48 (.callv) [F 75, T 47],
   I 11 (.mv) [T 48]])
 (.seq (.seq (.region [I 49 (.mv) [T 11],
   I 50 (.lens) [T 49],
   I 51 (.mv) [N 0]])
 (.block 2 (.loop c_law11_SpreadRuns_L1)))
 (.seq (.region [I 120 (.mv) [T 9],
   I 121 (.mv) [T 5],
   I 122 (.bin .eql) [T 120, T 121],
   I 123 (.mv) [T 122],
   IG 124 (.mv) [T 10] 123 true,
   IG 125 (.mv) [T 6] 123 true,
   IG 126 (.callv) [F 72, T 125] 123 true,
   IG 127 (.bin .eql) [T 124, T 126] 123 true,
   I 128 (.pick) [T 123, T 127, .lit (.bool false)],
   I 129 (.mv) [T 128],
   IG 130 (.mv) [T 6] 129 true,
   IG 131 (.mv) [T 5] 129 true,
   IG 132 (.callv) [F 70, T 130, T 131] 129 true,
   IG 133 (.bin .eql) [T 132, N (-1)] 129 true,
   I 134 (.pick) [T 129, T 133, .lit (.bool false)],
   I 135 (.mv) [T 134],
   IG 136 (.mv) [T 6] 135 true,
   IG 137 (.callv) [F 70, T 136, N (-1)] 135 true,
   IG 138 (.bin .eql) [T 137, N (-1)] 135 true,
   I 139 (.pick) [T 135, T 138, .lit (.bool false)],
   I 140 (.mv) [T 139],
   IG 141 (.callv) [F 63] 140 true,
   I 142 (.pick) [T 140, T 141, .lit (.bool false)],
   I 4 (.mv) [T 142]])
 (.ret)))))))))⟩
theorem t15 : trFn Try.prog Try.f15 = some c_law11_SpreadRuns := by kernel_rfl

/-- pantry/pantrylaw11.SpreadZeros -/
abbrev n_law11_SpreadZeros : Nat := 16
/-- live: [5, 6, 7, 8, 53, 54, 55] -/
def c_law11_SpreadZeros_L0 : ACode :=
 .seq (.region [I 56 (.bin .lss) [T 55, T 54]])
 (.seq (.cond (T 56)
 (.skip)
 (.exit 0))
 (.seq (.block 1 (.seq (.region [I 57 (.indexs 4) [T 53, T 55],
   I 58 (.loadn 4) [T 57],
   I 10 (.alloc 108 4 (.vals [(.int .i64 0), (.int .i64 0), (.int .i64 0), (.bool false)])) [],
   J (.store 4) [T 10, T 58]])
 (.seq (.region [I 59 (.fieldAddr 0) [T 10],
   I 60 (.load1) [T 59],
   I 61 (.conv .u64) [T 60],
   I 62 (.mv) [T 5],
   I 63 (.conv .u64) [T 62],
   I 64 (.bin .rem) [T 61, T 63],
   I 65 (.conv .i64) [T 64],
   I 11 (.mv) [T 65]])
 (.draw [[⟨0, I 66 (.mv) [T 8], [], false⟩,
   ⟨1, I 67 (.mv) [T 11], [], false⟩,
   ⟨2, I 68 (.mv) [T 11], [], false⟩,
   ⟨3, I 69 (.bin .add) [T 68, N 1], [], false⟩,
   ⟨4, I 70 (.fieldAddr 1) [T 10], [], false⟩,
   ⟨5, I 71 (.load1) [T 70], [], false⟩,
   ⟨6, I 72 (.conv .u64) [T 71], [], false⟩,
   ⟨7, I 73 (.mv) [T 5], [], false⟩,
   ⟨8, I 74 (.mv) [T 11], [], false⟩,
   ⟨9, I 75 (.bin .sub) [T 73, T 74], [], false⟩,
   ⟨10, I 76 (.conv .u64) [T 75], [], false⟩,
   ⟨11, I 77 (.bin .rem) [T 72, T 76], [], false⟩,
   ⟨12, I 78 (.conv .i64) [T 77], [], false⟩,
   ⟨13, I 79 (.bin .add) [T 69, T 78], [], false⟩,
   ⟨14, I 80 (.fieldAddr 2) [T 10], [], false⟩,
   ⟨15, I 81 (.load1) [T 80], [], false⟩,
   ⟨16, I 82 (.conv .u64) [T 81], [], false⟩,
   ⟨17, I 83 (.bin .rem) [T 82, .lit (.int .u64 3)], [], false⟩,
   ⟨18, I 84 (.conv .i64) [T 83], [], false⟩,
   ⟨19, I 85 (.bin .add) [N 1, T 84], [], false⟩,
   ⟨20, I 86 (.build (.agg [(.int .i64 0), (.int .i64 0), (.int .i64 0), (.bool false)]) [(0, 1), (1, 1), (2, 1)]) [T 67, T 79, T 85], [], false⟩,
   ⟨21, I 87 (.bslice 108 4 1 (.vals [(.int .i64 0), (.int .i64 0), (.int .i64 0), (.bool false)]) [0]) [T 86], [], false⟩,
   ⟨22, I 88 (.append 108 4 32 (.vals [(.int .i64 0), (.int .i64 0), (.int .i64 0), (.bool false)])) [T 66, T 87], [], false⟩,
   ⟨23, I 8 (.mv) [T 88], [], true⟩]]))))
 (.region [I 89 (.bin .add) [T 55, N 1],
   I 55 (.mv) [T 89]])))
/-- live: [6, 7, 8, 91, 92] -/
def c_law11_SpreadZeros_L1 : ACode :=
 .seq (.region [I 93 (.bin .lss) [T 92, T 91]])
 (.seq (.cond (T 93)
 (.skip)
 (.exit 2))
 (.seq (.block 3 (.seq (.region [I 94 (.mv) [T 92],
   I 12 (.mv) [T 94]])
 (.seq (.draw [[⟨0, I 95 (.mv) [T 8], [], false⟩,
   ⟨1, I 96 (.mv) [T 12], [], false⟩,
   ⟨2, I 97 (.indexs 4) [T 95, T 96], [], false⟩,
   ⟨3, I 98 (.loadn 4) [T 97], [], false⟩,
   ⟨4, I 99 (.mv) [T 8], [], false⟩,
   ⟨5, I 100 (.mv) [T 8], [], false⟩,
   ⟨6, I 101 (.lens) [T 100], [], false⟩,
   ⟨7, I 102 (.bin .sub) [T 101, N 1], [], false⟩,
   ⟨8, I 103 (.mv) [T 12], [], false⟩,
   ⟨9, I 104 (.bin .sub) [T 102, T 103], [], false⟩,
   ⟨10, I 105 (.indexs 4) [T 99, T 104], [], false⟩,
   ⟨11, I 106 (.loadn 4) [T 105], [], false⟩,
   ⟨12, I 13 (.alloc 108 4 (.vals [(.int .i64 0), (.int .i64 0), (.int .i64 0), (.bool false)])) [], [(3, I 98 (.loadn 4) [T 97]), (11, I 106 (.loadn 4) [T 105])], false⟩,
   ⟨13, I 14 (.alloc 108 4 (.vals [(.int .i64 0), (.int .i64 0), (.int .i64 0), (.bool false)])) [], [(3, I 98 (.loadn 4) [T 97]), (11, I 106 (.loadn 4) [T 105])], false⟩,
   ⟨14, J (.store 4) [T 13, T 98], [(11, I 106 (.loadn 4) [T 105])], false⟩,
   ⟨15, J (.store 4) [T 14, T 106], [], false⟩],
[⟨0, I 95 (.mv) [T 8], [], false⟩,
   ⟨1, I 96 (.mv) [T 12], [], false⟩,
   ⟨2, I 97 (.indexs 4) [T 95, T 96], [], false⟩,
   ⟨3, I 98 (.loadn 4) [T 97], [], false⟩,
   ⟨4, I 99 (.mv) [T 8], [], false⟩,
   ⟨5, I 100 (.mv) [T 8], [], false⟩,
   ⟨6, I 101 (.lens) [T 100], [], false⟩,
   ⟨7, I 102 (.bin .sub) [T 101, N 1], [], false⟩,
   ⟨8, I 103 (.mv) [T 12], [], false⟩,
   ⟨9, I 104 (.bin .sub) [T 102, T 103], [], false⟩,
   ⟨10, I 105 (.indexs 4) [T 99, T 104], [], false⟩,
   ⟨11, I 106 (.loadn 4) [T 105], [], false⟩,
   ⟨13, I 14 (.alloc 108 4 (.vals [(.int .i64 0), (.int .i64 0), (.int .i64 0), (.bool false)])) [], [(3, I 98 (.loadn 4) [T 97]), (11, I 106 (.loadn 4) [T 105])], false⟩,
   ⟨12, I 13 (.alloc 108 4 (.vals [(.int .i64 0), (.int .i64 0), (.int .i64 0), (.bool false)])) [], [(3, I 98 (.loadn 4) [T 97]), (11, I 106 (.loadn 4) [T 105])], false⟩,
   ⟨14, J (.store 4) [T 13, T 98], [(11, I 106 (.loadn 4) [T 105])], false⟩,
   ⟨15, J (.store 4) [T 14, T 106], [], false⟩]])
 (.seq (.seq (.region [I 108 (.mv) [T 6],
   I 109 (.fieldAddr 0) [T 13],
   I 110 (.load1) [T 109],
   I 111 (.fieldAddr 1) [T 13],
   I 112 (.load1) [T 111],
   I 113 (.fieldAddr 2) [T 13],
   I 114 (.load1) [T 113],
   I 115 (.callv) [F 66, T 108, T 110, T 112, T 114],
   I 107 (.mv) [T 115],
   I 116 (.extract 0) [T 107],
   I 117 (.extract 1) [T 107],
   I 15 (.mv) [T 116],
   I 16 (.mv) [T 117]])
 (.seq (.region [I 118 (.mv) [T 16],
   I 119 (.bin .neq) [T 118, N 0]])
 (.cond (T 119)
 (.seq (.region [I 4 (.mv) [.lit (.bool false)]])
  (.ret))
 (.skip))))
 (.seq (.region [I 121 (.mv) [T 7],
   I 122 (.fieldAddr 0) [T 14],
   I 123 (.load1) [T 122],
   I 124 (.fieldAddr 1) [T 14],
   I 125 (.load1) [T 124],
   I 126 (.fieldAddr 2) [T 14],
   I 127 (.load1) [T 126],
   I 128 (.callv) [F 66, T 121, T 123, T 125, T 127],
   I 120 (.mv) [T 128],
   I 129 (.extract 0) [T 120],
   I 130 (.extract 1) [T 120],
   I 17 (.mv) [T 129],
   I 18 (.mv) [T 130]])
 (.seq (.region [I 131 (.mv) [T 18],
   I 132 (.bin .neq) [T 131, N 0]])
 (.cond (T 132)
 (.seq (.region [I 4 (.mv) [.lit (.bool false)]])
  (.ret))
 (.skip))))))))
 (.region [I 133 (.bin .add) [T 92, N 1],
   I 92 (.mv) [T 133]])))
/-- live: [6, 20, 21, 22, 140, 141, 142] -/
def c_law11_SpreadZeros_L3 : ACode :=
 .seq (.seq (.region [I 148 (.mv) [T 22],
   I 149 (.fieldAddr 1) [T 20],
   I 150 (.load1) [T 149],
   I 151 (.bin .lss) [T 148, T 150]])
 (.cond (T 151)
 (.skip)
 (.exit 6)))
 (.seq (.block 7 (.seq (.draw [[⟨0, I 154 (.mv) [T 6], [], false⟩,
   ⟨1, I 155 (.mv) [T 22], [], false⟩,
   ⟨3, I 157 (.fieldAddr 2) [T 20], [], false⟩,
   ⟨4, I 158 (.load1) [T 157], [], false⟩,
   ⟨2, I 156 (.callv) [F 70, T 154, T 155], [(4, I 158 (.load1) [T 157])], false⟩,
   ⟨5, I 159 (.bin .eql) [T 156, T 158], [], false⟩]])
 (.cond (T 159)
 (.region [I 160 (.mv) [T 21],
    I 161 (.mv) [T 22],
    I 162 (.bslice 3 1 1 (.vals [(.int .i64 0)]) [0]) [T 161],
    I 163 (.append 3 1 8 (.vals [(.int .i64 0)])) [T 160, T 162],
    I 21 (.mv) [T 163]])
 (.skip))))
 (.region [I 152 (.mv) [T 22],
   I 153 (.bin .add) [T 152, N 1],
   I 22 (.mv) [T 153]]))
/-- live: [6, 140, 141, 142] -/
def c_law11_SpreadZeros_L2 : ACode :=
 .seq (.region [I 143 (.bin .lss) [T 142, T 141]])
 (.seq (.cond (T 143)
 (.skip)
 (.exit 4))
 (.seq (.block 5 (.seq (.region [I 144 (.indexs 4) [T 140, T 142],
   I 145 (.loadn 4) [T 144],
   I 20 (.alloc 108 4 (.vals [(.int .i64 0), (.int .i64 0), (.int .i64 0), (.bool false)])) [],
   J (.store 4) [T 20, T 145]])
 (.seq (.region [I 21 (.mv) [.lit .nilsl]])
 (.seq (.seq (.region [I 146 (.fieldAddr 0) [T 20],
   I 147 (.load1) [T 146],
   I 22 (.mv) [T 147]])
 (.block 6 (.loop c_law11_SpreadZeros_L3)))
 (.seq (.region [I 165 (.mv) [T 6],
   I 166 (.fieldAddr 0) [T 20],
   I 167 (.load1) [T 166],
   I 168 (.fieldAddr 1) [T 20],
   I 169 (.load1) [T 168],
   I 170 (.fieldAddr 2) [T 20],
   I 171 (.load1) [T 170],
   I 172 (.un .neg) [T 171],
   I 173 (.callv) [F 66, T 165, T 167, T 169, T 172],
   I 164 (.mv) [T 173],
   I 174 (.extract 0) [T 164],
   I 175 (.extract 1) [T 164],
   I 23 (.mv) [T 174],
   I 24 (.mv) [T 175]])
 (.seq (.region [I 176 (.mv) [T 24],
   I 177 (.bin .neq) [T 176, N 0],
   I 178 (.mv) [T 177],
   IG 179 (.mv) [T 23] 178 false,
   IG 180 (.mv) [T 21] 178 false,
   IG 181 (.callv) [F 68, T 179, T 180] 178 false,
   IG 182 (.un .not) [T 181] 178 false,
   I 183 (.pick) [T 178, .lit (.bool true), T 182]])
 (.cond (T 183)
 (.seq (.region [I 4 (.mv) [.lit (.bool false)]])
  (.ret))
 (.skip))))))))
 (.region [I 184 (.bin .add) [T 142, N 1],
   I 142 (.mv) [T 184]])))
def c_law11_SpreadZeros : AFn := ⟨197, [.tmp 4],
 .seq (.region [I 4 (.mv) [.lit (.bool false)]])
 (.seq (.region [I 25 (.mv) [T 0],
   I 26 (.bin .rem) [T 25, .lit (.int .u64 40)],
   I 27 (.conv .i64) [T 26],
   I 28 (.bin .add) [N 1, T 27],
   I 5 (.mv) [T 28]])
 (.seq (.region [I 29 (.mv) [T 5],
   I 30 (.callv) [F 61, T 29],
   I 31 (.mv) [T 5],
   I 32 (.callv) [F 61, T 31],
   I 6 (.mv) [T 30],
   I 7 (.mv) [T 32]])
 (.seq (.seq (.region [I 33 (.mv) [T 6],
   I 34 (.eqv false .ptr) [T 33, .lit .nilptr],
   I 35 (.mv) [T 34],
   IG 36 (.mv) [T 7] 35 false,
   IG 37 (.eqv false .ptr) [T 36, .lit .nilptr] 35 false,
   I 38 (.pick) [T 35, .lit (.bool true), T 37],
   I 39 (.mv) [T 38],
   IG 40 (.mv) [T 1] 39 false,
   IG 41 (.lens) [T 40] 39 false,
   IG 42 (.bin .gtr) [T 41, N 40] 39 false,
   I 43 (.pick) [T 39, .lit (.bool true), T 42]])
 (.cond (T 43)
 (.seq (.region [I 44 (.mv) [T 6],
    I 45 (.eqv true .ptr) [T 44, .lit .nilptr],
    I 46 (.mv) [T 45],
    IG 47 (.mv) [T 7] 46 true,
    IG 48 (.eqv true .ptr) [T 47, .lit .nilptr] 46 true,
    I 49 (.pick) [T 46, T 48, .lit (.bool false)],
    I 50 (.mv) [T 49],
    IG 51 (.callv) [F 63] 50 true,
    I 52 (.pick) [T 50, T 51, .lit (.bool false)],
    I 4 (.mv) [T 52]])
  (.ret))
 (.skip)))
 (.seq (.region [I 8 (.mv) [.lit .nilsl]])
 (.seq (.seq (.region [I 53 (.mv) [T 1],
   I 54 (.lens) [T 53],
   I 55 (.mv) [N 0]])
 (.block 0 (.loop c_law11_SpreadZeros_L0)))
 (.seq (.seq (.region [I 90 (.mv) [T 8],
   I 91 (.lens) [T 90],
   I 92 (.mv) [N 0]])
 (.block 2 (.loop c_law11_SpreadZeros_L1)))
 (.seq (.seq (.region [I 134 (.mv) [T 6],
   I 135 (.callv) [F 75, T 134],
   I 136 (.mv) [T 7],
   I 137 (.callv) [F 75, T 136],
   I 138 (.callv) [F 74, T 135, T 137],
   I 139 (.un .not) [T 138]])
 (.cond (T 139)
 (.seq (.region [I 4 (.mv) [.lit (.bool false)]])
  (.ret))
 (.skip)))
 (.seq (.seq (.region [I 140 (.mv) [T 8],
   I 141 (.lens) [T 140],
   I 142 (.mv) [N 0]])
 (.block 4 (.loop c_law11_SpreadZeros_L2)))
 (.seq (.region [I 185 (.mv) [T 6],
   I 186 (.callv) [F 72, T 185],
   I 187 (.bin .eql) [T 186, N 0],
   I 188 (.mv) [T 187],
   IG 189 (.mv) [T 6] 188 true,
   IG 190 (.callv) [F 75, T 189] 188 true,
   IG 191 (.lens) [T 190] 188 true,
   IG 192 (.bin .eql) [T 191, N 1] 188 true,
   I 193 (.pick) [T 188, T 192, .lit (.bool false)],
   I 194 (.mv) [T 193],
   IG 195 (.callv) [F 63] 194 true,
   I 196 (.pick) [T 194, T 195, .lit (.bool false)],
   I 4 (.mv) [T 196]])
 (.ret))))))))))⟩
theorem t16 : trFn Try.prog Try.f16 = some c_law11_SpreadZeros := by kernel_rfl

/-- pantry/pantrylaw11.SpreadBack -/
abbrev n_law11_SpreadBack : Nat := 17
/-- live: [5, 7, 8, 44, 45, 46] -/
def c_law11_SpreadBack_L0 : ACode :=
 .seq (.region [I 47 (.bin .lss) [T 46, T 45]])
 (.seq (.cond (T 47)
 (.skip)
 (.exit 0))
 (.seq (.block 1 (.seq (.region [I 48 (.indexs 4) [T 44, T 46],
   I 49 (.loadn 4) [T 48],
   I 10 (.alloc 108 4 (.vals [(.int .i64 0), (.int .i64 0), (.int .i64 0), (.bool false)])) [],
   J (.store 4) [T 10, T 49]])
 (.region [I 50 (.mv) [T 8],
   I 51 (.fieldAddr 0) [T 10],
   I 52 (.load1) [T 51],
   I 53 (.fieldAddr 1) [T 10],
   I 54 (.load1) [T 53],
   I 55 (.fieldAddr 2) [T 10],
   I 56 (.load1) [T 55],
   I 57 (.callv) [F 66, T 50, T 52, T 54, T 56]])))
 (.region [I 58 (.bin .add) [T 46, N 1],
   I 46 (.mv) [T 58]])))
def c_law11_SpreadBack : AFn := ⟨123, [.tmp 6],
 .seq (.region [I 5 (.box 108 4) [T 2],
   I 6 (.mv) [.lit (.bool false)]])
 (.seq (.region [I 17 (.mv) [T 0],
   I 18 (.bin .rem) [T 17, .lit (.int .u64 60)],
   I 19 (.conv .i64) [T 18],
   I 7 (.mv) [T 19]])
 (.seq (.region [I 20 (.mv) [T 7],
   I 21 (.callv) [F 61, T 20],
   I 8 (.mv) [T 21]])
 (.seq (.seq (.region [I 22 (.mv) [T 8],
   I 23 (.eqv false .ptr) [T 22, .lit .nilptr],
   I 24 (.mv) [T 23],
   IG 25 (.mv) [T 1] 24 false,
   IG 26 (.lens) [T 25] 24 false,
   IG 27 (.bin .gtr) [T 26, N 60] 24 false,
   I 28 (.pick) [T 24, .lit (.bool true), T 27],
   I 29 (.mv) [T 28],
   IG 30 (.fieldAddr 2) [T 5] 29 false,
   IG 31 (.load1) [T 30] 29 false,
   IG 32 (.bin .lss) [T 31, N (-1000000)] 29 false,
   I 33 (.pick) [T 29, .lit (.bool true), T 32],
   I 34 (.mv) [T 33],
   IG 35 (.fieldAddr 2) [T 5] 34 false,
   IG 36 (.load1) [T 35] 34 false,
   IG 37 (.bin .gtr) [T 36, N 1000000] 34 false,
   I 38 (.pick) [T 34, .lit (.bool true), T 37]])
 (.cond (T 38)
 (.seq (.region [I 39 (.mv) [T 8],
    I 40 (.eqv true .ptr) [T 39, .lit .nilptr],
    I 41 (.mv) [T 40],
    IG 42 (.callv) [F 63] 41 true,
    I 43 (.pick) [T 41, T 42, .lit (.bool false)],
    I 6 (.mv) [T 43]])
  (.ret))
 (.skip)))
 (.seq (.seq (.region [I 44 (.mv) [T 1],
   I 45 (.lens) [T 44],
   I 46 (.mv) [N 0]])
 (.block 0 (.loop c_law11_SpreadBack_L0)))
 (.seq (.region [I 59 (.mv) [T 8],
   I 60 (.callv) [F 75, T 59],
   I 61 (.mv) [T 8],
   I 62 (.callv) [F 77, T 61],
   I 11 (.mv) [T 60],
   I 12 (.mv) [T 62]])
 (.seq (.region [I 64 (.mv) [T 8],
   I 65 (.fieldAddr 0) [T 5],
   I 66 (.load1) [T 65],
   I 67 (.fieldAddr 1) [T 5],
   I 68 (.load1) [T 67],
   I 69 (.fieldAddr 2) [T 5],
   I 70 (.load1) [T 69],
   I 71 (.callv) [F 66, T 64, T 66, T 68, T 70],
   I 63 (.mv) [T 71],
   I 72 (.extract 0) [T 63],
   I 73 (.extract 1) [T 63],
   I 13 (.mv) [T 72],
   I 14 (.mv) [T 73]])
 (.seq (.seq (.region [I 74 (.mv) [T 12],
   I 75 (.callv) [F 75, T 74],
   I 76 (.mv) [T 11],
   I 77 (.callv) [F 74, T 75, T 76],
   I 78 (.un .not) [T 77],
   I 79 (.mv) [T 78],
   IG 80 (.mv) [T 14] 79 false,
   IG 81 (.bin .neq) [T 80, N 0] 79 false,
   IG 82 (.mv) [T 81] 79 false,
   IG 83 (.mv) [T 8] 82 true,
   IG 84 (.callv) [F 75, T 83] 82 true,
   IG 85 (.mv) [T 11] 82 true,
   IG 86 (.callv) [F 74, T 84, T 85] 82 true,
   IG 87 (.un .not) [T 86] 82 true,
   IG 88 (.pick) [T 82, T 87, .lit (.bool false)] 79 false,
   I 89 (.pick) [T 79, .lit (.bool true), T 88]])
 (.cond (T 89)
 (.seq (.region [I 6 (.mv) [.lit (.bool false)]])
  (.ret))
 (.skip)))
 (.seq (.seq (.region [I 90 (.mv) [T 14],
   I 91 (.bin .eql) [T 90, N 0]])
 (.cond (T 91)
 (.seq (.region [I 93 (.mv) [T 8],
    I 94 (.fieldAddr 0) [T 5],
    I 95 (.load1) [T 94],
    I 96 (.fieldAddr 1) [T 5],
    I 97 (.load1) [T 96],
    I 98 (.fieldAddr 2) [T 5],
    I 99 (.load1) [T 98],
    I 100 (.un .neg) [T 99],
    I 101 (.callv) [F 66, T 93, T 95, T 97, T 100],
    I 92 (.mv) [T 101],
    I 102 (.extract 0) [T 92],
    I 103 (.extract 1) [T 92],
    I 15 (.mv) [T 102],
    I 16 (.mv) [T 103]])
  (.seq (.region [I 104 (.mv) [T 16],
    I 105 (.bin .neq) [T 104, N 0],
    I 106 (.mv) [T 105],
    IG 107 (.mv) [T 8] 106 false,
    IG 108 (.callv) [F 75, T 107] 106 false,
    IG 109 (.mv) [T 11] 106 false,
    IG 110 (.callv) [F 74, T 108, T 109] 106 false,
    IG 111 (.un .not) [T 110] 106 false,
    I 112 (.pick) [T 106, .lit (.bool true), T 111]])
  (.cond (T 112)
  (.seq (.region [I 6 (.mv) [.lit (.bool false)]])
   (.ret))
  (.skip))))
 (.skip)))
 (.seq (.region [I 113 (.mv) [T 12],
   I 114 (.mv) [T 7],
   I 115 (.callv) [F 66, T 113, N 0, T 114, N 1]])
 (.seq (.region [I 116 (.mv) [T 8],
   I 117 (.callv) [F 75, T 116],
   I 118 (.mv) [T 11],
   I 119 (.callv) [F 74, T 117, T 118],
   I 120 (.mv) [T 119],
   IG 121 (.callv) [F 63] 120 true,
   I 122 (.pick) [T 120, T 121, .lit (.bool false)],
   I 6 (.mv) [T 122]])
 (.ret)))))))))))⟩
theorem t17 : trFn Try.prog Try.f17 = some c_law11_SpreadBack := by kernel_rfl

/-- pantry/pantrylaw11.SpreadNone -/
abbrev n_law11_SpreadNone : Nat := 18
/-- live: [1, 9, 10] -/
def c_law11_SpreadNone_L0 : ACode :=
 .seq (.region [I 11 (.bin .lss) [T 10, N 2]])
 (.seq (.cond (T 11)
 (.skip)
 (.exit 0))
 (.seq (.block 1 (.seq (.region [I 12 (.indexv 2 1 false) [T 9, T 10],
   I 5 (.mv) [T 12]])
 (.seq (.region [I 14 (.mv) [T 5],
   I 15 (.fieldAddr 0) [T 1],
   I 16 (.load1) [T 15],
   I 17 (.fieldAddr 1) [T 1],
   I 18 (.load1) [T 17],
   I 19 (.fieldAddr 2) [T 1],
   I 20 (.load1) [T 19],
   I 21 (.callv) [F 66, T 14, T 16, T 18, T 20],
   I 13 (.mv) [T 21],
   I 22 (.extract 0) [T 13],
   I 23 (.extract 1) [T 13],
   I 6 (.mv) [T 22],
   I 7 (.mv) [T 23]])
 (.seq (.region [I 24 (.mv) [T 5],
   I 25 (.callv) [F 77, T 24],
   I 8 (.mv) [T 25]])
 (.seq (.region (I 26 (.mv) [T 6] ::
   I 27 (.lens) [T 26] ::
   I 28 (.bin .gtr) [T 27, N 0] ::
   I 29 (.mv) [T 28] ::
   IG 30 (.mv) [T 7] 29 false ::
   IG 31 (.bin .neq) [T 30, N 1] 29 false ::
   I 32 (.pick) [T 29, .lit (.bool true), T 31] ::
   I 33 (.mv) [T 32] ::
   IG 34 (.mv) [T 5] 33 false ::
   IG 35 (.fieldAddr 1) [T 1] 33 false ::
   IG 36 (.load1) [T 35] 33 false ::
   IG 37 (.callv) [F 64, T 34, T 36] 33 false ::
   IG 38 (.bin .neq) [T 37, N 1] 33 false ::
   I 39 (.pick) [T 33, .lit (.bool true), T 38] ::
   I 40 (.mv) [T 39] ::
   IG 41 (.mv) [T 5] 40 false ::
   IG 42 (.callv) [F 69, T 41] 40 false ::
   IG 43 (.mv) [T 5] 40 false ::
   IG 44 (.callv) [F 72, T 43] 40 false ::
   IG 45 (.bin .add) [T 42, T 44] 40 false ::
   IG 46 (.mv) [T 5] 40 false ::
   IG 47 (.callv) [F 75, T 46] 40 false ::
   IG 48 (.lens) [T 47] 40 false ::
   IG 49 (.bin .add) [T 45, T 48] 40 false ::
   IG 50 (.bin .neq) [T 49, N 0] 40 false ::
   I 51 (.pick) [T 40, .lit (.bool true), T 50] ::
   I 52 (.mv) [T 51] ::
   IG 53 (.mv) [T 5] 52 false ::
   IG 54 (.fieldAddr 0) [T 1] 52 false ::
   IG 55 (.load1) [T 54] 52 false ::
   IG 56 (.callv) [F 70, T 53, T 55] 52 false ::
   IG 57 (.bin .neq) [T 56, N (-1)] 52 false ::
   I 58 (.pick) [T 52, .lit (.bool true), T 57] ::
   I 59 (.mv) [T 58] ::
   IG 60 (.mv) [T 8] 59 false ::
   IG 61 (.callv) [F 69, T 60] 59 false ::
   IG 62 (.bin .neq) [T 61, N 0] 59 false ::
   I 63 (.pick) [T 59, .lit (.bool true), T 62] ::
   []))
 (.cond (T 63)
 (.seq (.region [I 2 (.mv) [.lit (.bool false)]])
  (.ret))
 (.skip)))))))
 (.region [I 64 (.bin .add) [T 10, N 1],
   I 10 (.mv) [T 64]])))
def c_law11_SpreadNone : AFn := ⟨66, [.tmp 2],
 .seq (.region [I 1 (.box 108 4) [T 0],
   I 2 (.mv) [.lit (.bool false)]])
 (.seq (.region [I 3 (.alloc 126 3 (.vals [.nilsl, (.int .i64 0), (.bool false)])) []])
 (.seq (.seq (.region [I 9 (.build (.agg [.nilptr, .nilptr]) [(0, 1), (1, 1)]) [.lit .nilptr, T 3],
   I 10 (.mv) [N 0]])
 (.block 0 (.loop c_law11_SpreadNone_L0)))
 (.seq (.region [I 65 (.callv) [F 63],
   I 2 (.mv) [T 65]])
 (.ret))))⟩
theorem t18 : trFn Try.prog Try.f18 = some c_law11_SpreadNone := by kernel_rfl

/-- pantry/pantrylaw13.AmapNumbers -/
abbrev n_law13_AmapNumbers : Nat := 19
/-- live: [1, 5, 6, 7] -/
def c_law13_AmapNumbers_L0 : ACode :=
 .seq (.seq (.region [I 26 (.mv) [T 7],
   I 27 (.mv) [T 5],
   I 28 (.bin .leq) [T 26, T 27]])
 (.cond (T 28)
 (.skip)
 (.exit 0)))
 (.seq (.block 1 (.seq (.seq (.region [I 32 (.mv) [T 6],
   I 33 (.callv) [F 79, T 32, N 3],
   I 31 (.mv) [T 33],
   I 34 (.extract 0) [T 31],
   I 35 (.extract 1) [T 31],
   I 8 (.mv) [T 34],
   I 9 (.mv) [T 35]])
 (.seq (.region [I 36 (.mv) [T 8],
   I 37 (.mv) [T 7],
   I 38 (.bin .neq) [T 36, T 37],
   I 39 (.mv) [T 38],
   IG 40 (.mv) [T 9] 39 false,
   IG 41 (.bin .neq) [T 40, N 0] 39 false,
   I 42 (.pick) [T 39, .lit (.bool true), T 41]])
 (.cond (T 42)
 (.seq (.region [I 4 (.mv) [.lit (.bool false)]])
  (.ret))
 (.skip))))
 (.region [I 43 (.mv) [T 6],
   I 44 (.mv) [T 7],
   I 45 (.mv) [T 7],
   I 46 (.bin .add) [N 10, T 45],
   I 47 (.callv) [F 80, T 43, T 44, N 1, T 46]])))
 (.region [I 29 (.mv) [T 7],
   I 30 (.bin .add) [T 29, N 1],
   I 7 (.mv) [T 30]]))
/-- live: [5, 6, 12, 15, 16, 17] -/
def c_law13_AmapNumbers_L1 : ACode :=
 .seq (.seq (.region [I 88 (.mv) [T 17],
   I 89 (.mv) [T 5],
   I 90 (.bin .leq) [T 88, T 89]])
 (.cond (T 90)
 (.skip)
 (.exit 2)))
 (.seq (.block 3 (.seq (.region [I 93 (.mv) [T 17],
   I 94 (.mv) [T 12],
   I 95 (.bin .neq) [T 93, T 94],
   I 96 (.mv) [T 95],
   IG 97 (.mv) [T 6] 96 true,
   IG 98 (.mv) [T 17] 96 true,
   IG 99 (.callv) [F 83, T 97, T 98, N 1] 96 true,
   IG 100 (.mv) [T 17] 96 true,
   IG 101 (.bin .add) [N 10, T 100] 96 true,
   IG 102 (.bin .neq) [T 99, T 101] 96 true,
   I 103 (.pick) [T 96, T 102, .lit (.bool false)]])
 (.cond (T 103)
 (.seq (.region [I 4 (.mv) [.lit (.bool false)]])
  (.ret))
 (.skip))))
 (.region [I 91 (.mv) [T 17],
   I 92 (.bin .add) [T 91, N 1],
   I 17 (.mv) [T 92]]))
def c_law13_AmapNumbers : AFn := ⟨126, [.tmp 4],
 .seq (.region [I 4 (.mv) [.lit (.bool false)]])
 (.seq (.region [I 18 (.mv) [T 0],
   I 19 (.bin .rem) [T 18, .lit (.int .u64 20)],
   I 20 (.conv .i64) [T 19],
   I 21 (.bin .add) [N 1, T 20],
   I 5 (.mv) [T 21]])
 (.seq (.region [I 22 (.mv) [T 5],
   I 23 (.callv) [F 78, T 22],
   I 6 (.mv) [T 23]])
 (.seq (.seq (.region [I 24 (.mv) [T 6],
   I 25 (.eqv false .ptr) [T 24, .lit .nilptr]])
 (.cond (T 25)
 (.seq (.region [I 4 (.mv) [.lit (.bool false)]])
  (.ret))
 (.skip)))
 (.seq (.seq (.region [I 7 (.mv) [N 1]])
 (.block 0 (.loop c_law13_AmapNumbers_L0)))
 (.seq (.seq (.region [I 49 (.mv) [T 6],
   I 50 (.callv) [F 79, T 49, N 3],
   I 48 (.mv) [T 50],
   I 51 (.extract 0) [T 48],
   I 52 (.extract 1) [T 48],
   I 10 (.mv) [T 51],
   I 11 (.mv) [T 52]])
 (.seq (.region [I 53 (.mv) [T 11],
   I 54 (.bin .neq) [T 53, N 5]])
 (.cond (T 54)
 (.seq (.region [I 4 (.mv) [.lit (.bool false)]])
  (.ret))
 (.skip))))
 (.seq (.region [I 55 (.mv) [T 1],
   I 56 (.mv) [T 5],
   I 57 (.conv .u64) [T 56],
   I 58 (.bin .rem) [T 55, T 57],
   I 59 (.conv .i64) [T 58],
   I 60 (.bin .add) [N 1, T 59],
   I 12 (.mv) [T 60]])
 (.seq (.region [I 62 (.mv) [T 6],
   I 63 (.mv) [T 12],
   I 64 (.callv) [F 81, T 62, T 63, N 0, N 3],
   I 61 (.mv) [T 64],
   I 65 (.extract 0) [T 61],
   I 66 (.extract 1) [T 61],
   I 13 (.mv) [T 65],
   I 14 (.mv) [T 66]])
 (.seq (.seq (.region [I 67 (.mv) [T 14],
   I 68 (.bin .neq) [T 67, N 0],
   I 69 (.mv) [T 68],
   IG 70 (.mv) [T 13] 69 false,
   IG 71 (.mv) [T 12] 69 false,
   IG 72 (.bin .add) [N 10, T 71] 69 false,
   IG 73 (.bslice 3 1 1 (.vals [(.int .i64 0)]) [0]) [T 72] 69 false,
   IG 74 (.callv) [F 68, T 70, T 73] 69 false,
   IG 75 (.un .not) [T 74] 69 false,
   I 76 (.pick) [T 69, .lit (.bool true), T 75],
   I 77 (.mv) [T 76],
   IG 78 (.mv) [T 6] 77 false,
   IG 79 (.mv) [T 12] 77 false,
   IG 80 (.callv) [F 82, T 78, T 79] 77 false,
   IG 81 (.bin .neq) [T 80, N 0] 77 false,
   I 82 (.pick) [T 77, .lit (.bool true), T 81]])
 (.cond (T 82)
 (.seq (.region [I 4 (.mv) [.lit (.bool false)]])
  (.ret))
 (.skip)))
 (.seq (.region [I 84 (.mv) [T 6],
   I 85 (.callv) [F 79, T 84, N 2],
   I 83 (.mv) [T 85],
   I 86 (.extract 0) [T 83],
   I 87 (.extract 1) [T 83],
   I 15 (.mv) [T 86],
   I 16 (.mv) [T 87]])
 (.seq (.seq (.region [I 17 (.mv) [N 1]])
 (.block 2 (.loop c_law13_AmapNumbers_L1)))
 (.seq (.region [I 104 (.mv) [T 15],
   I 105 (.mv) [T 12],
   I 106 (.bin .eql) [T 104, T 105],
   I 107 (.mv) [T 106],
   IG 108 (.mv) [T 16] 107 true,
   IG 109 (.bin .eql) [T 108, N 0] 107 true,
   I 110 (.pick) [T 107, T 109, .lit (.bool false)],
   I 111 (.mv) [T 110],
   IG 112 (.mv) [T 6] 111 true,
   IG 113 (.mv) [T 12] 111 true,
   IG 114 (.callv) [F 82, T 112, T 113] 111 true,
   IG 115 (.bin .eql) [T 114, N 2] 111 true,
   I 116 (.pick) [T 111, T 115, .lit (.bool false)],
   I 117 (.mv) [T 116],
   IG 118 (.mv) [T 6] 117 true,
   IG 119 (.mv) [T 12] 117 true,
   IG 120 (.callv) [F 83, T 118, T 119, N 1] 117 true,
   IG 121 (.bin .eql) [T 120, N 0] 117 true,
   I 122 (.pick) [T 117, T 121, .lit (.bool false)],
   I 123 (.mv) [T 122],
   IG 124 (.callv) [F 84] 123 true,
   I 125 (.pick) [T 123, T 124, .lit (.bool false)],
   I 4 (.mv) [T 125]])
 (.ret))))))))))))⟩
theorem t19 : trFn Try.prog Try.f19 = some c_law13_AmapNumbers := by kernel_rfl

/-- pantry/pantrylaw13.AmapCovers -/
abbrev n_law13_AmapCovers : Nat := 20
/-- live: [1, 5, 6, 7, 9, 10, 60, 61] -/
def c_law13_AmapCovers_L0 : ACode :=
 .seq (.region [I 62 (.bin .lss) [T 61, T 60]])
 (.seq (.cond (T 62)
 (.skip)
 (.exit 0))
 (.seq (.block 1 (.seq (.region [I 63 (.mv) [T 61],
   I 11 (.mv) [T 63]])
 (.region [I 64 (.mv) [T 9],
   I 65 (.mv) [T 11],
   I 66 (.indexs 1) [T 64, T 65],
   J (.store 1) [T 66, N 1]])))
 (.region [I 67 (.bin .add) [T 61, N 1],
   I 61 (.mv) [T 67]])))
/-- live: [5, 6, 7, 9, 10, 12, 15, 16, 19, 20, 68, 69, 70] -/
def c_law13_AmapCovers_L2 : ACode :=
 .seq (.seq (.region [I 136 (.mv) [T 20],
   I 137 (.mv) [T 16],
   I 138 (.bin .lss) [T 136, T 137]])
 (.cond (T 138)
 (.skip)
 (.exit 5)))
 (.seq (.block 6 (.region [I 141 (.mv) [T 19],
   I 142 (.mv) [T 141],
   IG 143 (.mv) [T 9] 142 true,
   IG 144 (.mv) [T 20] 142 true,
   IG 145 (.indexs 1) [T 143, T 144] 142 true,
   IG 146 (.load1) [T 145] 142 true,
   IG 147 (.bin .gtr) [T 146, N 0] 142 true,
   I 148 (.pick) [T 142, T 147, .lit (.bool false)],
   I 19 (.mv) [T 148]]))
 (.region [I 139 (.mv) [T 20],
   I 140 (.bin .add) [T 139, N 1],
   I 20 (.mv) [T 140]]))
/-- live: [5, 6, 7, 9, 10, 12, 16, 19, 22, 68, 69, 70] -/
def c_law13_AmapCovers_L3 : ACode :=
 .seq (.seq (.region [I 159 (.mv) [T 19],
   I 160 (.mv) [T 159],
   IG 161 (.mv) [T 22] 160 true,
   IG 162 (.mv) [T 16] 160 true,
   IG 163 (.bin .lss) [T 161, T 162] 160 true,
   I 164 (.pick) [T 160, T 163, .lit (.bool false)]])
 (.cond (T 164)
 (.skip)
 (.exit 7)))
 (.seq (.block 8 (.region [I 167 (.mv) [T 9],
   I 168 (.mv) [T 22],
   I 169 (.indexs 1) [T 167, T 168],
   I 170 (.load1) [T 169],
   I 171 (.bin .add) [T 170, N 1],
   I 172 (.indexs 1) [T 167, T 168],
   J (.store 1) [T 172, T 171]]))
 (.region [I 165 (.mv) [T 22],
   I 166 (.bin .add) [T 165, N 1],
   I 22 (.mv) [T 166]]))
/-- live: [5, 6, 7, 9, 10, 12, 15, 16, 23, 24, 68, 69, 70] -/
def c_law13_AmapCovers_L4 : ACode :=
 .seq (.seq (.region [I 176 (.mv) [T 24],
   I 177 (.mv) [T 16],
   I 178 (.bin .lss) [T 176, T 177]])
 (.cond (T 178)
 (.skip)
 (.exit 9)))
 (.seq (.block 10 (.region [I 181 (.mv) [T 23],
   I 182 (.mv) [T 181],
   IG 183 (.mv) [T 9] 182 true,
   IG 184 (.mv) [T 24] 182 true,
   IG 185 (.indexs 1) [T 183, T 184] 182 true,
   IG 186 (.load1) [T 185] 182 true,
   IG 187 (.bin .gtr) [T 186, N 0] 182 true,
   I 188 (.pick) [T 182, T 187, .lit (.bool false)],
   I 23 (.mv) [T 188]]))
 (.region [I 179 (.mv) [T 24],
   I 180 (.bin .add) [T 179, N 1],
   I 24 (.mv) [T 180]]))
/-- live: [5, 6, 7, 9, 10, 12, 16, 23, 25, 27, 28, 68, 69, 70] -/
def c_law13_AmapCovers_L5 : ACode :=
 .seq (.seq (.region [I 202 (.mv) [T 23],
   I 203 (.mv) [T 202],
   IG 204 (.mv) [T 28] 203 true,
   IG 205 (.mv) [T 16] 203 true,
   IG 206 (.bin .lss) [T 204, T 205] 203 true,
   I 207 (.pick) [T 203, T 206, .lit (.bool false)]])
 (.cond (T 207)
 (.skip)
 (.exit 11)))
 (.seq (.block 12 (.seq (.region [I 210 (.mv) [T 9],
   I 211 (.mv) [T 28],
   I 212 (.indexs 1) [T 210, T 211],
   I 213 (.load1) [T 212],
   I 214 (.bin .sub) [T 213, N 1],
   I 215 (.indexs 1) [T 210, T 211],
   J (.store 1) [T 215, T 214]])
 (.seq (.region [I 216 (.mv) [T 9],
   I 217 (.mv) [T 28],
   I 218 (.indexs 1) [T 216, T 217],
   I 219 (.load1) [T 218],
   I 220 (.bin .eql) [T 219, N 0]])
 (.cond (T 220)
 (.seq (.seq (.region [I 221 (.mv) [T 10],
    I 222 (.mv) [T 28],
    I 223 (.indexs 1) [T 221, T 222],
    I 224 (.load1) [T 223],
    I 225 (.bin .gtr) [T 224, N 0]])
  (.cond (T 225)
  (.region [I 226 (.mv) [T 27],
     I 227 (.mv) [T 10],
     I 228 (.mv) [T 28],
     I 229 (.indexs 1) [T 227, T 228],
     I 230 (.load1) [T 229],
     I 231 (.bslice 3 1 1 (.vals [(.int .i64 0)]) [0]) [T 230],
     I 232 (.append 3 1 8 (.vals [(.int .i64 0)])) [T 226, T 231],
     I 27 (.mv) [T 232]])
  (.skip)))
  (.region [I 233 (.mv) [T 10],
    I 234 (.mv) [T 28],
    I 235 (.indexs 1) [T 233, T 234],
    J (.store 1) [T 235, N 0]]))
 (.skip)))))
 (.region [I 208 (.mv) [T 28],
   I 209 (.bin .add) [T 208, N 1],
   I 28 (.mv) [T 209]]))
/-- live: [5, 6, 7, 9, 10, 12, 29, 68, 69, 70, 241, 242] -/
def c_law13_AmapCovers_L6 : ACode :=
 .seq (.region [I 243 (.bin .lss) [T 242, T 241]])
 (.seq (.cond (T 243)
 (.skip)
 (.exit 13))
 (.seq (.block 14 (.seq (.region [I 244 (.mv) [T 242],
   I 30 (.mv) [T 244]])
 (.region [I 245 (.mv) [T 29],
   I 246 (.mv) [T 9],
   I 247 (.mv) [T 30],
   I 248 (.indexs 1) [T 246, T 247],
   I 249 (.load1) [T 248],
   I 250 (.bin .add) [T 245, T 249],
   I 29 (.mv) [T 250]])))
 (.region [I 251 (.bin .add) [T 242, N 1],
   I 242 (.mv) [T 251]])))
/-- live: [5, 6, 7, 9, 10, 12, 68, 69, 70, 268, 269] -/
def c_law13_AmapCovers_L7 : ACode :=
 .seq (.region [I 270 (.bin .lss) [T 269, T 268]])
 (.seq (.cond (T 270)
 (.skip)
 (.exit 15))
 (.seq (.block 16 (.seq (.region [I 271 (.mv) [T 269],
   I 31 (.mv) [T 271]])
 (.seq (.draw [[⟨0, I 272 (.mv) [T 6], [], false⟩,
   ⟨1, I 273 (.mv) [T 7], [], false⟩,
   ⟨2, I 274 (.mv) [T 31], [], false⟩,
   ⟨4, I 276 (.mv) [T 9], [], false⟩,
   ⟨5, I 277 (.mv) [T 31], [], false⟩,
   ⟨6, I 278 (.indexs 1) [T 276, T 277], [], false⟩,
   ⟨7, I 279 (.load1) [T 278], [], false⟩,
   ⟨3, I 275 (.callv) [F 87, T 272, T 273, T 274], [(7, I 279 (.load1) [T 278])], false⟩,
   ⟨8, I 280 (.bin .neq) [T 275, T 279], [], false⟩,
   ⟨9, I 281 (.mv) [T 280], [], false⟩,
   ⟨10, IG 282 (.mv) [T 6] 281 false, [], false⟩,
   ⟨11, IG 283 (.mv) [T 7] 281 false, [], false⟩,
   ⟨12, IG 284 (.mv) [T 31] 281 false, [], false⟩,
   ⟨14, IG 286 (.mv) [T 10] 281 false, [], false⟩,
   ⟨15, IG 287 (.mv) [T 31] 281 false, [], false⟩,
   ⟨16, IG 288 (.indexs 1) [T 286, T 287] 281 false, [], false⟩,
   ⟨17, IG 289 (.load1) [T 288] 281 false, [], false⟩,
   ⟨13, IG 285 (.callv) [F 83, T 282, T 283, T 284] 281 false, [(17, IG 289 (.load1) [T 288] 281 false)], false⟩,
   ⟨18, IG 290 (.bin .neq) [T 285, T 289] 281 false, [], false⟩,
   ⟨19, I 291 (.pick) [T 281, .lit (.bool true), T 290], [], false⟩]])
 (.cond (T 291)
 (.seq (.region [I 4 (.mv) [.lit (.bool false)]])
  (.ret))
 (.skip)))))
 (.region [I 292 (.bin .add) [T 269, N 1],
   I 269 (.mv) [T 292]])))
/-- live: [5, 6, 7, 9, 10, 12, 68, 69, 70] -/
def c_law13_AmapCovers_L1 : ACode :=
 .seq (.region [I 71 (.bin .lss) [T 70, T 69]])
 (.seq (.cond (T 71)
 (.skip)
 (.exit 2))
 (.seq (.block 3 (.seq (.region [I 72 (.indexs 4) [T 68, T 70],
   I 73 (.loadn 4) [T 72],
   I 14 (.alloc 135 4 (.vals [(.int .i64 0), (.int .i64 0), (.int .i64 0), (.int .i64 0)])) [],
   J (.store 4) [T 14, T 73]])
 (.seq (.region [I 74 (.fieldAddr 2) [T 14],
   I 75 (.load1) [T 74],
   I 76 (.conv .u64) [T 75],
   I 77 (.mv) [T 5],
   I 78 (.conv .u64) [T 77],
   I 79 (.bin .rem) [T 76, T 78],
   I 80 (.conv .i64) [T 79],
   I 15 (.mv) [T 80]])
 (.seq (.region [I 81 (.mv) [T 15],
   I 82 (.bin .add) [T 81, N 1],
   I 83 (.fieldAddr 3) [T 14],
   I 84 (.load1) [T 83],
   I 85 (.conv .u64) [T 84],
   I 86 (.mv) [T 5],
   I 87 (.mv) [T 15],
   I 88 (.bin .sub) [T 86, T 87],
   I 89 (.conv .u64) [T 88],
   I 90 (.bin .rem) [T 85, T 89],
   I 91 (.conv .i64) [T 90],
   I 92 (.bin .add) [T 82, T 91],
   I 16 (.mv) [T 92]])
 (.seq (.seq (.region [I 93 (.fieldAddr 0) [T 14],
   I 94 (.load1) [T 93]])
 (.block 4 (.seq (.region [I 96 (.bin .eql) [T 94, N 1],
   I 95 (.mv) [T 96]])
 (.cond (T 95)
 (.seq (.region [I 98 (.mv) [T 6],
    I 99 (.mv) [T 7],
    I 100 (.mv) [T 15],
    I 101 (.mv) [T 12],
    I 102 (.callv) [F 80, T 98, T 99, T 100, T 101],
    I 97 (.mv) [T 102],
    I 103 (.extract 0) [T 97],
    I 104 (.extract 1) [T 97],
    I 17 (.mv) [T 103],
    I 18 (.mv) [T 104]])
  (.seq (.seq (.region [I 105 (.mv) [T 18],
    I 106 (.bin .eql) [T 105, N 0],
    I 107 (.mv) [T 9],
    I 108 (.mv) [T 15],
    I 109 (.indexs 1) [T 107, T 108],
    I 110 (.load1) [T 109],
    I 111 (.bin .gtr) [T 110, N 0],
    I 112 (.eqv true (.scal .bool)) [T 106, T 111],
    I 113 (.mv) [T 112],
    IG 114 (.mv) [T 18] 113 false,
    IG 115 (.bin .eql) [T 114, N 0] 113 false,
    IG 116 (.mv) [T 115] 113 false,
    IG 117 (.mv) [T 17] 116 true,
    IG 118 (.mv) [T 10] 116 true,
    IG 119 (.mv) [T 15] 116 true,
    IG 120 (.indexs 1) [T 118, T 119] 116 true,
    IG 121 (.load1) [T 120] 116 true,
    IG 122 (.bin .neq) [T 117, T 121] 116 true,
    IG 123 (.pick) [T 116, T 122, .lit (.bool false)] 113 false,
    I 124 (.pick) [T 113, .lit (.bool true), T 123]])
  (.cond (T 124)
  (.seq (.region [I 4 (.mv) [.lit (.bool false)]])
   (.ret))
  (.skip)))
  (.seq (.region [I 125 (.mv) [T 18],
    I 126 (.bin .eql) [T 125, N 0]])
  (.cond (T 126)
  (.seq (.region [I 127 (.mv) [T 10],
     I 128 (.mv) [T 15],
     I 129 (.mv) [T 12],
     I 130 (.indexs 1) [T 127, T 128],
     J (.store 1) [T 130, T 129]])
   (.region [I 131 (.mv) [T 12],
     I 132 (.bin .add) [T 131, N 1],
     I 12 (.mv) [T 132]]))
  (.skip)))))
 (.seq (.region [I 134 (.bin .eql) [T 94, N 2],
    I 133 (.mv) [T 134]])
  (.cond (T 133)
  (.seq (.region [I 19 (.mv) [.lit (.bool true)]])
   (.seq (.seq (.region [I 135 (.mv) [T 15],
     I 20 (.mv) [T 135]])
   (.block 5 (.loop c_law13_AmapCovers_L2)))
   (.seq (.seq (.region [I 149 (.mv) [T 6],
     I 150 (.mv) [T 7],
     I 151 (.mv) [T 15],
     I 152 (.mv) [T 16],
     I 153 (.callv) [F 85, T 149, T 150, T 151, T 152],
     I 21 (.mv) [T 153]])
   (.seq (.region [I 154 (.mv) [T 21],
     I 155 (.bin .eql) [T 154, N 0],
     I 156 (.mv) [T 19],
     I 157 (.eqv true (.scal .bool)) [T 155, T 156]])
   (.cond (T 157)
   (.seq (.region [I 4 (.mv) [.lit (.bool false)]])
    (.ret))
   (.skip))))
   (.seq (.region [I 158 (.mv) [T 15],
     I 22 (.mv) [T 158]])
   (.block 7 (.loop c_law13_AmapCovers_L3))))))
  (.seq (.region [I 174 (.bin .eql) [T 94, N 3],
     I 173 (.mv) [T 174]])
   (.cond (T 173)
   (.seq (.region [I 23 (.mv) [.lit (.bool true)]])
    (.seq (.seq (.region [I 175 (.mv) [T 15],
      I 24 (.mv) [T 175]])
    (.block 9 (.loop c_law13_AmapCovers_L4)))
    (.seq (.region [I 190 (.mv) [T 6],
      I 191 (.mv) [T 7],
      I 192 (.mv) [T 15],
      I 193 (.mv) [T 16],
      I 194 (.callv) [F 81, T 190, T 191, T 192, T 193],
      I 189 (.mv) [T 194],
      I 195 (.extract 0) [T 189],
      I 196 (.extract 1) [T 189],
      I 25 (.mv) [T 195],
      I 26 (.mv) [T 196]])
    (.seq (.seq (.region [I 197 (.mv) [T 26],
      I 198 (.bin .eql) [T 197, N 0],
      I 199 (.mv) [T 23],
      I 200 (.eqv true (.scal .bool)) [T 198, T 199]])
    (.cond (T 200)
    (.seq (.region [I 4 (.mv) [.lit (.bool false)]])
     (.ret))
    (.skip)))
    (.seq (.region [I 27 (.mv) [.lit .nilsl]])
    (.seq (.seq (.region [I 201 (.mv) [T 15],
      I 28 (.mv) [T 201]])
    (.block 11 (.loop c_law13_AmapCovers_L5)))
    (.seq (.region [I 236 (.mv) [T 25],
      I 237 (.mv) [T 27],
      I 238 (.callv) [F 68, T 236, T 237],
      I 239 (.un .not) [T 238]])
    (.cond (T 239)
    (.seq (.region [I 4 (.mv) [.lit (.bool false)]])
     (.ret))
    (.skip)))))))))
   (.skip)))))))))
 (.seq (.region [I 29 (.mv) [N 0]])
 (.seq (.seq (.region [I 240 (.mv) [T 9],
   I 241 (.lens) [T 240],
   I 242 (.mv) [N 0]])
 (.block 13 (.loop c_law13_AmapCovers_L6)))
 (.seq (.seq (.region [I 252 (.mv) [T 29],
   I 253 (.bin .eql) [T 252, N 0]])
 (.cond (T 253)
 (.seq (.region [I 254 (.mv) [T 6],
    I 255 (.callv) [F 86, T 254],
    I 256 (.lens) [T 255],
    I 257 (.bin .eql) [T 256, N 0],
    I 258 (.mv) [T 257],
    IG 259 (.mv) [T 6] 258 true,
    IG 260 (.mv) [T 7] 258 true,
    IG 261 (.callv) [F 82, T 259, T 260] 258 true,
    IG 262 (.bin .eql) [T 261, N 0] 258 true,
    I 263 (.pick) [T 258, T 262, .lit (.bool false)],
    I 264 (.mv) [T 263],
    IG 265 (.callv) [F 84] 264 true,
    I 266 (.pick) [T 264, T 265, .lit (.bool false)],
    I 4 (.mv) [T 266]])
  (.ret))
 (.skip)))
 (.seq (.region [I 267 (.mv) [T 9],
   I 268 (.lens) [T 267],
   I 269 (.mv) [N 0]])
 (.block 15 (.loop c_law13_AmapCovers_L7)))))))))))
 (.region [I 293 (.bin .add) [T 70, N 1],
   I 70 (.mv) [T 293]])))
def c_law13_AmapCovers : AFn := ⟨301, [.tmp 4],
 .seq (.region [I 4 (.mv) [.lit (.bool false)]])
 (.seq (.region [I 32 (.mv) [T 0],
   I 33 (.bin .rem) [T 32, .lit (.int .u64 12)],
   I 34 (.conv .i64) [T 33],
   I 35 (.bin .add) [N 1, T 34],
   I 5 (.mv) [T 35]])
 (.seq (.region [I 36 (.callv) [F 78, N 1],
   I 6 (.mv) [T 36]])
 (.seq (.region [I 38 (.mv) [T 6],
   I 39 (.mv) [T 5],
   I 40 (.callv) [F 79, T 38, T 39],
   I 37 (.mv) [T 40],
   I 41 (.extract 0) [T 37],
   I 42 (.extract 1) [T 37],
   I 7 (.mv) [T 41],
   I 8 (.mv) [T 42]])
 (.seq (.seq (.region [I 43 (.mv) [T 8],
   I 44 (.bin .neq) [T 43, N 0],
   I 45 (.mv) [T 44],
   IG 46 (.mv) [T 1] 45 false,
   IG 47 (.lens) [T 46] 45 false,
   IG 48 (.bin .gtr) [T 47, N 80] 45 false,
   I 49 (.pick) [T 45, .lit (.bool true), T 48]])
 (.cond (T 49)
 (.seq (.region [I 50 (.mv) [T 8],
    I 51 (.bin .eql) [T 50, N 0],
    I 52 (.mv) [T 51],
    IG 53 (.callv) [F 84] 52 true,
    I 54 (.pick) [T 52, T 53, .lit (.bool false)],
    I 4 (.mv) [T 54]])
  (.ret))
 (.skip)))
 (.seq (.draw [[⟨0, I 55 (.mv) [T 5], [], false⟩,
   ⟨2, I 57 (.mv) [T 5], [], false⟩,
   ⟨1, I 56 (.mkslice 3 1 8 (.vals [(.int .i64 0)])) [T 55, T 55], [], false⟩,
   ⟨4, I 9 (.mv) [T 56], [], false⟩,
   ⟨3, I 58 (.mkslice 3 1 8 (.vals [(.int .i64 0)])) [T 57, T 57], [], false⟩,
   ⟨5, I 10 (.mv) [T 58], [], false⟩],
[⟨0, I 55 (.mv) [T 5], [], false⟩,
   ⟨2, I 57 (.mv) [T 5], [], false⟩,
   ⟨3, I 58 (.mkslice 3 1 8 (.vals [(.int .i64 0)])) [T 57, T 57], [], false⟩,
   ⟨1, I 56 (.mkslice 3 1 8 (.vals [(.int .i64 0)])) [T 55, T 55], [], false⟩,
   ⟨4, I 9 (.mv) [T 56], [], false⟩,
   ⟨5, I 10 (.mv) [T 58], [], false⟩]])
 (.seq (.seq (.region [I 59 (.mv) [T 9],
   I 60 (.lens) [T 59],
   I 61 (.mv) [N 0]])
 (.block 0 (.loop c_law13_AmapCovers_L0)))
 (.seq (.region [I 12 (.mv) [N 1]])
 (.seq (.seq (.region [I 68 (.mv) [T 1],
   I 69 (.lens) [T 68],
   I 70 (.mv) [N 0]])
 (.block 2 (.loop c_law13_AmapCovers_L1)))
 (.seq (.region [I 294 (.mv) [T 6],
   I 295 (.callv) [F 86, T 294],
   I 296 (.lens) [T 295],
   I 297 (.bin .eql) [T 296, N 1],
   I 298 (.mv) [T 297],
   IG 299 (.callv) [F 84] 298 true,
   I 300 (.pick) [T 298, T 299, .lit (.bool false)],
   I 4 (.mv) [T 300]])
 (.ret))))))))))⟩
theorem t20 : trFn Try.prog Try.f20 = some c_law13_AmapCovers := by kernel_rfl

/-- pantry/pantrylaw13.AmapCopies -/
abbrev n_law13_AmapCopies : Nat := 21
/-- live: [7, 8, 9, 10, 11, 53, 54, 55] -/
def c_law13_AmapCopies_L0 : ACode :=
 .seq (.region [I 56 (.bin .lss) [T 55, T 54]])
 (.seq (.cond (T 56)
 (.skip)
 (.exit 0))
 (.seq (.block 1 (.seq (.region [I 57 (.mv) [T 55],
   I 58 (.indexs 1) [T 53, T 55],
   I 59 (.load1) [T 58],
   I 13 (.mv) [T 57],
   I 14 (.mv) [T 59]])
 (.region [I 60 (.mv) [T 10],
   I 61 (.mv) [T 11],
   I 62 (.mv) [T 14],
   I 63 (.mv) [T 9],
   I 64 (.conv .u64) [T 63],
   I 65 (.bin .rem) [T 62, T 64],
   I 66 (.conv .i64) [T 65],
   I 67 (.mv) [T 13],
   I 68 (.bin .add) [T 67, N 1],
   I 69 (.callv) [F 80, T 60, T 61, T 66, T 68]])))
 (.region [I 70 (.bin .add) [T 55, N 1],
   I 55 (.mv) [T 70]])))
/-- live: [10, 11, 15, 16, 17, 18, 20, 21] -/
def c_law13_AmapCopies_L1 : ACode :=
 .seq (.seq (.region [I 107 (.mv) [T 21],
   I 108 (.mv) [T 16],
   I 109 (.bin .lss) [T 107, T 108]])
 (.cond (T 109)
 (.skip)
 (.exit 2)))
 (.seq (.block 3 (.seq (.seq (.region [I 112 (.mv) [T 10],
   I 113 (.mv) [T 17],
   I 114 (.mv) [T 21],
   I 115 (.mv) [T 15],
   I 116 (.bin .sub) [T 114, T 115],
   I 117 (.callv) [F 83, T 112, T 113, T 116],
   I 118 (.mv) [T 10],
   I 119 (.mv) [T 11],
   I 120 (.mv) [T 21],
   I 121 (.callv) [F 83, T 118, T 119, T 120],
   I 122 (.bin .neq) [T 117, T 121],
   I 123 (.mv) [T 122],
   IG 124 (.mv) [T 10] 123 false,
   IG 125 (.mv) [T 17] 123 false,
   IG 126 (.mv) [T 21] 123 false,
   IG 127 (.mv) [T 15] 123 false,
   IG 128 (.bin .sub) [T 126, T 127] 123 false,
   IG 129 (.callv) [F 87, T 124, T 125, T 128] 123 false,
   IG 130 (.bin .neq) [T 129, N 1] 123 false,
   I 131 (.pick) [T 123, .lit (.bool true), T 130]])
 (.cond (T 131)
 (.seq (.region [I 6 (.mv) [.lit (.bool false)]])
  (.ret))
 (.skip)))
 (.seq (.region [I 132 (.mv) [T 10],
   I 133 (.mv) [T 11],
   I 134 (.mv) [T 21],
   I 135 (.callv) [F 83, T 132, T 133, T 134],
   I 136 (.bin .gtr) [T 135, N 0]])
 (.cond (T 136)
 (.region [I 137 (.mv) [T 20],
    I 138 (.mv) [T 10],
    I 139 (.mv) [T 11],
    I 140 (.mv) [T 21],
    I 141 (.callv) [F 83, T 138, T 139, T 140],
    I 142 (.bslice 3 1 1 (.vals [(.int .i64 0)]) [0]) [T 141],
    I 143 (.append 3 1 8 (.vals [(.int .i64 0)])) [T 137, T 142],
    I 20 (.mv) [T 143]])
 (.skip)))))
 (.region [I 110 (.mv) [T 21],
   I 111 (.bin .add) [T 110, N 1],
   I 21 (.mv) [T 111]]))
def c_law13_AmapCopies : AFn := ⟨178, [.tmp 6],
 .seq (.region [I 4 (.box 43 2) [T 1],
   I 6 (.mv) [.lit (.bool false)]])
 (.seq (.draw [[⟨0, I 26 (.indexa 2 1) [T 4, N 0], [], false⟩,
   ⟨1, I 27 (.load1) [T 26], [], false⟩,
   ⟨2, I 28 (.indexa 2 1) [T 4, N 1], [], false⟩,
   ⟨3, I 29 (.load1) [T 28], [], false⟩,
   ⟨4, I 7 (.mv) [T 27], [], false⟩,
   ⟨5, I 8 (.mv) [T 29], [], false⟩]])
 (.seq (.region [I 30 (.mv) [T 0],
   I 31 (.bin .rem) [T 30, .lit (.int .u64 20)],
   I 32 (.conv .i64) [T 31],
   I 33 (.bin .add) [N 1, T 32],
   I 9 (.mv) [T 33]])
 (.seq (.region [I 34 (.callv) [F 78, N 2],
   I 10 (.mv) [T 34]])
 (.seq (.region [I 36 (.mv) [T 10],
   I 37 (.mv) [T 9],
   I 38 (.callv) [F 79, T 36, T 37],
   I 35 (.mv) [T 38],
   I 39 (.extract 0) [T 35],
   I 40 (.extract 1) [T 35],
   I 11 (.mv) [T 39],
   I 12 (.mv) [T 40]])
 (.seq (.seq (.region [I 41 (.mv) [T 12],
   I 42 (.bin .neq) [T 41, N 0],
   I 43 (.mv) [T 42],
   IG 44 (.mv) [T 2] 43 false,
   IG 45 (.lens) [T 44] 43 false,
   IG 46 (.bin .gtr) [T 45, N 60] 43 false,
   I 47 (.pick) [T 43, .lit (.bool true), T 46]])
 (.cond (T 47)
 (.seq (.region [I 48 (.mv) [T 12],
    I 49 (.bin .eql) [T 48, N 0],
    I 50 (.mv) [T 49],
    IG 51 (.callv) [F 84] 50 true,
    I 52 (.pick) [T 50, T 51, .lit (.bool false)],
    I 6 (.mv) [T 52]])
  (.ret))
 (.skip)))
 (.seq (.seq (.region [I 53 (.mv) [T 2],
   I 54 (.lens) [T 53],
   I 55 (.mv) [N 0]])
 (.block 0 (.loop c_law13_AmapCopies_L0)))
 (.seq (.region [I 71 (.mv) [T 7],
   I 72 (.mv) [T 9],
   I 73 (.conv .u64) [T 72],
   I 74 (.bin .rem) [T 71, T 73],
   I 75 (.conv .i64) [T 74],
   I 15 (.mv) [T 75]])
 (.seq (.region [I 76 (.mv) [T 15],
   I 77 (.bin .add) [T 76, N 1],
   I 78 (.mv) [T 8],
   I 79 (.mv) [T 9],
   I 80 (.mv) [T 15],
   I 81 (.bin .sub) [T 79, T 80],
   I 82 (.conv .u64) [T 81],
   I 83 (.bin .rem) [T 78, T 82],
   I 84 (.conv .i64) [T 83],
   I 85 (.bin .add) [T 77, T 84],
   I 16 (.mv) [T 85]])
 (.seq (.region [I 87 (.mv) [T 10],
   I 88 (.mv) [T 11],
   I 89 (.mv) [T 15],
   I 90 (.mv) [T 16],
   I 91 (.callv) [F 88, T 87, T 88, T 89, T 90],
   I 86 (.mv) [T 91],
   I 92 (.extract 0) [T 86],
   I 93 (.extract 1) [T 86],
   I 94 (.extract 2) [T 86],
   I 17 (.mv) [T 92],
   I 18 (.mv) [T 93],
   I 19 (.mv) [T 94]])
 (.seq (.seq (.region [I 95 (.mv) [T 19],
   I 96 (.bin .neq) [T 95, N 0],
   I 97 (.mv) [T 96],
   IG 98 (.mv) [T 10] 97 false,
   IG 99 (.mv) [T 17] 97 false,
   IG 100 (.callv) [F 82, T 98, T 99] 97 false,
   IG 101 (.mv) [T 16] 97 false,
   IG 102 (.mv) [T 15] 97 false,
   IG 103 (.bin .sub) [T 101, T 102] 97 false,
   IG 104 (.bin .neq) [T 100, T 103] 97 false,
   I 105 (.pick) [T 97, .lit (.bool true), T 104]])
 (.cond (T 105)
 (.seq (.region [I 6 (.mv) [.lit (.bool false)]])
  (.ret))
 (.skip)))
 (.seq (.region [I 20 (.mv) [.lit .nilsl]])
 (.seq (.seq (.region [I 106 (.mv) [T 15],
   I 21 (.mv) [T 106]])
 (.block 2 (.loop c_law13_AmapCopies_L1)))
 (.seq (.region [I 144 (.mv) [T 10],
   I 145 (.mv) [T 11],
   I 146 (.mv) [T 15],
   I 147 (.callv) [F 83, T 144, T 145, T 146],
   I 22 (.mv) [T 147]])
 (.seq (.region [I 148 (.mv) [T 10],
   I 149 (.mv) [T 17],
   I 150 (.callv) [F 80, T 148, T 149, N 0, N 777]])
 (.seq (.region [I 152 (.mv) [T 10],
   I 153 (.mv) [T 11],
   I 154 (.mv) [T 15],
   I 155 (.mv) [T 16],
   I 156 (.callv) [F 88, T 152, T 153, T 154, T 155],
   I 151 (.mv) [T 156],
   I 157 (.extract 0) [T 151],
   I 158 (.extract 1) [T 151],
   I 159 (.extract 2) [T 151],
   I 23 (.mv) [T 157],
   I 24 (.mv) [T 158],
   I 25 (.mv) [T 159]])
 (.seq (.region [I 160 (.mv) [T 18],
   I 161 (.mv) [T 20],
   I 162 (.callv) [F 68, T 160, T 161],
   I 163 (.mv) [T 162],
   IG 164 (.mv) [T 10] 163 true,
   IG 165 (.mv) [T 11] 163 true,
   IG 166 (.mv) [T 15] 163 true,
   IG 167 (.callv) [F 83, T 164, T 165, T 166] 163 true,
   IG 168 (.mv) [T 22] 163 true,
   IG 169 (.bin .eql) [T 167, T 168] 163 true,
   I 170 (.pick) [T 163, T 169, .lit (.bool false)],
   I 171 (.mv) [T 170],
   IG 172 (.mv) [T 25] 171 true,
   IG 173 (.bin .eql) [T 172, N 5] 171 true,
   I 174 (.pick) [T 171, T 173, .lit (.bool false)],
   I 175 (.mv) [T 174],
   IG 176 (.callv) [F 84] 175 true,
   I 177 (.pick) [T 175, T 176, .lit (.bool false)],
   I 6 (.mv) [T 177]])
 (.ret)))))))))))))))))⟩
theorem t21 : trFn Try.prog Try.f21 = some c_law13_AmapCopies := by kernel_rfl

/-- pantry/pantrylaw13.AmapActs -/
abbrev n_law13_AmapActs : Nat := 22
/-- live: [0, 1, 2, 40, 41, 42] -/
def c_law13_AmapActs_L0 : ACode :=
 .seq (.region [I 43 (.bin .lss) [T 42, T 41]])
 (.seq (.cond (T 43)
 (.skip)
 (.exit 0))
 (.seq (.block 1 (.seq (.region [I 44 (.indexs 4) [T 40, T 42],
   I 45 (.loadn 4) [T 44],
   I 8 (.alloc 135 4 (.vals [(.int .i64 0), (.int .i64 0), (.int .i64 0), (.int .i64 0)])) [],
   J (.store 4) [T 8, T 45]])
 (.seq (.region [I 46 (.fieldAddr 0) [T 8],
   I 47 (.load1) [T 46],
   I 48 (.bin .eql) [T 47, N 0],
   I 49 (.mv) [T 48],
   IG 50 (.fieldAddr 3) [T 8] 49 true,
   IG 51 (.load1) [T 50] 49 true,
   IG 52 (.bin .gtr) [T 51, N 200] 49 true,
   I 53 (.pick) [T 49, T 52, .lit (.bool false)],
   I 54 (.mv) [T 53],
   IG 55 (.fieldAddr 3) [T 8] 54 true,
   IG 56 (.load1) [T 55] 54 true,
   IG 57 (.bin .leq) [T 56, N 4096] 54 true,
   I 58 (.pick) [T 54, T 57, .lit (.bool false)]])
 (.cond (T 58)
 (.seq (.region [I 59 (.callv) [F 84],
    I 6 (.mv) [T 59]])
  (.ret))
 (.skip)))))
 (.region [I 60 (.bin .add) [T 42, N 1],
   I 42 (.mv) [T 60]])))
/-- live: [2, 9, 10, 12, 13, 32, 73, 74, 75, 236, 237, 238] -/
def c_law13_AmapActs_L2 : ACode :=
 .seq (.region [I 239 (.bin .lss) [T 238, T 237]])
 (.seq (.cond (T 239)
 (.skip)
 (.exit 5))
 (.seq (.block 6 (.seq (.region [I 240 (.mv) [T 238],
   I 241 (.indexs 1) [T 236, T 238],
   I 242 (.load1) [T 241],
   I 34 (.mv) [T 240],
   I 35 (.mv) [T 242]])
 (.seq (.region [I 243 (.mv) [T 35],
   I 244 (.bin .neq) [T 243, N 0],
   I 245 (.mv) [T 244],
   IG 246 (.mv) [T 2] 245 true,
   IG 247 (.bin .lss) [T 246, N 0] 245 true,
   IG 248 (.mv) [T 247] 245 true,
   IG 249 (.mv) [T 32] 248 false,
   IG 250 (.lens) [T 249] 248 false,
   IG 251 (.mv) [T 2] 248 false,
   IG 252 (.bin .mul) [N 2, T 251] 248 false,
   IG 253 (.bin .lss) [T 250, T 252] 248 false,
   IG 254 (.pick) [T 248, .lit (.bool true), T 253] 245 true,
   I 255 (.pick) [T 245, T 254, .lit (.bool false)]])
 (.cond (T 255)
 (.region [I 256 (.mv) [T 32],
    I 257 (.mv) [T 34],
    I 258 (.mv) [T 35],
    I 259 (.bslice 3 1 2 (.vals [(.int .i64 0)]) [0, 1]) [T 257, T 258],
    I 260 (.append 3 1 8 (.vals [(.int .i64 0)])) [T 256, T 259],
    I 32 (.mv) [T 260]])
 (.skip)))))
 (.region [I 261 (.bin .add) [T 238, N 1],
   I 238 (.mv) [T 261]])))
/-- live: [2, 9, 10, 73, 74, 75] -/
def c_law13_AmapActs_L1 : ACode :=
 .seq (.region [I 76 (.bin .lss) [T 75, T 74]])
 (.seq (.cond (T 76)
 (.skip)
 (.exit 2))
 (.seq (.block 3 (.seq (.region [I 77 (.indexs 4) [T 73, T 75],
   I 78 (.loadn 4) [T 77],
   I 12 (.alloc 135 4 (.vals [(.int .i64 0), (.int .i64 0), (.int .i64 0), (.int .i64 0)])) [],
   J (.store 4) [T 12, T 78]])
 (.seq (.region [I 13 (.mv) [.lit (.bool true)]])
 (.seq (.seq (.region [I 79 (.fieldAddr 0) [T 12],
   I 80 (.load1) [T 79]])
 (.block 4 (.seq (.region [I 82 (.bin .eql) [T 80, N 0],
   I 81 (.mv) [T 82]])
 (.cond (T 81)
 (.seq (.region [I 84 (.mv) [T 9],
    I 85 (.fieldAddr 3) [T 12],
    I 86 (.load1) [T 85],
    I 87 (.callv) [F 79, T 84, T 86],
    I 83 (.mv) [T 87],
    I 88 (.extract 0) [T 83],
    I 89 (.extract 1) [T 83],
    I 14 (.mv) [T 88],
    I 15 (.mv) [T 89]])
  (.seq (.region [I 91 (.mv) [T 10],
    I 92 (.fieldAddr 3) [T 12],
    I 93 (.load1) [T 92],
    I 94 (.callv) [F 90, T 91, T 93],
    I 90 (.mv) [T 94],
    I 95 (.extract 0) [T 90],
    I 96 (.extract 1) [T 90],
    I 16 (.mv) [T 95],
    I 17 (.mv) [T 96]])
  (.region [I 97 (.mv) [T 14],
    I 98 (.mv) [T 16],
    I 99 (.bin .eql) [T 97, T 98],
    I 100 (.mv) [T 99],
    IG 101 (.mv) [T 15] 100 true,
    IG 102 (.mv) [T 17] 100 true,
    IG 103 (.bin .eql) [T 101, T 102] 100 true,
    I 104 (.pick) [T 100, T 103, .lit (.bool false)],
    I 13 (.mv) [T 104]])))
 (.seq (.region [I 106 (.bin .eql) [T 80, N 1],
    I 105 (.mv) [T 106]])
  (.cond (T 105)
  (.seq (.region [I 108 (.mv) [T 9],
     I 109 (.fieldAddr 1) [T 12],
     I 110 (.load1) [T 109],
     I 111 (.fieldAddr 2) [T 12],
     I 112 (.load1) [T 111],
     I 113 (.fieldAddr 3) [T 12],
     I 114 (.load1) [T 113],
     I 115 (.callv) [F 80, T 108, T 110, T 112, T 114],
     I 107 (.mv) [T 115],
     I 116 (.extract 0) [T 107],
     I 117 (.extract 1) [T 107],
     I 18 (.mv) [T 116],
     I 19 (.mv) [T 117]])
   (.seq (.region [I 119 (.mv) [T 10],
     I 120 (.fieldAddr 1) [T 12],
     I 121 (.load1) [T 120],
     I 122 (.fieldAddr 2) [T 12],
     I 123 (.load1) [T 122],
     I 124 (.fieldAddr 3) [T 12],
     I 125 (.load1) [T 124],
     I 126 (.callv) [F 91, T 119, T 121, T 123, T 125],
     I 118 (.mv) [T 126],
     I 127 (.extract 0) [T 118],
     I 128 (.extract 1) [T 118],
     I 20 (.mv) [T 127],
     I 21 (.mv) [T 128]])
   (.region [I 129 (.mv) [T 18],
     I 130 (.mv) [T 20],
     I 131 (.bin .eql) [T 129, T 130],
     I 132 (.mv) [T 131],
     IG 133 (.mv) [T 19] 132 true,
     IG 134 (.mv) [T 21] 132 true,
     IG 135 (.bin .eql) [T 133, T 134] 132 true,
     I 136 (.pick) [T 132, T 135, .lit (.bool false)],
     I 13 (.mv) [T 136]])))
  (.seq (.region [I 138 (.bin .eql) [T 80, N 2],
     I 137 (.mv) [T 138]])
   (.cond (T 137)
   (.draw [[⟨0, I 139 (.mv) [T 9], [], false⟩,
      ⟨1, I 140 (.fieldAddr 1) [T 12], [], false⟩,
      ⟨2, I 141 (.load1) [T 140], [], false⟩,
      ⟨3, I 142 (.fieldAddr 2) [T 12], [], false⟩,
      ⟨4, I 143 (.load1) [T 142], [], false⟩,
      ⟨5, I 144 (.fieldAddr 3) [T 12], [], false⟩,
      ⟨6, I 145 (.load1) [T 144], [], false⟩,
      ⟨8, I 147 (.mv) [T 10], [], false⟩,
      ⟨9, I 148 (.fieldAddr 1) [T 12], [], false⟩,
      ⟨10, I 149 (.load1) [T 148], [], false⟩,
      ⟨11, I 150 (.fieldAddr 2) [T 12], [], false⟩,
      ⟨12, I 151 (.load1) [T 150], [], false⟩,
      ⟨13, I 152 (.fieldAddr 3) [T 12], [], false⟩,
      ⟨14, I 153 (.load1) [T 152], [], false⟩,
      ⟨7, I 146 (.callv) [F 85, T 139, T 141, T 143, T 145], [(10, I 149 (.load1) [T 148]), (12, I 151 (.load1) [T 150]), (14, I 153 (.load1) [T 152])], false⟩,
      ⟨15, I 154 (.callv) [F 92, T 147, T 149, T 151, T 153], [], false⟩,
      ⟨16, I 155 (.bin .eql) [T 146, T 154], [], false⟩,
      ⟨17, I 13 (.mv) [T 155], [], false⟩]])
   (.seq (.region [I 157 (.bin .eql) [T 80, N 3],
      I 156 (.mv) [T 157]])
    (.cond (T 156)
    (.seq (.region [I 159 (.mv) [T 9],
       I 160 (.fieldAddr 1) [T 12],
       I 161 (.load1) [T 160],
       I 162 (.fieldAddr 2) [T 12],
       I 163 (.load1) [T 162],
       I 164 (.fieldAddr 3) [T 12],
       I 165 (.load1) [T 164],
       I 166 (.callv) [F 81, T 159, T 161, T 163, T 165],
       I 158 (.mv) [T 166],
       I 167 (.extract 0) [T 158],
       I 168 (.extract 1) [T 158],
       I 22 (.mv) [T 167],
       I 23 (.mv) [T 168]])
     (.seq (.region [I 170 (.mv) [T 10],
       I 171 (.fieldAddr 1) [T 12],
       I 172 (.load1) [T 171],
       I 173 (.fieldAddr 2) [T 12],
       I 174 (.load1) [T 173],
       I 175 (.fieldAddr 3) [T 12],
       I 176 (.load1) [T 175],
       I 177 (.callv) [F 93, T 170, T 172, T 174, T 176],
       I 169 (.mv) [T 177],
       I 178 (.extract 0) [T 169],
       I 179 (.extract 1) [T 169],
       I 24 (.mv) [T 178],
       I 25 (.mv) [T 179]])
     (.region [I 180 (.mv) [T 22],
       I 181 (.mv) [T 24],
       I 182 (.callv) [F 68, T 180, T 181],
       I 183 (.mv) [T 182],
       IG 184 (.mv) [T 23] 183 true,
       IG 185 (.mv) [T 25] 183 true,
       IG 186 (.bin .eql) [T 184, T 185] 183 true,
       I 187 (.pick) [T 183, T 186, .lit (.bool false)],
       I 13 (.mv) [T 187]])))
    (.seq (.region [I 189 (.bin .eql) [T 80, N 4],
       I 188 (.mv) [T 189]])
     (.cond (T 188)
     (.seq (.region [I 191 (.mv) [T 9],
        I 192 (.fieldAddr 1) [T 12],
        I 193 (.load1) [T 192],
        I 194 (.fieldAddr 2) [T 12],
        I 195 (.load1) [T 194],
        I 196 (.fieldAddr 3) [T 12],
        I 197 (.load1) [T 196],
        I 198 (.callv) [F 88, T 191, T 193, T 195, T 197],
        I 190 (.mv) [T 198],
        I 199 (.extract 0) [T 190],
        I 200 (.extract 1) [T 190],
        I 201 (.extract 2) [T 190],
        I 26 (.mv) [T 199],
        I 27 (.mv) [T 200],
        I 28 (.mv) [T 201]])
      (.seq (.region [I 203 (.mv) [T 10],
        I 204 (.fieldAddr 1) [T 12],
        I 205 (.load1) [T 204],
        I 206 (.fieldAddr 2) [T 12],
        I 207 (.load1) [T 206],
        I 208 (.fieldAddr 3) [T 12],
        I 209 (.load1) [T 208],
        I 210 (.callv) [F 94, T 203, T 205, T 207, T 209],
        I 202 (.mv) [T 210],
        I 211 (.extract 0) [T 202],
        I 212 (.extract 1) [T 202],
        I 213 (.extract 2) [T 202],
        I 29 (.mv) [T 211],
        I 30 (.mv) [T 212],
        I 31 (.mv) [T 213]])
      (.region [I 214 (.mv) [T 26],
        I 215 (.mv) [T 29],
        I 216 (.bin .eql) [T 214, T 215],
        I 217 (.mv) [T 216],
        IG 218 (.mv) [T 27] 217 true,
        IG 219 (.mv) [T 30] 217 true,
        IG 220 (.callv) [F 68, T 218, T 219] 217 true,
        I 221 (.pick) [T 217, T 220, .lit (.bool false)],
        I 222 (.mv) [T 221],
        IG 223 (.mv) [T 28] 222 true,
        IG 224 (.mv) [T 31] 222 true,
        IG 225 (.bin .eql) [T 223, T 224] 222 true,
        I 226 (.pick) [T 222, T 225, .lit (.bool false)],
        I 13 (.mv) [T 226]])))
     (.skip)))))))))))))
 (.seq (.region [I 32 (.mv) [.lit .nilsl]])
 (.seq (.seq (.region [I 227 (.mv) [T 10],
   I 228 (.fieldAddr 1) [T 12],
   I 229 (.load1) [T 228],
   I 230 (.callv) [F 95, T 227, T 229],
   I 33 (.mv) [T 230]])
 (.seq (.region [I 231 (.mv) [T 33],
   I 232 (.eqv true .ptr) [T 231, .lit .nilptr]])
 (.cond (T 232)
 (.seq (.region [I 233 (.mv) [T 33],
    I 234 (.nilCheck) [T 233],
    I 235 (.fieldAddr 1) [T 234],
    I 236 (.load1) [T 235],
    I 237 (.lens) [T 236],
    I 238 (.mv) [N 0]])
  (.block 5 (.loop c_law13_AmapActs_L2)))
 (.skip))))
 (.seq (.draw [(⟨0, I 262 (.mv) [T 13], [], false⟩ ::
   ⟨1, I 263 (.un .not) [T 262], [], false⟩ ::
   ⟨2, I 264 (.mv) [T 263], [], false⟩ ::
   ⟨3, IG 265 (.mv) [T 9] 264 false, [], false⟩ ::
   ⟨4, IG 266 (.fieldAddr 1) [T 12] 264 false, [], false⟩ ::
   ⟨5, IG 267 (.load1) [T 266] 264 false, [], false⟩ ::
   ⟨7, IG 269 (.mv) [T 10] 264 false, [], false⟩ ::
   ⟨8, IG 270 (.fieldAddr 1) [T 12] 264 false, [], false⟩ ::
   ⟨9, IG 271 (.load1) [T 270] 264 false, [], false⟩ ::
   ⟨6, IG 268 (.callv) [F 82, T 265, T 267] 264 false, [(9, IG 271 (.load1) [T 270] 264 false)], false⟩ ::
   ⟨10, IG 272 (.callv) [F 96, T 269, T 271] 264 false, [], false⟩ ::
   ⟨11, IG 273 (.bin .neq) [T 268, T 272] 264 false, [], false⟩ ::
   ⟨12, I 274 (.pick) [T 264, .lit (.bool true), T 273], [], false⟩ ::
   ⟨13, I 275 (.mv) [T 274], [], false⟩ ::
   ⟨14, IG 276 (.mv) [T 9] 275 false, [], false⟩ ::
   ⟨15, IG 277 (.fieldAddr 1) [T 12] 275 false, [], false⟩ ::
   ⟨16, IG 278 (.load1) [T 277] 275 false, [], false⟩ ::
   ⟨17, IG 279 (.fieldAddr 2) [T 12] 275 false, [], false⟩ ::
   ⟨18, IG 280 (.load1) [T 279] 275 false, [], false⟩ ::
   ⟨20, IG 282 (.mv) [T 10] 275 false, [], false⟩ ::
   ⟨21, IG 283 (.fieldAddr 1) [T 12] 275 false, [], false⟩ ::
   ⟨22, IG 284 (.load1) [T 283] 275 false, [], false⟩ ::
   ⟨23, IG 285 (.fieldAddr 2) [T 12] 275 false, [], false⟩ ::
   ⟨24, IG 286 (.load1) [T 285] 275 false, [], false⟩ ::
   ⟨19, IG 281 (.callv) [F 87, T 276, T 278, T 280] 275 false, [(22, IG 284 (.load1) [T 283] 275 false), (24, IG 286 (.load1) [T 285] 275 false)], false⟩ ::
   ⟨25, IG 287 (.callv) [F 97, T 282, T 284, T 286] 275 false, [], false⟩ ::
   ⟨26, IG 288 (.bin .neq) [T 281, T 287] 275 false, [], false⟩ ::
   ⟨27, I 289 (.pick) [T 275, .lit (.bool true), T 288], [], false⟩ ::
   ⟨28, I 290 (.mv) [T 289], [], false⟩ ::
   ⟨29, IG 291 (.mv) [T 9] 290 false, [], false⟩ ::
   ⟨30, IG 292 (.fieldAddr 1) [T 12] 290 false, [], false⟩ ::
   ⟨31, IG 293 (.load1) [T 292] 290 false, [], false⟩ ::
   ⟨32, IG 294 (.fieldAddr 2) [T 12] 290 false, [], false⟩ ::
   ⟨33, IG 295 (.load1) [T 294] 290 false, [], false⟩ ::
   ⟨35, IG 297 (.mv) [T 10] 290 false, [], false⟩ ::
   ⟨36, IG 298 (.fieldAddr 1) [T 12] 290 false, [], false⟩ ::
   ⟨37, IG 299 (.load1) [T 298] 290 false, [], false⟩ ::
   ⟨38, IG 300 (.fieldAddr 2) [T 12] 290 false, [], false⟩ ::
   ⟨39, IG 301 (.load1) [T 300] 290 false, [], false⟩ ::
   ⟨34, IG 296 (.callv) [F 83, T 291, T 293, T 295] 290 false, [(37, IG 299 (.load1) [T 298] 290 false), (39, IG 301 (.load1) [T 300] 290 false)], false⟩ ::
   ⟨40, IG 302 (.callv) [F 98, T 297, T 299, T 301] 290 false, [], false⟩ ::
   ⟨41, IG 303 (.bin .neq) [T 296, T 302] 290 false, [], false⟩ ::
   ⟨42, I 304 (.pick) [T 290, .lit (.bool true), T 303], [], false⟩ ::
   ⟨43, I 305 (.mv) [T 304], [], false⟩ ::
   ⟨44, IG 306 (.mv) [T 9] 305 false, [], false⟩ ::
   ⟨46, IG 308 (.mv) [T 10] 305 false, [], false⟩ ::
   ⟨45, IG 307 (.callv) [F 86, T 306] 305 false, [], false⟩ ::
   ⟨47, IG 309 (.callv) [F 99, T 308] 305 false, [], false⟩ ::
   ⟨48, IG 310 (.callv) [F 68, T 307, T 309] 305 false, [], false⟩ ::
   ⟨49, IG 311 (.un .not) [T 310] 305 false, [], false⟩ ::
   ⟨50, I 312 (.pick) [T 305, .lit (.bool true), T 311], [], false⟩ ::
   ⟨51, I 313 (.mv) [T 312], [], false⟩ ::
   ⟨52, IG 314 (.mv) [T 9] 313 false, [], false⟩ ::
   ⟨53, IG 315 (.fieldAddr 1) [T 12] 313 false, [], false⟩ ::
   ⟨54, IG 316 (.load1) [T 315] 313 false, [], false⟩ ::
   ⟨55, IG 317 (.mv) [T 2] 313 false, [], false⟩ ::
   ⟨57, IG 319 (.mv) [T 32] 313 false, [], false⟩ ::
   ⟨56, IG 318 (.callv) [F 100, T 314, T 316, T 317] 313 false, [], false⟩ ::
   ⟨58, IG 320 (.callv) [F 68, T 318, T 319] 313 false, [], false⟩ ::
   ⟨59, IG 321 (.un .not) [T 320] 313 false, [], false⟩ ::
   ⟨60, I 322 (.pick) [T 313, .lit (.bool true), T 321], [], false⟩ ::
   [])])
 (.cond (T 322)
 (.seq (.region [I 6 (.mv) [.lit (.bool false)]])
  (.ret))
 (.skip)))))))))
 (.region [I 323 (.bin .add) [T 75, N 1],
   I 75 (.mv) [T 323]])))
def c_law13_AmapActs : AFn := ⟨325, [.tmp 6],
 .seq (.region [I 6 (.mv) [.lit (.bool false)]])
 (.seq (.seq (.region [I 36 (.mv) [T 1],
   I 37 (.lens) [T 36],
   I 38 (.bin .gtr) [T 37, N 80]])
 (.cond (T 38)
 (.seq (.region [I 39 (.callv) [F 84],
    I 6 (.mv) [T 39]])
  (.ret))
 (.skip)))
 (.seq (.seq (.region [I 40 (.mv) [T 1],
   I 41 (.lens) [T 40],
   I 42 (.mv) [N 0]])
 (.block 0 (.loop c_law13_AmapActs_L0)))
 (.seq (.region [I 61 (.mv) [T 0],
   I 62 (.callv) [F 78, T 61],
   I 63 (.mv) [T 0],
   I 64 (.callv) [F 89, T 63],
   I 9 (.mv) [T 62],
   I 10 (.mv) [T 64]])
 (.seq (.seq (.region [I 65 (.mv) [T 9],
   I 66 (.eqv false .ptr) [T 65, .lit .nilptr],
   I 67 (.mv) [T 10],
   I 68 (.eqv false .ptr) [T 67, .lit .nilptr],
   I 69 (.eqv true (.scal .bool)) [T 66, T 68]])
 (.cond (T 69)
 (.seq (.region [I 6 (.mv) [.lit (.bool false)]])
  (.ret))
 (.skip)))
 (.seq (.seq (.region [I 70 (.mv) [T 10],
   I 71 (.eqv false .ptr) [T 70, .lit .nilptr]])
 (.cond (T 71)
 (.seq (.region [I 72 (.callv) [F 84],
    I 6 (.mv) [T 72]])
  (.ret))
 (.skip)))
 (.seq (.seq (.region [I 73 (.mv) [T 1],
   I 74 (.lens) [T 73],
   I 75 (.mv) [N 0]])
 (.block 2 (.loop c_law13_AmapActs_L1)))
 (.seq (.region [I 324 (.callv) [F 84],
   I 6 (.mv) [T 324]])
 (.ret))))))))⟩
theorem t22 : trFn Try.prog Try.f22 = some c_law13_AmapActs := by kernel_rfl

/-- pantry/pantrylaw13.AmapNone -/
abbrev n_law13_AmapNone : Nat := 23
/-- live: [1, 15, 16] -/
def c_law13_AmapNone_L0 : ACode :=
 .seq (.region [I 17 (.bin .lss) [T 16, N 2]])
 (.seq (.cond (T 17)
 (.skip)
 (.exit 0))
 (.seq (.block 1 (.seq (.region [I 18 (.indexv 2 1 false) [T 15, T 16],
   I 5 (.mv) [T 18]])
 (.seq (.region [I 20 (.mv) [T 5],
   I 21 (.fieldAddr 3) [T 1],
   I 22 (.load1) [T 21],
   I 23 (.callv) [F 79, T 20, T 22],
   I 19 (.mv) [T 23],
   I 24 (.extract 0) [T 19],
   I 25 (.extract 1) [T 19],
   I 6 (.mv) [T 24],
   I 7 (.mv) [T 25]])
 (.seq (.region [I 27 (.mv) [T 5],
   I 28 (.fieldAddr 1) [T 1],
   I 29 (.load1) [T 28],
   I 30 (.fieldAddr 2) [T 1],
   I 31 (.load1) [T 30],
   I 32 (.fieldAddr 3) [T 1],
   I 33 (.load1) [T 32],
   I 34 (.callv) [F 80, T 27, T 29, T 31, T 33],
   I 26 (.mv) [T 34],
   I 35 (.extract 0) [T 26],
   I 36 (.extract 1) [T 26],
   I 8 (.mv) [T 35],
   I 9 (.mv) [T 36]])
 (.seq (.region [I 38 (.mv) [T 5],
   I 39 (.fieldAddr 1) [T 1],
   I 40 (.load1) [T 39],
   I 41 (.fieldAddr 2) [T 1],
   I 42 (.load1) [T 41],
   I 43 (.fieldAddr 3) [T 1],
   I 44 (.load1) [T 43],
   I 45 (.callv) [F 81, T 38, T 40, T 42, T 44],
   I 37 (.mv) [T 45],
   I 46 (.extract 0) [T 37],
   I 47 (.extract 1) [T 37],
   I 10 (.mv) [T 46],
   I 11 (.mv) [T 47]])
 (.seq (.region [I 49 (.mv) [T 5],
   I 50 (.fieldAddr 1) [T 1],
   I 51 (.load1) [T 50],
   I 52 (.fieldAddr 2) [T 1],
   I 53 (.load1) [T 52],
   I 54 (.fieldAddr 3) [T 1],
   I 55 (.load1) [T 54],
   I 56 (.callv) [F 88, T 49, T 51, T 53, T 55],
   I 48 (.mv) [T 56],
   I 57 (.extract 0) [T 48],
   I 58 (.extract 1) [T 48],
   I 59 (.extract 2) [T 48],
   I 12 (.mv) [T 57],
   I 13 (.mv) [T 58],
   I 14 (.mv) [T 59]])
 (.seq (.draw [(⟨0, I 60 (.mv) [T 7], [], false⟩ ::
   ⟨1, I 61 (.bin .neq) [T 60, N 1], [], false⟩ ::
   ⟨2, I 62 (.mv) [T 61], [], false⟩ ::
   ⟨3, IG 63 (.mv) [T 9] 62 false, [], false⟩ ::
   ⟨4, IG 64 (.bin .neq) [T 63, N 1] 62 false, [], false⟩ ::
   ⟨5, I 65 (.pick) [T 62, .lit (.bool true), T 64], [], false⟩ ::
   ⟨6, I 66 (.mv) [T 65], [], false⟩ ::
   ⟨7, IG 67 (.mv) [T 11] 66 false, [], false⟩ ::
   ⟨8, IG 68 (.bin .neq) [T 67, N 1] 66 false, [], false⟩ ::
   ⟨9, I 69 (.pick) [T 66, .lit (.bool true), T 68], [], false⟩ ::
   ⟨10, I 70 (.mv) [T 69], [], false⟩ ::
   ⟨11, IG 71 (.mv) [T 14] 70 false, [], false⟩ ::
   ⟨12, IG 72 (.bin .neq) [T 71, N 1] 70 false, [], false⟩ ::
   ⟨13, I 73 (.pick) [T 70, .lit (.bool true), T 72], [], false⟩ ::
   ⟨14, I 74 (.mv) [T 73], [], false⟩ ::
   ⟨15, IG 75 (.mv) [T 5] 74 false, [], false⟩ ::
   ⟨16, IG 76 (.fieldAddr 1) [T 1] 74 false, [], false⟩ ::
   ⟨17, IG 77 (.load1) [T 76] 74 false, [], false⟩ ::
   ⟨18, IG 78 (.fieldAddr 2) [T 1] 74 false, [], false⟩ ::
   ⟨19, IG 79 (.load1) [T 78] 74 false, [], false⟩ ::
   ⟨20, IG 80 (.fieldAddr 3) [T 1] 74 false, [], false⟩ ::
   ⟨21, IG 81 (.load1) [T 80] 74 false, [], false⟩ ::
   ⟨22, IG 82 (.callv) [F 85, T 75, T 77, T 79, T 81] 74 false, [], false⟩ ::
   ⟨23, IG 83 (.bin .neq) [T 82, N 1] 74 false, [], false⟩ ::
   ⟨24, I 84 (.pick) [T 74, .lit (.bool true), T 83], [], false⟩ ::
   ⟨25, I 85 (.mv) [T 84], [], false⟩ ::
   ⟨26, IG 86 (.mv) [T 5] 85 false, [], false⟩ ::
   ⟨27, IG 87 (.fieldAddr 1) [T 1] 85 false, [], false⟩ ::
   ⟨28, IG 88 (.load1) [T 87] 85 false, [], false⟩ ::
   ⟨30, IG 90 (.mv) [T 5] 85 false, [], false⟩ ::
   ⟨31, IG 91 (.fieldAddr 1) [T 1] 85 false, [], false⟩ ::
   ⟨32, IG 92 (.load1) [T 91] 85 false, [], false⟩ ::
   ⟨33, IG 93 (.fieldAddr 2) [T 1] 85 false, [], false⟩ ::
   ⟨34, IG 94 (.load1) [T 93] 85 false, [], false⟩ ::
   ⟨37, IG 97 (.mv) [T 5] 85 false, [], false⟩ ::
   ⟨38, IG 98 (.fieldAddr 1) [T 1] 85 false, [], false⟩ ::
   ⟨39, IG 99 (.load1) [T 98] 85 false, [], false⟩ ::
   ⟨40, IG 100 (.fieldAddr 2) [T 1] 85 false, [], false⟩ ::
   ⟨41, IG 101 (.load1) [T 100] 85 false, [], false⟩ ::
   ⟨44, IG 104 (.mv) [T 5] 85 false, [], false⟩ ::
   ⟨48, IG 108 (.mv) [T 5] 85 false, [], false⟩ ::
   ⟨49, IG 109 (.fieldAddr 1) [T 1] 85 false, [], false⟩ ::
   ⟨50, IG 110 (.load1) [T 109] 85 false, [], false⟩ ::
   ⟨29, IG 89 (.callv) [F 82, T 86, T 88] 85 false, [(32, IG 92 (.load1) [T 91] 85 false), (34, IG 94 (.load1) [T 93] 85 false), (39, IG 99 (.load1) [T 98] 85 false), (41, IG 101 (.load1) [T 100] 85 false), (50, IG 110 (.load1) [T 109] 85 false)], false⟩ ::
   ⟨35, IG 95 (.callv) [F 83, T 90, T 92, T 94] 85 false, [(39, IG 99 (.load1) [T 98] 85 false), (41, IG 101 (.load1) [T 100] 85 false), (50, IG 110 (.load1) [T 109] 85 false)], false⟩ ::
   ⟨36, IG 96 (.bin .add) [T 89, T 95] 85 false, [], false⟩ ::
   ⟨42, IG 102 (.callv) [F 87, T 97, T 99, T 101] 85 false, [(50, IG 110 (.load1) [T 109] 85 false)], false⟩ ::
   ⟨43, IG 103 (.bin .add) [T 96, T 102] 85 false, [], false⟩ ::
   ⟨45, IG 105 (.callv) [F 86, T 104] 85 false, [(50, IG 110 (.load1) [T 109] 85 false)], false⟩ ::
   ⟨46, IG 106 (.lens) [T 105] 85 false, [], false⟩ ::
   ⟨47, IG 107 (.bin .add) [T 103, T 106] 85 false, [], false⟩ ::
   ⟨51, IG 111 (.callv) [F 100, T 108, T 110, N (-1)] 85 false, [], false⟩ ::
   ⟨52, IG 112 (.lens) [T 111] 85 false, [], false⟩ ::
   ⟨53, IG 113 (.bin .add) [T 107, T 112] 85 false, [], false⟩ ::
   ⟨54, IG 114 (.bin .neq) [T 113, N 0] 85 false, [], false⟩ ::
   ⟨55, I 115 (.pick) [T 85, .lit (.bool true), T 114], [], false⟩ ::
   [])])
 (.cond (T 115)
 (.seq (.region [I 2 (.mv) [.lit (.bool false)]])
  (.ret))
 (.skip)))))))))
 (.region [I 116 (.bin .add) [T 16, N 1],
   I 16 (.mv) [T 116]])))
def c_law13_AmapNone : AFn := ⟨118, [.tmp 2],
 .seq (.region [I 1 (.box 135 4) [T 0],
   I 2 (.mv) [.lit (.bool false)]])
 (.seq (.region [I 3 (.alloc 156 4 (.vals [(.int .i64 0), (.bool false), .nilsl, (.int .i64 0)])) []])
 (.seq (.seq (.region [I 15 (.build (.agg [.nilptr, .nilptr]) [(0, 1), (1, 1)]) [.lit .nilptr, T 3],
   I 16 (.mv) [N 0]])
 (.block 0 (.loop c_law13_AmapNone_L0)))
 (.seq (.region [I 117 (.callv) [F 84],
   I 2 (.mv) [T 117]])
 (.ret))))⟩
theorem t23 : trFn Try.prog Try.f23 = some c_law13_AmapNone := by kernel_rfl

/-- pantry/swap.New -/
abbrev n_swap_New : Nat := 24
def c_swap_New : AFn := ⟨13, [.tmp 2],
 .seq (.region [I 2 (.mv) [.lit .nilptr]])
 (.seq (.seq (.region [I 3 (.mv) [T 0],
   I 4 (.bin .lss) [T 3, N 0],
   I 5 (.mv) [T 4],
   IG 6 (.mv) [T 0] 5 false,
   IG 7 (.bin .gtr) [T 6, N 256] 5 false,
   I 8 (.pick) [T 5, .lit (.bool true), T 7]])
 (.cond (T 8)
 (.seq (.region [I 2 (.mv) [.lit .nilptr]])
  (.ret))
 (.skip)))
 (.seq (.region [I 9 (.mv) [T 0],
   I 10 (.mkmap) [],
   I 11 (.build (.agg [(.int .i64 0), (.bool false), .nilmap, (.int .i64 0), (.int .i64 0), (.int .i64 0), (.int .i64 0)]) [(0, 1), (1, 1), (2, 1)]) [T 9, .lit (.bool true), T 10],
   I 12 (.box 62 7) [T 11],
   I 2 (.mv) [T 12]])
 (.ret)))⟩
theorem t24 : trFn Try.prog Try.f24 = some c_swap_New := by kernel_rfl

/-- pantry/pantrylaw09.light -/
abbrev n_law09_light : Nat := 25
/-- live: [8, 9, 10] -/
def c_law09_light_L0 : ACode :=
 .seq (.region [I 11 (.bin .lss) [T 10, T 9]])
 (.seq (.cond (T 11)
 (.skip)
 (.exit 0))
 (.seq (.block 1 (.seq (.region [I 12 (.indexs 4) [T 8, T 10],
   I 13 (.loadn 4) [T 12],
   I 4 (.alloc 31 4 (.vals [(.int .i64 0), (.int .i64 0), .nilsl, (.bool false)])) [],
   J (.store 4) [T 4, T 13]])
 (.seq (.region [I 14 (.fieldAddr 2) [T 4],
   I 15 (.load1) [T 14],
   I 16 (.lens) [T 15],
   I 17 (.bin .gtr) [T 16, N 5000]])
 (.cond (T 17)
 (.seq (.region [I 2 (.mv) [.lit (.bool false)]])
  (.ret))
 (.skip)))))
 (.region [I 18 (.bin .add) [T 10, N 1],
   I 10 (.mv) [T 18]])))
def c_law09_light : AFn := ⟨19, [.tmp 2],
 .seq (.region [I 2 (.mv) [.lit (.bool false)]])
 (.seq (.seq (.region [I 5 (.mv) [T 0],
   I 6 (.lens) [T 5],
   I 7 (.bin .gtr) [T 6, N 60]])
 (.cond (T 7)
 (.seq (.region [I 2 (.mv) [.lit (.bool false)]])
  (.ret))
 (.skip)))
 (.seq (.seq (.region [I 8 (.mv) [T 0],
   I 9 (.lens) [T 8],
   I 10 (.mv) [N 0]])
 (.block 0 (.loop c_law09_light_L0)))
 (.seq (.region [I 2 (.mv) [.lit (.bool true)]])
 (.ret))))⟩
theorem t25 : trFn Try.prog Try.f25 = some c_law09_light := by kernel_rfl

/-- pantry/pantrylaw09.lives -/
abbrev n_law09_lives : Nat := 26
def c_law09_lives : AFn := ⟨27, [.tmp 0],
 .seq (.region [I 0 (.mv) [.lit (.bool false)]])
 (.seq (.region [I 2 (.callv) [F 24, N 2],
   I 1 (.mv) [T 2]])
 (.seq (.region (I 3 (.mv) [T 1] ::
   I 4 (.callv) [F 30, T 3, .lit (.bool true), N 2] ::
   I 5 (.bin .eql) [T 4, N 0] ::
   I 6 (.mv) [T 5] ::
   IG 7 (.mv) [T 1] 6 true ::
   IG 8 (.bslice 5 1 1 (.bytes 1 0) [0]) [.lit (.int .u8 1)] 6 true ::
   IG 9 (.callv) [F 27, T 8] 6 true ::
   IG 10 (.callv) [F 28, T 7, N 0, T 9] 6 true ::
   IG 11 (.bin .eql) [T 10, N 0] 6 true ::
   I 12 (.pick) [T 6, T 11, .lit (.bool false)] ::
   I 13 (.mv) [T 12] ::
   IG 14 (.mv) [T 1] 13 true ::
   IG 15 (.bslice 5 1 1 (.bytes 1 0) [0]) [.lit (.int .u8 2)] 13 true ::
   IG 16 (.callv) [F 27, T 15] 13 true ::
   IG 17 (.callv) [F 28, T 14, N 0, T 16] 13 true ::
   IG 18 (.bin .eql) [T 17, N 6] 13 true ::
   I 19 (.pick) [T 13, T 18, .lit (.bool false)] ::
   I 20 (.mv) [T 19] ::
   IG 21 (.mv) [T 1] 20 true ::
   IG 22 (.bslice 5 1 1 (.bytes 1 0) [0]) [.lit (.int .u8 3)] 20 true ::
   IG 23 (.callv) [F 27, T 22] 20 true ::
   IG 24 (.callv) [F 28, T 21, N 1, T 23] 20 true ::
   IG 25 (.bin .eql) [T 24, N 0] 20 true ::
   I 26 (.pick) [T 20, T 25, .lit (.bool false)] ::
   I 0 (.mv) [T 26] ::
   []))
 (.ret)))⟩
theorem t26 : trFn Try.prog Try.f26 = some c_law09_lives := by kernel_rfl

/-- pantry/pantrylaw09.page -/
abbrev n_law09_page : Nat := 27
def c_law09_page : AFn := ⟨9, [.tmp 2],
 .seq (.region [I 2 (.mv) [.lit .nilsl]])
 (.seq (.region [I 4 (.mkslice 5 1 1 (.bytes 1 0)) [N 4096, N 4096],
   I 3 (.mv) [T 4]])
 (.seq (.region [I 5 (.mv) [T 3],
   I 6 (.mv) [T 0],
   I 7 (.copy 1) [T 5, T 6]])
 (.seq (.region [I 8 (.mv) [T 3],
   I 2 (.mv) [T 8]])
 (.ret))))⟩
theorem t27 : trFn Try.prog Try.f27 = some c_law09_page := by kernel_rfl

/-- (*pantry/swap.Device).Write -/
abbrev n_swap_Device_Write : Nat := 28
def c_swap_Device_Write : AFn := ⟨29, [.tmp 6],
 .seq (.region [I 6 (.mv) [N 0]])
 (.seq (.seq (.region [I 8 (.mv) [T 0],
   I 9 (.mv) [T 1],
   I 10 (.mv) [T 2],
   I 11 (.lens) [T 10],
   I 12 (.bin .eql) [T 11, N 4096],
   I 13 (.callv) [F 101, T 8, T 9, T 12],
   I 7 (.mv) [T 13]])
 (.seq (.region [I 14 (.mv) [T 7],
   I 15 (.bin .neq) [T 14, N 0]])
 (.cond (T 15)
 (.seq (.region [I 16 (.mv) [T 7],
    I 6 (.mv) [T 16]])
  (.ret))
 (.skip))))
 (.seq (.seq (.region [I 17 (.mv) [T 0],
   I 18 (.nilCheck) [T 17],
   I 19 (.fieldAddr 3) [T 18],
   I 20 (.callv) [F 102, T 19]])
 (.cond (T 20)
 (.seq (.region [I 6 (.mv) [N 6]])
  (.ret))
 (.skip)))
 (.seq (.draw [[⟨0, I 21 (.mv) [T 0], [], false⟩,
   ⟨1, I 22 (.nilCheck) [T 21], [], false⟩,
   ⟨2, I 23 (.fieldAddr 2) [T 22], [], false⟩,
   ⟨3, I 24 (.load1) [T 23], [], false⟩,
   ⟨4, I 25 (.mv) [T 1], [], false⟩,
   ⟨5, I 26 (.mv) [T 2], [], false⟩,
   ⟨6, I 27 (.sl2arr 4096) [T 26], [], false⟩,
   ⟨7, I 28 (.loadn 4096) [T 27], [], false⟩,
   ⟨8, J (.mapput (.scal .int)) [T 24, T 25, T 28], [], false⟩]])
 (.seq (.region [I 6 (.mv) [N 0]])
 (.ret)))))⟩
theorem t28 : trFn Try.prog Try.f28 = some c_swap_Device_Write := by kernel_rfl

/-- (pantry/pantrylaw09.Act).bytes -/
abbrev n_law09_Act_bytes : Nat := 29
def c_law09_Act_bytes : AFn := ⟨10, [.tmp 2],
 .seq (.region [I 1 (.box 31 4) [T 0],
   I 2 (.mv) [.lit .nilsl]])
 (.seq (.seq (.region [I 3 (.fieldAddr 3) [T 1],
   I 4 (.load1) [T 3]])
 (.cond (T 4)
 (.seq (.region [I 5 (.fieldAddr 2) [T 1],
    I 6 (.load1) [T 5],
    I 2 (.mv) [T 6]])
  (.ret))
 (.skip)))
 (.seq (.region [I 7 (.fieldAddr 2) [T 1],
   I 8 (.load1) [T 7],
   I 9 (.callv) [F 27, T 8],
   I 2 (.mv) [T 9]])
 (.ret)))⟩
theorem t29 : trFn Try.prog Try.f29 = some c_law09_Act_bytes := by kernel_rfl

/-- (*pantry/swap.Device).Plan -/
abbrev n_swap_Device_Plan : Nat := 30
def c_swap_Device_Plan : AFn := ⟨26, [.tmp 6],
 .seq (.region [I 6 (.mv) [N 0]])
 (.seq (.block 0 (.seq (.region [I 13 (.mv) [T 0],
   I 14 (.callv) [F 103, T 13],
   I 15 (.un .not) [T 14],
   I 12 (.mv) [T 15]])
 (.cond (T 12)
 (.seq (.region [I 6 (.mv) [N 1]])
  (.ret))
 (.seq (.region [I 17 (.mv) [T 2],
    I 18 (.bin .lss) [T 17, N 0],
    I 16 (.mv) [T 18]])
  (.cond (T 16)
  (.seq (.region [I 6 (.mv) [N 2]])
   (.ret))
  (.seq (.region [I 20 (.mv) [T 1],
     I 19 (.mv) [T 20]])
   (.cond (T 19)
   (.region [I 21 (.mv) [T 0],
      I 22 (.mv) [T 2],
      I 23 (.nilCheck) [T 21],
      I 24 (.fieldAddr 3) [T 23],
      I 25 (.fieldAddr 1) [T 24],
      J (.store 1) [T 25, T 22]])
   (.region [I 7 (.mv) [T 0],
      I 8 (.mv) [T 2],
      I 9 (.nilCheck) [T 7],
      I 10 (.fieldAddr 5) [T 9],
      I 11 (.fieldAddr 1) [T 10],
      J (.store 1) [T 11, T 8]]))))))))
 (.seq (.region [I 6 (.mv) [N 0]])
 (.ret)))⟩
theorem t30 : trFn Try.prog Try.f30 = some c_swap_Device_Plan := by kernel_rfl

/-- (*pantry/swap.Device).Read -/
abbrev n_swap_Device_Read : Nat := 31
def c_swap_Device_Read : AFn := ⟨25, [.tmp 4, .tmp 5],
 .seq (.region [I 4 (.mv) [.lit .nilsl],
   I 5 (.mv) [N 0]])
 (.seq (.seq (.region [I 8 (.mv) [T 0],
   I 9 (.mv) [T 1],
   I 10 (.callv) [F 101, T 8, T 9, .lit (.bool true)],
   I 6 (.mv) [T 10]])
 (.seq (.region [I 11 (.mv) [T 6],
   I 12 (.bin .neq) [T 11, N 0]])
 (.cond (T 12)
 (.seq (.region [I 13 (.mv) [T 6],
    I 4 (.mv) [.lit .nilsl],
    I 5 (.mv) [T 13]])
  (.ret))
 (.skip))))
 (.seq (.seq (.region [I 14 (.mv) [T 0],
   I 15 (.nilCheck) [T 14],
   I 16 (.fieldAddr 5) [T 15],
   I 17 (.callv) [F 102, T 16]])
 (.cond (T 17)
 (.seq (.region [I 4 (.mv) [.lit .nilsl],
    I 5 (.mv) [N 6]])
  (.ret))
 (.skip)))
 (.seq (.region [I 18 (.mv) [T 0],
   I 19 (.nilCheck) [T 18],
   I 20 (.fieldAddr 2) [T 19],
   I 21 (.load1) [T 20],
   I 22 (.mv) [T 1],
   I 23 (.lookup (.scal .int) (.bytes 4096 0) false) [T 21, T 22],
   I 7 (.alloc 161 4096 (.bytes 4096 0)) [],
   J (.store 4096) [T 7, T 23]])
 (.seq (.region [I 24 (.slicea 4096 1 false false false) [T 7],
   I 4 (.mv) [T 24],
   I 5 (.mv) [N 0]])
 (.ret)))))⟩
theorem t31 : trFn Try.prog Try.f31 = some c_swap_Device_Read := by kernel_rfl

/-- pantry/pantryref01.Bytes -/
abbrev n_ref01_Bytes : Nat := 32
def c_ref01_Bytes : AFn := ⟨10, [.tmp 4],
 .seq (.region [I 4 (.mv) [.lit (.bool false)]])
 (.seq (.region [I 5 (.mv) [T 0],
   I 6 (.tostr) [T 5],
   I 7 (.mv) [T 1],
   I 8 (.tostr) [T 7],
   I 9 (.eqv false (.scal .str)) [T 6, T 8],
   I 4 (.mv) [T 9]])
 (.ret))⟩
theorem t32 : trFn Try.prog Try.f32 = some c_ref01_Bytes := by kernel_rfl

/-- (*pantry/swap.Device).Count -/
abbrev n_swap_Device_Count : Nat := 33
def c_swap_Device_Count : AFn := ⟨17, [.tmp 2, .tmp 3],
 .seq (.region [I 2 (.mv) [N 0],
   I 3 (.mv) [N 0]])
 (.seq (.seq (.region [I 4 (.mv) [T 0],
   I 5 (.callv) [F 103, T 4],
   I 6 (.un .not) [T 5]])
 (.cond (T 6)
 (.seq (.region [I 2 (.mv) [N 0],
    I 3 (.mv) [N 0]])
  (.ret))
 (.skip)))
 (.seq (.draw [[⟨0, I 7 (.mv) [T 0], [], false⟩,
   ⟨1, I 8 (.nilCheck) [T 7], [], false⟩,
   ⟨2, I 9 (.fieldAddr 3) [T 8], [], false⟩,
   ⟨3, I 10 (.fieldAddr 0) [T 9], [], false⟩,
   ⟨4, I 11 (.load1) [T 10], [], false⟩,
   ⟨5, I 12 (.mv) [T 0], [], false⟩,
   ⟨6, I 13 (.nilCheck) [T 12], [], false⟩,
   ⟨7, I 14 (.fieldAddr 5) [T 13], [], false⟩,
   ⟨8, I 15 (.fieldAddr 0) [T 14], [], false⟩,
   ⟨9, I 16 (.load1) [T 15], [], false⟩,
   ⟨10, I 2 (.mv) [T 11], [], false⟩,
   ⟨11, I 3 (.mv) [T 16], [], false⟩]])
 (.ret)))⟩
theorem t33 : trFn Try.prog Try.f33 = some c_swap_Device_Count := by kernel_rfl

/-- (*pantry/swap.Device).Peek -/
abbrev n_swap_Device_Peek : Nat := 34
def c_swap_Device_Peek : AFn := ⟨17, [.tmp 4],
 .seq (.region [I 4 (.mv) [.lit .nilsl]])
 (.seq (.seq (.region [I 6 (.mv) [T 0],
   I 7 (.mv) [T 1],
   I 8 (.callv) [F 101, T 6, T 7, .lit (.bool true)],
   I 9 (.bin .neq) [T 8, N 0]])
 (.cond (T 9)
 (.seq (.region [I 4 (.mv) [.lit .nilsl]])
  (.ret))
 (.skip)))
 (.seq (.region [I 10 (.mv) [T 0],
   I 11 (.nilCheck) [T 10],
   I 12 (.fieldAddr 2) [T 11],
   I 13 (.load1) [T 12],
   I 14 (.mv) [T 1],
   I 15 (.lookup (.scal .int) (.bytes 4096 0) false) [T 13, T 14],
   I 5 (.alloc 161 4096 (.bytes 4096 0)) [],
   J (.store 4096) [T 5, T 15]])
 (.seq (.region [I 16 (.slicea 4096 1 false false false) [T 5],
   I 4 (.mv) [T 16]])
 (.ret))))⟩
theorem t34 : trFn Try.prog Try.f34 = some c_swap_Device_Peek := by kernel_rfl

/-- pantry/pantryref09.New -/
abbrev n_ref09_New : Nat := 35
/-- live: [0, 3, 4] -/
def c_ref09_New_L0 : ACode :=
 .seq (.seq (.region [I 13 (.mv) [T 4],
   I 14 (.mv) [T 0],
   I 15 (.bin .lss) [T 13, T 14]])
 (.cond (T 15)
 (.skip)
 (.exit 0)))
 (.seq (.block 1 (.draw [[⟨0, I 18 (.mv) [T 3], [], false⟩,
   ⟨1, I 19 (.mv) [T 3], [], false⟩,
   ⟨2, I 20 (.nilCheck) [T 19], [], false⟩,
   ⟨3, I 21 (.fieldAddr 0) [T 20], [], false⟩,
   ⟨4, I 22 (.load1) [T 21], [], false⟩,
   ⟨5, I 23 (.mkslice 5 1 1 (.bytes 1 0)) [N 4096, N 4096], [(4, I 22 (.load1) [T 21])], false⟩,
   ⟨6, I 24 (.bslice 27 1 1 (.vals [.nilsl]) [0]) [T 23], [(4, I 22 (.load1) [T 21])], false⟩,
   ⟨7, I 25 (.append 27 1 24 (.vals [.nilsl])) [T 22, T 24], [], false⟩,
   ⟨8, I 26 (.nilCheck) [T 18], [], false⟩,
   ⟨9, I 27 (.fieldAddr 0) [T 26], [], false⟩,
   ⟨10, J (.store 1) [T 27, T 25], [], false⟩]]))
 (.region [I 16 (.mv) [T 4],
   I 17 (.bin .add) [T 16, N 1],
   I 4 (.mv) [T 17]]))
def c_ref09_New : AFn := ⟨29, [.tmp 2],
 .seq (.region [I 2 (.mv) [.lit .nilptr]])
 (.seq (.seq (.region [I 5 (.mv) [T 0],
   I 6 (.bin .lss) [T 5, N 0],
   I 7 (.mv) [T 6],
   IG 8 (.mv) [T 0] 7 false,
   IG 9 (.bin .gtr) [T 8, N 256] 7 false,
   I 10 (.pick) [T 7, .lit (.bool true), T 9]])
 (.cond (T 10)
 (.seq (.region [I 2 (.mv) [.lit .nilptr]])
  (.ret))
 (.skip)))
 (.seq (.region [I 11 (.build (.agg [.nilsl, (.int .i64 0), (.int .i64 0), (.int .i64 0), (.int .i64 0)]) []) [],
   I 12 (.box 55 5) [T 11],
   I 3 (.mv) [T 12]])
 (.seq (.seq (.region [I 4 (.mv) [N 0]])
 (.block 0 (.loop c_ref09_New_L0)))
 (.seq (.region [I 28 (.mv) [T 3],
   I 2 (.mv) [T 28]])
 (.ret)))))⟩
theorem t35 : trFn Try.prog Try.f35 = some c_ref09_New := by kernel_rfl

/-- (*pantry/pantryref09.Device).Write -/
abbrev n_ref09_Device_Write : Nat := 36
def c_ref09_Device_Write : AFn := ⟨43, [.tmp 6],
 .seq (.region [I 6 (.mv) [N 0]])
 (.seq (.seq (.region [I 7 (.mv) [T 1],
   I 8 (.bin .lss) [T 7, N 0],
   I 9 (.mv) [T 8],
   IG 10 (.mv) [T 1] 9 false,
   IG 11 (.mv) [T 0] 9 false,
   IG 12 (.nilCheck) [T 11] 9 false,
   IG 13 (.fieldAddr 0) [T 12] 9 false,
   IG 14 (.load1) [T 13] 9 false,
   IG 15 (.lens) [T 14] 9 false,
   IG 16 (.bin .geq) [T 10, T 15] 9 false,
   I 17 (.pick) [T 9, .lit (.bool true), T 16],
   I 18 (.mv) [T 17],
   IG 19 (.mv) [T 2] 18 false,
   IG 20 (.lens) [T 19] 18 false,
   IG 21 (.bin .neq) [T 20, N 4096] 18 false,
   I 22 (.pick) [T 18, .lit (.bool true), T 21]])
 (.cond (T 22)
 (.seq (.region [I 6 (.mv) [N 2]])
  (.ret))
 (.skip)))
 (.seq (.seq (.region [I 23 (.mv) [T 0],
   I 24 (.callv) [F 104, T 23, N 1]])
 (.cond (T 24)
 (.seq (.region [I 6 (.mv) [N 6]])
  (.ret))
 (.skip)))
 (.seq (.region [I 25 (.mv) [T 0],
   I 26 (.bslice 27 1 0 (.vals [.nilsl]) []) [],
   I 27 (.mv) [T 0],
   I 28 (.nilCheck) [T 27],
   I 29 (.fieldAddr 0) [T 28],
   I 30 (.load1) [T 29],
   I 31 (.append 27 1 24 (.vals [.nilsl])) [T 26, T 30],
   I 32 (.nilCheck) [T 25],
   I 33 (.fieldAddr 0) [T 32],
   J (.store 1) [T 33, T 31]])
 (.seq (.draw [[⟨0, I 34 (.mv) [T 0], [], false⟩,
   ⟨1, I 35 (.nilCheck) [T 34], [], false⟩,
   ⟨2, I 36 (.fieldAddr 0) [T 35], [], false⟩,
   ⟨3, I 37 (.load1) [T 36], [], false⟩,
   ⟨4, I 38 (.mv) [T 1], [], false⟩,
   ⟨6, I 40 (.mv) [T 2], [], false⟩,
   ⟨5, I 39 (.bslice 5 1 0 (.bytes 1 0) []) [], [(3, I 37 (.load1) [T 36])], false⟩,
   ⟨7, I 41 (.append 5 1 1 (.bytes 1 0)) [T 39, T 40], [(3, I 37 (.load1) [T 36])], false⟩,
   ⟨8, I 42 (.indexs 1) [T 37, T 38], [], false⟩,
   ⟨9, J (.store 1) [T 42, T 41], [], false⟩]])
 (.seq (.region [I 6 (.mv) [N 0]])
 (.ret))))))⟩
theorem t36 : trFn Try.prog Try.f36 = some c_ref09_Device_Write := by kernel_rfl

/-- (*pantry/pantryref09.Device).Read -/
abbrev n_ref09_Device_Read : Nat := 37
def c_ref09_Device_Read : AFn := ⟨28, [.tmp 4, .tmp 5],
 .seq (.region [I 4 (.mv) [.lit .nilsl],
   I 5 (.mv) [N 0]])
 (.seq (.seq (.region [I 6 (.mv) [T 1],
   I 7 (.bin .lss) [T 6, N 0],
   I 8 (.mv) [T 7],
   IG 9 (.mv) [T 1] 8 false,
   IG 10 (.mv) [T 0] 8 false,
   IG 11 (.nilCheck) [T 10] 8 false,
   IG 12 (.fieldAddr 0) [T 11] 8 false,
   IG 13 (.load1) [T 12] 8 false,
   IG 14 (.lens) [T 13] 8 false,
   IG 15 (.bin .geq) [T 9, T 14] 8 false,
   I 16 (.pick) [T 8, .lit (.bool true), T 15]])
 (.cond (T 16)
 (.seq (.region [I 4 (.mv) [.lit .nilsl],
    I 5 (.mv) [N 2]])
  (.ret))
 (.skip)))
 (.seq (.seq (.region [I 17 (.mv) [T 0],
   I 18 (.callv) [F 104, T 17, N 0]])
 (.cond (T 18)
 (.seq (.region [I 4 (.mv) [.lit .nilsl],
    I 5 (.mv) [N 6]])
  (.ret))
 (.skip)))
 (.seq (.region [I 19 (.bslice 5 1 0 (.bytes 1 0) []) [],
   I 20 (.mv) [T 0],
   I 21 (.nilCheck) [T 20],
   I 22 (.fieldAddr 0) [T 21],
   I 23 (.load1) [T 22],
   I 24 (.mv) [T 1],
   I 25 (.indexs 1) [T 23, T 24],
   I 26 (.load1) [T 25],
   I 27 (.append 5 1 1 (.bytes 1 0)) [T 19, T 26],
   I 4 (.mv) [T 27],
   I 5 (.mv) [N 0]])
 (.ret))))⟩
theorem t37 : trFn Try.prog Try.f37 = some c_ref09_Device_Read := by kernel_rfl

/-- (*pantry/pantryref09.Device).Plan -/
abbrev n_ref09_Device_Plan : Nat := 38
def c_ref09_Device_Plan : AFn := ⟨20, [.tmp 6],
 .seq (.region [I 6 (.mv) [N 0]])
 (.seq (.seq (.region [I 7 (.mv) [T 2],
   I 8 (.bin .lss) [T 7, N 0]])
 (.cond (T 8)
 (.seq (.region [I 6 (.mv) [N 2]])
  (.ret))
 (.skip)))
 (.seq (.seq (.region [I 9 (.mv) [T 1]])
 (.cond (T 9)
 (.region [I 10 (.mv) [T 0],
    I 11 (.mv) [T 2],
    I 12 (.nilCheck) [T 10],
    I 13 (.fieldAddr 1) [T 12],
    I 14 (.indexa 2 1) [T 13, N 1],
    J (.store 1) [T 14, T 11]])
 (.region [I 15 (.mv) [T 0],
    I 16 (.mv) [T 2],
    I 17 (.nilCheck) [T 15],
    I 18 (.fieldAddr 1) [T 17],
    I 19 (.indexa 2 1) [T 18, N 0],
    J (.store 1) [T 19, T 16]])))
 (.seq (.region [I 6 (.mv) [N 0]])
 (.ret))))⟩
theorem t38 : trFn Try.prog Try.f38 = some c_ref09_Device_Plan := by kernel_rfl

/-- (*pantry/pantryref09.Device).Peek -/
abbrev n_ref09_Device_Peek : Nat := 39
def c_ref09_Device_Peek : AFn := ⟨25, [.tmp 4],
 .seq (.region [I 4 (.mv) [.lit .nilsl]])
 (.seq (.seq (.region [I 5 (.mv) [T 1],
   I 6 (.bin .lss) [T 5, N 0],
   I 7 (.mv) [T 6],
   IG 8 (.mv) [T 1] 7 false,
   IG 9 (.mv) [T 0] 7 false,
   IG 10 (.nilCheck) [T 9] 7 false,
   IG 11 (.fieldAddr 0) [T 10] 7 false,
   IG 12 (.load1) [T 11] 7 false,
   IG 13 (.lens) [T 12] 7 false,
   IG 14 (.bin .geq) [T 8, T 13] 7 false,
   I 15 (.pick) [T 7, .lit (.bool true), T 14]])
 (.cond (T 15)
 (.seq (.region [I 4 (.mv) [.lit .nilsl]])
  (.ret))
 (.skip)))
 (.seq (.region [I 16 (.bslice 5 1 0 (.bytes 1 0) []) [],
   I 17 (.mv) [T 0],
   I 18 (.nilCheck) [T 17],
   I 19 (.fieldAddr 0) [T 18],
   I 20 (.load1) [T 19],
   I 21 (.mv) [T 1],
   I 22 (.indexs 1) [T 20, T 21],
   I 23 (.load1) [T 22],
   I 24 (.append 5 1 1 (.bytes 1 0)) [T 16, T 23],
   I 4 (.mv) [T 24]])
 (.ret)))⟩
theorem t39 : trFn Try.prog Try.f39 = some c_ref09_Device_Peek := by kernel_rfl

/-- (*pantry/swap.Device).Places -/
abbrev n_swap_Device_Places : Nat := 40
def c_swap_Device_Places : AFn := ⟨10, [.tmp 2],
 .seq (.region [I 2 (.mv) [N 0]])
 (.seq (.seq (.region [I 3 (.mv) [T 0],
   I 4 (.callv) [F 103, T 3],
   I 5 (.un .not) [T 4]])
 (.cond (T 5)
 (.seq (.region [I 2 (.mv) [N 0]])
  (.ret))
 (.skip)))
 (.seq (.region [I 6 (.mv) [T 0],
   I 7 (.nilCheck) [T 6],
   I 8 (.fieldAddr 0) [T 7],
   I 9 (.load1) [T 8],
   I 2 (.mv) [T 9]])
 (.ret)))⟩
theorem t40 : trFn Try.prog Try.f40 = some c_swap_Device_Places := by kernel_rfl

/-- pantry/pantrylaw10.lives -/
abbrev n_law10_lives : Nat := 41
def c_law10_lives : AFn := ⟨47, [.tmp 0],
 .seq (.region [I 0 (.mv) [.lit (.bool false)]])
 (.seq (.region [I 6 (.callv) [F 42],
   I 1 (.mv) [T 6]])
 (.seq (.region [I 8 (.mv) [T 1],
   I 9 (.callv) [F 43, T 8, N 2],
   I 7 (.mv) [T 9],
   I 10 (.extract 0) [T 7],
   I 11 (.extract 1) [T 7],
   I 2 (.mv) [T 10],
   I 3 (.mv) [T 11]])
 (.seq (.seq (.region [I 12 (.mv) [T 2],
   I 13 (.bin .neq) [T 12, N 1],
   I 14 (.mv) [T 13],
   IG 15 (.mv) [T 3] 14 false,
   IG 16 (.bin .neq) [T 15, N 0] 14 false,
   I 17 (.pick) [T 14, .lit (.bool true), T 16],
   I 18 (.mv) [T 17],
   IG 19 (.mv) [T 1] 18 false,
   IG 20 (.bslice 5 1 1 (.bytes 1 0) [0]) [.lit (.int .u8 7)] 18 false,
   IG 21 (.callv) [F 45, T 20] 18 false,
   IG 22 (.callv) [F 44, T 19, N 1, N 1, T 21] 18 false,
   IG 23 (.bin .neq) [T 22, N 0] 18 false,
   I 24 (.pick) [T 18, .lit (.bool true), T 23],
   I 25 (.mv) [T 24],
   IG 26 (.mv) [T 1] 25 false,
   IG 27 (.callv) [F 46, T 26, N 1, N 1] 25 false,
   IG 28 (.bin .neq) [T 27, N 0] 25 false,
   I 29 (.pick) [T 25, .lit (.bool true), T 28],
   I 30 (.mv) [T 29],
   IG 31 (.mv) [T 1] 30 false,
   IG 32 (.callv) [F 46, T 31, N 1, N 2] 30 false,
   IG 33 (.bin .neq) [T 32, N 0] 30 false,
   I 34 (.pick) [T 30, .lit (.bool true), T 33]])
 (.cond (T 34)
 (.seq (.region [I 0 (.mv) [.lit (.bool false)]])
  (.ret))
 (.skip)))
 (.seq (.region [I 36 (.mv) [T 1],
   I 37 (.callv) [F 47, T 36, N 1, N 1],
   I 35 (.mv) [T 37],
   I 38 (.extract 0) [T 35],
   I 39 (.extract 1) [T 35],
   I 4 (.mv) [T 38],
   I 5 (.mv) [T 39]])
 (.seq (.region [I 40 (.mv) [T 5],
   I 41 (.bin .eql) [T 40, N 0],
   I 42 (.mv) [T 41],
   IG 43 (.mv) [T 4] 42 true,
   IG 44 (.callv) [F 45, .lit .nilsl] 42 true,
   IG 45 (.callv) [F 32, T 43, T 44] 42 true,
   I 46 (.pick) [T 42, T 45, .lit (.bool false)],
   I 0 (.mv) [T 46]])
 (.ret))))))⟩
theorem t41 : trFn Try.prog Try.f41 = some c_law10_lives := by kernel_rfl

/-- pantry/file.New -/
abbrev n_file_New : Nat := 42
def c_file_New : AFn := ⟨4, [.tmp 0],
 .seq (.region [I 0 (.mv) [.lit .nilptr]])
 (.seq (.region [I 1 (.mkmap) [],
   I 2 (.build (.agg [(.bool false), .nilsl, .nilmap, (.int .i64 0)]) [(0, 1), (2, 1)]) [.lit (.bool true), T 1],
   I 3 (.box 99 4) [T 2],
   I 0 (.mv) [T 3]])
 (.ret))⟩
theorem t42 : trFn Try.prog Try.f42 = some c_file_New := by kernel_rfl

/-- (*pantry/file.Store).Make -/
abbrev n_file_Store_Make : Nat := 43
def c_file_Store_Make : AFn := ⟨39, [.tmp 4, .tmp 5],
 .seq (.region [I 4 (.mv) [N 0],
   I 5 (.mv) [N 0]])
 (.seq (.block 0 (.seq (.region [I 7 (.mv) [T 0],
   I 8 (.callv) [F 105, T 7],
   I 9 (.un .not) [T 8],
   I 6 (.mv) [T 9]])
 (.cond (T 6)
 (.seq (.region [I 4 (.mv) [N 0],
    I 5 (.mv) [N 1]])
  (.ret))
 (.seq (.region [I 11 (.mv) [T 1],
    I 12 (.bin .lss) [T 11, N 0],
    I 13 (.mv) [T 12],
    IG 14 (.mv) [T 1] 13 false,
    IG 15 (.bin .gtr) [T 14, N 4096] 13 false,
    I 16 (.pick) [T 13, .lit (.bool true), T 15],
    I 10 (.mv) [T 16]])
  (.cond (T 10)
  (.seq (.region [I 4 (.mv) [N 0],
     I 5 (.mv) [N 2]])
   (.ret))
  (.seq (.region [I 18 (.mv) [T 0],
     I 19 (.nilCheck) [T 18],
     I 20 (.fieldAddr 1) [T 19],
     I 21 (.load1) [T 20],
     I 22 (.lens) [T 21],
     I 23 (.bin .geq) [T 22, N 16],
     I 17 (.mv) [T 23]])
   (.cond (T 17)
   (.seq (.region [I 4 (.mv) [N 0],
      I 5 (.mv) [N 5]])
    (.ret))
   (.skip))))))))
 (.seq (.region [I 24 (.mv) [T 0],
   I 25 (.mv) [T 0],
   I 26 (.nilCheck) [T 25],
   I 27 (.fieldAddr 1) [T 26],
   I 28 (.load1) [T 27],
   I 29 (.mv) [T 1],
   I 30 (.bslice 3 1 1 (.vals [(.int .i64 0)]) [0]) [T 29],
   I 31 (.append 3 1 8 (.vals [(.int .i64 0)])) [T 28, T 30],
   I 32 (.nilCheck) [T 24],
   I 33 (.fieldAddr 1) [T 32],
   J (.store 1) [T 33, T 31]])
 (.seq (.region [I 34 (.mv) [T 0],
   I 35 (.nilCheck) [T 34],
   I 36 (.fieldAddr 1) [T 35],
   I 37 (.load1) [T 36],
   I 38 (.lens) [T 37],
   I 4 (.mv) [T 38],
   I 5 (.mv) [N 0]])
 (.ret))))⟩
theorem t43 : trFn Try.prog Try.f43 = some c_file_Store_Make := by kernel_rfl

/-- (*pantry/file.Store).Write -/
abbrev n_file_Store_Write : Nat := 44
def c_file_Store_Write : AFn := ⟨42, [.tmp 8],
 .seq (.region [I 8 (.mv) [N 0]])
 (.seq (.region [I 13 (.mv) [T 0],
   I 14 (.mv) [T 1],
   I 15 (.mv) [T 2],
   I 16 (.mv) [T 3],
   I 17 (.lens) [T 16],
   I 18 (.bin .eql) [T 17, N 4096],
   I 19 (.callv) [F 106, T 13, T 14, T 15, T 18],
   I 12 (.mv) [T 19],
   I 20 (.extract 0) [T 12],
   I 21 (.extract 1) [T 12],
   I 9 (.alloc 164 2 (.vals [(.int .i64 0), (.int .i64 0)])) [],
   J (.store 2) [T 9, T 20],
   I 10 (.mv) [T 21]])
 (.seq (.seq (.region [I 22 (.mv) [T 10],
   I 23 (.bin .neq) [T 22, N 0]])
 (.cond (T 23)
 (.seq (.region [I 24 (.mv) [T 10],
    I 8 (.mv) [T 24]])
  (.ret))
 (.skip)))
 (.seq (.region [I 25 (.mv) [T 3],
   I 26 (.sl2arr 4096) [T 25],
   I 27 (.loadn 4096) [T 26],
   I 11 (.alloc 160 4096 (.bytes 4096 0)) [],
   J (.store 4096) [T 11, T 27]])
 (.seq (.seq (.region [I 28 (.loadn 4096) [T 11],
   I 29 (.build (.bytes 4096 0) []) [],
   I 30 (.eqv false (.bytes 4096)) [T 28, T 29]])
 (.cond (T 30)
 (.draw [[⟨0, I 31 (.mv) [T 0], [], false⟩,
    ⟨1, I 32 (.nilCheck) [T 31], [], false⟩,
    ⟨2, I 33 (.fieldAddr 2) [T 32], [], false⟩,
    ⟨3, I 34 (.load1) [T 33], [], false⟩,
    ⟨4, I 35 (.loadn 2) [T 9], [], false⟩,
    ⟨5, J (.delete (.flat [.int, .int])) [T 34, T 35], [], false⟩]])
 (.draw [[⟨0, I 36 (.mv) [T 0], [], false⟩,
    ⟨1, I 37 (.nilCheck) [T 36], [], false⟩,
    ⟨2, I 38 (.fieldAddr 2) [T 37], [], false⟩,
    ⟨3, I 39 (.load1) [T 38], [], false⟩,
    ⟨4, I 40 (.loadn 2) [T 9], [], false⟩,
    ⟨5, I 41 (.loadn 4096) [T 11], [], false⟩,
    ⟨6, J (.mapput (.flat [.int, .int])) [T 39, T 40, T 41], [], false⟩]])))
 (.seq (.region [I 8 (.mv) [N 0]])
 (.ret))))))⟩
theorem t44 : trFn Try.prog Try.f44 = some c_file_Store_Write := by kernel_rfl

/-- pantry/pantrylaw10.page -/
abbrev n_law10_page : Nat := 45
def c_law10_page : AFn := ⟨9, [.tmp 2],
 .seq (.region [I 2 (.mv) [.lit .nilsl]])
 (.seq (.region [I 4 (.mkslice 5 1 1 (.bytes 1 0)) [N 4096, N 4096],
   I 3 (.mv) [T 4]])
 (.seq (.region [I 5 (.mv) [T 3],
   I 6 (.mv) [T 0],
   I 7 (.copy 1) [T 5, T 6]])
 (.seq (.region [I 8 (.mv) [T 3],
   I 2 (.mv) [T 8]])
 (.ret))))⟩
theorem t45 : trFn Try.prog Try.f45 = some c_law10_page := by kernel_rfl

/-- (*pantry/file.Store).Resize -/
abbrev n_file_Store_Resize : Nat := 46
def c_file_Store_Resize : AFn := ⟨38, [.tmp 6],
 .seq (.region [I 4 (.box 3 1) [T 1],
   I 5 (.box 3 1) [T 2],
   I 6 (.mv) [N 0]])
 (.seq (.seq (.region [I 10 (.mv) [T 0],
   I 11 (.load1) [T 4],
   I 12 (.callv) [F 107, T 10, T 11],
   I 9 (.mv) [T 12],
   I 13 (.extract 0) [T 9],
   I 14 (.extract 1) [T 9],
   I 7 (.mv) [T 13],
   I 8 (.mv) [T 14]])
 (.seq (.region [I 15 (.mv) [T 8],
   I 16 (.bin .neq) [T 15, N 0]])
 (.cond (T 16)
 (.seq (.region [I 17 (.mv) [T 8],
    I 6 (.mv) [T 17]])
  (.ret))
 (.skip))))
 (.seq (.seq (.region [I 18 (.load1) [T 5],
   I 19 (.bin .lss) [T 18, N 0],
   I 20 (.mv) [T 19],
   IG 21 (.load1) [T 5] 20 false,
   IG 22 (.bin .gtr) [T 21, N 4096] 20 false,
   I 23 (.pick) [T 20, .lit (.bool true), T 22]])
 (.cond (T 23)
 (.seq (.region [I 6 (.mv) [N 2]])
  (.ret))
 (.skip)))
 (.seq (.draw [[⟨0, I 24 (.mv) [T 0], [], false⟩,
   ⟨1, I 25 (.nilCheck) [T 24], [], false⟩,
   ⟨2, I 26 (.fieldAddr 1) [T 25], [], false⟩,
   ⟨3, I 27 (.load1) [T 26], [], false⟩,
   ⟨4, I 28 (.load1) [T 4], [], false⟩,
   ⟨5, I 29 (.bin .sub) [T 28, N 1], [], false⟩,
   ⟨6, I 30 (.load1) [T 5], [], false⟩,
   ⟨7, I 31 (.indexs 1) [T 27, T 29], [], false⟩,
   ⟨8, J (.store 1) [T 31, T 30], [], false⟩]])
 (.seq (.region [I 32 (.mv) [T 0],
   I 33 (.nilCheck) [T 32],
   I 34 (.fieldAddr 2) [T 33],
   I 35 (.load1) [T 34],
   I 36 (.mkfunc 109 0) [T 4, T 5],
   I 37 (.callv) [F 108, T 35, T 36]])
 (.seq (.region [I 6 (.mv) [N 0]])
 (.ret))))))⟩
theorem t46 : trFn Try.prog Try.f46 = some c_file_Store_Resize := by kernel_rfl

/-- (*pantry/file.Store).Read -/
abbrev n_file_Store_Read : Nat := 47
def c_file_Store_Read : AFn := ⟨28, [.tmp 6, .tmp 7],
 .seq (.region [I 6 (.mv) [.lit .nilsl],
   I 7 (.mv) [N 0]])
 (.seq (.region [I 12 (.mv) [T 0],
   I 13 (.mv) [T 1],
   I 14 (.mv) [T 2],
   I 15 (.callv) [F 106, T 12, T 13, T 14, .lit (.bool true)],
   I 11 (.mv) [T 15],
   I 16 (.extract 0) [T 11],
   I 17 (.extract 1) [T 11],
   I 8 (.alloc 164 2 (.vals [(.int .i64 0), (.int .i64 0)])) [],
   J (.store 2) [T 8, T 16],
   I 9 (.mv) [T 17]])
 (.seq (.seq (.region [I 18 (.mv) [T 9],
   I 19 (.bin .neq) [T 18, N 0]])
 (.cond (T 19)
 (.seq (.region [I 20 (.mv) [T 9],
    I 6 (.mv) [.lit .nilsl],
    I 7 (.mv) [T 20]])
  (.ret))
 (.skip)))
 (.seq (.draw [[⟨0, I 21 (.mv) [T 0], [], false⟩,
   ⟨1, I 22 (.nilCheck) [T 21], [], false⟩,
   ⟨2, I 23 (.fieldAddr 2) [T 22], [], false⟩,
   ⟨3, I 24 (.load1) [T 23], [], false⟩,
   ⟨4, I 25 (.loadn 2) [T 8], [], false⟩,
   ⟨5, I 26 (.lookup (.flat [.int, .int]) (.bytes 4096 0) false) [T 24, T 25], [], false⟩,
   ⟨6, I 10 (.alloc 160 4096 (.bytes 4096 0)) [], [(3, I 24 (.load1) [T 23]), (4, I 25 (.loadn 2) [T 8]), (5, I 26 (.lookup (.flat [.int, .int]) (.bytes 4096 0) false) [T 24, T 25])], false⟩,
   ⟨7, J (.store 4096) [T 10, T 26], [], false⟩]])
 (.seq (.region [I 27 (.slicea 4096 1 false false false) [T 10],
   I 6 (.mv) [T 27],
   I 7 (.mv) [N 0]])
 (.ret)))))⟩
theorem t47 : trFn Try.prog Try.f47 = some c_file_Store_Read := by kernel_rfl

/-- (*pantry/file.Store).Plan -/
abbrev n_file_Store_Plan : Nat := 48
def c_file_Store_Plan : AFn := ⟨16, [.tmp 4],
 .seq (.region [I 4 (.mv) [N 0]])
 (.seq (.block 0 (.seq (.region [I 6 (.mv) [T 0],
   I 7 (.callv) [F 105, T 6],
   I 8 (.un .not) [T 7],
   I 5 (.mv) [T 8]])
 (.cond (T 5)
 (.seq (.region [I 4 (.mv) [N 1]])
  (.ret))
 (.seq (.region [I 10 (.mv) [T 1],
    I 11 (.bin .lss) [T 10, N 0],
    I 9 (.mv) [T 11]])
  (.cond (T 9)
  (.seq (.region [I 4 (.mv) [N 2]])
   (.ret))
  (.skip))))))
 (.seq (.region [I 12 (.mv) [T 0],
   I 13 (.mv) [T 1],
   I 14 (.nilCheck) [T 12],
   I 15 (.fieldAddr 3) [T 14],
   J (.store 1) [T 15, T 13]])
 (.seq (.region [I 4 (.mv) [N 0]])
 (.ret))))⟩
theorem t48 : trFn Try.prog Try.f48 = some c_file_Store_Plan := by kernel_rfl

/-- (*pantry/file.Store).Size -/
abbrev n_file_Store_Size : Nat := 49
def c_file_Store_Size : AFn := ⟨30, [.tmp 4, .tmp 5],
 .seq (.region [I 4 (.mv) [N 0],
   I 5 (.mv) [.lit (.bool false)]])
 (.seq (.seq (.region [I 6 (.mv) [T 0],
   I 7 (.callv) [F 105, T 6],
   I 8 (.un .not) [T 7],
   I 9 (.mv) [T 8],
   IG 10 (.mv) [T 1] 9 false,
   IG 11 (.bin .lss) [T 10, N 1] 9 false,
   I 12 (.pick) [T 9, .lit (.bool true), T 11],
   I 13 (.mv) [T 12],
   IG 14 (.mv) [T 1] 13 false,
   IG 15 (.mv) [T 0] 13 false,
   IG 16 (.nilCheck) [T 15] 13 false,
   IG 17 (.fieldAddr 1) [T 16] 13 false,
   IG 18 (.load1) [T 17] 13 false,
   IG 19 (.lens) [T 18] 13 false,
   IG 20 (.bin .gtr) [T 14, T 19] 13 false,
   I 21 (.pick) [T 13, .lit (.bool true), T 20]])
 (.cond (T 21)
 (.seq (.region [I 4 (.mv) [N 0],
    I 5 (.mv) [.lit (.bool false)]])
  (.ret))
 (.skip)))
 (.seq (.region [I 22 (.mv) [T 0],
   I 23 (.nilCheck) [T 22],
   I 24 (.fieldAddr 1) [T 23],
   I 25 (.load1) [T 24],
   I 26 (.mv) [T 1],
   I 27 (.bin .sub) [T 26, N 1],
   I 28 (.indexs 1) [T 25, T 27],
   I 29 (.load1) [T 28],
   I 4 (.mv) [T 29],
   I 5 (.mv) [.lit (.bool true)]])
 (.ret)))⟩
theorem t49 : trFn Try.prog Try.f49 = some c_file_Store_Size := by kernel_rfl

/-- (*pantry/file.Store).Ids -/
abbrev n_file_Store_Ids : Nat := 50
/-- live: [3, 12, 13] -/
def c_file_Store_Ids_L0 : ACode :=
 .seq (.region [I 14 (.bin .lss) [T 13, T 12]])
 (.seq (.cond (T 14)
 (.skip)
 (.exit 0))
 (.seq (.block 1 (.seq (.region [I 15 (.mv) [T 13],
   I 4 (.mv) [T 15]])
 (.region [I 16 (.mv) [T 3],
   I 17 (.mv) [T 4],
   I 18 (.bin .add) [T 17, N 1],
   I 19 (.bslice 3 1 1 (.vals [(.int .i64 0)]) [0]) [T 18],
   I 20 (.append 3 1 8 (.vals [(.int .i64 0)])) [T 16, T 19],
   I 3 (.mv) [T 20]])))
 (.region [I 21 (.bin .add) [T 13, N 1],
   I 13 (.mv) [T 21]])))
def c_file_Store_Ids : AFn := ⟨23, [.tmp 2],
 .seq (.region [I 2 (.mv) [.lit .nilsl]])
 (.seq (.seq (.region [I 5 (.mv) [T 0],
   I 6 (.callv) [F 105, T 5],
   I 7 (.un .not) [T 6]])
 (.cond (T 7)
 (.seq (.region [I 2 (.mv) [.lit .nilsl]])
  (.ret))
 (.skip)))
 (.seq (.region [I 3 (.mv) [.lit .nilsl]])
 (.seq (.seq (.region [I 8 (.mv) [T 0],
   I 9 (.nilCheck) [T 8],
   I 10 (.fieldAddr 1) [T 9],
   I 11 (.load1) [T 10],
   I 12 (.lens) [T 11],
   I 13 (.mv) [N 0]])
 (.block 0 (.loop c_file_Store_Ids_L0)))
 (.seq (.region [I 22 (.mv) [T 3],
   I 2 (.mv) [T 22]])
 (.ret)))))⟩
theorem t50 : trFn Try.prog Try.f50 = some c_file_Store_Ids := by kernel_rfl

/-- (*pantry/file.Store).Peek -/
abbrev n_file_Store_Peek : Nat := 51
def c_file_Store_Peek : AFn := ⟨36, [.tmp 6],
 .seq (.region [I 6 (.mv) [.lit .nilsl]])
 (.seq (.region [I 11 (.mv) [T 0],
   I 12 (.mv) [T 1],
   I 13 (.callv) [F 49, T 11, T 12],
   I 10 (.mv) [T 13],
   I 14 (.extract 0) [T 10],
   I 15 (.extract 1) [T 10],
   I 7 (.mv) [T 14],
   I 8 (.mv) [T 15]])
 (.seq (.seq (.region [I 16 (.mv) [T 8],
   I 17 (.un .not) [T 16],
   I 18 (.mv) [T 17],
   IG 19 (.mv) [T 2] 18 false,
   IG 20 (.bin .lss) [T 19, N 0] 18 false,
   I 21 (.pick) [T 18, .lit (.bool true), T 20],
   I 22 (.mv) [T 21],
   IG 23 (.mv) [T 2] 22 false,
   IG 24 (.mv) [T 7] 22 false,
   IG 25 (.bin .geq) [T 23, T 24] 22 false,
   I 26 (.pick) [T 22, .lit (.bool true), T 25]])
 (.cond (T 26)
 (.seq (.region [I 6 (.mv) [.lit .nilsl]])
  (.ret))
 (.skip)))
 (.seq (.region [I 27 (.mv) [T 0],
   I 28 (.nilCheck) [T 27],
   I 29 (.fieldAddr 2) [T 28],
   I 30 (.load1) [T 29],
   I 31 (.mv) [T 1],
   I 32 (.mv) [T 2],
   I 33 (.build (.agg [(.int .i64 0), (.int .i64 0)]) [(0, 1), (1, 1)]) [T 31, T 32],
   I 34 (.lookup (.flat [.int, .int]) (.bytes 4096 0) false) [T 30, T 33],
   I 9 (.alloc 160 4096 (.bytes 4096 0)) [],
   J (.store 4096) [T 9, T 34]])
 (.seq (.region [I 35 (.slicea 4096 1 false false false) [T 9],
   I 6 (.mv) [T 35]])
 (.ret)))))⟩
theorem t51 : trFn Try.prog Try.f51 = some c_file_Store_Peek := by kernel_rfl

/-- pantry/pantrylaw10.light -/
abbrev n_law10_light : Nat := 52
/-- live: [8, 9, 10] -/
def c_law10_light_L0 : ACode :=
 .seq (.region [I 11 (.bin .lss) [T 10, T 9]])
 (.seq (.cond (T 11)
 (.skip)
 (.exit 0))
 (.seq (.block 1 (.seq (.region [I 12 (.indexs 5) [T 8, T 10],
   I 13 (.loadn 5) [T 12],
   I 4 (.alloc 91 5 (.vals [(.int .i64 0), (.int .i64 0), (.int .i64 0), .nilsl, (.bool false)])) [],
   J (.store 5) [T 4, T 13]])
 (.seq (.region [I 14 (.fieldAddr 3) [T 4],
   I 15 (.load1) [T 14],
   I 16 (.lens) [T 15],
   I 17 (.bin .gtr) [T 16, N 5000]])
 (.cond (T 17)
 (.seq (.region [I 2 (.mv) [.lit (.bool false)]])
  (.ret))
 (.skip)))))
 (.region [I 18 (.bin .add) [T 10, N 1],
   I 10 (.mv) [T 18]])))
def c_law10_light : AFn := ⟨19, [.tmp 2],
 .seq (.region [I 2 (.mv) [.lit (.bool false)]])
 (.seq (.seq (.region [I 5 (.mv) [T 0],
   I 6 (.lens) [T 5],
   I 7 (.bin .gtr) [T 6, N 60]])
 (.cond (T 7)
 (.seq (.region [I 2 (.mv) [.lit (.bool false)]])
  (.ret))
 (.skip)))
 (.seq (.seq (.region [I 8 (.mv) [T 0],
   I 9 (.lens) [T 8],
   I 10 (.mv) [N 0]])
 (.block 0 (.loop c_law10_light_L0)))
 (.seq (.region [I 2 (.mv) [.lit (.bool true)]])
 (.ret))))⟩
theorem t52 : trFn Try.prog Try.f52 = some c_law10_light := by kernel_rfl

/-- (*pantry/pantryref10.Store).Make -/
abbrev n_ref10_Store_Make : Nat := 53
def c_ref10_Store_Make : AFn := ⟨35, [.tmp 4, .tmp 5],
 .seq (.region [I 4 (.mv) [N 0],
   I 5 (.mv) [N 0]])
 (.seq (.seq (.region [I 6 (.mv) [T 1],
   I 7 (.bin .lss) [T 6, N 0],
   I 8 (.mv) [T 7],
   IG 9 (.mv) [T 1] 8 false,
   IG 10 (.bin .gtr) [T 9, N 4096] 8 false,
   I 11 (.pick) [T 8, .lit (.bool true), T 10]])
 (.cond (T 11)
 (.seq (.region [I 4 (.mv) [N 0],
    I 5 (.mv) [N 2]])
  (.ret))
 (.skip)))
 (.seq (.seq (.region [I 12 (.mv) [T 0],
   I 13 (.nilCheck) [T 12],
   I 14 (.fieldAddr 0) [T 13],
   I 15 (.load1) [T 14],
   I 16 (.lens) [T 15],
   I 17 (.bin .geq) [T 16, N 16]])
 (.cond (T 17)
 (.seq (.region [I 4 (.mv) [N 0],
    I 5 (.mv) [N 5]])
  (.ret))
 (.skip)))
 (.seq (.region [I 18 (.mv) [T 0],
   I 19 (.bslice 3 1 0 (.vals [(.int .i64 0)]) []) [],
   I 20 (.mv) [T 0],
   I 21 (.nilCheck) [T 20],
   I 22 (.fieldAddr 0) [T 21],
   I 23 (.load1) [T 22],
   I 24 (.append 3 1 8 (.vals [(.int .i64 0)])) [T 19, T 23],
   I 25 (.mv) [T 1],
   I 26 (.bslice 3 1 1 (.vals [(.int .i64 0)]) [0]) [T 25],
   I 27 (.append 3 1 8 (.vals [(.int .i64 0)])) [T 24, T 26],
   I 28 (.nilCheck) [T 18],
   I 29 (.fieldAddr 0) [T 28],
   J (.store 1) [T 29, T 27]])
 (.seq (.region [I 30 (.mv) [T 0],
   I 31 (.nilCheck) [T 30],
   I 32 (.fieldAddr 0) [T 31],
   I 33 (.load1) [T 32],
   I 34 (.lens) [T 33],
   I 4 (.mv) [T 34],
   I 5 (.mv) [N 0]])
 (.ret)))))⟩
theorem t53 : trFn Try.prog Try.f53 = some c_ref10_Store_Make := by kernel_rfl

/-- (*pantry/pantryref10.Store).Resize -/
abbrev n_ref10_Store_Resize : Nat := 54
def c_ref10_Store_Resize : AFn := ⟨47, [.tmp 6],
 .seq (.region [I 6 (.mv) [N 0]])
 (.seq (.seq (.region [I 10 (.mv) [T 0],
   I 11 (.mv) [T 1],
   I 12 (.callv) [F 59, T 10, T 11],
   I 9 (.mv) [T 12],
   I 13 (.extract 0) [T 9],
   I 14 (.extract 1) [T 9],
   I 7 (.mv) [T 13],
   I 8 (.mv) [T 14]])
 (.seq (.region [I 15 (.mv) [T 8],
   I 16 (.un .not) [T 15]])
 (.cond (T 16)
 (.seq (.region [I 6 (.mv) [N 7]])
  (.ret))
 (.skip))))
 (.seq (.seq (.region [I 17 (.mv) [T 2],
   I 18 (.bin .lss) [T 17, N 0],
   I 19 (.mv) [T 18],
   IG 20 (.mv) [T 2] 19 false,
   IG 21 (.bin .gtr) [T 20, N 4096] 19 false,
   I 22 (.pick) [T 19, .lit (.bool true), T 21]])
 (.cond (T 22)
 (.seq (.region [I 6 (.mv) [N 2]])
  (.ret))
 (.skip)))
 (.seq (.region [I 23 (.mv) [T 0],
   I 24 (.mv) [T 0],
   I 25 (.mv) [T 1],
   I 26 (.mv) [T 2],
   I 27 (.callv) [F 110, T 24, T 25, T 26, .lit (.bool true)],
   I 28 (.nilCheck) [T 23],
   I 29 (.fieldAddr 1) [T 28],
   J (.store 1) [T 29, T 27]])
 (.seq (.region [I 30 (.mv) [T 0],
   I 31 (.bslice 3 1 0 (.vals [(.int .i64 0)]) []) [],
   I 32 (.mv) [T 0],
   I 33 (.nilCheck) [T 32],
   I 34 (.fieldAddr 0) [T 33],
   I 35 (.load1) [T 34],
   I 36 (.append 3 1 8 (.vals [(.int .i64 0)])) [T 31, T 35],
   I 37 (.nilCheck) [T 30],
   I 38 (.fieldAddr 0) [T 37],
   J (.store 1) [T 38, T 36]])
 (.seq (.region [I 39 (.mv) [T 0],
   I 40 (.nilCheck) [T 39],
   I 41 (.fieldAddr 0) [T 40],
   I 42 (.load1) [T 41],
   I 43 (.mv) [T 1],
   I 44 (.bin .sub) [T 43, N 1],
   I 45 (.mv) [T 2],
   I 46 (.indexs 1) [T 42, T 44],
   J (.store 1) [T 46, T 45]])
 (.seq (.region [I 6 (.mv) [N 0]])
 (.ret)))))))⟩
theorem t54 : trFn Try.prog Try.f54 = some c_ref10_Store_Resize := by kernel_rfl

/-- (*pantry/pantryref10.Store).Read -/
abbrev n_ref10_Store_Read : Nat := 55
/-- live: [1, 2, 35, 36, 37] -/
def c_ref10_Store_Read_L0 : ACode :=
 .seq (.region [I 38 (.bin .lss) [T 37, T 36]])
 (.seq (.cond (T 38)
 (.skip)
 (.exit 1))
 (.seq (.block 2 (.seq (.region [I 39 (.indexs 3) [T 35, T 37],
   I 40 (.loadn 3) [T 39],
   I 11 (.alloc 171 3 (.vals [(.int .i64 0), (.int .i64 0), .nilsl])) [],
   J (.store 3) [T 11, T 40]])
 (.seq (.region [I 41 (.fieldAddr 0) [T 11],
   I 42 (.load1) [T 41],
   I 43 (.mv) [T 1],
   I 44 (.bin .eql) [T 42, T 43],
   I 45 (.mv) [T 44],
   IG 46 (.fieldAddr 1) [T 11] 45 true,
   IG 47 (.load1) [T 46] 45 true,
   IG 48 (.mv) [T 2] 45 true,
   IG 49 (.bin .eql) [T 47, T 48] 45 true,
   I 50 (.pick) [T 45, T 49, .lit (.bool false)]])
 (.cond (T 50)
 (.seq (.region [I 51 (.bslice 5 1 0 (.bytes 1 0) []) [],
    I 52 (.fieldAddr 2) [T 11],
    I 53 (.load1) [T 52],
    I 54 (.append 5 1 1 (.bytes 1 0)) [T 51, T 53],
    I 6 (.mv) [T 54],
    I 7 (.mv) [N 0]])
  (.ret))
 (.skip)))))
 (.region [I 55 (.bin .add) [T 37, N 1],
   I 37 (.mv) [T 55]])))
def c_ref10_Store_Read : AFn := ⟨57, [.tmp 6, .tmp 7],
 .seq (.region [I 6 (.mv) [.lit .nilsl],
   I 7 (.mv) [N 0]])
 (.seq (.region [I 13 (.mv) [T 0],
   I 14 (.mv) [T 1],
   I 15 (.callv) [F 59, T 13, T 14],
   I 12 (.mv) [T 15],
   I 16 (.extract 0) [T 12],
   I 17 (.extract 1) [T 12],
   I 8 (.mv) [T 16],
   I 9 (.mv) [T 17]])
 (.seq (.block 0 (.seq (.region [I 19 (.mv) [T 9],
   I 20 (.un .not) [T 19],
   I 18 (.mv) [T 20]])
 (.cond (T 18)
 (.seq (.region [I 6 (.mv) [.lit .nilsl],
    I 7 (.mv) [N 7]])
  (.ret))
 (.seq (.region [I 22 (.mv) [T 2],
    I 23 (.bin .lss) [T 22, N 0],
    I 24 (.mv) [T 23],
    IG 25 (.mv) [T 2] 24 false,
    IG 26 (.mv) [T 8] 24 false,
    IG 27 (.bin .geq) [T 25, T 26] 24 false,
    I 28 (.pick) [T 24, .lit (.bool true), T 27],
    I 21 (.mv) [T 28]])
  (.cond (T 21)
  (.seq (.region [I 6 (.mv) [.lit .nilsl],
     I 7 (.mv) [N 2]])
   (.ret))
  (.seq (.region [I 30 (.mv) [T 0],
     I 31 (.callv) [F 111, T 30],
     I 29 (.mv) [T 31]])
   (.cond (T 29)
   (.seq (.region [I 6 (.mv) [.lit .nilsl],
      I 7 (.mv) [N 6]])
    (.ret))
   (.skip))))))))
 (.seq (.seq (.region [I 32 (.mv) [T 0],
   I 33 (.nilCheck) [T 32],
   I 34 (.fieldAddr 1) [T 33],
   I 35 (.load1) [T 34],
   I 36 (.lens) [T 35],
   I 37 (.mv) [N 0]])
 (.block 1 (.loop c_ref10_Store_Read_L0)))
 (.seq (.region [I 56 (.mkslice 5 1 1 (.bytes 1 0)) [N 4096, N 4096],
   I 6 (.mv) [T 56],
   I 7 (.mv) [N 0]])
 (.ret)))))⟩
theorem t55 : trFn Try.prog Try.f55 = some c_ref10_Store_Read := by kernel_rfl

/-- (pantry/pantrylaw10.Act).bytes -/
abbrev n_law10_Act_bytes : Nat := 56
def c_law10_Act_bytes : AFn := ⟨10, [.tmp 2],
 .seq (.region [I 1 (.box 91 5) [T 0],
   I 2 (.mv) [.lit .nilsl]])
 (.seq (.seq (.region [I 3 (.fieldAddr 4) [T 1],
   I 4 (.load1) [T 3]])
 (.cond (T 4)
 (.seq (.region [I 5 (.fieldAddr 3) [T 1],
    I 6 (.load1) [T 5],
    I 2 (.mv) [T 6]])
  (.ret))
 (.skip)))
 (.seq (.region [I 7 (.fieldAddr 3) [T 1],
   I 8 (.load1) [T 7],
   I 9 (.callv) [F 45, T 8],
   I 2 (.mv) [T 9]])
 (.ret)))⟩
theorem t56 : trFn Try.prog Try.f56 = some c_law10_Act_bytes := by kernel_rfl

/-- (*pantry/pantryref10.Store).Write -/
abbrev n_ref10_Store_Write : Nat := 57
def c_ref10_Store_Write : AFn := ⟨51, [.tmp 8],
 .seq (.region [I 8 (.mv) [N 0]])
 (.seq (.region [I 12 (.mv) [T 0],
   I 13 (.mv) [T 1],
   I 14 (.callv) [F 59, T 12, T 13],
   I 11 (.mv) [T 14],
   I 15 (.extract 0) [T 11],
   I 16 (.extract 1) [T 11],
   I 9 (.mv) [T 15],
   I 10 (.mv) [T 16]])
 (.seq (.block 0 (.seq (.region [I 18 (.mv) [T 10],
   I 19 (.un .not) [T 18],
   I 17 (.mv) [T 19]])
 (.cond (T 17)
 (.seq (.region [I 8 (.mv) [N 7]])
  (.ret))
 (.seq (.region [I 21 (.mv) [T 2],
    I 22 (.bin .lss) [T 21, N 0],
    I 23 (.mv) [T 22],
    IG 24 (.mv) [T 2] 23 false,
    IG 25 (.mv) [T 9] 23 false,
    IG 26 (.bin .geq) [T 24, T 25] 23 false,
    I 27 (.pick) [T 23, .lit (.bool true), T 26],
    I 28 (.mv) [T 27],
    IG 29 (.mv) [T 3] 28 false,
    IG 30 (.lens) [T 29] 28 false,
    IG 31 (.bin .neq) [T 30, N 4096] 28 false,
    I 32 (.pick) [T 28, .lit (.bool true), T 31],
    I 20 (.mv) [T 32]])
  (.cond (T 20)
  (.seq (.region [I 8 (.mv) [N 2]])
   (.ret))
  (.seq (.region [I 34 (.mv) [T 0],
     I 35 (.callv) [F 111, T 34],
     I 33 (.mv) [T 35]])
   (.cond (T 33)
   (.seq (.region [I 8 (.mv) [N 6]])
    (.ret))
   (.skip))))))))
 (.seq (.region [I 36 (.mv) [T 0],
   I 37 (.mv) [T 0],
   I 38 (.mv) [T 1],
   I 39 (.mv) [T 2],
   I 40 (.callv) [F 110, T 37, T 38, T 39, .lit (.bool false)],
   I 41 (.mv) [T 1],
   I 42 (.mv) [T 2],
   I 43 (.bslice 5 1 0 (.bytes 1 0) []) [],
   I 44 (.mv) [T 3],
   I 45 (.append 5 1 1 (.bytes 1 0)) [T 43, T 44],
   I 46 (.build (.agg [(.int .i64 0), (.int .i64 0), .nilsl]) [(0, 1), (1, 1), (2, 1)]) [T 41, T 42, T 45],
   I 47 (.bslice 171 3 1 (.vals [(.int .i64 0), (.int .i64 0), .nilsl]) [0]) [T 46],
   I 48 (.append 171 3 40 (.vals [(.int .i64 0), (.int .i64 0), .nilsl])) [T 40, T 47],
   I 49 (.nilCheck) [T 36],
   I 50 (.fieldAddr 1) [T 49],
   J (.store 1) [T 50, T 48]])
 (.seq (.region [I 8 (.mv) [N 0]])
 (.ret)))))⟩
theorem t57 : trFn Try.prog Try.f57 = some c_ref10_Store_Write := by kernel_rfl

/-- (*pantry/pantryref10.Store).Plan -/
abbrev n_ref10_Store_Plan : Nat := 58
def c_ref10_Store_Plan : AFn := ⟨11, [.tmp 4],
 .seq (.region [I 4 (.mv) [N 0]])
 (.seq (.seq (.region [I 5 (.mv) [T 1],
   I 6 (.bin .lss) [T 5, N 0]])
 (.cond (T 6)
 (.seq (.region [I 4 (.mv) [N 2]])
  (.ret))
 (.skip)))
 (.seq (.region [I 7 (.mv) [T 0],
   I 8 (.mv) [T 1],
   I 9 (.nilCheck) [T 7],
   I 10 (.fieldAddr 2) [T 9],
   J (.store 1) [T 10, T 8]])
 (.seq (.region [I 4 (.mv) [N 0]])
 (.ret))))⟩
theorem t58 : trFn Try.prog Try.f58 = some c_ref10_Store_Plan := by kernel_rfl

/-- (*pantry/pantryref10.Store).Size -/
abbrev n_ref10_Store_Size : Nat := 59
def c_ref10_Store_Size : AFn := ⟨25, [.tmp 4, .tmp 5],
 .seq (.region [I 4 (.mv) [N 0],
   I 5 (.mv) [.lit (.bool false)]])
 (.seq (.seq (.region [I 6 (.mv) [T 1],
   I 7 (.bin .lss) [T 6, N 1],
   I 8 (.mv) [T 7],
   IG 9 (.mv) [T 1] 8 false,
   IG 10 (.mv) [T 0] 8 false,
   IG 11 (.nilCheck) [T 10] 8 false,
   IG 12 (.fieldAddr 0) [T 11] 8 false,
   IG 13 (.load1) [T 12] 8 false,
   IG 14 (.lens) [T 13] 8 false,
   IG 15 (.bin .gtr) [T 9, T 14] 8 false,
   I 16 (.pick) [T 8, .lit (.bool true), T 15]])
 (.cond (T 16)
 (.seq (.region [I 4 (.mv) [N 0],
    I 5 (.mv) [.lit (.bool false)]])
  (.ret))
 (.skip)))
 (.seq (.region [I 17 (.mv) [T 0],
   I 18 (.nilCheck) [T 17],
   I 19 (.fieldAddr 0) [T 18],
   I 20 (.load1) [T 19],
   I 21 (.mv) [T 1],
   I 22 (.bin .sub) [T 21, N 1],
   I 23 (.indexs 1) [T 20, T 22],
   I 24 (.load1) [T 23],
   I 4 (.mv) [T 24],
   I 5 (.mv) [.lit (.bool true)]])
 (.ret)))⟩
theorem t59 : trFn Try.prog Try.f59 = some c_ref10_Store_Size := by kernel_rfl

/-- (*pantry/pantryref10.Store).Peek -/
abbrev n_ref10_Store_Peek : Nat := 60
/-- live: [1, 2, 31, 32, 33] -/
def c_ref10_Store_Peek_L0 : ACode :=
 .seq (.region [I 34 (.bin .lss) [T 33, T 32]])
 (.seq (.cond (T 34)
 (.skip)
 (.exit 0))
 (.seq (.block 1 (.seq (.region [I 35 (.indexs 3) [T 31, T 33],
   I 36 (.loadn 3) [T 35],
   I 10 (.alloc 171 3 (.vals [(.int .i64 0), (.int .i64 0), .nilsl])) [],
   J (.store 3) [T 10, T 36]])
 (.seq (.region [I 37 (.fieldAddr 0) [T 10],
   I 38 (.load1) [T 37],
   I 39 (.mv) [T 1],
   I 40 (.bin .eql) [T 38, T 39],
   I 41 (.mv) [T 40],
   IG 42 (.fieldAddr 1) [T 10] 41 true,
   IG 43 (.load1) [T 42] 41 true,
   IG 44 (.mv) [T 2] 41 true,
   IG 45 (.bin .eql) [T 43, T 44] 41 true,
   I 46 (.pick) [T 41, T 45, .lit (.bool false)]])
 (.cond (T 46)
 (.seq (.region [I 47 (.bslice 5 1 0 (.bytes 1 0) []) [],
    I 48 (.fieldAddr 2) [T 10],
    I 49 (.load1) [T 48],
    I 50 (.append 5 1 1 (.bytes 1 0)) [T 47, T 49],
    I 6 (.mv) [T 50]])
  (.ret))
 (.skip)))))
 (.region [I 51 (.bin .add) [T 33, N 1],
   I 33 (.mv) [T 51]])))
def c_ref10_Store_Peek : AFn := ⟨53, [.tmp 6],
 .seq (.region [I 6 (.mv) [.lit .nilsl]])
 (.seq (.region [I 12 (.mv) [T 0],
   I 13 (.mv) [T 1],
   I 14 (.callv) [F 59, T 12, T 13],
   I 11 (.mv) [T 14],
   I 15 (.extract 0) [T 11],
   I 16 (.extract 1) [T 11],
   I 7 (.mv) [T 15],
   I 8 (.mv) [T 16]])
 (.seq (.seq (.region [I 17 (.mv) [T 8],
   I 18 (.un .not) [T 17],
   I 19 (.mv) [T 18],
   IG 20 (.mv) [T 2] 19 false,
   IG 21 (.bin .lss) [T 20, N 0] 19 false,
   I 22 (.pick) [T 19, .lit (.bool true), T 21],
   I 23 (.mv) [T 22],
   IG 24 (.mv) [T 2] 23 false,
   IG 25 (.mv) [T 7] 23 false,
   IG 26 (.bin .geq) [T 24, T 25] 23 false,
   I 27 (.pick) [T 23, .lit (.bool true), T 26]])
 (.cond (T 27)
 (.seq (.region [I 6 (.mv) [.lit .nilsl]])
  (.ret))
 (.skip)))
 (.seq (.seq (.region [I 28 (.mv) [T 0],
   I 29 (.nilCheck) [T 28],
   I 30 (.fieldAddr 1) [T 29],
   I 31 (.load1) [T 30],
   I 32 (.lens) [T 31],
   I 33 (.mv) [N 0]])
 (.block 0 (.loop c_ref10_Store_Peek_L0)))
 (.seq (.region [I 52 (.mkslice 5 1 1 (.bytes 1 0)) [N 4096, N 4096],
   I 6 (.mv) [T 52]])
 (.ret)))))⟩
theorem t60 : trFn Try.prog Try.f60 = some c_ref10_Store_Peek := by kernel_rfl

/-- pantry/spread.New -/
abbrev n_spread_New : Nat := 61
def c_spread_New : AFn := ⟨16, [.tmp 2],
 .seq (.region [I 2 (.mv) [.lit .nilptr]])
 (.seq (.seq (.region [I 4 (.mv) [T 0],
   I 5 (.bin .lss) [T 4, N 0],
   I 6 (.mv) [T 5],
   IG 7 (.mv) [T 0] 6 false,
   IG 8 (.bin .gtr) [T 7, N 4096] 6 false,
   I 9 (.pick) [T 6, .lit (.bool true), T 8]])
 (.cond (T 9)
 (.seq (.region [I 2 (.mv) [.lit .nilptr]])
  (.ret))
 (.skip)))
 (.seq (.region [I 10 (.build (.agg [.nilsl, (.int .i64 0), (.bool false)]) [(2, 1)]) [.lit (.bool true)],
   I 11 (.box 126 3) [T 10],
   I 3 (.mv) [T 11]])
 (.seq (.region [I 12 (.mv) [T 3],
   I 13 (.mv) [T 0],
   I 14 (.callv) [F 64, T 12, T 13]])
 (.seq (.region [I 15 (.mv) [T 3],
   I 2 (.mv) [T 15]])
 (.ret)))))⟩
theorem t61 : trFn Try.prog Try.f61 = some c_spread_New := by kernel_rfl

/-- pantry/pantryref11.New -/
abbrev n_ref11_New : Nat := 62
def c_ref11_New : AFn := ⟨13, [.tmp 2],
 .seq (.region [I 2 (.mv) [.lit .nilptr]])
 (.seq (.seq (.region [I 3 (.mv) [T 0],
   I 4 (.bin .lss) [T 3, N 0],
   I 5 (.mv) [T 4],
   IG 6 (.mv) [T 0] 5 false,
   IG 7 (.bin .gtr) [T 6, N 4096] 5 false,
   I 8 (.pick) [T 5, .lit (.bool true), T 7]])
 (.cond (T 8)
 (.seq (.region [I 2 (.mv) [.lit .nilptr]])
  (.ret))
 (.skip)))
 (.seq (.region [I 9 (.mv) [T 0],
   I 10 (.mkslice 3 1 8 (.vals [(.int .i64 0)])) [T 9, T 9],
   I 11 (.build (.agg [.nilsl]) [(0, 1)]) [T 10],
   I 12 (.box 115 1) [T 11],
   I 2 (.mv) [T 12]])
 (.ret)))⟩
theorem t62 : trFn Try.prog Try.f62 = some c_ref11_New := by kernel_rfl

/-- pantry/pantrylaw11.lives -/
abbrev n_law11_lives : Nat := 63
def c_law11_lives : AFn := ⟨49, [.tmp 0],
 .seq (.region [I 0 (.mv) [.lit (.bool false)]])
 (.seq (.region [I 6 (.callv) [F 61, N 5],
   I 1 (.mv) [T 6]])
 (.seq (.region [I 8 (.mv) [T 1],
   I 9 (.callv) [F 66, T 8, N 1, N 4, N 1],
   I 7 (.mv) [T 9],
   I 10 (.extract 0) [T 7],
   I 11 (.extract 1) [T 7],
   I 2 (.mv) [T 10],
   I 3 (.mv) [T 11]])
 (.seq (.region [I 13 (.mv) [T 1],
   I 14 (.callv) [F 66, T 13, N 2, N 3, N 1],
   I 12 (.mv) [T 14],
   I 15 (.extract 0) [T 12],
   I 16 (.extract 1) [T 12],
   I 4 (.mv) [T 15],
   I 5 (.mv) [T 16]])
 (.seq (.region (I 17 (.mv) [T 3] ::
   I 18 (.bin .eql) [T 17, N 0] ::
   I 19 (.mv) [T 18] ::
   IG 20 (.mv) [T 5] 19 true ::
   IG 21 (.bin .eql) [T 20, N 0] 19 true ::
   I 22 (.pick) [T 19, T 21, .lit (.bool false)] ::
   I 23 (.mv) [T 22] ::
   IG 24 (.mv) [T 1] 23 true ::
   IG 25 (.callv) [F 75, T 24] 23 true ::
   IG 26 (.lens) [T 25] 23 true ::
   IG 27 (.bin .eql) [T 26, N 5] 23 true ::
   I 28 (.pick) [T 23, T 27, .lit (.bool false)] ::
   I 29 (.mv) [T 28] ::
   IG 30 (.mv) [T 1] 29 true ::
   IG 31 (.callv) [F 70, T 30, N 2] 29 true ::
   IG 32 (.bin .eql) [T 31, N 2] 29 true ::
   I 33 (.pick) [T 29, T 32, .lit (.bool false)] ::
   I 34 (.mv) [T 33] ::
   IG 35 (.mv) [T 1] 34 true ::
   IG 36 (.callv) [F 70, T 35, N 1] 34 true ::
   IG 37 (.bin .eql) [T 36, N 1] 34 true ::
   I 38 (.pick) [T 34, T 37, .lit (.bool false)] ::
   I 39 (.mv) [T 38] ::
   IG 40 (.mv) [T 1] 39 true ::
   IG 41 (.callv) [F 70, T 40, N 0] 39 true ::
   IG 42 (.bin .eql) [T 41, N 0] 39 true ::
   I 43 (.pick) [T 39, T 42, .lit (.bool false)] ::
   I 44 (.mv) [T 43] ::
   IG 45 (.mv) [T 1] 44 true ::
   IG 46 (.callv) [F 72, T 45] 44 true ::
   IG 47 (.bin .eql) [T 46, N 4] 44 true ::
   I 48 (.pick) [T 44, T 47, .lit (.bool false)] ::
   I 0 (.mv) [T 48] ::
   []))
 (.ret)))))⟩
theorem t63 : trFn Try.prog Try.f63 = some c_law11_lives := by kernel_rfl

/-- (*pantry/spread.Counts).Grow -/
abbrev n_spread_Counts_Grow : Nat := 64
def c_spread_Counts_Grow : AFn := ⟨47, [.tmp 4],
 .seq (.region [I 4 (.mv) [N 0]])
 (.seq (.block 0 (.seq (.region [I 6 (.mv) [T 0],
   I 7 (.callv) [F 112, T 6],
   I 8 (.un .not) [T 7],
   I 5 (.mv) [T 8]])
 (.cond (T 5)
 (.seq (.region [I 4 (.mv) [N 1]])
  (.ret))
 (.seq (.region [I 10 (.mv) [T 1],
    I 11 (.mv) [T 0],
    I 12 (.nilCheck) [T 11],
    I 13 (.fieldAddr 1) [T 12],
    I 14 (.load1) [T 13],
    I 15 (.bin .lss) [T 10, T 14],
    I 16 (.mv) [T 15],
    IG 17 (.mv) [T 1] 16 false,
    IG 18 (.bin .gtr) [T 17, N 4096] 16 false,
    I 19 (.pick) [T 16, .lit (.bool true), T 18],
    I 9 (.mv) [T 19]])
  (.cond (T 9)
  (.seq (.region [I 4 (.mv) [N 2]])
   (.ret))
  (.skip))))))
 (.seq (.seq (.region [I 20 (.mv) [T 1],
   I 21 (.mv) [T 0],
   I 22 (.nilCheck) [T 21],
   I 23 (.fieldAddr 1) [T 22],
   I 24 (.load1) [T 23],
   I 25 (.bin .gtr) [T 20, T 24]])
 (.cond (T 25)
 (.draw [[⟨0, I 26 (.mv) [T 0], [], false⟩,
    ⟨1, I 27 (.mv) [T 0], [], false⟩,
    ⟨2, I 28 (.nilCheck) [T 27], [], false⟩,
    ⟨3, I 29 (.fieldAddr 0) [T 28], [], false⟩,
    ⟨4, I 30 (.load1) [T 29], [], false⟩,
    ⟨6, I 32 (.mv) [T 0], [], false⟩,
    ⟨7, I 33 (.nilCheck) [T 32], [], false⟩,
    ⟨8, I 34 (.fieldAddr 1) [T 33], [], false⟩,
    ⟨9, I 35 (.load1) [T 34], [], false⟩,
    ⟨10, I 36 (.mv) [T 1], [], false⟩,
    ⟨11, I 37 (.build (.agg [(.int .i64 0), (.int .i64 0), (.int .i64 0)]) [(0, 1), (1, 1)]) [T 35, T 36], [], false⟩,
    ⟨5, I 31 (.callv) [F 114, T 30], [(9, I 35 (.load1) [T 34])], false⟩,
    ⟨12, I 38 (.bslice 121 3 1 (.vals [(.int .i64 0), (.int .i64 0), (.int .i64 0)]) [0]) [T 37], [(4, I 30 (.load1) [T 29])], false⟩,
    ⟨13, I 39 (.append 121 3 24 (.vals [(.int .i64 0), (.int .i64 0), (.int .i64 0)])) [T 31, T 38], [], false⟩,
    ⟨14, I 40 (.callv) [F 113, T 39], [], false⟩,
    ⟨15, I 41 (.nilCheck) [T 26], [], false⟩,
    ⟨16, I 42 (.fieldAddr 0) [T 41], [], false⟩,
    ⟨17, J (.store 1) [T 42, T 40], [], false⟩],
[⟨0, I 26 (.mv) [T 0], [], false⟩,
    ⟨1, I 27 (.mv) [T 0], [], false⟩,
    ⟨2, I 28 (.nilCheck) [T 27], [], false⟩,
    ⟨3, I 29 (.fieldAddr 0) [T 28], [], false⟩,
    ⟨4, I 30 (.load1) [T 29], [], false⟩,
    ⟨6, I 32 (.mv) [T 0], [], false⟩,
    ⟨7, I 33 (.nilCheck) [T 32], [], false⟩,
    ⟨8, I 34 (.fieldAddr 1) [T 33], [], false⟩,
    ⟨9, I 35 (.load1) [T 34], [], false⟩,
    ⟨10, I 36 (.mv) [T 1], [], false⟩,
    ⟨11, I 37 (.build (.agg [(.int .i64 0), (.int .i64 0), (.int .i64 0)]) [(0, 1), (1, 1)]) [T 35, T 36], [], false⟩,
    ⟨12, I 38 (.bslice 121 3 1 (.vals [(.int .i64 0), (.int .i64 0), (.int .i64 0)]) [0]) [T 37], [(4, I 30 (.load1) [T 29])], false⟩,
    ⟨5, I 31 (.callv) [F 114, T 30], [(9, I 35 (.load1) [T 34])], false⟩,
    ⟨13, I 39 (.append 121 3 24 (.vals [(.int .i64 0), (.int .i64 0), (.int .i64 0)])) [T 31, T 38], [], false⟩,
    ⟨14, I 40 (.callv) [F 113, T 39], [], false⟩,
    ⟨15, I 41 (.nilCheck) [T 26], [], false⟩,
    ⟨16, I 42 (.fieldAddr 0) [T 41], [], false⟩,
    ⟨17, J (.store 1) [T 42, T 40], [], false⟩]])
 (.skip)))
 (.seq (.region [I 43 (.mv) [T 0],
   I 44 (.mv) [T 1],
   I 45 (.nilCheck) [T 43],
   I 46 (.fieldAddr 1) [T 45],
   J (.store 1) [T 46, T 44]])
 (.seq (.region [I 4 (.mv) [N 0]])
 (.ret)))))⟩
theorem t64 : trFn Try.prog Try.f64 = some c_spread_Counts_Grow := by kernel_rfl

/-- (*pantry/pantryref11.Counts).Grow -/
abbrev n_ref11_Counts_Grow : Nat := 65
def c_ref11_Counts_Grow : AFn := ⟨33, [.tmp 4],
 .seq (.region [I 4 (.mv) [N 0]])
 (.seq (.seq (.region [I 5 (.mv) [T 1],
   I 6 (.mv) [T 0],
   I 7 (.nilCheck) [T 6],
   I 8 (.fieldAddr 0) [T 7],
   I 9 (.load1) [T 8],
   I 10 (.lens) [T 9],
   I 11 (.bin .lss) [T 5, T 10],
   I 12 (.mv) [T 11],
   IG 13 (.mv) [T 1] 12 false,
   IG 14 (.bin .gtr) [T 13, N 4096] 12 false,
   I 15 (.pick) [T 12, .lit (.bool true), T 14]])
 (.cond (T 15)
 (.seq (.region [I 4 (.mv) [N 2]])
  (.ret))
 (.skip)))
 (.seq (.draw [[⟨0, I 16 (.mv) [T 0], [], false⟩,
   ⟨2, I 18 (.mv) [T 0], [], false⟩,
   ⟨3, I 19 (.nilCheck) [T 18], [], false⟩,
   ⟨4, I 20 (.fieldAddr 0) [T 19], [], false⟩,
   ⟨5, I 21 (.load1) [T 20], [], false⟩,
   ⟨7, I 23 (.mv) [T 1], [], false⟩,
   ⟨8, I 24 (.mv) [T 0], [], false⟩,
   ⟨9, I 25 (.nilCheck) [T 24], [], false⟩,
   ⟨10, I 26 (.fieldAddr 0) [T 25], [], false⟩,
   ⟨11, I 27 (.load1) [T 26], [], false⟩,
   ⟨12, I 28 (.lens) [T 27], [], false⟩,
   ⟨13, I 29 (.bin .sub) [T 23, T 28], [], false⟩,
   ⟨1, I 17 (.bslice 3 1 0 (.vals [(.int .i64 0)]) []) [], [(5, I 21 (.load1) [T 20]), (11, I 27 (.load1) [T 26])], false⟩,
   ⟨6, I 22 (.append 3 1 8 (.vals [(.int .i64 0)])) [T 17, T 21], [(11, I 27 (.load1) [T 26])], false⟩,
   ⟨14, I 30 (.appendz 3 1 8 (.vals [(.int .i64 0)])) [T 22, T 29], [], false⟩,
   ⟨15, I 31 (.nilCheck) [T 16], [], false⟩,
   ⟨16, I 32 (.fieldAddr 0) [T 31], [], false⟩,
   ⟨17, J (.store 1) [T 32, T 30], [], false⟩]])
 (.seq (.region [I 4 (.mv) [N 0]])
 (.ret))))⟩
theorem t65 : trFn Try.prog Try.f65 = some c_ref11_Counts_Grow := by kernel_rfl

/-- (*pantry/spread.Counts).Add -/
abbrev n_spread_Counts_Add : Nat := 66
/-- live: [7, 10, 11, 12] -/
def c_spread_Counts_Add_L1 : ACode :=
 .seq (.seq (.region [I 53 (.load1) [T 7],
   I 54 (.bin .neq) [T 53, N 0],
   I 55 (.mv) [T 54],
   IG 56 (.load1) [T 7] 55 true,
   IG 57 (.fieldAddr 2) [T 11] 55 true,
   IG 58 (.load1) [T 57] 55 true,
   IG 59 (.un .neg) [T 58] 55 true,
   IG 60 (.bin .eql) [T 56, T 59] 55 true,
   I 61 (.pick) [T 55, T 60, .lit (.bool false)],
   I 62 (.mv) [T 61],
   IG 63 (.mv) [T 12] 62 true,
   IG 64 (.fieldAddr 1) [T 11] 62 true,
   IG 65 (.load1) [T 64] 62 true,
   IG 66 (.bin .lss) [T 63, T 65] 62 true,
   I 67 (.pick) [T 62, T 66, .lit (.bool false)]])
 (.cond (T 67)
 (.skip)
 (.exit 2)))
 (.seq (.block 3 (.region [I 70 (.load1) [T 10],
   I 71 (.mv) [T 12],
   I 72 (.bslice 3 1 1 (.vals [(.int .i64 0)]) [0]) [T 71],
   I 73 (.append 3 1 8 (.vals [(.int .i64 0)])) [T 70, T 72],
   J (.store 1) [T 10, T 73]]))
 (.region [I 68 (.mv) [T 12],
   I 69 (.bin .add) [T 68, N 1],
   I 12 (.mv) [T 69]]))
/-- live: [7, 8, 9, 10] -/
def c_spread_Counts_Add_A0 : ACode :=
 .region [I 11 (.alloc 121 3 (.vals [(.int .i64 0), (.int .i64 0), (.int .i64 0)])) [],
   J (.store 3) [T 11, T 38]]
def c_spread_Counts_Add_B0 : ACode :=
 .block 1 (.seq (.seq (.region [I 39 (.load1) [T 7],
   I 40 (.fieldAddr 2) [T 11],
   I 41 (.load1) [T 40],
   I 42 (.un .neg) [T 41],
   I 43 (.bin .lss) [T 39, T 42],
   I 44 (.mv) [T 43],
   IG 45 (.load1) [T 7] 44 false,
   IG 46 (.fieldAddr 2) [T 11] 44 false,
   IG 47 (.load1) [T 46] 44 false,
   IG 48 (.bin .sub) [N 1000000, T 47] 44 false,
   IG 49 (.bin .gtr) [T 45, T 48] 44 false,
   I 50 (.pick) [T 44, .lit (.bool true), T 49]])
 (.cond (T 50)
 (.seq (.region [J (.store 1) [T 8, .lit .nilsl],
    J (.store 1) [T 9, N 2]])
  (.ret))
 (.skip)))
 (.seq (.region [I 51 (.fieldAddr 0) [T 11],
   I 52 (.load1) [T 51],
   I 12 (.mv) [T 52]])
 (.block 2 (.loop c_spread_Counts_Add_L1))))
/-- live: [0, 1, 2, 7, 8, 9, 10, 13, 84, 85, 86] -/
def c_spread_Counts_Add_L2 : ACode :=
 .seq (.region [I 87 (.bin .lss) [T 86, T 85]])
 (.seq (.cond (T 87)
 (.skip)
 (.exit 4))
 (.seq (.block 5 (.seq (.region [I 88 (.mv) [T 86],
   I 89 (.indexs 3) [T 84, T 86],
   I 90 (.loadn 3) [T 89],
   I 15 (.alloc 121 3 (.vals [(.int .i64 0), (.int .i64 0), (.int .i64 0)])) [],
   I 14 (.mv) [T 88],
   J (.store 3) [T 15, T 90]])
 (.seq (.region [I 91 (.fieldAddr 0) [T 15],
   I 92 (.load1) [T 91],
   I 93 (.mv) [T 1],
   I 94 (.bin .geq) [T 92, T 93],
   I 95 (.mv) [T 94],
   IG 96 (.fieldAddr 1) [T 15] 95 true,
   IG 97 (.load1) [T 96] 95 true,
   IG 98 (.mv) [T 2] 95 true,
   IG 99 (.bin .leq) [T 97, T 98] 95 true,
   I 100 (.pick) [T 95, T 99, .lit (.bool false)]])
 (.cond (T 100)
 (.draw [[⟨0, I 101 (.mv) [T 13], [], false⟩,
    ⟨1, I 102 (.mv) [T 14], [], false⟩,
    ⟨2, I 103 (.indexs 3) [T 101, T 102], [], false⟩,
    ⟨3, I 104 (.fieldAddr 2) [T 103], [], false⟩,
    ⟨4, I 105 (.load1) [T 104], [], false⟩,
    ⟨5, I 106 (.load1) [T 7], [], false⟩,
    ⟨6, I 107 (.bin .add) [T 105, T 106], [], false⟩,
    ⟨7, I 108 (.indexs 3) [T 101, T 102], [], false⟩,
    ⟨8, I 109 (.fieldAddr 2) [T 108], [], false⟩,
    ⟨9, J (.store 1) [T 109, T 107], [], false⟩]])
 (.skip)))))
 (.region [I 110 (.bin .add) [T 86, N 1],
   I 86 (.mv) [T 110]])))
def c_spread_Counts_Add : AFn := ⟨117, [.cell 8 (.load1), .cell 9 (.load1)],
 .seq (.region [I 7 (.box 3 1) [T 3],
   I 8 (.alloc 77 1 (.vals [.nilsl])) [],
   I 9 (.alloc 32 1 (.vals [(.int .i64 0)])) []])
 (.seq (.seq (.region [I 16 (.mv) [T 0],
   I 17 (.callv) [F 112, T 16],
   I 18 (.un .not) [T 17]])
 (.cond (T 18)
 (.seq (.region [J (.store 1) [T 8, .lit .nilsl],
    J (.store 1) [T 9, N 1]])
  (.ret))
 (.skip)))
 (.seq (.seq (.region [I 19 (.mv) [T 1],
   I 20 (.bin .lss) [T 19, N 0],
   I 21 (.mv) [T 20],
   IG 22 (.mv) [T 2] 21 false,
   IG 23 (.mv) [T 0] 21 false,
   IG 24 (.nilCheck) [T 23] 21 false,
   IG 25 (.fieldAddr 1) [T 24] 21 false,
   IG 26 (.load1) [T 25] 21 false,
   IG 27 (.bin .gtr) [T 22, T 26] 21 false,
   I 28 (.pick) [T 21, .lit (.bool true), T 27],
   I 29 (.mv) [T 28],
   IG 30 (.mv) [T 1] 29 false,
   IG 31 (.mv) [T 2] 29 false,
   IG 32 (.bin .gtr) [T 30, T 31] 29 false,
   I 33 (.pick) [T 29, .lit (.bool true), T 32]])
 (.cond (T 33)
 (.seq (.region [J (.store 1) [T 8, .lit .nilsl],
    J (.store 1) [T 9, N 2]])
  (.ret))
 (.skip)))
 (.seq (.region [I 10 (.alloc 77 1 (.vals [.nilsl])) []])
 (.seq (.seq (.region [I 34 (.mv) [T 0],
   I 35 (.mv) [T 1],
   I 36 (.mv) [T 2],
   I 37 (.callv) [F 115, T 34, T 35, T 36]])
 (.block 0 (.rfun (T 37) [38] c_spread_Counts_Add_A0 c_spread_Counts_Add_B0)))
 (.seq (.region [I 74 (.mv) [T 0],
   I 75 (.nilCheck) [T 74],
   I 76 (.fieldAddr 0) [T 75],
   I 77 (.load1) [T 76],
   I 78 (.mv) [T 1],
   I 79 (.callv) [F 116, T 77, T 78],
   I 80 (.mv) [T 2],
   I 81 (.callv) [F 116, T 79, T 80],
   I 13 (.mv) [T 81]])
 (.seq (.region [I 82 (.mv) [T 13],
   I 83 (.callv) [F 114, T 82],
   I 13 (.mv) [T 83]])
 (.seq (.seq (.region [I 84 (.mv) [T 13],
   I 85 (.lens) [T 84],
   I 86 (.mv) [N 0]])
 (.block 4 (.loop c_spread_Counts_Add_L2)))
 (.seq (.region [I 111 (.mv) [T 0],
   I 112 (.mv) [T 13],
   I 113 (.callv) [F 113, T 112],
   I 114 (.nilCheck) [T 111],
   I 115 (.fieldAddr 0) [T 114],
   J (.store 1) [T 115, T 113]])
 (.seq (.region [I 116 (.load1) [T 10],
   J (.store 1) [T 8, T 116],
   J (.store 1) [T 9, N 0]])
 (.ret))))))))))⟩
theorem t66 : trFn Try.prog Try.f66 = some c_spread_Counts_Add := by kernel_rfl

/-- (*pantry/pantryref11.Counts).Add -/
abbrev n_ref11_Counts_Add : Nat := 67
/-- live: [0, 1, 2, 3, 38, 39, 40] -/
def c_ref11_Counts_Add_L0 : ACode :=
 .seq (.region [I 41 (.bin .lss) [T 40, T 39]])
 (.seq (.cond (T 41)
 (.skip)
 (.exit 0))
 (.seq (.block 1 (.seq (.region [I 42 (.indexs 1) [T 38, T 40],
   I 43 (.load1) [T 42],
   I 11 (.mv) [T 43]])
 (.seq (.region [I 44 (.mv) [T 3],
   I 45 (.mv) [T 11],
   I 46 (.un .neg) [T 45],
   I 47 (.bin .lss) [T 44, T 46],
   I 48 (.mv) [T 47],
   IG 49 (.mv) [T 3] 48 false,
   IG 50 (.mv) [T 11] 48 false,
   IG 51 (.bin .sub) [N 1000000, T 50] 48 false,
   IG 52 (.bin .gtr) [T 49, T 51] 48 false,
   I 53 (.pick) [T 48, .lit (.bool true), T 52]])
 (.cond (T 53)
 (.seq (.region [I 8 (.mv) [.lit .nilsl],
    I 9 (.mv) [N 2]])
  (.ret))
 (.skip)))))
 (.region [I 54 (.bin .add) [T 40, N 1],
   I 40 (.mv) [T 54]])))
/-- live: [0, 2, 3, 12, 13, 14] -/
def c_ref11_Counts_Add_L1 : ACode :=
 .seq (.seq (.region [I 62 (.mv) [T 14],
   I 63 (.mv) [T 2],
   I 64 (.bin .lss) [T 62, T 63]])
 (.cond (T 64)
 (.skip)
 (.exit 2)))
 (.seq (.block 3 (.seq (.region [I 67 (.mv) [T 12],
   I 68 (.mv) [T 14],
   I 69 (.indexs 1) [T 67, T 68],
   I 70 (.load1) [T 69],
   I 15 (.mv) [T 70]])
 (.seq (.region [I 71 (.mv) [T 12],
   I 72 (.mv) [T 14],
   I 73 (.indexs 1) [T 71, T 72],
   I 74 (.load1) [T 73],
   I 75 (.mv) [T 3],
   I 76 (.bin .add) [T 74, T 75],
   I 77 (.indexs 1) [T 71, T 72],
   J (.store 1) [T 77, T 76]])
 (.seq (.region [I 78 (.mv) [T 15],
   I 79 (.bin .neq) [T 78, N 0],
   I 80 (.mv) [T 79],
   IG 81 (.mv) [T 12] 80 true,
   IG 82 (.mv) [T 14] 80 true,
   IG 83 (.indexs 1) [T 81, T 82] 80 true,
   IG 84 (.load1) [T 83] 80 true,
   IG 85 (.bin .eql) [T 84, N 0] 80 true,
   I 86 (.pick) [T 80, T 85, .lit (.bool false)]])
 (.cond (T 86)
 (.region [I 87 (.mv) [T 13],
    I 88 (.mv) [T 14],
    I 89 (.bslice 3 1 1 (.vals [(.int .i64 0)]) [0]) [T 88],
    I 90 (.append 3 1 8 (.vals [(.int .i64 0)])) [T 87, T 89],
    I 13 (.mv) [T 90]])
 (.skip))))))
 (.region [I 65 (.mv) [T 14],
   I 66 (.bin .add) [T 65, N 1],
   I 14 (.mv) [T 66]]))
def c_ref11_Counts_Add : AFn := ⟨96, [.tmp 8, .tmp 9],
 .seq (.region [I 8 (.mv) [.lit .nilsl],
   I 9 (.mv) [N 0]])
 (.seq (.seq (.region [I 16 (.mv) [T 1],
   I 17 (.bin .lss) [T 16, N 0],
   I 18 (.mv) [T 17],
   IG 19 (.mv) [T 2] 18 false,
   IG 20 (.mv) [T 0] 18 false,
   IG 21 (.nilCheck) [T 20] 18 false,
   IG 22 (.fieldAddr 0) [T 21] 18 false,
   IG 23 (.load1) [T 22] 18 false,
   IG 24 (.lens) [T 23] 18 false,
   IG 25 (.bin .gtr) [T 19, T 24] 18 false,
   I 26 (.pick) [T 18, .lit (.bool true), T 25],
   I 27 (.mv) [T 26],
   IG 28 (.mv) [T 1] 27 false,
   IG 29 (.mv) [T 2] 27 false,
   IG 30 (.bin .gtr) [T 28, T 29] 27 false,
   I 31 (.pick) [T 27, .lit (.bool true), T 30]])
 (.cond (T 31)
 (.seq (.region [I 8 (.mv) [.lit .nilsl],
    I 9 (.mv) [N 2]])
  (.ret))
 (.skip)))
 (.seq (.seq (.region [I 32 (.mv) [T 0],
   I 33 (.nilCheck) [T 32],
   I 34 (.fieldAddr 0) [T 33],
   I 35 (.load1) [T 34],
   I 36 (.mv) [T 1],
   I 37 (.mv) [T 2],
   I 38 (.slice 1 true true false) [T 35, T 36, T 37],
   I 39 (.lens) [T 38],
   I 40 (.mv) [N 0]])
 (.block 0 (.loop c_ref11_Counts_Add_L0)))
 (.seq (.region [I 55 (.bslice 3 1 0 (.vals [(.int .i64 0)]) []) [],
   I 56 (.mv) [T 0],
   I 57 (.nilCheck) [T 56],
   I 58 (.fieldAddr 0) [T 57],
   I 59 (.load1) [T 58],
   I 60 (.append 3 1 8 (.vals [(.int .i64 0)])) [T 55, T 59],
   I 12 (.mv) [T 60]])
 (.seq (.region [I 13 (.mv) [.lit .nilsl]])
 (.seq (.seq (.region [I 61 (.mv) [T 1],
   I 14 (.mv) [T 61]])
 (.block 2 (.loop c_ref11_Counts_Add_L1)))
 (.seq (.region [I 91 (.mv) [T 0],
   I 92 (.mv) [T 12],
   I 93 (.nilCheck) [T 91],
   I 94 (.fieldAddr 0) [T 93],
   J (.store 1) [T 94, T 92]])
 (.seq (.region [I 95 (.mv) [T 13],
   I 8 (.mv) [T 95],
   I 9 (.mv) [N 0]])
 (.ret))))))))⟩
theorem t67 : trFn Try.prog Try.f67 = some c_ref11_Counts_Add := by kernel_rfl

/-- pantry/pantryref01.Ints -/
abbrev n_ref01_Ints : Nat := 68
/-- live: [0, 1, 12, 13] -/
def c_ref01_Ints_L0 : ACode :=
 .seq (.region [I 14 (.bin .lss) [T 13, T 12]])
 (.seq (.cond (T 14)
 (.skip)
 (.exit 0))
 (.seq (.block 1 (.seq (.region [I 15 (.mv) [T 13],
   I 5 (.mv) [T 15]])
 (.seq (.draw [[⟨0, I 16 (.mv) [T 0], [], false⟩,
   ⟨1, I 17 (.mv) [T 5], [], false⟩,
   ⟨2, I 18 (.indexs 1) [T 16, T 17], [], false⟩,
   ⟨3, I 19 (.load1) [T 18], [], false⟩,
   ⟨4, I 20 (.mv) [T 1], [], false⟩,
   ⟨5, I 21 (.mv) [T 5], [], false⟩,
   ⟨6, I 22 (.indexs 1) [T 20, T 21], [], false⟩,
   ⟨7, I 23 (.load1) [T 22], [], false⟩,
   ⟨8, I 24 (.bin .neq) [T 19, T 23], [], false⟩]])
 (.cond (T 24)
 (.seq (.region [I 4 (.mv) [.lit (.bool false)]])
  (.ret))
 (.skip)))))
 (.region [I 25 (.bin .add) [T 13, N 1],
   I 13 (.mv) [T 25]])))
def c_ref01_Ints : AFn := ⟨26, [.tmp 4],
 .seq (.region [I 4 (.mv) [.lit (.bool false)]])
 (.seq (.seq (.region [I 6 (.mv) [T 0],
   I 7 (.lens) [T 6],
   I 8 (.mv) [T 1],
   I 9 (.lens) [T 8],
   I 10 (.bin .neq) [T 7, T 9]])
 (.cond (T 10)
 (.seq (.region [I 4 (.mv) [.lit (.bool false)]])
  (.ret))
 (.skip)))
 (.seq (.seq (.region [I 11 (.mv) [T 0],
   I 12 (.lens) [T 11],
   I 13 (.mv) [N 0]])
 (.block 0 (.loop c_ref01_Ints_L0)))
 (.seq (.region [I 4 (.mv) [.lit (.bool true)]])
 (.ret))))⟩
theorem t68 : trFn Try.prog Try.f68 = some c_ref01_Ints := by kernel_rfl

/-- (*pantry/spread.Counts).Len -/
abbrev n_spread_Counts_Len : Nat := 69
def c_spread_Counts_Len : AFn := ⟨10, [.tmp 2],
 .seq (.region [I 2 (.mv) [N 0]])
 (.seq (.seq (.region [I 3 (.mv) [T 0],
   I 4 (.callv) [F 112, T 3],
   I 5 (.un .not) [T 4]])
 (.cond (T 5)
 (.seq (.region [I 2 (.mv) [N 0]])
  (.ret))
 (.skip)))
 (.seq (.region [I 6 (.mv) [T 0],
   I 7 (.nilCheck) [T 6],
   I 8 (.fieldAddr 1) [T 7],
   I 9 (.load1) [T 8],
   I 2 (.mv) [T 9]])
 (.ret)))⟩
theorem t69 : trFn Try.prog Try.f69 = some c_spread_Counts_Len := by kernel_rfl

/-- (*pantry/spread.Counts).At -/
abbrev n_spread_Counts_At : Nat := 70
/-- live: [4] -/
def c_spread_Counts_At_A0 : ACode :=
 .region [I 5 (.alloc 121 3 (.vals [(.int .i64 0), (.int .i64 0), (.int .i64 0)])) [],
   J (.store 3) [T 5, T 19]]
def c_spread_Counts_At_B0 : ACode :=
 .block 1 (.seq (.region [I 20 (.fieldAddr 2) [T 5],
   I 21 (.load1) [T 20],
   J (.store 1) [T 4, T 21]])
 (.ret))
def c_spread_Counts_At : AFn := ⟨22, [.cell 4 (.load1)],
 .seq (.region [I 4 (.alloc 3 1 (.vals [(.int .i64 0)])) []])
 (.seq (.seq (.region [I 6 (.mv) [T 1],
   I 7 (.bin .lss) [T 6, N 0],
   I 8 (.mv) [T 7],
   IG 9 (.mv) [T 1] 8 false,
   IG 10 (.mv) [T 0] 8 false,
   IG 11 (.callv) [F 69, T 10] 8 false,
   IG 12 (.bin .geq) [T 9, T 11] 8 false,
   I 13 (.pick) [T 8, .lit (.bool true), T 12]])
 (.cond (T 13)
 (.seq (.region [J (.store 1) [T 4, N (-1)]])
  (.ret))
 (.skip)))
 (.seq (.seq (.region [I 14 (.mv) [T 0],
   I 15 (.mv) [T 1],
   I 16 (.mv) [T 1],
   I 17 (.bin .add) [T 16, N 1],
   I 18 (.callv) [F 115, T 14, T 15, T 17]])
 (.block 0 (.rfun (T 18) [19] c_spread_Counts_At_A0 c_spread_Counts_At_B0)))
 (.seq (.region [J (.store 1) [T 4, N (-1)]])
 (.ret))))⟩
theorem t70 : trFn Try.prog Try.f70 = some c_spread_Counts_At := by kernel_rfl

/-- (*pantry/pantryref11.Counts).At -/
abbrev n_ref11_Counts_At : Nat := 71
def c_ref11_Counts_At : AFn := ⟨23, [.tmp 4],
 .seq (.region [I 4 (.mv) [N 0]])
 (.seq (.seq (.region [I 5 (.mv) [T 1],
   I 6 (.bin .lss) [T 5, N 0],
   I 7 (.mv) [T 6],
   IG 8 (.mv) [T 1] 7 false,
   IG 9 (.mv) [T 0] 7 false,
   IG 10 (.nilCheck) [T 9] 7 false,
   IG 11 (.fieldAddr 0) [T 10] 7 false,
   IG 12 (.load1) [T 11] 7 false,
   IG 13 (.lens) [T 12] 7 false,
   IG 14 (.bin .geq) [T 8, T 13] 7 false,
   I 15 (.pick) [T 7, .lit (.bool true), T 14]])
 (.cond (T 15)
 (.seq (.region [I 4 (.mv) [N (-1)]])
  (.ret))
 (.skip)))
 (.seq (.region [I 16 (.mv) [T 0],
   I 17 (.nilCheck) [T 16],
   I 18 (.fieldAddr 0) [T 17],
   I 19 (.load1) [T 18],
   I 20 (.mv) [T 1],
   I 21 (.indexs 1) [T 19, T 20],
   I 22 (.load1) [T 21],
   I 4 (.mv) [T 22]])
 (.ret)))⟩
theorem t71 : trFn Try.prog Try.f71 = some c_ref11_Counts_At := by kernel_rfl

/-- (*pantry/spread.Counts).Sum -/
abbrev n_spread_Counts_Sum : Nat := 72
/-- live: [3] -/
def c_spread_Counts_Sum_A0 : ACode :=
 .region [I 4 (.alloc 121 3 (.vals [(.int .i64 0), (.int .i64 0), (.int .i64 0)])) [],
   J (.store 3) [T 4, T 9]]
def c_spread_Counts_Sum_B0 : ACode :=
 .block 1 (.region [I 10 (.load1) [T 3],
   I 11 (.fieldAddr 2) [T 4],
   I 12 (.load1) [T 11],
   I 13 (.fieldAddr 1) [T 4],
   I 14 (.load1) [T 13],
   I 15 (.fieldAddr 0) [T 4],
   I 16 (.load1) [T 15],
   I 17 (.bin .sub) [T 14, T 16],
   I 18 (.bin .mul) [T 12, T 17],
   I 19 (.bin .add) [T 10, T 18],
   J (.store 1) [T 3, T 19]])
def c_spread_Counts_Sum : AFn := ⟨21, [.tmp 2],
 .seq (.region [I 2 (.mv) [N 0]])
 (.seq (.region [I 3 (.alloc 3 1 (.vals [(.int .i64 0)])) [],
   J (.store 1) [T 3, N 0]])
 (.seq (.seq (.region [I 5 (.mv) [T 0],
   I 6 (.mv) [T 0],
   I 7 (.callv) [F 69, T 6],
   I 8 (.callv) [F 115, T 5, N 0, T 7]])
 (.block 0 (.rfun (T 8) [9] c_spread_Counts_Sum_A0 c_spread_Counts_Sum_B0)))
 (.seq (.region [I 20 (.load1) [T 3],
   I 2 (.mv) [T 20]])
 (.ret))))⟩
theorem t72 : trFn Try.prog Try.f72 = some c_spread_Counts_Sum := by kernel_rfl

/-- (*pantry/pantryref11.Counts).Sum -/
abbrev n_ref11_Counts_Sum : Nat := 73
/-- live: [3, 9, 10, 11] -/
def c_ref11_Counts_Sum_L0 : ACode :=
 .seq (.region [I 12 (.bin .lss) [T 11, T 10]])
 (.seq (.cond (T 12)
 (.skip)
 (.exit 0))
 (.seq (.block 1 (.seq (.region [I 13 (.indexs 1) [T 9, T 11],
   I 14 (.load1) [T 13],
   I 5 (.mv) [T 14]])
 (.region [I 15 (.mv) [T 3],
   I 16 (.mv) [T 5],
   I 17 (.bin .add) [T 15, T 16],
   I 3 (.mv) [T 17]])))
 (.region [I 18 (.bin .add) [T 11, N 1],
   I 11 (.mv) [T 18]])))
def c_ref11_Counts_Sum : AFn := ⟨20, [.tmp 2],
 .seq (.region [I 2 (.mv) [N 0]])
 (.seq (.region [I 3 (.mv) [N 0]])
 (.seq (.seq (.region [I 6 (.mv) [T 0],
   I 7 (.nilCheck) [T 6],
   I 8 (.fieldAddr 0) [T 7],
   I 9 (.load1) [T 8],
   I 10 (.lens) [T 9],
   I 11 (.mv) [N 0]])
 (.block 0 (.loop c_ref11_Counts_Sum_L0)))
 (.seq (.region [I 19 (.mv) [T 3],
   I 2 (.mv) [T 19]])
 (.ret))))⟩
theorem t73 : trFn Try.prog Try.f73 = some c_ref11_Counts_Sum := by kernel_rfl

/-- pantry/pantryref11.Same -/
abbrev n_ref11_Same : Nat := 74
/-- live: [0, 1, 12, 13] -/
def c_ref11_Same_L0 : ACode :=
 .seq (.region [I 14 (.bin .lss) [T 13, T 12]])
 (.seq (.cond (T 14)
 (.skip)
 (.exit 0))
 (.seq (.block 1 (.seq (.region [I 15 (.mv) [T 13],
   I 5 (.mv) [T 15]])
 (.seq (.draw [[⟨0, I 16 (.mv) [T 0], [], false⟩,
   ⟨1, I 17 (.mv) [T 5], [], false⟩,
   ⟨2, I 18 (.indexs 3) [T 16, T 17], [], false⟩,
   ⟨3, I 19 (.loadn 3) [T 18], [], false⟩,
   ⟨4, I 20 (.mv) [T 1], [], false⟩,
   ⟨5, I 21 (.mv) [T 5], [], false⟩,
   ⟨6, I 22 (.indexs 3) [T 20, T 21], [], false⟩,
   ⟨7, I 23 (.loadn 3) [T 22], [], false⟩,
   ⟨8, I 24 (.eqv true (.flat [.int, .int, .int])) [T 19, T 23], [], false⟩]])
 (.cond (T 24)
 (.seq (.region [I 4 (.mv) [.lit (.bool false)]])
  (.ret))
 (.skip)))))
 (.region [I 25 (.bin .add) [T 13, N 1],
   I 13 (.mv) [T 25]])))
def c_ref11_Same : AFn := ⟨26, [.tmp 4],
 .seq (.region [I 4 (.mv) [.lit (.bool false)]])
 (.seq (.seq (.region [I 6 (.mv) [T 0],
   I 7 (.lens) [T 6],
   I 8 (.mv) [T 1],
   I 9 (.lens) [T 8],
   I 10 (.bin .neq) [T 7, T 9]])
 (.cond (T 10)
 (.seq (.region [I 4 (.mv) [.lit (.bool false)]])
  (.ret))
 (.skip)))
 (.seq (.seq (.region [I 11 (.mv) [T 0],
   I 12 (.lens) [T 11],
   I 13 (.mv) [N 0]])
 (.block 0 (.loop c_ref11_Same_L0)))
 (.seq (.region [I 4 (.mv) [.lit (.bool true)]])
 (.ret))))⟩
theorem t74 : trFn Try.prog Try.f74 = some c_ref11_Same := by kernel_rfl

/-- (*pantry/spread.Counts).Runs -/
abbrev n_spread_Counts_Runs : Nat := 75
def c_spread_Counts_Runs : AFn := ⟨11, [.tmp 2],
 .seq (.region [I 2 (.mv) [.lit .nilsl]])
 (.seq (.seq (.region [I 3 (.mv) [T 0],
   I 4 (.callv) [F 112, T 3],
   I 5 (.un .not) [T 4]])
 (.cond (T 5)
 (.seq (.region [I 2 (.mv) [.lit .nilsl]])
  (.ret))
 (.skip)))
 (.seq (.region [I 6 (.mv) [T 0],
   I 7 (.nilCheck) [T 6],
   I 8 (.fieldAddr 0) [T 7],
   I 9 (.load1) [T 8],
   I 10 (.callv) [F 114, T 9],
   I 2 (.mv) [T 10]])
 (.ret)))⟩
theorem t75 : trFn Try.prog Try.f75 = some c_spread_Counts_Runs := by kernel_rfl

/-- (*pantry/pantryref11.Counts).Runs -/
abbrev n_ref11_Counts_Runs : Nat := 76
/-- live: [3, 10, 11, 12] -/
def c_ref11_Counts_Runs_L0 : ACode :=
 .seq (.region [I 13 (.bin .lss) [T 12, T 11]])
 (.seq (.cond (T 13)
 (.skip)
 (.exit 0))
 (.seq (.block 1 (.seq (.region [I 14 (.mv) [T 12],
   I 15 (.indexs 1) [T 10, T 12],
   I 16 (.load1) [T 15],
   I 4 (.mv) [T 14],
   I 5 (.mv) [T 16]])
 (.seq (.region [I 17 (.mv) [T 3],
   I 18 (.lens) [T 17],
   I 19 (.bin .sub) [T 18, N 1],
   I 6 (.mv) [T 19]])
 (.seq (.region [I 20 (.mv) [T 6],
   I 21 (.bin .geq) [T 20, N 0],
   I 22 (.mv) [T 21],
   IG 23 (.mv) [T 3] 22 true,
   IG 24 (.mv) [T 6] 22 true,
   IG 25 (.indexs 3) [T 23, T 24] 22 true,
   IG 26 (.fieldAddr 2) [T 25] 22 true,
   IG 27 (.load1) [T 26] 22 true,
   IG 28 (.mv) [T 5] 22 true,
   IG 29 (.bin .eql) [T 27, T 28] 22 true,
   I 30 (.pick) [T 22, T 29, .lit (.bool false)]])
 (.cond (T 30)
 (.region [I 31 (.mv) [T 3],
    I 32 (.mv) [T 6],
    I 33 (.mv) [T 4],
    I 34 (.bin .add) [T 33, N 1],
    I 35 (.indexs 3) [T 31, T 32],
    I 36 (.fieldAddr 1) [T 35],
    J (.store 1) [T 36, T 34]])
 (.region [I 37 (.mv) [T 3],
    I 38 (.mv) [T 4],
    I 39 (.mv) [T 4],
    I 40 (.bin .add) [T 39, N 1],
    I 41 (.mv) [T 5],
    I 42 (.build (.agg [(.int .i64 0), (.int .i64 0), (.int .i64 0)]) [(0, 1), (1, 1), (2, 1)]) [T 38, T 40, T 41],
    I 43 (.bslice 121 3 1 (.vals [(.int .i64 0), (.int .i64 0), (.int .i64 0)]) [0]) [T 42],
    I 44 (.append 121 3 24 (.vals [(.int .i64 0), (.int .i64 0), (.int .i64 0)])) [T 37, T 43],
    I 3 (.mv) [T 44]]))))))
 (.region [I 45 (.bin .add) [T 12, N 1],
   I 12 (.mv) [T 45]])))
def c_ref11_Counts_Runs : AFn := ⟨47, [.tmp 2],
 .seq (.region [I 2 (.mv) [.lit .nilsl]])
 (.seq (.region [I 3 (.mv) [.lit .nilsl]])
 (.seq (.seq (.region [I 7 (.mv) [T 0],
   I 8 (.nilCheck) [T 7],
   I 9 (.fieldAddr 0) [T 8],
   I 10 (.load1) [T 9],
   I 11 (.lens) [T 10],
   I 12 (.mv) [N 0]])
 (.block 0 (.loop c_ref11_Counts_Runs_L0)))
 (.seq (.region [I 46 (.mv) [T 3],
   I 2 (.mv) [T 46]])
 (.ret))))⟩
theorem t76 : trFn Try.prog Try.f76 = some c_ref11_Counts_Runs := by kernel_rfl

/-- (*pantry/spread.Counts).Copy -/
abbrev n_spread_Counts_Copy : Nat := 77
def c_spread_Counts_Copy : AFn := ⟨15, [.tmp 2],
 .seq (.region [I 2 (.mv) [.lit .nilptr]])
 (.seq (.seq (.region [I 4 (.mv) [T 0],
   I 5 (.eqv false .ptr) [T 4, .lit .nilptr]])
 (.cond (T 5)
 (.seq (.region [I 2 (.mv) [.lit .nilptr]])
  (.ret))
 (.skip)))
 (.seq (.region [I 6 (.mv) [T 0],
   I 7 (.nilCheck) [T 6],
   I 8 (.loadn 3) [T 7],
   I 3 (.alloc 126 3 (.vals [.nilsl, (.int .i64 0), (.bool false)])) [],
   J (.store 3) [T 3, T 8]])
 (.seq (.region [I 9 (.mv) [T 0],
   I 10 (.nilCheck) [T 9],
   I 11 (.fieldAddr 0) [T 10],
   I 12 (.load1) [T 11],
   I 13 (.callv) [F 114, T 12],
   I 14 (.fieldAddr 0) [T 3],
   J (.store 1) [T 14, T 13]])
 (.seq (.region [I 2 (.mv) [T 3]])
 (.ret)))))⟩
theorem t77 : trFn Try.prog Try.f77 = some c_spread_Counts_Copy := by kernel_rfl

/-- pantry/amap.New -/
abbrev n_amap_New : Nat := 78
def c_amap_New : AFn := ⟨12, [.tmp 2],
 .seq (.region [I 2 (.mv) [.lit .nilptr]])
 (.seq (.seq (.region [I 3 (.mv) [T 0],
   I 4 (.bin .lss) [T 3, N 0],
   I 5 (.mv) [T 4],
   IG 6 (.mv) [T 0] 5 false,
   IG 7 (.bin .gtr) [T 6, N 4096] 5 false,
   I 8 (.pick) [T 5, .lit (.bool true), T 7]])
 (.cond (T 8)
 (.seq (.region [I 2 (.mv) [.lit .nilptr]])
  (.ret))
 (.skip)))
 (.seq (.region [I 9 (.mv) [T 0],
   I 10 (.build (.agg [(.int .i64 0), (.bool false), .nilsl, (.int .i64 0)]) [(0, 1), (1, 1)]) [T 9, .lit (.bool true)],
   I 11 (.box 156 4) [T 10],
   I 2 (.mv) [T 11]])
 (.ret)))⟩
theorem t78 : trFn Try.prog Try.f78 = some c_amap_New := by kernel_rfl

/-- (*pantry/amap.Pool).Make -/
abbrev n_amap_Pool_Make : Nat := 79
def c_amap_Pool_Make : AFn := ⟨79, [.tmp 4, .tmp 5],
 .seq (.region [I 4 (.mv) [N 0],
   I 5 (.mv) [N 0]])
 (.seq (.block 0 (.seq (.region [I 9 (.mv) [T 0],
   I 10 (.callv) [F 117, T 9],
   I 11 (.un .not) [T 10],
   I 8 (.mv) [T 11]])
 (.cond (T 8)
 (.seq (.region [I 4 (.mv) [N 0],
    I 5 (.mv) [N 1]])
  (.ret))
 (.seq (.region [I 13 (.mv) [T 1],
    I 14 (.bin .lss) [T 13, N 1],
    I 15 (.mv) [T 14],
    IG 16 (.mv) [T 1] 15 false,
    IG 17 (.bin .gtr) [T 16, N 4096] 15 false,
    I 18 (.pick) [T 15, .lit (.bool true), T 17],
    I 12 (.mv) [T 18]])
  (.cond (T 12)
  (.seq (.region [I 4 (.mv) [N 0],
     I 5 (.mv) [N 2]])
   (.ret))
  (.seq (.draw [[⟨0, I 20 (.mv) [T 0], [], false⟩,
     ⟨1, I 21 (.nilCheck) [T 20], [], false⟩,
     ⟨2, I 22 (.fieldAddr 3) [T 21], [], false⟩,
     ⟨3, I 23 (.load1) [T 22], [], false⟩,
     ⟨4, I 24 (.mv) [T 0], [], false⟩,
     ⟨5, I 25 (.nilCheck) [T 24], [], false⟩,
     ⟨6, I 26 (.fieldAddr 0) [T 25], [], false⟩,
     ⟨7, I 27 (.load1) [T 26], [], false⟩,
     ⟨8, I 28 (.bin .geq) [T 23, T 27], [], false⟩,
     ⟨9, I 19 (.mv) [T 28], [], false⟩]])
   (.cond (T 19)
   (.seq (.region [I 4 (.mv) [N 0],
      I 5 (.mv) [N 5]])
    (.ret))
   (.skip))))))))
 (.seq (.draw [[⟨0, I 29 (.mv) [T 1], [], false⟩,
   ⟨2, I 31 (.mv) [T 1], [], false⟩,
   ⟨1, I 30 (.callv) [F 61, T 29], [], false⟩,
   ⟨3, I 32 (.mkslice 3 1 8 (.vals [(.int .i64 0)])) [T 31, T 31], [], false⟩,
   ⟨4, I 33 (.build (.agg [.nilptr, .nilsl]) [(0, 1), (1, 1)]) [T 30, T 32], [], false⟩,
   ⟨5, I 34 (.box 179 2) [T 33], [], false⟩,
   ⟨6, I 6 (.mv) [T 34], [], false⟩],
[⟨0, I 29 (.mv) [T 1], [], false⟩,
   ⟨2, I 31 (.mv) [T 1], [], false⟩,
   ⟨3, I 32 (.mkslice 3 1 8 (.vals [(.int .i64 0)])) [T 31, T 31], [], false⟩,
   ⟨1, I 30 (.callv) [F 61, T 29], [], false⟩,
   ⟨4, I 33 (.build (.agg [.nilptr, .nilsl]) [(0, 1), (1, 1)]) [T 30, T 32], [], false⟩,
   ⟨5, I 34 (.box 179 2) [T 33], [], false⟩,
   ⟨6, I 6 (.mv) [T 34], [], false⟩]])
 (.seq (.region [I 35 (.mv) [T 6],
   I 36 (.nilCheck) [T 35],
   I 37 (.fieldAddr 0) [T 36],
   I 38 (.load1) [T 37],
   I 39 (.mv) [T 1],
   I 40 (.callv) [F 66, T 38, N 0, T 39, N 1]])
 (.seq (.region [I 41 (.mv) [T 0],
   I 42 (.nilCheck) [T 41],
   I 43 (.fieldAddr 3) [T 42],
   I 44 (.load1) [T 43],
   I 45 (.bin .add) [T 44, N 1],
   I 46 (.nilCheck) [T 41],
   I 47 (.fieldAddr 3) [T 46],
   J (.store 1) [T 47, T 45]])
 (.seq (.seq (.region [I 48 (.mv) [T 0],
   I 49 (.nilCheck) [T 48],
   I 50 (.fieldAddr 2) [T 49],
   I 51 (.load1) [T 50],
   I 52 (.callv) [F 118, T 51, .lit .nilptr],
   I 7 (.mv) [T 52]])
 (.seq (.region [I 53 (.mv) [T 7],
   I 54 (.bin .geq) [T 53, N 0]])
 (.cond (T 54)
 (.seq (.region [I 55 (.mv) [T 0],
    I 56 (.nilCheck) [T 55],
    I 57 (.fieldAddr 2) [T 56],
    I 58 (.load1) [T 57],
    I 59 (.mv) [T 7],
    I 60 (.mv) [T 6],
    I 61 (.indexs 1) [T 58, T 59],
    J (.store 1) [T 61, T 60]])
  (.seq (.region [I 62 (.mv) [T 7],
    I 63 (.bin .add) [T 62, N 1],
    I 4 (.mv) [T 63],
    I 5 (.mv) [N 0]])
  (.ret)))
 (.skip))))
 (.seq (.region [I 64 (.mv) [T 0],
   I 65 (.mv) [T 0],
   I 66 (.nilCheck) [T 65],
   I 67 (.fieldAddr 2) [T 66],
   I 68 (.load1) [T 67],
   I 69 (.mv) [T 6],
   I 70 (.bslice 177 1 1 (.vals [.nilptr]) [0]) [T 69],
   I 71 (.append 177 1 8 (.vals [.nilptr])) [T 68, T 70],
   I 72 (.nilCheck) [T 64],
   I 73 (.fieldAddr 2) [T 72],
   J (.store 1) [T 73, T 71]])
 (.seq (.region [I 74 (.mv) [T 0],
   I 75 (.nilCheck) [T 74],
   I 76 (.fieldAddr 2) [T 75],
   I 77 (.load1) [T 76],
   I 78 (.lens) [T 77],
   I 4 (.mv) [T 78],
   I 5 (.mv) [N 0]])
 (.ret))))))))⟩
theorem t79 : trFn Try.prog Try.f79 = some c_amap_Pool_Make := by kernel_rfl

/-- (*pantry/amap.Pool).Set -/
abbrev n_amap_Pool_Set : Nat := 80
def c_amap_Pool_Set : AFn := ⟨48, [.tmp 8, .tmp 9],
 .seq (.region [I 8 (.mv) [N 0],
   I 9 (.mv) [N 0]])
 (.seq (.region [I 14 (.mv) [T 0],
   I 15 (.mv) [T 1],
   I 16 (.callv) [F 119, T 14, T 15],
   I 13 (.mv) [T 16],
   I 17 (.extract 0) [T 13],
   I 18 (.extract 1) [T 13],
   I 10 (.mv) [T 17],
   I 11 (.mv) [T 18]])
 (.seq (.block 0 (.seq (.region [I 20 (.mv) [T 11],
   I 21 (.bin .neq) [T 20, N 0],
   I 19 (.mv) [T 21]])
 (.cond (T 19)
 (.seq (.region [I 22 (.mv) [T 11],
    I 8 (.mv) [N 0],
    I 9 (.mv) [T 22]])
  (.ret))
 (.seq (.region [I 24 (.mv) [T 0],
    I 25 (.mv) [T 1],
    I 26 (.mv) [T 2],
    I 27 (.callv) [F 87, T 24, T 25, T 26],
    I 28 (.bin .eql) [T 27, N 0],
    I 29 (.mv) [T 28],
    IG 30 (.mv) [T 3] 29 false,
    IG 31 (.bin .lss) [T 30, N 0] 29 false,
    I 32 (.pick) [T 29, .lit (.bool true), T 31],
    I 23 (.mv) [T 32]])
  (.cond (T 23)
  (.seq (.region [I 8 (.mv) [N 0],
     I 9 (.mv) [N 2]])
   (.ret))
  (.skip))))))
 (.seq (.region [I 33 (.mv) [T 10],
   I 34 (.nilCheck) [T 33],
   I 35 (.fieldAddr 1) [T 34],
   I 36 (.load1) [T 35],
   I 37 (.mv) [T 2],
   I 38 (.indexs 1) [T 36, T 37],
   I 39 (.load1) [T 38],
   I 12 (.mv) [T 39]])
 (.seq (.region [I 40 (.mv) [T 10],
   I 41 (.nilCheck) [T 40],
   I 42 (.fieldAddr 1) [T 41],
   I 43 (.load1) [T 42],
   I 44 (.mv) [T 2],
   I 45 (.mv) [T 3],
   I 46 (.indexs 1) [T 43, T 44],
   J (.store 1) [T 46, T 45]])
 (.seq (.region [I 47 (.mv) [T 12],
   I 8 (.mv) [T 47],
   I 9 (.mv) [N 0]])
 (.ret))))))⟩
theorem t80 : trFn Try.prog Try.f80 = some c_amap_Pool_Set := by kernel_rfl

/-- (*pantry/amap.Pool).Drop -/
abbrev n_amap_Pool_Drop : Nat := 81
/-- live: [0, 1, 10, 13, 43, 44, 45] -/
def c_amap_Pool_Drop_L0 : ACode :=
 .seq (.region [I 46 (.bin .lss) [T 45, T 44]])
 (.seq (.cond (T 46)
 (.skip)
 (.exit 0))
 (.seq (.block 1 (.seq (.region [I 47 (.indexs 1) [T 43, T 45],
   I 48 (.load1) [T 47],
   I 15 (.mv) [T 48]])
 (.seq (.seq (.region [I 49 (.mv) [T 10],
   I 50 (.nilCheck) [T 49],
   I 51 (.fieldAddr 1) [T 50],
   I 52 (.load1) [T 51],
   I 53 (.mv) [T 15],
   I 54 (.indexs 1) [T 52, T 53],
   I 55 (.load1) [T 54],
   I 56 (.bin .gtr) [T 55, N 0]])
 (.cond (T 56)
 (.region [I 57 (.mv) [T 13],
    I 58 (.mv) [T 10],
    I 59 (.nilCheck) [T 58],
    I 60 (.fieldAddr 1) [T 59],
    I 61 (.load1) [T 60],
    I 62 (.mv) [T 15],
    I 63 (.indexs 1) [T 61, T 62],
    I 64 (.load1) [T 63],
    I 65 (.bslice 3 1 1 (.vals [(.int .i64 0)]) [0]) [T 64],
    I 66 (.append 3 1 8 (.vals [(.int .i64 0)])) [T 57, T 65],
    I 13 (.mv) [T 66]])
 (.skip)))
 (.region [I 67 (.mv) [T 10],
   I 68 (.nilCheck) [T 67],
   I 69 (.fieldAddr 1) [T 68],
   I 70 (.load1) [T 69],
   I 71 (.mv) [T 15],
   I 72 (.indexs 1) [T 70, T 71],
   J (.store 1) [T 72, N 0]]))))
 (.region [I 73 (.bin .add) [T 45, N 1],
   I 45 (.mv) [T 73]])))
def c_amap_Pool_Drop : AFn := ⟨95, [.tmp 8, .tmp 9],
 .seq (.region [I 8 (.mv) [.lit .nilsl],
   I 9 (.mv) [N 0]])
 (.seq (.region [I 17 (.mv) [T 0],
   I 18 (.mv) [T 1],
   I 19 (.callv) [F 119, T 17, T 18],
   I 16 (.mv) [T 19],
   I 20 (.extract 0) [T 16],
   I 21 (.extract 1) [T 16],
   I 10 (.mv) [T 20],
   I 11 (.mv) [T 21]])
 (.seq (.seq (.region [I 22 (.mv) [T 11],
   I 23 (.bin .neq) [T 22, N 0]])
 (.cond (T 23)
 (.seq (.region [I 24 (.mv) [T 11],
    I 8 (.mv) [.lit .nilsl],
    I 9 (.mv) [T 24]])
  (.ret))
 (.skip)))
 (.seq (.seq (.region [I 25 (.mv) [T 10],
   I 26 (.mv) [T 2],
   I 27 (.mv) [T 3],
   I 28 (.callv) [F 120, T 25, T 26, T 27],
   I 29 (.un .not) [T 28]])
 (.cond (T 29)
 (.seq (.region [I 8 (.mv) [.lit .nilsl],
    I 9 (.mv) [N 2]])
  (.ret))
 (.skip)))
 (.seq (.region [I 31 (.mv) [T 10],
   I 32 (.nilCheck) [T 31],
   I 33 (.fieldAddr 0) [T 32],
   I 34 (.load1) [T 33],
   I 35 (.mv) [T 2],
   I 36 (.mv) [T 3],
   I 37 (.callv) [F 66, T 34, T 35, T 36, N (-1)],
   I 30 (.mv) [T 37],
   I 38 (.extract 0) [T 30],
   I 39 (.extract 1) [T 30],
   I 12 (.mv) [T 38],
   I 11 (.mv) [T 39]])
 (.seq (.seq (.region [I 40 (.mv) [T 11],
   I 41 (.bin .neq) [T 40, N 0]])
 (.cond (T 41)
 (.seq (.region [I 42 (.mv) [T 11],
    I 8 (.mv) [.lit .nilsl],
    I 9 (.mv) [T 42]])
  (.ret))
 (.skip)))
 (.seq (.region [I 13 (.mv) [.lit .nilsl]])
 (.seq (.seq (.region [I 43 (.mv) [T 12],
   I 44 (.lens) [T 43],
   I 45 (.mv) [N 0]])
 (.block 0 (.loop c_amap_Pool_Drop_L0)))
 (.seq (.seq (.region [I 74 (.mv) [T 10],
   I 75 (.nilCheck) [T 74],
   I 76 (.fieldAddr 0) [T 75],
   I 77 (.load1) [T 76],
   I 78 (.callv) [F 72, T 77],
   I 79 (.bin .eql) [T 78, N 0]])
 (.cond (T 79)
 (.seq (.region [I 80 (.mv) [T 0],
    I 81 (.nilCheck) [T 80],
    I 82 (.fieldAddr 2) [T 81],
    I 83 (.load1) [T 82],
    I 84 (.mv) [T 1],
    I 85 (.bin .sub) [T 84, N 1],
    I 86 (.indexs 1) [T 83, T 85],
    J (.store 1) [T 86, .lit .nilptr]])
  (.region [I 87 (.mv) [T 0],
    I 88 (.nilCheck) [T 87],
    I 89 (.fieldAddr 3) [T 88],
    I 90 (.load1) [T 89],
    I 91 (.bin .sub) [T 90, N 1],
    I 92 (.nilCheck) [T 87],
    I 93 (.fieldAddr 3) [T 92],
    J (.store 1) [T 93, T 91]]))
 (.skip)))
 (.seq (.region [I 94 (.mv) [T 13],
   I 8 (.mv) [T 94],
   I 9 (.mv) [N 0]])
 (.ret))))))))))⟩
theorem t81 : trFn Try.prog Try.f81 = some c_amap_Pool_Drop := by kernel_rfl

/-- (*pantry/amap.Pool).Slots -/
abbrev n_amap_Pool_Slots : Nat := 82
def c_amap_Pool_Slots : AFn := ⟨16, [.tmp 4],
 .seq (.region [I 4 (.mv) [N 0]])
 (.seq (.seq (.region [I 6 (.mv) [T 0],
   I 7 (.mv) [T 1],
   I 8 (.callv) [F 121, T 6, T 7],
   I 5 (.mv) [T 8]])
 (.seq (.region [I 9 (.mv) [T 5],
   I 10 (.eqv true .ptr) [T 9, .lit .nilptr]])
 (.cond (T 10)
 (.seq (.region [I 11 (.mv) [T 5],
    I 12 (.nilCheck) [T 11],
    I 13 (.fieldAddr 1) [T 12],
    I 14 (.load1) [T 13],
    I 15 (.lens) [T 14],
    I 4 (.mv) [T 15]])
  (.ret))
 (.skip))))
 (.seq (.region [I 4 (.mv) [N 0]])
 (.ret)))⟩
theorem t82 : trFn Try.prog Try.f82 = some c_amap_Pool_Slots := by kernel_rfl

/-- (*pantry/amap.Pool).Get -/
abbrev n_amap_Pool_Get : Nat := 83
def c_amap_Pool_Get : AFn := ⟨25, [.tmp 6],
 .seq (.region [I 6 (.mv) [N 0]])
 (.seq (.seq (.region [I 7 (.mv) [T 2],
   I 8 (.bin .lss) [T 7, N 0],
   I 9 (.mv) [T 8],
   IG 10 (.mv) [T 2] 9 false,
   IG 11 (.mv) [T 0] 9 false,
   IG 12 (.mv) [T 1] 9 false,
   IG 13 (.callv) [F 82, T 11, T 12] 9 false,
   IG 14 (.bin .geq) [T 10, T 13] 9 false,
   I 15 (.pick) [T 9, .lit (.bool true), T 14]])
 (.cond (T 15)
 (.seq (.region [I 6 (.mv) [N 0]])
  (.ret))
 (.skip)))
 (.seq (.region [I 16 (.mv) [T 0],
   I 17 (.mv) [T 1],
   I 18 (.callv) [F 121, T 16, T 17],
   I 19 (.nilCheck) [T 18],
   I 20 (.fieldAddr 1) [T 19],
   I 21 (.load1) [T 20],
   I 22 (.mv) [T 2],
   I 23 (.indexs 1) [T 21, T 22],
   I 24 (.load1) [T 23],
   I 6 (.mv) [T 24]])
 (.ret)))⟩
theorem t83 : trFn Try.prog Try.f83 = some c_amap_Pool_Get := by kernel_rfl

/-- pantry/pantrylaw13.lives -/
abbrev n_law13_lives : Nat := 84
def c_law13_lives : AFn := ⟨60, [.tmp 0],
 .seq (.region [I 0 (.mv) [.lit (.bool false)]])
 (.seq (.region [I 9 (.callv) [F 78, N 9],
   I 1 (.mv) [T 9]])
 (.seq (.region [I 11 (.mv) [T 1],
   I 12 (.callv) [F 79, T 11, N 4],
   I 10 (.mv) [T 12],
   I 13 (.extract 0) [T 10],
   I 14 (.extract 1) [T 10],
   I 2 (.mv) [T 13],
   I 3 (.mv) [T 14]])
 (.seq (.region [I 16 (.mv) [T 1],
   I 17 (.callv) [F 80, T 16, N 1, N 2, N 9],
   I 15 (.mv) [T 17],
   I 18 (.extract 0) [T 15],
   I 19 (.extract 1) [T 15],
   I 4 (.mv) [T 18],
   I 5 (.mv) [T 19]])
 (.seq (.region [I 20 (.mv) [T 1],
   I 21 (.callv) [F 85, T 20, N 1, N 0, N 2],
   I 6 (.mv) [T 21]])
 (.seq (.region [I 23 (.mv) [T 1],
   I 24 (.callv) [F 81, T 23, N 1, N 0, N 4],
   I 22 (.mv) [T 24],
   I 25 (.extract 0) [T 22],
   I 26 (.extract 1) [T 22],
   I 7 (.mv) [T 25],
   I 8 (.mv) [T 26]])
 (.seq (.region (I 27 (.mv) [T 2] ::
   I 28 (.bin .eql) [T 27, N 1] ::
   I 29 (.mv) [T 28] ::
   IG 30 (.mv) [T 3] 29 true ::
   IG 31 (.bin .eql) [T 30, N 0] 29 true ::
   I 32 (.pick) [T 29, T 31, .lit (.bool false)] ::
   I 33 (.mv) [T 32] ::
   IG 34 (.mv) [T 5] 33 true ::
   IG 35 (.bin .eql) [T 34, N 0] 33 true ::
   I 36 (.pick) [T 33, T 35, .lit (.bool false)] ::
   I 37 (.mv) [T 36] ::
   IG 38 (.mv) [T 6] 37 true ::
   IG 39 (.bin .eql) [T 38, N 0] 37 true ::
   I 40 (.pick) [T 37, T 39, .lit (.bool false)] ::
   I 41 (.mv) [T 40] ::
   IG 42 (.mv) [T 8] 41 true ::
   IG 43 (.bin .eql) [T 42, N 0] 41 true ::
   I 44 (.pick) [T 41, T 43, .lit (.bool false)] ::
   I 45 (.mv) [T 44] ::
   IG 46 (.mv) [T 7] 45 true ::
   IG 47 (.bslice 3 1 1 (.vals [(.int .i64 0)]) [0]) [N 9] 45 true ::
   IG 48 (.callv) [F 68, T 46, T 47] 45 true ::
   I 49 (.pick) [T 45, T 48, .lit (.bool false)] ::
   I 50 (.mv) [T 49] ::
   IG 51 (.mv) [T 1] 50 true ::
   IG 52 (.callv) [F 87, T 51, N 1, N 0] 50 true ::
   IG 53 (.bin .eql) [T 52, N 1] 50 true ::
   I 54 (.pick) [T 50, T 53, .lit (.bool false)] ::
   I 55 (.mv) [T 54] ::
   IG 56 (.mv) [T 1] 55 true ::
   IG 57 (.callv) [F 87, T 56, N 1, N 2] 55 true ::
   IG 58 (.bin .eql) [T 57, N 0] 55 true ::
   I 59 (.pick) [T 55, T 58, .lit (.bool false)] ::
   I 0 (.mv) [T 59] ::
   []))
 (.ret)))))))⟩
theorem t84 : trFn Try.prog Try.f84 = some c_law13_lives := by kernel_rfl

/-- (*pantry/amap.Pool).Hold -/
abbrev n_amap_Pool_Hold : Nat := 85
/-- live: [2, 3, 9, 31, 32, 33] -/
def c_amap_Pool_Hold_L0 : ACode :=
 .seq (.region [I 34 (.bin .lss) [T 33, T 32]])
 (.seq (.cond (T 34)
 (.skip)
 (.exit 0))
 (.seq (.block 1 (.seq (.region [I 35 (.indexs 3) [T 31, T 33],
   I 36 (.loadn 3) [T 35],
   I 12 (.alloc 121 3 (.vals [(.int .i64 0), (.int .i64 0), (.int .i64 0)])) [],
   J (.store 3) [T 12, T 36]])
 (.seq (.region [I 37 (.fieldAddr 2) [T 12],
   I 38 (.load1) [T 37],
   I 39 (.bin .eql) [T 38, N 0],
   I 40 (.mv) [T 39],
   IG 41 (.fieldAddr 0) [T 12] 40 true,
   IG 42 (.load1) [T 41] 40 true,
   IG 43 (.mv) [T 3] 40 true,
   IG 44 (.bin .lss) [T 42, T 43] 40 true,
   I 45 (.pick) [T 40, T 44, .lit (.bool false)],
   I 46 (.mv) [T 45],
   IG 47 (.mv) [T 2] 46 true,
   IG 48 (.fieldAddr 1) [T 12] 46 true,
   IG 49 (.load1) [T 48] 46 true,
   IG 50 (.bin .lss) [T 47, T 49] 46 true,
   I 51 (.pick) [T 46, T 50, .lit (.bool false)]])
 (.cond (T 51)
 (.seq (.region [I 8 (.mv) [N 2]])
  (.ret))
 (.skip)))))
 (.region [I 52 (.bin .add) [T 33, N 1],
   I 33 (.mv) [T 52]])))
def c_amap_Pool_Hold : AFn := ⟨64, [.tmp 8],
 .seq (.region [I 8 (.mv) [N 0]])
 (.seq (.region [I 14 (.mv) [T 0],
   I 15 (.mv) [T 1],
   I 16 (.callv) [F 119, T 14, T 15],
   I 13 (.mv) [T 16],
   I 17 (.extract 0) [T 13],
   I 18 (.extract 1) [T 13],
   I 9 (.mv) [T 17],
   I 10 (.mv) [T 18]])
 (.seq (.seq (.region [I 19 (.mv) [T 10],
   I 20 (.bin .neq) [T 19, N 0]])
 (.cond (T 20)
 (.seq (.region [I 21 (.mv) [T 10],
    I 8 (.mv) [T 21]])
  (.ret))
 (.skip)))
 (.seq (.seq (.region [I 22 (.mv) [T 9],
   I 23 (.mv) [T 2],
   I 24 (.mv) [T 3],
   I 25 (.callv) [F 120, T 22, T 23, T 24],
   I 26 (.un .not) [T 25]])
 (.cond (T 26)
 (.seq (.region [I 8 (.mv) [N 2]])
  (.ret))
 (.skip)))
 (.seq (.seq (.region [I 27 (.mv) [T 9],
   I 28 (.nilCheck) [T 27],
   I 29 (.fieldAddr 0) [T 28],
   I 30 (.load1) [T 29],
   I 31 (.callv) [F 75, T 30],
   I 32 (.lens) [T 31],
   I 33 (.mv) [N 0]])
 (.block 0 (.loop c_amap_Pool_Hold_L0)))
 (.seq (.region [I 54 (.mv) [T 9],
   I 55 (.nilCheck) [T 54],
   I 56 (.fieldAddr 0) [T 55],
   I 57 (.load1) [T 56],
   I 58 (.mv) [T 2],
   I 59 (.mv) [T 3],
   I 60 (.callv) [F 66, T 57, T 58, T 59, N 1],
   I 53 (.mv) [T 60],
   I 61 (.extract 0) [T 53],
   I 62 (.extract 1) [T 53],
   I 10 (.mv) [T 62]])
 (.seq (.region [I 63 (.mv) [T 10],
   I 8 (.mv) [T 63]])
 (.ret)))))))⟩
theorem t85 : trFn Try.prog Try.f85 = some c_amap_Pool_Hold := by kernel_rfl

/-- (*pantry/amap.Pool).Ids -/
abbrev n_amap_Pool_Ids : Nat := 86
/-- live: [3, 12, 13, 14] -/
def c_amap_Pool_Ids_L0 : ACode :=
 .seq (.region [I 15 (.bin .lss) [T 14, T 13]])
 (.seq (.cond (T 15)
 (.skip)
 (.exit 0))
 (.seq (.block 1 (.seq (.region [I 16 (.mv) [T 14],
   I 17 (.indexs 1) [T 12, T 14],
   I 18 (.load1) [T 17],
   I 4 (.mv) [T 16],
   I 5 (.mv) [T 18]])
 (.seq (.region [I 19 (.mv) [T 5],
   I 20 (.eqv true .ptr) [T 19, .lit .nilptr]])
 (.cond (T 20)
 (.region [I 21 (.mv) [T 3],
    I 22 (.mv) [T 4],
    I 23 (.bin .add) [T 22, N 1],
    I 24 (.bslice 3 1 1 (.vals [(.int .i64 0)]) [0]) [T 23],
    I 25 (.append 3 1 8 (.vals [(.int .i64 0)])) [T 21, T 24],
    I 3 (.mv) [T 25]])
 (.skip)))))
 (.region [I 26 (.bin .add) [T 14, N 1],
   I 14 (.mv) [T 26]])))
def c_amap_Pool_Ids : AFn := ⟨28, [.tmp 2],
 .seq (.region [I 2 (.mv) [.lit .nilsl]])
 (.seq (.seq (.region [I 6 (.mv) [T 0],
   I 7 (.callv) [F 117, T 6],
   I 8 (.un .not) [T 7]])
 (.cond (T 8)
 (.seq (.region [I 2 (.mv) [.lit .nilsl]])
  (.ret))
 (.skip)))
 (.seq (.region [I 3 (.mv) [.lit .nilsl]])
 (.seq (.seq (.region [I 9 (.mv) [T 0],
   I 10 (.nilCheck) [T 9],
   I 11 (.fieldAddr 2) [T 10],
   I 12 (.load1) [T 11],
   I 13 (.lens) [T 12],
   I 14 (.mv) [N 0]])
 (.block 0 (.loop c_amap_Pool_Ids_L0)))
 (.seq (.region [I 27 (.mv) [T 3],
   I 2 (.mv) [T 27]])
 (.ret)))))⟩
theorem t86 : trFn Try.prog Try.f86 = some c_amap_Pool_Ids := by kernel_rfl

/-- (*pantry/amap.Pool).Cover -/
abbrev n_amap_Pool_Cover : Nat := 87
def c_amap_Pool_Cover : AFn := ⟨20, [.tmp 6],
 .seq (.region [I 6 (.mv) [N 0]])
 (.seq (.region [I 8 (.mv) [T 0],
   I 9 (.mv) [T 1],
   I 10 (.callv) [F 121, T 8, T 9],
   I 7 (.mv) [T 10]])
 (.seq (.seq (.region [I 11 (.mv) [T 7],
   I 12 (.eqv false .ptr) [T 11, .lit .nilptr]])
 (.cond (T 12)
 (.seq (.region [I 6 (.mv) [N 0]])
  (.ret))
 (.skip)))
 (.seq (.region [I 13 (.mv) [T 7],
   I 14 (.nilCheck) [T 13],
   I 15 (.fieldAddr 0) [T 14],
   I 16 (.load1) [T 15],
   I 17 (.mv) [T 2],
   I 18 (.callv) [F 70, T 16, T 17],
   I 19 (.max) [T 18, N 0],
   I 6 (.mv) [T 19]])
 (.ret))))⟩
theorem t87 : trFn Try.prog Try.f87 = some c_amap_Pool_Cover := by kernel_rfl

/-- (*pantry/amap.Pool).Copy -/
abbrev n_amap_Pool_Copy : Nat := 88
/-- live: [14] -/
def c_amap_Pool_Copy_A0 : ACode :=
 .region [I 16 (.mv) [T 60]]
def c_amap_Pool_Copy_B0 : ACode :=
 .block 1 (.region [I 61 (.load1) [T 14],
   I 62 (.mv) [T 16],
   I 63 (.bslice 3 1 1 (.vals [(.int .i64 0)]) [0]) [T 62],
   I 64 (.append 3 1 8 (.vals [(.int .i64 0)])) [T 61, T 63],
   J (.store 1) [T 14, T 64]])
def c_amap_Pool_Copy : AFn := ⟨67, [.tmp 8, .tmp 9, .tmp 10],
 .seq (.region [I 8 (.mv) [N 0],
   I 9 (.mv) [.lit .nilsl],
   I 10 (.mv) [N 0]])
 (.seq (.region [I 18 (.mv) [T 0],
   I 19 (.mv) [T 1],
   I 20 (.callv) [F 119, T 18, T 19],
   I 17 (.mv) [T 20],
   I 21 (.extract 0) [T 17],
   I 22 (.extract 1) [T 17],
   I 11 (.mv) [T 21],
   I 12 (.mv) [T 22]])
 (.seq (.seq (.region [I 23 (.mv) [T 12],
   I 24 (.bin .neq) [T 23, N 0]])
 (.cond (T 24)
 (.seq (.region [I 25 (.mv) [T 12],
    I 8 (.mv) [N 0],
    I 9 (.mv) [.lit .nilsl],
    I 10 (.mv) [T 25]])
  (.ret))
 (.skip)))
 (.seq (.seq (.region [I 26 (.mv) [T 11],
   I 27 (.mv) [T 2],
   I 28 (.mv) [T 3],
   I 29 (.callv) [F 120, T 26, T 27, T 28],
   I 30 (.un .not) [T 29]])
 (.cond (T 30)
 (.seq (.region [I 8 (.mv) [N 0],
    I 9 (.mv) [.lit .nilsl],
    I 10 (.mv) [N 2]])
  (.ret))
 (.skip)))
 (.seq (.region [I 32 (.mv) [T 0],
   I 33 (.mv) [T 3],
   I 34 (.mv) [T 2],
   I 35 (.bin .sub) [T 33, T 34],
   I 36 (.callv) [F 79, T 32, T 35],
   I 31 (.mv) [T 36],
   I 37 (.extract 0) [T 31],
   I 38 (.extract 1) [T 31],
   I 13 (.mv) [T 37],
   I 12 (.mv) [T 38]])
 (.seq (.seq (.region [I 39 (.mv) [T 12],
   I 40 (.bin .neq) [T 39, N 0]])
 (.cond (T 40)
 (.seq (.region [I 41 (.mv) [T 12],
    I 8 (.mv) [N 0],
    I 9 (.mv) [.lit .nilsl],
    I 10 (.mv) [T 41]])
  (.ret))
 (.skip)))
 (.seq (.draw [[⟨0, I 42 (.mv) [T 0], [], false⟩,
   ⟨1, I 43 (.mv) [T 13], [], false⟩,
   ⟨6, I 48 (.mv) [T 11], [], false⟩,
   ⟨7, I 49 (.nilCheck) [T 48], [], false⟩,
   ⟨8, I 50 (.fieldAddr 1) [T 49], [], false⟩,
   ⟨9, I 51 (.load1) [T 50], [], false⟩,
   ⟨10, I 52 (.mv) [T 2], [], false⟩,
   ⟨11, I 53 (.mv) [T 3], [], false⟩,
   ⟨12, I 54 (.slice 1 true true false) [T 51, T 52, T 53], [], false⟩,
   ⟨2, I 44 (.callv) [F 121, T 42, T 43], [(9, I 51 (.load1) [T 50])], false⟩,
   ⟨3, I 45 (.nilCheck) [T 44], [], false⟩,
   ⟨4, I 46 (.fieldAddr 1) [T 45], [], false⟩,
   ⟨5, I 47 (.load1) [T 46], [], false⟩,
   ⟨13, I 55 (.copy 1) [T 47, T 54], [], false⟩]])
 (.seq (.region [I 14 (.alloc 77 1 (.vals [.nilsl])) []])
 (.seq (.seq (.region [I 56 (.mv) [T 0],
   I 57 (.mv) [T 13],
   I 58 (.callv) [F 122, T 56, T 57]])
 (.block 0 (.rfun (T 58) [59, 60] c_amap_Pool_Copy_A0 c_amap_Pool_Copy_B0)))
 (.seq (.draw [[⟨0, I 65 (.mv) [T 13], [], false⟩,
   ⟨1, I 66 (.load1) [T 14], [], false⟩,
   ⟨2, I 8 (.mv) [T 65], [], false⟩,
   ⟨3, I 9 (.mv) [T 66], [], false⟩,
   ⟨4, I 10 (.mv) [N 0], [], false⟩]])
 (.ret))))))))))⟩
theorem t88 : trFn Try.prog Try.f88 = some c_amap_Pool_Copy := by kernel_rfl

/-- pantry/pantryref13.New -/
abbrev n_ref13_New : Nat := 89
def c_ref13_New : AFn := ⟨12, [.tmp 2],
 .seq (.region [I 2 (.mv) [.lit .nilptr]])
 (.seq (.seq (.region [I 3 (.mv) [T 0],
   I 4 (.bin .lss) [T 3, N 0],
   I 5 (.mv) [T 4],
   IG 6 (.mv) [T 0] 5 false,
   IG 7 (.bin .gtr) [T 6, N 4096] 5 false,
   I 8 (.pick) [T 5, .lit (.bool true), T 7]])
 (.cond (T 8)
 (.seq (.region [I 2 (.mv) [.lit .nilptr]])
  (.ret))
 (.skip)))
 (.seq (.region [I 9 (.mv) [T 0],
   I 10 (.build (.agg [(.int .i64 0), .nilsl]) [(0, 1)]) [T 9],
   I 11 (.box 190 2) [T 10],
   I 2 (.mv) [T 11]])
 (.ret)))⟩
theorem t89 : trFn Try.prog Try.f89 = some c_ref13_New := by kernel_rfl

/-- (*pantry/pantryref13.Pool).Make -/
abbrev n_ref13_Pool_Make : Nat := 90
/-- live: [0, 6, 38, 39, 40] -/
def c_ref13_Pool_Make_L0 : ACode :=
 .seq (.region [I 41 (.bin .lss) [T 40, T 39]])
 (.seq (.cond (T 41)
 (.skip)
 (.exit 0))
 (.seq (.block 1 (.seq (.region [I 42 (.mv) [T 40],
   I 43 (.indexs 1) [T 38, T 40],
   I 44 (.load1) [T 43],
   I 7 (.mv) [T 42],
   I 8 (.mv) [T 44]])
 (.seq (.region [I 45 (.mv) [T 8],
   I 46 (.eqv false .ptr) [T 45, .lit .nilptr]])
 (.cond (T 46)
 (.seq (.region [I 47 (.mv) [T 0],
    I 48 (.nilCheck) [T 47],
    I 49 (.fieldAddr 1) [T 48],
    I 50 (.load1) [T 49],
    I 51 (.mv) [T 7],
    I 52 (.mv) [T 6],
    I 53 (.indexs 1) [T 50, T 51],
    J (.store 1) [T 53, T 52]])
  (.seq (.region [I 54 (.mv) [T 7],
    I 55 (.bin .add) [T 54, N 1],
    I 4 (.mv) [T 55],
    I 5 (.mv) [N 0]])
  (.ret)))
 (.skip)))))
 (.region [I 56 (.bin .add) [T 40, N 1],
   I 40 (.mv) [T 56]])))
def c_ref13_Pool_Make : AFn := ⟨72, [.tmp 4, .tmp 5],
 .seq (.region [I 4 (.mv) [N 0],
   I 5 (.mv) [N 0]])
 (.seq (.seq (.region [I 9 (.mv) [T 1],
   I 10 (.bin .lss) [T 9, N 1],
   I 11 (.mv) [T 10],
   IG 12 (.mv) [T 1] 11 false,
   IG 13 (.bin .gtr) [T 12, N 4096] 11 false,
   I 14 (.pick) [T 11, .lit (.bool true), T 13]])
 (.cond (T 14)
 (.seq (.region [I 4 (.mv) [N 0],
    I 5 (.mv) [N 2]])
  (.ret))
 (.skip)))
 (.seq (.seq (.draw [[⟨0, I 15 (.mv) [T 0], [], false⟩,
   ⟨3, I 18 (.mv) [T 0], [], false⟩,
   ⟨4, I 19 (.nilCheck) [T 18], [], false⟩,
   ⟨5, I 20 (.fieldAddr 0) [T 19], [], false⟩,
   ⟨6, I 21 (.load1) [T 20], [], false⟩,
   ⟨1, I 16 (.callv) [F 99, T 15], [(6, I 21 (.load1) [T 20])], false⟩,
   ⟨2, I 17 (.lens) [T 16], [], false⟩,
   ⟨7, I 22 (.bin .geq) [T 17, T 21], [], false⟩]])
 (.cond (T 22)
 (.seq (.region [I 4 (.mv) [N 0],
    I 5 (.mv) [N 5]])
  (.ret))
 (.skip)))
 (.seq (.draw [[⟨0, I 23 (.mv) [T 1], [], false⟩,
   ⟨2, I 25 (.mv) [T 1], [], false⟩,
   ⟨1, I 24 (.callv) [F 62, T 23], [], false⟩,
   ⟨3, I 26 (.mkslice 3 1 8 (.vals [(.int .i64 0)])) [T 25, T 25], [], false⟩,
   ⟨4, I 27 (.build (.agg [.nilptr, .nilsl]) [(0, 1), (1, 1)]) [T 24, T 26], [], false⟩,
   ⟨5, I 28 (.box 151 2) [T 27], [], false⟩,
   ⟨6, I 6 (.mv) [T 28], [], false⟩],
[⟨0, I 23 (.mv) [T 1], [], false⟩,
   ⟨2, I 25 (.mv) [T 1], [], false⟩,
   ⟨3, I 26 (.mkslice 3 1 8 (.vals [(.int .i64 0)])) [T 25, T 25], [], false⟩,
   ⟨1, I 24 (.callv) [F 62, T 23], [], false⟩,
   ⟨4, I 27 (.build (.agg [.nilptr, .nilsl]) [(0, 1), (1, 1)]) [T 24, T 26], [], false⟩,
   ⟨5, I 28 (.box 151 2) [T 27], [], false⟩,
   ⟨6, I 6 (.mv) [T 28], [], false⟩]])
 (.seq (.region [I 29 (.mv) [T 6],
   I 30 (.nilCheck) [T 29],
   I 31 (.fieldAddr 0) [T 30],
   I 32 (.load1) [T 31],
   I 33 (.mv) [T 1],
   I 34 (.callv) [F 67, T 32, N 0, T 33, N 1]])
 (.seq (.seq (.region [I 35 (.mv) [T 0],
   I 36 (.nilCheck) [T 35],
   I 37 (.fieldAddr 1) [T 36],
   I 38 (.load1) [T 37],
   I 39 (.lens) [T 38],
   I 40 (.mv) [N 0]])
 (.block 0 (.loop c_ref13_Pool_Make_L0)))
 (.seq (.region [I 57 (.mv) [T 0],
   I 58 (.mv) [T 0],
   I 59 (.nilCheck) [T 58],
   I 60 (.fieldAddr 1) [T 59],
   I 61 (.load1) [T 60],
   I 62 (.mv) [T 6],
   I 63 (.bslice 148 1 1 (.vals [.nilptr]) [0]) [T 62],
   I 64 (.append 148 1 8 (.vals [.nilptr])) [T 61, T 63],
   I 65 (.nilCheck) [T 57],
   I 66 (.fieldAddr 1) [T 65],
   J (.store 1) [T 66, T 64]])
 (.seq (.region [I 67 (.mv) [T 0],
   I 68 (.nilCheck) [T 67],
   I 69 (.fieldAddr 1) [T 68],
   I 70 (.load1) [T 69],
   I 71 (.lens) [T 70],
   I 4 (.mv) [T 71],
   I 5 (.mv) [N 0]])
 (.ret))))))))⟩
theorem t90 : trFn Try.prog Try.f90 = some c_ref13_Pool_Make := by kernel_rfl

/-- (*pantry/pantryref13.Pool).Set -/
abbrev n_ref13_Pool_Set : Nat := 91
def c_ref13_Pool_Set : AFn := ⟨40, [.tmp 8, .tmp 9],
 .seq (.region [I 8 (.mv) [N 0],
   I 9 (.mv) [N 0]])
 (.seq (.block 0 (.seq (.region [I 12 (.mv) [T 0],
   I 13 (.mv) [T 1],
   I 14 (.callv) [F 95, T 12, T 13],
   I 15 (.eqv false .ptr) [T 14, .lit .nilptr],
   I 11 (.mv) [T 15]])
 (.cond (T 11)
 (.seq (.region [I 8 (.mv) [N 0],
    I 9 (.mv) [N 7]])
  (.ret))
 (.seq (.region [I 17 (.mv) [T 0],
    I 18 (.mv) [T 1],
    I 19 (.mv) [T 2],
    I 20 (.callv) [F 97, T 17, T 18, T 19],
    I 21 (.bin .eql) [T 20, N 0],
    I 22 (.mv) [T 21],
    IG 23 (.mv) [T 3] 22 false,
    IG 24 (.bin .lss) [T 23, N 0] 22 false,
    I 25 (.pick) [T 22, .lit (.bool true), T 24],
    I 16 (.mv) [T 25]])
  (.cond (T 16)
  (.seq (.region [I 8 (.mv) [N 0],
     I 9 (.mv) [N 2]])
   (.ret))
  (.skip))))))
 (.seq (.region [I 26 (.mv) [T 0],
   I 27 (.mv) [T 1],
   I 28 (.mv) [T 2],
   I 29 (.callv) [F 98, T 26, T 27, T 28],
   I 10 (.mv) [T 29]])
 (.seq (.region [I 30 (.mv) [T 0],
   I 31 (.mv) [T 1],
   I 32 (.callv) [F 95, T 30, T 31],
   I 33 (.nilCheck) [T 32],
   I 34 (.fieldAddr 1) [T 33],
   I 35 (.load1) [T 34],
   I 36 (.mv) [T 2],
   I 37 (.mv) [T 3],
   I 38 (.indexs 1) [T 35, T 36],
   J (.store 1) [T 38, T 37]])
 (.seq (.region [I 39 (.mv) [T 10],
   I 8 (.mv) [T 39],
   I 9 (.mv) [N 0]])
 (.ret)))))⟩
theorem t91 : trFn Try.prog Try.f91 = some c_ref13_Pool_Set := by kernel_rfl

/-- (*pantry/pantryref13.Pool).Hold -/
abbrev n_ref13_Pool_Hold : Nat := 92
/-- live: [2, 3, 9, 10] -/
def c_ref13_Pool_Hold_L0 : ACode :=
 .seq (.seq (.region [I 35 (.mv) [T 10],
   I 36 (.mv) [T 3],
   I 37 (.bin .lss) [T 35, T 36]])
 (.cond (T 37)
 (.skip)
 (.exit 0)))
 (.seq (.block 1 (.seq (.region [I 40 (.mv) [T 9],
   I 41 (.nilCheck) [T 40],
   I 42 (.fieldAddr 0) [T 41],
   I 43 (.load1) [T 42],
   I 44 (.mv) [T 10],
   I 45 (.callv) [F 71, T 43, T 44],
   I 46 (.bin .eql) [T 45, N 0]])
 (.cond (T 46)
 (.seq (.region [I 8 (.mv) [N 2]])
  (.ret))
 (.skip))))
 (.region [I 38 (.mv) [T 10],
   I 39 (.bin .add) [T 38, N 1],
   I 10 (.mv) [T 39]]))
def c_ref13_Pool_Hold : AFn := ⟨58, [.tmp 8],
 .seq (.region [I 8 (.mv) [N 0]])
 (.seq (.region [I 13 (.mv) [T 0],
   I 14 (.mv) [T 1],
   I 15 (.callv) [F 95, T 13, T 14],
   I 9 (.mv) [T 15]])
 (.seq (.seq (.region [I 16 (.mv) [T 9],
   I 17 (.eqv false .ptr) [T 16, .lit .nilptr]])
 (.cond (T 17)
 (.seq (.region [I 8 (.mv) [N 7]])
  (.ret))
 (.skip)))
 (.seq (.seq (.region [I 18 (.mv) [T 2],
   I 19 (.bin .lss) [T 18, N 0],
   I 20 (.mv) [T 19],
   IG 21 (.mv) [T 2] 20 false,
   IG 22 (.mv) [T 3] 20 false,
   IG 23 (.bin .geq) [T 21, T 22] 20 false,
   I 24 (.pick) [T 20, .lit (.bool true), T 23],
   I 25 (.mv) [T 24],
   IG 26 (.mv) [T 3] 25 false,
   IG 27 (.mv) [T 9] 25 false,
   IG 28 (.nilCheck) [T 27] 25 false,
   IG 29 (.fieldAddr 1) [T 28] 25 false,
   IG 30 (.load1) [T 29] 25 false,
   IG 31 (.lens) [T 30] 25 false,
   IG 32 (.bin .gtr) [T 26, T 31] 25 false,
   I 33 (.pick) [T 25, .lit (.bool true), T 32]])
 (.cond (T 33)
 (.seq (.region [I 8 (.mv) [N 2]])
  (.ret))
 (.skip)))
 (.seq (.seq (.region [I 34 (.mv) [T 2],
   I 10 (.mv) [T 34]])
 (.block 0 (.loop c_ref13_Pool_Hold_L0)))
 (.seq (.region [I 48 (.mv) [T 9],
   I 49 (.nilCheck) [T 48],
   I 50 (.fieldAddr 0) [T 49],
   I 51 (.load1) [T 50],
   I 52 (.mv) [T 2],
   I 53 (.mv) [T 3],
   I 54 (.callv) [F 67, T 51, T 52, T 53, N 1],
   I 47 (.mv) [T 54],
   I 55 (.extract 0) [T 47],
   I 56 (.extract 1) [T 47],
   I 11 (.mv) [T 55],
   I 12 (.mv) [T 56]])
 (.seq (.region [I 57 (.mv) [T 12],
   I 8 (.mv) [T 57]])
 (.ret)))))))⟩
theorem t92 : trFn Try.prog Try.f92 = some c_ref13_Pool_Hold := by kernel_rfl

/-- (*pantry/pantryref13.Pool).Drop -/
abbrev n_ref13_Pool_Drop : Nat := 93
/-- live: [0, 1, 10, 13, 50, 51, 52] -/
def c_ref13_Pool_Drop_L0 : ACode :=
 .seq (.region [I 53 (.bin .lss) [T 52, T 51]])
 (.seq (.cond (T 53)
 (.skip)
 (.exit 0))
 (.seq (.block 1 (.seq (.region [I 54 (.indexs 1) [T 50, T 52],
   I 55 (.load1) [T 54],
   I 15 (.mv) [T 55]])
 (.seq (.seq (.region [I 56 (.mv) [T 10],
   I 57 (.nilCheck) [T 56],
   I 58 (.fieldAddr 1) [T 57],
   I 59 (.load1) [T 58],
   I 60 (.mv) [T 15],
   I 61 (.indexs 1) [T 59, T 60],
   I 62 (.load1) [T 61],
   I 63 (.bin .neq) [T 62, N 0]])
 (.cond (T 63)
 (.region [I 64 (.mv) [T 13],
    I 65 (.mv) [T 10],
    I 66 (.nilCheck) [T 65],
    I 67 (.fieldAddr 1) [T 66],
    I 68 (.load1) [T 67],
    I 69 (.mv) [T 15],
    I 70 (.indexs 1) [T 68, T 69],
    I 71 (.load1) [T 70],
    I 72 (.bslice 3 1 1 (.vals [(.int .i64 0)]) [0]) [T 71],
    I 73 (.append 3 1 8 (.vals [(.int .i64 0)])) [T 64, T 72],
    I 13 (.mv) [T 73]])
 (.skip)))
 (.region [I 74 (.mv) [T 10],
   I 75 (.nilCheck) [T 74],
   I 76 (.fieldAddr 1) [T 75],
   I 77 (.load1) [T 76],
   I 78 (.mv) [T 15],
   I 79 (.indexs 1) [T 77, T 78],
   J (.store 1) [T 79, N 0]]))))
 (.region [I 80 (.bin .add) [T 52, N 1],
   I 52 (.mv) [T 80]])))
def c_ref13_Pool_Drop : AFn := ⟨95, [.tmp 8, .tmp 9],
 .seq (.region [I 8 (.mv) [.lit .nilsl],
   I 9 (.mv) [N 0]])
 (.seq (.region [I 16 (.mv) [T 0],
   I 17 (.mv) [T 1],
   I 18 (.callv) [F 95, T 16, T 17],
   I 10 (.mv) [T 18]])
 (.seq (.seq (.region [I 19 (.mv) [T 10],
   I 20 (.eqv false .ptr) [T 19, .lit .nilptr]])
 (.cond (T 20)
 (.seq (.region [I 8 (.mv) [.lit .nilsl],
    I 9 (.mv) [N 7]])
  (.ret))
 (.skip)))
 (.seq (.seq (.region [I 21 (.mv) [T 2],
   I 22 (.bin .lss) [T 21, N 0],
   I 23 (.mv) [T 22],
   IG 24 (.mv) [T 2] 23 false,
   IG 25 (.mv) [T 3] 23 false,
   IG 26 (.bin .geq) [T 24, T 25] 23 false,
   I 27 (.pick) [T 23, .lit (.bool true), T 26],
   I 28 (.mv) [T 27],
   IG 29 (.mv) [T 3] 28 false,
   IG 30 (.mv) [T 10] 28 false,
   IG 31 (.nilCheck) [T 30] 28 false,
   IG 32 (.fieldAddr 1) [T 31] 28 false,
   IG 33 (.load1) [T 32] 28 false,
   IG 34 (.lens) [T 33] 28 false,
   IG 35 (.bin .gtr) [T 29, T 34] 28 false,
   I 36 (.pick) [T 28, .lit (.bool true), T 35]])
 (.cond (T 36)
 (.seq (.region [I 8 (.mv) [.lit .nilsl],
    I 9 (.mv) [N 2]])
  (.ret))
 (.skip)))
 (.seq (.region [I 38 (.mv) [T 10],
   I 39 (.nilCheck) [T 38],
   I 40 (.fieldAddr 0) [T 39],
   I 41 (.load1) [T 40],
   I 42 (.mv) [T 2],
   I 43 (.mv) [T 3],
   I 44 (.callv) [F 67, T 41, T 42, T 43, N (-1)],
   I 37 (.mv) [T 44],
   I 45 (.extract 0) [T 37],
   I 46 (.extract 1) [T 37],
   I 11 (.mv) [T 45],
   I 12 (.mv) [T 46]])
 (.seq (.seq (.region [I 47 (.mv) [T 12],
   I 48 (.bin .neq) [T 47, N 0]])
 (.cond (T 48)
 (.seq (.region [I 49 (.mv) [T 12],
    I 8 (.mv) [.lit .nilsl],
    I 9 (.mv) [T 49]])
  (.ret))
 (.skip)))
 (.seq (.region [I 13 (.mv) [.lit .nilsl]])
 (.seq (.seq (.region [I 50 (.mv) [T 11],
   I 51 (.lens) [T 50],
   I 52 (.mv) [N 0]])
 (.block 0 (.loop c_ref13_Pool_Drop_L0)))
 (.seq (.seq (.region [I 81 (.mv) [T 10],
   I 82 (.nilCheck) [T 81],
   I 83 (.fieldAddr 0) [T 82],
   I 84 (.load1) [T 83],
   I 85 (.callv) [F 73, T 84],
   I 86 (.bin .eql) [T 85, N 0]])
 (.cond (T 86)
 (.region [I 87 (.mv) [T 0],
    I 88 (.nilCheck) [T 87],
    I 89 (.fieldAddr 1) [T 88],
    I 90 (.load1) [T 89],
    I 91 (.mv) [T 1],
    I 92 (.bin .sub) [T 91, N 1],
    I 93 (.indexs 1) [T 90, T 92],
    J (.store 1) [T 93, .lit .nilptr]])
 (.skip)))
 (.seq (.region [I 94 (.mv) [T 13],
   I 8 (.mv) [T 94],
   I 9 (.mv) [N 0]])
 (.ret))))))))))⟩
theorem t93 : trFn Try.prog Try.f93 = some c_ref13_Pool_Drop := by kernel_rfl

/-- (*pantry/pantryref13.Pool).Copy -/
abbrev n_ref13_Pool_Copy : Nat := 94
end Go.Proofs.Ytjdemlagmamlbaa
